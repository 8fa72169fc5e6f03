/- The walks of TreeList, of the program and of the reference. The walk of the law that every refusal is exact: FnTreeCode. Conditions: each theorem's own. -/
import Derived.Test.YtakbngafhogcbaaGreatDoorB4
import Derived.Test.YtakbngafhogcbaaGreatDoorB3
import Derived.Deep.Onto
import Derived.Test.YtakbngafhogcbaaGreatDoorB6
namespace Go.Proofs.YtakbngafhogcbaaGreatDoor
open Go.RowKit
/-- What TreeList tells: the names and the code. -/
def MadeSc (L : List Bs) (m : Nat) (w : World) (e : Ending) (w' : World) : Prop :=
  ∃ (v : Value) (ss : List ByteArray), e = .returned (.tuple #[v, .int .i64 m]) ∧ ss.map (·.data.toList) = L ∧ w'.ownsRow w.heap.size 9 1 v ss.length (ss.map Value.string) ∧ Below w.heap.size w w'
open Classical in
noncomputable def tlistC (t : List PE) (q : Bs) : Nat := if TOk t ∧ (q = [47] ∨ pathOkL q = true) then (if q = [47] then 0 else match getL t q with
  | none => 2
  | some e => if e.d then 0 else 3) else 1
noncomputable def tlistL (t : List PE) (q : Bs) : List Bs := if tlistC t q = 0 then kidsL t q else []
theorem tlist_bad {t : List PE} {q : Bs} (h : ¬ (TOk t ∧ (q = [47] ∨ pathOkL q = true))) : tlistC t q = 1 ∧ tlistL t q = [] := by
  have h1 : tlistC t q = 1 := by unfold tlistC; rw [if_neg h]
  exact ⟨h1, by unfold tlistL; rw [h1]; rfl⟩
theorem tlist_ok {xs : List En} {q : ByteArray} (h : TOk (xs.map En.pl)) (hq : q.data.toList = [47] ∨ pathOkL q.data.toList = true) : tlistC (xs.map En.pl) q.data.toList = upC (lgetE xs q) := by
  unfold tlistC lgetE
  rw [if_pos ⟨h, hq⟩]
  by_cases hr : q.data.toList = [47]
  · rw [if_pos hr, if_pos hr]; rfl
  · rw [if_neg hr, if_neg hr, getE_pl]
    cases getE xs q <;> rfl
theorem tlist_0 {t : List PE} {q : Bs} (h : tlistC t q = 0) : tlistL t q = kidsL t q := by unfold tlistL; rw [if_pos h]
theorem tlist_n {t : List PE} {q : Bs} {m : Nat} (h : tlistC t q = m) (hm : m ≠ 0) : tlistL t q = [] := by unfold tlistL; rw [h, if_neg hm]
set_option maxRecDepth 100000 in
set_option maxHeartbeats 8000000 in
theorem treeList_c (a : Option Addr) (c : Nat) (xs : List En) (q : ByteArray) (w : World) (hs : SlF En.cells w a xs) (hxm : xs.length ≤ maxLen) (hq : q.size ≤ maxLen) (hz : ∀ e ∈ xs, e.p.size ≤ maxLen ∧ e.x.size ≤ maxLen) :
    Calls Tryz.prog 24 #[.slice a xs.length c, .string q] w (MadeSc (tlistL (xs.map En.pl) q.data.toList) (tlistC (xs.map En.pl) q.data.toList) w) := by
  have hb := Below.refl w.heap.size w
  have hx16 : TOk (xs.map En.pl) → xs.length ≤ 16 := fun h => by have := h.most; rw [List.length_map] at this; exact this
  obtain ⟨r, hr⟩ := tok_dec xs
  obtain ⟨m, hm⟩ : ∃ m, tlistC (xs.map En.pl) q.data.toList = m := ⟨_, rfl⟩
  obtain ⟨L, hL⟩ : ∃ L, tlistL (xs.map En.pl) q.data.toList = L := ⟨_, rfl⟩
  obtain ⟨o, ho⟩ : ∃ o, tgetE xs q = o := ⟨_, rfl⟩
  have HT := Lib.hid (treeOk_c a c xs r (Lib.hid hr) w hs hxm hz)
  have HG := fun W (h : SlF En.cells W a xs) => Lib.hid (treeGet_c a c xs q o (Lib.hid ho) W h hxm hz)
  have HM := Lib.hid hm
  have HL := Lib.hid hL
  have HO := Lib.hid ho
  have HS := Lib.hid hs
  have HZ := Lib.hid hz
  have HQ := Lib.hid hq
  have HE := strElt
  rw [hm, hL]
  obtain ⟨n, hn⟩ : ∃ n, xs.length = n := ⟨_, rfl⟩
  have HN := Lib.hid hn
  have HALL : Hid (xs.take n = xs) := by rw [Hid, ← hn, List.take_length]
  rw [hn] at HT HG hx16 ⊢
  have GG := Lib.hid HG
  clear hn hm hL ho hs hz hxm HG hq
  cases r with
  | false =>
    have hbad := tlist_bad (q := q.data.toList) (t := xs.map En.pl) (fun h => by have := hr.2 h.1; cases this)
    obtain rfl : m = 1 := HM.out.symm.trans hbad.1
    have HLL : Hid (L = []) := HL.out.symm.trans hbad.2
    clear hr hbad hx16
    go_enter Tryz.func24, Tryz.ntmps24
    go_wp2_with fail
    refine (HT.out).mono ?_; rintro e W ⟨rfl, hq⟩; replace hb := chn hb hq; clear hq
    go_wp2
    go_ret2
    exact ⟨_, [], rfl, HLL.out.symm, World.ownsRow_nil _ _ _ _, by repeat (first | exact hb | refine Below.alloc ?_ (by have := hb.size; simp; try omega) _)⟩
  | true =>
  by_cases hqr : q.data.toList ≠ [47] ∧ pathOkL q.data.toList = false
  · have hbad := tlist_bad (q := q.data.toList) (t := xs.map En.pl) (fun h => by rcases h.2 with h2 | h2; exact hqr.1 h2; rw [hqr.2] at h2; cases h2)
    obtain rfl : m = 1 := HM.out.symm.trans hbad.1
    have HLL : Hid (L = []) := HL.out.symm.trans hbad.2
    have q1 := beq_no hqr.1
    have HP := Lib.hid hqr.2
    clear hr hbad hqr hx16
    go_enter Tryz.func24, Tryz.ntmps24
    go_wp2_with fail
    refine (HT.out).mono ?_; rintro e W ⟨rfl, hq⟩; replace hb := chn hb hq; clear hq
    go_wp2_with fail
    refine (pathOk_c q false HP _ HQ.out).mono ?_; rintro e W ⟨rfl, hq⟩; replace hb := chn hb hq; clear hq
    go_wp2
    go_ret2
    exact ⟨_, [], rfl, HLL.out.symm, World.ownsRow_nil _ _ _ _, by repeat (first | exact hb | refine Below.alloc ?_ (by have := hb.size; simp; try omega) _)⟩
  have hqo : q.data.toList = [47] ∨ pathOkL q.data.toList = true := by
    by_cases h1 : q.data.toList = [47]
    · exact .inl h1
    · right
      cases h2 : pathOkL q.data.toList with
      | true => rfl
      | false => exact absurd ⟨h1, h2⟩ hqr
  have HMO : Hid (m = upC o) := by rw [Hid, ← HM.out, tlist_ok (hr.1 rfl) hqo, ← tget_ok q (hr.1 rfl), HO.out]
  have HPQ : Hid (q.data.toList = [47] ∨ (q.data.toList ≠ [47] ∧ pathOkL q.data.toList = true)) := by
    by_cases h1 : q.data.toList = [47]
    · exact .inl h1
    · exact .inr ⟨h1, hqo.resolve_left h1⟩
  have hx : n ≤ 16 := hx16 (hr.1 rfl)
  clear hqr hqo hr hx16
  rcases HPQ.out with hqq | ⟨hqq, hpp⟩
  · have q1 := beq_yes hqq
    clear hqq
    go_enter Tryz.func24, Tryz.ntmps24
    go_wp2_with fail
    refine (HT.out).mono ?_; rintro e W ⟨rfl, hq⟩; replace hb := chn hb hq; clear hq
    cases o with
    | none =>
      obtain rfl : m = 2 := HMO.out
      have HLL : Hid (L = []) := HL.out.symm.trans (tlist_n HM.out (by decide))
      go_wp2_with fail
      refine ((GG.out _ (HS.out.below hb)).out).mono ?_; rintro e W ⟨rfl, hq⟩; replace hb := chn hb hq; clear hq
      go_wp2
      go_ret2
      exact ⟨_, [], rfl, HLL.out.symm, World.ownsRow_nil _ _ _ _, by repeat (first | exact hb | refine Below.alloc ?_ (by have := hb.size; simp; try omega) _)⟩
    | some d =>
      obtain ⟨dp, dd, dx⟩ := d
      cases dd with
      | false =>
        obtain rfl : m = 3 := HMO.out
        have HLL : Hid (L = []) := HL.out.symm.trans (tlist_n HM.out (by decide))
        go_wp2_with fail
        refine ((GG.out _ (HS.out.below hb)).out).mono ?_; rintro e W ⟨rfl, hq⟩; replace hb := chn hb hq; clear hq
        go_wp2
        go_ret2
        exact ⟨_, [], rfl, HLL.out.symm, World.ownsRow_nil _ _ _ _, by repeat (first | exact hb | refine Below.alloc ?_ (by have := hb.size; simp; try omega) _)⟩
      | true =>
        obtain rfl : m = 0 := HMO.out
        have HLL : Hid (L = kidsL (xs.map En.pl) q.data.toList) := HL.out.symm.trans (tlist_0 HM.out)
        go_wp2_with fail
        refine ((GG.out _ (HS.out.below hb)).out).mono ?_; rintro e W ⟨rfl, hq⟩; replace hb := chn hb hq; clear hq
        have hb0 := hb.alloc hb.size (.cells #[.string dp, .bool true, .string dx] 31)
        have HB0 := Lib.hid hb0
        clear hb0
        go_wp2
        go_loopw [8, 10, 36] (fun v _ i wr => ∃ (k : Nat) (ss : List ByteArray), k ≤ n ∧ i = .int .i64 k ∧ ss.map (·.data.toList) = kidsL ((xs.take k).map En.pl) q.data.toList ∧ wr.ownsRow w.heap.size 9 1 v ss.length (ss.map Value.string) ∧ Below w.heap.size w wr) (fun _ _ i _ => n - (intOf i).toNat)
        case atStart => exact ⟨0, [], Nat.zero_le _, rfl, rfl, World.ownsRow_nil _ _ _ _, HB0.out⟩
        case round =>
          clear hb
          obtain ⟨k, ss, hk, rfl, hss, hown, hb⟩ := hrel
          have HSS := Lib.hid hss
          clear hss
          by_cases hlt : k < n
          · skip
            obtain ⟨e, hee⟩ : ∃ e, xs[k]? = some e := ⟨_, List.getElem?_eq_getElem (by rw [HN.out]; exact hlt)⟩
            have hzz := HZ.out e (List.mem_of_getElem? hee)
            have h2 := HS.out.below hb
            obtain ⟨b, off, rfl, _⟩ := h2.addr (by rw [HN.out]; omega)
            obtain ⟨d0, d1, d2⟩ := en_at h2 k e hee
            have HSN : Hid (kidsL ((xs.take (k + 1)).map En.pl) q.data.toList = kidsL ((xs.take k).map En.pl) q.data.toList ++ if upL e.p.data.toList = q.data.toList then [nameL e.p.data.toList] else []) := by rw [Hid, take_pl xs k e hee, kids_snoc]; rfl
            have hsl : ss.length ≤ k := by
              have h3 := congrArg List.length HSS.out
              have h4 := kids_len ((xs.take k).map En.pl) q.data.toList
              simp only [List.length_map, List.length_take] at h3 h4
              omega
            obtain ⟨ep, ed, ex⟩ := e
            obtain ⟨u, hu, hus⟩ := up_str20 ep
            obtain ⟨m, hm⟩ := name_str20 ep
            clear h2 hee
            have c0 := new_cell wr #[.string ep, .bool ed, .string ex] 31 0 (.string ep) rfl
            have hown0 := hown.alloc (.cells #[.string ep, .bool ed, .string ex] 31)
            replace hb := hb.alloc hb.size (.cells #[.string ep, .bool ed, .string ex] 31)
            clear hown
            by_cases hq : u.data.toList = q.data.toList
            · have q1 := beqs_yes hq
              have HSM : Hid ((ss ++ [m]).map (·.data.toList) = kidsL ((xs.take (k + 1)).map En.pl) q.data.toList) := by
                rw [Hid, HSN.out, if_pos (by rw [hu.out]; exact hq), List.map_append, HSS.out, hm.out]; rfl
              clear hq
              go_wp2_with fail
              refine (pathUp_c ep u hu _ hzz.1).mono ?_; rintro e W ⟨rfl, hq⟩; replace hb := chn hb hq; replace c0 := keepc hq c0; replace hown0 := own_below hown0 hq; clear hq
              go_wp2_with fail
              refine (pathName_c ep m hm _ hzz.1).mono ?_; rintro e W ⟨rfl, hq⟩; replace hb := chn hb hq; replace hown0 := own_below hown0 hq; clear hq
              go_wp2_with (at_builtin; go_must (refine wp_app1 (by rfl) _ _ 41 (by rfl) HE w.heap.size w.heap.size w _ #[.string m] _ _ _ (by rfl) (by rfl) hown0 (by rfl) (by simp [Value.oneCell']) (by omega) hb.size hb (Nat.le_refl _) ?_); intro v' w1 hown1 hbel1 _ _)
              go_roundw
              case rel => exact ⟨k + 1, ss ++ [m], by omega, by go_num, HSM.out, by simpa using hown1, hbel1⟩
              case measure => simp [intOf]; omega
            · have q1 := beqs_no hq
              have HSM : Hid (ss.map (·.data.toList) = kidsL ((xs.take (k + 1)).map En.pl) q.data.toList) := by
                rw [Hid, HSN.out, if_neg (by rw [hu.out]; exact hq), List.append_nil]; exact HSS.out
              clear hq
              go_wp2_with fail
              refine (pathUp_c ep u hu _ hzz.1).mono ?_; rintro e W ⟨rfl, hq⟩; replace hb := chn hb hq; replace hown0 := own_below hown0 hq; clear hq
              go_wp2
              go_roundw
              case rel => exact ⟨k + 1, ss, by omega, by go_num, HSM.out, hown0, hb⟩
              case measure => simp [intOf]; omega
          · obtain rfl : k = n := by omega
            have HF : Hid (ss.map (·.data.toList) = L) := by rw [Hid, HSS.out, HALL.out, HLL.out]
            go_wp2
            go_ret2
            exact ⟨_, ss, rfl, HF.out, hown, hb⟩
  · have q1 := beq_no hqq
    have HP := Lib.hid hpp
    clear hqq hpp
    go_enter Tryz.func24, Tryz.ntmps24
    go_wp2_with fail
    refine (HT.out).mono ?_; rintro e W ⟨rfl, hq⟩; replace hb := chn hb hq; clear hq
    go_wp2_with fail
    refine (pathOk_c q true HP _ HQ.out).mono ?_; rintro e W ⟨rfl, hq⟩; replace hb := chn hb hq; clear hq
    cases o with
    | none =>
      obtain rfl : m = 2 := HMO.out
      have HLL : Hid (L = []) := HL.out.symm.trans (tlist_n HM.out (by decide))
      go_wp2_with fail
      refine ((GG.out _ (HS.out.below hb)).out).mono ?_; rintro e W ⟨rfl, hq⟩; replace hb := chn hb hq; clear hq
      go_wp2
      go_ret2
      exact ⟨_, [], rfl, HLL.out.symm, World.ownsRow_nil _ _ _ _, by repeat (first | exact hb | refine Below.alloc ?_ (by have := hb.size; simp; try omega) _)⟩
    | some d =>
      obtain ⟨dp, dd, dx⟩ := d
      cases dd with
      | false =>
        obtain rfl : m = 3 := HMO.out
        have HLL : Hid (L = []) := HL.out.symm.trans (tlist_n HM.out (by decide))
        go_wp2_with fail
        refine ((GG.out _ (HS.out.below hb)).out).mono ?_; rintro e W ⟨rfl, hq⟩; replace hb := chn hb hq; clear hq
        go_wp2
        go_ret2
        exact ⟨_, [], rfl, HLL.out.symm, World.ownsRow_nil _ _ _ _, by repeat (first | exact hb | refine Below.alloc ?_ (by have := hb.size; simp; try omega) _)⟩
      | true =>
        obtain rfl : m = 0 := HMO.out
        have HLL : Hid (L = kidsL (xs.map En.pl) q.data.toList) := HL.out.symm.trans (tlist_0 HM.out)
        go_wp2_with fail
        refine ((GG.out _ (HS.out.below hb)).out).mono ?_; rintro e W ⟨rfl, hq⟩; replace hb := chn hb hq; clear hq
        have hb0 := hb.alloc hb.size (.cells #[.string dp, .bool true, .string dx] 31)
        have HB0 := Lib.hid hb0
        clear hb0
        go_wp2
        go_loopw [8, 10, 36] (fun v _ i wr => ∃ (k : Nat) (ss : List ByteArray), k ≤ n ∧ i = .int .i64 k ∧ ss.map (·.data.toList) = kidsL ((xs.take k).map En.pl) q.data.toList ∧ wr.ownsRow w.heap.size 9 1 v ss.length (ss.map Value.string) ∧ Below w.heap.size w wr) (fun _ _ i _ => n - (intOf i).toNat)
        case atStart => exact ⟨0, [], Nat.zero_le _, rfl, rfl, World.ownsRow_nil _ _ _ _, HB0.out⟩
        case round =>
          clear hb
          obtain ⟨k, ss, hk, rfl, hss, hown, hb⟩ := hrel
          have HSS := Lib.hid hss
          clear hss
          by_cases hlt : k < n
          · skip
            obtain ⟨e, hee⟩ : ∃ e, xs[k]? = some e := ⟨_, List.getElem?_eq_getElem (by rw [HN.out]; exact hlt)⟩
            have hzz := HZ.out e (List.mem_of_getElem? hee)
            have h2 := HS.out.below hb
            obtain ⟨b, off, rfl, _⟩ := h2.addr (by rw [HN.out]; omega)
            obtain ⟨d0, d1, d2⟩ := en_at h2 k e hee
            have HSN : Hid (kidsL ((xs.take (k + 1)).map En.pl) q.data.toList = kidsL ((xs.take k).map En.pl) q.data.toList ++ if upL e.p.data.toList = q.data.toList then [nameL e.p.data.toList] else []) := by rw [Hid, take_pl xs k e hee, kids_snoc]; rfl
            have hsl : ss.length ≤ k := by
              have h3 := congrArg List.length HSS.out
              have h4 := kids_len ((xs.take k).map En.pl) q.data.toList
              simp only [List.length_map, List.length_take] at h3 h4
              omega
            obtain ⟨ep, ed, ex⟩ := e
            obtain ⟨u, hu, hus⟩ := up_str20 ep
            obtain ⟨m, hm⟩ := name_str20 ep
            clear h2 hee
            have c0 := new_cell wr #[.string ep, .bool ed, .string ex] 31 0 (.string ep) rfl
            have hown0 := hown.alloc (.cells #[.string ep, .bool ed, .string ex] 31)
            replace hb := hb.alloc hb.size (.cells #[.string ep, .bool ed, .string ex] 31)
            clear hown
            by_cases hq : u.data.toList = q.data.toList
            · have q1 := beqs_yes hq
              have HSM : Hid ((ss ++ [m]).map (·.data.toList) = kidsL ((xs.take (k + 1)).map En.pl) q.data.toList) := by
                rw [Hid, HSN.out, if_pos (by rw [hu.out]; exact hq), List.map_append, HSS.out, hm.out]; rfl
              clear hq
              go_wp2_with fail
              refine (pathUp_c ep u hu _ hzz.1).mono ?_; rintro e W ⟨rfl, hq⟩; replace hb := chn hb hq; replace c0 := keepc hq c0; replace hown0 := own_below hown0 hq; clear hq
              go_wp2_with fail
              refine (pathName_c ep m hm _ hzz.1).mono ?_; rintro e W ⟨rfl, hq⟩; replace hb := chn hb hq; replace hown0 := own_below hown0 hq; clear hq
              go_wp2_with (at_builtin; go_must (refine wp_app1 (by rfl) _ _ 41 (by rfl) HE w.heap.size w.heap.size w _ #[.string m] _ _ _ (by rfl) (by rfl) hown0 (by rfl) (by simp [Value.oneCell']) (by omega) hb.size hb (Nat.le_refl _) ?_); intro v' w1 hown1 hbel1 _ _)
              go_roundw
              case rel => exact ⟨k + 1, ss ++ [m], by omega, by go_num, HSM.out, by simpa using hown1, hbel1⟩
              case measure => simp [intOf]; omega
            · have q1 := beqs_no hq
              have HSM : Hid (ss.map (·.data.toList) = kidsL ((xs.take (k + 1)).map En.pl) q.data.toList) := by
                rw [Hid, HSN.out, if_neg (by rw [hu.out]; exact hq), List.append_nil]; exact HSS.out
              clear hq
              go_wp2_with fail
              refine (pathUp_c ep u hu _ hzz.1).mono ?_; rintro e W ⟨rfl, hq⟩; replace hb := chn hb hq; replace hown0 := own_below hown0 hq; clear hq
              go_wp2
              go_roundw
              case rel => exact ⟨k + 1, ss, by omega, by go_num, HSM.out, hown0, hb⟩
              case measure => simp [intOf]; omega
          · obtain rfl : k = n := by omega
            have HF : Hid (ss.map (·.data.toList) = L) := by rw [Hid, HSS.out, HALL.out, HLL.out]
            go_wp2
            go_ret2
            exact ⟨_, ss, rfl, HF.out, hown, hb⟩
theorem own_lit2 {w : World} {o : Obj} {base size : Nat} {e : TypeId} (h : base ≤ w.heap.size) : ((w.alloc o).alloc (.cells #[] e)).ownsRow base e size (.slice (some ⟨w.heap.size + 1, 0, none⟩) 0 0) 0 [] := by
  have h1 := World.ownsRow_lit (base := base) (e := e) (size := size) (w.alloc o) #[] 0 (by simp; omega) (Nat.zero_le _) (by simp)
  have h2 : (w.alloc o).heap.size = w.heap.size + 1 := by simp
  rw [h2] at h1
  exact h1
end Go.Proofs.YtakbngafhogcbaaGreatDoor
namespace Go.Proofs.YtakbngafhogcbaaGreatDoor
open Go.RowKit
/-- What TreeGet tells, in one shape. -/
theorem opt_one (o : Option En) : ∃ (ep ex : ByteArray) (ed th : Bool), optV o = .tuple #[.agg #[.string ep, .bool ed, .string ex], .bool th] ∧ ((o = none ∧ th = false) ∨ (th = true ∧ o = some ⟨ep, ed, ex⟩)) := by
  cases o with
  | none => exact ⟨⟨#[]⟩, ⟨#[]⟩, false, false, rfl, .inl ⟨rfl, rfl⟩⟩
  | some e => exact ⟨e.p, e.x, e.d, true, rfl, .inr ⟨rfl, rfl⟩⟩
/-- What the codes must be. -/
structure CodeG (k : Int) (th ed inn ud : Bool) (n kids C : Nat) : Prop where
  kinds : k = 1 ∨ k = 2 ∨ k = 3 ∨ k = 4 ∨ k = 5
  put : k = 1 ∨ k = 2 → C = if inn = false then 2 else if ud = false then 3 else if th = true ∧ k = 1 then 4 else if th = true ∧ ed = true then 5 else if th = false ∧ n = 16 then 8 else 0
  off : k = 3 ∨ k = 4 → C = if th = false then 2 else if k = 3 ∧ ed = true then 5 else if k = 4 ∧ ed = false then 3 else if 0 < kids then 6 else 0
  move : k = 5 → C = 2 ∨ th = true
theorem code_up {xs : List En} {p : Bs} {u : ByteArray} {o : Option En} {ep ex : ByteArray} {ed th : Bool} (hu : upL p = u.data.toList) (ho : lgetE xs u = o) (hs : (o = none ∧ th = false) ∨ (th = true ∧ o = some ⟨ep, ed, ex⟩)) : upCodeL (xs.map En.pl) p = if th = false then 2 else if ed = false then 3 else 0 := by
  unfold upCodeL
  rw [hu]
  unfold lgetE at ho
  split at ho
  · next hr =>
    rw [if_pos hr]
    subst ho
    rcases hs with ⟨h1, _⟩ | ⟨h1, h2⟩
    · cases h1
    · injection h2 with h2; injection h2 with _ h3 _; subst h1; rw [← h3]; rfl
  · next hr =>
    rw [if_neg hr, getE_pl, ho]
    rcases hs with ⟨h1, h2⟩ | ⟨h1, h2⟩
    · subst h1 h2; rfl
    · subst h1 h2; cases ed <;> rfl
theorem code_law {xs : List En} {k : Int} {P r x : ByteArray} {u : ByteArray} {o o' : Option En} {ep ex up ux : ByteArray} {ed th ud inn : Bool} {C : Nat} (h : TOk (xs.map En.pl)) (hop : opOkL k P.data.toList r.data.toList x.data.toList = true) (hc : tcode (xs.map En.pl) k P.data.toList r.data.toList x.data.toList = C)
    (ho : tgetE xs P = o) (hs : (o = none ∧ th = false) ∨ (th = true ∧ o = some ⟨ep, ed, ex⟩)) (hu : upL P.data.toList = u.data.toList) (ho' : tgetE xs u = o') (hs' : (o' = none ∧ inn = false) ∨ (inn = true ∧ o' = some ⟨up, ud, ux⟩)) :
    CodeG k th ed inn ud xs.length (tlistL (xs.map En.pl) P.data.toList).length C := by
  have hp := opOk_p hop
  rw [tcode_op h hop] at hc
  rw [tget_right h hp] at ho
  rw [tget_ok u h] at ho'
  have hup := code_up hu ho' hs'
  have hg : getL (xs.map En.pl) P.data.toList = o.map En.pl := by rw [getE_pl, ho]
  have hm := h.most
  rw [List.length_map] at hm
  refine ⟨opOk_k hop, ?_, ?_, ?_⟩
  · rintro (rfl | rfl)
    · rw [code_1] at hc
      unfold makeC at hc
      rw [hup, hg, List.length_map] at hc
      rw [← hc]
      rcases hs with ⟨rfl, rfl⟩ | ⟨rfl, rfl⟩ <;> cases inn <;> cases ud <;> simp [En.pl]
      by_cases h16 : xs.length = 16
      · rw [if_pos h16, if_pos (by omega)]
      · rw [if_neg h16, if_neg (by omega)]
    · rw [code_2] at hc
      unfold putC at hc
      rw [hup, hg, List.length_map] at hc
      rw [← hc]
      rcases hs with ⟨rfl, rfl⟩ | ⟨rfl, rfl⟩ <;> cases inn <;> cases ud <;> simp [En.pl]
      by_cases h16 : xs.length = 16
      · rw [if_pos h16, if_pos (by omega)]
      · rw [if_neg h16, if_neg (by omega)]
  · have hkid : ∀ e, getL (xs.map En.pl) P.data.toList = some e → tlistL (xs.map En.pl) P.data.toList = if e.d = true then kidsL (xs.map En.pl) P.data.toList else [] := by
      intro e he
      have h5 : tlistC (xs.map En.pl) P.data.toList = if e.d = true then 0 else 3 := by
        unfold tlistC
        rw [if_pos ⟨h, .inr hp⟩, if_neg (path_ne_root hp), he]
      unfold tlistL
      rw [h5]
      cases hd : e.d <;> simp
    rintro (rfl | rfl)
    · rw [code_3] at hc
      unfold rmC at hc
      rw [hg] at hc
      rw [← hc]
      rcases hs with ⟨rfl, rfl⟩ | ⟨rfl, rfl⟩
      · simp
      · have h9 := hkid _ hg
        simp only [Option.map_some] at h9 hc ⊢
        rw [h9]
        cases ed <;> simp [En.pl]
    · rw [code_4] at hc
      unfold rmdirC at hc
      rw [hg] at hc
      rw [← hc]
      rcases hs with ⟨rfl, rfl⟩ | ⟨rfl, rfl⟩
      · simp
      · have h9 := hkid _ hg
        have h8 := kids_any h (q := P.data.toList)
        simp only [Option.map_some] at h9 hc ⊢
        rw [h9]
        cases ed
        · simp [En.pl]
        · simp only [En.pl, if_true]
          cases ha : (xs.map En.pl).any fun e => underL e.p P.data.toList
          · rw [ha] at h8
            rw [Bool.not_false, List.isEmpty_iff] at h8
            rw [h8]; simp
          · rw [ha] at h8
            have : 0 < (kidsL (xs.map En.pl) P.data.toList).length := by
              cases hl : kidsL (xs.map En.pl) P.data.toList with
              | nil => rw [hl] at h8; cases h8
              | cons a b => simp
            simp [this]
  · rintro rfl
    rw [code_5] at hc
    rcases hs with ⟨rfl, rfl⟩ | ⟨rfl, rfl⟩
    · left
      rw [← hc]
      unfold moveC
      rw [hg]; rfl
    · exact .inr rfl
set_option maxRecDepth 100000 in
set_option maxHeartbeats 8000000 in
theorem lawTreeCode_w (w : World) (a : Option Addr) (n c : Nat) (h : Code w a n c) : Calls Tryz.prog 10 #[.slice a n c] w (TrueB w) := by
  have hn := h.2.2
  by_cases hbig : 1048576 < n
  · clear h
    go_enter Tryz.func10, Tryz.ntmps10
    go_wp2
    go_ret
    exact ⟨rfl, Below.refl _ _⟩
  have HD := Lib.hid (drawTreeDo_c w a n c h)
  clear h
  go_enter Tryz.func10, Tryz.ntmps10
  go_wp2_with fail
  refine HD.out.mono ?_; rintro e W1 ⟨a1, c1, xs, k, P, T, D, rfl, hR, hz, hx, hP, hT, hD, hb⟩
  obtain ⟨n1, hn1⟩ : ∃ m, xs.length = m := ⟨_, rfl⟩
  rw [hn1] at hx ⊢
  have HN1 := Lib.hid hn1
  have HZ := Lib.hid hz
  have c0 := new_cell W1 (opBox k P T D) 25 0 _ rfl
  have c1' := new_cell W1 (opBox k P T D) 25 1 _ rfl
  have c2' := new_cell W1 (opBox k P T D) 25 2 _ rfl
  have c3' := new_cell W1 (opBox k P T D) 25 3 _ rfl
  replace hb := hb.alloc hb.size (.cells (opBox k P T D) 25)
  replace hR := hR.below (bellow_alloc W1 (.cells (opBox k P T D) 25))
  clear hn1 hz HD
  go_wp2_with fail
  refine (doL_c a1 c1 n1 xs k P T D _ HN1.out hR.inT (by omega) hP hT hD HZ.out).mono ?_
  rintro e W2 ⟨a2, c2, n2, ms, rfl, hn2, hms, hX, hq⟩
  replace hb := chn hb hq; replace hR := hR.below hq; replace c0 := keepc hq c0; replace c1' := keepc hq c1'; replace c2' := keepc hq c2'; replace c3' := keepc hq c3'
  have HN2 := Lib.hid hn2
  have HMS := Lib.hid hms
  clear hq hn2 hms
  go_wp2_with fail
  refine (sDoL_c a1 c1 n1 xs k P T D _ HN1.out hR (by omega) hP hT hD HZ.out).mono ?_
  rintro e W3 ⟨a3, c3, n3, ms3, rfl, hn3, hms3, hY, hq⟩
  obtain rfl : ms3 = ms := map_inj_ En.pl_inj (hms3.trans HMS.out.symm)
  obtain rfl : n3 = n2 := hn3.symm.trans HN2.out
  replace hb := chn hb hq; replace hR := hR.below hq; replace hX := hX.below hq; replace c0 := keepc hq c0; replace c1' := keepc hq c1'; replace c2' := keepc hq c2'; replace c3' := keepc hq c3'
  clear hq hn3 hms3
  obtain ⟨C, hC⟩ : ∃ C, tcode (xs.map En.pl) k P.data.toList T.data.toList D.data.toList = C := ⟨_, rfl⟩
  have HC := Lib.hid hC
  rw [hC]
  have hn2b : n3 ≤ 100 := by
    have h1 := congrArg List.length HMS.out
    have h2 := do_len (xs.map En.pl) k P.data.toList T.data.toList D.data.toList
    rw [List.length_map] at h1 h2
    have h3 := HN2.out
    have h4 := HN1.out
    omega
  clear hC
  have hcn : n1 ≤ c1 := by obtain ⟨b, off, _, _, _, h4⟩ := hR; have := HN1.out; omega
  obtain ⟨rt, hrt⟩ := tok_dec xs
  have HTK := Lib.hid (fun W (h : SlF En.cells W a1 xs) => sTreeOk_c a1 c1 xs rt (Lib.hid hrt) W h (by have := HN1.out; unfold maxLen; omega) (by rw [HN1.out]; exact hcn) HZ.out.max)
  rw [HN1.out] at HTK
  cases hro : opOkL k P.data.toList T.data.toList D.data.toList with
  | false =>
    have HOP := Lib.hid (fun W => opOk_c k P T D false (Lib.hid hro) W (by unfold maxLen; omega) (by unfold maxLen; omega) (by unfold maxLen; omega))
    cases rt with
    | false =>
      clear hrt hro
      go_wp2_with fail
      refine (HTK.out _ hR.sl).mono ?_; rintro e W ⟨rfl, hq⟩; replace hb := chn hb hq; replace c0 := keepc hq c0; clear hq
      go_wp2
      go_ret
      exact ⟨rfl, by repeat (first | exact hb | refine Below.alloc ?_ (by have := hb.size; simp; try omega) _)⟩
    | true =>
      clear hrt hro
      go_wp2_with fail
      refine (HTK.out _ hR.sl).mono ?_; rintro e W ⟨rfl, hq⟩; replace hb := chn hb hq; replace c0 := keepc hq c0; replace c1' := keepc hq c1'; replace c2' := keepc hq c2'; replace c3' := keepc hq c3'; clear hq
      go_wp2_with fail
      refine (HOP.out _).mono ?_; rintro e W ⟨rfl, hq⟩; replace hb := chn hb hq; clear hq
      go_wp2
      go_ret
      exact ⟨rfl, by repeat (first | exact hb | refine Below.alloc ?_ (by have := hb.size; simp; try omega) _)⟩
  | true =>
    have HOP := Lib.hid (fun W => opOk_c k P T D true (Lib.hid hro) W (by unfold maxLen; omega) (by unfold maxLen; omega) (by unfold maxLen; omega))
    cases rt with
    | false =>
      clear hrt hro
      go_wp2_with fail
      refine (HTK.out _ hR.sl).mono ?_; rintro e W ⟨rfl, hq⟩; replace hb := chn hb hq; replace c0 := keepc hq c0; clear hq
      go_wp2
      go_ret
      exact ⟨rfl, by repeat (first | exact hb | refine Below.alloc ?_ (by have := hb.size; simp; try omega) _)⟩
    | true =>
      have htok := hrt.1 rfl
      obtain ⟨o, ho⟩ : ∃ o, tgetE xs P = o := ⟨_, rfl⟩
      obtain ⟨u, hu, hus⟩ := up_str20 P
      obtain ⟨o', ho'⟩ : ∃ o, tgetE xs u = o := ⟨_, rfl⟩
      obtain ⟨ep, ex, ed, th, hov, hs⟩ := opt_one o
      obtain ⟨up, ux, ud, inn, hov', hs'⟩ := opt_one o'
      have hlaw := code_law htok hro HC.out ho hs hu.out ho' hs'
      rw [HN1.out] at hlaw
      have HLAW := Lib.hid hlaw
      have HG := Lib.hid (fun W (h : SlF En.cells W a1 xs) => getT_c a1 c1 n1 xs P o (Lib.hid ho) W HN1.out h (by omega) HZ.out)
      have HG' := Lib.hid (fun W (h : SlF En.cells W a1 xs) => getT_c a1 c1 n1 xs u o' (Lib.hid ho') W HN1.out h (by omega) HZ.out)
      rw [hov] at HG
      rw [hov'] at HG'
      have HL := Lib.hid (fun W (h : SlF En.cells W a1 xs) => treeList_c a1 c1 xs P W h (by have := HN1.out; unfold maxLen; omega) (by unfold maxLen; omega) HZ.out.max)
      rw [HN1.out] at HL
      clear hrt hro htok ho ho' hov hov' hs hs' hlaw hX hY
      go_wp2_with fail
      refine (HTK.out _ hR.sl).mono ?_; rintro e W ⟨rfl, hq⟩; replace hb := chn hb hq; replace hR := hR.below hq; replace c0 := keepc hq c0; replace c1' := keepc hq c1'; replace c2' := keepc hq c2'; replace c3' := keepc hq c3'; clear hq
      go_wp2_with fail
      refine (HOP.out _).mono ?_; rintro e W ⟨rfl, hq⟩; replace hb := chn hb hq; replace hR := hR.below hq; replace c0 := keepc hq c0; replace c1' := keepc hq c1'; clear hq
      go_wp2_with fail
      refine (HG.out _ hR.sl).mono ?_; rintro e W ⟨rfl, hq⟩; replace hb := chn hb hq; replace hR := hR.below hq; replace c0 := keepc hq c0; replace c1' := keepc hq c1'; clear hq
      have d1 := new_cell W #[.string ep, .bool ed, .string ex] 31 1 (.bool ed) rfl
      replace c0 := keepc (bellow_alloc W (.cells #[.string ep, .bool ed, .string ex] 31)) c0
      replace c1' := keepc (bellow_alloc W (.cells #[.string ep, .bool ed, .string ex] 31)) c1'
      replace hR := hR.below (bellow_alloc W (.cells #[.string ep, .bool ed, .string ex] 31))
      replace hb := hb.alloc hb.size (.cells #[.string ep, .bool ed, .string ex] 31)
      go_wp2_with fail
      refine (pathUp_c P u hu _ (by unfold maxLen; omega)).mono ?_; rintro e W ⟨rfl, hq⟩; replace hb := chn hb hq; replace hR := hR.below hq; replace c0 := keepc hq c0; replace c1' := keepc hq c1'; replace d1 := keepc hq d1; clear hq
      go_wp2_with fail
      refine (HG'.out _ hR.sl).mono ?_; rintro e W ⟨rfl, hq⟩; replace hb := chn hb hq; replace hR := hR.below hq; replace c0 := keepc hq c0; replace c1' := keepc hq c1'; replace d1 := keepc hq d1; clear hq
      have u1 := new_cell W #[.string up, .bool ud, .string ux] 31 1 (.bool ud) rfl
      replace c0 := keepc (bellow_alloc W (.cells #[.string up, .bool ud, .string ux] 31)) c0
      replace c1' := keepc (bellow_alloc W (.cells #[.string up, .bool ud, .string ux] 31)) c1'
      replace d1 := keepc (bellow_alloc W (.cells #[.string up, .bool ud, .string ux] 31)) d1
      replace hR := hR.below (bellow_alloc W (.cells #[.string up, .bool ud, .string ux] 31))
      replace hb := hb.alloc hb.size (.cells #[.string up, .bool ud, .string ux] 31)
      go_wp2_with fail
      refine (HL.out _ hR.sl).mono ?_; rintro e W ⟨v, ss, rfl, hss, hov, hq⟩; replace hb := chn hb hq; replace c0 := keepc hq c0; replace d1 := keepc hq d1; replace u1 := keepc hq u1; clear hq
      obtain ⟨a5, c5, rfl⟩ := own_shape hov
      have hls : (tlistL (xs.map En.pl) P.data.toList).length = ss.length := by rw [← hss, List.length_map]
      rw [hls] at HLAW
      obtain ⟨kn, hkn⟩ : ∃ m, ss.length = m := ⟨_, rfl⟩
      rw [hkn] at HLAW ⊢
      obtain ⟨hk, lp, lo, lm⟩ := HLAW.out
      clear hss hov hkn hls HLAW HG HG' HL HOP HTK HZ HC HN2 HMS c1' hR hu hus
      rcases hk with rfl | rfl | rfl | rfl | rfl
      · have l := lp (.inl rfl)
        clear lp lo lm
        cases inn with
        | false =>
          simp only [if_true] at l; subst l
          go_wp2
          go_ret
          exact ⟨rfl, by repeat (first | exact hb | refine Below.alloc ?_ (by have := hb.size; simp; try omega) _)⟩
        | true =>
          cases ud with
          | false =>
            simp only [if_true, Bool.true_eq_false, if_false] at l; subst l
            go_wp2
            go_ret
            exact ⟨rfl, by repeat (first | exact hb | refine Below.alloc ?_ (by have := hb.size; simp; try omega) _)⟩
          | true =>
            cases th with
            | true =>
              cases ed with
              | true =>
                simp at l; subst l
                go_wp2
                go_ret
                exact ⟨rfl, by repeat (first | exact hb | refine Below.alloc ?_ (by have := hb.size; simp; try omega) _)⟩
              | false =>
                simp at l; subst l
                go_wp2
                go_ret
                exact ⟨rfl, by repeat (first | exact hb | refine Below.alloc ?_ (by have := hb.size; simp; try omega) _)⟩
            | false =>
              by_cases h16 : n1 = 16
              · subst h16
                simp at l; subst l
                go_wp2
                go_ret
                exact ⟨rfl, by repeat (first | exact hb | refine Below.alloc ?_ (by have := hb.size; simp; try omega) _)⟩
              · have q16 : ((n1 : Int) == 16) = false := by rw [beq_eq_false_iff_ne]; omega
                simp [h16] at l; subst l
                clear h16
                go_wp2
                go_ret
                exact ⟨rfl, by repeat (first | exact hb | refine Below.alloc ?_ (by have := hb.size; simp; try omega) _)⟩
      · have l := lp (.inr rfl)
        clear lp lo lm
        cases inn with
        | false =>
          simp only [if_true] at l; subst l
          go_wp2
          go_ret
          exact ⟨rfl, by repeat (first | exact hb | refine Below.alloc ?_ (by have := hb.size; simp; try omega) _)⟩
        | true =>
          cases ud with
          | false =>
            simp only [if_true, Bool.true_eq_false, if_false] at l; subst l
            go_wp2
            go_ret
            exact ⟨rfl, by repeat (first | exact hb | refine Below.alloc ?_ (by have := hb.size; simp; try omega) _)⟩
          | true =>
            cases th with
            | true =>
              cases ed with
              | true =>
                simp at l; subst l
                go_wp2
                go_ret
                exact ⟨rfl, by repeat (first | exact hb | refine Below.alloc ?_ (by have := hb.size; simp; try omega) _)⟩
              | false =>
                simp at l; subst l
                go_wp2
                go_ret
                exact ⟨rfl, by repeat (first | exact hb | refine Below.alloc ?_ (by have := hb.size; simp; try omega) _)⟩
            | false =>
              by_cases h16 : n1 = 16
              · subst h16
                simp at l; subst l
                go_wp2
                go_ret
                exact ⟨rfl, by repeat (first | exact hb | refine Below.alloc ?_ (by have := hb.size; simp; try omega) _)⟩
              · have q16 : ((n1 : Int) == 16) = false := by rw [beq_eq_false_iff_ne]; omega
                simp [h16] at l; subst l
                clear h16
                go_wp2
                go_ret
                exact ⟨rfl, by repeat (first | exact hb | refine Below.alloc ?_ (by have := hb.size; simp; try omega) _)⟩
      · have l := lo (.inl rfl)
        clear lp lo lm
        cases th with
        | false =>
          simp only [if_true] at l; subst l
          go_wp2
          go_ret
          exact ⟨rfl, by repeat (first | exact hb | refine Below.alloc ?_ (by have := hb.size; simp; try omega) _)⟩
        | true =>
          cases ed with
          | true =>
            by_cases hkn0 : 0 < kn
            · have q0 : decide ((0 : Int) < (kn : Int)) = true := decide_eq_true (by omega)
              simp at l
              try rw [if_pos hkn0] at l
              subst l
              go_wp2
              go_ret
              exact ⟨rfl, by repeat (first | exact hb | refine Below.alloc ?_ (by have := hb.size; simp; try omega) _)⟩
            · have q0 : decide ((0 : Int) < (kn : Int)) = false := decide_eq_false (by omega)
              simp at l
              try rw [if_neg hkn0] at l
              subst l
              go_wp2
              go_ret
              exact ⟨rfl, by repeat (first | exact hb | refine Below.alloc ?_ (by have := hb.size; simp; try omega) _)⟩
          | false =>
            by_cases hkn0 : 0 < kn
            · have q0 : decide ((0 : Int) < (kn : Int)) = true := decide_eq_true (by omega)
              simp at l
              try rw [if_pos hkn0] at l
              subst l
              go_wp2
              go_ret
              exact ⟨rfl, by repeat (first | exact hb | refine Below.alloc ?_ (by have := hb.size; simp; try omega) _)⟩
            · have q0 : decide ((0 : Int) < (kn : Int)) = false := decide_eq_false (by omega)
              simp at l
              try rw [if_neg hkn0] at l
              subst l
              go_wp2
              go_ret
              exact ⟨rfl, by repeat (first | exact hb | refine Below.alloc ?_ (by have := hb.size; simp; try omega) _)⟩
      · have l := lo (.inr rfl)
        clear lp lo lm
        cases th with
        | false =>
          simp only [if_true] at l; subst l
          go_wp2
          go_ret
          exact ⟨rfl, by repeat (first | exact hb | refine Below.alloc ?_ (by have := hb.size; simp; try omega) _)⟩
        | true =>
          cases ed with
          | true =>
            by_cases hkn0 : 0 < kn
            · have q0 : decide ((0 : Int) < (kn : Int)) = true := decide_eq_true (by omega)
              simp at l
              try rw [if_pos hkn0] at l
              subst l
              go_wp2
              go_ret
              exact ⟨rfl, by repeat (first | exact hb | refine Below.alloc ?_ (by have := hb.size; simp; try omega) _)⟩
            · have q0 : decide ((0 : Int) < (kn : Int)) = false := decide_eq_false (by omega)
              simp at l
              try rw [if_neg hkn0] at l
              subst l
              go_wp2
              go_ret
              exact ⟨rfl, by repeat (first | exact hb | refine Below.alloc ?_ (by have := hb.size; simp; try omega) _)⟩
          | false =>
            by_cases hkn0 : 0 < kn
            · have q0 : decide ((0 : Int) < (kn : Int)) = true := decide_eq_true (by omega)
              simp at l
              try rw [if_pos hkn0] at l
              subst l
              go_wp2
              go_ret
              exact ⟨rfl, by repeat (first | exact hb | refine Below.alloc ?_ (by have := hb.size; simp; try omega) _)⟩
            · have q0 : decide ((0 : Int) < (kn : Int)) = false := decide_eq_false (by omega)
              simp at l
              try rw [if_neg hkn0] at l
              subst l
              go_wp2
              go_ret
              exact ⟨rfl, by repeat (first | exact hb | refine Below.alloc ?_ (by have := hb.size; simp; try omega) _)⟩
      · have l := lm rfl
        clear lp lo
        cases th with
        | true =>
          cases h2 : ((C : Int) == 2)
          · skip
            go_wp2
            go_ret
            exact ⟨rfl, by repeat (first | exact hb | refine Below.alloc ?_ (by have := hb.size; simp; try omega) _)⟩
          · skip
            go_wp2
            go_ret
            exact ⟨rfl, by repeat (first | exact hb | refine Below.alloc ?_ (by have := hb.size; simp; try omega) _)⟩
        | false =>
          simp only [Bool.false_eq_true, or_false] at l; subst l
          go_wp2
          go_ret
          exact ⟨rfl, by repeat (first | exact hb | refine Below.alloc ?_ (by have := hb.size; simp; try omega) _)⟩
end Go.Proofs.YtakbngafhogcbaaGreatDoor
