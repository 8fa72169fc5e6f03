/- The walks of TreeList, of the program and of the reference. Conditions: lists and texts are no longer than any can be; lists are shorter than a million. -/
import Derived.Test.YtkhbkhibjflgmaaDoorKids
import Derived.Test.YtkhbkhibjflgmaaDoorTreeG
import Derived.Deep.Onto
namespace Go.Proofs.YtkhbkhibjflgmaaDoor
open Go.RowKit
/-- What TreeList tells: the names and the code. -/
def MadeSc (L : List Bs) (m : Nat) (w : World) (e : Ending) (w' : World) : Prop :=
  ∃ (v : Value) (ss : List ByteArray), e = .returned (.tuple #[v, .int .i64 m]) ∧ ss.map (·.data.toList) = L ∧ w'.ownsRow w.heap.size 9 1 v ss.length (ss.map Value.string) ∧ Below w.heap.size w w'
open Classical in
noncomputable def tlistC (t : List PE) (q : Bs) : Nat := if TOk t ∧ (q = [47] ∨ pathOkL q = true) then (if q = [47] then 0 else match getL t q with
  | none => 2
  | some e => if e.d then 0 else 3) else 1
noncomputable def tlistL (t : List PE) (q : Bs) : List Bs := if tlistC t q = 0 then kidsL t q else []
theorem tlist_bad {t : List PE} {q : Bs} (h : ¬ (TOk t ∧ (q = [47] ∨ pathOkL q = true))) : tlistC t q = 1 ∧ tlistL t q = [] := by
  have h1 : tlistC t q = 1 := by unfold tlistC; rw [if_neg h]
  exact ⟨h1, by unfold tlistL; rw [h1]; rfl⟩
theorem tlist_ok {xs : List En} {q : ByteArray} (h : TOk (xs.map En.pl)) (hq : q.data.toList = [47] ∨ pathOkL q.data.toList = true) : tlistC (xs.map En.pl) q.data.toList = upC (lgetE xs q) := by
  unfold tlistC lgetE
  rw [if_pos ⟨h, hq⟩]
  by_cases hr : q.data.toList = [47]
  · rw [if_pos hr, if_pos hr]; rfl
  · rw [if_neg hr, if_neg hr, getE_pl]
    cases getE xs q <;> rfl
theorem tlist_0 {t : List PE} {q : Bs} (h : tlistC t q = 0) : tlistL t q = kidsL t q := by unfold tlistL; rw [if_pos h]
theorem tlist_n {t : List PE} {q : Bs} {m : Nat} (h : tlistC t q = m) (hm : m ≠ 0) : tlistL t q = [] := by unfold tlistL; rw [h, if_neg hm]
set_option maxRecDepth 100000 in
set_option maxHeartbeats 8000000 in
theorem treeList_c (a : Option Addr) (c : Nat) (xs : List En) (q : ByteArray) (w : World) (hs : SlF En.cells w a xs) (hxm : xs.length ≤ maxLen) (hq : q.size ≤ maxLen) (hz : ∀ e ∈ xs, e.p.size ≤ maxLen ∧ e.x.size ≤ maxLen) :
    Calls Tryd.prog 47 #[.slice a xs.length c, .string q] w (MadeSc (tlistL (xs.map En.pl) q.data.toList) (tlistC (xs.map En.pl) q.data.toList) w) := by
  have hb := Below.refl w.heap.size w
  have hx16 : TOk (xs.map En.pl) → xs.length ≤ 16 := fun h => by have := h.most; rw [List.length_map] at this; exact this
  obtain ⟨r, hr⟩ := tok_dec xs
  obtain ⟨m, hm⟩ : ∃ m, tlistC (xs.map En.pl) q.data.toList = m := ⟨_, rfl⟩
  obtain ⟨L, hL⟩ : ∃ L, tlistL (xs.map En.pl) q.data.toList = L := ⟨_, rfl⟩
  obtain ⟨o, ho⟩ : ∃ o, tgetE xs q = o := ⟨_, rfl⟩
  have HT := Lib.hid (treeOk_c a c xs r (Lib.hid hr) w hs hxm hz)
  have HG := fun W (h : SlF En.cells W a xs) => Lib.hid (treeGet_c a c xs q o (Lib.hid ho) W h hxm hz)
  have HM := Lib.hid hm
  have HL := Lib.hid hL
  have HO := Lib.hid ho
  have HS := Lib.hid hs
  have HZ := Lib.hid hz
  have HQ := Lib.hid hq
  have HE := strElt
  rw [hm, hL]
  obtain ⟨n, hn⟩ : ∃ n, xs.length = n := ⟨_, rfl⟩
  have HN := Lib.hid hn
  have HALL : Hid (xs.take n = xs) := by rw [Hid, ← hn, List.take_length]
  rw [hn] at HT HG hx16 ⊢
  have GG := Lib.hid HG
  clear hn hm hL ho hs hz hxm HG hq
  cases r with
  | false =>
    have hbad := tlist_bad (q := q.data.toList) (t := xs.map En.pl) (fun h => by have := hr.2 h.1; cases this)
    obtain rfl : m = 1 := HM.out.symm.trans hbad.1
    have HLL : Hid (L = []) := HL.out.symm.trans hbad.2
    clear hr hbad hx16
    go_enter Tryd.func47, Tryd.ntmps47
    go_wp2_with fail
    refine (HT.out).mono ?_; rintro e W ⟨rfl, hq⟩; replace hb := chn hb hq; clear hq
    go_wp2
    go_ret2
    exact ⟨_, [], rfl, HLL.out.symm, World.ownsRow_nil _ _ _ _, by repeat (first | exact hb | refine Below.alloc ?_ (by have := hb.size; simp; try omega) _)⟩
  | true =>
  by_cases hqr : q.data.toList ≠ [47] ∧ pathOkL q.data.toList = false
  · have hbad := tlist_bad (q := q.data.toList) (t := xs.map En.pl) (fun h => by rcases h.2 with h2 | h2; exact hqr.1 h2; rw [hqr.2] at h2; cases h2)
    obtain rfl : m = 1 := HM.out.symm.trans hbad.1
    have HLL : Hid (L = []) := HL.out.symm.trans hbad.2
    have q1 := beq_no hqr.1
    have HP := Lib.hid hqr.2
    clear hr hbad hqr hx16
    go_enter Tryd.func47, Tryd.ntmps47
    go_wp2_with fail
    refine (HT.out).mono ?_; rintro e W ⟨rfl, hq⟩; replace hb := chn hb hq; clear hq
    go_wp2_with fail
    refine (pathOk_c q false HP _ HQ.out).mono ?_; rintro e W ⟨rfl, hq⟩; replace hb := chn hb hq; clear hq
    go_wp2
    go_ret2
    exact ⟨_, [], rfl, HLL.out.symm, World.ownsRow_nil _ _ _ _, by repeat (first | exact hb | refine Below.alloc ?_ (by have := hb.size; simp; try omega) _)⟩
  have hqo : q.data.toList = [47] ∨ pathOkL q.data.toList = true := by
    by_cases h1 : q.data.toList = [47]
    · exact .inl h1
    · right
      cases h2 : pathOkL q.data.toList with
      | true => rfl
      | false => exact absurd ⟨h1, h2⟩ hqr
  have HMO : Hid (m = upC o) := by rw [Hid, ← HM.out, tlist_ok (hr.1 rfl) hqo, ← tget_ok q (hr.1 rfl), HO.out]
  have HPQ : Hid (q.data.toList = [47] ∨ (q.data.toList ≠ [47] ∧ pathOkL q.data.toList = true)) := by
    by_cases h1 : q.data.toList = [47]
    · exact .inl h1
    · exact .inr ⟨h1, hqo.resolve_left h1⟩
  have hx : n ≤ 16 := hx16 (hr.1 rfl)
  clear hqr hqo hr hx16
  rcases HPQ.out with hqq | ⟨hqq, hpp⟩
  · have q1 := beq_yes hqq
    clear hqq
    go_enter Tryd.func47, Tryd.ntmps47
    go_wp2_with fail
    refine (HT.out).mono ?_; rintro e W ⟨rfl, hq⟩; replace hb := chn hb hq; clear hq
    cases o with
    | none =>
      obtain rfl : m = 2 := HMO.out
      have HLL : Hid (L = []) := HL.out.symm.trans (tlist_n HM.out (by decide))
      go_wp2_with fail
      refine ((GG.out _ (HS.out.below hb)).out).mono ?_; rintro e W ⟨rfl, hq⟩; replace hb := chn hb hq; clear hq
      go_wp2
      go_ret2
      exact ⟨_, [], rfl, HLL.out.symm, World.ownsRow_nil _ _ _ _, by repeat (first | exact hb | refine Below.alloc ?_ (by have := hb.size; simp; try omega) _)⟩
    | some d =>
      obtain ⟨dp, dd, dx⟩ := d
      cases dd with
      | false =>
        obtain rfl : m = 3 := HMO.out
        have HLL : Hid (L = []) := HL.out.symm.trans (tlist_n HM.out (by decide))
        go_wp2_with fail
        refine ((GG.out _ (HS.out.below hb)).out).mono ?_; rintro e W ⟨rfl, hq⟩; replace hb := chn hb hq; clear hq
        go_wp2
        go_ret2
        exact ⟨_, [], rfl, HLL.out.symm, World.ownsRow_nil _ _ _ _, by repeat (first | exact hb | refine Below.alloc ?_ (by have := hb.size; simp; try omega) _)⟩
      | true =>
        obtain rfl : m = 0 := HMO.out
        have HLL : Hid (L = kidsL (xs.map En.pl) q.data.toList) := HL.out.symm.trans (tlist_0 HM.out)
        go_wp2_with fail
        refine ((GG.out _ (HS.out.below hb)).out).mono ?_; rintro e W ⟨rfl, hq⟩; replace hb := chn hb hq; clear hq
        have hb0 := hb.alloc hb.size (.cells #[.string dp, .bool true, .string dx] 30)
        have HB0 := Lib.hid hb0
        clear hb0
        go_wp2
        go_loopw [8, 10, 36] (fun v _ i wr => ∃ (k : Nat) (ss : List ByteArray), k ≤ n ∧ i = .int .i64 k ∧ ss.map (·.data.toList) = kidsL ((xs.take k).map En.pl) q.data.toList ∧ wr.ownsRow w.heap.size 9 1 v ss.length (ss.map Value.string) ∧ Below w.heap.size w wr) (fun _ _ i _ => n - (intOf i).toNat)
        case atStart => exact ⟨0, [], Nat.zero_le _, rfl, rfl, World.ownsRow_nil _ _ _ _, HB0.out⟩
        case round =>
          clear hb
          obtain ⟨k, ss, hk, rfl, hss, hown, hb⟩ := hrel
          have HSS := Lib.hid hss
          clear hss
          by_cases hlt : k < n
          · skip
            obtain ⟨e, hee⟩ : ∃ e, xs[k]? = some e := ⟨_, List.getElem?_eq_getElem (by rw [HN.out]; exact hlt)⟩
            have hzz := HZ.out e (List.mem_of_getElem? hee)
            have h2 := HS.out.below hb
            obtain ⟨b, off, rfl, _⟩ := h2.addr (by rw [HN.out]; omega)
            obtain ⟨d0, d1, d2⟩ := en_at h2 k e hee
            have HSN : Hid (kidsL ((xs.take (k + 1)).map En.pl) q.data.toList = kidsL ((xs.take k).map En.pl) q.data.toList ++ if upL e.p.data.toList = q.data.toList then [nameL e.p.data.toList] else []) := by rw [Hid, take_pl xs k e hee, kids_snoc]; rfl
            have hsl : ss.length ≤ k := by
              have h3 := congrArg List.length HSS.out
              have h4 := kids_len ((xs.take k).map En.pl) q.data.toList
              simp only [List.length_map, List.length_take] at h3 h4
              omega
            obtain ⟨ep, ed, ex⟩ := e
            obtain ⟨u, hu, hus⟩ := up_str20 ep
            obtain ⟨m, hm⟩ := name_str20 ep
            clear h2 hee
            have c0 := new_cell wr #[.string ep, .bool ed, .string ex] 30 0 (.string ep) rfl
            have hown0 := hown.alloc (.cells #[.string ep, .bool ed, .string ex] 30)
            replace hb := hb.alloc hb.size (.cells #[.string ep, .bool ed, .string ex] 30)
            clear hown
            by_cases hq : u.data.toList = q.data.toList
            · have q1 := beqs_yes hq
              have HSM : Hid ((ss ++ [m]).map (·.data.toList) = kidsL ((xs.take (k + 1)).map En.pl) q.data.toList) := by
                rw [Hid, HSN.out, if_pos (by rw [hu.out]; exact hq), List.map_append, HSS.out, hm.out]; rfl
              clear hq
              go_wp2_with fail
              refine (pathUp_c ep u hu _ hzz.1).mono ?_; rintro e W ⟨rfl, hq⟩; replace hb := chn hb hq; replace c0 := keepc hq c0; replace hown0 := own_below hown0 hq; clear hq
              go_wp2_with fail
              refine (pathName_c ep m hm _ hzz.1).mono ?_; rintro e W ⟨rfl, hq⟩; replace hb := chn hb hq; replace hown0 := own_below hown0 hq; clear hq
              go_wp2_with (at_builtin; go_must (refine wp_app1 (by rfl) _ _ 55 (by rfl) HE w.heap.size w.heap.size w _ #[.string m] _ _ _ (by rfl) (by rfl) hown0 (by rfl) (by simp [Value.oneCell']) (by omega) hb.size hb (Nat.le_refl _) ?_); intro v' w1 hown1 hbel1 _ _)
              go_roundw
              case rel => exact ⟨k + 1, ss ++ [m], by omega, by go_num, HSM.out, by simpa using hown1, hbel1⟩
              case measure => simp [intOf]; omega
            · have q1 := beqs_no hq
              have HSM : Hid (ss.map (·.data.toList) = kidsL ((xs.take (k + 1)).map En.pl) q.data.toList) := by
                rw [Hid, HSN.out, if_neg (by rw [hu.out]; exact hq), List.append_nil]; exact HSS.out
              clear hq
              go_wp2_with fail
              refine (pathUp_c ep u hu _ hzz.1).mono ?_; rintro e W ⟨rfl, hq⟩; replace hb := chn hb hq; replace hown0 := own_below hown0 hq; clear hq
              go_wp2
              go_roundw
              case rel => exact ⟨k + 1, ss, by omega, by go_num, HSM.out, hown0, hb⟩
              case measure => simp [intOf]; omega
          · obtain rfl : k = n := by omega
            have HF : Hid (ss.map (·.data.toList) = L) := by rw [Hid, HSS.out, HALL.out, HLL.out]
            go_wp2
            go_ret2
            exact ⟨_, ss, rfl, HF.out, hown, hb⟩
  · have q1 := beq_no hqq
    have HP := Lib.hid hpp
    clear hqq hpp
    go_enter Tryd.func47, Tryd.ntmps47
    go_wp2_with fail
    refine (HT.out).mono ?_; rintro e W ⟨rfl, hq⟩; replace hb := chn hb hq; clear hq
    go_wp2_with fail
    refine (pathOk_c q true HP _ HQ.out).mono ?_; rintro e W ⟨rfl, hq⟩; replace hb := chn hb hq; clear hq
    cases o with
    | none =>
      obtain rfl : m = 2 := HMO.out
      have HLL : Hid (L = []) := HL.out.symm.trans (tlist_n HM.out (by decide))
      go_wp2_with fail
      refine ((GG.out _ (HS.out.below hb)).out).mono ?_; rintro e W ⟨rfl, hq⟩; replace hb := chn hb hq; clear hq
      go_wp2
      go_ret2
      exact ⟨_, [], rfl, HLL.out.symm, World.ownsRow_nil _ _ _ _, by repeat (first | exact hb | refine Below.alloc ?_ (by have := hb.size; simp; try omega) _)⟩
    | some d =>
      obtain ⟨dp, dd, dx⟩ := d
      cases dd with
      | false =>
        obtain rfl : m = 3 := HMO.out
        have HLL : Hid (L = []) := HL.out.symm.trans (tlist_n HM.out (by decide))
        go_wp2_with fail
        refine ((GG.out _ (HS.out.below hb)).out).mono ?_; rintro e W ⟨rfl, hq⟩; replace hb := chn hb hq; clear hq
        go_wp2
        go_ret2
        exact ⟨_, [], rfl, HLL.out.symm, World.ownsRow_nil _ _ _ _, by repeat (first | exact hb | refine Below.alloc ?_ (by have := hb.size; simp; try omega) _)⟩
      | true =>
        obtain rfl : m = 0 := HMO.out
        have HLL : Hid (L = kidsL (xs.map En.pl) q.data.toList) := HL.out.symm.trans (tlist_0 HM.out)
        go_wp2_with fail
        refine ((GG.out _ (HS.out.below hb)).out).mono ?_; rintro e W ⟨rfl, hq⟩; replace hb := chn hb hq; clear hq
        have hb0 := hb.alloc hb.size (.cells #[.string dp, .bool true, .string dx] 30)
        have HB0 := Lib.hid hb0
        clear hb0
        go_wp2
        go_loopw [8, 10, 36] (fun v _ i wr => ∃ (k : Nat) (ss : List ByteArray), k ≤ n ∧ i = .int .i64 k ∧ ss.map (·.data.toList) = kidsL ((xs.take k).map En.pl) q.data.toList ∧ wr.ownsRow w.heap.size 9 1 v ss.length (ss.map Value.string) ∧ Below w.heap.size w wr) (fun _ _ i _ => n - (intOf i).toNat)
        case atStart => exact ⟨0, [], Nat.zero_le _, rfl, rfl, World.ownsRow_nil _ _ _ _, HB0.out⟩
        case round =>
          clear hb
          obtain ⟨k, ss, hk, rfl, hss, hown, hb⟩ := hrel
          have HSS := Lib.hid hss
          clear hss
          by_cases hlt : k < n
          · skip
            obtain ⟨e, hee⟩ : ∃ e, xs[k]? = some e := ⟨_, List.getElem?_eq_getElem (by rw [HN.out]; exact hlt)⟩
            have hzz := HZ.out e (List.mem_of_getElem? hee)
            have h2 := HS.out.below hb
            obtain ⟨b, off, rfl, _⟩ := h2.addr (by rw [HN.out]; omega)
            obtain ⟨d0, d1, d2⟩ := en_at h2 k e hee
            have HSN : Hid (kidsL ((xs.take (k + 1)).map En.pl) q.data.toList = kidsL ((xs.take k).map En.pl) q.data.toList ++ if upL e.p.data.toList = q.data.toList then [nameL e.p.data.toList] else []) := by rw [Hid, take_pl xs k e hee, kids_snoc]; rfl
            have hsl : ss.length ≤ k := by
              have h3 := congrArg List.length HSS.out
              have h4 := kids_len ((xs.take k).map En.pl) q.data.toList
              simp only [List.length_map, List.length_take] at h3 h4
              omega
            obtain ⟨ep, ed, ex⟩ := e
            obtain ⟨u, hu, hus⟩ := up_str20 ep
            obtain ⟨m, hm⟩ := name_str20 ep
            clear h2 hee
            have c0 := new_cell wr #[.string ep, .bool ed, .string ex] 30 0 (.string ep) rfl
            have hown0 := hown.alloc (.cells #[.string ep, .bool ed, .string ex] 30)
            replace hb := hb.alloc hb.size (.cells #[.string ep, .bool ed, .string ex] 30)
            clear hown
            by_cases hq : u.data.toList = q.data.toList
            · have q1 := beqs_yes hq
              have HSM : Hid ((ss ++ [m]).map (·.data.toList) = kidsL ((xs.take (k + 1)).map En.pl) q.data.toList) := by
                rw [Hid, HSN.out, if_pos (by rw [hu.out]; exact hq), List.map_append, HSS.out, hm.out]; rfl
              clear hq
              go_wp2_with fail
              refine (pathUp_c ep u hu _ hzz.1).mono ?_; rintro e W ⟨rfl, hq⟩; replace hb := chn hb hq; replace c0 := keepc hq c0; replace hown0 := own_below hown0 hq; clear hq
              go_wp2_with fail
              refine (pathName_c ep m hm _ hzz.1).mono ?_; rintro e W ⟨rfl, hq⟩; replace hb := chn hb hq; replace hown0 := own_below hown0 hq; clear hq
              go_wp2_with (at_builtin; go_must (refine wp_app1 (by rfl) _ _ 55 (by rfl) HE w.heap.size w.heap.size w _ #[.string m] _ _ _ (by rfl) (by rfl) hown0 (by rfl) (by simp [Value.oneCell']) (by omega) hb.size hb (Nat.le_refl _) ?_); intro v' w1 hown1 hbel1 _ _)
              go_roundw
              case rel => exact ⟨k + 1, ss ++ [m], by omega, by go_num, HSM.out, by simpa using hown1, hbel1⟩
              case measure => simp [intOf]; omega
            · have q1 := beqs_no hq
              have HSM : Hid (ss.map (·.data.toList) = kidsL ((xs.take (k + 1)).map En.pl) q.data.toList) := by
                rw [Hid, HSN.out, if_neg (by rw [hu.out]; exact hq), List.append_nil]; exact HSS.out
              clear hq
              go_wp2_with fail
              refine (pathUp_c ep u hu _ hzz.1).mono ?_; rintro e W ⟨rfl, hq⟩; replace hb := chn hb hq; replace hown0 := own_below hown0 hq; clear hq
              go_wp2
              go_roundw
              case rel => exact ⟨k + 1, ss, by omega, by go_num, HSM.out, hown0, hb⟩
              case measure => simp [intOf]; omega
          · obtain rfl : k = n := by omega
            have HF : Hid (ss.map (·.data.toList) = L) := by rw [Hid, HSS.out, HALL.out, HLL.out]
            go_wp2
            go_ret2
            exact ⟨_, ss, rfl, HF.out, hown, hb⟩
theorem own_lit2 {w : World} {o : Obj} {base size : Nat} {e : TypeId} (h : base ≤ w.heap.size) : ((w.alloc o).alloc (.cells #[] e)).ownsRow base e size (.slice (some ⟨w.heap.size + 1, 0, none⟩) 0 0) 0 [] := by
  have h1 := World.ownsRow_lit (base := base) (e := e) (size := size) (w.alloc o) #[] 0 (by simp; omega) (Nat.zero_le _) (by simp)
  have h2 : (w.alloc o).heap.size = w.heap.size + 1 := by simp
  rw [h2] at h1
  exact h1
set_option maxRecDepth 100000 in
set_option maxHeartbeats 8000000 in
theorem sTreeList_c (a : Option Addr) (c : Nat) (xs : List En) (q : ByteArray) (w : World) (hs : SlF En.cells w a xs) (hxm : xs.length ≤ maxLen) (hc : xs.length ≤ c) (hq : q.size ≤ maxLen) (hz : ∀ e ∈ xs, e.p.size ≤ maxLen ∧ e.x.size ≤ maxLen) :
    Calls Tryd.prog 46 #[.slice a xs.length c, .string q] w (MadeSc (tlistL (xs.map En.pl) q.data.toList) (tlistC (xs.map En.pl) q.data.toList) w) := by
  have hb := Below.refl w.heap.size w
  have hx16 : TOk (xs.map En.pl) → xs.length ≤ 16 := fun h => by have := h.most; rw [List.length_map] at this; exact this
  obtain ⟨r, hr⟩ := tok_dec xs
  obtain ⟨m, hm⟩ : ∃ m, tlistC (xs.map En.pl) q.data.toList = m := ⟨_, rfl⟩
  obtain ⟨L, hL⟩ : ∃ L, tlistL (xs.map En.pl) q.data.toList = L := ⟨_, rfl⟩
  obtain ⟨o, ho⟩ : ∃ o, lgetE xs q = o := ⟨_, rfl⟩
  have HT := Lib.hid (sTreeOk_c a c xs r (Lib.hid hr) w hs hxm hc hz)
  have HG := fun W (h : SlF En.cells W a xs) => Lib.hid (l2Get_c a c xs q o (Lib.hid ho) W h hxm)
  have HK := fun W (h : SlF En.cells W a xs) (hx : xs.length ≤ 1000000) => Lib.hid (l2Kids_c a c xs q W h hx hz)
  have HM := Lib.hid hm
  have HL := Lib.hid hL
  have HO := Lib.hid ho
  have HS := Lib.hid hs
  have HQ := Lib.hid hq
  rw [hm, hL]
  obtain ⟨n, hn⟩ : ∃ n, xs.length = n := ⟨_, rfl⟩
  rw [hn] at HT HG HK hx16 ⊢
  have GG := Lib.hid HG
  have GK := Lib.hid HK
  clear hn hm hL ho hs hz hxm HG HK hq hc
  cases r with
  | false =>
    have hbad := tlist_bad (q := q.data.toList) (t := xs.map En.pl) (fun h => by have := hr.2 h.1; cases this)
    obtain rfl : m = 1 := HM.out.symm.trans hbad.1
    have HLL : Hid (L = []) := HL.out.symm.trans hbad.2
    clear hr hbad hx16
    go_enter Tryd.func46, Tryd.ntmps46
    go_wp2_with fail
    refine (HT.out).mono ?_; rintro e W ⟨rfl, hq⟩; replace hb := chn hb hq; clear hq
    go_wp2
    go_ret2
    exact ⟨_, [], rfl, HLL.out.symm, World.ownsRow_lit _ #[] 0 (by have := hb.size; simp; try omega) (Nat.zero_le _) rfl, by repeat (first | exact hb | refine Below.alloc ?_ (by have := hb.size; simp; try omega) _)⟩
  | true =>
  by_cases hqr : q.data.toList ≠ [47] ∧ pathOkL q.data.toList = false
  · have hbad := tlist_bad (q := q.data.toList) (t := xs.map En.pl) (fun h => by rcases h.2 with h2 | h2; exact hqr.1 h2; rw [hqr.2] at h2; cases h2)
    obtain rfl : m = 1 := HM.out.symm.trans hbad.1
    have HLL : Hid (L = []) := HL.out.symm.trans hbad.2
    have q1 := beq_no hqr.1
    have HP := Lib.hid hqr.2
    clear hr hbad hqr hx16
    go_enter Tryd.func46, Tryd.ntmps46
    go_wp2_with fail
    refine (HT.out).mono ?_; rintro e W ⟨rfl, hq⟩; replace hb := chn hb hq; clear hq
    go_wp2_with fail
    refine (sPathOk_c q false HP _ HQ.out).mono ?_; rintro e W ⟨rfl, hq⟩; replace hb := chn hb hq; clear hq
    go_wp2
    go_ret2
    exact ⟨_, [], rfl, HLL.out.symm, World.ownsRow_lit _ #[] 0 (by have := hb.size; simp; try omega) (Nat.zero_le _) rfl, by repeat (first | exact hb | refine Below.alloc ?_ (by have := hb.size; simp; try omega) _)⟩
  have hqo : q.data.toList = [47] ∨ pathOkL q.data.toList = true := by
    by_cases h1 : q.data.toList = [47]
    · exact .inl h1
    · right
      cases h2 : pathOkL q.data.toList with
      | true => rfl
      | false => exact absurd ⟨h1, h2⟩ hqr
  have HMO : Hid (m = upC o) := by rw [Hid, ← HM.out, tlist_ok (hr.1 rfl) hqo, HO.out]
  have HPQ : Hid (q.data.toList = [47] ∨ (q.data.toList ≠ [47] ∧ pathOkL q.data.toList = true)) := by
    by_cases h1 : q.data.toList = [47]
    · exact .inl h1
    · exact .inr ⟨h1, hqo.resolve_left h1⟩
  have hx : n ≤ 16 := hx16 (hr.1 rfl)
  clear hqr hqo hr hx16
  rcases HPQ.out with hqq | ⟨hqq, hpp⟩
  · have q1 := beq_yes hqq
    clear hqq
    go_enter Tryd.func46, Tryd.ntmps46
    go_wp2_with fail
    refine (HT.out).mono ?_; rintro e W ⟨rfl, hq⟩; replace hb := chn hb hq; clear hq
    cases o with
    | none =>
      obtain rfl : m = 2 := HMO.out
      have HLL : Hid (L = []) := HL.out.symm.trans (tlist_n HM.out (by decide))
      go_wp2_with fail
      refine ((GG.out _ (HS.out.below hb)).out).mono ?_; rintro e W ⟨rfl, hq⟩; replace hb := chn hb hq; clear hq
      go_wp2
      go_ret2
      exact ⟨_, [], rfl, HLL.out.symm, own_lit2 hb.size, by repeat (first | exact hb | refine Below.alloc ?_ (by have := hb.size; simp; try omega) _)⟩
    | some d =>
      obtain ⟨dp, dd, dx⟩ := d
      cases dd with
      | false =>
        obtain rfl : m = 3 := HMO.out
        have HLL : Hid (L = []) := HL.out.symm.trans (tlist_n HM.out (by decide))
        go_wp2_with fail
        refine ((GG.out _ (HS.out.below hb)).out).mono ?_; rintro e W ⟨rfl, hq⟩; replace hb := chn hb hq; clear hq
        go_wp2
        go_ret2
        exact ⟨_, [], rfl, HLL.out.symm, own_lit2 hb.size, by repeat (first | exact hb | refine Below.alloc ?_ (by have := hb.size; simp; try omega) _)⟩
      | true =>
        obtain rfl : m = 0 := HMO.out
        have HLL : Hid (L = kidsL (xs.map En.pl) q.data.toList) := HL.out.symm.trans (tlist_0 HM.out)
        go_wp2_with fail
        refine ((GG.out _ (HS.out.below hb)).out).mono ?_; rintro e W ⟨rfl, hq⟩; replace hb := chn hb hq; clear hq
        have HSZ := Lib.hid hb.size
        replace hb := hb.alloc hb.size (.cells #[.string dp, .bool true, .string dx] 30)
        go_wp2_with fail
        refine (GK.out _ (HS.out.below hb) (by omega)).out.mono ?_; rintro e W' ⟨v, ss, rfl, hss, hown, hq⟩
        have HSS := Lib.hid hss
        clear hss
        replace hb := chn hb hq
        go_wp2
        go_ret2
        exact ⟨_, ss, rfl, HSS.out.trans HLL.out.symm, hown.mono (by simp; have := HSZ.out; omega), hb⟩
  · have q1 := beq_no hqq
    have HP := Lib.hid hpp
    clear hqq hpp
    go_enter Tryd.func46, Tryd.ntmps46
    go_wp2_with fail
    refine (HT.out).mono ?_; rintro e W ⟨rfl, hq⟩; replace hb := chn hb hq; clear hq
    go_wp2_with fail
    refine (sPathOk_c q true HP _ HQ.out).mono ?_; rintro e W ⟨rfl, hq⟩; replace hb := chn hb hq; clear hq
    cases o with
    | none =>
      obtain rfl : m = 2 := HMO.out
      have HLL : Hid (L = []) := HL.out.symm.trans (tlist_n HM.out (by decide))
      go_wp2_with fail
      refine ((GG.out _ (HS.out.below hb)).out).mono ?_; rintro e W ⟨rfl, hq⟩; replace hb := chn hb hq; clear hq
      go_wp2
      go_ret2
      exact ⟨_, [], rfl, HLL.out.symm, own_lit2 hb.size, by repeat (first | exact hb | refine Below.alloc ?_ (by have := hb.size; simp; try omega) _)⟩
    | some d =>
      obtain ⟨dp, dd, dx⟩ := d
      cases dd with
      | false =>
        obtain rfl : m = 3 := HMO.out
        have HLL : Hid (L = []) := HL.out.symm.trans (tlist_n HM.out (by decide))
        go_wp2_with fail
        refine ((GG.out _ (HS.out.below hb)).out).mono ?_; rintro e W ⟨rfl, hq⟩; replace hb := chn hb hq; clear hq
        go_wp2
        go_ret2
        exact ⟨_, [], rfl, HLL.out.symm, own_lit2 hb.size, by repeat (first | exact hb | refine Below.alloc ?_ (by have := hb.size; simp; try omega) _)⟩
      | true =>
        obtain rfl : m = 0 := HMO.out
        have HLL : Hid (L = kidsL (xs.map En.pl) q.data.toList) := HL.out.symm.trans (tlist_0 HM.out)
        go_wp2_with fail
        refine ((GG.out _ (HS.out.below hb)).out).mono ?_; rintro e W ⟨rfl, hq⟩; replace hb := chn hb hq; clear hq
        have HSZ := Lib.hid hb.size
        replace hb := hb.alloc hb.size (.cells #[.string dp, .bool true, .string dx] 30)
        go_wp2_with fail
        refine (GK.out _ (HS.out.below hb) (by omega)).out.mono ?_; rintro e W' ⟨v, ss, rfl, hss, hown, hq⟩
        have HSS := Lib.hid hss
        clear hss
        replace hb := chn hb hq
        go_wp2
        go_ret2
        exact ⟨_, ss, rfl, HSS.out.trans HLL.out.symm, hown.mono (by simp; have := HSZ.out; omega), hb⟩
end Go.Proofs.YtkhbkhibjflgmaaDoor
