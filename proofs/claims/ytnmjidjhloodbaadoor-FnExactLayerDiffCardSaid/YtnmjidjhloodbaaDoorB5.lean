/- The walks of markAt and LayerOk, of the program and of the reference. Small laws for rows of structs that the call itself makes: one more struct, a whole slice of structs. The walk of the program's joinMarks. The library's sort at this translation, laid in plain words by the kit's own tool. The library's sort at entries and at marks: the comparison's walk, the row before and behind it. The walk of the program's LayerJoin. The walk of the reference's l3Tidy. The walk of the reference's l3Put. The walks of the reference's l3Both, l3Join. Conditions: each theorem's own. -/
import Derived.Test.YtnmjidjhloodbaaDoorB4
import Derived.Test.YtnmjidjhloodbaaDoorB1
import Derived.Test.YtnmjidjhloodbaaDoorB2
import Derived.Laws.AppendOwnNone
import Derived.Shelf.SlSortCmp.WholeK
import Derived.Ground.SlsfProg
import Derived.Test.YtnmjidjhloodbaaDoorProg
import Derived.Shelf.SlSortCmp.NoneTotal
import Derived.StillTailTactics
namespace Go.Proofs.YtnmjidjhloodbaaDoor
open Go.RowKit
abbrev optM (o : Option Mk) : Value := match o with
  | some e => .tuple #[e.val, .bool true]
  | none => .tuple #[.agg #[.string ⟨#[]⟩, .int .i64 0, .string ⟨#[]⟩], .bool false]
set_option maxHeartbeats 2000000 in
theorem markAt_c (a : Option Addr) (c : Nat) (xs : List Mk) (q : ByteArray) (o : Option Mk) (ho : Hid (getM xs q = o)) (w : World) (hs : SlF Mk.cells w a xs) (hx : xs.length ≤ maxLen) :
    Calls Tryd.prog 37 #[.slice a xs.length c, .string q] w fun r w' => r = .returned (optM o) ∧ Below w.heap.size w w' := by
  obtain ⟨n, hn⟩ : ∃ n, xs.length = n := ⟨_, rfl⟩
  rw [hn] at hx ⊢
  unfold maxLen at hx
  have HN := Lib.hid hn
  obtain ⟨z, hz⟩ : ∃ z, w.alloc (.cells #[.string ⟨#[]⟩, .int .i64 0, .string ⟨#[]⟩] 45) = z := ⟨_, rfl⟩
  have HS := Lib.hid (hs.below (hz ▸ bellow_alloc w _ : Below w.heap.size w z))
  have hzs : z.heap.size = w.heap.size + 1 := by rw [← hz]; simp
  have c0 : z.cell? ⟨w.heap.size, 0, none⟩ = some (.string ⟨#[]⟩) := by rw [← hz]; exact new_cell _ _ _ 0 _ rfl
  have c1 : z.cell? ⟨w.heap.size, 1, none⟩ = some (.int .i64 0) := by rw [← hz]; exact new_cell _ _ _ 1 _ rfl
  have c2 : z.cell? ⟨w.heap.size, 2, none⟩ = some (.string ⟨#[]⟩) := by rw [← hz]; exact new_cell _ _ _ 2 _ rfl
  have hfz : ∀ j, z.frozen? ⟨w.heap.size, j, none⟩ = false := fun j => by rw [← hz]; exact new_free w _ _ j
  have HW := Lib.hid (hz ▸ bellow_alloc w _ : Below w.heap.size w z)
  have HF := Lib.hid hfz
  have HC0 := Lib.hid c0
  have HC1 := Lib.hid c1
  have HC2 := Lib.hid c2
  have HZ := Lib.hid hzs
  clear hn hs hzs c0 c1 c2 hfz
  go_enter Tryd.func37, Tryd.ntmps37
  go_wp2
  clear hz
  go_loopw [7, 10] (fun _ i wr => ∃ k : Nat, k ≤ n ∧ i = .int .i64 k ∧ (∀ (j : Nat) (f : Mk), j < k → xs[j]? = some f → f.p.data.toList ≠ q.data.toList) ∧ Below z.heap.size z wr) (fun _ i _ => n - (intOf i).toNat)
  case atStart => exact ⟨0, Nat.zero_le _, rfl, fun j _ h => absurd h (by omega), Below.refl _ _⟩
  case round =>
    obtain ⟨k, hk, rfl, hall, hb⟩ := hrel
    have HA := Lib.hid hall
    clear hall
    have hlt0 : w.heap.size < wr.heap.size := by have := hb.size; rw [HZ.out] at this; omega
    have g0 := keepc hb HC0.out
    have g1 := keepc hb HC1.out
    have g2 := keepc hb HC2.out
    have f0 := (hb.frozen (p := ⟨w.heap.size, 0, none⟩) (by rw [HZ.out]; simp)).trans (HF.out 0)
    have f1 := (hb.frozen (p := ⟨w.heap.size, 1, none⟩) (by rw [HZ.out]; simp)).trans (HF.out 1)
    have f2 := (hb.frozen (p := ⟨w.heap.size, 2, none⟩) (by rw [HZ.out]; simp)).trans (HF.out 2)
    by_cases hlt : k < n
    · obtain ⟨e, hee⟩ : ∃ e, xs[k]? = some e := ⟨_, List.getElem?_eq_getElem (by rw [HN.out]; exact hlt)⟩
      have h2 := (HS.out.below hb)
      obtain ⟨b, off, rfl, _⟩ := h2.addr (by rw [HN.out]; omega)
      obtain ⟨c0, c1, c2⟩ := mk_at h2 k e hee
      have hg := getM_skip xs q k e hee HA.out
      have HG := Lib.hid hg
      have HEE := Lib.hid hee
      clear h2 hg hee
      by_cases heq : e.p.data.toList = q.data.toList
      · have hq := beqs_yes heq
        obtain rfl : o = some e := by rw [← ho.out, HG.out, if_pos heq]
        clear heq
        go_wp2
        obtain ⟨q0, q1, q2⟩ := three_set wr w.heap.size _ _ _ (.string e.p) (.int .i64 e.k) (.string e.x) g0 g1 g2 (.cells #[.string e.p, .int .i64 e.k, .string e.x] 45)
        refine bodyPost_ret (v := optM (some e)) (by simp [results, Tryd.results37, go_sem, q0, q1, q2]) rfl ⟨rfl, ?_⟩
        have HB := HW.out.trans (hb.mono (by rw [HZ.out]; omega))
        repeat (first | exact HB | refine Below.alloc ?_ (by simp; try omega) _ | refine Below.setCell ?_ (by simp; try omega) _)
      · have hq := beqs_no heq
        have HQ := Lib.hid heq
        clear heq
        go_wp2
        go_roundw
        case rel => exact ⟨k + 1, by omega, by go_num, fun j f hj hf => by
          by_cases ej : j = k
          · subst ej
            rw [HEE.out] at hf
            injection hf with hf
            exact hf ▸ HQ.out
          · exact HA.out j f (by omega) hf, hb.alloc hb.size _⟩
        case measure => simp [intOf]; omega
    · obtain rfl : o = none := by
        rw [← ho.out]
        exact getM_none xs q (fun j f hf => HA.out j f (by have := (List.getElem?_eq_some_iff.1 hf).1; rw [HN.out] at this; omega) hf)
      go_wp2
      refine bodyPost_ret (v := optM none) (by simp [results, Tryd.results37, go_sem, g0, g1, g2]) rfl ⟨rfl, ?_⟩
      have HB := HW.out.trans (hb.mono (by rw [HZ.out]; omega))
      repeat (first | exact HB | refine Below.alloc ?_ (by simp; try omega) _ | refine Below.setCell ?_ (by simp; try omega) _)
/-- What the program asks of the mark at place k. -/
def MAskM (xs : List Mk) (k : Nat) (e : Mk) : Prop := MAskI (xs.map Mk.pl) k e.pl
def MAskR (xs : List Mk) (k : Nat) (e : Mk) : Prop := MAskS (xs.map Mk.pl) k e.pl
theorem lok_M (xs : List Mk) : LOk (xs.map Mk.pl) ↔ xs.length ≤ 32 ∧ ∀ (k : Nat) (e : Mk), xs[k]? = some e → MAskM xs k e := by
  rw [lok_iff, List.length_map]
  constructor
  · rintro ⟨h1, h2⟩
    exact ⟨h1, fun k e he => h2 k e.pl (by simp [he])⟩
  · rintro ⟨h1, h2⟩
    refine ⟨h1, fun k e he => ?_⟩
    rw [List.getElem?_map, Option.map_eq_some_iff] at he
    obtain ⟨f, hf, rfl⟩ := he
    exact h2 k f hf
theorem lok_R (xs : List Mk) : LOk (xs.map Mk.pl) ↔ xs.length ≤ 32 ∧ ∀ (k : Nat) (e : Mk), xs[k]? = some e → MAskR xs k e := by
  rw [lok_iffS, List.length_map]
  constructor
  · rintro ⟨h1, h2⟩
    exact ⟨h1, fun k e he => h2 k e.pl (by simp [he])⟩
  · rintro ⟨h1, h2⟩
    refine ⟨h1, fun k e he => ?_⟩
    rw [List.getElem?_map, Option.map_eq_some_iff] at he
    obtain ⟨f, hf, rfl⟩ := he
    exact h2 k f hf
theorem lok_dec (xs : List Mk) : ∃ r : Bool, r = true ↔ LOk (xs.map Mk.pl) := ⟨by classical exact decide (LOk (xs.map Mk.pl)), by simp⟩
theorem mless_of (xs : List Mk) (k : Nat) (f e : Mk) (hf : xs[k]? = some f) (h2 : Op.bytesLess f.p.toList e.p.toList = true) : ∀ g, 0 < k + 1 → (xs.map Mk.pl)[k + 1 - 1]? = some g → Op.bytesLess g.p e.pl.p = true := by
  intro g _ hg
  rw [Nat.add_sub_cancel, List.getElem?_map, hf] at hg
  injection hg with hg
  rw [← hg]
  rw [less_of'] at h2
  exact h2
theorem mless_at (xs : List Mk) (k : Nat) (f e : Mk) (hf : xs[k]? = some f) (h : ∀ g, 0 < k + 1 → (xs.map Mk.pl)[k + 1 - 1]? = some g → Op.bytesLess g.p e.pl.p = true) : Op.bytesLess f.p.toList e.p.toList = true := by
  have := h f.pl (by omega) (by rw [Nat.add_sub_cancel, List.getElem?_map, hf]; rfl)
  rw [less_of']
  exact this
theorem upM_G (xs : List Mk) (q u : ByteArray) (hu : upL q.data.toList = u.data.toList) (hr : u.data.toList ≠ [47]) : upM (xs.map Mk.pl) q.data.toList = match getM xs u with
    | some m => dirM m.pl
    | none => false := by
  unfold upM
  rw [hu, getM_pl]
  have : (u.data.toList == [47]) = false := by simpa using hr
  rw [this, Bool.false_or]
  cases getM xs u <;> rfl
theorem upM_root (l : List PM) (q : Bs) (hu : upL q = [47]) : upM l q = true := by unfold upM; rw [hu]; rfl
set_option maxRecDepth 100000 in
set_option maxHeartbeats 8000000 in
theorem layerOk_c (a : Option Addr) (c : Nat) (xs : List Mk) (r : Bool) (hr : Hid (r = true ↔ LOk (xs.map Mk.pl))) (w : World) (hs : SlF Mk.cells w a xs) (hx : xs.length ≤ maxLen) (hz : ∀ e ∈ xs, e.p.size ≤ 2000000 ∧ e.x.size ≤ 2000000) :
    Calls Tryd.prog 23 #[.slice a xs.length c] w fun q w' => q = .returned (.bool r) ∧ Below w.heap.size w w' := by
  have hR : Hid (r = true ↔ xs.length ≤ 32 ∧ ∀ (k : Nat) (e : Mk), xs[k]? = some e → MAskM xs k e) := by rw [Hid, hr.out, lok_M]
  have HM := fun (q : ByteArray) (o : Option Mk) (ho : Hid (getM xs q = o)) (W : World) (h : SlF Mk.cells W a xs) => Lib.hid (markAt_c a c xs q o ho W h hx)
  have HB := fun (q : ByteArray) (hq : q.size ≤ 2000000) (v : Bool) (hv : Hid (bareL (xs.map Mk.pl) q.data.toList = v)) => Lib.hid (fun (W : World) (h : SlF Mk.cells W a xs) => Lib.hid (belowBare_c a c xs q v hv W h hx hq hz))
  have HZ := Lib.hid hz
  have HS := Lib.hid hs
  obtain ⟨n, hn⟩ : ∃ n, xs.length = n := ⟨_, rfl⟩
  have HN := Lib.hid hn
  rw [hn] at hR hx HM HB ⊢
  unfold maxLen at hx
  have GM := Lib.hid HM
  have GB0 := Lib.hid HB
  clear hn hz hs hr HM HB
  by_cases h16 : 32 < n
  · obtain rfl : r = false := by
      cases r
      · rfl
      · have := hR.out.1 rfl; omega
    go_enter Tryd.func23, Tryd.ntmps23
    go_wp2
    go_ret
    exact ⟨rfl, Below.refl _ _⟩
  have hno : Hid (∀ (k : Nat) (e : Mk), xs[k]? = some e → ¬ MAskM xs k e → r = false) := fun k e he hne => by
    cases r
    · rfl
    · exact absurd ((hR.out.1 rfl).2 k e he) hne
  go_enter Tryd.func23, Tryd.ntmps23
  go_wp2
  go_loopw [3, 4, 5, 6, 7, 13] (fun _ _ _ _ _ i wr => ∃ k : Nat, k ≤ n ∧ i = .int .i64 k ∧ (∀ (j : Nat) (e : Mk), j < k → xs[j]? = some e → MAskM xs j e) ∧ Below w.heap.size w wr) (fun _ _ _ _ _ i _ => n - (intOf i).toNat)
  case atStart => exact ⟨0, Nat.zero_le _, rfl, fun j _ h => absurd h (by omega), Below.refl _ _⟩
  case round =>
    obtain ⟨k, hk, rfl, hall, hb⟩ := hrel
    have HA := Lib.hid hall
    clear hall
    by_cases hlt : k < n
    · obtain ⟨e, hee⟩ : ∃ e, xs[k]? = some e := ⟨_, List.getElem?_eq_getElem (by rw [HN.out]; exact hlt)⟩
      have h2 := (HS.out.below hb)
      obtain ⟨b, off, rfl, _⟩ := h2.addr (by rw [HN.out]; omega)
      obtain ⟨d0, d1, d2⟩ := mk_at h2 k e hee
      have hzz := HZ.out e (List.mem_of_getElem? hee)
      have HNO := Lib.hid (fun h => hno.out k e hee h)
      have HEE := Lib.hid hee
      have h3 := h2
      clear h2 hee
      obtain ⟨ep, ek, ex⟩ := e
      have hz1 : ep.size ≤ maxLen := Nat.le_trans hzz.1 (by unfold maxLen; omega)
      have hz2 : ex.size ≤ maxLen := Nat.le_trans hzz.2 (by unfold maxLen; omega)
      have HZ1 := Lib.hid hz1
      have HZ2 := Lib.hid hz2
      have GB := Lib.hid (fun v hv => GB0.out ep hzz.1 v hv)
      obtain ⟨u, hu, hus⟩ := up_str20 ep
      clear hzz hz1 hz2
      have c0 := new_cell wr #[.string ep, .int .i64 ek, .string ex] 45 0 _ rfl
      have c1 := new_cell wr #[.string ep, .int .i64 ek, .string ex] 45 1 _ rfl
      have c2 := new_cell wr #[.string ep, .int .i64 ek, .string ex] 45 2 _ rfl
      replace hb := hb.alloc hb.size (.cells #[.string ep, .int .i64 ek, .string ex] 45)
      obtain ⟨p1, hp1⟩ : ∃ x, markOkL (Mk.pl ⟨ep, ek, ex⟩) = x := ⟨_, rfl⟩
      have H1 := Lib.hid hp1
      clear hp1
      cases p1 with
      | false =>
        obtain rfl : r = false := HNO.out (fun h => by have := h.1; rw [H1.out] at this; cases this)
        go_wp2_with fail
        refine (markOk_c ⟨ep, ek, ex⟩ false H1 _ HZ1.out HZ2.out).mono ?_; rintro e W ⟨rfl, hq⟩; replace hb := chn hb hq; clear hq
        go_wp2
        go_ret
        exact ⟨rfl, hb⟩
      | true =>
      have hkk : 1 ≤ ek ∧ ek ≤ 4 := markOk_kind H1.out
      have HKK := Lib.hid hkk
      clear hkk
      cases k with
      | zero =>
        rw [Nat.zero_mul, Nat.add_zero] at d0 d1 d2
        have ASK := Lib.hid (fun (h3 : upM (xs.map Mk.pl) ep.data.toList = true) (h4 : 2 < ek → bareL (xs.map Mk.pl) ep.data.toList = false) (j : Nat) (g : Mk) (hj : j < 0 + 1) (hg : xs[j]? = some g) => (by
          have ej : j = 0 := by omega
          subst ej
          rw [HEE.out] at hg
          injection hg with hg
          rw [← hg]
          exact ⟨H1.out, fun _ h _ => absurd h (by omega), h3, h4⟩ : MAskM xs j g))
        clear h3
        go_wp2_with fail
        refine (markOk_c ⟨ep, ek, ex⟩ true H1 _ HZ1.out HZ2.out).mono ?_; rintro e W ⟨rfl, hq⟩; replace hb := chn hb hq; replace c0 := keepc hq c0; replace c1 := keepc hq c1; replace c2 := keepc hq c2; clear hq
        go_wp2_with fail
        go_quiet (fail)
        go_wp2_with fail
        refine (pathUp_c ep u hu _ HZ1.out).mono ?_; rintro e W ⟨rfl, hq⟩; replace hb := chn (drw hb _) hq; replace c0 := keepc hq c0; replace c1 := keepc hq c1; replace c2 := keepc hq c2; clear hq
        by_cases hrt : u.data.toList = [47]
        · have q2 := beq_yes hrt
          have HUP := Lib.hid (upM_root (xs.map Mk.pl) ep.data.toList (hu.out.trans hrt))
          clear hrt
          by_cases k3 : 2 < ek
          · obtain ⟨v, hv⟩ : ∃ v, bareL (xs.map Mk.pl) ep.data.toList = v := ⟨_, rfl⟩
            have HV := Lib.hid hv
            clear hv
            have HBB := GB.out v HV
            rcases (by have := HKK.out; omega : ek = 3 ∨ ek = 4) with hek | hek <;> subst hek
            all_goals
              go_wp2_with fail
              refine (HBB.out _ (HS.out.below hb)).out.mono ?_; rintro e' W' ⟨rfl, hq⟩; replace hb := chn hb hq; clear hq
              cases v with
              | true =>
                obtain rfl : r = false := HNO.out (fun h => by have := h.2.2.2 k3; rw [show (Mk.pl ⟨ep, _, ex⟩).p = ep.data.toList from rfl, HV.out] at this; cases this)
                go_wp2
                go_ret
                exact ⟨rfl, by repeat (first | exact hb | refine Below.alloc ?_ (by have := hb.size; simp; try omega) _)⟩
              | false =>
                go_wp2
                go_roundw
                case rel => exact ⟨(0+1), by omega, by go_num, ASK.out HUP.out (fun _ => HV.out), by repeat (first | exact hb | refine Below.alloc ?_ (by have := hb.size; simp; try omega) _)⟩
                case measure => simp [intOf]; omega
          · have n3 : (ek == 3) = false := by rw [beq_eq_false_iff_ne]; omega
            have n4 : (ek == 4) = false := by rw [beq_eq_false_iff_ne]; omega
            go_wp2
            go_roundw
            case rel => exact ⟨(0+1), by omega, by go_num, ASK.out HUP.out (fun h => (by exfalso; omega)), by repeat (first | exact hb | refine Below.alloc ?_ (by have := hb.size; simp; try omega) _)⟩
            case measure => simp [intOf]; omega
        · have q2 := beq_no hrt
          have HUP := Lib.hid (upM_G xs ep u hu.out hrt)
          clear hrt
          obtain ⟨o, ho⟩ : ∃ o, getM xs u = o := ⟨_, rfl⟩
          have HO := Lib.hid ho
          clear ho
          go_wp2_with fail
          refine ((GM.out u o HO _ (HS.out.below hb)).out).mono ?_; rintro e W ⟨rfl, hq⟩; replace hb := chn hb hq; replace c0 := keepc hq c0; replace c1 := keepc hq c1; replace c2 := keepc hq c2; clear hq
          cases o with
          | none =>
            obtain rfl : r = false := HNO.out (fun h => by have h := h.2.2.1; rw [show (Mk.pl ⟨ep, ek, ex⟩).p = ep.data.toList from rfl, HUP.out, HO.out] at h; cases h)
            go_wp2
            go_ret
            exact ⟨rfl, by repeat (first | exact hb | refine Below.alloc ?_ (by have := hb.size; simp; try omega) _)⟩
          | some f =>
            obtain ⟨v, hv⟩ : ∃ v, dirM f.pl = v := ⟨_, rfl⟩
            have HV := Lib.hid hv
            clear hv
            obtain ⟨fp, fk, fx⟩ := f
            replace hb := hb.alloc hb.size (.cells #[.string fp, .int .i64 fk, .string fx] 45); replace c0 := keepc (bellow_alloc _ (.cells #[.string fp, .int .i64 fk, .string fx] 45)) c0; replace c1 := keepc (bellow_alloc _ (.cells #[.string fp, .int .i64 fk, .string fx] 45)) c1; replace c2 := keepc (bellow_alloc _ (.cells #[.string fp, .int .i64 fk, .string fx] 45)) c2; 
            go_wp2_with fail
            refine (isDir_c ⟨fp, fk, fx⟩ v HV _).mono ?_; rintro e W ⟨rfl, hq⟩; replace hb := chn hb hq; replace c0 := keepc hq c0; replace c1 := keepc hq c1; replace c2 := keepc hq c2; clear hq
            cases v with
            | false =>
              obtain rfl : r = false := HNO.out (fun h => by have h := h.2.2.1; rw [show (Mk.pl ⟨ep, ek, ex⟩).p = ep.data.toList from rfl, HUP.out, HO.out] at h; exact absurd (h.symm.trans HV.out) (by simp))
              go_wp2
              go_ret
              exact ⟨rfl, by repeat (first | exact hb | refine Below.alloc ?_ (by have := hb.size; simp; try omega) _)⟩
            | true =>
              have HUQ : Hid (upM (xs.map Mk.pl) ep.data.toList = true) := by rw [Hid, HUP.out, HO.out]; exact HV.out
              clear HV HO HUP
              by_cases k3 : 2 < ek
              · obtain ⟨v, hv⟩ : ∃ v, bareL (xs.map Mk.pl) ep.data.toList = v := ⟨_, rfl⟩
                have HV := Lib.hid hv
                clear hv
                have HBB := GB.out v HV
                rcases (by have := HKK.out; omega : ek = 3 ∨ ek = 4) with hek | hek <;> subst hek
                all_goals
                  go_wp2_with fail
                  refine (HBB.out _ (HS.out.below hb)).out.mono ?_; rintro e' W' ⟨rfl, hq⟩; replace hb := chn hb hq; clear hq
                  cases v with
                  | true =>
                    obtain rfl : r = false := HNO.out (fun h => by have := h.2.2.2 k3; rw [show (Mk.pl ⟨ep, _, ex⟩).p = ep.data.toList from rfl, HV.out] at this; cases this)
                    go_wp2
                    go_ret
                    exact ⟨rfl, by repeat (first | exact hb | refine Below.alloc ?_ (by have := hb.size; simp; try omega) _)⟩
                  | false =>
                    go_wp2
                    go_roundw
                    case rel => exact ⟨(0+1), by omega, by go_num, ASK.out HUQ.out (fun _ => HV.out), by repeat (first | exact hb | refine Below.alloc ?_ (by have := hb.size; simp; try omega) _)⟩
                    case measure => simp [intOf]; omega
              · have n3 : (ek == 3) = false := by rw [beq_eq_false_iff_ne]; omega
                have n4 : (ek == 4) = false := by rw [beq_eq_false_iff_ne]; omega
                go_wp2
                go_roundw
                case rel => exact ⟨(0+1), by omega, by go_num, ASK.out HUQ.out (fun h => (by exfalso; omega)), by repeat (first | exact hb | refine Below.alloc ?_ (by have := hb.size; simp; try omega) _)⟩
                case measure => simp [intOf]; omega
      | succ k =>
        obtain ⟨f, hff⟩ : ∃ f, xs[k]? = some f := ⟨_, List.getElem?_eq_getElem (by rw [HN.out]; omega)⟩
        obtain ⟨c3, _, _⟩ := mk_at h3 k f hff
        replace c3 := keepc (bellow_alloc wr (.cells #[.string ep, .int .i64 ek, .string ex] 45)) c3
        have HFF := Lib.hid hff
        clear hff h3
        rcases Bool.eq_false_or_eq_true (Op.bytesLess f.p.toList ep.toList) with hle | hle
        · have HLE := Lib.hid hle
          have ASK := Lib.hid (fun (h3 : upM (xs.map Mk.pl) ep.data.toList = true) (h4 : 2 < ek → bareL (xs.map Mk.pl) ep.data.toList = false) (j : Nat) (g : Mk) (hj : j < k + 1 + 1) (hg : xs[j]? = some g) => (by
            by_cases ej : j = k + 1
            · subst ej
              rw [HEE.out] at hg
              injection hg with hg
              rw [← hg]
              exact ⟨H1.out, mless_of xs k f ⟨ep, ek, ex⟩ HFF.out HLE.out, h3, h4⟩
            · exact HA.out j g (by omega) hg : MAskM xs j g))
          go_wp2_with fail
          refine (markOk_c ⟨ep, ek, ex⟩ true H1 _ HZ1.out HZ2.out).mono ?_; rintro e W ⟨rfl, hq⟩; replace hb := chn hb hq; replace c0 := keepc hq c0; replace c1 := keepc hq c1; replace c2 := keepc hq c2; replace c3 := keepc hq c3; clear hq
          go_wp2_with fail
          go_quiet (fail)
          clear hle c3
          go_wp2_with fail
          refine (pathUp_c ep u hu _ HZ1.out).mono ?_; rintro e W ⟨rfl, hq⟩; replace hb := chn (drw hb _) hq; replace c0 := keepc hq c0; replace c1 := keepc hq c1; replace c2 := keepc hq c2; clear hq
          by_cases hrt : u.data.toList = [47]
          · have q2 := beq_yes hrt
            have HUP := Lib.hid (upM_root (xs.map Mk.pl) ep.data.toList (hu.out.trans hrt))
            clear hrt
            by_cases k3 : 2 < ek
            · obtain ⟨v, hv⟩ : ∃ v, bareL (xs.map Mk.pl) ep.data.toList = v := ⟨_, rfl⟩
              have HV := Lib.hid hv
              clear hv
              have HBB := GB.out v HV
              rcases (by have := HKK.out; omega : ek = 3 ∨ ek = 4) with hek | hek <;> subst hek
              all_goals
                go_wp2_with fail
                refine (HBB.out _ (HS.out.below hb)).out.mono ?_; rintro e' W' ⟨rfl, hq⟩; replace hb := chn hb hq; clear hq
                cases v with
                | true =>
                  obtain rfl : r = false := HNO.out (fun h => by have := h.2.2.2 k3; rw [show (Mk.pl ⟨ep, _, ex⟩).p = ep.data.toList from rfl, HV.out] at this; cases this)
                  go_wp2
                  go_ret
                  exact ⟨rfl, by repeat (first | exact hb | refine Below.alloc ?_ (by have := hb.size; simp; try omega) _)⟩
                | false =>
                  go_wp2
                  go_roundw
                  case rel => exact ⟨(k+1+1), by omega, by go_num, ASK.out HUP.out (fun _ => HV.out), by repeat (first | exact hb | refine Below.alloc ?_ (by have := hb.size; simp; try omega) _)⟩
                  case measure => simp [intOf]; omega
            · have n3 : (ek == 3) = false := by rw [beq_eq_false_iff_ne]; omega
              have n4 : (ek == 4) = false := by rw [beq_eq_false_iff_ne]; omega
              go_wp2
              go_roundw
              case rel => exact ⟨(k+1+1), by omega, by go_num, ASK.out HUP.out (fun h => (by exfalso; omega)), by repeat (first | exact hb | refine Below.alloc ?_ (by have := hb.size; simp; try omega) _)⟩
              case measure => simp [intOf]; omega
          · have q2 := beq_no hrt
            have HUP := Lib.hid (upM_G xs ep u hu.out hrt)
            clear hrt
            obtain ⟨o, ho⟩ : ∃ o, getM xs u = o := ⟨_, rfl⟩
            have HO := Lib.hid ho
            clear ho
            go_wp2_with fail
            refine ((GM.out u o HO _ (HS.out.below hb)).out).mono ?_; rintro e W ⟨rfl, hq⟩; replace hb := chn hb hq; replace c0 := keepc hq c0; replace c1 := keepc hq c1; replace c2 := keepc hq c2; clear hq
            cases o with
            | none =>
              obtain rfl : r = false := HNO.out (fun h => by have h := h.2.2.1; rw [show (Mk.pl ⟨ep, ek, ex⟩).p = ep.data.toList from rfl, HUP.out, HO.out] at h; cases h)
              go_wp2
              go_ret
              exact ⟨rfl, by repeat (first | exact hb | refine Below.alloc ?_ (by have := hb.size; simp; try omega) _)⟩
            | some f =>
              obtain ⟨v, hv⟩ : ∃ v, dirM f.pl = v := ⟨_, rfl⟩
              have HV := Lib.hid hv
              clear hv
              obtain ⟨fp, fk, fx⟩ := f
              replace hb := hb.alloc hb.size (.cells #[.string fp, .int .i64 fk, .string fx] 45); replace c0 := keepc (bellow_alloc _ (.cells #[.string fp, .int .i64 fk, .string fx] 45)) c0; replace c1 := keepc (bellow_alloc _ (.cells #[.string fp, .int .i64 fk, .string fx] 45)) c1; replace c2 := keepc (bellow_alloc _ (.cells #[.string fp, .int .i64 fk, .string fx] 45)) c2; 
              go_wp2_with fail
              refine (isDir_c ⟨fp, fk, fx⟩ v HV _).mono ?_; rintro e W ⟨rfl, hq⟩; replace hb := chn hb hq; replace c0 := keepc hq c0; replace c1 := keepc hq c1; replace c2 := keepc hq c2; clear hq
              cases v with
              | false =>
                obtain rfl : r = false := HNO.out (fun h => by have h := h.2.2.1; rw [show (Mk.pl ⟨ep, ek, ex⟩).p = ep.data.toList from rfl, HUP.out, HO.out] at h; exact absurd (h.symm.trans HV.out) (by simp))
                go_wp2
                go_ret
                exact ⟨rfl, by repeat (first | exact hb | refine Below.alloc ?_ (by have := hb.size; simp; try omega) _)⟩
              | true =>
                have HUQ : Hid (upM (xs.map Mk.pl) ep.data.toList = true) := by rw [Hid, HUP.out, HO.out]; exact HV.out
                clear HV HO HUP
                by_cases k3 : 2 < ek
                · obtain ⟨v, hv⟩ : ∃ v, bareL (xs.map Mk.pl) ep.data.toList = v := ⟨_, rfl⟩
                  have HV := Lib.hid hv
                  clear hv
                  have HBB := GB.out v HV
                  rcases (by have := HKK.out; omega : ek = 3 ∨ ek = 4) with hek | hek <;> subst hek
                  all_goals
                    go_wp2_with fail
                    refine (HBB.out _ (HS.out.below hb)).out.mono ?_; rintro e' W' ⟨rfl, hq⟩; replace hb := chn hb hq; clear hq
                    cases v with
                    | true =>
                      obtain rfl : r = false := HNO.out (fun h => by have := h.2.2.2 k3; rw [show (Mk.pl ⟨ep, _, ex⟩).p = ep.data.toList from rfl, HV.out] at this; cases this)
                      go_wp2
                      go_ret
                      exact ⟨rfl, by repeat (first | exact hb | refine Below.alloc ?_ (by have := hb.size; simp; try omega) _)⟩
                    | false =>
                      go_wp2
                      go_roundw
                      case rel => exact ⟨(k+1+1), by omega, by go_num, ASK.out HUQ.out (fun _ => HV.out), by repeat (first | exact hb | refine Below.alloc ?_ (by have := hb.size; simp; try omega) _)⟩
                      case measure => simp [intOf]; omega
                · have n3 : (ek == 3) = false := by rw [beq_eq_false_iff_ne]; omega
                  have n4 : (ek == 4) = false := by rw [beq_eq_false_iff_ne]; omega
                  go_wp2
                  go_roundw
                  case rel => exact ⟨(k+1+1), by omega, by go_num, ASK.out HUQ.out (fun h => (by exfalso; omega)), by repeat (first | exact hb | refine Below.alloc ?_ (by have := hb.size; simp; try omega) _)⟩
                  case measure => simp [intOf]; omega
        · obtain rfl : r = false := HNO.out (fun h => by have := mless_at xs k f ⟨ep, ek, ex⟩ HFF.out h.2.1; rw [hle] at this; cases this)
          go_wp2_with fail
          refine (markOk_c ⟨ep, ek, ex⟩ true H1 _ HZ1.out HZ2.out).mono ?_; rintro e W ⟨rfl, hq⟩; replace hb := chn hb hq; replace c0 := keepc hq c0; replace c1 := keepc hq c1; replace c2 := keepc hq c2; replace c3 := keepc hq c3; clear hq
          go_wp2_with fail
          go_quiet (fail)
          go_wp2
          go_ret
          exact ⟨rfl, drw hb _⟩
    · obtain rfl : r = true := hR.out.2 ⟨by omega, fun j e he => HA.out j e (by have := (List.getElem?_eq_some_iff.1 he).1; rw [HN.out] at this; omega) he⟩
      go_wp2
      go_ret
      exact ⟨rfl, hb⟩
end Go.Proofs.YtnmjidjhloodbaaDoor
namespace Go.Proofs.YtnmjidjhloodbaaDoor
open Go.RowKit
/-- The same, the heap's size spelled otherwise. -/
theorem wp_app1H {P : Program} {ops : Array Oper} {rest : List Oper} {o : Oper} {a : Act} {Q : Exit → Act → World → Prop} (hgd : o.guard = none) (s x : Operand) (t : TypeId)
    (ho : o.op = .call { callee := .builtin .append, args := #[s, x], argTypes := #[t, t] }) {e : TypeId} {size bytes : Nat} (E : Elt P t e size bytes)
    (base B : Nat) (w0 w : World) (cs : Array Value) (v : Value) (n : Nat) (xs : List Value) (hs : a.eval s = v) (H : Nat) (hH : w.heap.size = H) (hx : a.eval x = .slice (some ⟨H, 0, none⟩) 1 1)
    (hown : w.ownsRow base e size v n xs) (hcs : cs.size = size) (h1 : ∀ u ∈ cs.toList, u.oneCell' = true) (hn : n ≤ 1000000) (hbase : base ≤ w.heap.size) (hB : Below B w0 w) (hBb : B ≤ base)
    (h : ∀ v' w', w'.ownsRow base e size v' (n + 1) (xs ++ cs.toList) → Below B w0 w' → w.heap.size ≤ w'.heap.size → (w.alloc (.cells cs e)).grownBy w' v.ownBlock → wpList P ops Q rest (a.put o.dst v') w') :
    wpList P ops Q (o :: rest) a (w.alloc (.cells cs e)) :=
  wp_app1 hgd s x t ho E base B w0 w cs v n xs hs (hH ▸ hx) hown hcs h1 hn hbase hB hBb h
theorem SlF.drop {α : Type} {f : α → List Value} {w : World} {b off : Nat} {xs : List α} (h : SlF f w (some ⟨b, off, none⟩) xs) (k : Nat) : SlF f w (some ⟨b, off + k * 3, none⟩) (xs.drop k) := fun hn => by
  rw [List.length_drop] at hn
  obtain ⟨b', off', e, hlt, hc⟩ := h (by omega)
  simp only [Option.some.injEq, Addr.mk.injEq, and_true] at e
  obtain ⟨rfl, rfl⟩ := e
  refine ⟨b, off + k * 3, rfl, hlt, fun j x hj i u hu => ?_⟩
  rw [List.getElem?_drop] at hj
  have := hc (k + j) x hj i u hu
  rw [show off + k * 3 + j * 3 + i = off + (k + j) * 3 + i by omega]
  exact this
theorem SlF.cells_at {α : Type} {f : α → List Value} (hf : ∀ x, (f x).length = 3) {w : World} {b off : Nat} {xs : List α} (h : SlF f w (some ⟨b, off, none⟩) xs) : ∀ j u, (xs.flatMap f)[j]? = some u → w.cell? ((⟨b, off, none⟩ : Addr).add j) = some u := by
  intro j u hj
  have hl : j < xs.length * 3 := by
    have := (List.getElem?_eq_some_iff.1 hj).1
    rwa [flatMap_len hf] at this
  obtain ⟨b', off', e, hlt, hc⟩ := h (by omega)
  simp only [Option.some.injEq, Addr.mk.injEq, and_true] at e
  obtain ⟨rfl, rfl⟩ := e
  have hk : j / 3 < xs.length := by omega
  obtain ⟨x, hx⟩ : ∃ x, xs[j / 3]? = some x := ⟨_, List.getElem?_eq_getElem hk⟩
  have key : ∀ (ys : List α) (k i : Nat) (y : α), ys[k]? = some y → i < 3 → (ys.flatMap f)[k * 3 + i]? = (f y)[i]? := by
    intro ys
    induction ys with
    | nil => intro k i y hy; simp at hy
    | cons z r ih =>
      intro k i y hy hi
      rw [List.flatMap_cons]
      cases k with
      | zero =>
        simp at hy; subst hy
        rw [Nat.zero_mul, Nat.zero_add, List.getElem?_append_left (by rw [hf]; exact hi)]
      | succ k =>
        rw [List.getElem?_append_right (by rw [hf]; omega), hf, show (k + 1) * 3 + i - 3 = k * 3 + i by omega]
        exact ih k i y (by simpa using hy) hi
  have e1 : j / 3 * 3 + j % 3 = j := by omega
  have hu : (f x)[j % 3]? = some u := by rw [← key xs (j / 3) (j % 3) x hx (Nat.mod_lt _ (by omega)), e1]; exact hj
  have := hc (j / 3) x hx (j % 3) u hu
  have e2 : (⟨b, off, none⟩ : Addr).add j = ⟨b, off + j, none⟩ := by
    unfold Addr.add
    by_cases h : j = 0 <;> simp [h]
  rw [e2, show off + j = off + j / 3 * 3 + j % 3 by omega]
  exact this
/-- 'append(out, ys...)': a slice of structs of three cells onto a row of the call's own. -/
theorem wp_appS {P : Program} {ops : Array Oper} {rest : List Oper} {o : Oper} {a : Act} {Q : Exit → Act → World → Prop} (hgd : o.guard = none) (s x : Operand) (t : TypeId)
    (ho : o.op = .call { callee := .builtin .append, args := #[s, x], argTypes := #[t, t] }) {e : TypeId} {bytes : Nat} (E : Elt P t e 3 bytes)
    (base B : Nat) (w0 w : World) (v : Value) (n : Nat) (xs : List Value) (hs : a.eval s = v) {α : Type} (f : α → List Value) (hf : ∀ x, (f x).length = 3) (h1 : ∀ x, ∀ u ∈ f x, u.oneCell' = true) (ys : List α) (b off m c : Nat) (hm : ys.length = m) (hx : a.eval x = .slice (some ⟨b, off, none⟩) m c)
    (hsl : SlF f w (some ⟨b, off, none⟩) ys) (hown : w.ownsRow base e 3 v n xs) (hn : n + ys.length ≤ 2000000) (hbase : base ≤ w.heap.size) (hB : Below B w0 w) (hBb : B ≤ base)
    (h : ∀ v' w', w'.ownsRow base e 3 v' (n + ys.length) (xs ++ ys.flatMap f) → Below B w0 w' → w.heap.size ≤ w'.heap.size → w.grownBy w' v.ownBlock → wpList P ops Q rest (a.put o.dst v') w') :
    wpList P ops Q (o :: rest) a w := by
  subst hm
  obtain ⟨i, z, hi, hz, hsz, hby, hzs⟩ := E.info
  have hsm := E.small
  refine wpList_append_own _ hgd s x t ho base e i z 3 bytes E.und hi hz hsz hby hzs E.pos v n xs hs hown ⟨b, off, none⟩ ys.length c (ys.flatMap f) hx (flatMap_len hf ys) (hsl.cells_at hf) (fun u hu => ?_) (by unfold maxLen; omega) ?_ hbase ?_
  · obtain ⟨y, hy, hu⟩ := List.mem_flatMap.1 hu
    exact h1 y u hu
  · have : (n + ys.length) * bytes ≤ 2000000 * 64 := Nat.mul_le_mul hn hsm
    omega
  · intro v' w' h2 h3 _
    refine h v' w' h2 (hB.grown h3 (Nat.le_trans hBb hbase) ?_) h3.size h3
    intro k hk
    rcases hown.2 with ⟨rfl, _⟩ | ⟨g, cap, cur, rfl, hg, _⟩
    · simp [Value.ownBlock] at hk
    · simp [Value.ownBlock] at hk; omega
/-- A slice whose cells lie in another block than the one that grew. -/
theorem SlF.grown {α : Type} {f : α → List Value} {w w' : World} {a : Option Addr} {xs : List α} {own : Option Nat} (h : SlF f w a xs) (hg : w.grownBy w' own) (hne : ∀ b, a.map (·.block) = some b → own ≠ some b) : SlF f w' a xs := fun hn => by
  obtain ⟨b, off, rfl, hlt, hc⟩ := h hn
  refine ⟨b, off, rfl, Nat.lt_of_lt_of_le hlt hg.size, fun k x hx j u hu => ?_⟩
  have h1 := hc k x hx j u hu
  have hb := hg.block b hlt (Ne.symm (hne b rfl))
  rw [← h1]
  unfold World.cell?
  simp only [hb]
abbrev En.bs (e : En) : Bs := e.p.data.toList
abbrev Mk.bs (e : Mk) : Bs := e.p.data.toList
theorem putP_map {α β : Type} {f : α → Bs} {g : β → Bs} (h : α → β) (hp : ∀ a, g (h a) = f a) (t : List α) (e : α) : (putP f t e).map h = putP g (t.map h) (h e) := by
  induction t with
  | nil => rfl
  | cons a r ih =>
    rw [List.map_cons, putP, putP, hp, hp]
    split
    · rw [List.map_cons, ih]
    · split <;> rfl
/-- Where a struct is put. -/
theorem put_split {α : Type} {f : α → Bs} (t : List α) (e : α) (k : Nat) (hk : k ≤ t.length) (h1 : ∀ (j : Nat) (x : α), j < k → t[j]? = some x → Op.bytesLess (f x) (f e) = true) (h2 : ∀ x, t[k]? = some x → Op.bytesLess (f x) (f e) = false) :
    putP f t e = t.take k ++ e :: t.drop (k + if (t[k]?.map f) = some (f e) then 1 else 0) := by
  induction t generalizing k with
  | nil =>
    simp at hk; subst hk
    simp [putP]
  | cons a r ih =>
    cases k with
    | zero =>
      have h3 := h2 a rfl
      rw [putP, if_neg (by rw [h3]; simp)]
      by_cases h4 : f a = f e
      · rw [if_pos h4]; simp [h4]
      · rw [if_neg h4]; simp [h4]
    | succ k =>
      rw [putP, if_pos (h1 0 a (by omega) rfl)]
      have := ih k (by simpa using hk) (fun j x hj hx => h1 (j + 1) x (by omega) (by simpa using hx)) (fun x hx => h2 x (by simpa using hx))
      rw [this]
      simp only [List.take_succ_cons, List.cons_append, List.getElem?_cons_succ]
      rw [show k + 1 + (if Option.map f r[k]? = some (f e) then 1 else 0) = (k + if Option.map f r[k]? = some (f e) then 1 else 0) + 1 by omega, List.drop_succ_cons]
end Go.Proofs.YtnmjidjhloodbaaDoor
namespace Go.Proofs.YtnmjidjhloodbaaDoor
open Go.RowKit
/-- A row of marks of the call's own that reads as l. -/
def MadeMs (l : List PM) (w : World) (e : Ending) (w' : World) : Prop :=
  ∃ (a : Option Addr) (c : Nat) (ms : List Mk), e = .returned (.slice a ms.length c) ∧ ms.map Mk.pl = l ∧ OwnMk w' w.heap.size (.slice a ms.length c) ms ∧ Below w.heap.size w w'
theorem madeMs_of {w0 w : World} {B : Nat} {v : Value} {ms : List Mk} {l : List PM} (hl : ms.map Mk.pl = l) (h : w.ownsRow B 45 3 v ms.length (ms.flatMap Mk.cells)) (hB : w0.heap.size ≤ B) (hb : Below w0.heap.size w0 w) : MadeMs l w0 (.returned v) w := by
  rcases h.2 with ⟨rfl, h1⟩ | ⟨g, cap, cur, rfl, hg, hh, hnc, hm, h2, h3⟩
  · refine ⟨none, 0, ms, by rw [h1], hl, ?_, hb⟩
    refine ⟨h.1, .inl ⟨by rw [h1], h1⟩⟩
  · exact ⟨_, cap, ms, rfl, hl, ⟨h.1, .inr ⟨g, cap, cur, rfl, Nat.le_trans hB hg, hh, hnc, hm, h2, h3⟩⟩, hb⟩
theorem take_ml (xs : List Mk) (k : Nat) (e : Mk) (he : xs[k]? = some e) : (xs.take (k + 1)).map Mk.pl = (xs.take k).map Mk.pl ++ [e.pl] := by
  have h1 := List.take_succ_eq_append_getElem (l := xs) (i := k) (List.getElem?_eq_some_iff.1 he).1
  rw [(List.getElem?_eq_some_iff.1 he).2] at h1
  rw [h1, List.map_append]; rfl
theorem flat_mk (xs : List Mk) (e : Mk) : xs.flatMap Mk.cells ++ (#[.string e.p, .int .i64 e.k, .string e.x] : Array Value).toList = (xs ++ [e]).flatMap Mk.cells := by simp [Mk.cells]
/-- What is kept of the lower layer. -/
def keptM (a b : List PM) : List PM := b.filter fun m => (atP PM.p a m.p).isNone && !hidesL a m.p
theorem kept_snoc (a b : List PM) (m : PM) : keptM a (b ++ [m]) = keptM a b ++ if (atP PM.p a m.p).isNone && !hidesL a m.p then [m] else [] := by
  unfold keptM
  rw [List.filter_append]
  congr 1
  rw [List.filter_cons]
  split <;> simp_all
theorem kept_len (a b : List PM) : (keptM a b).length ≤ b.length := by unfold keptM; exact List.length_filter_le _ _
theorem joinRaw_eq (a b : List PM) : joinRaw a b = keptM a b ++ a.map (bothM b) := rfl
/-- A mark of the upper layer on what the lower one has there. -/
def bothK (o : Option Mk) (e : Mk) : Mk := if e.k = 2 then (match o with
  | some u => if u.k = 2 then e else ⟨e.p, 4, e.x⟩
  | none => e) else e
theorem both_pl (ys : List Mk) (e : Mk) : bothM (ys.map Mk.pl) e.pl = (bothK (getM ys e.p) e).pl := by
  unfold bothM bothK
  rw [show atP PM.p (ys.map Mk.pl) e.pl.p = (getM ys e.p).map Mk.pl from getM_pl ys e.p]
  by_cases h : e.k = 2
  · rw [if_pos (show e.pl.k = 2 from h), if_pos h]
    cases getM ys e.p with
    | none => rfl
    | some u =>
      show (if u.k = 2 then e.pl else _) = _
      show _ = (if u.k = 2 then e else (⟨e.p, 4, e.x⟩ : Mk)).pl
      by_cases h2 : u.k = 2
      · rw [if_pos h2, if_pos h2]
      · rw [if_neg h2, if_neg h2]; rfl
  · rw [if_neg (show ¬ e.pl.k = 2 from h), if_neg h]
set_option maxRecDepth 100000 in
set_option maxHeartbeats 8000000 in
theorem joinMarks_c (a a' : Option Addr) (c c' : Nat) (xs ys : List Mk) (w : World) (hs : SlF Mk.cells w a xs) (hs' : SlF Mk.cells w a' ys) (hx : xs.length ≤ 32) (hy : ys.length ≤ 32) (hz : ∀ e ∈ xs, e.p.size ≤ 2000000 ∧ e.x.size ≤ 2000000) (hz' : ∀ e ∈ ys, e.p.size ≤ 2000000 ∧ e.x.size ≤ 2000000) :
    Calls Tryd.prog 24 #[.slice a xs.length c, .slice a' ys.length c'] w (MadeMs (joinRaw (xs.map Mk.pl) (ys.map Mk.pl)) w) := by
  have HE := eltMk
  have HB0 := Lib.hid (Below.refl w.heap.size w)
  have hm32 : (32 : Nat) ≤ maxLen := by unfold maxLen; omega
  have GA := fun (q : ByteArray) (o : Option Mk) (ho : Hid (getM xs q = o)) W (h : SlF Mk.cells W a xs) => Lib.hid (markAt_c a c xs q o ho W h (Nat.le_trans hx hm32))
  have GH := fun (q : ByteArray) (hq : q.size ≤ 2000000) (r : Bool) (hr : Hid (hidesL (xs.map Mk.pl) q.data.toList = r)) W (h : SlF Mk.cells W a xs) => Lib.hid (hides_c a c xs q r hr W h (Nat.le_trans hx hm32) hq hz)
  have GB := fun (q : ByteArray) (o : Option Mk) (ho : Hid (getM ys q = o)) W (h : SlF Mk.cells W a' ys) => Lib.hid (markAt_c a' c' ys q o ho W h (Nat.le_trans hy hm32))
  obtain ⟨n, hn⟩ : ∃ n, xs.length = n := ⟨_, rfl⟩
  obtain ⟨n', hn'⟩ : ∃ n, ys.length = n := ⟨_, rfl⟩
  have HN := Lib.hid hn
  have HN' := Lib.hid hn'
  have HZ := Lib.hid hz
  have HZ' := Lib.hid hz'
  have HS := Lib.hid hs
  have HS' := Lib.hid hs'
  have HALL : Hid (xs.take n = xs) := by rw [Hid, ← hn, List.take_length]
  have HALL' : Hid (ys.take n' = ys) := by rw [Hid, ← hn', List.take_length]
  rw [hn] at hx GA GH ⊢
  rw [hn'] at hy GB ⊢
  have HGA := Lib.hid GA
  have HGH := Lib.hid GH
  have HGB := Lib.hid GB
  clear hn hn' hs hs' hz hz' GA GH GB hm32
  go_enter Tryd.func24, Tryd.ntmps24
  go_wp2
  go_loopw [5, 16] (fun v i wr => ∃ (k : Nat) (ms : List Mk), k ≤ n' ∧ ms.length ≤ k ∧ i = .int .i64 k ∧ ms.map Mk.pl = keptM (xs.map Mk.pl) ((ys.take k).map Mk.pl) ∧ wr.ownsRow w.heap.size 45 3 v ms.length (ms.flatMap Mk.cells) ∧ Below w.heap.size w wr) (fun _ i _ => n' - (intOf i).toNat)
  case atStart => exact ⟨0, [], Nat.zero_le _, Nat.zero_le _, rfl, rfl, World.ownsRow_nil _ _ _ _, HB0.out⟩
  case round =>
    obtain ⟨k, ms, hk, hml, rfl, hms, hown, hb⟩ := hrel
    have HMS := Lib.hid hms
    clear hms
    by_cases hlt : k < n'
    · obtain ⟨e, hee⟩ : ∃ e, ys[k]? = some e := ⟨_, List.getElem?_eq_getElem (by rw [HN'.out]; exact hlt)⟩
      have hzz := HZ'.out e (List.mem_of_getElem? hee)
      have hsx := HS.out.below hb
      have hsy := HS'.out.below hb
      obtain ⟨b', off', rfl, _⟩ := hsy.addr (by rw [HN'.out]; omega)
      obtain ⟨d0, d1, d2⟩ := mk_at hsy k e hee
      have HSN : Hid (keptM (xs.map Mk.pl) ((ys.take (k + 1)).map Mk.pl) = keptM (xs.map Mk.pl) ((ys.take k).map Mk.pl) ++ if ((getM xs e.p).map Mk.pl).isNone && !hidesL (xs.map Mk.pl) e.p.data.toList then [e.pl] else []) := by
        rw [Hid, take_ml ys k e hee, kept_snoc]; show _ ++ (if (atP PM.p (xs.map Mk.pl) e.p.data.toList).isNone && _ then _ else _) = _; rw [getM_pl]; rfl
      obtain ⟨o, ho⟩ : ∃ o, Hid (getM xs e.p = o) := ⟨_, rfl⟩
      obtain ⟨r, hr⟩ : ∃ r, Hid (hidesL (xs.map Mk.pl) e.p.data.toList = r) := ⟨_, rfl⟩
      rw [ho.out, hr.out] at HSN
      obtain ⟨ep, ek, ex⟩ := e
      clear hee
      have i0 : (0 : Int) ≤ (k : Int) := by omega
      have i1 : (k : Int) < (n' : Int) := by omega
      cases o with
      | some u =>
        have HSM : Hid (ms.map Mk.pl = keptM (xs.map Mk.pl) ((ys.take (k + 1)).map Mk.pl)) := by rw [Hid, HSN.out, HMS.out]; simp
        have q0 := new_cell wr #[.string ep, .int .i64 ek, .string ex] 45 0 (.string ep) rfl
        have q1 := new_cell wr #[.string ep, .int .i64 ek, .string ex] 45 1 (.int .i64 ek) rfl
        have q2 := new_cell wr #[.string ep, .int .i64 ek, .string ex] 45 2 (.string ex) rfl
        replace hown := own_below hown (bellow_alloc wr (.cells #[.string ep, .int .i64 ek, .string ex] 45))
        replace hb := hb.alloc hb.size (.cells #[.string ep, .int .i64 ek, .string ex] 45); replace hsx := SlF.below hsx (bellow_alloc _ (.cells #[.string ep, .int .i64 ek, .string ex] 45)); replace hsy := SlF.below hsy (bellow_alloc _ (.cells #[.string ep, .int .i64 ek, .string ex] 45)); 
        go_wp2_with fail
        refine ((HGA.out ep (some u) ho _ hsx).out).mono ?_; rintro e W ⟨rfl, hq⟩; replace hb := chn hb hq; replace hsx := SlF.below hsx hq; replace hsy := SlF.below hsy hq; replace hown := own_below hown hq; clear hq
        go_wp2
        go_roundw
        case rel => exact ⟨k + 1, ms, by omega, by omega, by go_num, HSM.out, own_below hown (bellow_alloc _ _), hb.alloc hb.size _⟩
        case measure => simp [intOf]; omega
      | none =>
        have q0 := new_cell wr #[.string ep, .int .i64 ek, .string ex] 45 0 (.string ep) rfl
        have q1 := new_cell wr #[.string ep, .int .i64 ek, .string ex] 45 1 (.int .i64 ek) rfl
        have q2 := new_cell wr #[.string ep, .int .i64 ek, .string ex] 45 2 (.string ex) rfl
        replace hown := own_below hown (bellow_alloc wr (.cells #[.string ep, .int .i64 ek, .string ex] 45))
        replace hb := hb.alloc hb.size (.cells #[.string ep, .int .i64 ek, .string ex] 45); replace hsx := SlF.below hsx (bellow_alloc _ (.cells #[.string ep, .int .i64 ek, .string ex] 45)); replace hsy := SlF.below hsy (bellow_alloc _ (.cells #[.string ep, .int .i64 ek, .string ex] 45)); 
        go_wp2_with fail
        refine ((HGA.out ep none ho _ hsx).out).mono ?_; rintro e W ⟨rfl, hq⟩; replace hb := chn hb hq; replace hsx := SlF.below hsx hq; replace hsy := SlF.below hsy hq; replace hown := own_below hown hq; replace q0 := keepc hq q0; replace q1 := keepc hq q1; replace q2 := keepc hq q2; clear hq
        replace hown := own_below hown (bellow_alloc W (.cells #[.string ⟨#[]⟩, .int .i64 0, .string ⟨#[]⟩] 45))
        replace hb := hb.alloc hb.size (.cells #[.string ⟨#[]⟩, .int .i64 0, .string ⟨#[]⟩] 45); replace hsx := SlF.below hsx (bellow_alloc _ (.cells #[.string ⟨#[]⟩, .int .i64 0, .string ⟨#[]⟩] 45)); replace hsy := SlF.below hsy (bellow_alloc _ (.cells #[.string ⟨#[]⟩, .int .i64 0, .string ⟨#[]⟩] 45)); replace q0 := keepc (bellow_alloc _ (.cells #[.string ⟨#[]⟩, .int .i64 0, .string ⟨#[]⟩] 45)) q0; replace q1 := keepc (bellow_alloc _ (.cells #[.string ⟨#[]⟩, .int .i64 0, .string ⟨#[]⟩] 45)) q1; replace q2 := keepc (bellow_alloc _ (.cells #[.string ⟨#[]⟩, .int .i64 0, .string ⟨#[]⟩] 45)) q2; 
        go_wp2_with fail
        refine ((HGH.out ep hzz.1 r hr _ hsx).out).mono ?_; rintro e W ⟨rfl, hq⟩; replace hb := chn hb hq; replace hsx := SlF.below hsx hq; replace hsy := SlF.below hsy hq; replace hown := own_below hown hq; replace q0 := keepc hq q0; replace q1 := keepc hq q1; replace q2 := keepc hq q2; clear hq
        cases r with
        | true =>
          have HSM : Hid (ms.map Mk.pl = keptM (xs.map Mk.pl) ((ys.take (k + 1)).map Mk.pl)) := by rw [Hid, HSN.out, HMS.out]; simp
          go_wp2
          go_roundw
          case rel => exact ⟨k + 1, ms, by omega, by omega, by go_num, HSM.out, hown, hb⟩
          case measure => simp [intOf]; omega
        | false =>
          have HSM : Hid ((ms ++ [(⟨ep, ek, ex⟩ : Mk)]).map Mk.pl = keptM (xs.map Mk.pl) ((ys.take (k + 1)).map Mk.pl)) := by rw [Hid, HSN.out, List.map_append, HMS.out]; simp
          go_wp2_with (at_builtin; go_must (refine wp_app1 (by rfl) _ _ 24 (by rfl) HE w.heap.size w.heap.size w _ #[.string ep, .int .i64 ek, .string ex] _ _ _ (by rfl) (by rfl) hown (by rfl) (by simp [Value.oneCell']) (by omega) hb.size hb (Nat.le_refl _) ?_); intro v' w1 hown1 hbel1 _ _)
          go_roundw
          case rel => exact ⟨k + 1, ms ++ [⟨ep, ek, ex⟩], by omega, by simp; omega, by go_num, HSM.out, by rw [← flat_mk]; simpa using hown1, hbel1⟩
          case measure => simp [intOf]; omega
    · obtain rfl : k = n' := by omega
      have HMK : Hid (ms.map Mk.pl = keptM (xs.map Mk.pl) (ys.map Mk.pl)) := by rw [Hid, HMS.out, HALL'.out]
      have HOWN := Lib.hid hown
      have HBB := Lib.hid hb
      have HML := Lib.hid hml
      clear hown hb hml HMS
      go_wp2
      go_loopw [5, 43] (fun v i wr => ∃ (j : Nat) (ns : List Mk), j ≤ n ∧ ns.length ≤ 32 + j ∧ i = .int .i64 j ∧ ns.map Mk.pl = keptM (xs.map Mk.pl) (ys.map Mk.pl) ++ ((xs.take j).map Mk.pl).map (bothM (ys.map Mk.pl)) ∧ wr.ownsRow w.heap.size 45 3 v ns.length (ns.flatMap Mk.cells) ∧ Below w.heap.size w wr) (fun _ i _ => n - (intOf i).toNat)
      case atStart => exact ⟨0, ms, Nat.zero_le _, by have := HML.out; omega, rfl, by rw [HMK.out]; simp, HOWN.out, HBB.out⟩
      case round =>
        obtain ⟨j, ns, hj, hnl, rfl, hns, hown, hb⟩ := hrel
        have HNS := Lib.hid hns
        clear hns
        by_cases hlt2 : j < n
        · obtain ⟨e, hee⟩ : ∃ e, xs[j]? = some e := ⟨_, List.getElem?_eq_getElem (by rw [HN.out]; exact hlt2)⟩
          have hsx := HS.out.below hb
          have hsy := HS'.out.below hb
          obtain ⟨b, off, rfl, _⟩ := hsx.addr (by rw [HN.out]; omega)
          obtain ⟨d0, d1, d2⟩ := mk_at hsx j e hee
          obtain ⟨o, ho⟩ : ∃ o, Hid (getM ys e.p = o) := ⟨_, rfl⟩
          have HSN : Hid ((ns ++ [bothK o e]).map Mk.pl = keptM (xs.map Mk.pl) (ys.map Mk.pl) ++ ((xs.take (j + 1)).map Mk.pl).map (bothM (ys.map Mk.pl))) := by
            rw [Hid, take_ml xs j e hee, List.map_append, List.map_append, HNS.out, ← List.append_assoc, List.map_cons, List.map_cons, both_pl, ho.out]; rfl
          obtain ⟨ep, ek, ex⟩ := e
          clear hee
          have i0 : (0 : Int) ≤ (j : Int) := by omega
          have i1 : (j : Int) < (n : Int) := by omega
          have HOW := Lib.hid hown
          have HLW := Lib.hid hb.size
          have f1 := new_free wr #[.string ep, .int .i64 ek, .string ex] 45 1
          have hbw := bellow_alloc wr (.cells #[.string ep, .int .i64 ek, .string ex] 45)
          have q0 := new_cell wr #[.string ep, .int .i64 ek, .string ex] 45 0 (.string ep) rfl
          have q1 := new_cell wr #[.string ep, .int .i64 ek, .string ex] 45 1 (.int .i64 ek) rfl
          have q2 := new_cell wr #[.string ep, .int .i64 ek, .string ex] 45 2 (.string ex) rfl
          replace hown := own_below hown (bellow_alloc wr (.cells #[.string ep, .int .i64 ek, .string ex] 45))
          replace hb := hb.alloc hb.size (.cells #[.string ep, .int .i64 ek, .string ex] 45); replace hsx := SlF.below hsx (bellow_alloc _ (.cells #[.string ep, .int .i64 ek, .string ex] 45)); replace hsy := SlF.below hsy (bellow_alloc _ (.cells #[.string ep, .int .i64 ek, .string ex] 45)); 
          by_cases hek : ek = 2
          · subst hek
            cases o with
            | none =>
              have HSM : Hid ((ns ++ [(⟨ep, 2, ex⟩ : Mk)]).map Mk.pl = keptM (xs.map Mk.pl) (ys.map Mk.pl) ++ ((xs.take (j + 1)).map Mk.pl).map (bothM (ys.map Mk.pl))) := HSN
              go_wp2_with fail
              refine ((HGB.out ep none ho _ hsy).out).mono ?_; rintro e W ⟨rfl, hq⟩; replace hb := chn hb hq; replace hsx := SlF.below hsx hq; replace hsy := SlF.below hsy hq; replace hown := own_below hown hq; replace q0 := keepc hq q0; replace q1 := keepc hq q1; replace q2 := keepc hq q2; clear hq
              have v0 := new_cell W #[.string ⟨#[]⟩, .int .i64 0, .string ⟨#[]⟩] 45 1 (.int .i64 0) rfl
              replace hown := own_below hown (bellow_alloc W (.cells #[.string ⟨#[]⟩, .int .i64 0, .string ⟨#[]⟩] 45))
              replace hb := hb.alloc hb.size (.cells #[.string ⟨#[]⟩, .int .i64 0, .string ⟨#[]⟩] 45); replace hsx := SlF.below hsx (bellow_alloc _ (.cells #[.string ⟨#[]⟩, .int .i64 0, .string ⟨#[]⟩] 45)); replace hsy := SlF.below hsy (bellow_alloc _ (.cells #[.string ⟨#[]⟩, .int .i64 0, .string ⟨#[]⟩] 45)); replace q0 := keepc (bellow_alloc _ (.cells #[.string ⟨#[]⟩, .int .i64 0, .string ⟨#[]⟩] 45)) q0; replace q1 := keepc (bellow_alloc _ (.cells #[.string ⟨#[]⟩, .int .i64 0, .string ⟨#[]⟩] 45)) q1; replace q2 := keepc (bellow_alloc _ (.cells #[.string ⟨#[]⟩, .int .i64 0, .string ⟨#[]⟩] 45)) q2; 
              go_wp2_with (at_builtin; go_must (refine wp_app1H (by rfl) _ _ 24 (by rfl) HE w.heap.size w.heap.size w _ #[.string ep, .int .i64 2, .string ex] _ _ _ (by rfl) (W.heap.size + 1) (by simp) (by rfl) hown (by rfl) (by simp [Value.oneCell']) (by omega) hb.size hb (Nat.le_refl _) ?_); intro v' w1 hown1 hbel1 _ _)
              go_roundw
              case rel => exact ⟨j + 1, ns ++ [⟨ep, 2, ex⟩], by omega, by simp; omega, by go_num, HSM.out, by rw [← flat_mk]; simpa using hown1, hbel1⟩
              case measure => simp [intOf]; omega
            | some u =>
              obtain ⟨up, uk, ux⟩ := u
              go_wp2_with fail
              refine ((HGB.out ep (some ⟨up, uk, ux⟩) ho _ hsy).out).mono ?_; rintro e W ⟨rfl, hq⟩; replace hb := chn hb hq; replace hbw := chn hbw hq; replace f1 := (hq.frozen (p := ⟨wr.heap.size, 1, none⟩) (by simp)).trans f1; replace hsx := SlF.below hsx hq; replace hsy := SlF.below hsy hq; replace hown := own_below hown hq; replace q0 := keepc hq q0; replace q1 := keepc hq q1; replace q2 := keepc hq q2; clear hq
              replace f1 := ((bellow_alloc W (.cells #[.string up, .int .i64 uk, .string ux] 45)).frozen (p := ⟨wr.heap.size, 1, none⟩) (World.block_lt_of_cell? _ _ q1)).trans f1
              replace hbw := chn hbw (bellow_alloc W (.cells #[.string up, .int .i64 uk, .string ux] 45))
              have v0 := new_cell W #[.string up, .int .i64 uk, .string ux] 45 1 (.int .i64 uk) rfl
              replace hown := own_below hown (bellow_alloc W (.cells #[.string up, .int .i64 uk, .string ux] 45))
              replace hb := hb.alloc hb.size (.cells #[.string up, .int .i64 uk, .string ux] 45); replace hsx := SlF.below hsx (bellow_alloc _ (.cells #[.string up, .int .i64 uk, .string ux] 45)); replace hsy := SlF.below hsy (bellow_alloc _ (.cells #[.string up, .int .i64 uk, .string ux] 45)); replace q0 := keepc (bellow_alloc _ (.cells #[.string up, .int .i64 uk, .string ux] 45)) q0; replace q1 := keepc (bellow_alloc _ (.cells #[.string up, .int .i64 uk, .string ux] 45)) q1; replace q2 := keepc (bellow_alloc _ (.cells #[.string up, .int .i64 uk, .string ux] 45)) q2; 
              by_cases huk : uk = 2
              · subst huk
                have HSM : Hid ((ns ++ [(⟨ep, 2, ex⟩ : Mk)]).map Mk.pl = keptM (xs.map Mk.pl) (ys.map Mk.pl) ++ ((xs.take (j + 1)).map Mk.pl).map (bothM (ys.map Mk.pl))) := HSN
                go_wp2_with (at_builtin; go_must (refine wp_app1H (by rfl) _ _ 24 (by rfl) HE w.heap.size w.heap.size w _ #[.string ep, .int .i64 2, .string ex] _ _ _ (by rfl) (W.heap.size + 1) (by simp) (by rfl) hown (by rfl) (by simp [Value.oneCell']) (by omega) hb.size hb (Nat.le_refl _) ?_); intro v' w1 hown1 hbel1 _ _)
                go_roundw
                case rel => exact ⟨j + 1, ns ++ [⟨ep, 2, ex⟩], by omega, by simp; omega, by go_num, HSM.out, by rw [← flat_mk]; simpa using hown1, hbel1⟩
                case measure => simp [intOf]; omega
              · have HSM : Hid ((ns ++ [(⟨ep, 4, ex⟩ : Mk)]).map Mk.pl = keptM (xs.map Mk.pl) (ys.map Mk.pl) ++ ((xs.take (j + 1)).map Mk.pl).map (bothM (ys.map Mk.pl))) := by
                  have h := HSN.out
                  unfold bothK at h
                  rw [if_pos rfl] at h
                  dsimp only at h
                  rw [if_neg huk] at h
                  exact h
                have hne : (uk != 2) = true := by simpa using huk
                clear huk
                have hown1 := own_below HOW.out (hbw.setCell (p := ⟨wr.heap.size, 1, none⟩) (Nat.le_refl _) (.int .i64 4))
                replace hown := hown1
                clear hown1
                have hb1 := hb.setCell (p := ⟨wr.heap.size, 1, none⟩) HLW.out (.int .i64 4)
                replace hb := hb1
                clear hb1
                go_wp2_with (at_builtin; go_must (refine wp_app1H (by rfl) _ _ 24 (by rfl) HE w.heap.size w.heap.size w _ #[.string ep, .int .i64 4, .string ex] _ _ _ (by rfl) (W.heap.size + 1) (by simp) (by rfl) hown (by rfl) (by simp [Value.oneCell']) (by omega) hb.size hb (Nat.le_refl _) ?_); intro v' w1 hown1 hbel1 _ _)
                go_roundw
                case rel => exact ⟨j + 1, ns ++ [⟨ep, 4, ex⟩], by omega, by simp; omega, by go_num, HSM.out, by rw [← flat_mk]; simpa using hown1, hbel1⟩
                case measure => simp [intOf]; omega
          · have HSM : Hid ((ns ++ [(⟨ep, ek, ex⟩ : Mk)]).map Mk.pl = keptM (xs.map Mk.pl) (ys.map Mk.pl) ++ ((xs.take (j + 1)).map Mk.pl).map (bothM (ys.map Mk.pl))) := by
              have h := HSN.out
              unfold bothK at h
              rw [if_neg hek] at h; exact h
            have hne : (ek == 2) = false := by simpa using hek
            clear hek
            cases o with
            | none =>
              go_wp2_with fail
              refine ((HGB.out ep none ho _ hsy).out).mono ?_; rintro e W ⟨rfl, hq⟩; replace hb := chn hb hq; replace hsx := SlF.below hsx hq; replace hsy := SlF.below hsy hq; replace hown := own_below hown hq; replace q0 := keepc hq q0; replace q1 := keepc hq q1; replace q2 := keepc hq q2; clear hq
              replace hown := own_below hown (bellow_alloc W (.cells #[.string ⟨#[]⟩, .int .i64 0, .string ⟨#[]⟩] 45))
              replace hb := hb.alloc hb.size (.cells #[.string ⟨#[]⟩, .int .i64 0, .string ⟨#[]⟩] 45); replace hsx := SlF.below hsx (bellow_alloc _ (.cells #[.string ⟨#[]⟩, .int .i64 0, .string ⟨#[]⟩] 45)); replace hsy := SlF.below hsy (bellow_alloc _ (.cells #[.string ⟨#[]⟩, .int .i64 0, .string ⟨#[]⟩] 45)); replace q0 := keepc (bellow_alloc _ (.cells #[.string ⟨#[]⟩, .int .i64 0, .string ⟨#[]⟩] 45)) q0; replace q1 := keepc (bellow_alloc _ (.cells #[.string ⟨#[]⟩, .int .i64 0, .string ⟨#[]⟩] 45)) q1; replace q2 := keepc (bellow_alloc _ (.cells #[.string ⟨#[]⟩, .int .i64 0, .string ⟨#[]⟩] 45)) q2; 
              go_wp2_with (at_builtin; go_must (refine wp_app1H (by rfl) _ _ 24 (by rfl) HE w.heap.size w.heap.size w _ #[.string ep, .int .i64 ek, .string ex] _ _ _ (by rfl) (W.heap.size + 1) (by simp) (by rfl) hown (by rfl) (by simp [Value.oneCell']) (by omega) hb.size hb (Nat.le_refl _) ?_); intro v' w1 hown1 hbel1 _ _)
              go_roundw
              case rel => exact ⟨j + 1, ns ++ [⟨ep, ek, ex⟩], by omega, by simp; omega, by go_num, HSM.out, by rw [← flat_mk]; simpa using hown1, hbel1⟩
              case measure => simp [intOf]; omega
            | some u =>
              obtain ⟨up, uk, ux⟩ := u
              go_wp2_with fail
              refine ((HGB.out ep (some ⟨up, uk, ux⟩) ho _ hsy).out).mono ?_; rintro e W ⟨rfl, hq⟩; replace hb := chn hb hq; replace hsx := SlF.below hsx hq; replace hsy := SlF.below hsy hq; replace hown := own_below hown hq; replace q0 := keepc hq q0; replace q1 := keepc hq q1; replace q2 := keepc hq q2; clear hq
              replace hown := own_below hown (bellow_alloc W (.cells #[.string up, .int .i64 uk, .string ux] 45))
              replace hb := hb.alloc hb.size (.cells #[.string up, .int .i64 uk, .string ux] 45); replace hsx := SlF.below hsx (bellow_alloc _ (.cells #[.string up, .int .i64 uk, .string ux] 45)); replace hsy := SlF.below hsy (bellow_alloc _ (.cells #[.string up, .int .i64 uk, .string ux] 45)); replace q0 := keepc (bellow_alloc _ (.cells #[.string up, .int .i64 uk, .string ux] 45)) q0; replace q1 := keepc (bellow_alloc _ (.cells #[.string up, .int .i64 uk, .string ux] 45)) q1; replace q2 := keepc (bellow_alloc _ (.cells #[.string up, .int .i64 uk, .string ux] 45)) q2; 
              go_wp2_with (at_builtin; go_must (refine wp_app1H (by rfl) _ _ 24 (by rfl) HE w.heap.size w.heap.size w _ #[.string ep, .int .i64 ek, .string ex] _ _ _ (by rfl) (W.heap.size + 1) (by simp) (by rfl) hown (by rfl) (by simp [Value.oneCell']) (by omega) hb.size hb (Nat.le_refl _) ?_); intro v' w1 hown1 hbel1 _ _)
              go_roundw
              case rel => exact ⟨j + 1, ns ++ [⟨ep, ek, ex⟩], by omega, by simp; omega, by go_num, HSM.out, by rw [← flat_mk]; simpa using hown1, hbel1⟩
              case measure => simp [intOf]; omega
        · obtain rfl : j = n := by omega
          go_wp2
          go_ret
          exact madeMs_of (by rw [HNS.out, HALL.out, joinRaw_eq]) hown (Nat.le_refl _) hb
end Go.Proofs.YtnmjidjhloodbaaDoor
namespace Go.Proofs
open Go.Shelf
def Tryd.sortMark_ren : Go.Shelf.Ren := ⟨fun | 6 => 51 | 15 => 70 | 14 => 69 | 28 => 90 | 29 => 91 | 20 => 82 | 21 => 83 | 22 => 84 | 23 => 85 | 24 => 86 | 25 => 87 | 26 => 88 | 27 => 89 | 46 => 95 | 47 => 96 | 48 => 97 | 49 => 98 | 50 => 99 | 57 => 105 | n => n, fun | 22 => 24 | 24 => 45 | 25 => 75 | 3 => 3 | 39 => 85 | 0 => 0 | 53 => 108 | 55 => 110 | 4 => 4 | 46 => 101 | 45 => 100 | 50 => 105 | 5 => 5 | 9 => 9 | 66 => 113 | 70 => 117 | 76 => 123 | 77 => 124 | n => n, fun | n => n⟩
theorem Tryd.sortMark : Go.Proofs.SlLaysF0.n6 Tryd.prog Tryd.sortMark_ren := {
  mixed := by kernel_rfl
  f6 := ⟨Tryd.f51.name, by decide, Tryd.func51.trans (congrArg some (by kernel_rfl))⟩
  f14 := ⟨Tryd.f69.name, by decide, Tryd.func69.trans (congrArg some (by kernel_rfl))⟩
  f15 := Tryd.func70.trans (congrArg some (by kernel_rfl))
  f20 := ⟨Tryd.f82.name, by decide, Tryd.func82.trans (congrArg some (by kernel_rfl))⟩
  f21 := ⟨Tryd.f83.name, by decide, Tryd.func83.trans (congrArg some (by kernel_rfl))⟩
  f22 := ⟨Tryd.f84.name, by decide, Tryd.func84.trans (congrArg some (by kernel_rfl))⟩
  f23 := ⟨Tryd.f85.name, by decide, Tryd.func85.trans (congrArg some (by kernel_rfl))⟩
  f24 := ⟨Tryd.f86.name, by decide, Tryd.func86.trans (congrArg some (by kernel_rfl))⟩
  f25 := ⟨Tryd.f87.name, by decide, Tryd.func87.trans (congrArg some (by kernel_rfl))⟩
  f26 := ⟨Tryd.f88.name, by decide, Tryd.func88.trans (congrArg some (by kernel_rfl))⟩
  f27 := ⟨Tryd.f89.name, by decide, Tryd.func89.trans (congrArg some (by kernel_rfl))⟩
  f28 := Tryd.func90.trans (congrArg some (by kernel_rfl))
  f29 := Tryd.func91.trans (congrArg some (by kernel_rfl))
  f46 := ⟨Tryd.f95.name, by decide, Tryd.func95.trans (congrArg some (by kernel_rfl))⟩
  f47 := Tryd.func96.trans (congrArg some (by kernel_rfl))
  f48 := Tryd.func97.trans (congrArg some (by kernel_rfl))
  f49 := ⟨Tryd.f98.name, by decide, Tryd.func98.trans (congrArg some (by kernel_rfl))⟩
  f50 := ⟨Tryd.f99.name, by decide, Tryd.func99.trans (congrArg some (by kernel_rfl))⟩
  f57 := ⟨Tryd.f105.name, by decide, Tryd.func105.trans (congrArg some (by kernel_rfl))⟩
  t0 := Tryd.underlying0
  a0 := Tryd.isAgg0
  z0 := Tryd.sizeOf0
  v0 := Tryd.zeroValue0
  t3 := Tryd.underlying3
  a3 := Tryd.isAgg3
  z3 := Tryd.sizeOf3
  v3 := Tryd.zeroValue3
  t4 := Tryd.underlying4
  a4 := Tryd.isAgg4
  z4 := Tryd.sizeOf4
  v4 := Tryd.zeroValue4
  t5 := Tryd.underlying5
  a5 := Tryd.isAgg5
  z5 := Tryd.sizeOf5
  v5 := Tryd.zeroValue5
  t9 := Tryd.underlying9
  a9 := Tryd.isAgg9
  z9 := Tryd.sizeOf9
  v9 := Tryd.zeroValue9
  t22 := Tryd.underlying24
  a22 := Tryd.isAgg24
  z22 := Tryd.sizeOf24
  v22 := Tryd.zeroValue24
  t25 := Tryd.underlying75
  a25 := Tryd.isAgg75
  z25 := Tryd.sizeOf75
  v25 := Tryd.zeroValue75
  t39 := Tryd.underlying85
  a39 := Tryd.isAgg85
  z39 := Tryd.sizeOf85
  v39 := Tryd.zeroValue85
  t45 := Tryd.underlying100
  a45 := Tryd.isAgg100
  z45 := Tryd.sizeOf100
  v45 := Tryd.zeroValue100
  t46 := Tryd.underlying101
  a46 := Tryd.isAgg101
  z46 := Tryd.sizeOf101
  v46 := Tryd.zeroValue101
  t50 := Tryd.underlying105
  a50 := Tryd.isAgg105
  z50 := Tryd.sizeOf105
  v50 := Tryd.zeroValue105
  t53 := Tryd.underlying108
  a53 := Tryd.isAgg108
  z53 := Tryd.sizeOf108
  v53 := Tryd.zeroValue108
  t55 := Tryd.underlying110
  a55 := Tryd.isAgg110
  z55 := Tryd.sizeOf110
  v55 := Tryd.zeroValue110
  t66 := Tryd.underlying113
  a66 := Tryd.isAgg113
  z66 := Tryd.sizeOf113
  v66 := Tryd.zeroValue113
  t70 := Tryd.underlying117
  a70 := Tryd.isAgg117
  z70 := Tryd.sizeOf117
  v70 := Tryd.zeroValue117
  t76 := Tryd.underlying123
  a76 := Tryd.isAgg123
  z76 := Tryd.sizeOf123
  v76 := Tryd.zeroValue123
  t77 := Tryd.underlying124
  a77 := Tryd.isAgg124
  z77 := Tryd.sizeOf124
  v77 := Tryd.zeroValue124 }
end Go.Proofs
namespace Go.Proofs.YtnmjidjhloodbaaDoor
open Go.RowKit Go.Shelf Go.Sort
instance : Inhabited En := ⟨⟨.empty, false, .empty⟩⟩
instance : Inhabited Mk := ⟨⟨.empty, 0, .empty⟩⟩
/-- What the library's comparison of two strings hands back. -/
def cmpB (a b : ByteArray) : Int := if Op.bytesLess a.toList b.toList then -1 else if a.toList == b.toList then 0 else 1
set_option maxHeartbeats 1000000 in
theorem isNaNS_c (s : ByteArray) (w : World) : Calls Tryd.prog 71 #[.string s] w fun e w' => e = .returned (.bool false) ∧ w' = w := by
  go_enter Tryd.func71, Tryd.ntmps71
  go_wp2
  go_ret
  exact ⟨by simp, rfl⟩
set_option maxHeartbeats 2000000 in
theorem compareS_c (a b : ByteArray) (w : World) : Calls Tryd.prog 53 #[.string a, .string b] w fun e w' => e = .returned (.int .i64 (cmpB a b)) ∧ w' = w := by
  have hcon := isNaNS_c
  go_enter Tryd.func53, Tryd.ntmps53
  go_wp2_with (go_at_call 71; refine (hcon _ _).mono ?_; rintro e w' ⟨rfl, rfl⟩)
  all_goals (go_ret; refine ⟨?_, rfl⟩; unfold cmpB; simp_all)
/-- The three cells of what stands at place k in a row. -/
theorem flat_at {α : Type} {f : α → List Value} (hf : ∀ x, (f x).length = 3) {j : Nat} (hj : j < 3) : ∀ (ys : List α) (k : Nat) (y : α), ys[k]? = some y → (ys.flatMap f)[k * 3 + j]? = (f y)[j]? := by
  intro ys
  induction ys with
  | nil => intro k y hy; simp at hy
  | cons z r ih =>
    intro k y hy
    rw [List.flatMap_cons]
    cases k with
    | zero =>
      simp at hy; subst hy
      rw [Nat.zero_mul, Nat.zero_add, List.getElem?_append_left (by rw [hf]; exact hj)]
    | succ k =>
      rw [List.getElem?_append_right (by rw [hf]; omega), show (k + 1) * 3 + j - (f z).length = k * 3 + j by rw [hf]; omega]
      exact ih k y (by simpa using hy)
section
variable {α : Type} [Inhabited α] {f : α → List Value}
theorem holdsK_own (hf : ∀ x, (f x).length = 3) {w : World} {B g c : Nat} {t : TypeId} {xs : List α} (h : w.ownsRow B t 3 (.slice (some ⟨g, 0, none⟩) xs.length c) xs.length (xs.flatMap f)) (hn : 0 < xs.length) :
    HoldsK f 3 w g 0 xs.toArray ∧ B ≤ g ∧ g < w.heap.size := by
  obtain ⟨g', c', hv, _, hB, hlt, hc, hz⟩ := own_form h hn
  have hg : g = g' := by injection hv with h1; injection h1 with h1; injection h1
  subst hg
  refine ⟨fun j hj => ?_, hB, hlt⟩
  rw [size_flatK, List.size_toArray] at hj
  rw [Nat.zero_add]
  refine ⟨hc _ _ ?_, hz _⟩
  rw [get_flatK _ _ _ _ (by rw [List.size_toArray]; exact hj)]
  have h3 : j / 3 < xs.length := by omega
  have e := flat_at hf (Nat.mod_lt j (by omega : 0 < 3)) xs (j / 3) _ (List.getElem?_eq_getElem h3)
  rw [show j / 3 * 3 + j % 3 = j by omega] at e
  rw [e]
  have e2 : xs.toArray[j / 3]! = xs[j / 3] := by simp [h3]
  rw [e2]
  have h4 : j % 3 < (f xs[j / 3]).length := by rw [hf]; omega
  show _ = some ((f xs[j / 3])[j % 3]!)
  rw [List.getElem?_eq_getElem h4]
  simp [h4]
theorem slf_holdsK (hf : ∀ x, (f x).length = 3) {w : World} {g : Nat} {d : Array α} (h : HoldsK f 3 w g 0 d) (hg : g < w.heap.size) : SlF f w (some ⟨g, 0, none⟩) d.toList := fun _ => by
  refine ⟨g, 0, rfl, hg, fun k x hx j u hu => ?_⟩
  have hk : k < d.size := by simpa using (List.getElem?_eq_some_iff.1 hx).1
  have hj : j < 3 := by have := (List.getElem?_eq_some_iff.1 hu).1; rwa [hf] at this
  have e := (HoldsK.cell h hk hj).1
  have e1 : d[k]! = x := by
    rw [Array.getElem?_toList, Array.getElem?_eq_getElem hk] at hx
    simp at hx
    rw [getElem!_pos d k hk]; exact hx
  rw [e, e1]
  obtain ⟨h5, h6⟩ := List.getElem?_eq_some_iff.1 hu
  simp [h5, h6]
theorem below_sort {w : World} {B g n : Nat} {d : Array α} {os : Array Obj} (hB : B ≤ g) (hg : g < w.heap.size) : Below B w (sortWorldK f 3 w g 0 n d os) := by
  refine ⟨rfl, rfl, rfl, size_sortWorldK_c f 3 w g 0 n d os, fun k hk => ?_⟩
  have h1 : k < (putRowK f 3 (Sort.ahead w n) g 0 d).heap.size := by rw [size_putRowK]; show k < w.heap.size; omega
  show ((putRowK f 3 (Sort.ahead w n) g 0 d).heap ++ os)[k]? = _
  rw [Array.getElem?_append_left h1]
  show (w.heap.modify g _)[k]? = _
  rw [Array.getElem?_modify, if_neg (by omega)]
/-- A row of the call's own that was sorted is a row of the call's own. -/
theorem own_sort (hf : ∀ x, (f x).length = 3) {w : World} {B g c n : Nat} {t : TypeId} {xs : List α} {d : Array α} {os : Array Obj} (h : w.ownsRow B t 3 (.slice (some ⟨g, 0, none⟩) xs.length c) xs.length (xs.flatMap f)) (hg : g < w.heap.size) (hd : d.size = xs.length)
    (hH : HoldsK f 3 (sortWorldK f 3 w g 0 n d os) g 0 d) : (sortWorldK f 3 w g 0 n d os).ownsRow B t 3 (.slice (some ⟨g, 0, none⟩) d.toList.length c) d.toList.length (d.toList.flatMap f) := by
  rcases h.2 with ⟨hv, _⟩ | ⟨g', cap, cur, hv, hB, hh, hnc, hm, hs, ht⟩
  · cases hv
  obtain ⟨rfl, rfl⟩ : g = g' ∧ c = cap := by injection hv with h1 h2 h3; injection h1 with h1; injection h1 with h1; exact ⟨h1, h3⟩
  have hl : d.toList.length = xs.length := by rw [Array.length_toList, hd]
  have hheap : (sortWorldK f 3 w g 0 n d os).heap[g]? = some (.cells (putCells id 0 (flatK f 3 d) cur) t (0, 0)) := by
    have h1 : g < (putRowK f 3 (Sort.ahead w n) g 0 d).heap.size := by rw [size_putRowK]; exact hg
    show ((putRowK f 3 (Sort.ahead w n) g 0 d).heap ++ os)[g]? = _
    rw [Array.getElem?_append_left h1]
    show (w.heap.modify g _)[g]? = _
    rw [Array.getElem?_modify, if_pos rfl, hh]; rfl
  have hsz : (putCells id 0 (flatK f 3 d) cur).size = c * 3 := by simp [putCells, hs]
  refine ⟨flatMap_len hf _, .inr ⟨g, c, _, rfl, hB, hheap, by rw [hl]; exact hnc, hm, hsz, ?_⟩⟩
  apply List.ext_getElem?
  intro k
  by_cases hk : k < d.toList.length * 3
  · rw [List.getElem?_take, if_pos hk, Array.getElem?_toList]
    have h3 : k / 3 < d.size := by rw [Array.length_toList] at hk; omega
    have hj : k % 3 < 3 := Nat.mod_lt _ (by omega)
    have e := (HoldsK.cell hH h3 hj).1
    rw [show 0 + k / 3 * 3 + k % 3 = k by omega, cell_of_row _ g k _ t (0, 0) hheap] at e
    have e2 := flat_at hf hj d.toList (k / 3) _ (List.getElem?_eq_getElem (by rw [Array.length_toList]; exact h3))
    rw [show k / 3 * 3 + k % 3 = k by omega] at e2
    rw [e2, e, getElem!_pos d _ h3]
    have h4 : k % 3 < (f d[k / 3]).length := by rw [hf]; exact hj
    rw [Array.getElem_toList, List.getElem?_eq_getElem h4, getElem!_pos (f d[k / 3]) _ h4]
  · rw [List.getElem?_eq_none (by rw [List.length_take]; omega), List.getElem?_eq_none (by rw [flatMap_len hf]; omega)]
end
theorem permIn_list {α : Type} [Inhabited α] {d d' : Array α} (h : PermIn 0 d.size d d') : d'.toList.Perm d.toList := by
  obtain ⟨h1, _, h2⟩ := h
  rw [← h1, Array.extract_size, h1, Array.extract_size] at h2
  exact h2
theorem sorted_list {α : Type} [Inhabited α] {lt : α → α → Bool} {d : Array α} {n : Nat} (hn : d.size = n) (h : SortedIn lt 0 n d) : d.toList.Pairwise fun a b => lt b a = false := by
  rw [List.pairwise_iff_getElem]
  intro i j hi hj hij
  have e := h i j (Nat.zero_le _) hij (by rw [← hn]; simpa using hj)
  have hi' : i < d.size := by simpa using hi
  have hj' : j < d.size := by simpa using hj
  rw [getElem!_pos d i hi', getElem!_pos d j hj'] at e
  simpa using e
theorem lt_cmpB {α : Type} (p : α → ByteArray) (x y : α) : ltOf (fun a b : α => cmpB (p a) (p b)) x y = Op.bytesLess (p x).data.toList (p y).data.toList := by
  rw [← less_of']
  unfold ltOf
  show decide (cmpB (p x) (p y) < 0) = _
  unfold cmpB
  by_cases h : Op.bytesLess (p x).toList (p y).toList = true
  · simp [h]
  · rw [if_neg h]
    have h' : Op.bytesLess (p x).toList (p y).toList = false := by simpa using h
    rw [h']
    split <;> decide
theorem swoB {α : Type} (p : α → ByteArray) : SWO (ltOf (fun a b : α => cmpB (p a) (p b))) := by
  refine ⟨fun x => by rw [lt_cmpB]; exact less_irrefl _, fun x y z h1 h2 => by rw [lt_cmpB] at *; exact less_trans h1 h2, fun x y z h1 h2 => ?_⟩
  rw [lt_cmpB] at *
  rcases less_total (p x).data.toList (p z).data.toList with h | h | h
  · rcases less_total (p x).data.toList (p y).data.toList with k | k | k
    · rw [k] at h1; cases h1
    · rw [← k, h] at h2; cases h2
    · have := less_trans k h; rw [this] at h2; cases h2
  · rw [h]; exact less_irrefl _
  · exact less_asymm h
set_option maxHeartbeats 2000000 in
theorem cmpMk_c (x y : Mk) (W : World) : Calls Tryd.prog 52 #[Mk.val x, Mk.val y] W fun e w' => e = .returned (.int .i64 (cmpB x.p y.p)) ∧ ∃ q os', w' = grow (W.drewN q) os' := by
  have hcon := compareS_c
  go_enter Tryd.func52, Tryd.ntmps52
  go_wp2_with (go_at_call 53; refine (hcon _ _ _).mono ?_; rintro e w' ⟨rfl, rfl⟩)
  go_ret
  exact ⟨rfl, 0, _, by rw [alloc_eq_grow, alloc_eq_grow, grow_grow]; rfl⟩
set_option maxHeartbeats 2000000 in
/-- sortMarks: what it sorts reads as the same elements in order, in the same place. -/
theorem sortMk_c (w : World) (B : Nat) (a : Option Addr) (c : Nat) (xs : List Mk) (h : OwnMk w B (.slice a xs.length c) xs) (hx : xs.length ≤ 1000000) :
    Calls Tryd.prog 26 #[.slice a xs.length c] w fun e w' => e = .returned (.tuple #[]) ∧ ∃ ys, ys.Perm xs ∧ (ys.Pairwise fun e f => Op.bytesLess f.p.data.toList e.p.data.toList = false) ∧ SlF Mk.cells w' a ys ∧ OwnMk w' B (.slice a ys.length c) ys ∧ Below B w w' := by
  rcases Nat.eq_zero_or_pos xs.length with h0 | hn
  · have hcon := AnyF.slices_SortFunc_none Tryd.sortMark a c (.func (.func 52) #[] #[]) w
    obtain rfl : xs = [] := List.length_eq_zero_iff.1 h0
    change Calls Tryd.prog 51 _ _ _ at hcon
    go_enter Tryd.func26, Tryd.ntmps26
    go_wp2_with (go_at_call 51; refine hcon.mono ?_; rintro e w' ⟨rfl, rfl⟩)
    go_end0
    exact ⟨rfl, [], List.Perm.refl _, List.Pairwise.nil, SlF.nil_, h, Below.refl _ _⟩
  · have eg : ∀ args w, (callFunc 52 args).run Tryd.prog w = .ok (.enter 52 args) w := enters_of Tryd.func52 (by kernel_rfl) rfl
    obtain ⟨g, c', hv, _, _, _, _, _⟩ := own_form h hn
    obtain ⟨rfl, rfl⟩ : a = some ⟨g, 0, none⟩ ∧ c = c' := by injection hv with h1 h2 h3; exact ⟨h1, h3⟩
    obtain ⟨hH, hB, hg⟩ := holdsK_own (f := Mk.cells) (fun _ => rfl) h hn
    have hcon := AnyQ.slices_SortFunc Tryd.sortMark 3 Tryd.isAgg45 Tryd.sizeOf45 Mk.cells (fun _ => rfl) (fun x v hv => by simp [Mk.cells] at hv; rcases hv with rfl | rfl | rfl <;> rfl) (fun x y => cmpB x.p y.p) (swoB Mk.p) 52 #[] g 0 c xs.toArray w eg (fun _ _ _ _ x y => cmpMk_c x y _) hH hg (by simp; omega)
    change Calls Tryd.prog 51 _ _ _ at hcon
    rw [List.size_toArray] at hcon
    have HH := Lib.hid hH
    have HO := Lib.hid h
    clear hH h hv
    go_enter Tryd.func26, Tryd.ntmps26
    go_wp2_with (go_at_call 51; refine hcon.mono ?_; rintro e w' ⟨rfl, d', n, os, hp, hs, rfl⟩)
    go_end0
    have hz : xs.toArray.size = xs.length := by simp
    rw [← hz] at hp
    have hd : d'.size = xs.length := by rw [← hz]; exact hp.1
    refine ⟨rfl, d'.toList, permIn_list hp, (sorted_list hd hs).imp (fun h => by rw [lt_cmpB] at h; exact h), slf_holdsK (fun _ => rfl) (holdsK_sortWorldK_c _ 3 w g 0 xs.toArray d' n os HH.out hg (by rw [hd, hz])) (Nat.lt_of_lt_of_le hg (size_sortWorldK_c _ 3 w g 0 n d' os)), own_sort (fun _ => rfl) HO.out hg hd (holdsK_sortWorldK_c _ 3 w g 0 xs.toArray d' n os HH.out hg (by rw [hd, hz])), below_sort hB hg⟩
end Go.Proofs.YtnmjidjhloodbaaDoor
namespace Go.Proofs.YtnmjidjhloodbaaDoor
open Go.RowKit
open Classical in
/-- What LayerJoin tells. -/
noncomputable def ljoinB (a b : List PM) : Bool := decide (LOk a ∧ LOk b ∧ (joinLy a b).length ≤ 32)
noncomputable def ljoinL (a b : List PM) : List PM := if ljoinB a b then joinLy a b else []
theorem ljoin_bad {a b : List PM} (h : ¬ (LOk a ∧ LOk b)) : ljoinB a b = false := by
  unfold ljoinB; rw [decide_eq_false_iff_not]; exact fun h' => h ⟨h'.1, h'.2.1⟩
theorem ljoin_ok {a b : List PM} (h : LOk a) (h' : LOk b) : ljoinB a b = decide ((joinLy a b).length ≤ 32) := by
  unfold ljoinB; simp [h, h']
theorem bound_of {xs : List Mk} {l : List PM} (h : xs.map Mk.pl = l) (hl : ∀ m ∈ l, m.p.length ≤ 2000000 ∧ m.x.length ≤ 2000000) : ∀ e ∈ xs, e.p.size ≤ 2000000 ∧ e.x.size ≤ 2000000 := fun e he => by
  have := hl e.pl (by rw [← h]; exact List.mem_map_of_mem he)
  have h1 : e.pl.p.length = e.p.size := size_data e.p
  have h2 : e.pl.x.length = e.x.size := size_data e.x
  omega
theorem bound_pl {xs : List Mk} (hz : ∀ e ∈ xs, e.p.size ≤ 2000000 ∧ e.x.size ≤ 2000000) : ∀ m ∈ xs.map Mk.pl, m.p.length ≤ 2000000 ∧ m.x.length ≤ 2000000 := fun m hm => by
  obtain ⟨e, he, rfl⟩ := List.mem_map.1 hm
  have := hz e he
  have h1 : e.pl.p.length = e.p.size := size_data e.p
  have h2 : e.pl.x.length = e.x.size := size_data e.x
  omega
theorem both_x (b : List PM) (m : PM) : (bothM b m).x = m.x := by
  unfold bothM
  split
  · split
    · split <;> rfl
    · rfl
  · rfl
theorem bound_join {a b : List PM} (ha : ∀ m ∈ a, m.p.length ≤ 2000000 ∧ m.x.length ≤ 2000000) (hb : ∀ m ∈ b, m.p.length ≤ 2000000 ∧ m.x.length ≤ 2000000) : ∀ m ∈ joinRaw a b, m.p.length ≤ 2000000 ∧ m.x.length ≤ 2000000 := fun m hm => by
  unfold joinRaw at hm
  rcases List.mem_append.1 hm with h | h
  · exact hb m (List.mem_filter.1 h).1
  · obtain ⟨n, hn, rfl⟩ := List.mem_map.1 h
    rw [bothM_p, both_x]; exact ha n hn
theorem len_join (a b : List PM) : (joinRaw a b).length ≤ a.length + b.length := by
  unfold joinRaw
  have := List.length_filter_le (fun m => (atP PM.p a m.p).isNone && !hidesL a m.p) b
  rw [List.length_append, List.length_map]; omega
/-- What becomes of a mark as it lies. -/
def tidyK (r : Bool) (m : Mk) : Option Mk := if r = true then (if m.k = 3 then none else if m.k = 4 then some ⟨m.p, 2, m.x⟩ else some m) else some m
theorem tidy_pl (u : List PM) (m : Mk) : tidyM u m.pl = (tidyK (bareL u m.p.data.toList) m).map Mk.pl := by
  unfold tidyM tidyK
  show (if bareL u m.p.data.toList = true then (if m.k = 3 then none else if m.k = 4 then some _ else some m.pl) else some m.pl) = _
  split
  · split
    · rfl
    · split <;> rfl
  · rfl
theorem tidy_snoc (u : List PM) (ms : List Mk) (k : Nat) (e : Mk) (he : ms[k]? = some e) (ns : List Mk) (h : ns.map Mk.pl = ((ms.take k).map Mk.pl).filterMap (tidyM u)) :
    (ns ++ (tidyK (bareL u e.p.data.toList) e).toList).map Mk.pl = ((ms.take (k + 1)).map Mk.pl).filterMap (tidyM u) := by
  rw [take_ml ms k e he, List.filterMap_append, List.map_append, h]
  congr 1
  rw [List.filterMap_cons, tidy_pl]
  cases tidyK (bareL u e.p.data.toList) e <;> rfl
set_option maxRecDepth 100000 in
set_option maxHeartbeats 8000000 in
theorem layerJoin_c (a a' : Option Addr) (c c' : Nat) (xs ys : List Mk) (w : World) (hs : SlF Mk.cells w a xs) (hs' : SlF Mk.cells w a' ys) (hx : xs.length ≤ maxLen) (hy : ys.length ≤ maxLen) (hz : ∀ e ∈ xs, e.p.size ≤ 2000000 ∧ e.x.size ≤ 2000000) (hz' : ∀ e ∈ ys, e.p.size ≤ 2000000 ∧ e.x.size ≤ 2000000) :
    Calls Tryd.prog 8 #[.slice a xs.length c, .slice a' ys.length c'] w (MadeMb (ljoinL (xs.map Mk.pl) (ys.map Mk.pl)) (ljoinB (xs.map Mk.pl) (ys.map Mk.pl)) w) := by
  have HE := eltMk
  have hb := Below.refl w.heap.size w
  obtain ⟨r, hr⟩ := lok_dec xs
  obtain ⟨r', hr'⟩ := lok_dec ys
  have HT := Lib.hid (layerOk_c a c xs r (Lib.hid hr) w hs hx hz)
  have HT' := Lib.hid (fun W (h : SlF Mk.cells W a' ys) => layerOk_c a' c' ys r' (Lib.hid hr') W h hy hz')
  obtain ⟨L, hL⟩ : ∃ L, ljoinL (xs.map Mk.pl) (ys.map Mk.pl) = L := ⟨_, rfl⟩
  obtain ⟨B, hB⟩ : ∃ B, ljoinB (xs.map Mk.pl) (ys.map Mk.pl) = B := ⟨_, rfl⟩
  have hbd : ¬ (r = true ∧ r' = true) → B = false := fun h => by rw [← hB]; exact ljoin_bad fun h' => h ⟨hr.2 h'.1, hr'.2 h'.2⟩
  have HBD := Lib.hid hbd
  have HLD : Hid (¬ (r = true ∧ r' = true) → [] = L) := fun h => by rw [← hL]; unfold ljoinL; rw [hB, hbd h]; rfl
  rw [hL, hB]
  have HR := Lib.hid hr
  have HR' := Lib.hid hr'
  have HS := Lib.hid hs
  have HS' := Lib.hid hs'
  have HLL := Lib.hid hL
  have HBB := Lib.hid hB
  have HZ := Lib.hid hz
  have HZ' := Lib.hid hz'
  clear hr hr' hs hs' hL hB hbd hz hz'
  cases r with
  | false =>
    go_enter Tryd.func8, Tryd.ntmps8
    go_wp2_with fail
    refine (HT.out).mono ?_; rintro e W ⟨rfl, hq⟩; replace hb := chn hb hq; clear hq
    go_wp2
    refine bodyPost_ret (v := .tuple #[.slice none 0 0, .bool false]) (by simp [results, Tryd.results8, go_sem]) rfl ⟨none, 0, [], by rw [HBD.out (by simp)]; rfl, HLD.out (by simp), World.ownsRow_nil _ _ _ _, hb⟩
  | true =>
  cases r' with
  | false =>
    go_enter Tryd.func8, Tryd.ntmps8
    go_wp2_with fail
    refine (HT.out).mono ?_; rintro e W ⟨rfl, hq⟩; replace hb := chn hb hq; clear hq
    go_wp2_with fail
    refine (HT'.out _ (HS'.out.below hb)).mono ?_; rintro e W ⟨rfl, hq⟩; replace hb := chn hb hq; clear hq
    go_wp2
    refine bodyPost_ret (v := .tuple #[.slice none 0 0, .bool false]) (by simp [results, Tryd.results8, go_sem]) rfl ⟨none, 0, [], by rw [HBD.out (by simp)]; rfl, HLD.out (by simp), World.ownsRow_nil _ _ _ _, hb⟩
  | true =>
    have HLX := Lib.hid (HR.out.1 rfl)
    have HLY := Lib.hid (HR'.out.1 rfl)
    have hx32 : xs.length ≤ 32 := by have := HLX.out.most; rw [List.length_map] at this; exact this
    have hy32 : ys.length ≤ 32 := by have := HLY.out.most; rw [List.length_map] at this; exact this
    obtain ⟨U, hU⟩ : ∃ U, joinRaw (xs.map Mk.pl) (ys.map Mk.pl) = U := ⟨_, rfl⟩
    have HU := Lib.hid hU
    have HUB := Lib.hid (hU ▸ bound_join (bound_pl HZ.out) (bound_pl HZ'.out))
    have HULEN : Hid (U.length ≤ 64) := by
      have := len_join (xs.map Mk.pl) (ys.map Mk.pl)
      rw [List.length_map, List.length_map, hU] at this
      rw [Hid]; omega
    have HJ := Lib.hid (fun W (h : SlF Mk.cells W a xs) (h' : SlF Mk.cells W a' ys) => hU ▸ joinMarks_c a a' c c' xs ys W h h' hx32 hy32 HZ.out HZ'.out)
    clear hU
    go_enter Tryd.func8, Tryd.ntmps8
    go_wp2_with fail
    refine (HT.out).mono ?_; rintro e W ⟨rfl, hq⟩; replace hb := chn hb hq; clear hq
    go_wp2_with fail
    refine (HT'.out _ (HS'.out.below hb)).mono ?_; rintro e W ⟨rfl, hq⟩; replace hb := chn hb hq; clear hq
    go_wp2_with fail
    refine (HJ.out _ (HS.out.below hb) (HS'.out.below hb)).mono ?_; rintro e W1 ⟨a2, c2, ms, rfl, hms, hown2, hq⟩
    have hsm := own_slf (fun _ => rfl) hown2
    replace hb := chn hb hq
    have HB1 := Lib.hid hb
    have HSM := Lib.hid hsm
    have HMB := Lib.hid (bound_of hms HUB.out)
    have hm64 : ms.length ≤ 64 := by rw [← List.length_map (f := Mk.pl), hms]; exact HULEN.out
    have hm64' : (64 : Nat) ≤ maxLen := by unfold maxLen; omega
    have HBR := Lib.hid (fun (q : ByteArray) (hq : q.size ≤ 2000000) (r : Bool) (hr : Hid (bareL U q.data.toList = r)) W (h : SlF Mk.cells W a2 ms) => belowBare_c a2 c2 ms q r (by rw [Hid, hms]; exact hr) W h (Nat.le_trans hm64 hm64') hq HMB.out)
    obtain ⟨n, hn⟩ : ∃ n, ms.length = n := ⟨_, rfl⟩
    have HN := Lib.hid hn
    have HMS := Lib.hid hms
    have HALL : Hid (ms.take n = ms) := by rw [Hid, ← hn, List.take_length]
    rw [hn] at hm64 HBR ⊢
    clear hms hown2 hq hsm hn hb hm64'
    go_wp2
    go_loopw [7, 23] (fun v i wr => ∃ (k : Nat) (ns : List Mk), k ≤ n ∧ ns.length ≤ k ∧ i = .int .i64 k ∧ ns.map Mk.pl = ((ms.take k).map Mk.pl).filterMap (tidyM U) ∧ wr.ownsRow W1.heap.size 45 3 v ns.length (ns.flatMap Mk.cells) ∧ Below W1.heap.size W1 wr) (fun _ i _ => n - (intOf i).toNat)
    case atStart => exact ⟨0, [], Nat.zero_le _, Nat.zero_le _, rfl, rfl, World.ownsRow_nil _ _ _ _, Below.refl _ _⟩
    case round =>
      obtain ⟨k, ns, hk, hnl, rfl, hns, hown, hb⟩ := hrel
      have HNS := Lib.hid hns
      clear hns
      by_cases hlt : k < n
      · obtain ⟨e, hee⟩ : ∃ e, ms[k]? = some e := ⟨_, List.getElem?_eq_getElem (by rw [HN.out]; exact hlt)⟩
        have hzz := HMB.out e (List.mem_of_getElem? hee)
        have hsx := HSM.out.below hb
        obtain ⟨b, off, rfl, _⟩ := hsx.addr (by rw [HN.out]; omega)
        obtain ⟨d0, d1, d2⟩ := mk_at hsx k e hee
        obtain ⟨r, hr⟩ : ∃ r, Hid (bareL U e.p.data.toList = r) := ⟨_, rfl⟩
        have HSN := Lib.hid (tidy_snoc U ms k e hee ns HNS.out)
        rw [hr.out] at HSN
        obtain ⟨ep, ek, ex⟩ := e
        clear hee
        have i0 : (0 : Int) ≤ (k : Int) := by omega
        have i1 : (k : Int) < (n : Int) := by omega
        have q0 := new_cell wr #[.string ep, .int .i64 ek, .string ex] 45 0 (.string ep) rfl
        have q1 := new_cell wr #[.string ep, .int .i64 ek, .string ex] 45 1 (.int .i64 ek) rfl
        have q2 := new_cell wr #[.string ep, .int .i64 ek, .string ex] 45 2 (.string ex) rfl
        have f1 := new_free wr #[.string ep, .int .i64 ek, .string ex] 45 1
        have HOW := Lib.hid hown
        have HLW1 := Lib.hid hb.size
        have hbw := bellow_alloc wr (.cells #[.string ep, .int .i64 ek, .string ex] 45)
        replace hown := own_below hown (bellow_alloc wr (.cells #[.string ep, .int .i64 ek, .string ex] 45))
        replace hb := hb.alloc hb.size (.cells #[.string ep, .int .i64 ek, .string ex] 45); replace hsx := SlF.below hsx (bellow_alloc _ (.cells #[.string ep, .int .i64 ek, .string ex] 45)); 
        go_wp2_with fail
        refine (HBR.out ep hzz.1 r hr _ hsx).mono ?_; rintro e W ⟨rfl, hq⟩; replace hb := chn hb hq; replace hbw := chn hbw hq; replace f1 := (hq.frozen (p := ⟨wr.heap.size, 1, none⟩) (by simp)).trans f1; replace hsx := SlF.below hsx hq; replace hown := own_below hown hq; replace q0 := keepc hq q0; replace q1 := keepc hq q1; replace q2 := keepc hq q2; clear hq
        cases r with
        | false =>
          have HSM1 : Hid ((ns ++ [(⟨ep, ek, ex⟩ : Mk)]).map Mk.pl = ((ms.take (k + 1)).map Mk.pl).filterMap (tidyM U)) := HSN
          go_wp2_with (at_builtin; go_must (refine wp_app1H (by rfl) _ _ 24 (by rfl) HE W1.heap.size W1.heap.size W1 _ #[.string ep, .int .i64 ek, .string ex] _ _ _ (by rfl) W.heap.size (by simp) (by rfl) hown (by rfl) (by simp [Value.oneCell']) (by omega) hb.size hb (Nat.le_refl _) ?_); intro v' w1 hown1 hbel1 _ _)
          go_roundw
          case rel => exact ⟨k + 1, ns ++ [⟨ep, ek, ex⟩], by omega, by simp; omega, by go_num, HSM1.out, by rw [← flat_mk]; simpa using hown1, hbel1⟩
          case measure => simp [intOf]; omega
        | true =>
          by_cases h3 : ek = 3
          · subst h3
            have HSM1 : Hid (ns.map Mk.pl = ((ms.take (k + 1)).map Mk.pl).filterMap (tidyM U)) := by
              have h := HSN.out
              rw [show tidyK true ⟨ep, 3, ex⟩ = none from rfl, Option.toList_none, List.append_nil] at h
              exact h
            go_wp2
            go_roundw
            case rel => exact ⟨k + 1, ns, by omega, by omega, by go_num, HSM1.out, hown, hb⟩
            case measure => simp [intOf]; omega
          · have n3 : (ek == 3) = false := by simpa using h3
            by_cases h4 : ek = 4
            · subst h4
              have HSM1 : Hid ((ns ++ [(⟨ep, 2, ex⟩ : Mk)]).map Mk.pl = ((ms.take (k + 1)).map Mk.pl).filterMap (tidyM U)) := HSN
              have hown1 := own_below HOW.out (hbw.setCell (p := ⟨wr.heap.size, 1, none⟩) (Nat.le_refl _) (.int .i64 2))
              replace hown := hown1
              clear hown1
              have hb1 := hb.setCell (p := ⟨wr.heap.size, 1, none⟩) HLW1.out (.int .i64 2)
              replace hb := hb1
              clear hb1 h3
              go_wp2_with (at_builtin; go_must (refine wp_app1H (by rfl) _ _ 24 (by rfl) HE W1.heap.size W1.heap.size W1 _ #[.string ep, .int .i64 2, .string ex] _ _ _ (by rfl) W.heap.size (by simp) (by rfl) hown (by rfl) (by simp [Value.oneCell']) (by omega) hb.size hb (Nat.le_refl _) ?_); intro v' w1 hown1 hbel1 _ _)
              go_roundw
              case rel => exact ⟨k + 1, ns ++ [⟨ep, 2, ex⟩], by omega, by simp; omega, by go_num, HSM1.out, by rw [← flat_mk]; simpa using hown1, hbel1⟩
              case measure => simp [intOf]; omega
            · have n4 : (ek == 4) = false := by simpa using h4
              have HSM1 : Hid ((ns ++ [(⟨ep, ek, ex⟩ : Mk)]).map Mk.pl = ((ms.take (k + 1)).map Mk.pl).filterMap (tidyM U)) := by
                have h := HSN.out
                unfold tidyK at h
                rw [if_pos rfl] at h
                dsimp only at h
                rw [if_neg h3, if_neg h4] at h
                exact h
              clear h3 h4
              go_wp2_with (at_builtin; go_must (refine wp_app1H (by rfl) _ _ 24 (by rfl) HE W1.heap.size W1.heap.size W1 _ #[.string ep, .int .i64 ek, .string ex] _ _ _ (by rfl) W.heap.size (by simp) (by rfl) hown (by rfl) (by simp [Value.oneCell']) (by omega) hb.size hb (Nat.le_refl _) ?_); intro v' w1 hown1 hbel1 _ _)
              go_roundw
              case rel => exact ⟨k + 1, ns ++ [⟨ep, ek, ex⟩], by omega, by simp; omega, by go_num, HSM1.out, by rw [← flat_mk]; simpa using hown1, hbel1⟩
              case measure => simp [intOf]; omega
      · obtain rfl : k = n := by omega
        have HRAW : Hid (ns.map Mk.pl = tidyRaw U) := by rw [Hid, HNS.out, HALL.out, HMS.out]; rfl
        have HLEN : Hid (ns.length = (joinLy (xs.map Mk.pl) (ys.map Mk.pl)).length) := by
          rw [Hid, ← join_len HLX.out HLY.out, HU.out, ← HRAW.out, List.length_map]
        have HBE : Hid (decide (ns.length ≤ 32) = B) := by rw [Hid, ← HBB.out, ljoin_ok HLX.out HLY.out, HLEN.out]
        have HBX := Lib.hid (HB1.out.trans (hb.mono HB1.out.size))
        by_cases h32 : 32 < ns.length
        · have hg : (32 : Int) < (ns.length : Int) := by omega
          obtain rfl : B = false := by rw [← HBE.out, decide_eq_false_iff_not]; omega
          have HL0 : Hid ([] = L) := by rw [Hid, ← HLL.out]; unfold ljoinL; rw [HBB.out]; rfl
          obtain ⟨v1, v2, rfl⟩ := own_shape hown
          go_wp2
          refine bodyPost_ret (v := .tuple #[.slice none 0 0, .bool false]) (by simp [results, Tryd.results8, go_sem]) rfl ⟨none, 0, [], rfl, HL0.out, World.ownsRow_nil _ _ _ _, HBX.out⟩
        · have hg : decide ((32 : Int) < (ns.length : Int)) = false := by rw [decide_eq_false_iff_not]; omega
          obtain rfl : B = true := by rw [← HBE.out, decide_eq_true_iff]; omega
          have HL1 : Hid (joinLy (xs.map Mk.pl) (ys.map Mk.pl) = L) := by rw [Hid, ← HLL.out]; unfold ljoinL; rw [HBB.out]; rfl
          obtain ⟨v1, v2, rfl⟩ := own_shape hown
          go_wp2_with fail
          refine (sortMk_c _ W1.heap.size v1 v2 ns hown (by omega)).mono ?_; rintro e W2 ⟨rfl, zs, hp, hso, _, hz2, hq⟩
          have hzl : ns.length = zs.length := hp.length_eq.symm
          have HEQ : Hid (zs.map Mk.pl = L) := by
            rw [Hid, ← HL1.out]
            refine join_of_raw HLX.out HLY.out (by rw [HU.out, ← HRAW.out]; exact hp.map _) ?_
            rw [List.pairwise_map]
            exact hso
          go_wp2
          refine bodyPost_ret (v := .tuple #[.slice v1 zs.length v2, .bool true]) (by simp [results, Tryd.results8, go_sem]) rfl ⟨v1, v2, zs, rfl, HEQ.out, own_mono hz2 HB1.out.size, HBX.out.trans (hq.mono HB1.out.size)⟩
end Go.Proofs.YtnmjidjhloodbaaDoor
namespace Go.Proofs.YtnmjidjhloodbaaDoor
open Go.RowKit
theorem tidyL_step (ms : List Mk) (k : Nat) (e : Mk) (he : ms[k]? = some e) (ns : List Mk) :
    tidyL (ns.map Mk.pl) ((ms.drop k).map Mk.pl) = tidyL ((ns ++ (tidyK (bareL (ns.map Mk.pl) e.p.data.toList) e).toList).map Mk.pl) ((ms.drop (k + 1)).map Mk.pl) := by
  obtain ⟨h1, h2⟩ := List.getElem?_eq_some_iff.1 he
  rw [List.drop_eq_getElem_cons h1, h2, List.map_cons, tidyL, tidy_pl, List.map_append]
  cases tidyK (bareL (ns.map Mk.pl) e.p.data.toList) e with
  | none => simp
  | some m => rfl
set_option maxRecDepth 100000 in
set_option maxHeartbeats 8000000 in
theorem l3Tidy_c (a : Option Addr) (c : Nat) (ms : List Mk) (w : World) (hs : SlF Mk.cells w a ms) (hx : ms.length ≤ 64) (hz : ∀ e ∈ ms, e.p.size ≤ 2000000 ∧ e.x.size ≤ 2000000) (hp : ∀ e ∈ ms, pathOkL e.p.data.toList = true) :
    Calls Tryd.prog 20 #[.slice a ms.length c] w (MadeMs (tidyL [] (ms.map Mk.pl)) w) := by
  have HE := eltMk
  obtain ⟨n, hn⟩ : ∃ n, ms.length = n := ⟨_, rfl⟩
  have HN := Lib.hid hn
  have HMB := Lib.hid hz
  have HPO := Lib.hid hp
  have HSM := Lib.hid hs
  obtain ⟨T, hT⟩ : ∃ T, tidyL [] (ms.map Mk.pl) = T := ⟨_, rfl⟩
  have HT0 := Lib.hid hT.symm
  rw [hn, hT]
  have hm64 : n ≤ 64 := by omega
  clear hn hz hp hs hT hx
  go_enter Tryd.func20, Tryd.ntmps20
  go_wp2
  go_loopw [3, 4] (fun v i wr => ∃ (k : Nat) (ns : List Mk), k ≤ n ∧ ns.length ≤ k ∧ i = .int .i64 k ∧ T = tidyL (ns.map Mk.pl) ((ms.drop k).map Mk.pl) ∧ (∀ g ∈ ns, ∃ f ∈ ms, g.p = f.p ∧ g.x = f.x) ∧ wr.ownsRow w.heap.size 45 3 v ns.length (ns.flatMap Mk.cells) ∧ Below w.heap.size w wr) (fun _ i _ => n - (intOf i).toNat)
  case atStart => exact ⟨0, [], Nat.zero_le _, Nat.zero_le _, rfl, HT0.out, fun _ h => (by cases h), World.ownsRow_lit w #[] 0 (Nat.le_refl _) (Nat.zero_le _) rfl, bellow_alloc _ _⟩
  case round =>
    obtain ⟨k, ns, hk, hnl, rfl, hns, hnf, hown, hb⟩ := hrel
    have HNS := Lib.hid hns
    have HNF := Lib.hid hnf
    clear hns hnf
    by_cases hlt : k < n
    · obtain ⟨e, hee⟩ : ∃ e, ms[k]? = some e := ⟨_, List.getElem?_eq_getElem (by rw [HN.out]; exact hlt)⟩
      have hzz := HMB.out e (List.mem_of_getElem? hee)
      have hsx := HSM.out.below hb
      obtain ⟨b, off, rfl, _⟩ := hsx.addr (by rw [HN.out]; omega)
      obtain ⟨d0, d1, d2⟩ := mk_at hsx k e hee
      obtain ⟨r, hr⟩ : ∃ r, Hid ((ns.map Mk.pl).any (bareQ e.p.data.toList) = r) := ⟨_, rfl⟩
      have HSN := Lib.hid (tidyL_step ms k e hee ns)
      rw [← bareQ_eq (HPO.out e (List.mem_of_getElem? hee)) (fun m hm => by obtain ⟨g, hg, rfl⟩ := List.mem_map.1 hm; obtain ⟨f, hf, h1, _⟩ := HNF.out g hg; show pathOkL g.p.data.toList = true; rw [h1]; exact HPO.out f hf), hr.out] at HSN
      obtain ⟨va, vc, rfl⟩ := own_shape hown
      have HEM := Lib.hid (List.mem_of_getElem? hee)
      obtain ⟨ep, ek, ex⟩ := e
      clear hee
      have i0 : (0 : Int) ≤ (k : Int) := by omega
      have i1 : (k : Int) < (n : Int) := by omega
      have q0 := new_cell wr #[.string ep, .int .i64 ek, .string ex] 45 0 (.string ep) rfl
      have q1 := new_cell wr #[.string ep, .int .i64 ek, .string ex] 45 1 (.int .i64 ek) rfl
      have q2 := new_cell wr #[.string ep, .int .i64 ek, .string ex] 45 2 (.string ex) rfl
      have f1 := new_free wr #[.string ep, .int .i64 ek, .string ex] 45 1
      have HOW := Lib.hid hown
      have HLW := Lib.hid hb.size
      have hbw := bellow_alloc wr (.cells #[.string ep, .int .i64 ek, .string ex] 45)
      replace hown := own_below hown (bellow_alloc wr (.cells #[.string ep, .int .i64 ek, .string ex] 45))
      replace hb := hb.alloc hb.size (.cells #[.string ep, .int .i64 ek, .string ex] 45); replace hsx := SlF.below hsx (bellow_alloc _ (.cells #[.string ep, .int .i64 ek, .string ex] 45)); 
      go_wp2_with fail
      refine (l3Bare_c _ _ ns ep r hr _ (own_slf (fun _ => rfl) hown) (by unfold maxLen; omega) hzz.1 (fun e he => by obtain ⟨f, hf, h1, h2⟩ := HNF.out e he; rw [h1, h2]; exact HMB.out f hf)).mono ?_; rintro e W ⟨rfl, hq⟩; replace hb := chn hb hq; replace hbw := chn hbw hq; replace f1 := (hq.frozen (p := ⟨wr.heap.size, 1, none⟩) (by simp)).trans f1; replace hsx := SlF.below hsx hq; replace hown := own_below hown hq; replace q0 := keepc hq q0; replace q1 := keepc hq q1; replace q2 := keepc hq q2; clear hq
      cases r with
      | false =>
        have HSM1 : Hid (T = tidyL ((ns ++ [(⟨ep, ek, ex⟩ : Mk)]).map Mk.pl) ((ms.drop (k + 1)).map Mk.pl)) := HNS.out.trans HSN.out
        go_wp2_with (at_builtin; go_must (refine wp_app1H (by rfl) _ _ 24 (by rfl) HE w.heap.size w.heap.size w _ #[.string ep, .int .i64 ek, .string ex] _ _ _ (by rfl) W.heap.size (by simp) (by rfl) hown (by rfl) (by simp [Value.oneCell']) (by omega) hb.size hb (Nat.le_refl _) ?_); intro v' w1 hown1 hbel1 _ _)
        go_roundw
        case rel => exact ⟨k + 1, ns ++ [⟨ep, ek, ex⟩], by omega, by simp; omega, by go_num, HSM1.out, fun g hg => by
          rcases List.mem_append.1 hg with h | h
          · exact HNF.out g h
          · exact ⟨_, HEM.out, by rw [List.mem_singleton.1 h], by rw [List.mem_singleton.1 h]⟩, by rw [← flat_mk]; simpa using hown1, hbel1⟩
        case measure => simp [intOf]; omega
      | true =>
        by_cases h3 : ek = 3
        · subst h3
          have HSM1 : Hid (T = tidyL (ns.map Mk.pl) ((ms.drop (k + 1)).map Mk.pl)) := by
            have h := HNS.out.trans HSN.out
            rw [show tidyK true ⟨ep, 3, ex⟩ = none from rfl, Option.toList_none, List.append_nil] at h
            exact h
          go_wp2
          go_roundw
          case rel => exact ⟨k + 1, ns, by omega, by omega, by go_num, HSM1.out, HNF.out, hown, hb⟩
          case measure => simp [intOf]; omega
        · have n3 : (ek == 3) = false := by simpa using h3
          by_cases h4 : ek = 4
          · subst h4
            have HSM1 : Hid (T = tidyL ((ns ++ [(⟨ep, 2, ex⟩ : Mk)]).map Mk.pl) ((ms.drop (k + 1)).map Mk.pl)) := HNS.out.trans HSN.out
            have hown1 := own_below HOW.out (hbw.setCell (p := ⟨wr.heap.size, 1, none⟩) (Nat.le_refl _) (.int .i64 2))
            replace hown := hown1
            clear hown1
            have hb1 := hb.setCell (p := ⟨wr.heap.size, 1, none⟩) HLW.out (.int .i64 2)
            replace hb := hb1
            clear hb1 h3
            go_wp2_with (at_builtin; go_must (refine wp_app1H (by rfl) _ _ 24 (by rfl) HE w.heap.size w.heap.size w _ #[.string ep, .int .i64 2, .string ex] _ _ _ (by rfl) W.heap.size (by simp) (by rfl) hown (by rfl) (by simp [Value.oneCell']) (by omega) hb.size hb (Nat.le_refl _) ?_); intro v' w1 hown1 hbel1 _ _)
            go_roundw
            case rel => exact ⟨k + 1, ns ++ [⟨ep, 2, ex⟩], by omega, by simp; omega, by go_num, HSM1.out, fun g hg => by
              rcases List.mem_append.1 hg with h | h
              · exact HNF.out g h
              · exact ⟨_, HEM.out, by rw [List.mem_singleton.1 h], by rw [List.mem_singleton.1 h]⟩, by rw [← flat_mk]; simpa using hown1, hbel1⟩
            case measure => simp [intOf]; omega
          · have n4 : (ek == 4) = false := by simpa using h4
            have HSM1 : Hid (T = tidyL ((ns ++ [(⟨ep, ek, ex⟩ : Mk)]).map Mk.pl) ((ms.drop (k + 1)).map Mk.pl)) := by
              have h := HNS.out.trans HSN.out
              unfold tidyK at h
              rw [if_pos rfl] at h
              dsimp only at h
              rw [if_neg h3, if_neg h4] at h
              exact h
            clear h3 h4
            go_wp2_with (at_builtin; go_must (refine wp_app1H (by rfl) _ _ 24 (by rfl) HE w.heap.size w.heap.size w _ #[.string ep, .int .i64 ek, .string ex] _ _ _ (by rfl) W.heap.size (by simp) (by rfl) hown (by rfl) (by simp [Value.oneCell']) (by omega) hb.size hb (Nat.le_refl _) ?_); intro v' w1 hown1 hbel1 _ _)
            go_roundw
            case rel => exact ⟨k + 1, ns ++ [⟨ep, ek, ex⟩], by omega, by simp; omega, by go_num, HSM1.out, fun g hg => by
              rcases List.mem_append.1 hg with h | h
              · exact HNF.out g h
              · exact ⟨_, HEM.out, by rw [List.mem_singleton.1 h], by rw [List.mem_singleton.1 h]⟩, by rw [← flat_mk]; simpa using hown1, hbel1⟩
            case measure => simp [intOf]; omega
    · obtain rfl : k = n := by omega
      have HRAW : Hid (ns.map Mk.pl = T) := by rw [Hid, HNS.out, List.drop_eq_nil_of_le (by rw [HN.out]; exact Nat.le_refl _)]; rfl
      go_wp2
      go_ret
      exact madeMs_of HRAW.out hown (Nat.le_refl _) hb
end Go.Proofs.YtnmjidjhloodbaaDoor
namespace Go.Proofs.YtnmjidjhloodbaaDoor
open Go.RowKit
/-- A slice of entries that the call made. -/
def MadeMk (ys : List Mk) (w : World) (e : Ending) (w' : World) : Prop :=
  ∃ g c, e = .returned (.slice (some ⟨g, 0, none⟩) ys.length c) ∧ ys.length ≤ c ∧ c ≤ maxLen ∧ OwnMk w' w.heap.size (.slice (some ⟨g, 0, none⟩) ys.length c) ys ∧ Below w.heap.size w w'
theorem own_slfMk' {w : World} {B g c : Nat} {xs : List Mk} (h : OwnMk w B (.slice (some ⟨g, 0, none⟩) xs.length c) xs) : SlF Mk.cells w (some ⟨g, 0, none⟩) xs := fun hn => by
  obtain ⟨g', c', hv, _, _, hlt, hc, _⟩ := own_form h hn
  have hg : g = g' := by injection hv with h1; injection h1 with h1; injection h1
  subst hg
  refine ⟨g, 0, rfl, hlt, fun k x hx j u hu => ?_⟩
  rw [Nat.zero_add]
  refine hc _ _ ?_
  have key : ∀ (ys : List Mk) (k : Nat) (y : Mk), ys[k]? = some y → (ys.flatMap Mk.cells)[k * 3 + j]? = (Mk.cells y)[j]? := by
    have hj : j < 3 := (List.getElem?_eq_some_iff.1 hu).1
    intro ys
    induction ys with
    | nil => intro k y hy; simp at hy
    | cons z r ih =>
      intro k y hy
      rw [List.flatMap_cons]
      cases k with
      | zero =>
        simp at hy; subst hy
        rw [Nat.zero_mul, Nat.zero_add, List.getElem?_append_left (by exact hj)]
      | succ k =>
        rw [List.getElem?_append_right (by show 3 ≤ _; omega), show (k + 1) * 3 + j - (Mk.cells z).length = k * 3 + j by show (k + 1) * 3 + j - 3 = _; omega]
        exact ih k y (by simpa using hy)
  rw [key xs k x hx]; exact hu
theorem mmade_of {w0 w : World} {B : Nat} {v : Value} {ys : List Mk} (h : w.ownsRow B 45 3 v ys.length (ys.flatMap Mk.cells)) (hB : w0.heap.size ≤ B) (hb : Below w0.heap.size w0 w) (hn : 0 < ys.length) : MadeMk ys w0 (.returned v) w := by
  have h0 := h
  rcases h.2 with ⟨_, h1⟩ | ⟨g, cap, cur, rfl, hg, hh, hnc, hm, h2, h3⟩
  · omega
  · exact ⟨g, cap, rfl, hnc, hm, ⟨h.1, .inr ⟨g, cap, cur, rfl, Nat.le_trans hB hg, hh, hnc, hm, h2, h3⟩⟩, hb⟩
theorem mk_one (e : Mk) : ∀ u ∈ Mk.cells e, u.oneCell' = true := by intro u hu; simp [Mk.cells] at hu; rcases hu with rfl | rfl | rfl <;> rfl
theorem mflat_one (e : Mk) : [e].flatMap Mk.cells = (#[.string e.p, .int .i64 e.k, .string e.x] : Array Value).toList := by simp [Mk.cells]
theorem mflat_app (xs : List Mk) (e : Mk) : xs.flatMap Mk.cells ++ (#[.string e.p, .int .i64 e.k, .string e.x] : Array Value).toList = (xs ++ [e]).flatMap Mk.cells := by simp [Mk.cells]
theorem mbs_less (e f : Mk) (b : Bool) : Op.bytesLess e.p.toList f.p.toList = b ↔ Op.bytesLess (Mk.bs e) (Mk.bs f) = b := by rw [less_of']
theorem mdrop_len {xs : List Mk} {n k : Nat} (h : xs.length = n) : (xs.drop k).length = n - k := by rw [List.length_drop, h]
theorem mdrop_len0 {xs : List Mk} {k : Nat} (h : xs.length = k) : (xs.drop k).length = 0 := by rw [List.length_drop, h]; omega
theorem mput_rows {xs ys : List Mk} {k k1 : Nat} {e : Mk} (h : ys = xs.take k ++ e :: xs.drop k1) {w : World} {B : Nat} {t : TypeId} {v : Value}
    (ho : w.ownsRow B t 3 v ((xs.take k).length + 1 + (xs.drop k1).length) ((xs.take k).flatMap Mk.cells ++ (#[.string e.p, .int .i64 e.k, .string e.x] : Array Value).toList ++ (xs.drop k1).flatMap Mk.cells)) : w.ownsRow B t 3 v ys.length (ys.flatMap Mk.cells) := by
  have e1 : ys.length = (xs.take k).length + 1 + (xs.drop k1).length := by rw [h]; simp; omega
  have e2 : ys.flatMap Mk.cells = (xs.take k).flatMap Mk.cells ++ (#[.string e.p, .int .i64 e.k, .string e.x] : Array Value).toList ++ (xs.drop k1).flatMap Mk.cells := by rw [h]; simp [Mk.cells]
  rw [e1, e2]; exact ho
set_option maxRecDepth 100000 in
set_option maxHeartbeats 4000000 in
theorem l3Put_c (b off c : Nat) (xs : List Mk) (e : Mk) (ys : List Mk) (hy : Hid (putP Mk.bs xs e = ys)) (w : World) (hs : SlF Mk.cells w (some ⟨b, off, none⟩) xs) (_hblk : b < w.heap.size) (hx : xs.length ≤ 1000000) (hc : xs.length ≤ c) (hcm : c ≤ maxLen) :
    Calls Tryd.prog 45 #[.slice (some ⟨b, off, none⟩) xs.length c, e.val] w (MadeMk ys w) := by
  have HE := eltMk
  obtain ⟨ep, ed, ex⟩ := e
  unfold maxLen at hcm
  obtain ⟨n, hn⟩ : ∃ n, xs.length = n := ⟨_, rfl⟩
  have HN := Lib.hid hn
  rw [hn] at hx hc ⊢
  obtain ⟨z, hz⟩ : ∃ z, w.alloc (.cells #[.string ep, .int .i64 ed, .string ex] 45) = z := ⟨_, rfl⟩
  have hzs : z.heap.size = w.heap.size + 1 := by rw [← hz]; simp
  have c0 : z.cell? ⟨w.heap.size, 0, none⟩ = some (.string ep) := by rw [← hz]; exact new_cell _ _ _ 0 _ rfl
  have c1 : z.cell? ⟨w.heap.size, 1, none⟩ = some (.int .i64 ed) := by rw [← hz]; exact new_cell _ _ _ 1 _ rfl
  have c2 : z.cell? ⟨w.heap.size, 2, none⟩ = some (.string ex) := by rw [← hz]; exact new_cell _ _ _ 2 _ rfl
  have HW := Lib.hid (hz ▸ bellow_alloc w _ : Below w.heap.size w z)
  have HS := Lib.hid (hs.below HW.out)
  have HZ := Lib.hid hzs
  have HWZ := Lib.hid (show w.heap.size ≤ z.heap.size by rw [hzs]; omega)
  have HC0 := Lib.hid c0
  have HC1 := Lib.hid c1
  have HC2 := Lib.hid c2
  clear hn hs hzs c0 c1 c2
  go_enter Tryd.func45, Tryd.ntmps45
  go_wp2
  clear hz
  go_loopw [5, 6] (fun v i wr => ∃ k : Nat, k ≤ n ∧ i = .int .i64 k ∧ wr.ownsRow z.heap.size 45 3 v (xs.take k).length ((xs.take k).flatMap Mk.cells) ∧ (∀ (j : Nat) (f : Mk), j < k → xs[j]? = some f → Op.bytesLess (Mk.bs f) ep.data.toList = true) ∧ Below z.heap.size z wr) (fun _ i _ => n - (intOf i).toNat)
  case atStart => exact ⟨0, Nat.zero_le _, rfl, World.ownsRow_lit z #[] 0 (Nat.le_refl _) (Nat.zero_le _) rfl, fun j _ h => absurd h (by omega), bellow_alloc _ _⟩
  case round =>
    obtain ⟨k, hk, rfl, hown, hall, hb⟩ := hrel
    have HA := Lib.hid hall
    clear hall
    have g0 := keepc hb HC0.out
    have g1 := keepc hb HC1.out
    have g2 := keepc hb HC2.out
    have hsw := HS.out.below hb
    have hlen : (xs.take k).length = k := by rw [List.length_take, HN.out]; omega
    have HL := Lib.hid hlen
    clear hlen
    by_cases hlt : k < n
    · obtain ⟨f, hff⟩ : ∃ f, xs[k]? = some f := ⟨_, List.getElem?_eq_getElem (by rw [HN.out]; exact hlt)⟩
      obtain ⟨d0, d1, d2⟩ := mk_at hsw k f hff
      have i0 : (0 : Int) ≤ (k : Int) := by omega
      have i1 : (k : Int) < (n : Int) := by omega
      rcases Bool.eq_false_or_eq_true (Op.bytesLess f.p.toList ep.toList) with hle | hle
      · have HLE := Lib.hid ((mbs_less f ⟨ep, ed, ex⟩ true).1 hle)
        have HFF := Lib.hid hff
        clear hff
        go_wp2_with fail
        go_quiet (fail)
        go_wp2_with (at_builtin; go_must (refine wp_app1 (by rfl) _ _ 24 (by rfl) HE z.heap.size z.heap.size z _ #[.string f.p, .int .i64 f.k, .string f.x] _ _ _ (by rfl) (by rfl) hown (by rfl) (by simp [Value.oneCell']) (by have := HL.out; omega) (drw hb _).size (drw hb _) (Nat.le_refl _) ?_); intro v' w1 hown1 hbel1 _ hg1)
        go_roundw
        case rel => exact ⟨k + 1, by omega, by go_num, by
          have e1 := List.take_succ_eq_append_getElem (l := xs) (i := k) (by rw [HN.out]; exact hlt)
          have e2 : xs[k]'(by rw [HN.out]; exact hlt) = f := (List.getElem?_eq_some_iff.1 HFF.out).2
          rw [e2] at e1
          rw [mflat_app] at hown1
          rw [e1, List.length_append]
          exact hown1, fun j g hj hg => by
          by_cases ej : j = k
          · subst ej
            rw [HFF.out] at hg
            injection hg with hg
            exact hg ▸ HLE.out
          · exact HA.out j g (by omega) hg, hbel1⟩
        case measure => simp [intOf]; omega
      · have hnl : ∀ x, xs[k]? = some x → Op.bytesLess (Mk.bs x) (Mk.bs ⟨ep, ed, ex⟩) = false := fun x hx => by
          rw [hff] at hx; injection hx with hx; rw [← hx]; exact (mbs_less f ⟨ep, ed, ex⟩ false).1 hle
        have HSP := Lib.hid (put_split (f := Mk.bs) xs ⟨ep, ed, ex⟩ k (by rw [HN.out]; omega) HA.out hnl)
        clear hnl
        by_cases heq : f.p.data.toList = ep.data.toList
        · have q1 := beqs_yes heq
          have HY : Hid (ys = xs.take k ++ ⟨ep, ed, ex⟩ :: xs.drop (k + 1)) := by
            rw [Hid, ← hy.out, HSP.out, hff, show (Option.map Mk.bs (some f)) = some (Mk.bs ⟨ep, ed, ex⟩) from congrArg some heq, if_pos rfl]
          have HFF := Lib.hid hff
          clear heq hff HSP
          have i2 : (k : Int) + 1 ≤ (n : Int) := by omega
          have i3 : (0 : Int) ≤ (k : Int) + 1 := by omega
          have i4 : (k : Int) + 1 ≤ (c : Int) := by omega
          go_wp2_with fail
          go_quiet (fail)
          go_wp2_with (at_builtin; go_must (refine wp_app1 (by rfl) _ _ 24 (by rfl) HE z.heap.size z.heap.size z _ #[.string ep, .int .i64 ed, .string ex] _ _ _ (by rfl) (by rfl) hown (by rfl) (by simp [Value.oneCell']) (by have := HL.out; omega) (drw hb _).size (drw hb _) (Nat.le_refl _) ?_); intro v' w1 hown1 hbel1 _ hg1)
          have hsw1 := HS.out.below hbel1
          have HDL := Lib.hid (mdrop_len (k := (k+1)) HN.out)
          by_cases hck : c = (k+1)
          · have HSD : ∀ W, SlF Mk.cells W (some ⟨b, off, none⟩) (xs.drop (k+1)) := fun W h => absurd h (by rw [HDL.out]; omega)
            obtain ⟨d0, d1, d2⟩ := mk_at hsw1 k f HFF.out
            have q0 := keepc hbel1 HC0.out
            have hown2 := hown1
            go_wp2_with fail
            go_quiet (fail)
            go_wp2_with (at_builtin; go_must (refine wp_appS (by rfl) _ _ 24 (by rfl) HE z.heap.size z.heap.size z _ _ _ _ (by rfl) Mk.cells (fun _ => rfl) mk_one (xs.drop (k+1)) b off _ _ HDL.out (by rfl) (HSD _) hown2 (by have := HL.out; have := HDL.out; omega) hbel1.size (drw hbel1 _) (Nat.le_refl _) ?_); intro v2 w2 hown3 hbel3 _ _)
            go_ret
            exact mmade_of (mput_rows HY.out hown3) HWZ.out (HW.out.trans (hbel3.mono HWZ.out)) (by rw [HY.out]; simp; omega)
          · have HSD0 := Lib.hid (hsw1.drop (k+1))
            obtain ⟨d0, d1, d2⟩ := mk_at hsw1 k f HFF.out
            have q0 := keepc hbel1 HC0.out
            have hown2 := hown1
            go_wp2_with fail
            go_quiet (fail)
            go_wp2_with (at_builtin; go_must (refine wp_appS (by rfl) _ _ 24 (by rfl) HE z.heap.size z.heap.size z _ _ _ _ (by rfl) Mk.cells (fun _ => rfl) mk_one (xs.drop (k+1)) b (off+(k+1)*3) _ _ HDL.out (by rfl) (HSD0.out.below (below_dr _ _)) hown2 (by have := HL.out; have := HDL.out; omega) hbel1.size (drw hbel1 _) (Nat.le_refl _) ?_); intro v2 w2 hown3 hbel3 _ _)
            go_ret
            exact mmade_of (mput_rows HY.out hown3) HWZ.out (HW.out.trans (hbel3.mono HWZ.out)) (by rw [HY.out]; simp; omega)
        · have q1 := beqs_no heq
          have HY : Hid (ys = xs.take k ++ ⟨ep, ed, ex⟩ :: xs.drop k) := by
            rw [Hid, ← hy.out, HSP.out, hff, if_neg (by intro h; injection h with h; exact heq h)]; rfl
          have HFF := Lib.hid hff
          clear heq hff HSP
          have i4 : (k : Int) ≤ (c : Int) := by omega
          have i5 : (k : Int) ≤ (n : Int) := by omega
          go_wp2_with fail
          go_quiet (fail)
          go_wp2_with (at_builtin; go_must (refine wp_app1 (by rfl) _ _ 24 (by rfl) HE z.heap.size z.heap.size z _ #[.string ep, .int .i64 ed, .string ex] _ _ _ (by rfl) (by rfl) hown (by rfl) (by simp [Value.oneCell']) (by have := HL.out; omega) (drw hb _).size (drw hb _) (Nat.le_refl _) ?_); intro v' w1 hown1 hbel1 _ hg1)
          have hsw1 := HS.out.below hbel1
          have HDL := Lib.hid (mdrop_len (k := k) HN.out)
          by_cases hck : c = k
          · have HSD : ∀ W, SlF Mk.cells W (some ⟨b, off, none⟩) (xs.drop k) := fun W h => absurd h (by rw [HDL.out]; omega)
            obtain ⟨d0, d1, d2⟩ := mk_at hsw1 k f HFF.out
            have q0 := keepc hbel1 HC0.out
            have hown2 := hown1
            go_wp2_with fail
            go_quiet (fail)
            go_wp2_with (at_builtin; go_must (refine wp_appS (by rfl) _ _ 24 (by rfl) HE z.heap.size z.heap.size z _ _ _ _ (by rfl) Mk.cells (fun _ => rfl) mk_one (xs.drop k) b off _ _ HDL.out (by rfl) (HSD _) hown2 (by have := HL.out; have := HDL.out; omega) hbel1.size (drw hbel1 _) (Nat.le_refl _) ?_); intro v2 w2 hown3 hbel3 _ _)
            go_ret
            exact mmade_of (mput_rows HY.out hown3) HWZ.out (HW.out.trans (hbel3.mono HWZ.out)) (by rw [HY.out]; simp; omega)
          · have HSD0 := Lib.hid (hsw1.drop k)
            obtain ⟨d0, d1, d2⟩ := mk_at hsw1 k f HFF.out
            have q0 := keepc hbel1 HC0.out
            have hown2 := hown1
            go_wp2_with fail
            go_quiet (fail)
            go_wp2_with (at_builtin; go_must (refine wp_appS (by rfl) _ _ 24 (by rfl) HE z.heap.size z.heap.size z _ _ _ _ (by rfl) Mk.cells (fun _ => rfl) mk_one (xs.drop k) b (off+k*3) _ _ HDL.out (by rfl) (HSD0.out.below (below_dr _ _)) hown2 (by have := HL.out; have := HDL.out; omega) hbel1.size (drw hbel1 _) (Nat.le_refl _) ?_); intro v2 w2 hown3 hbel3 _ _)
            go_ret
            exact mmade_of (mput_rows HY.out hown3) HWZ.out (HW.out.trans (hbel3.mono HWZ.out)) (by rw [HY.out]; simp; omega)
    · obtain rfl : k = n := by omega
      have hnl : ∀ x, xs[k]? = some x → Op.bytesLess (Mk.bs x) (Mk.bs ⟨ep, ed, ex⟩) = false := fun x hx => by
        have := (List.getElem?_eq_some_iff.1 hx).1; rw [HN.out] at this; omega
      have hff : xs[k]? = none := List.getElem?_eq_none (by rw [HN.out]; omega)
      have HY : Hid (ys = xs.take k ++ ⟨ep, ed, ex⟩ :: xs.drop k) := by
        rw [Hid, ← hy.out, put_split (f := Mk.bs) xs ⟨ep, ed, ex⟩ k (by rw [HN.out]; omega) HA.out hnl, hff, if_neg (by simp)]; rfl
      clear hnl hff
      have i4 : (k : Int) ≤ (c : Int) := by omega
      have i0 : (0 : Int) ≤ (k : Int) := by omega
      have dk : decide ((k : Int) < (k : Int)) = false := by simp
      go_wp2_with fail
      go_quiet (fail)
      go_wp2_with (at_builtin; go_must (refine wp_app1 (by rfl) _ _ 24 (by rfl) HE z.heap.size z.heap.size z _ #[.string ep, .int .i64 ed, .string ex] _ _ _ (by rfl) (by rfl) hown (by rfl) (by simp [Value.oneCell']) (by have := HL.out; omega) (drw hb _).size (drw hb _) (Nat.le_refl _) ?_); intro v' w1 hown1 hbel1 _ hg1)
      have hsw1 := HS.out.below hbel1
      have HDL := Lib.hid (mdrop_len0 (k := k) HN.out)
      by_cases hck : c = k
      · have HSD : ∀ W, SlF Mk.cells W (some ⟨b, off, none⟩) (xs.drop k) := fun W h => absurd h (by rw [HDL.out]; omega)
        have hown2 := hown1
        go_wp2_with fail
        go_quiet (fail)
        go_wp2_with (at_builtin; go_must (refine wp_appS (by rfl) _ _ 24 (by rfl) HE z.heap.size z.heap.size z _ _ _ _ (by rfl) Mk.cells (fun _ => rfl) mk_one (xs.drop k) b off _ _ HDL.out (by rfl) (HSD _) hown2 (by have := HL.out; have := HDL.out; omega) hbel1.size (drw hbel1 _) (Nat.le_refl _) ?_); intro v2 w2 hown3 hbel3 _ _)
        go_ret
        exact mmade_of (mput_rows HY.out hown3) HWZ.out (HW.out.trans (hbel3.mono HWZ.out)) (by rw [HY.out]; simp; omega)
      · have HSD0 := Lib.hid (hsw1.drop k)
        have hown2 := hown1
        go_wp2_with fail
        go_quiet (fail)
        go_wp2_with (at_builtin; go_must (refine wp_appS (by rfl) _ _ 24 (by rfl) HE z.heap.size z.heap.size z _ _ _ _ (by rfl) Mk.cells (fun _ => rfl) mk_one (xs.drop k) b (off+k*3) _ _ HDL.out (by rfl) (HSD0.out.below (below_dr _ _)) hown2 (by have := HL.out; have := HDL.out; omega) hbel1.size (drw hbel1 _) (Nat.le_refl _) ?_); intro v2 w2 hown3 hbel3 _ _)
        go_ret
        exact mmade_of (mput_rows HY.out hown3) HWZ.out (HW.out.trans (hbel3.mono HWZ.out)) (by rw [HY.out]; simp; omega)
end Go.Proofs.YtnmjidjhloodbaaDoor
namespace Go.Proofs.YtnmjidjhloodbaaDoor
open Go.RowKit
def bothI (a b : Int) : Int := if a = 2 ∧ b ≠ 0 ∧ b ≠ 2 then 4 else a
set_option maxHeartbeats 2000000 in
theorem l3Both_c (a b : Int) (w : World) : Calls Tryd.prog 46 #[.int .i64 a, .int .i64 b] w fun e w' => e = .returned (.int .i64 (bothI a b)) ∧ w' = w := by
  by_cases h1 : a = 2
  · subst h1
    by_cases h2 : b = 0
    · subst h2
      go_enter Tryd.func46, Tryd.ntmps46
      go_wp2
      go_ret
      exact ⟨rfl, rfl⟩
    · have n2 : (b != 0) = true := by simpa using h2
      by_cases h3 : b = 2
      · subst h3
        go_enter Tryd.func46, Tryd.ntmps46
        go_wp2
        go_ret
        exact ⟨rfl, rfl⟩
      · have n3 : (b != 2) = true := by simpa using h3
        have HR : Hid (bothI 2 b = 4) := by unfold bothI; rw [Hid, if_pos ⟨rfl, h2, h3⟩]
        rw [HR.out]
        clear h2 h3
        go_enter Tryd.func46, Tryd.ntmps46
        go_wp2
        go_ret
        exact ⟨rfl, rfl⟩
  · have n1 : (a == 2) = false := by simpa using h1
    have HR : Hid (bothI a b = a) := by unfold bothI; rw [Hid, if_neg (fun h => h1 h.1)]
    rw [HR.out]
    clear h1
    go_enter Tryd.func46, Tryd.ntmps46
    go_wp2
    go_ret
    exact ⟨rfl, rfl⟩
theorem getM_mem {xs : List Mk} {q : ByteArray} {m : Mk} (h : getM xs q = some m) : m ∈ xs := by
  induction xs with
  | nil => cases h
  | cons e r ih =>
    rw [getM] at h
    split at h
    · injection h with h; subst h; simp
    · exact List.mem_cons_of_mem _ (ih h)
/-- A mark on what has a kind of its own there. -/
theorem both_kind (ys : List Mk) (e : Mk) (hk : ∀ m ∈ ys, m.k ≠ 0) : (bothM (ys.map Mk.pl) e.pl) = (⟨e.p, bothI e.k (kindM ys e.p), e.x⟩ : Mk).pl := by
  rw [both_pl]
  congr 1
  unfold bothK bothI kindM
  by_cases h : e.k = 2
  · rw [if_pos h]
    cases hg : getM ys e.p with
    | none => obtain ⟨p, k, x⟩ := e; simp_all
    | some u =>
      have hu : u ∈ ys := getM_mem hg
      have := hk u hu
      obtain ⟨p, k, x⟩ := e
      by_cases h2 : u.k = 2 <;> simp_all
  · rw [if_neg h, if_neg (fun h' => h h'.1)]
theorem below_drewB (B : Nat) (w : World) : Below B w w.drew := ⟨rfl, rfl, rfl, Nat.le_refl _, fun _ _ => rfl⟩
/-- A slice of marks that can be read and be put into. -/
def ReadMk (w : World) (v : Value) (zs : List Mk) : Prop := ∃ b off c, v = .slice (some ⟨b, off, none⟩) zs.length c ∧ zs.length ≤ c ∧ c ≤ maxLen ∧ b < w.heap.size ∧ SlF Mk.cells w (some ⟨b, off, none⟩) zs
theorem ReadMk.below {w w' : World} {v : Value} {zs : List Mk} (h : ReadMk w v zs) (hq : Below w.heap.size w w') : ReadMk w' v zs := by
  obtain ⟨b, off, c, h1, h2, h3, h4, h5⟩ := h
  exact ⟨b, off, c, h1, h2, h3, Nat.lt_of_lt_of_le h4 hq.size, h5.below hq⟩
theorem mmade_read {ys : List Mk} {w : World} {e : Ending} {w' : World} (h : MadeMk ys w e w') : ∃ v, e = .returned v ∧ ReadMk w' v ys ∧ Below w.heap.size w w' := by
  obtain ⟨g, c, rfl, h1, h2, h3, h4⟩ := h
  exact ⟨_, rfl, ⟨g, 0, c, rfl, h1, h2, (h3.lt g rfl).2, own_slfMk' h3⟩, h4⟩
theorem mfold_pl (xs ys : List Mk) : (ys.foldl (putP Mk.bs) xs).map Mk.pl = (ys.map Mk.pl).foldl (putP PM.p) (xs.map Mk.pl) := by
  induction ys generalizing xs with
  | nil => rfl
  | cons y r ih => rw [List.foldl_cons, ih, List.map_cons, List.foldl_cons, putP_map Mk.pl (f := Mk.bs) (g := PM.p) (fun _ => rfl)]
theorem mput_len (xs : List Mk) (y : Mk) : (putP Mk.bs xs y).length ≤ xs.length + 1 := by
  induction xs with
  | nil => simp [putP]
  | cons x a ih =>
    unfold putP
    split
    · simp only [List.length_cons]; omega
    · split <;> simp
theorem kind_zero {xs : List Mk} (hk : ∀ m ∈ xs, m.k ≠ 0) (q : ByteArray) : (kindM xs q == 0) = (getM xs q).isNone := by
  unfold kindM
  cases hg : getM xs q with
  | none => rfl
  | some u => simpa using hk u (getM_mem hg)
/-- What lies in the reference's row behind k marks of the lower layer. -/
def keptZ (xs ys : List Mk) (k : Nat) : List PM := (keptM (xs.map Mk.pl) ((ys.take k).map Mk.pl)).foldl (putP PM.p) []
theorem keptZ_step (xs ys : List Mk) (k : Nat) (e : Mk) (he : ys[k]? = some e) (zs : List Mk) (h : zs.map Mk.pl = keptZ xs ys k) :
    keptZ xs ys (k + 1) = (if (getM xs e.p).isNone && !hidesL (xs.map Mk.pl) e.p.data.toList then putP Mk.bs zs e else zs).map Mk.pl := by
  unfold keptZ at *
  rw [take_ml ys k e he, kept_snoc, List.foldl_append, ← h]
  rw [show atP PM.p (xs.map Mk.pl) e.pl.p = (getM xs e.p).map Mk.pl from getM_pl xs e.p, Option.isNone_map]
  show List.foldl (putP PM.p) (zs.map Mk.pl) (if (getM xs e.p).isNone && !hidesL (xs.map Mk.pl) e.p.data.toList then [e.pl] else []) = _
  split
  · rw [putP_map Mk.pl (f := Mk.bs) (g := PM.p) (fun _ => rfl)]; rfl
  · rfl
set_option maxRecDepth 100000 in
set_option maxHeartbeats 8000000 in
theorem l3Join_c (a a' : Option Addr) (c c' : Nat) (xs ys : List Mk) (w : World) (hs : SlF Mk.cells w a xs) (hs' : SlF Mk.cells w a' ys) (hx : xs.length ≤ 32) (hy : ys.length ≤ 32) (hz : ∀ e ∈ xs, e.p.size ≤ 2000000 ∧ e.x.size ≤ 2000000) (hz' : ∀ e ∈ ys, e.p.size ≤ 2000000 ∧ e.x.size ≤ 2000000)
    (hp : ∀ e ∈ xs, pathOkL e.p.data.toList = true) (hp' : ∀ e ∈ ys, pathOkL e.p.data.toList = true) (hk : ∀ m ∈ xs, m.k ≠ 0) (hk' : ∀ m ∈ ys, m.k ≠ 0) :
    Calls Tryd.prog 21 #[.slice a xs.length c, .slice a' ys.length c'] w fun e w' => ∃ v zs, e = .returned v ∧ zs.map Mk.pl = (joinRaw (xs.map Mk.pl) (ys.map Mk.pl)).foldl (putP PM.p) [] ∧ ReadMk w' v zs ∧ Below w.heap.size w w' := by
  have hm32 : (32 : Nat) ≤ maxLen := by unfold maxLen; omega
  have HGH := Lib.hid (fun (q : ByteArray) (hq : q.size ≤ 2000000) (hqp : pathOkL q.data.toList = true) (r : Bool) (hr : Hid (hidesL (xs.map Mk.pl) q.data.toList = r)) W (h : SlF Mk.cells W a xs) => l3Hides_c a c xs q r (by rw [Hid, hideQ_eq hqp (fun m hm => by obtain ⟨f, hf, rfl⟩ := List.mem_map.1 hm; exact hp f hf)]; exact hr.out) W h (Nat.le_trans hx hm32) hq hz)
  have HGK := Lib.hid (fun (q : ByteArray) (r : Int) (hr : Hid (kindM xs q = r)) W (h : SlF Mk.cells W a xs) => l3Kind_c a c xs q r hr W h (Nat.le_trans hx hm32))
  have HGK' := Lib.hid (fun (q : ByteArray) (r : Int) (hr : Hid (kindM ys q = r)) W (h : SlF Mk.cells W a' ys) => l3Kind_c a' c' ys q r hr W h (Nat.le_trans hy hm32))
  have HKZ := Lib.hid (kind_zero hk)
  have HK' := Lib.hid hk'
  have HZ' := Lib.hid hz'
  have HPO' := Lib.hid hp'
  have HS := Lib.hid hs
  have HS' := Lib.hid hs'
  obtain ⟨n, hn⟩ : ∃ n, xs.length = n := ⟨_, rfl⟩
  obtain ⟨n', hn'⟩ : ∃ n, ys.length = n := ⟨_, rfl⟩
  have HN := Lib.hid hn
  have HN' := Lib.hid hn'
  rw [hn] at hx HGH HGK ⊢
  rw [hn'] at hy HGK' ⊢
  have HB0 := Lib.hid (bellow_alloc w (.cells #[] 45))
  clear hn hn' hs hs' hz hz' hp hp' hk hk' hm32
  go_enter Tryd.func21, Tryd.ntmps21
  go_wp2
  go_loopw [5, 6] (fun v i wr => ∃ (k : Nat) (zs : List Mk), k ≤ n' ∧ zs.length ≤ k ∧ i = .int .i64 k ∧ zs.map Mk.pl = keptZ xs ys k ∧ ReadMk wr v zs ∧ Below w.heap.size w wr) (fun _ i _ => n' - (intOf i).toNat)
  case atStart => exact ⟨0, [], Nat.zero_le _, Nat.zero_le _, rfl, rfl, ⟨w.heap.size, 0, 0, rfl, Nat.zero_le _, Nat.zero_le _, by simp, SlF.nil_⟩, HB0.out⟩
  case round =>
    obtain ⟨k, zs, hk, hzl, rfl, hzs, hrd, hb⟩ := hrel
    by_cases hlt : k < n'
    · obtain ⟨e, hee⟩ : ∃ e, ys[k]? = some e := ⟨_, List.getElem?_eq_getElem (by rw [HN'.out]; exact hlt)⟩
      have hzz := HZ'.out e (List.mem_of_getElem? hee)
      have hpe := HPO'.out e (List.mem_of_getElem? hee)
      have hsx := HS.out.below hb
      have hsy := HS'.out.below hb
      obtain ⟨b', off', rfl, _⟩ := hsy.addr (by rw [HN'.out]; omega)
      obtain ⟨d0, d1, d2⟩ := mk_at hsy k e hee
      obtain ⟨r, hr⟩ : ∃ r, Hid (hidesL (xs.map Mk.pl) e.p.data.toList = r) := ⟨_, rfl⟩
      obtain ⟨q, hq0⟩ : ∃ q, Hid (kindM xs e.p = q) := ⟨_, rfl⟩
      have HSTEP := Lib.hid (keptZ_step xs ys k e hee zs hzs)
      rw [hr.out, ← HKZ.out, hq0.out] at HSTEP
      have i0 : (0 : Int) ≤ (k : Int) := by omega
      have i1 : (k : Int) < (n' : Int) := by omega
      obtain ⟨ep, ek, ex⟩ := e
      have HRD := Lib.hid hrd
      clear hee hzs hrd
      have hbw := Below.refl wr.heap.size wr
      go_wp2_with fail
      refine (HGH.out ep hzz.1 hpe r hr _ hsx).mono ?_; rintro e W ⟨rfl, hq⟩; replace hb := chn hb hq; replace hbw := chn hbw hq; replace hsx := SlF.below hsx hq; replace hsy := SlF.below hsy hq; replace d0 := keepc hq d0; replace d1 := keepc hq d1; replace d2 := keepc hq d2; clear hq
      cases r with
      | true =>
        have HS1 : Hid (zs.map Mk.pl = keptZ xs ys (k + 1)) := by rw [Hid, HSTEP.out]; simp
        go_wp2
        go_roundw
        case rel => exact ⟨k + 1, zs, by omega, by omega, by go_num, HS1.out, HRD.out.below hbw, hb⟩
        case measure => simp [intOf]; omega
      | false =>
        go_wp2_with fail
        refine (HGK.out ep q hq0 _ hsx).mono ?_; rintro e W3 ⟨rfl, hww⟩; subst hww
        by_cases hz0 : q = 0
        · subst hz0
          have HS1 : Hid ((putP Mk.bs zs ⟨ep, ek, ex⟩).map Mk.pl = keptZ xs ys (k + 1)) := by rw [Hid, HSTEP.out]; rfl
          have HPL := mput_len zs ⟨ep, ek, ex⟩
          obtain ⟨b, off, cz, rfl, hz1, hz2, hz3, hsz⟩ := HRD.out.below hbw
          have HP := Lib.hid (l3Put_c b off cz zs ⟨ep, ek, ex⟩ _ (Lib.hid rfl) _ hsz hz3 (by omega) hz1 hz2)
          obtain ⟨m, hm⟩ : ∃ m, zs.length = m := ⟨_, rfl⟩
          rw [hm] at HP HPL hzl ⊢
          have HRD2 := HRD
          clear HRD HSTEP hz1 hz2 hz3 hsz hm HRD2
          go_wp2_with fail
          refine HP.out.mono ?_
          intro e W4 hmade
          obtain ⟨v, rfl, hrd, hq⟩ := mmade_read hmade
          replace hb := chn hb hq
          clear hmade hq
          go_wp2
          go_roundw
          case rel => exact ⟨k + 1, _, by omega, by omega, by go_num, HS1.out, hrd, hb⟩
          case measure => simp [intOf]; omega
        · have hq1 : (q == 0) = false := by simpa using hz0
          have HS1 : Hid (zs.map Mk.pl = keptZ xs ys (k + 1)) := by rw [Hid, HSTEP.out, hq1]; rfl
          clear hz0
          go_wp2
          go_roundw
          case rel => exact ⟨k + 1, zs, by omega, by omega, by go_num, HS1.out, HRD.out.below hbw, hb⟩
          case measure => simp [intOf]; omega
    · obtain rfl : k = n' := by omega
      have HZS := Lib.hid hzs
      have HRD := Lib.hid hrd
      have HBB := Lib.hid hb
      have HZL := Lib.hid hzl
      clear hzs hrd hb hzl
      obtain ⟨b0, off0, c0, hv0, _, _, _, _⟩ := HRD.out
      subst hv0
      go_wp2
      go_loopw [5, 7] (fun v i wr => ∃ (j : Nat) (ns : List Mk), j ≤ n ∧ ns.length ≤ 32 + j ∧ i = .int .i64 j ∧ ns.map Mk.pl = (((xs.take j).map Mk.pl).map (bothM (ys.map Mk.pl))).foldl (putP PM.p) (zs.map Mk.pl) ∧ ReadMk wr v ns ∧ Below w.heap.size w wr) (fun _ i _ => n - (intOf i).toNat)
      case atStart => exact ⟨0, zs, Nat.zero_le _, by have := HZL.out; omega, rfl, rfl, HRD.out, HBB.out⟩
      case round =>
        obtain ⟨j, ns, hj, hnl, rfl, hns, hrd, hb⟩ := hrel
        have HNS := Lib.hid hns
        clear hns
        by_cases hlt2 : j < n
        · obtain ⟨e, hee⟩ : ∃ e, xs[j]? = some e := ⟨_, List.getElem?_eq_getElem (by rw [HN.out]; exact hlt2)⟩
          have hsx := HS.out.below hb
          have hsy := HS'.out.below hb
          obtain ⟨b, off, rfl, _⟩ := hsx.addr (by rw [HN.out]; omega)
          obtain ⟨d0, d1, d2⟩ := mk_at hsx j e hee
          obtain ⟨q, hq0⟩ : ∃ q, Hid (kindM ys e.p = q) := ⟨_, rfl⟩
          have HSN : Hid ((putP Mk.bs ns ⟨e.p, bothI e.k q, e.x⟩).map Mk.pl = (((xs.take (j + 1)).map Mk.pl).map (bothM (ys.map Mk.pl))).foldl (putP PM.p) (zs.map Mk.pl)) := by
            rw [Hid, take_ml xs j e hee, List.map_append, List.foldl_append, ← HNS.out, List.map_cons, both_kind ys e HK'.out, hq0.out, putP_map Mk.pl (f := Mk.bs) (g := PM.p) (fun _ => rfl)]; rfl
          obtain ⟨ep, ek, ex⟩ := e
          have HRD2 := Lib.hid hrd
          clear hee hrd
          have i0 : (0 : Int) ≤ (j : Int) := by omega
          have i1 : (j : Int) < (n : Int) := by omega
          have q0 := new_cell wr #[.string ep, .int .i64 ek, .string ex] 45 0 (.string ep) rfl
          have q1 := new_cell wr #[.string ep, .int .i64 ek, .string ex] 45 1 (.int .i64 ek) rfl
          have q2 := new_cell wr #[.string ep, .int .i64 ek, .string ex] 45 2 (.string ex) rfl
          have f1 := new_free wr #[.string ep, .int .i64 ek, .string ex] 45 1
          have hbw := bellow_alloc wr (.cells #[.string ep, .int .i64 ek, .string ex] 45)
          replace hsy := hsy.below hbw
          go_wp2_with fail
          generalize hW : wr.alloc (.cells #[.string ep, .int .i64 ek, .string ex] 45) = W at q0 q1 q2 f1 hbw hsy ⊢
          go_still_tail 8, (by kernel_rfl)
          still_call ((HGK'.out ep q hq0 _ (hsy.below (below_drew _))).mono fun _ _ h => ⟨h.1, h.2.symm⟩)
          still_call (l3Both_c ek q _)
          repeat still_step
          refine wpStill_nil ?_
          change wpList _ _ _ _ _ W.drew
          replace hbw := chn hbw (below_drew W)
          replace q0 := keepc (below_drew W) q0
          replace q1 := keepc (below_drew W) q1
          replace q2 := keepc (below_drew W) q2
          replace f1 : W.drew.frozen? ⟨wr.heap.size, 1, none⟩ = false := f1
          generalize W.drew = W2 at q0 q1 q2 f1 hbw ⊢
          clear hW hsx hsy d0 d1 d2
          have hbw3 := hbw.setCell (p := ⟨wr.heap.size, 1, none⟩) (Nat.le_refl _) (.int .i64 (bothI ek q))
          have hb3 := chn hb hbw3
          have HPL := mput_len ns ⟨ep, bothI ek q, ex⟩
          obtain ⟨bz, offz, cz, rfl, hz1, hz2, hz3, hsz⟩ := HRD2.out.below hbw3
          have HP := Lib.hid (l3Put_c bz offz cz ns ⟨ep, bothI ek q, ex⟩ _ (Lib.hid rfl) _ hsz hz3 (by omega) hz1 hz2)
          obtain ⟨m, hm⟩ : ∃ m, ns.length = m := ⟨_, rfl⟩
          rw [hm] at HP HPL hnl ⊢
          clear hz1 hz2 hz3 hsz hm hbw hbw3 HRD2
          go_wp2_with fail
          refine HP.out.mono ?_
          intro e W4 hmade
          obtain ⟨v, rfl, hrd, hq⟩ := mmade_read hmade
          replace hb := chn hb3 hq
          clear hmade hq hb3
          go_wp2
          go_roundw
          case rel => exact ⟨j + 1, _, by omega, by omega, by go_num, HSN.out, hrd, hb⟩
          case measure => simp [intOf]; omega
        · obtain rfl : j = n := by omega
          have HEND : Hid (ns.map Mk.pl = (joinRaw (xs.map Mk.pl) (ys.map Mk.pl)).foldl (putP PM.p) []) := by
            have hall : ys.take k = ys := by rw [← HN'.out, List.take_length]
            have hall2 : xs.take j = xs := by rw [← HN.out, List.take_length]
            rw [Hid, HNS.out, hall2, HZS.out, joinRaw_eq, List.foldl_append]; unfold keptZ; rw [hall]
          obtain ⟨b1, off1, c1, hv1, h1, h2, h3, h4⟩ := hrd
          subst hv1
          go_wp2
          go_ret
          exact ⟨_, ns, rfl, HEND.out, ⟨b1, off1, c1, rfl, h1, h2, h3, h4⟩, hb⟩
end Go.Proofs.YtnmjidjhloodbaaDoor
