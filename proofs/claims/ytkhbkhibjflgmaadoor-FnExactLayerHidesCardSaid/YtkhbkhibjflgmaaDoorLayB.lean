/- The walks of markAt and LayerOk, of the program and of the reference. Conditions: lists and texts are no longer than any can be. -/
import Derived.Test.YtkhbkhibjflgmaaDoorLayA
namespace Go.Proofs.YtkhbkhibjflgmaaDoor
open Go.RowKit
abbrev optM (o : Option Mk) : Value := match o with
  | some e => .tuple #[e.val, .bool true]
  | none => .tuple #[.agg #[.string ⟨#[]⟩, .int .i64 0, .string ⟨#[]⟩], .bool false]
set_option maxHeartbeats 2000000 in
theorem markAt_c (a : Option Addr) (c : Nat) (xs : List Mk) (q : ByteArray) (o : Option Mk) (ho : Hid (getM xs q = o)) (w : World) (hs : SlF Mk.cells w a xs) (hx : xs.length ≤ maxLen) :
    Calls Tryd.prog 86 #[.slice a xs.length c, .string q] w fun r w' => r = .returned (optM o) ∧ Below w.heap.size w w' := by
  obtain ⟨n, hn⟩ : ∃ n, xs.length = n := ⟨_, rfl⟩
  rw [hn] at hx ⊢
  unfold maxLen at hx
  have HN := Lib.hid hn
  obtain ⟨z, hz⟩ : ∃ z, w.alloc (.cells #[.string ⟨#[]⟩, .int .i64 0, .string ⟨#[]⟩] 49) = z := ⟨_, rfl⟩
  have HS := Lib.hid (hs.below (hz ▸ bellow_alloc w _ : Below w.heap.size w z))
  have hzs : z.heap.size = w.heap.size + 1 := by rw [← hz]; simp
  have c0 : z.cell? ⟨w.heap.size, 0, none⟩ = some (.string ⟨#[]⟩) := by rw [← hz]; exact new_cell _ _ _ 0 _ rfl
  have c1 : z.cell? ⟨w.heap.size, 1, none⟩ = some (.int .i64 0) := by rw [← hz]; exact new_cell _ _ _ 1 _ rfl
  have c2 : z.cell? ⟨w.heap.size, 2, none⟩ = some (.string ⟨#[]⟩) := by rw [← hz]; exact new_cell _ _ _ 2 _ rfl
  have hfz : ∀ j, z.frozen? ⟨w.heap.size, j, none⟩ = false := fun j => by rw [← hz]; exact new_free w _ _ j
  have HW := Lib.hid (hz ▸ bellow_alloc w _ : Below w.heap.size w z)
  have HF := Lib.hid hfz
  have HC0 := Lib.hid c0
  have HC1 := Lib.hid c1
  have HC2 := Lib.hid c2
  have HZ := Lib.hid hzs
  clear hn hs hzs c0 c1 c2 hfz
  go_enter Tryd.func86, Tryd.ntmps86
  go_wp2
  clear hz
  go_loopw [7, 10] (fun _ i wr => ∃ k : Nat, k ≤ n ∧ i = .int .i64 k ∧ (∀ (j : Nat) (f : Mk), j < k → xs[j]? = some f → f.p.data.toList ≠ q.data.toList) ∧ Below z.heap.size z wr) (fun _ i _ => n - (intOf i).toNat)
  case atStart => exact ⟨0, Nat.zero_le _, rfl, fun j _ h => absurd h (by omega), Below.refl _ _⟩
  case round =>
    obtain ⟨k, hk, rfl, hall, hb⟩ := hrel
    have HA := Lib.hid hall
    clear hall
    have hlt0 : w.heap.size < wr.heap.size := by have := hb.size; rw [HZ.out] at this; omega
    have g0 := keepc hb HC0.out
    have g1 := keepc hb HC1.out
    have g2 := keepc hb HC2.out
    have f0 := (hb.frozen (p := ⟨w.heap.size, 0, none⟩) (by rw [HZ.out]; simp)).trans (HF.out 0)
    have f1 := (hb.frozen (p := ⟨w.heap.size, 1, none⟩) (by rw [HZ.out]; simp)).trans (HF.out 1)
    have f2 := (hb.frozen (p := ⟨w.heap.size, 2, none⟩) (by rw [HZ.out]; simp)).trans (HF.out 2)
    by_cases hlt : k < n
    · obtain ⟨e, hee⟩ : ∃ e, xs[k]? = some e := ⟨_, List.getElem?_eq_getElem (by rw [HN.out]; exact hlt)⟩
      have h2 := (HS.out.below hb)
      obtain ⟨b, off, rfl, _⟩ := h2.addr (by rw [HN.out]; omega)
      obtain ⟨c0, c1, c2⟩ := mk_at h2 k e hee
      have hg := getM_skip xs q k e hee HA.out
      have HG := Lib.hid hg
      have HEE := Lib.hid hee
      clear h2 hg hee
      by_cases heq : e.p.data.toList = q.data.toList
      · have hq := beqs_yes heq
        obtain rfl : o = some e := by rw [← ho.out, HG.out, if_pos heq]
        clear heq
        go_wp2
        obtain ⟨q0, q1, q2⟩ := three_set wr w.heap.size _ _ _ (.string e.p) (.int .i64 e.k) (.string e.x) g0 g1 g2 (.cells #[.string e.p, .int .i64 e.k, .string e.x] 49)
        refine bodyPost_ret (v := optM (some e)) (by simp [results, Tryd.results86, go_sem, q0, q1, q2]) rfl ⟨rfl, ?_⟩
        have HB := HW.out.trans (hb.mono (by rw [HZ.out]; omega))
        repeat (first | exact HB | refine Below.alloc ?_ (by simp; try omega) _ | refine Below.setCell ?_ (by simp; try omega) _)
      · have hq := beqs_no heq
        have HQ := Lib.hid heq
        clear heq
        go_wp2
        go_roundw
        case rel => exact ⟨k + 1, by omega, by go_num, fun j f hj hf => by
          by_cases ej : j = k
          · subst ej
            rw [HEE.out] at hf
            injection hf with hf
            exact hf ▸ HQ.out
          · exact HA.out j f (by omega) hf, hb.alloc hb.size _⟩
        case measure => simp [intOf]; omega
    · obtain rfl : o = none := by
        rw [← ho.out]
        exact getM_none xs q (fun j f hf => HA.out j f (by have := (List.getElem?_eq_some_iff.1 hf).1; rw [HN.out] at this; omega) hf)
      go_wp2
      refine bodyPost_ret (v := optM none) (by simp [results, Tryd.results86, go_sem, g0, g1, g2]) rfl ⟨rfl, ?_⟩
      have HB := HW.out.trans (hb.mono (by rw [HZ.out]; omega))
      repeat (first | exact HB | refine Below.alloc ?_ (by simp; try omega) _ | refine Below.setCell ?_ (by simp; try omega) _)
/-- What the program asks of the mark at place k. -/
def MAskM (xs : List Mk) (k : Nat) (e : Mk) : Prop := MAskI (xs.map Mk.pl) k e.pl
def MAskR (xs : List Mk) (k : Nat) (e : Mk) : Prop := MAskS (xs.map Mk.pl) k e.pl
theorem lok_M (xs : List Mk) : LOk (xs.map Mk.pl) ↔ xs.length ≤ 32 ∧ ∀ (k : Nat) (e : Mk), xs[k]? = some e → MAskM xs k e := by
  rw [lok_iff, List.length_map]
  constructor
  · rintro ⟨h1, h2⟩
    exact ⟨h1, fun k e he => h2 k e.pl (by simp [he])⟩
  · rintro ⟨h1, h2⟩
    refine ⟨h1, fun k e he => ?_⟩
    rw [List.getElem?_map, Option.map_eq_some_iff] at he
    obtain ⟨f, hf, rfl⟩ := he
    exact h2 k f hf
theorem lok_R (xs : List Mk) : LOk (xs.map Mk.pl) ↔ xs.length ≤ 32 ∧ ∀ (k : Nat) (e : Mk), xs[k]? = some e → MAskR xs k e := by
  rw [lok_iffS, List.length_map]
  constructor
  · rintro ⟨h1, h2⟩
    exact ⟨h1, fun k e he => h2 k e.pl (by simp [he])⟩
  · rintro ⟨h1, h2⟩
    refine ⟨h1, fun k e he => ?_⟩
    rw [List.getElem?_map, Option.map_eq_some_iff] at he
    obtain ⟨f, hf, rfl⟩ := he
    exact h2 k f hf
theorem lok_dec (xs : List Mk) : ∃ r : Bool, r = true ↔ LOk (xs.map Mk.pl) := ⟨by classical exact decide (LOk (xs.map Mk.pl)), by simp⟩
theorem mless_of (xs : List Mk) (k : Nat) (f e : Mk) (hf : xs[k]? = some f) (h2 : Op.bytesLess f.p.toList e.p.toList = true) : ∀ g, 0 < k + 1 → (xs.map Mk.pl)[k + 1 - 1]? = some g → Op.bytesLess g.p e.pl.p = true := by
  intro g _ hg
  rw [Nat.add_sub_cancel, List.getElem?_map, hf] at hg
  injection hg with hg
  rw [← hg]
  rw [less_of'] at h2
  exact h2
theorem mless_at (xs : List Mk) (k : Nat) (f e : Mk) (hf : xs[k]? = some f) (h : ∀ g, 0 < k + 1 → (xs.map Mk.pl)[k + 1 - 1]? = some g → Op.bytesLess g.p e.pl.p = true) : Op.bytesLess f.p.toList e.p.toList = true := by
  have := h f.pl (by omega) (by rw [Nat.add_sub_cancel, List.getElem?_map, hf]; rfl)
  rw [less_of']
  exact this
theorem upM_G (xs : List Mk) (q u : ByteArray) (hu : upL q.data.toList = u.data.toList) (hr : u.data.toList ≠ [47]) : upM (xs.map Mk.pl) q.data.toList = match getM xs u with
    | some m => dirM m.pl
    | none => false := by
  unfold upM
  rw [hu, getM_pl]
  have : (u.data.toList == [47]) = false := by simpa using hr
  rw [this, Bool.false_or]
  cases getM xs u <;> rfl
theorem upM_root (l : List PM) (q : Bs) (hu : upL q = [47]) : upM l q = true := by unfold upM; rw [hu]; rfl
set_option maxRecDepth 100000 in
set_option maxHeartbeats 8000000 in
theorem layerOk_c (a : Option Addr) (c : Nat) (xs : List Mk) (r : Bool) (hr : Hid (r = true ↔ LOk (xs.map Mk.pl))) (w : World) (hs : SlF Mk.cells w a xs) (hx : xs.length ≤ maxLen) (hz : ∀ e ∈ xs, e.p.size ≤ 2000000 ∧ e.x.size ≤ 2000000) :
    Calls Tryd.prog 30 #[.slice a xs.length c] w fun q w' => q = .returned (.bool r) ∧ Below w.heap.size w w' := by
  have hR : Hid (r = true ↔ xs.length ≤ 32 ∧ ∀ (k : Nat) (e : Mk), xs[k]? = some e → MAskM xs k e) := by rw [Hid, hr.out, lok_M]
  have HM := fun (q : ByteArray) (o : Option Mk) (ho : Hid (getM xs q = o)) (W : World) (h : SlF Mk.cells W a xs) => Lib.hid (markAt_c a c xs q o ho W h hx)
  have HB := fun (q : ByteArray) (hq : q.size ≤ 2000000) (v : Bool) (hv : Hid (bareL (xs.map Mk.pl) q.data.toList = v)) => Lib.hid (fun (W : World) (h : SlF Mk.cells W a xs) => Lib.hid (belowBare_c a c xs q v hv W h hx hq hz))
  have HZ := Lib.hid hz
  have HS := Lib.hid hs
  obtain ⟨n, hn⟩ : ∃ n, xs.length = n := ⟨_, rfl⟩
  have HN := Lib.hid hn
  rw [hn] at hR hx HM HB ⊢
  unfold maxLen at hx
  have GM := Lib.hid HM
  have GB0 := Lib.hid HB
  clear hn hz hs hr HM HB
  by_cases h16 : 32 < n
  · obtain rfl : r = false := by
      cases r
      · rfl
      · have := hR.out.1 rfl; omega
    go_enter Tryd.func30, Tryd.ntmps30
    go_wp2
    go_ret
    exact ⟨rfl, Below.refl _ _⟩
  have hno : Hid (∀ (k : Nat) (e : Mk), xs[k]? = some e → ¬ MAskM xs k e → r = false) := fun k e he hne => by
    cases r
    · rfl
    · exact absurd ((hR.out.1 rfl).2 k e he) hne
  go_enter Tryd.func30, Tryd.ntmps30
  go_wp2
  go_loopw [3, 4, 5, 6, 7, 13] (fun _ _ _ _ _ i wr => ∃ k : Nat, k ≤ n ∧ i = .int .i64 k ∧ (∀ (j : Nat) (e : Mk), j < k → xs[j]? = some e → MAskM xs j e) ∧ Below w.heap.size w wr) (fun _ _ _ _ _ i _ => n - (intOf i).toNat)
  case atStart => exact ⟨0, Nat.zero_le _, rfl, fun j _ h => absurd h (by omega), Below.refl _ _⟩
  case round =>
    obtain ⟨k, hk, rfl, hall, hb⟩ := hrel
    have HA := Lib.hid hall
    clear hall
    by_cases hlt : k < n
    · obtain ⟨e, hee⟩ : ∃ e, xs[k]? = some e := ⟨_, List.getElem?_eq_getElem (by rw [HN.out]; exact hlt)⟩
      have h2 := (HS.out.below hb)
      obtain ⟨b, off, rfl, _⟩ := h2.addr (by rw [HN.out]; omega)
      obtain ⟨d0, d1, d2⟩ := mk_at h2 k e hee
      have hzz := HZ.out e (List.mem_of_getElem? hee)
      have HNO := Lib.hid (fun h => hno.out k e hee h)
      have HEE := Lib.hid hee
      have h3 := h2
      clear h2 hee
      obtain ⟨ep, ek, ex⟩ := e
      have hz1 : ep.size ≤ maxLen := Nat.le_trans hzz.1 (by unfold maxLen; omega)
      have hz2 : ex.size ≤ maxLen := Nat.le_trans hzz.2 (by unfold maxLen; omega)
      have HZ1 := Lib.hid hz1
      have HZ2 := Lib.hid hz2
      have GB := Lib.hid (fun v hv => GB0.out ep hzz.1 v hv)
      obtain ⟨u, hu, hus⟩ := up_str20 ep
      clear hzz hz1 hz2
      have c0 := new_cell wr #[.string ep, .int .i64 ek, .string ex] 49 0 _ rfl
      have c1 := new_cell wr #[.string ep, .int .i64 ek, .string ex] 49 1 _ rfl
      have c2 := new_cell wr #[.string ep, .int .i64 ek, .string ex] 49 2 _ rfl
      replace hb := hb.alloc hb.size (.cells #[.string ep, .int .i64 ek, .string ex] 49)
      obtain ⟨p1, hp1⟩ : ∃ x, markOkL (Mk.pl ⟨ep, ek, ex⟩) = x := ⟨_, rfl⟩
      have H1 := Lib.hid hp1
      clear hp1
      cases p1 with
      | false =>
        obtain rfl : r = false := HNO.out (fun h => by have := h.1; rw [H1.out] at this; cases this)
        go_wp2_with fail
        refine (markOk_c ⟨ep, ek, ex⟩ false H1 _ HZ1.out HZ2.out).mono ?_; rintro e W ⟨rfl, hq⟩; replace hb := chn hb hq; clear hq
        go_wp2
        go_ret
        exact ⟨rfl, hb⟩
      | true =>
      have hkk : 1 ≤ ek ∧ ek ≤ 4 := markOk_kind H1.out
      have HKK := Lib.hid hkk
      clear hkk
      cases k with
      | zero =>
        rw [Nat.zero_mul, Nat.add_zero] at d0 d1 d2
        have ASK := Lib.hid (fun (h3 : upM (xs.map Mk.pl) ep.data.toList = true) (h4 : 2 < ek → bareL (xs.map Mk.pl) ep.data.toList = false) (j : Nat) (g : Mk) (hj : j < 0 + 1) (hg : xs[j]? = some g) => (by
          have ej : j = 0 := by omega
          subst ej
          rw [HEE.out] at hg
          injection hg with hg
          rw [← hg]
          exact ⟨H1.out, fun _ h _ => absurd h (by omega), h3, h4⟩ : MAskM xs j g))
        clear h3
        go_wp2_with fail
        refine (markOk_c ⟨ep, ek, ex⟩ true H1 _ HZ1.out HZ2.out).mono ?_; rintro e W ⟨rfl, hq⟩; replace hb := chn hb hq; replace c0 := keepc hq c0; replace c1 := keepc hq c1; replace c2 := keepc hq c2; clear hq
        go_wp2_with fail
        go_quiet (fail)
        go_wp2_with fail
        refine (pathUp_c ep u hu _ HZ1.out).mono ?_; rintro e W ⟨rfl, hq⟩; replace hb := chn (drw hb _) hq; replace c0 := keepc hq c0; replace c1 := keepc hq c1; replace c2 := keepc hq c2; clear hq
        by_cases hrt : u.data.toList = [47]
        · have q2 := beq_yes hrt
          have HUP := Lib.hid (upM_root (xs.map Mk.pl) ep.data.toList (hu.out.trans hrt))
          clear hrt
          by_cases k3 : 2 < ek
          · obtain ⟨v, hv⟩ : ∃ v, bareL (xs.map Mk.pl) ep.data.toList = v := ⟨_, rfl⟩
            have HV := Lib.hid hv
            clear hv
            have HBB := GB.out v HV
            rcases (by have := HKK.out; omega : ek = 3 ∨ ek = 4) with hek | hek <;> subst hek
            all_goals
              go_wp2_with fail
              refine (HBB.out _ (HS.out.below hb)).out.mono ?_; rintro e' W' ⟨rfl, hq⟩; replace hb := chn hb hq; clear hq
              cases v with
              | true =>
                obtain rfl : r = false := HNO.out (fun h => by have := h.2.2.2 k3; rw [show (Mk.pl ⟨ep, _, ex⟩).p = ep.data.toList from rfl, HV.out] at this; cases this)
                go_wp2
                go_ret
                exact ⟨rfl, by repeat (first | exact hb | refine Below.alloc ?_ (by have := hb.size; simp; try omega) _)⟩
              | false =>
                go_wp2
                go_roundw
                case rel => exact ⟨(0+1), by omega, by go_num, ASK.out HUP.out (fun _ => HV.out), by repeat (first | exact hb | refine Below.alloc ?_ (by have := hb.size; simp; try omega) _)⟩
                case measure => simp [intOf]; omega
          · have n3 : (ek == 3) = false := by rw [beq_eq_false_iff_ne]; omega
            have n4 : (ek == 4) = false := by rw [beq_eq_false_iff_ne]; omega
            go_wp2
            go_roundw
            case rel => exact ⟨(0+1), by omega, by go_num, ASK.out HUP.out (fun h => (by exfalso; omega)), by repeat (first | exact hb | refine Below.alloc ?_ (by have := hb.size; simp; try omega) _)⟩
            case measure => simp [intOf]; omega
        · have q2 := beq_no hrt
          have HUP := Lib.hid (upM_G xs ep u hu.out hrt)
          clear hrt
          obtain ⟨o, ho⟩ : ∃ o, getM xs u = o := ⟨_, rfl⟩
          have HO := Lib.hid ho
          clear ho
          go_wp2_with fail
          refine ((GM.out u o HO _ (HS.out.below hb)).out).mono ?_; rintro e W ⟨rfl, hq⟩; replace hb := chn hb hq; replace c0 := keepc hq c0; replace c1 := keepc hq c1; replace c2 := keepc hq c2; clear hq
          cases o with
          | none =>
            obtain rfl : r = false := HNO.out (fun h => by have h := h.2.2.1; rw [show (Mk.pl ⟨ep, ek, ex⟩).p = ep.data.toList from rfl, HUP.out, HO.out] at h; cases h)
            go_wp2
            go_ret
            exact ⟨rfl, by repeat (first | exact hb | refine Below.alloc ?_ (by have := hb.size; simp; try omega) _)⟩
          | some f =>
            obtain ⟨v, hv⟩ : ∃ v, dirM f.pl = v := ⟨_, rfl⟩
            have HV := Lib.hid hv
            clear hv
            obtain ⟨fp, fk, fx⟩ := f
            replace hb := hb.alloc hb.size (.cells #[.string fp, .int .i64 fk, .string fx] 49); replace c0 := keepc (bellow_alloc _ (.cells #[.string fp, .int .i64 fk, .string fx] 49)) c0; replace c1 := keepc (bellow_alloc _ (.cells #[.string fp, .int .i64 fk, .string fx] 49)) c1; replace c2 := keepc (bellow_alloc _ (.cells #[.string fp, .int .i64 fk, .string fx] 49)) c2; 
            go_wp2_with fail
            refine (isDir_c ⟨fp, fk, fx⟩ v HV _).mono ?_; rintro e W ⟨rfl, hq⟩; replace hb := chn hb hq; replace c0 := keepc hq c0; replace c1 := keepc hq c1; replace c2 := keepc hq c2; clear hq
            cases v with
            | false =>
              obtain rfl : r = false := HNO.out (fun h => by have h := h.2.2.1; rw [show (Mk.pl ⟨ep, ek, ex⟩).p = ep.data.toList from rfl, HUP.out, HO.out] at h; exact absurd (h.symm.trans HV.out) (by simp))
              go_wp2
              go_ret
              exact ⟨rfl, by repeat (first | exact hb | refine Below.alloc ?_ (by have := hb.size; simp; try omega) _)⟩
            | true =>
              have HUQ : Hid (upM (xs.map Mk.pl) ep.data.toList = true) := by rw [Hid, HUP.out, HO.out]; exact HV.out
              clear HV HO HUP
              by_cases k3 : 2 < ek
              · obtain ⟨v, hv⟩ : ∃ v, bareL (xs.map Mk.pl) ep.data.toList = v := ⟨_, rfl⟩
                have HV := Lib.hid hv
                clear hv
                have HBB := GB.out v HV
                rcases (by have := HKK.out; omega : ek = 3 ∨ ek = 4) with hek | hek <;> subst hek
                all_goals
                  go_wp2_with fail
                  refine (HBB.out _ (HS.out.below hb)).out.mono ?_; rintro e' W' ⟨rfl, hq⟩; replace hb := chn hb hq; clear hq
                  cases v with
                  | true =>
                    obtain rfl : r = false := HNO.out (fun h => by have := h.2.2.2 k3; rw [show (Mk.pl ⟨ep, _, ex⟩).p = ep.data.toList from rfl, HV.out] at this; cases this)
                    go_wp2
                    go_ret
                    exact ⟨rfl, by repeat (first | exact hb | refine Below.alloc ?_ (by have := hb.size; simp; try omega) _)⟩
                  | false =>
                    go_wp2
                    go_roundw
                    case rel => exact ⟨(0+1), by omega, by go_num, ASK.out HUQ.out (fun _ => HV.out), by repeat (first | exact hb | refine Below.alloc ?_ (by have := hb.size; simp; try omega) _)⟩
                    case measure => simp [intOf]; omega
              · have n3 : (ek == 3) = false := by rw [beq_eq_false_iff_ne]; omega
                have n4 : (ek == 4) = false := by rw [beq_eq_false_iff_ne]; omega
                go_wp2
                go_roundw
                case rel => exact ⟨(0+1), by omega, by go_num, ASK.out HUQ.out (fun h => (by exfalso; omega)), by repeat (first | exact hb | refine Below.alloc ?_ (by have := hb.size; simp; try omega) _)⟩
                case measure => simp [intOf]; omega
      | succ k =>
        obtain ⟨f, hff⟩ : ∃ f, xs[k]? = some f := ⟨_, List.getElem?_eq_getElem (by rw [HN.out]; omega)⟩
        obtain ⟨c3, _, _⟩ := mk_at h3 k f hff
        replace c3 := keepc (bellow_alloc wr (.cells #[.string ep, .int .i64 ek, .string ex] 49)) c3
        have HFF := Lib.hid hff
        clear hff h3
        rcases Bool.eq_false_or_eq_true (Op.bytesLess f.p.toList ep.toList) with hle | hle
        · have HLE := Lib.hid hle
          have ASK := Lib.hid (fun (h3 : upM (xs.map Mk.pl) ep.data.toList = true) (h4 : 2 < ek → bareL (xs.map Mk.pl) ep.data.toList = false) (j : Nat) (g : Mk) (hj : j < k + 1 + 1) (hg : xs[j]? = some g) => (by
            by_cases ej : j = k + 1
            · subst ej
              rw [HEE.out] at hg
              injection hg with hg
              rw [← hg]
              exact ⟨H1.out, mless_of xs k f ⟨ep, ek, ex⟩ HFF.out HLE.out, h3, h4⟩
            · exact HA.out j g (by omega) hg : MAskM xs j g))
          go_wp2_with fail
          refine (markOk_c ⟨ep, ek, ex⟩ true H1 _ HZ1.out HZ2.out).mono ?_; rintro e W ⟨rfl, hq⟩; replace hb := chn hb hq; replace c0 := keepc hq c0; replace c1 := keepc hq c1; replace c2 := keepc hq c2; replace c3 := keepc hq c3; clear hq
          go_wp2_with fail
          go_quiet (fail)
          clear hle c3
          go_wp2_with fail
          refine (pathUp_c ep u hu _ HZ1.out).mono ?_; rintro e W ⟨rfl, hq⟩; replace hb := chn (drw hb _) hq; replace c0 := keepc hq c0; replace c1 := keepc hq c1; replace c2 := keepc hq c2; clear hq
          by_cases hrt : u.data.toList = [47]
          · have q2 := beq_yes hrt
            have HUP := Lib.hid (upM_root (xs.map Mk.pl) ep.data.toList (hu.out.trans hrt))
            clear hrt
            by_cases k3 : 2 < ek
            · obtain ⟨v, hv⟩ : ∃ v, bareL (xs.map Mk.pl) ep.data.toList = v := ⟨_, rfl⟩
              have HV := Lib.hid hv
              clear hv
              have HBB := GB.out v HV
              rcases (by have := HKK.out; omega : ek = 3 ∨ ek = 4) with hek | hek <;> subst hek
              all_goals
                go_wp2_with fail
                refine (HBB.out _ (HS.out.below hb)).out.mono ?_; rintro e' W' ⟨rfl, hq⟩; replace hb := chn hb hq; clear hq
                cases v with
                | true =>
                  obtain rfl : r = false := HNO.out (fun h => by have := h.2.2.2 k3; rw [show (Mk.pl ⟨ep, _, ex⟩).p = ep.data.toList from rfl, HV.out] at this; cases this)
                  go_wp2
                  go_ret
                  exact ⟨rfl, by repeat (first | exact hb | refine Below.alloc ?_ (by have := hb.size; simp; try omega) _)⟩
                | false =>
                  go_wp2
                  go_roundw
                  case rel => exact ⟨(k+1+1), by omega, by go_num, ASK.out HUP.out (fun _ => HV.out), by repeat (first | exact hb | refine Below.alloc ?_ (by have := hb.size; simp; try omega) _)⟩
                  case measure => simp [intOf]; omega
            · have n3 : (ek == 3) = false := by rw [beq_eq_false_iff_ne]; omega
              have n4 : (ek == 4) = false := by rw [beq_eq_false_iff_ne]; omega
              go_wp2
              go_roundw
              case rel => exact ⟨(k+1+1), by omega, by go_num, ASK.out HUP.out (fun h => (by exfalso; omega)), by repeat (first | exact hb | refine Below.alloc ?_ (by have := hb.size; simp; try omega) _)⟩
              case measure => simp [intOf]; omega
          · have q2 := beq_no hrt
            have HUP := Lib.hid (upM_G xs ep u hu.out hrt)
            clear hrt
            obtain ⟨o, ho⟩ : ∃ o, getM xs u = o := ⟨_, rfl⟩
            have HO := Lib.hid ho
            clear ho
            go_wp2_with fail
            refine ((GM.out u o HO _ (HS.out.below hb)).out).mono ?_; rintro e W ⟨rfl, hq⟩; replace hb := chn hb hq; replace c0 := keepc hq c0; replace c1 := keepc hq c1; replace c2 := keepc hq c2; clear hq
            cases o with
            | none =>
              obtain rfl : r = false := HNO.out (fun h => by have h := h.2.2.1; rw [show (Mk.pl ⟨ep, ek, ex⟩).p = ep.data.toList from rfl, HUP.out, HO.out] at h; cases h)
              go_wp2
              go_ret
              exact ⟨rfl, by repeat (first | exact hb | refine Below.alloc ?_ (by have := hb.size; simp; try omega) _)⟩
            | some f =>
              obtain ⟨v, hv⟩ : ∃ v, dirM f.pl = v := ⟨_, rfl⟩
              have HV := Lib.hid hv
              clear hv
              obtain ⟨fp, fk, fx⟩ := f
              replace hb := hb.alloc hb.size (.cells #[.string fp, .int .i64 fk, .string fx] 49); replace c0 := keepc (bellow_alloc _ (.cells #[.string fp, .int .i64 fk, .string fx] 49)) c0; replace c1 := keepc (bellow_alloc _ (.cells #[.string fp, .int .i64 fk, .string fx] 49)) c1; replace c2 := keepc (bellow_alloc _ (.cells #[.string fp, .int .i64 fk, .string fx] 49)) c2; 
              go_wp2_with fail
              refine (isDir_c ⟨fp, fk, fx⟩ v HV _).mono ?_; rintro e W ⟨rfl, hq⟩; replace hb := chn hb hq; replace c0 := keepc hq c0; replace c1 := keepc hq c1; replace c2 := keepc hq c2; clear hq
              cases v with
              | false =>
                obtain rfl : r = false := HNO.out (fun h => by have h := h.2.2.1; rw [show (Mk.pl ⟨ep, ek, ex⟩).p = ep.data.toList from rfl, HUP.out, HO.out] at h; exact absurd (h.symm.trans HV.out) (by simp))
                go_wp2
                go_ret
                exact ⟨rfl, by repeat (first | exact hb | refine Below.alloc ?_ (by have := hb.size; simp; try omega) _)⟩
              | true =>
                have HUQ : Hid (upM (xs.map Mk.pl) ep.data.toList = true) := by rw [Hid, HUP.out, HO.out]; exact HV.out
                clear HV HO HUP
                by_cases k3 : 2 < ek
                · obtain ⟨v, hv⟩ : ∃ v, bareL (xs.map Mk.pl) ep.data.toList = v := ⟨_, rfl⟩
                  have HV := Lib.hid hv
                  clear hv
                  have HBB := GB.out v HV
                  rcases (by have := HKK.out; omega : ek = 3 ∨ ek = 4) with hek | hek <;> subst hek
                  all_goals
                    go_wp2_with fail
                    refine (HBB.out _ (HS.out.below hb)).out.mono ?_; rintro e' W' ⟨rfl, hq⟩; replace hb := chn hb hq; clear hq
                    cases v with
                    | true =>
                      obtain rfl : r = false := HNO.out (fun h => by have := h.2.2.2 k3; rw [show (Mk.pl ⟨ep, _, ex⟩).p = ep.data.toList from rfl, HV.out] at this; cases this)
                      go_wp2
                      go_ret
                      exact ⟨rfl, by repeat (first | exact hb | refine Below.alloc ?_ (by have := hb.size; simp; try omega) _)⟩
                    | false =>
                      go_wp2
                      go_roundw
                      case rel => exact ⟨(k+1+1), by omega, by go_num, ASK.out HUQ.out (fun _ => HV.out), by repeat (first | exact hb | refine Below.alloc ?_ (by have := hb.size; simp; try omega) _)⟩
                      case measure => simp [intOf]; omega
                · have n3 : (ek == 3) = false := by rw [beq_eq_false_iff_ne]; omega
                  have n4 : (ek == 4) = false := by rw [beq_eq_false_iff_ne]; omega
                  go_wp2
                  go_roundw
                  case rel => exact ⟨(k+1+1), by omega, by go_num, ASK.out HUQ.out (fun h => (by exfalso; omega)), by repeat (first | exact hb | refine Below.alloc ?_ (by have := hb.size; simp; try omega) _)⟩
                  case measure => simp [intOf]; omega
        · obtain rfl : r = false := HNO.out (fun h => by have := mless_at xs k f ⟨ep, ek, ex⟩ HFF.out h.2.1; rw [hle] at this; cases this)
          go_wp2_with fail
          refine (markOk_c ⟨ep, ek, ex⟩ true H1 _ HZ1.out HZ2.out).mono ?_; rintro e W ⟨rfl, hq⟩; replace hb := chn hb hq; replace c0 := keepc hq c0; replace c1 := keepc hq c1; replace c2 := keepc hq c2; replace c3 := keepc hq c3; clear hq
          go_wp2_with fail
          go_quiet (fail)
          go_wp2
          go_ret
          exact ⟨rfl, drw hb _⟩
    · obtain rfl : r = true := hR.out.2 ⟨by omega, fun j e he => HA.out j e (by have := (List.getElem?_eq_some_iff.1 he).1; rw [HN.out] at this; omega) he⟩
      go_wp2
      go_ret
      exact ⟨rfl, hb⟩
end Go.Proofs.YtkhbkhibjflgmaaDoor
