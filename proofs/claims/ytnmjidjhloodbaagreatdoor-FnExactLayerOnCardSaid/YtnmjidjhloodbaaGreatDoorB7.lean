/- The walks of markAt and LayerOk, of the program and of the reference. The walk of the program's joinMarks. The walk of the program's LayerOn. The walks of the reference's LayerOk, and of LayerHides of both. The walks of the reference's l3On and LayerOn. The walk of the exact law of LayerOn. Conditions: each theorem's own. -/
import Derived.Test.YtnmjidjhloodbaaGreatDoorB5
import Derived.Test.YtnmjidjhloodbaaGreatDoorB4
import Derived.Test.YtnmjidjhloodbaaGreatDoorB6
import Derived.StillTailTactics
namespace Go.Proofs.YtnmjidjhloodbaaGreatDoor
open Go.RowKit
abbrev optM (o : Option Mk) : Value := match o with
  | some e => .tuple #[e.val, .bool true]
  | none => .tuple #[.agg #[.string ⟨#[]⟩, .int .i64 0, .string ⟨#[]⟩], .bool false]
set_option maxHeartbeats 2000000 in
theorem markAt_c (a : Option Addr) (c : Nat) (xs : List Mk) (q : ByteArray) (o : Option Mk) (ho : Hid (getM xs q = o)) (w : World) (hs : SlF Mk.cells w a xs) (hx : xs.length ≤ maxLen) :
    Calls Tryz.prog 38 #[.slice a xs.length c, .string q] w fun r w' => r = .returned (optM o) ∧ Below w.heap.size w w' := by
  obtain ⟨n, hn⟩ : ∃ n, xs.length = n := ⟨_, rfl⟩
  rw [hn] at hx ⊢
  unfold maxLen at hx
  have HN := Lib.hid hn
  obtain ⟨z, hz⟩ : ∃ z, w.alloc (.cells #[.string ⟨#[]⟩, .int .i64 0, .string ⟨#[]⟩] 65) = z := ⟨_, rfl⟩
  have HS := Lib.hid (hs.below (hz ▸ bellow_alloc w _ : Below w.heap.size w z))
  have hzs : z.heap.size = w.heap.size + 1 := by rw [← hz]; simp
  have c0 : z.cell? ⟨w.heap.size, 0, none⟩ = some (.string ⟨#[]⟩) := by rw [← hz]; exact new_cell _ _ _ 0 _ rfl
  have c1 : z.cell? ⟨w.heap.size, 1, none⟩ = some (.int .i64 0) := by rw [← hz]; exact new_cell _ _ _ 1 _ rfl
  have c2 : z.cell? ⟨w.heap.size, 2, none⟩ = some (.string ⟨#[]⟩) := by rw [← hz]; exact new_cell _ _ _ 2 _ rfl
  have hfz : ∀ j, z.frozen? ⟨w.heap.size, j, none⟩ = false := fun j => by rw [← hz]; exact new_free w _ _ j
  have HW := Lib.hid (hz ▸ bellow_alloc w _ : Below w.heap.size w z)
  have HF := Lib.hid hfz
  have HC0 := Lib.hid c0
  have HC1 := Lib.hid c1
  have HC2 := Lib.hid c2
  have HZ := Lib.hid hzs
  clear hn hs hzs c0 c1 c2 hfz
  go_enter Tryz.func38, Tryz.ntmps38
  go_wp2
  clear hz
  go_loopw [7, 10] (fun _ i wr => ∃ k : Nat, k ≤ n ∧ i = .int .i64 k ∧ (∀ (j : Nat) (f : Mk), j < k → xs[j]? = some f → f.p.data.toList ≠ q.data.toList) ∧ Below z.heap.size z wr) (fun _ i _ => n - (intOf i).toNat)
  case atStart => exact ⟨0, Nat.zero_le _, rfl, fun j _ h => absurd h (by omega), Below.refl _ _⟩
  case round =>
    obtain ⟨k, hk, rfl, hall, hb⟩ := hrel
    have HA := Lib.hid hall
    clear hall
    have hlt0 : w.heap.size < wr.heap.size := by have := hb.size; rw [HZ.out] at this; omega
    have g0 := keepc hb HC0.out
    have g1 := keepc hb HC1.out
    have g2 := keepc hb HC2.out
    have f0 := (hb.frozen (p := ⟨w.heap.size, 0, none⟩) (by rw [HZ.out]; simp)).trans (HF.out 0)
    have f1 := (hb.frozen (p := ⟨w.heap.size, 1, none⟩) (by rw [HZ.out]; simp)).trans (HF.out 1)
    have f2 := (hb.frozen (p := ⟨w.heap.size, 2, none⟩) (by rw [HZ.out]; simp)).trans (HF.out 2)
    by_cases hlt : k < n
    · obtain ⟨e, hee⟩ : ∃ e, xs[k]? = some e := ⟨_, List.getElem?_eq_getElem (by rw [HN.out]; exact hlt)⟩
      have h2 := (HS.out.below hb)
      obtain ⟨b, off, rfl, _⟩ := h2.addr (by rw [HN.out]; omega)
      obtain ⟨c0, c1, c2⟩ := mk_at h2 k e hee
      have hg := getM_skip xs q k e hee HA.out
      have HG := Lib.hid hg
      have HEE := Lib.hid hee
      clear h2 hg hee
      by_cases heq : e.p.data.toList = q.data.toList
      · have hq := beqs_yes heq
        obtain rfl : o = some e := by rw [← ho.out, HG.out, if_pos heq]
        clear heq
        go_wp2
        obtain ⟨q0, q1, q2⟩ := three_set wr w.heap.size _ _ _ (.string e.p) (.int .i64 e.k) (.string e.x) g0 g1 g2 (.cells #[.string e.p, .int .i64 e.k, .string e.x] 65)
        refine bodyPost_ret (v := optM (some e)) (by simp [results, Tryz.results38, go_sem, q0, q1, q2]) rfl ⟨rfl, ?_⟩
        have HB := HW.out.trans (hb.mono (by rw [HZ.out]; omega))
        repeat (first | exact HB | refine Below.alloc ?_ (by simp; try omega) _ | refine Below.setCell ?_ (by simp; try omega) _)
      · have hq := beqs_no heq
        have HQ := Lib.hid heq
        clear heq
        go_wp2
        go_roundw
        case rel => exact ⟨k + 1, by omega, by go_num, fun j f hj hf => by
          by_cases ej : j = k
          · subst ej
            rw [HEE.out] at hf
            injection hf with hf
            exact hf ▸ HQ.out
          · exact HA.out j f (by omega) hf, hb.alloc hb.size _⟩
        case measure => simp [intOf]; omega
    · obtain rfl : o = none := by
        rw [← ho.out]
        exact getM_none xs q (fun j f hf => HA.out j f (by have := (List.getElem?_eq_some_iff.1 hf).1; rw [HN.out] at this; omega) hf)
      go_wp2
      refine bodyPost_ret (v := optM none) (by simp [results, Tryz.results38, go_sem, g0, g1, g2]) rfl ⟨rfl, ?_⟩
      have HB := HW.out.trans (hb.mono (by rw [HZ.out]; omega))
      repeat (first | exact HB | refine Below.alloc ?_ (by simp; try omega) _ | refine Below.setCell ?_ (by simp; try omega) _)
/-- What the program asks of the mark at place k. -/
def MAskM (xs : List Mk) (k : Nat) (e : Mk) : Prop := MAskI (xs.map Mk.pl) k e.pl
def MAskR (xs : List Mk) (k : Nat) (e : Mk) : Prop := MAskS (xs.map Mk.pl) k e.pl
theorem lok_M (xs : List Mk) : LOk (xs.map Mk.pl) ↔ xs.length ≤ 32 ∧ ∀ (k : Nat) (e : Mk), xs[k]? = some e → MAskM xs k e := by
  rw [lok_iff, List.length_map]
  constructor
  · rintro ⟨h1, h2⟩
    exact ⟨h1, fun k e he => h2 k e.pl (by simp [he])⟩
  · rintro ⟨h1, h2⟩
    refine ⟨h1, fun k e he => ?_⟩
    rw [List.getElem?_map, Option.map_eq_some_iff] at he
    obtain ⟨f, hf, rfl⟩ := he
    exact h2 k f hf
theorem lok_R (xs : List Mk) : LOk (xs.map Mk.pl) ↔ xs.length ≤ 32 ∧ ∀ (k : Nat) (e : Mk), xs[k]? = some e → MAskR xs k e := by
  rw [lok_iffS, List.length_map]
  constructor
  · rintro ⟨h1, h2⟩
    exact ⟨h1, fun k e he => h2 k e.pl (by simp [he])⟩
  · rintro ⟨h1, h2⟩
    refine ⟨h1, fun k e he => ?_⟩
    rw [List.getElem?_map, Option.map_eq_some_iff] at he
    obtain ⟨f, hf, rfl⟩ := he
    exact h2 k f hf
theorem lok_dec (xs : List Mk) : ∃ r : Bool, r = true ↔ LOk (xs.map Mk.pl) := ⟨by classical exact decide (LOk (xs.map Mk.pl)), by simp⟩
theorem mless_of (xs : List Mk) (k : Nat) (f e : Mk) (hf : xs[k]? = some f) (h2 : Op.bytesLess f.p.toList e.p.toList = true) : ∀ g, 0 < k + 1 → (xs.map Mk.pl)[k + 1 - 1]? = some g → Op.bytesLess g.p e.pl.p = true := by
  intro g _ hg
  rw [Nat.add_sub_cancel, List.getElem?_map, hf] at hg
  injection hg with hg
  rw [← hg]
  rw [less_of'] at h2
  exact h2
theorem mless_at (xs : List Mk) (k : Nat) (f e : Mk) (hf : xs[k]? = some f) (h : ∀ g, 0 < k + 1 → (xs.map Mk.pl)[k + 1 - 1]? = some g → Op.bytesLess g.p e.pl.p = true) : Op.bytesLess f.p.toList e.p.toList = true := by
  have := h f.pl (by omega) (by rw [Nat.add_sub_cancel, List.getElem?_map, hf]; rfl)
  rw [less_of']
  exact this
theorem upM_G (xs : List Mk) (q u : ByteArray) (hu : upL q.data.toList = u.data.toList) (hr : u.data.toList ≠ [47]) : upM (xs.map Mk.pl) q.data.toList = match getM xs u with
    | some m => dirM m.pl
    | none => false := by
  unfold upM
  rw [hu, getM_pl]
  have : (u.data.toList == [47]) = false := by simpa using hr
  rw [this, Bool.false_or]
  cases getM xs u <;> rfl
theorem upM_root (l : List PM) (q : Bs) (hu : upL q = [47]) : upM l q = true := by unfold upM; rw [hu]; rfl
set_option maxRecDepth 100000 in
set_option maxHeartbeats 8000000 in
theorem layerOk_c (a : Option Addr) (c : Nat) (xs : List Mk) (r : Bool) (hr : Hid (r = true ↔ LOk (xs.map Mk.pl))) (w : World) (hs : SlF Mk.cells w a xs) (hx : xs.length ≤ maxLen) (hz : ∀ e ∈ xs, e.p.size ≤ 2000000 ∧ e.x.size ≤ 2000000) :
    Calls Tryz.prog 37 #[.slice a xs.length c] w fun q w' => q = .returned (.bool r) ∧ Below w.heap.size w w' := by
  have hR : Hid (r = true ↔ xs.length ≤ 32 ∧ ∀ (k : Nat) (e : Mk), xs[k]? = some e → MAskM xs k e) := by rw [Hid, hr.out, lok_M]
  have HM := fun (q : ByteArray) (o : Option Mk) (ho : Hid (getM xs q = o)) (W : World) (h : SlF Mk.cells W a xs) => Lib.hid (markAt_c a c xs q o ho W h hx)
  have HB := fun (q : ByteArray) (hq : q.size ≤ 2000000) (v : Bool) (hv : Hid (bareL (xs.map Mk.pl) q.data.toList = v)) => Lib.hid (fun (W : World) (h : SlF Mk.cells W a xs) => Lib.hid (belowBare_c a c xs q v hv W h hx hq hz))
  have HZ := Lib.hid hz
  have HS := Lib.hid hs
  obtain ⟨n, hn⟩ : ∃ n, xs.length = n := ⟨_, rfl⟩
  have HN := Lib.hid hn
  rw [hn] at hR hx HM HB ⊢
  unfold maxLen at hx
  have GM := Lib.hid HM
  have GB0 := Lib.hid HB
  clear hn hz hs hr HM HB
  by_cases h16 : 32 < n
  · obtain rfl : r = false := by
      cases r
      · rfl
      · have := hR.out.1 rfl; omega
    go_enter Tryz.func37, Tryz.ntmps37
    go_wp2
    go_ret
    exact ⟨rfl, Below.refl _ _⟩
  have hno : Hid (∀ (k : Nat) (e : Mk), xs[k]? = some e → ¬ MAskM xs k e → r = false) := fun k e he hne => by
    cases r
    · rfl
    · exact absurd ((hR.out.1 rfl).2 k e he) hne
  go_enter Tryz.func37, Tryz.ntmps37
  go_wp2
  go_loopw [3, 4, 5, 6, 7, 13] (fun _ _ _ _ _ i wr => ∃ k : Nat, k ≤ n ∧ i = .int .i64 k ∧ (∀ (j : Nat) (e : Mk), j < k → xs[j]? = some e → MAskM xs j e) ∧ Below w.heap.size w wr) (fun _ _ _ _ _ i _ => n - (intOf i).toNat)
  case atStart => exact ⟨0, Nat.zero_le _, rfl, fun j _ h => absurd h (by omega), Below.refl _ _⟩
  case round =>
    obtain ⟨k, hk, rfl, hall, hb⟩ := hrel
    have HA := Lib.hid hall
    clear hall
    by_cases hlt : k < n
    · obtain ⟨e, hee⟩ : ∃ e, xs[k]? = some e := ⟨_, List.getElem?_eq_getElem (by rw [HN.out]; exact hlt)⟩
      have h2 := (HS.out.below hb)
      obtain ⟨b, off, rfl, _⟩ := h2.addr (by rw [HN.out]; omega)
      obtain ⟨d0, d1, d2⟩ := mk_at h2 k e hee
      have hzz := HZ.out e (List.mem_of_getElem? hee)
      have HNO := Lib.hid (fun h => hno.out k e hee h)
      have HEE := Lib.hid hee
      have h3 := h2
      clear h2 hee
      obtain ⟨ep, ek, ex⟩ := e
      have hz1 : ep.size ≤ maxLen := Nat.le_trans hzz.1 (by unfold maxLen; omega)
      have hz2 : ex.size ≤ maxLen := Nat.le_trans hzz.2 (by unfold maxLen; omega)
      have HZ1 := Lib.hid hz1
      have HZ2 := Lib.hid hz2
      have GB := Lib.hid (fun v hv => GB0.out ep hzz.1 v hv)
      obtain ⟨u, hu, hus⟩ := up_str20 ep
      clear hzz hz1 hz2
      have c0 := new_cell wr #[.string ep, .int .i64 ek, .string ex] 65 0 _ rfl
      have c1 := new_cell wr #[.string ep, .int .i64 ek, .string ex] 65 1 _ rfl
      have c2 := new_cell wr #[.string ep, .int .i64 ek, .string ex] 65 2 _ rfl
      replace hb := hb.alloc hb.size (.cells #[.string ep, .int .i64 ek, .string ex] 65)
      obtain ⟨p1, hp1⟩ : ∃ x, markOkL (Mk.pl ⟨ep, ek, ex⟩) = x := ⟨_, rfl⟩
      have H1 := Lib.hid hp1
      clear hp1
      cases p1 with
      | false =>
        obtain rfl : r = false := HNO.out (fun h => by have := h.1; rw [H1.out] at this; cases this)
        go_wp2_with fail
        refine (markOk_c ⟨ep, ek, ex⟩ false H1 _ HZ1.out HZ2.out).mono ?_; rintro e W ⟨rfl, hq⟩; replace hb := chn hb hq; clear hq
        go_wp2
        go_ret
        exact ⟨rfl, hb⟩
      | true =>
      have hkk : 1 ≤ ek ∧ ek ≤ 4 := markOk_kind H1.out
      have HKK := Lib.hid hkk
      clear hkk
      cases k with
      | zero =>
        rw [Nat.zero_mul, Nat.add_zero] at d0 d1 d2
        have ASK := Lib.hid (fun (h3 : upM (xs.map Mk.pl) ep.data.toList = true) (h4 : 2 < ek → bareL (xs.map Mk.pl) ep.data.toList = false) (j : Nat) (g : Mk) (hj : j < 0 + 1) (hg : xs[j]? = some g) => (by
          have ej : j = 0 := by omega
          subst ej
          rw [HEE.out] at hg
          injection hg with hg
          rw [← hg]
          exact ⟨H1.out, fun _ h _ => absurd h (by omega), h3, h4⟩ : MAskM xs j g))
        clear h3
        go_wp2_with fail
        refine (markOk_c ⟨ep, ek, ex⟩ true H1 _ HZ1.out HZ2.out).mono ?_; rintro e W ⟨rfl, hq⟩; replace hb := chn hb hq; replace c0 := keepc hq c0; replace c1 := keepc hq c1; replace c2 := keepc hq c2; clear hq
        go_wp2_with fail
        go_quiet (fail)
        go_wp2_with fail
        refine (pathUp_c ep u hu _ HZ1.out).mono ?_; rintro e W ⟨rfl, hq⟩; replace hb := chn (drw hb _) hq; replace c0 := keepc hq c0; replace c1 := keepc hq c1; replace c2 := keepc hq c2; clear hq
        by_cases hrt : u.data.toList = [47]
        · have q2 := beq_yes hrt
          have HUP := Lib.hid (upM_root (xs.map Mk.pl) ep.data.toList (hu.out.trans hrt))
          clear hrt
          by_cases k3 : 2 < ek
          · obtain ⟨v, hv⟩ : ∃ v, bareL (xs.map Mk.pl) ep.data.toList = v := ⟨_, rfl⟩
            have HV := Lib.hid hv
            clear hv
            have HBB := GB.out v HV
            rcases (by have := HKK.out; omega : ek = 3 ∨ ek = 4) with hek | hek <;> subst hek
            all_goals
              go_wp2_with fail
              refine (HBB.out _ (HS.out.below hb)).out.mono ?_; rintro e' W' ⟨rfl, hq⟩; replace hb := chn hb hq; clear hq
              cases v with
              | true =>
                obtain rfl : r = false := HNO.out (fun h => by have := h.2.2.2 k3; rw [show (Mk.pl ⟨ep, _, ex⟩).p = ep.data.toList from rfl, HV.out] at this; cases this)
                go_wp2
                go_ret
                exact ⟨rfl, by repeat (first | exact hb | refine Below.alloc ?_ (by have := hb.size; simp; try omega) _)⟩
              | false =>
                go_wp2
                go_roundw
                case rel => exact ⟨(0+1), by omega, by go_num, ASK.out HUP.out (fun _ => HV.out), by repeat (first | exact hb | refine Below.alloc ?_ (by have := hb.size; simp; try omega) _)⟩
                case measure => simp [intOf]; omega
          · have n3 : (ek == 3) = false := by rw [beq_eq_false_iff_ne]; omega
            have n4 : (ek == 4) = false := by rw [beq_eq_false_iff_ne]; omega
            go_wp2
            go_roundw
            case rel => exact ⟨(0+1), by omega, by go_num, ASK.out HUP.out (fun h => (by exfalso; omega)), by repeat (first | exact hb | refine Below.alloc ?_ (by have := hb.size; simp; try omega) _)⟩
            case measure => simp [intOf]; omega
        · have q2 := beq_no hrt
          have HUP := Lib.hid (upM_G xs ep u hu.out hrt)
          clear hrt
          obtain ⟨o, ho⟩ : ∃ o, getM xs u = o := ⟨_, rfl⟩
          have HO := Lib.hid ho
          clear ho
          go_wp2_with fail
          refine ((GM.out u o HO _ (HS.out.below hb)).out).mono ?_; rintro e W ⟨rfl, hq⟩; replace hb := chn hb hq; replace c0 := keepc hq c0; replace c1 := keepc hq c1; replace c2 := keepc hq c2; clear hq
          cases o with
          | none =>
            obtain rfl : r = false := HNO.out (fun h => by have h := h.2.2.1; rw [show (Mk.pl ⟨ep, ek, ex⟩).p = ep.data.toList from rfl, HUP.out, HO.out] at h; cases h)
            go_wp2
            go_ret
            exact ⟨rfl, by repeat (first | exact hb | refine Below.alloc ?_ (by have := hb.size; simp; try omega) _)⟩
          | some f =>
            obtain ⟨v, hv⟩ : ∃ v, dirM f.pl = v := ⟨_, rfl⟩
            have HV := Lib.hid hv
            clear hv
            obtain ⟨fp, fk, fx⟩ := f
            replace hb := hb.alloc hb.size (.cells #[.string fp, .int .i64 fk, .string fx] 65); replace c0 := keepc (bellow_alloc _ (.cells #[.string fp, .int .i64 fk, .string fx] 65)) c0; replace c1 := keepc (bellow_alloc _ (.cells #[.string fp, .int .i64 fk, .string fx] 65)) c1; replace c2 := keepc (bellow_alloc _ (.cells #[.string fp, .int .i64 fk, .string fx] 65)) c2; 
            go_wp2_with fail
            refine (isDir_c ⟨fp, fk, fx⟩ v HV _).mono ?_; rintro e W ⟨rfl, hq⟩; replace hb := chn hb hq; replace c0 := keepc hq c0; replace c1 := keepc hq c1; replace c2 := keepc hq c2; clear hq
            cases v with
            | false =>
              obtain rfl : r = false := HNO.out (fun h => by have h := h.2.2.1; rw [show (Mk.pl ⟨ep, ek, ex⟩).p = ep.data.toList from rfl, HUP.out, HO.out] at h; exact absurd (h.symm.trans HV.out) (by simp))
              go_wp2
              go_ret
              exact ⟨rfl, by repeat (first | exact hb | refine Below.alloc ?_ (by have := hb.size; simp; try omega) _)⟩
            | true =>
              have HUQ : Hid (upM (xs.map Mk.pl) ep.data.toList = true) := by rw [Hid, HUP.out, HO.out]; exact HV.out
              clear HV HO HUP
              by_cases k3 : 2 < ek
              · obtain ⟨v, hv⟩ : ∃ v, bareL (xs.map Mk.pl) ep.data.toList = v := ⟨_, rfl⟩
                have HV := Lib.hid hv
                clear hv
                have HBB := GB.out v HV
                rcases (by have := HKK.out; omega : ek = 3 ∨ ek = 4) with hek | hek <;> subst hek
                all_goals
                  go_wp2_with fail
                  refine (HBB.out _ (HS.out.below hb)).out.mono ?_; rintro e' W' ⟨rfl, hq⟩; replace hb := chn hb hq; clear hq
                  cases v with
                  | true =>
                    obtain rfl : r = false := HNO.out (fun h => by have := h.2.2.2 k3; rw [show (Mk.pl ⟨ep, _, ex⟩).p = ep.data.toList from rfl, HV.out] at this; cases this)
                    go_wp2
                    go_ret
                    exact ⟨rfl, by repeat (first | exact hb | refine Below.alloc ?_ (by have := hb.size; simp; try omega) _)⟩
                  | false =>
                    go_wp2
                    go_roundw
                    case rel => exact ⟨(0+1), by omega, by go_num, ASK.out HUQ.out (fun _ => HV.out), by repeat (first | exact hb | refine Below.alloc ?_ (by have := hb.size; simp; try omega) _)⟩
                    case measure => simp [intOf]; omega
              · have n3 : (ek == 3) = false := by rw [beq_eq_false_iff_ne]; omega
                have n4 : (ek == 4) = false := by rw [beq_eq_false_iff_ne]; omega
                go_wp2
                go_roundw
                case rel => exact ⟨(0+1), by omega, by go_num, ASK.out HUQ.out (fun h => (by exfalso; omega)), by repeat (first | exact hb | refine Below.alloc ?_ (by have := hb.size; simp; try omega) _)⟩
                case measure => simp [intOf]; omega
      | succ k =>
        obtain ⟨f, hff⟩ : ∃ f, xs[k]? = some f := ⟨_, List.getElem?_eq_getElem (by rw [HN.out]; omega)⟩
        obtain ⟨c3, _, _⟩ := mk_at h3 k f hff
        replace c3 := keepc (bellow_alloc wr (.cells #[.string ep, .int .i64 ek, .string ex] 65)) c3
        have HFF := Lib.hid hff
        clear hff h3
        rcases Bool.eq_false_or_eq_true (Op.bytesLess f.p.toList ep.toList) with hle | hle
        · have HLE := Lib.hid hle
          have ASK := Lib.hid (fun (h3 : upM (xs.map Mk.pl) ep.data.toList = true) (h4 : 2 < ek → bareL (xs.map Mk.pl) ep.data.toList = false) (j : Nat) (g : Mk) (hj : j < k + 1 + 1) (hg : xs[j]? = some g) => (by
            by_cases ej : j = k + 1
            · subst ej
              rw [HEE.out] at hg
              injection hg with hg
              rw [← hg]
              exact ⟨H1.out, mless_of xs k f ⟨ep, ek, ex⟩ HFF.out HLE.out, h3, h4⟩
            · exact HA.out j g (by omega) hg : MAskM xs j g))
          go_wp2_with fail
          refine (markOk_c ⟨ep, ek, ex⟩ true H1 _ HZ1.out HZ2.out).mono ?_; rintro e W ⟨rfl, hq⟩; replace hb := chn hb hq; replace c0 := keepc hq c0; replace c1 := keepc hq c1; replace c2 := keepc hq c2; replace c3 := keepc hq c3; clear hq
          go_wp2_with fail
          go_quiet (fail)
          clear hle c3
          go_wp2_with fail
          refine (pathUp_c ep u hu _ HZ1.out).mono ?_; rintro e W ⟨rfl, hq⟩; replace hb := chn (drw hb _) hq; replace c0 := keepc hq c0; replace c1 := keepc hq c1; replace c2 := keepc hq c2; clear hq
          by_cases hrt : u.data.toList = [47]
          · have q2 := beq_yes hrt
            have HUP := Lib.hid (upM_root (xs.map Mk.pl) ep.data.toList (hu.out.trans hrt))
            clear hrt
            by_cases k3 : 2 < ek
            · obtain ⟨v, hv⟩ : ∃ v, bareL (xs.map Mk.pl) ep.data.toList = v := ⟨_, rfl⟩
              have HV := Lib.hid hv
              clear hv
              have HBB := GB.out v HV
              rcases (by have := HKK.out; omega : ek = 3 ∨ ek = 4) with hek | hek <;> subst hek
              all_goals
                go_wp2_with fail
                refine (HBB.out _ (HS.out.below hb)).out.mono ?_; rintro e' W' ⟨rfl, hq⟩; replace hb := chn hb hq; clear hq
                cases v with
                | true =>
                  obtain rfl : r = false := HNO.out (fun h => by have := h.2.2.2 k3; rw [show (Mk.pl ⟨ep, _, ex⟩).p = ep.data.toList from rfl, HV.out] at this; cases this)
                  go_wp2
                  go_ret
                  exact ⟨rfl, by repeat (first | exact hb | refine Below.alloc ?_ (by have := hb.size; simp; try omega) _)⟩
                | false =>
                  go_wp2
                  go_roundw
                  case rel => exact ⟨(k+1+1), by omega, by go_num, ASK.out HUP.out (fun _ => HV.out), by repeat (first | exact hb | refine Below.alloc ?_ (by have := hb.size; simp; try omega) _)⟩
                  case measure => simp [intOf]; omega
            · have n3 : (ek == 3) = false := by rw [beq_eq_false_iff_ne]; omega
              have n4 : (ek == 4) = false := by rw [beq_eq_false_iff_ne]; omega
              go_wp2
              go_roundw
              case rel => exact ⟨(k+1+1), by omega, by go_num, ASK.out HUP.out (fun h => (by exfalso; omega)), by repeat (first | exact hb | refine Below.alloc ?_ (by have := hb.size; simp; try omega) _)⟩
              case measure => simp [intOf]; omega
          · have q2 := beq_no hrt
            have HUP := Lib.hid (upM_G xs ep u hu.out hrt)
            clear hrt
            obtain ⟨o, ho⟩ : ∃ o, getM xs u = o := ⟨_, rfl⟩
            have HO := Lib.hid ho
            clear ho
            go_wp2_with fail
            refine ((GM.out u o HO _ (HS.out.below hb)).out).mono ?_; rintro e W ⟨rfl, hq⟩; replace hb := chn hb hq; replace c0 := keepc hq c0; replace c1 := keepc hq c1; replace c2 := keepc hq c2; clear hq
            cases o with
            | none =>
              obtain rfl : r = false := HNO.out (fun h => by have h := h.2.2.1; rw [show (Mk.pl ⟨ep, ek, ex⟩).p = ep.data.toList from rfl, HUP.out, HO.out] at h; cases h)
              go_wp2
              go_ret
              exact ⟨rfl, by repeat (first | exact hb | refine Below.alloc ?_ (by have := hb.size; simp; try omega) _)⟩
            | some f =>
              obtain ⟨v, hv⟩ : ∃ v, dirM f.pl = v := ⟨_, rfl⟩
              have HV := Lib.hid hv
              clear hv
              obtain ⟨fp, fk, fx⟩ := f
              replace hb := hb.alloc hb.size (.cells #[.string fp, .int .i64 fk, .string fx] 65); replace c0 := keepc (bellow_alloc _ (.cells #[.string fp, .int .i64 fk, .string fx] 65)) c0; replace c1 := keepc (bellow_alloc _ (.cells #[.string fp, .int .i64 fk, .string fx] 65)) c1; replace c2 := keepc (bellow_alloc _ (.cells #[.string fp, .int .i64 fk, .string fx] 65)) c2; 
              go_wp2_with fail
              refine (isDir_c ⟨fp, fk, fx⟩ v HV _).mono ?_; rintro e W ⟨rfl, hq⟩; replace hb := chn hb hq; replace c0 := keepc hq c0; replace c1 := keepc hq c1; replace c2 := keepc hq c2; clear hq
              cases v with
              | false =>
                obtain rfl : r = false := HNO.out (fun h => by have h := h.2.2.1; rw [show (Mk.pl ⟨ep, ek, ex⟩).p = ep.data.toList from rfl, HUP.out, HO.out] at h; exact absurd (h.symm.trans HV.out) (by simp))
                go_wp2
                go_ret
                exact ⟨rfl, by repeat (first | exact hb | refine Below.alloc ?_ (by have := hb.size; simp; try omega) _)⟩
              | true =>
                have HUQ : Hid (upM (xs.map Mk.pl) ep.data.toList = true) := by rw [Hid, HUP.out, HO.out]; exact HV.out
                clear HV HO HUP
                by_cases k3 : 2 < ek
                · obtain ⟨v, hv⟩ : ∃ v, bareL (xs.map Mk.pl) ep.data.toList = v := ⟨_, rfl⟩
                  have HV := Lib.hid hv
                  clear hv
                  have HBB := GB.out v HV
                  rcases (by have := HKK.out; omega : ek = 3 ∨ ek = 4) with hek | hek <;> subst hek
                  all_goals
                    go_wp2_with fail
                    refine (HBB.out _ (HS.out.below hb)).out.mono ?_; rintro e' W' ⟨rfl, hq⟩; replace hb := chn hb hq; clear hq
                    cases v with
                    | true =>
                      obtain rfl : r = false := HNO.out (fun h => by have := h.2.2.2 k3; rw [show (Mk.pl ⟨ep, _, ex⟩).p = ep.data.toList from rfl, HV.out] at this; cases this)
                      go_wp2
                      go_ret
                      exact ⟨rfl, by repeat (first | exact hb | refine Below.alloc ?_ (by have := hb.size; simp; try omega) _)⟩
                    | false =>
                      go_wp2
                      go_roundw
                      case rel => exact ⟨(k+1+1), by omega, by go_num, ASK.out HUQ.out (fun _ => HV.out), by repeat (first | exact hb | refine Below.alloc ?_ (by have := hb.size; simp; try omega) _)⟩
                      case measure => simp [intOf]; omega
                · have n3 : (ek == 3) = false := by rw [beq_eq_false_iff_ne]; omega
                  have n4 : (ek == 4) = false := by rw [beq_eq_false_iff_ne]; omega
                  go_wp2
                  go_roundw
                  case rel => exact ⟨(k+1+1), by omega, by go_num, ASK.out HUQ.out (fun h => (by exfalso; omega)), by repeat (first | exact hb | refine Below.alloc ?_ (by have := hb.size; simp; try omega) _)⟩
                  case measure => simp [intOf]; omega
        · obtain rfl : r = false := HNO.out (fun h => by have := mless_at xs k f ⟨ep, ek, ex⟩ HFF.out h.2.1; rw [hle] at this; cases this)
          go_wp2_with fail
          refine (markOk_c ⟨ep, ek, ex⟩ true H1 _ HZ1.out HZ2.out).mono ?_; rintro e W ⟨rfl, hq⟩; replace hb := chn hb hq; replace c0 := keepc hq c0; replace c1 := keepc hq c1; replace c2 := keepc hq c2; replace c3 := keepc hq c3; clear hq
          go_wp2_with fail
          go_quiet (fail)
          go_wp2
          go_ret
          exact ⟨rfl, drw hb _⟩
    · obtain rfl : r = true := hR.out.2 ⟨by omega, fun j e he => HA.out j e (by have := (List.getElem?_eq_some_iff.1 he).1; rw [HN.out] at this; omega) he⟩
      go_wp2
      go_ret
      exact ⟨rfl, hb⟩
end Go.Proofs.YtnmjidjhloodbaaGreatDoor
namespace Go.Proofs.YtnmjidjhloodbaaGreatDoor
open Go.RowKit
/-- A row of marks of the call's own that reads as l. -/
def MadeMs (l : List PM) (w : World) (e : Ending) (w' : World) : Prop :=
  ∃ (a : Option Addr) (c : Nat) (ms : List Mk), e = .returned (.slice a ms.length c) ∧ ms.map Mk.pl = l ∧ OwnMk w' w.heap.size (.slice a ms.length c) ms ∧ Below w.heap.size w w'
theorem madeMs_of {w0 w : World} {B : Nat} {v : Value} {ms : List Mk} {l : List PM} (hl : ms.map Mk.pl = l) (h : w.ownsRow B 65 3 v ms.length (ms.flatMap Mk.cells)) (hB : w0.heap.size ≤ B) (hb : Below w0.heap.size w0 w) : MadeMs l w0 (.returned v) w := by
  rcases h.2 with ⟨rfl, h1⟩ | ⟨g, cap, cur, rfl, hg, hh, hnc, hm, h2, h3⟩
  · refine ⟨none, 0, ms, by rw [h1], hl, ?_, hb⟩
    refine ⟨h.1, .inl ⟨by rw [h1], h1⟩⟩
  · exact ⟨_, cap, ms, rfl, hl, ⟨h.1, .inr ⟨g, cap, cur, rfl, Nat.le_trans hB hg, hh, hnc, hm, h2, h3⟩⟩, hb⟩
theorem take_ml (xs : List Mk) (k : Nat) (e : Mk) (he : xs[k]? = some e) : (xs.take (k + 1)).map Mk.pl = (xs.take k).map Mk.pl ++ [e.pl] := by
  have h1 := List.take_succ_eq_append_getElem (l := xs) (i := k) (List.getElem?_eq_some_iff.1 he).1
  rw [(List.getElem?_eq_some_iff.1 he).2] at h1
  rw [h1, List.map_append]; rfl
theorem flat_mk (xs : List Mk) (e : Mk) : xs.flatMap Mk.cells ++ (#[.string e.p, .int .i64 e.k, .string e.x] : Array Value).toList = (xs ++ [e]).flatMap Mk.cells := by simp [Mk.cells]
/-- What is kept of the lower layer. -/
def keptM (a b : List PM) : List PM := b.filter fun m => (atP PM.p a m.p).isNone && !hidesL a m.p
theorem kept_snoc (a b : List PM) (m : PM) : keptM a (b ++ [m]) = keptM a b ++ if (atP PM.p a m.p).isNone && !hidesL a m.p then [m] else [] := by
  unfold keptM
  rw [List.filter_append]
  congr 1
  rw [List.filter_cons]
  split <;> simp_all
theorem kept_len (a b : List PM) : (keptM a b).length ≤ b.length := by unfold keptM; exact List.length_filter_le _ _
theorem joinRaw_eq (a b : List PM) : joinRaw a b = keptM a b ++ a.map (bothM b) := rfl
/-- A mark of the upper layer on what the lower one has there. -/
def bothK (o : Option Mk) (e : Mk) : Mk := if e.k = 2 then (match o with
  | some u => if u.k = 2 then e else ⟨e.p, 4, e.x⟩
  | none => e) else e
theorem both_pl (ys : List Mk) (e : Mk) : bothM (ys.map Mk.pl) e.pl = (bothK (getM ys e.p) e).pl := by
  unfold bothM bothK
  rw [show atP PM.p (ys.map Mk.pl) e.pl.p = (getM ys e.p).map Mk.pl from getM_pl ys e.p]
  by_cases h : e.k = 2
  · rw [if_pos (show e.pl.k = 2 from h), if_pos h]
    cases getM ys e.p with
    | none => rfl
    | some u =>
      show (if u.k = 2 then e.pl else _) = _
      show _ = (if u.k = 2 then e else (⟨e.p, 4, e.x⟩ : Mk)).pl
      by_cases h2 : u.k = 2
      · rw [if_pos h2, if_pos h2]
      · rw [if_neg h2, if_neg h2]; rfl
  · rw [if_neg (show ¬ e.pl.k = 2 from h), if_neg h]
end Go.Proofs.YtnmjidjhloodbaaGreatDoor
namespace Go.Proofs.YtnmjidjhloodbaaGreatDoor
open Go.RowKit
open Classical in
/-- What LayerOn tells. -/
noncomputable def lonB (l : List PM) (t : List PE) : Bool := decide (LOk l ∧ TOk t ∧ (onL l t).length ≤ 16)
noncomputable def lonL (l : List PM) (t : List PE) : List PE := if lonB l t then onL l t else []
theorem lon_bad {l : List PM} {t : List PE} (h : ¬ (LOk l ∧ TOk t)) : lonB l t = false := by
  unfold lonB; rw [decide_eq_false_iff_not]; exact fun h' => h ⟨h'.1, h'.2.1⟩
theorem lon_ok {l : List PM} {t : List PE} (h : LOk l) (h' : TOk t) : lonB l t = decide ((onL l t).length ≤ 16) := by
  unfold lonB; simp [h, h']
/-- What is kept of the tree. -/
def keptT (l : List PM) (t : List PE) : List PE := t.filter fun e => (atP PM.p l e.p).isNone && !hidesL l e.p
theorem keptT_snoc (l : List PM) (t : List PE) (e : PE) : keptT l (t ++ [e]) = keptT l t ++ if (atP PM.p l e.p).isNone && !hidesL l e.p then [e] else [] := by
  unfold keptT
  rw [List.filter_append]
  congr 1
  rw [List.filter_cons]
  split <;> simp_all
def onMk (m : Mk) : Option En := if m.k = 3 then none else some ⟨m.p, dirM m.pl, m.x⟩
theorem on_snoc (xs : List Mk) (k : Nat) (e : Mk) (he : xs[k]? = some e) (pre : List PE) (ms : List En) (h : ms.map En.pl = pre ++ (((xs.take k).map Mk.pl).filter fun m => decide (m.k ≠ 3)).map toE) :
    (ms ++ (onMk e).toList).map En.pl = pre ++ (((xs.take (k + 1)).map Mk.pl).filter fun m => decide (m.k ≠ 3)).map toE := by
  rw [take_ml xs k e he, List.filter_append, List.map_append, List.map_append, h, List.append_assoc]
  congr 2
  rw [List.filter_cons]
  unfold onMk
  by_cases h3 : e.k = 3
  · rw [if_pos h3, if_neg (by rw [show e.pl.k = e.k from rfl]; simp [h3])]; rfl
  · rw [if_neg h3, if_pos (by rw [show e.pl.k = e.k from rfl]; simp [h3])]; rfl
/-- An append of one struct, inside a region. -/
theorem op_app1 {P : Program} {o : Oper} {a : Act} {K : Act → World → Prop} {Q : Exit → Act → World → Prop} (s x : Operand) (t : TypeId)
    (ho : o.op = .call { callee := .builtin .append, args := #[s, x], argTypes := #[t, t] }) {e : TypeId} {size bytes : Nat} (E : Elt P t e size bytes)
    (base B : Nat) (w0 w : World) (cs : Array Value) (v : Value) (n : Nat) (xs : List Value) (hs : a.eval s = v) (hx : a.eval x = .slice (some ⟨w.heap.size, 0, none⟩) 1 1)
    (hown : w.ownsRow base e size v n xs) (hcs : cs.size = size) (h1 : ∀ u ∈ cs.toList, u.oneCell' = true) (hn : n ≤ 1000000) (hbase : base ≤ w.heap.size) (hB : Below B w0 w) (hBb : B ≤ base)
    (h : ∀ v' w', w'.ownsRow base e size v' (n + 1) (xs ++ cs.toList) → Below B w0 w' → (w.alloc (.cells cs e)).grownBy w' v.ownBlock → K (a.put o.dst v') w') : o.wp P a (w.alloc (.cells cs e)) K Q := by
  obtain ⟨i, z, hi, hz, hsz, hby, hzs⟩ := E.info
  have hsm := E.small
  refine wp_append_own _ s x t ho base e i z size bytes E.und hi hz hsz hby hzs E.pos v n xs hs (hown.alloc _) ⟨w.heap.size, 0, none⟩ 1 1 cs.toList hx (by simp [hcs]) ?_ h1 (by unfold maxLen; omega) ?_ (by simp; omega) ?_
  · intro j u hj
    have hc := cell_of_row _ _ j _ e (0, 0) (heap_alloc_new w (.cells cs e))
    have ha : (⟨w.heap.size, 0, none⟩ : Addr).add j = ⟨w.heap.size, j, none⟩ := by
      unfold Addr.add
      by_cases h0 : j = 0 <;> simp [h0]
    rw [ha, hc]
    simpa using hj
  · have : (n + 1) * bytes ≤ 1000001 * 64 := Nat.mul_le_mul (by omega) hsm
    omega
  · intro v' w' h2 h3 _
    refine h v' w' h2 ((hB.alloc (Nat.le_trans hBb hbase) _).grown h3 (by simp; omega) ?_) h3
    intro k hk
    rcases hown.2 with ⟨rfl, _⟩ | ⟨g, cap, cur, rfl, hg, _⟩
    · simp [Value.ownBlock] at hk
    · simp [Value.ownBlock] at hk; omega
theorem cell_gr {w w' : World} {own : Option Nat} {a : Addr} {v : Value} (hg : w.grownBy w' own) (h : w.cell? a = some v) (hne : own ≠ some a.block) : w'.cell? a = some v := by
  have hb := hg.block a.block (World.block_lt_of_cell? _ _ h) (Ne.symm hne)
  rw [← h]
  unfold World.cell?
  simp only [hb]
set_option maxRecDepth 100000 in
set_option maxHeartbeats 8000000 in
theorem layerOn_c (a a' : Option Addr) (c c' : Nat) (xs : List Mk) (ys : List En) (w : World) (hs : SlF Mk.cells w a xs) (hs' : SlF En.cells w a' ys) (hx : xs.length ≤ maxLen) (hy : ys.length ≤ maxLen) (hz : ∀ e ∈ xs, e.p.size ≤ 2000000 ∧ e.x.size ≤ 2000000) (hz' : ∀ e ∈ ys, e.p.size ≤ 2000000 ∧ e.x.size ≤ 2000000) :
    Calls Tryz.prog 17 #[.slice a xs.length c, .slice a' ys.length c'] w (MadeEb (lonL (xs.map Mk.pl) (ys.map En.pl)) (lonB (xs.map Mk.pl) (ys.map En.pl)) w) := by
  have HE := eltEn
  have hm2 : (2000000 : Nat) ≤ maxLen := by unfold maxLen; omega
  have hb := Below.refl w.heap.size w
  obtain ⟨r, hr⟩ := lok_dec xs
  obtain ⟨r', hr'⟩ := tok_dec ys
  have HT := Lib.hid (layerOk_c a c xs r (Lib.hid hr) w hs hx hz)
  have HT' := Lib.hid (fun W (h : SlF En.cells W a' ys) => treeOk_c a' c' ys r' (Lib.hid hr') W h hy (fun e he => ⟨Nat.le_trans (hz' e he).1 hm2, Nat.le_trans (hz' e he).2 hm2⟩))
  obtain ⟨L, hL⟩ : ∃ L, lonL (xs.map Mk.pl) (ys.map En.pl) = L := ⟨_, rfl⟩
  obtain ⟨B, hB⟩ : ∃ B, lonB (xs.map Mk.pl) (ys.map En.pl) = B := ⟨_, rfl⟩
  have hbd : ¬ (r = true ∧ r' = true) → B = false := fun h => by rw [← hB]; exact lon_bad fun h' => h ⟨hr.2 h'.1, hr'.2 h'.2⟩
  have HBD := Lib.hid hbd
  have HLD : Hid (¬ (r = true ∧ r' = true) → [] = L) := fun h => by rw [← hL]; unfold lonL; rw [hB, hbd h]; rfl
  rw [hL, hB]
  have HR := Lib.hid hr
  have HR' := Lib.hid hr'
  have HS := Lib.hid hs
  have HS' := Lib.hid hs'
  have HLL := Lib.hid hL
  have HBB := Lib.hid hB
  have HZ := Lib.hid hz
  have HZ' := Lib.hid hz'
  have GA := fun (q : ByteArray) (o : Option Mk) (ho : Hid (getM xs q = o)) W (h : SlF Mk.cells W a xs) => Lib.hid (markAt_c a c xs q o ho W h hx)
  have GH := fun (q : ByteArray) (hq : q.size ≤ 2000000) (r : Bool) (hr : Hid (hidesL (xs.map Mk.pl) q.data.toList = r)) W (h : SlF Mk.cells W a xs) => Lib.hid (hides_c a c xs q r hr W h hx hq hz)
  obtain ⟨n, hn⟩ : ∃ n, xs.length = n := ⟨_, rfl⟩
  obtain ⟨n', hn'⟩ : ∃ n, ys.length = n := ⟨_, rfl⟩
  have HN := Lib.hid hn
  have HN' := Lib.hid hn'
  have HALL : Hid (xs.take n = xs) := by rw [Hid, ← hn, List.take_length]
  have HALL' : Hid (ys.take n' = ys) := by rw [Hid, ← hn', List.take_length]
  rw [hn] at HT GA GH ⊢
  rw [hn'] at HT' ⊢
  have HGA := Lib.hid GA
  have HGH := Lib.hid GH
  clear hr hr' hs hs' hL hB hbd hz hz' hn hn' GA GH hm2
  cases r with
  | false =>
    go_enter Tryz.func17, Tryz.ntmps17
    go_wp2_with fail
    refine (HT.out).mono ?_; rintro e W ⟨rfl, hq⟩; replace hb := chn hb hq; clear hq
    go_wp2
    refine bodyPost_ret (v := .tuple #[.slice none 0 0, .bool false]) (by simp [results, Tryz.results17, go_sem]) rfl ⟨none, 0, [], by rw [HBD.out (by simp)]; rfl, HLD.out (by simp), World.ownsRow_nil _ _ _ _, hb⟩
  | true =>
  cases r' with
  | false =>
    go_enter Tryz.func17, Tryz.ntmps17
    go_wp2_with fail
    refine (HT.out).mono ?_; rintro e W ⟨rfl, hq⟩; replace hb := chn hb hq; clear hq
    go_wp2_with fail
    refine (HT'.out _ (HS'.out.below hb)).mono ?_; rintro e W ⟨rfl, hq⟩; replace hb := chn hb hq; clear hq
    go_wp2
    refine bodyPost_ret (v := .tuple #[.slice none 0 0, .bool false]) (by simp [results, Tryz.results17, go_sem]) rfl ⟨none, 0, [], by rw [HBD.out (by simp)]; rfl, HLD.out (by simp), World.ownsRow_nil _ _ _ _, hb⟩
  | true =>
    have HLX := Lib.hid (HR.out.1 rfl)
    have HTY := Lib.hid (HR'.out.1 rfl)
    have hx32 : n ≤ 32 := by have := HLX.out.most; rw [List.length_map, HN.out] at this; exact this
    have hy16 : n' ≤ 16 := by have := HTY.out.most; rw [List.length_map, HN'.out] at this; exact this
    clear HR HR' HBD HLD hx hy
    go_enter Tryz.func17, Tryz.ntmps17
    go_wp2_with fail
    refine (HT.out).mono ?_; rintro e W ⟨rfl, hq⟩; replace hb := chn hb hq; clear hq
    go_wp2_with fail
    refine (HT'.out _ (HS'.out.below hb)).mono ?_; rintro e W ⟨rfl, hq⟩; replace hb := chn hb hq; clear hq
    have HB0 := Lib.hid hb
    clear hb
    go_wp2
    go_loopw [6, 23] (fun v i wr => ∃ (k : Nat) (ms : List En), k ≤ n' ∧ ms.length ≤ k ∧ i = .int .i64 k ∧ ms.map En.pl = keptT (xs.map Mk.pl) ((ys.take k).map En.pl) ∧ wr.ownsRow w.heap.size 52 3 v ms.length (ms.flatMap En.cells) ∧ Below w.heap.size w wr) (fun _ i _ => n' - (intOf i).toNat)
    case atStart => exact ⟨0, [], Nat.zero_le _, Nat.zero_le _, rfl, rfl, World.ownsRow_nil _ _ _ _, HB0.out⟩
    case round =>
      obtain ⟨k, ms, hk, hml, rfl, hms, hown, hb⟩ := hrel
      have HMS := Lib.hid hms
      clear hms
      by_cases hlt : k < n'
      · obtain ⟨e, hee⟩ : ∃ e, ys[k]? = some e := ⟨_, List.getElem?_eq_getElem (by rw [HN'.out]; exact hlt)⟩
        have hzz := HZ'.out e (List.mem_of_getElem? hee)
        have hsx := HS.out.below hb
        have hsy := HS'.out.below hb
        obtain ⟨b', off', rfl, _⟩ := hsy.addr (by rw [HN'.out]; omega)
        obtain ⟨d0, d1, d2⟩ := en_at hsy k e hee
        have HSN : Hid (keptT (xs.map Mk.pl) ((ys.take (k + 1)).map En.pl) = keptT (xs.map Mk.pl) ((ys.take k).map En.pl) ++ if ((getM xs e.p).map Mk.pl).isNone && !hidesL (xs.map Mk.pl) e.p.data.toList then [e.pl] else []) := by
          rw [Hid, take_pl ys k e hee, keptT_snoc]; show _ ++ (if (atP PM.p (xs.map Mk.pl) e.p.data.toList).isNone && _ then _ else _) = _; rw [getM_pl]; rfl
        obtain ⟨o, ho⟩ : ∃ o, Hid (getM xs e.p = o) := ⟨_, rfl⟩
        obtain ⟨r, hr⟩ : ∃ r, Hid (hidesL (xs.map Mk.pl) e.p.data.toList = r) := ⟨_, rfl⟩
        rw [ho.out, hr.out] at HSN
        obtain ⟨ep, ed, ex⟩ := e
        clear hee
        have i0 : (0 : Int) ≤ (k : Int) := by omega
        have i1 : (k : Int) < (n' : Int) := by omega
        have q0 := new_cell wr #[.string ep, .bool ed, .string ex] 52 0 (.string ep) rfl
        have q1 := new_cell wr #[.string ep, .bool ed, .string ex] 52 1 (.bool ed) rfl
        have q2 := new_cell wr #[.string ep, .bool ed, .string ex] 52 2 (.string ex) rfl
        replace hown := own_below hown (bellow_alloc wr (.cells #[.string ep, .bool ed, .string ex] 52))
        replace hb := hb.alloc hb.size (.cells #[.string ep, .bool ed, .string ex] 52); replace hsx := SlF.below hsx (bellow_alloc _ (.cells #[.string ep, .bool ed, .string ex] 52)); replace hsy := SlF.below hsy (bellow_alloc _ (.cells #[.string ep, .bool ed, .string ex] 52)); 
        cases o with
        | some u =>
          have HSM : Hid (ms.map En.pl = keptT (xs.map Mk.pl) ((ys.take (k + 1)).map En.pl)) := by rw [Hid, HSN.out, HMS.out]; simp
          go_wp2_with fail
          refine ((HGA.out ep (some u) ho _ hsx).out).mono ?_; rintro e W ⟨rfl, hq⟩; replace hb := chn hb hq; replace hsx := SlF.below hsx hq; replace hsy := SlF.below hsy hq; replace hown := own_below hown hq; clear hq
          go_wp2
          go_roundw
          case rel => exact ⟨k + 1, ms, by omega, by omega, by go_num, HSM.out, own_below hown (bellow_alloc _ _), hb.alloc hb.size _⟩
          case measure => simp [intOf]; omega
        | none =>
          go_wp2_with fail
          refine ((HGA.out ep none ho _ hsx).out).mono ?_; rintro e W ⟨rfl, hq⟩; replace hb := chn hb hq; replace hsx := SlF.below hsx hq; replace hsy := SlF.below hsy hq; replace hown := own_below hown hq; replace q0 := keepc hq q0; replace q1 := keepc hq q1; replace q2 := keepc hq q2; clear hq
          replace hown := own_below hown (bellow_alloc W (.cells #[.string ⟨#[]⟩, .int .i64 0, .string ⟨#[]⟩] 65))
          replace hb := hb.alloc hb.size (.cells #[.string ⟨#[]⟩, .int .i64 0, .string ⟨#[]⟩] 65); replace hsx := SlF.below hsx (bellow_alloc _ (.cells #[.string ⟨#[]⟩, .int .i64 0, .string ⟨#[]⟩] 65)); replace hsy := SlF.below hsy (bellow_alloc _ (.cells #[.string ⟨#[]⟩, .int .i64 0, .string ⟨#[]⟩] 65)); replace q0 := keepc (bellow_alloc _ (.cells #[.string ⟨#[]⟩, .int .i64 0, .string ⟨#[]⟩] 65)) q0; replace q1 := keepc (bellow_alloc _ (.cells #[.string ⟨#[]⟩, .int .i64 0, .string ⟨#[]⟩] 65)) q1; replace q2 := keepc (bellow_alloc _ (.cells #[.string ⟨#[]⟩, .int .i64 0, .string ⟨#[]⟩] 65)) q2; 
          go_wp2_with fail
          refine ((HGH.out ep hzz.1 r hr _ hsx).out).mono ?_; rintro e W ⟨rfl, hq⟩; replace hb := chn hb hq; replace hsx := SlF.below hsx hq; replace hsy := SlF.below hsy hq; replace hown := own_below hown hq; replace q0 := keepc hq q0; replace q1 := keepc hq q1; replace q2 := keepc hq q2; clear hq
          cases r with
          | true =>
            have HSM : Hid (ms.map En.pl = keptT (xs.map Mk.pl) ((ys.take (k + 1)).map En.pl)) := by rw [Hid, HSN.out, HMS.out]; simp
            go_wp2
            go_roundw
            case rel => exact ⟨k + 1, ms, by omega, by omega, by go_num, HSM.out, hown, hb⟩
            case measure => simp [intOf]; omega
          | false =>
            have HSM : Hid ((ms ++ [(⟨ep, ed, ex⟩ : En)]).map En.pl = keptT (xs.map Mk.pl) ((ys.take (k + 1)).map En.pl)) := by rw [Hid, HSN.out, List.map_append, HMS.out]; simp
            go_wp2_with (at_builtin; go_must (refine wp_app1 (by rfl) _ _ 27 (by rfl) HE w.heap.size w.heap.size w _ #[.string ep, .bool ed, .string ex] _ _ _ (by rfl) (by rfl) hown (by rfl) (by simp [Value.oneCell']) (by omega) hb.size hb (Nat.le_refl _) ?_); intro v' w1 hown1 hbel1 _ _)
            go_roundw
            case rel => exact ⟨k + 1, ms ++ [⟨ep, ed, ex⟩], by omega, by simp; omega, by go_num, HSM.out, by rw [← flat_app]; simpa using hown1, hbel1⟩
            case measure => simp [intOf]; omega
      · obtain rfl : k = n' := by omega
        have HMK : Hid (ms.map En.pl = keptT (xs.map Mk.pl) (ys.map En.pl)) := by rw [Hid, HMS.out, HALL'.out]
        have HOWN := Lib.hid hown
        have HBK := Lib.hid hb
        have HML := Lib.hid hml
        clear hown hb hml HMS
        go_wp2
        go_loopw [6, 50] (fun v i wr => ∃ (j : Nat) (ns : List En), j ≤ n ∧ ns.length ≤ 16 + j ∧ i = .int .i64 j ∧ ns.map En.pl = keptT (xs.map Mk.pl) (ys.map En.pl) ++ (((xs.take j).map Mk.pl).filter fun m => decide (m.k ≠ 3)).map toE ∧ wr.ownsRow w.heap.size 52 3 v ns.length (ns.flatMap En.cells) ∧ Below w.heap.size w wr) (fun _ i _ => n - (intOf i).toNat)
        case atStart => exact ⟨0, ms, Nat.zero_le _, by have := HML.out; omega, rfl, by rw [HMK.out]; simp, HOWN.out, HBK.out⟩
        case round =>
          obtain ⟨j, ns, hj, hnl, rfl, hns, hown, hb⟩ := hrel
          have HNS := Lib.hid hns
          clear hns
          by_cases hlt2 : j < n
          · obtain ⟨e, hee⟩ : ∃ e, xs[j]? = some e := ⟨_, List.getElem?_eq_getElem (by rw [HN.out]; exact hlt2)⟩
            have hsx := HS.out.below hb
            obtain ⟨b, off, rfl, _⟩ := hsx.addr (by rw [HN.out]; omega)
            obtain ⟨d0, d1, d2⟩ := mk_at hsx j e hee
            have HSN := Lib.hid (on_snoc xs j e hee _ ns HNS.out)
            obtain ⟨r, hr⟩ : ∃ r, dirM e.pl = r := ⟨_, rfl⟩
            have HRR := Lib.hid hr
            obtain ⟨ep, ek, ex⟩ := e
            have i0 : (0 : Int) ≤ (j : Int) := by omega
            have i1 : (j : Int) < (n : Int) := by omega
            have q0 := new_cell wr #[.string ep, .int .i64 ek, .string ex] 65 0 (.string ep) rfl
            have q1 := new_cell wr #[.string ep, .int .i64 ek, .string ex] 65 1 (.int .i64 ek) rfl
            have q2 := new_cell wr #[.string ep, .int .i64 ek, .string ex] 65 2 (.string ex) rfl
            clear hee
            by_cases h3 : ek = 3
            · have n3 : (ek != 3) = false := by simp [h3]
              have HSM : Hid (ns.map En.pl = keptT (xs.map Mk.pl) (ys.map En.pl) ++ (((xs.take (j + 1)).map Mk.pl).filter fun m => decide (m.k ≠ 3)).map toE) := by
                have h := HSN.out; unfold onMk at h; rw [if_pos h3, Option.toList_none, List.append_nil] at h; exact h
              clear h3 hr
              go_wp2
              go_roundw
              case rel => exact ⟨j + 1, ns, by omega, by omega, by go_num, HSM.out, own_below hown (bellow_alloc _ _), hb.alloc hb.size _⟩
              case measure => simp [intOf]; omega
            · have n3 : (ek != 3) = true := by rw [bne_iff_ne]; exact h3
              have HSM : Hid ((ns ++ [(⟨ep, r, ex⟩ : En)]).map En.pl = keptT (xs.map Mk.pl) (ys.map En.pl) ++ (((xs.take (j + 1)).map Mk.pl).filter fun m => decide (m.k ≠ 3)).map toE) := by
                have h := HSN.out; unfold onMk at h; rw [if_neg h3, hr] at h; exact h
              obtain ⟨v1, v2, rfl⟩ := own_shape hown
              have HNE : Hid ((Value.slice v1 ns.length v2).ownBlock ≠ some wr.heap.size) := fun h => Nat.lt_irrefl _ (hown.lt _ h).2
              replace hown := own_below hown (bellow_alloc wr (.cells #[.string ep, .int .i64 ek, .string ex] 65))
              replace hb := hb.alloc hb.size (.cells #[.string ep, .int .i64 ek, .string ex] 65); 
              clear h3 hr hsx
              go_wp2_with fail
              refine wp_region_held_drew (S := fun w' => w'.cell? ⟨wr.heap.size, 0, none⟩ = some (.string ep) ∧ w'.cell? ⟨wr.heap.size, 1, none⟩ = some (.int .i64 ek) ∧ w'.cell? ⟨wr.heap.size, 2, none⟩ = some (.string ex)) (by kernel_rfl) (⟨keepc (below_drew _) q0, keepc (below_drew _) q1, keepc (below_drew _) q2⟩) (fun hHeld => ?_)
              refine tk (i := 0) (d := (some 57)) (v := ?_) rfl rfl (by kernel_rfl) (by kernel_rfl) (by kernel_rfl) (fun _ _ _ h => h) (Or.inl ⟨by rfl, ?_⟩) hHeld ?_
              rotate_left
              · intro w hSw; obtain ⟨z0, z1, z2⟩ := hSw; go_simp <;> with_reducible rfl
              (try simp only [Act.put, List.setIfInBounds_toArray, List.set_cons_zero, List.set_cons_succ])
              refine tk (i := 1) (d := (some 58)) (v := ?_) rfl rfl (by kernel_rfl) (by kernel_rfl) (by kernel_rfl) (fun _ _ _ h => h) (Or.inl ⟨by rfl, ?_⟩) hHeld ?_
              rotate_left
              · intro w hSw; obtain ⟨z0, z1, z2⟩ := hSw; go_simp <;> with_reducible rfl
              (try simp only [Act.put, List.setIfInBounds_toArray, List.set_cons_zero, List.set_cons_succ])
              refine tk (i := 2) (d := (some 59)) (v := ?_) rfl rfl (by kernel_rfl) (by kernel_rfl) (by kernel_rfl) (fun _ _ _ h => h) (Or.inl ⟨by rfl, ?_⟩) hHeld ?_
              rotate_left
              · intro w hSw; obtain ⟨z0, z1, z2⟩ := hSw; go_simp <;> with_reducible rfl
              (try simp only [Act.put, List.setIfInBounds_toArray, List.set_cons_zero, List.set_cons_succ])
              refine tk (i := 3) (d := (some 60)) (v := ?_) rfl rfl (by kernel_rfl) (by kernel_rfl) (by kernel_rfl) (fun _ _ _ h => h) (Or.inl ⟨by rfl, ?_⟩) hHeld ?_
              rotate_left
              · intro w hSw; obtain ⟨z0, z1, z2⟩ := hSw; go_simp <;> with_reducible rfl
              (try simp only [Act.put, List.setIfInBounds_toArray, List.set_cons_zero, List.set_cons_succ])
              refine tk (i := 5) (d := (some 62)) (v := ?_) rfl rfl (by kernel_rfl) (by kernel_rfl) (by kernel_rfl) (fun _ _ _ h => h) (Or.inl ⟨by rfl, ?_⟩) hHeld ?_
              rotate_left
              · intro w hSw; obtain ⟨z0, z1, z2⟩ := hSw; go_simp <;> with_reducible rfl
              (try simp only [Act.put, List.setIfInBounds_toArray, List.set_cons_zero, List.set_cons_succ])
              refine tk (i := 6) (d := (some 63)) (v := ?_) rfl rfl (by kernel_rfl) (by kernel_rfl) (by kernel_rfl) (fun _ _ _ h => h) (Or.inl ⟨by rfl, ?_⟩) hHeld ?_
              rotate_left
              · intro w hSw; obtain ⟨z0, z1, z2⟩ := hSw; go_simp <;> with_reducible rfl
              (try simp only [Act.put, List.setIfInBounds_toArray, List.set_cons_zero, List.set_cons_succ])
              refine wpAnyH_ready (rs := [4]) (by kernel_rfl) (by simp) ?_
              refine AllReadyH.cons rfl (fun K hK => ?_) AllReadyH.nil
              go_simp
              refine (isDir_c ⟨ep, ek, ex⟩ r HRR _).mono ?_; rintro e W ⟨rfl,hq⟩
              go_simp
              refine hK.out _ _ (⟨keepc hq hHeld.1, keepc hq hHeld.2.1, keepc hq hHeld.2.2⟩) (fun h => ?_)
              clear hK K; replace hHeld := h; clear h
              (try simp only [Act.put, List.setIfInBounds_toArray, List.set_cons_zero, List.set_cons_succ])
              have hb2 := chn hb ((below_drew _).trans hq)
              have how2 := own_below (own_below hown (below_drew _)) hq
              refine tk (i := 7) (d := (some 64)) (v := ?_) rfl rfl (by kernel_rfl) (by kernel_rfl) (by kernel_rfl) (fun _ _ _ h => h) (Or.inl ⟨by rfl, ?_⟩) hHeld ?_
              rotate_left
              · intro w hSw; obtain ⟨z0, z1, z2⟩ := hSw; go_simp <;> with_reducible rfl
              (try simp only [Act.put, List.setIfInBounds_toArray, List.set_cons_zero, List.set_cons_succ])
              refine wpAnyH_ready (rs := [8]) (by kernel_rfl) (by simp) ?_
              refine AllReadyH.cons rfl (fun K hK => ?_) AllReadyH.nil
              go_simp
              refine hK.out _ _ (⟨keepc (bellow_alloc _ _) hHeld.1, keepc (bellow_alloc _ _) hHeld.2.1, keepc (bellow_alloc _ _) hHeld.2.2⟩) (fun h => ?_)
              clear hK K; replace hHeld := h; clear h
              (try simp only [Act.put, List.setIfInBounds_toArray, List.set_cons_zero, List.set_cons_succ])
              refine wpAnyH_ready (rs := [9]) (by kernel_rfl) (by simp) ?_
              refine AllReadyH.cons rfl (fun K hK => ?_) AllReadyH.nil
              rw [if_pos (by kernel_rfl)]
              refine op_app1 _ _ 27 (by rfl) HE w.heap.size w.heap.size w _ #[.string ep, .bool r, .string ex] _ _ _ (by rfl) (by rfl) how2 (by rfl) (by simp [Value.oneCell']) (by omega) hb2.size hb2 (Nat.le_refl _) ?_; intro v' w1 hown1 hbel1 hgr
              refine hK.out _ _ (⟨cell_gr hgr hHeld.1 HNE.out, cell_gr hgr hHeld.2.1 HNE.out, cell_gr hgr hHeld.2.2 HNE.out⟩) (fun h => ?_)
              clear hK K; replace hHeld := h; clear h
              (try simp only [Act.put, List.setIfInBounds_toArray, List.set_cons_zero, List.set_cons_succ])
              refine tk (i := 10) (d := (some 6)) (v := ?_) rfl rfl (by kernel_rfl) (by kernel_rfl) (by kernel_rfl) (fun _ _ _ h => h) (Or.inl ⟨by rfl, ?_⟩) hHeld ?_
              rotate_left
              · intro w hSw; obtain ⟨z0, z1, z2⟩ := hSw; go_simp <;> with_reducible rfl
              (try simp only [Act.put, List.setIfInBounds_toArray, List.set_cons_zero, List.set_cons_succ])
              refine wpAnyH_done (by kernel_rfl) ?_ _
              go_wp2
              go_roundw
              case rel => exact ⟨j + 1, ns ++ [⟨ep, r, ex⟩], by omega, by simp; omega, by go_num, HSM.out, by rw [← flat_app]; simpa using hown1, hbel1⟩
              case measure => simp [intOf]; omega
          · obtain rfl : j = n := by omega
            have HRAW : Hid (ns.map En.pl = onRaw (xs.map Mk.pl) (ys.map En.pl)) := by rw [Hid, HNS.out, HALL.out]; rfl
            have HLEN : Hid (ns.length = (onL (xs.map Mk.pl) (ys.map En.pl)).length) := by
              rw [Hid, ← on_raw_len HLX.out.ord HTY.out.ordP, ← HRAW.out, List.length_map]
            have HBE : Hid (decide (ns.length ≤ 16) = B) := by rw [Hid, ← HBB.out, lon_ok HLX.out HTY.out, HLEN.out]
            by_cases h16 : 16 < ns.length
            · have hg : (16 : Int) < (ns.length : Int) := by omega
              obtain rfl : B = false := by rw [← HBE.out, decide_eq_false_iff_not]; omega
              have HL0 : Hid ([] = L) := by rw [Hid, ← HLL.out]; unfold lonL; rw [HBB.out]; rfl
              obtain ⟨v1, v2, rfl⟩ := own_shape hown
              go_wp2
              refine bodyPost_ret (v := .tuple #[.slice none 0 0, .bool false]) (by simp [results, Tryz.results17, go_sem]) rfl ⟨none, 0, [], rfl, HL0.out, World.ownsRow_nil _ _ _ _, hb⟩
            · have hg : decide ((16 : Int) < (ns.length : Int)) = false := by rw [decide_eq_false_iff_not]; omega
              obtain rfl : B = true := by rw [← HBE.out, decide_eq_true_iff]; omega
              have HL1 : Hid (onL (xs.map Mk.pl) (ys.map En.pl) = L) := by rw [Hid, ← HLL.out]; unfold lonL; rw [HBB.out]; rfl
              obtain ⟨v1, v2, rfl⟩ := own_shape hown
              go_wp2_with fail
              refine (sortEn_c _ w.heap.size v1 v2 ns hown (by omega)).mono ?_; rintro e W2 ⟨rfl, zs, hp, hso, _, hz2, hq⟩
              have hzl : ns.length = zs.length := hp.length_eq.symm
              have HEQ : Hid (zs.map En.pl = L) := by
                rw [Hid, ← HL1.out]
                refine on_of_raw HLX.out.ord HTY.out.ordP (by rw [← HRAW.out]; exact hp.map _) ?_
                rw [List.pairwise_map]
                exact hso
              go_wp2
              refine bodyPost_ret (v := .tuple #[.slice v1 zs.length v2, .bool true]) (by simp [results, Tryz.results17, go_sem]) rfl ⟨v1, v2, zs, rfl, HEQ.out, hz2, hb.trans hq⟩
end Go.Proofs.YtnmjidjhloodbaaGreatDoor
namespace Go.Proofs.YtnmjidjhloodbaaGreatDoor
open Go.RowKit
theorem upM_tk (xs : List Mk) (k : Nat) (q : Bs) : upM ((xs.map Mk.pl).take k) q = upM ((xs.take k).map Mk.pl) q := by rw [List.map_take]
/-- The marks so far are at paths. -/
theorem path_tk {xs : List Mk} {k : Nat} (h : ∀ (j : Nat) (e : Mk), j < k → xs[j]? = some e → MAskR xs j e) : ∀ m ∈ (xs.take k).map Mk.pl, pathOkL m.p = true := by
  intro m hm
  obtain ⟨e, he, rfl⟩ := List.mem_map.1 hm
  obtain ⟨j, hj⟩ := List.getElem?_of_mem he
  rw [List.getElem?_take] at hj
  split at hj
  · next hjk => exact markOk_path (h j e hjk hj).1
  · cases hj
set_option maxRecDepth 100000 in
set_option maxHeartbeats 8000000 in
theorem sLayerOk_c (a : Option Addr) (c : Nat) (xs : List Mk) (r : Bool) (hr : Hid (r = true ↔ LOk (xs.map Mk.pl))) (w : World) (hs : SlF Mk.cells w a xs) (hx : xs.length ≤ maxLen) (hc : xs.length ≤ c) (hz : ∀ e ∈ xs, e.p.size ≤ 2000000 ∧ e.x.size ≤ 2000000) :
    Calls Tryz.prog 34 #[.slice a xs.length c] w fun q w' => q = .returned (.bool r) ∧ Below w.heap.size w w' := by
  have hR : Hid (r = true ↔ xs.length ≤ 32 ∧ ∀ (k : Nat) (e : Mk), xs[k]? = some e → MAskR xs k e) := by rw [Hid, hr.out, lok_R]
  have HIN0 := fun (k : Nat) (hk : k ≤ xs.length) (q : ByteArray) (hq : q.size ≤ maxLen) (u : Bool) (hu : Hid (upM ((xs.take k).map Mk.pl) q.data.toList = u)) (W : World) (h : SlF Mk.cells W a xs) => Lib.hid ((by
      have h1 := l3In_c a c (xs.take k) q u hu W (h.take k) (by rw [List.length_take]; omega) hq
      rw [List.length_take, Nat.min_eq_left hk] at h1
      exact h1) : Calls Tryz.prog 66 #[.slice a k c, .string q] W fun e w' => e = .returned (.bool u) ∧ Below W.heap.size W w')
  have HBR0 := fun (k : Nat) (hk : k ≤ xs.length) (q : ByteArray) (hq : q.size ≤ 2000000) (u : Bool) (hu : Hid (((xs.take k).map Mk.pl).any (bareQ q.data.toList) = u)) (W : World) (h : SlF Mk.cells W a xs) => Lib.hid ((by
      have h1 := l3Bare_c a c (xs.take k) q u hu W (h.take k) (by rw [List.length_take]; omega) hq (fun e he => hz e (List.mem_of_mem_take he))
      rw [List.length_take, Nat.min_eq_left hk] at h1
      exact h1) : Calls Tryz.prog 67 #[.slice a k c, .string q] W fun e w' => e = .returned (.bool u) ∧ Below W.heap.size W w')
  have HZ := Lib.hid hz
  have HS := Lib.hid hs
  obtain ⟨n, hn⟩ : ∃ n, xs.length = n := ⟨_, rfl⟩
  have HN := Lib.hid hn
  rw [hn] at hR hx hc HIN0 HBR0 ⊢
  unfold maxLen at hx
  have GIN0 := Lib.hid HIN0
  have GBR0 := Lib.hid HBR0
  clear hn hz hs hr HIN0 HBR0
  have hno : Hid (∀ (k : Nat) (e : Mk), xs[k]? = some e → ¬ MAskR xs k e → r = false) := fun k e he hne => by
    cases r
    · rfl
    · exact absurd ((hR.out.1 rfl).2 k e he) hne
  go_enter Tryz.func34, Tryz.ntmps34
  go_wp2
  go_loopw [3, 4] (fun i _ wr => ∃ k : Nat, k ≤ n ∧ i = .int .i64 k ∧ (∀ (j : Nat) (e : Mk), j < k → xs[j]? = some e → MAskR xs j e) ∧ Below w.heap.size w wr) (fun i _ _ => n - (intOf i).toNat)
  case atStart => exact ⟨0, Nat.zero_le _, rfl, fun j _ h => absurd h (by omega), Below.refl _ _⟩
  case round =>
    obtain ⟨k, hk, rfl, hall, hb⟩ := hrel
    have HA := Lib.hid hall
    clear hall
    by_cases hlt : k < n
    · obtain ⟨e, hee⟩ : ∃ e, xs[k]? = some e := ⟨_, List.getElem?_eq_getElem (by rw [HN.out]; exact hlt)⟩
      have h2 := (HS.out.below hb)
      obtain ⟨b, off, rfl, _⟩ := h2.addr (by rw [HN.out]; omega)
      obtain ⟨d0, d1, d2⟩ := mk_at h2 k e hee
      have hzz := HZ.out e (List.mem_of_getElem? hee)
      have HNO := Lib.hid (fun h => hno.out k e hee h)
      have HEE := Lib.hid hee
      have h3 := h2
      clear h2 hee
      obtain ⟨ep, ek, ex⟩ := e
      have hz1 : ep.size ≤ maxLen := Nat.le_trans hzz.1 (by unfold maxLen; omega)
      have hz2 : ex.size ≤ maxLen := Nat.le_trans hzz.2 (by unfold maxLen; omega)
      have HZ1 := Lib.hid hz1
      have HZ2 := Lib.hid hz2
      have GIN := Lib.hid (fun u hu => GIN0.out k hk ep hz1 u hu)
      have GBR := Lib.hid (fun u hu => GBR0.out k hk ep hzz.1 u hu)
      have HRM : Hid (markOkL (Mk.pl ⟨ep, ek, ex⟩) = (decide (1 ≤ ek) && decide (ek ≤ 4) && pathOkL ep.data.toList && dataOkL ex.data.toList && (decide (ek = 1) || ex.data.toList == []))) := rfl
      clear hzz hz1 hz2
      have c0 := new_cell wr #[.string ep, .int .i64 ek, .string ex] 65 0 _ rfl
      have c1 := new_cell wr #[.string ep, .int .i64 ek, .string ex] 65 1 _ rfl
      have c2 := new_cell wr #[.string ep, .int .i64 ek, .string ex] 65 2 _ rfl
      replace hb := hb.alloc hb.size (.cells #[.string ep, .int .i64 ek, .string ex] 65)
      have HNM := Lib.hid (fun (h : markOkL (Mk.pl ⟨ep, ek, ex⟩) = false) => HNO.out (fun h' => by have := h'.1; rw [h] at this; cases this))
      by_cases klo : ek < 1
      · obtain rfl : r = false := HNM.out (by rw [HRM.out, decide_eq_false (p := 1 ≤ ek) (by omega)]; rfl)
        go_wp2
        go_ret
        exact ⟨rfl, by repeat (first | exact hb | refine Below.alloc ?_ (by have := hb.size; simp; try omega) _)⟩
      by_cases khi : 4 < ek
      · obtain rfl : r = false := HNM.out (by rw [HRM.out, decide_eq_false (p := ek ≤ 4) (by omega), Bool.and_false]; rfl)
        go_wp2
        go_ret
        exact ⟨rfl, by repeat (first | exact hb | refine Below.alloc ?_ (by have := hb.size; simp; try omega) _)⟩
      have h4 : decide (4 < ek) = false := by simp; omega
      have HRM2 : Hid (markOkL (Mk.pl ⟨ep, ek, ex⟩) = (pathOkL ep.data.toList && dataOkL ex.data.toList && (decide (ek = 1) || ex.data.toList == []))) := by rw [Hid, HRM.out, decide_eq_true (p := 1 ≤ ek) (by omega), decide_eq_true (p := ek ≤ 4) (by omega)]; rfl
      clear HRM
      obtain ⟨p1, hp1⟩ : ∃ x, pathOkL ep.data.toList = x := ⟨_, rfl⟩
      have HP1 := Lib.hid hp1
      clear hp1
      cases p1 with
      | false =>
        obtain rfl : r = false := HNM.out (by rw [HRM2.out, HP1.out]; rfl)
        go_wp2_with fail
        refine (sPathOk_c ep false HP1 _ HZ1.out).mono ?_; rintro e W ⟨rfl, hq⟩; replace hb := chn hb hq; replace c0 := keepc hq c0; replace c1 := keepc hq c1; replace c2 := keepc hq c2; clear hq
        go_wp2
        go_ret
        exact ⟨rfl, by repeat (first | exact hb | refine Below.alloc ?_ (by have := hb.size; simp; try omega) _)⟩
      | true =>
      obtain ⟨p2, hp2⟩ : ∃ x, dataOkL ex.data.toList = x := ⟨_, rfl⟩
      have HP2 := Lib.hid hp2
      clear hp2
      cases p2 with
      | false =>
        obtain rfl : r = false := HNM.out (by rw [HRM2.out, HP1.out, HP2.out]; rfl)
        go_wp2_with fail
        refine (sPathOk_c ep true HP1 _ HZ1.out).mono ?_; rintro e W ⟨rfl, hq⟩; replace hb := chn hb hq; replace c0 := keepc hq c0; replace c1 := keepc hq c1; replace c2 := keepc hq c2; clear hq
        go_wp2_with fail
        refine (l2Data_c ex false HP2 _ HZ2.out).mono ?_; rintro e' W' ⟨rfl, rfl⟩
        go_wp2
        go_ret
        exact ⟨rfl, by repeat (first | exact hb | refine Below.alloc ?_ (by have := hb.size; simp; try omega) _)⟩
      | true =>
      have HRM3 : Hid (markOkL (Mk.pl ⟨ep, ek, ex⟩) = (decide (ek = 1) || ex.data.toList == [])) := by rw [Hid, HRM2.out, HP1.out, HP2.out]; rfl
      clear HRM2
      by_cases hxx : ek ≠ 1 ∧ ex.data.toList ≠ []
      · obtain rfl : r = false := HNM.out (by rw [HRM3.out, beqE_no hxx.2, decide_eq_false hxx.1]; rfl)
        have n1 : (ek != 1) = true := by rw [bne_iff_ne]; exact hxx.1
        have q1 := isE_no hxx.2
        clear hxx
        go_wp2_with fail
        refine (sPathOk_c ep true HP1 _ HZ1.out).mono ?_; rintro e W ⟨rfl, hq⟩; replace hb := chn hb hq; replace c0 := keepc hq c0; replace c1 := keepc hq c1; replace c2 := keepc hq c2; clear hq
        go_wp2_with fail
        refine (l2Data_c ex true HP2 _ HZ2.out).mono ?_; rintro e' W' ⟨rfl, rfl⟩
        go_wp2
        go_ret
        exact ⟨rfl, by repeat (first | exact hb | refine Below.alloc ?_ (by have := hb.size; simp; try omega) _)⟩
      have HM1 : Hid (markOkL (Mk.pl ⟨ep, ek, ex⟩) = true) := by
        rw [Hid, HRM3.out, Bool.or_eq_true, decide_eq_true_eq, beq_iff_eq]
        by_cases h1 : ek = 1
        · exact .inl h1
        · exact .inr (Classical.byContradiction fun h => hxx ⟨h1, h⟩)
      have hk1 : (ek != 1) = false ∨ ((ek != 1) = true ∧ ex.toList.isEmpty = true) := by
        by_cases h1 : ek = 1
        · exact .inl (by simp [h1])
        · exact .inr ⟨by rw [bne_iff_ne]; exact h1, isE_yes (Classical.byContradiction fun h => hxx ⟨h1, h⟩)⟩
      obtain ⟨u, hu⟩ : ∃ u, upM ((xs.take k).map Mk.pl) ep.data.toList = u := ⟨_, rfl⟩
      obtain ⟨v, hv⟩ : ∃ v, ((xs.take k).map Mk.pl).any (bareQ ep.data.toList) = v := ⟨_, rfl⟩
      have HU := Lib.hid hu
      have HV := Lib.hid hv
      have HVB : Hid (bareL ((xs.map Mk.pl).take k) ep.data.toList = v) := by
        rw [Hid, ← List.map_take, ← bareQ_eq HP1.out (path_tk HA.out)]; exact hv
      clear hu hv hxx HRM3 HNM
      cases k with
      | zero =>
        rw [Nat.zero_mul, Nat.add_zero] at d0 d1 d2
        have ASK := Lib.hid (fun (h3 : upM ((xs.map Mk.pl).take 0) ep.data.toList = true) (h4 : 2 < ek → bareL ((xs.map Mk.pl).take 0) ep.data.toList = false) (j : Nat) (g : Mk) (hj : j < 0 + 1) (hg : xs[j]? = some g) => (by
          have ej : j = 0 := by omega
          subst ej
          rw [HEE.out] at hg
          injection hg with hg
          rw [← hg]
          exact ⟨HM1.out, fun _ h _ => absurd h (by omega), h3, h4⟩ : MAskR xs j g))
        clear h3
        have w4 : (0 : Int) ≤ (c : Int) := by omega
        rcases hk1 with n1 | ⟨n1, q1⟩
        all_goals
          go_wp2_with fail
          refine (sPathOk_c ep true HP1 _ HZ1.out).mono ?_; rintro e W ⟨rfl, hq⟩; replace hb := chn hb hq; replace c0 := keepc hq c0; replace c1 := keepc hq c1; replace c2 := keepc hq c2; clear hq
          go_wp2_with fail
          refine (l2Data_c ex true HP2 _ HZ2.out).mono ?_; rintro e' W' ⟨rfl, rfl⟩
          go_wp2_with fail
          refine wp_region_held_drew (S := fun w' => Below _ _ w') (by kernel_rfl) (below_drew _) (fun hHeld => ?_)
          refine tk (i := 0) (d := (some 45)) (v := ?_) rfl rfl (by kernel_rfl) (by kernel_rfl) (by kernel_rfl) (fun _ _ _ h => h) (Or.inl ⟨by rfl, ?_⟩) hHeld ?_
          rotate_left
          · intro w hSw; have zc0 := keepc hSw c0; have zc1 := keepc hSw c1; have zc2 := keepc hSw c2; clear hSw; go_simp <;> with_reducible rfl
          (try simp only [Act.put, List.setIfInBounds_toArray, List.set_cons_zero, List.set_cons_succ])
          refine tk (i := 1) (d := (some 46)) (v := ?_) rfl rfl (by kernel_rfl) (by kernel_rfl) (by kernel_rfl) (fun _ _ _ h => h) (Or.inl ⟨by rfl, ?_⟩) hHeld ?_
          rotate_left
          · intro w hSw; have zc0 := keepc hSw c0; have zc1 := keepc hSw c1; have zc2 := keepc hSw c2; clear hSw; go_simp <;> with_reducible rfl
          (try simp only [Act.put, List.setIfInBounds_toArray, List.set_cons_zero, List.set_cons_succ])
          refine tk (i := 2) (d := (some 47)) (v := ?_) rfl rfl (by kernel_rfl) (by kernel_rfl) (by kernel_rfl) (fun _ _ _ h => h) (Or.inl ⟨by rfl, ?_⟩) hHeld ?_
          rotate_left
          · intro w hSw; have zc0 := keepc hSw c0; have zc1 := keepc hSw c1; have zc2 := keepc hSw c2; clear hSw; go_simp <;> with_reducible rfl
          (try simp only [Act.put, List.setIfInBounds_toArray, List.set_cons_zero, List.set_cons_succ])
          refine tk (i := 3) (d := (some 48)) (v := undef) rfl rfl (by kernel_rfl) (by kernel_rfl) (by kernel_rfl) (fun _ _ _ h => h) (Or.inr ⟨by kernel_rfl, rfl⟩) hHeld ?_
          (try simp only [Act.put, List.setIfInBounds_toArray, List.set_cons_zero, List.set_cons_succ])
          refine tk (i := 4) (d := (some 49)) (v := undef) rfl rfl (by kernel_rfl) (by kernel_rfl) (by kernel_rfl) (fun _ _ _ h => h) (Or.inr ⟨by kernel_rfl, rfl⟩) hHeld ?_
          (try simp only [Act.put, List.setIfInBounds_toArray, List.set_cons_zero, List.set_cons_succ])
          refine tk (i := 5) (d := (some 50)) (v := undef) rfl rfl (by kernel_rfl) (by kernel_rfl) (by kernel_rfl) (fun _ _ _ h => h) (Or.inr ⟨by kernel_rfl, rfl⟩) hHeld ?_
          (try simp only [Act.put, List.setIfInBounds_toArray, List.set_cons_zero, List.set_cons_succ])
          refine tk (i := 6) (d := (some 51)) (v := undef) rfl rfl (by kernel_rfl) (by kernel_rfl) (by kernel_rfl) (fun _ _ _ h => h) (Or.inr ⟨by kernel_rfl, rfl⟩) hHeld ?_
          (try simp only [Act.put, List.setIfInBounds_toArray, List.set_cons_zero, List.set_cons_succ])
          refine tk (i := 7) (d := (some 52)) (v := undef) rfl rfl (by kernel_rfl) (by kernel_rfl) (by kernel_rfl) (fun _ _ _ h => h) (Or.inr ⟨by kernel_rfl, rfl⟩) hHeld ?_
          (try simp only [Act.put, List.setIfInBounds_toArray, List.set_cons_zero, List.set_cons_succ])
          refine tk (i := 8) (d := (some 53)) (v := undef) rfl rfl (by kernel_rfl) (by kernel_rfl) (by kernel_rfl) (fun _ _ _ h => h) (Or.inr ⟨by kernel_rfl, rfl⟩) hHeld ?_
          (try simp only [Act.put, List.setIfInBounds_toArray, List.set_cons_zero, List.set_cons_succ])
          refine tk (i := 9) (d := (some 54)) (v := undef) rfl rfl (by kernel_rfl) (by kernel_rfl) (by kernel_rfl) (fun _ _ _ h => h) (Or.inr ⟨by kernel_rfl, rfl⟩) hHeld ?_
          (try simp only [Act.put, List.setIfInBounds_toArray, List.set_cons_zero, List.set_cons_succ])
          refine tk (i := 10) (d := (some 55)) (v := undef) rfl rfl (by kernel_rfl) (by kernel_rfl) (by kernel_rfl) (fun _ _ _ h => h) (Or.inr ⟨by kernel_rfl, rfl⟩) hHeld ?_
          (try simp only [Act.put, List.setIfInBounds_toArray, List.set_cons_zero, List.set_cons_succ])
          refine tk (i := 11) (d := (some 56)) (v := undef) rfl rfl (by kernel_rfl) (by kernel_rfl) (by kernel_rfl) (fun _ _ _ h => h) (Or.inr ⟨by kernel_rfl, rfl⟩) hHeld ?_
          (try simp only [Act.put, List.setIfInBounds_toArray, List.set_cons_zero, List.set_cons_succ])
          refine tk (i := 12) (d := (some 57)) (v := ?_) rfl rfl (by kernel_rfl) (by kernel_rfl) (by kernel_rfl) (fun _ _ _ h => h) (Or.inl ⟨by rfl, ?_⟩) hHeld ?_
          rotate_left
          · intro w hSw; have zc0 := keepc hSw c0; have zc1 := keepc hSw c1; have zc2 := keepc hSw c2; clear hSw; go_simp <;> with_reducible rfl
          (try simp only [Act.put, List.setIfInBounds_toArray, List.set_cons_zero, List.set_cons_succ])
          refine tk (i := 13) (d := (some 58)) (v := ?_) rfl rfl (by kernel_rfl) (by kernel_rfl) (by kernel_rfl) (fun _ _ _ h => h) (Or.inl ⟨by rfl, ?_⟩) hHeld ?_
          rotate_left
          · intro w hSw; have zc0 := keepc hSw c0; have zc1 := keepc hSw c1; have zc2 := keepc hSw c2; clear hSw; go_simp <;> with_reducible rfl
          (try simp only [Act.put, List.setIfInBounds_toArray, List.set_cons_zero, List.set_cons_succ])
          refine tk (i := 14) (d := (some 59)) (v := ?_) rfl rfl (by kernel_rfl) (by kernel_rfl) (by kernel_rfl) (fun _ _ _ h => h) (Or.inl ⟨by rfl, ?_⟩) hHeld ?_
          rotate_left
          · intro w hSw; have zc0 := keepc hSw c0; have zc1 := keepc hSw c1; have zc2 := keepc hSw c2; clear hSw; go_simp <;> with_reducible rfl
          (try simp only [Act.put, List.setIfInBounds_toArray, List.set_cons_zero, List.set_cons_succ])
          refine tk (i := 15) (d := (some 60)) (v := ?_) rfl rfl (by kernel_rfl) (by kernel_rfl) (by kernel_rfl) (fun _ _ _ h => h) (Or.inl ⟨by rfl, ?_⟩) hHeld ?_
          rotate_left
          · intro w hSw; have zc0 := keepc hSw c0; have zc1 := keepc hSw c1; have zc2 := keepc hSw c2; clear hSw; go_simp <;> with_reducible rfl
          (try simp only [Act.put, List.setIfInBounds_toArray, List.set_cons_zero, List.set_cons_succ])
          refine tk (i := 16) (d := (some 61)) (v := ?_) rfl rfl (by kernel_rfl) (by kernel_rfl) (by kernel_rfl) (fun _ _ _ h => h) (Or.inl ⟨by rfl, ?_⟩) hHeld ?_
          rotate_left
          · intro w hSw; have zc0 := keepc hSw c0; have zc1 := keepc hSw c1; have zc2 := keepc hSw c2; clear hSw; go_simp <;> with_reducible rfl
          (try simp only [Act.put, List.setIfInBounds_toArray, List.set_cons_zero, List.set_cons_succ])
          refine tk (i := 17) (d := (some 62)) (v := ?_) rfl rfl (by kernel_rfl) (by kernel_rfl) (by kernel_rfl) (fun _ _ _ h => h) (Or.inl ⟨by rfl, ?_⟩) hHeld ?_
          rotate_left
          · intro w hSw; have zc0 := keepc hSw c0; have zc1 := keepc hSw c1; have zc2 := keepc hSw c2; clear hSw; go_simp <;> with_reducible rfl
          (try simp only [Act.put, List.setIfInBounds_toArray, List.set_cons_zero, List.set_cons_succ])
          refine tk (i := 18) (d := (some 63)) (v := ?_) rfl rfl (by kernel_rfl) (by kernel_rfl) (by kernel_rfl) (fun _ _ _ h => h) (Or.inl ⟨by rfl, ?_⟩) hHeld ?_
          rotate_left
          · intro w hSw; have zc0 := keepc hSw c0; have zc1 := keepc hSw c1; have zc2 := keepc hSw c2; clear hSw; go_simp <;> with_reducible rfl
          (try simp only [Act.put, List.setIfInBounds_toArray, List.set_cons_zero, List.set_cons_succ])
          refine wpAnyH_ready (rs := [19]) (by kernel_rfl) (by simp) ?_
          refine AllReadyH.cons rfl (fun K hK => ?_) AllReadyH.nil
          go_simp
          refine ((GIN.out u HU _ (HS.out.below (chn hb hHeld))).out).mono ?_; rintro e W ⟨rfl, hq⟩
          go_simp
          refine hK.out _ _ (chn hHeld hq) (fun h => ?_)
          clear hK K; replace hHeld := h; clear h hq
          (try simp only [Act.put, List.setIfInBounds_toArray, List.set_cons_zero, List.set_cons_succ])
          cases u with
          | false =>
            obtain rfl : r = false := HNO.out (fun h => by have h := h.2.2.1; rw [upM_tk] at h; exact absurd (HU.out.symm.trans h) (by simp))
            refine tk (i := 20) (d := (some 65)) (v := ?_) rfl rfl (by kernel_rfl) (by kernel_rfl) (by kernel_rfl) (fun _ _ _ h => h) (Or.inl ⟨by rfl, ?_⟩) hHeld ?_
            rotate_left
            · intro w hSw; have zc0 := keepc hSw c0; have zc1 := keepc hSw c1; have zc2 := keepc hSw c2; clear hSw; go_simp <;> with_reducible rfl
            (try simp only [Act.put, List.setIfInBounds_toArray, List.set_cons_zero, List.set_cons_succ])
            refine tk (i := 21) (d := (some 66)) (v := ?_) rfl rfl (by kernel_rfl) (by kernel_rfl) (by kernel_rfl) (fun _ _ _ h => h) (Or.inl ⟨by rfl, ?_⟩) hHeld ?_
            rotate_left
            · intro w hSw; have zc0 := keepc hSw c0; have zc1 := keepc hSw c1; have zc2 := keepc hSw c2; clear hSw; go_simp <;> with_reducible rfl
            (try simp only [Act.put, List.setIfInBounds_toArray, List.set_cons_zero, List.set_cons_succ])
            refine wpAnyH_done (by kernel_rfl) ?_ _
            replace hb := chn hb hHeld; clear hHeld
            go_wp2
            go_ret
            exact ⟨rfl, by repeat (first | exact hb | refine Below.alloc ?_ (by have := hb.size; simp; try omega) _)⟩
          | true =>
            refine tk (i := 20) (d := (some 65)) (v := ?_) rfl rfl (by kernel_rfl) (by kernel_rfl) (by kernel_rfl) (fun _ _ _ h => h) (Or.inl ⟨by rfl, ?_⟩) hHeld ?_
            rotate_left
            · intro w hSw; have zc0 := keepc hSw c0; have zc1 := keepc hSw c1; have zc2 := keepc hSw c2; clear hSw; go_simp <;> with_reducible rfl
            (try simp only [Act.put, List.setIfInBounds_toArray, List.set_cons_zero, List.set_cons_succ])
            refine tk (i := 21) (d := (some 66)) (v := ?_) rfl rfl (by kernel_rfl) (by kernel_rfl) (by kernel_rfl) (fun _ _ _ h => h) (Or.inl ⟨by rfl, ?_⟩) hHeld ?_
            rotate_left
            · intro w hSw; have zc0 := keepc hSw c0; have zc1 := keepc hSw c1; have zc2 := keepc hSw c2; clear hSw; go_simp <;> with_reducible rfl
            (try simp only [Act.put, List.setIfInBounds_toArray, List.set_cons_zero, List.set_cons_succ])
            refine wpAnyH_done (by kernel_rfl) ?_ _
            replace hb := chn hb hHeld; replace c0 := keepc hHeld c0; replace c1 := keepc hHeld c1; replace c2 := keepc hHeld c2; clear hHeld
            have HUQ := Lib.hid ((upM_tk xs 0 ep.data.toList).trans HU.out)
            by_cases k3 : 2 < ek
            · have d3 : decide (2 < ek) = true := by simp; omega
              go_wp2_with fail
              refine wp_region_held_drew (S := fun w' => Below _ _ w') (by kernel_rfl) (below_drew _) (fun hHeld => ?_)
              refine tk (i := 0) (d := (some 67)) (v := ?_) rfl rfl (by kernel_rfl) (by kernel_rfl) (by kernel_rfl) (fun _ _ _ h => h) (Or.inl ⟨by rfl, ?_⟩) hHeld ?_
              rotate_left
              · intro w hSw; have zc0 := keepc hSw c0; have zc1 := keepc hSw c1; have zc2 := keepc hSw c2; clear hSw; go_simp <;> with_reducible rfl
              (try simp only [Act.put, List.setIfInBounds_toArray, List.set_cons_zero, List.set_cons_succ])
              refine tk (i := 1) (d := (some 68)) (v := ?_) rfl rfl (by kernel_rfl) (by kernel_rfl) (by kernel_rfl) (fun _ _ _ h => h) (Or.inl ⟨by rfl, ?_⟩) hHeld ?_
              rotate_left
              · intro w hSw; have zc0 := keepc hSw c0; have zc1 := keepc hSw c1; have zc2 := keepc hSw c2; clear hSw; go_simp <;> with_reducible rfl
              (try simp only [Act.put, List.setIfInBounds_toArray, List.set_cons_zero, List.set_cons_succ])
              refine tk (i := 2) (d := (some 69)) (v := ?_) rfl rfl (by kernel_rfl) (by kernel_rfl) (by kernel_rfl) (fun _ _ _ h => h) (Or.inl ⟨by rfl, ?_⟩) hHeld ?_
              rotate_left
              · intro w hSw; have zc0 := keepc hSw c0; have zc1 := keepc hSw c1; have zc2 := keepc hSw c2; clear hSw; go_simp <;> with_reducible rfl
              (try simp only [Act.put, List.setIfInBounds_toArray, List.set_cons_zero, List.set_cons_succ])
              refine tk (i := 3) (d := (some 70)) (v := ?_) rfl rfl (by kernel_rfl) (by kernel_rfl) (by kernel_rfl) (fun _ _ _ h => h) (Or.inl ⟨by rfl, ?_⟩) hHeld ?_
              rotate_left
              · intro w hSw; have zc0 := keepc hSw c0; have zc1 := keepc hSw c1; have zc2 := keepc hSw c2; clear hSw; go_simp <;> with_reducible rfl
              (try simp only [Act.put, List.setIfInBounds_toArray, List.set_cons_zero, List.set_cons_succ])
              refine tk (i := 4) (d := (some 71)) (v := ?_) rfl rfl (by kernel_rfl) (by kernel_rfl) (by kernel_rfl) (fun _ _ _ h => h) (Or.inl ⟨by rfl, ?_⟩) hHeld ?_
              rotate_left
              · intro w hSw; have zc0 := keepc hSw c0; have zc1 := keepc hSw c1; have zc2 := keepc hSw c2; clear hSw; go_simp <;> with_reducible rfl
              (try simp only [Act.put, List.setIfInBounds_toArray, List.set_cons_zero, List.set_cons_succ])
              refine tk (i := 5) (d := (some 72)) (v := ?_) rfl rfl (by kernel_rfl) (by kernel_rfl) (by kernel_rfl) (fun _ _ _ h => h) (Or.inl ⟨by rfl, ?_⟩) hHeld ?_
              rotate_left
              · intro w hSw; have zc0 := keepc hSw c0; have zc1 := keepc hSw c1; have zc2 := keepc hSw c2; clear hSw; go_simp <;> with_reducible rfl
              (try simp only [Act.put, List.setIfInBounds_toArray, List.set_cons_zero, List.set_cons_succ])
              refine tk (i := 6) (d := (some 73)) (v := ?_) rfl rfl (by kernel_rfl) (by kernel_rfl) (by kernel_rfl) (fun _ _ _ h => h) (Or.inl ⟨by rfl, ?_⟩) hHeld ?_
              rotate_left
              · intro w hSw; have zc0 := keepc hSw c0; have zc1 := keepc hSw c1; have zc2 := keepc hSw c2; clear hSw; go_simp <;> with_reducible rfl
              (try simp only [Act.put, List.setIfInBounds_toArray, List.set_cons_zero, List.set_cons_succ])
              refine tk (i := 7) (d := (some 74)) (v := ?_) rfl rfl (by kernel_rfl) (by kernel_rfl) (by kernel_rfl) (fun _ _ _ h => h) (Or.inl ⟨by rfl, ?_⟩) hHeld ?_
              rotate_left
              · intro w hSw; have zc0 := keepc hSw c0; have zc1 := keepc hSw c1; have zc2 := keepc hSw c2; clear hSw; go_simp <;> with_reducible rfl
              (try simp only [Act.put, List.setIfInBounds_toArray, List.set_cons_zero, List.set_cons_succ])
              refine tk (i := 8) (d := (some 75)) (v := ?_) rfl rfl (by kernel_rfl) (by kernel_rfl) (by kernel_rfl) (fun _ _ _ h => h) (Or.inl ⟨by rfl, ?_⟩) hHeld ?_
              rotate_left
              · intro w hSw; have zc0 := keepc hSw c0; have zc1 := keepc hSw c1; have zc2 := keepc hSw c2; clear hSw; go_simp <;> with_reducible rfl
              (try simp only [Act.put, List.setIfInBounds_toArray, List.set_cons_zero, List.set_cons_succ])
              refine wpAnyH_ready (rs := [9]) (by kernel_rfl) (by simp) ?_
              refine AllReadyH.cons rfl (fun K hK => ?_) AllReadyH.nil
              go_simp
              refine ((GBR.out v HV _ (HS.out.below (chn hb hHeld))).out).mono ?_; rintro e W ⟨rfl, hq⟩
              go_simp
              refine hK.out _ _ (chn hHeld hq) (fun h => ?_)
              clear hK K; replace hHeld := h; clear h hq
              (try simp only [Act.put, List.setIfInBounds_toArray, List.set_cons_zero, List.set_cons_succ])
              cases v with
              | true =>
                obtain rfl : r = false := HNO.out (fun h => by have h := h.2.2.2 k3; exact absurd ((HVB.out).symm.trans h) (by simp))
                refine tk (i := 10) (d := (some 77)) (v := ?_) rfl rfl (by kernel_rfl) (by kernel_rfl) (by kernel_rfl) (fun _ _ _ h => h) (Or.inl ⟨by rfl, ?_⟩) hHeld ?_
                rotate_left
                · intro w hSw; have zc0 := keepc hSw c0; have zc1 := keepc hSw c1; have zc2 := keepc hSw c2; clear hSw; go_simp <;> with_reducible rfl
                (try simp only [Act.put, List.setIfInBounds_toArray, List.set_cons_zero, List.set_cons_succ])
                refine wpAnyH_done (by kernel_rfl) ?_ _
                replace hb := chn hb hHeld; clear hHeld
                go_wp2
                go_ret
                exact ⟨rfl, by repeat (first | exact hb | refine Below.alloc ?_ (by have := hb.size; simp; try omega) _)⟩
              | false =>
                refine tk (i := 10) (d := (some 77)) (v := ?_) rfl rfl (by kernel_rfl) (by kernel_rfl) (by kernel_rfl) (fun _ _ _ h => h) (Or.inl ⟨by rfl, ?_⟩) hHeld ?_
                rotate_left
                · intro w hSw; have zc0 := keepc hSw c0; have zc1 := keepc hSw c1; have zc2 := keepc hSw c2; clear hSw; go_simp <;> with_reducible rfl
                (try simp only [Act.put, List.setIfInBounds_toArray, List.set_cons_zero, List.set_cons_succ])
                refine wpAnyH_done (by kernel_rfl) ?_ _
                replace hb := chn hb hHeld; clear hHeld
                go_wp2
                go_roundw
                case rel => exact ⟨(0+1), by omega, by go_num, ASK.out HUQ.out (fun _ => HVB.out), by repeat (first | exact hb | refine Below.alloc ?_ (by have := hb.size; simp; try omega) _)⟩
                case measure => simp [intOf]; omega
            · have d3 : decide (2 < ek) = false := by simp; omega
              go_wp2_with fail
              refine wp_region_held_drew (S := fun w' => Below _ _ w') (by kernel_rfl) (below_drew _) (fun hHeld => ?_)
              refine tk (i := 0) (d := (some 67)) (v := ?_) rfl rfl (by kernel_rfl) (by kernel_rfl) (by kernel_rfl) (fun _ _ _ h => h) (Or.inl ⟨by rfl, ?_⟩) hHeld ?_
              rotate_left
              · intro w hSw; have zc0 := keepc hSw c0; have zc1 := keepc hSw c1; have zc2 := keepc hSw c2; clear hSw; go_simp <;> with_reducible rfl
              (try simp only [Act.put, List.setIfInBounds_toArray, List.set_cons_zero, List.set_cons_succ])
              refine tk (i := 1) (d := (some 68)) (v := ?_) rfl rfl (by kernel_rfl) (by kernel_rfl) (by kernel_rfl) (fun _ _ _ h => h) (Or.inl ⟨by rfl, ?_⟩) hHeld ?_
              rotate_left
              · intro w hSw; have zc0 := keepc hSw c0; have zc1 := keepc hSw c1; have zc2 := keepc hSw c2; clear hSw; go_simp <;> with_reducible rfl
              (try simp only [Act.put, List.setIfInBounds_toArray, List.set_cons_zero, List.set_cons_succ])
              refine tk (i := 2) (d := (some 69)) (v := ?_) rfl rfl (by kernel_rfl) (by kernel_rfl) (by kernel_rfl) (fun _ _ _ h => h) (Or.inl ⟨by rfl, ?_⟩) hHeld ?_
              rotate_left
              · intro w hSw; have zc0 := keepc hSw c0; have zc1 := keepc hSw c1; have zc2 := keepc hSw c2; clear hSw; go_simp <;> with_reducible rfl
              (try simp only [Act.put, List.setIfInBounds_toArray, List.set_cons_zero, List.set_cons_succ])
              refine tk (i := 3) (d := (some 70)) (v := ?_) rfl rfl (by kernel_rfl) (by kernel_rfl) (by kernel_rfl) (fun _ _ _ h => h) (Or.inl ⟨by rfl, ?_⟩) hHeld ?_
              rotate_left
              · intro w hSw; have zc0 := keepc hSw c0; have zc1 := keepc hSw c1; have zc2 := keepc hSw c2; clear hSw; go_simp <;> with_reducible rfl
              (try simp only [Act.put, List.setIfInBounds_toArray, List.set_cons_zero, List.set_cons_succ])
              refine tk (i := 4) (d := (some 71)) (v := undef) rfl rfl (by kernel_rfl) (by kernel_rfl) (by kernel_rfl) (fun _ _ _ h => h) (Or.inr ⟨by kernel_rfl, rfl⟩) hHeld ?_
              (try simp only [Act.put, List.setIfInBounds_toArray, List.set_cons_zero, List.set_cons_succ])
              refine tk (i := 5) (d := (some 72)) (v := undef) rfl rfl (by kernel_rfl) (by kernel_rfl) (by kernel_rfl) (fun _ _ _ h => h) (Or.inr ⟨by kernel_rfl, rfl⟩) hHeld ?_
              (try simp only [Act.put, List.setIfInBounds_toArray, List.set_cons_zero, List.set_cons_succ])
              refine tk (i := 6) (d := (some 73)) (v := undef) rfl rfl (by kernel_rfl) (by kernel_rfl) (by kernel_rfl) (fun _ _ _ h => h) (Or.inr ⟨by kernel_rfl, rfl⟩) hHeld ?_
              (try simp only [Act.put, List.setIfInBounds_toArray, List.set_cons_zero, List.set_cons_succ])
              refine tk (i := 7) (d := (some 74)) (v := undef) rfl rfl (by kernel_rfl) (by kernel_rfl) (by kernel_rfl) (fun _ _ _ h => h) (Or.inr ⟨by kernel_rfl, rfl⟩) hHeld ?_
              (try simp only [Act.put, List.setIfInBounds_toArray, List.set_cons_zero, List.set_cons_succ])
              refine tk (i := 8) (d := (some 75)) (v := undef) rfl rfl (by kernel_rfl) (by kernel_rfl) (by kernel_rfl) (fun _ _ _ h => h) (Or.inr ⟨by kernel_rfl, rfl⟩) hHeld ?_
              (try simp only [Act.put, List.setIfInBounds_toArray, List.set_cons_zero, List.set_cons_succ])
              refine tk (i := 9) (d := (some 76)) (v := undef) rfl rfl (by kernel_rfl) (by kernel_rfl) (by kernel_rfl) (fun _ _ _ h => h) (Or.inr ⟨by kernel_rfl, rfl⟩) hHeld ?_
              (try simp only [Act.put, List.setIfInBounds_toArray, List.set_cons_zero, List.set_cons_succ])
              refine tk (i := 10) (d := (some 77)) (v := ?_) rfl rfl (by kernel_rfl) (by kernel_rfl) (by kernel_rfl) (fun _ _ _ h => h) (Or.inl ⟨by rfl, ?_⟩) hHeld ?_
              rotate_left
              · intro w hSw; have zc0 := keepc hSw c0; have zc1 := keepc hSw c1; have zc2 := keepc hSw c2; clear hSw; go_simp <;> with_reducible rfl
              (try simp only [Act.put, List.setIfInBounds_toArray, List.set_cons_zero, List.set_cons_succ])
              refine wpAnyH_done (by kernel_rfl) ?_ _
              replace hb := chn hb hHeld; clear hHeld
              go_wp2
              go_roundw
              case rel => exact ⟨(0+1), by omega, by go_num, ASK.out HUQ.out (fun h => (by exfalso; omega)), by repeat (first | exact hb | refine Below.alloc ?_ (by have := hb.size; simp; try omega) _)⟩
              case measure => simp [intOf]; omega
      | succ k =>
        obtain ⟨f, hff⟩ : ∃ f, xs[k]? = some f := ⟨_, List.getElem?_eq_getElem (by rw [HN.out]; omega)⟩
        obtain ⟨c3, _, _⟩ := mk_at h3 k f hff
        replace c3 := keepc (bellow_alloc wr (.cells #[.string ep, .int .i64 ek, .string ex] 65)) c3
        have HFF := Lib.hid hff
        clear hff h3
        have w0 : IntKind.i64.wrap (k : Int) = (k : Int) := IntWalk.i64_in _ (by omega)
        have w1 : (0 : Int) ≤ (k : Int) := by omega
        have w2 : (k : Int) < (n : Int) := by omega
        have w3 : (0 : Int) ≤ (k : Int) + 1 := by omega
        have w4 : (k : Int) + 1 ≤ (c : Int) := by omega
        rcases Bool.eq_false_or_eq_true (Op.bytesLess f.p.toList ep.toList) with hle | hle
        · have HLE := Lib.hid hle
          have ASK := Lib.hid (fun (h3 : upM ((xs.map Mk.pl).take (k + 1)) ep.data.toList = true) (h4 : 2 < ek → bareL ((xs.map Mk.pl).take (k + 1)) ep.data.toList = false) (j : Nat) (g : Mk) (hj : j < k + 1 + 1) (hg : xs[j]? = some g) => (by
            by_cases ej : j = k + 1
            · subst ej
              rw [HEE.out] at hg
              injection hg with hg
              rw [← hg]
              exact ⟨HM1.out, mless_of xs k f ⟨ep, ek, ex⟩ HFF.out HLE.out, h3, h4⟩
            · exact HA.out j g (by omega) hg : MAskR xs j g))
          rcases hk1 with n1 | ⟨n1, q1⟩
          all_goals
            go_wp2_with fail
            refine (sPathOk_c ep true HP1 _ HZ1.out).mono ?_; rintro e W ⟨rfl, hq⟩; replace hb := chn hb hq; replace c0 := keepc hq c0; replace c1 := keepc hq c1; replace c2 := keepc hq c2; replace c3 := keepc hq c3; clear hq
            go_wp2_with fail
            refine (l2Data_c ex true HP2 _ HZ2.out).mono ?_; rintro e' W' ⟨rfl, rfl⟩
            go_wp2_with fail
            refine wp_region_held_drew (S := fun w' => Below _ _ w') (by kernel_rfl) (below_drew _) (fun hHeld => ?_)
            refine tk (i := 0) (d := (some 45)) (v := ?_) rfl rfl (by kernel_rfl) (by kernel_rfl) (by kernel_rfl) (fun _ _ _ h => h) (Or.inl ⟨by rfl, ?_⟩) hHeld ?_
            rotate_left
            · intro w hSw; have zc0 := keepc hSw c0; have zc1 := keepc hSw c1; have zc2 := keepc hSw c2; have zc3 := keepc hSw c3; clear hSw; go_simp <;> with_reducible rfl
            (try simp only [Act.put, List.setIfInBounds_toArray, List.set_cons_zero, List.set_cons_succ])
            refine tk (i := 1) (d := (some 46)) (v := ?_) rfl rfl (by kernel_rfl) (by kernel_rfl) (by kernel_rfl) (fun _ _ _ h => h) (Or.inl ⟨by rfl, ?_⟩) hHeld ?_
            rotate_left
            · intro w hSw; have zc0 := keepc hSw c0; have zc1 := keepc hSw c1; have zc2 := keepc hSw c2; have zc3 := keepc hSw c3; clear hSw; go_simp <;> with_reducible rfl
            (try simp only [Act.put, List.setIfInBounds_toArray, List.set_cons_zero, List.set_cons_succ])
            refine tk (i := 2) (d := (some 47)) (v := ?_) rfl rfl (by kernel_rfl) (by kernel_rfl) (by kernel_rfl) (fun _ _ _ h => h) (Or.inl ⟨by rfl, ?_⟩) hHeld ?_
            rotate_left
            · intro w hSw; have zc0 := keepc hSw c0; have zc1 := keepc hSw c1; have zc2 := keepc hSw c2; have zc3 := keepc hSw c3; clear hSw; go_simp <;> with_reducible rfl
            (try simp only [Act.put, List.setIfInBounds_toArray, List.set_cons_zero, List.set_cons_succ])
            refine tk (i := 3) (d := (some 48)) (v := ?_) rfl rfl (by kernel_rfl) (by kernel_rfl) (by kernel_rfl) (fun _ _ _ h => h) (Or.inl ⟨by rfl, ?_⟩) hHeld ?_
            rotate_left
            · intro w hSw; have zc0 := keepc hSw c0; have zc1 := keepc hSw c1; have zc2 := keepc hSw c2; have zc3 := keepc hSw c3; clear hSw; go_simp <;> with_reducible rfl
            (try simp only [Act.put, List.setIfInBounds_toArray, List.set_cons_zero, List.set_cons_succ])
            refine tk (i := 4) (d := (some 49)) (v := ?_) rfl rfl (by kernel_rfl) (by kernel_rfl) (by kernel_rfl) (fun _ _ _ h => h) (Or.inl ⟨by rfl, ?_⟩) hHeld ?_
            rotate_left
            · intro w hSw; have zc0 := keepc hSw c0; have zc1 := keepc hSw c1; have zc2 := keepc hSw c2; have zc3 := keepc hSw c3; clear hSw; go_simp <;> with_reducible rfl
            (try simp only [Act.put, List.setIfInBounds_toArray, List.set_cons_zero, List.set_cons_succ])
            refine tk (i := 5) (d := (some 50)) (v := ?_) rfl rfl (by kernel_rfl) (by kernel_rfl) (by kernel_rfl) (fun _ _ _ h => h) (Or.inl ⟨by rfl, ?_⟩) hHeld ?_
            rotate_left
            · intro w hSw; have zc0 := keepc hSw c0; have zc1 := keepc hSw c1; have zc2 := keepc hSw c2; have zc3 := keepc hSw c3; clear hSw; go_simp <;> with_reducible rfl
            (try simp only [Act.put, List.setIfInBounds_toArray, List.set_cons_zero, List.set_cons_succ])
            refine tk (i := 6) (d := (some 51)) (v := ?_) rfl rfl (by kernel_rfl) (by kernel_rfl) (by kernel_rfl) (fun _ _ _ h => h) (Or.inl ⟨by rfl, ?_⟩) hHeld ?_
            rotate_left
            · intro w hSw; have zc0 := keepc hSw c0; have zc1 := keepc hSw c1; have zc2 := keepc hSw c2; have zc3 := keepc hSw c3; clear hSw; go_simp <;> with_reducible rfl
            (try simp only [Act.put, List.setIfInBounds_toArray, List.set_cons_zero, List.set_cons_succ])
            refine tk (i := 7) (d := (some 52)) (v := ?_) rfl rfl (by kernel_rfl) (by kernel_rfl) (by kernel_rfl) (fun _ _ _ h => h) (Or.inl ⟨by rfl, ?_⟩) hHeld ?_
            rotate_left
            · intro w hSw; have zc0 := keepc hSw c0; have zc1 := keepc hSw c1; have zc2 := keepc hSw c2; have zc3 := keepc hSw c3; clear hSw; go_simp <;> with_reducible rfl
            (try simp only [Act.put, List.setIfInBounds_toArray, List.set_cons_zero, List.set_cons_succ])
            refine tk (i := 8) (d := (some 53)) (v := ?_) rfl rfl (by kernel_rfl) (by kernel_rfl) (by kernel_rfl) (fun _ _ _ h => h) (Or.inl ⟨by rfl, ?_⟩) hHeld ?_
            rotate_left
            · intro w hSw; have zc0 := keepc hSw c0; have zc1 := keepc hSw c1; have zc2 := keepc hSw c2; have zc3 := keepc hSw c3; clear hSw; go_simp <;> with_reducible rfl
            (try simp only [Act.put, List.setIfInBounds_toArray, List.set_cons_zero, List.set_cons_succ])
            refine tk (i := 9) (d := (some 54)) (v := ?_) rfl rfl (by kernel_rfl) (by kernel_rfl) (by kernel_rfl) (fun _ _ _ h => h) (Or.inl ⟨by rfl, ?_⟩) hHeld ?_
            rotate_left
            · intro w hSw; have zc0 := keepc hSw c0; have zc1 := keepc hSw c1; have zc2 := keepc hSw c2; have zc3 := keepc hSw c3; clear hSw; go_simp <;> with_reducible rfl
            (try simp only [Act.put, List.setIfInBounds_toArray, List.set_cons_zero, List.set_cons_succ])
            refine tk (i := 10) (d := (some 55)) (v := ?_) rfl rfl (by kernel_rfl) (by kernel_rfl) (by kernel_rfl) (fun _ _ _ h => h) (Or.inl ⟨by rfl, ?_⟩) hHeld ?_
            rotate_left
            · intro w hSw; have zc0 := keepc hSw c0; have zc1 := keepc hSw c1; have zc2 := keepc hSw c2; have zc3 := keepc hSw c3; clear hSw; go_simp <;> with_reducible rfl
            (try simp only [Act.put, List.setIfInBounds_toArray, List.set_cons_zero, List.set_cons_succ])
            refine tk (i := 11) (d := (some 56)) (v := ?_) rfl rfl (by kernel_rfl) (by kernel_rfl) (by kernel_rfl) (fun _ _ _ h => h) (Or.inl ⟨by rfl, ?_⟩) hHeld ?_
            rotate_left
            · intro w hSw; have zc0 := keepc hSw c0; have zc1 := keepc hSw c1; have zc2 := keepc hSw c2; have zc3 := keepc hSw c3; clear hSw; go_simp <;> with_reducible rfl
            (try simp only [Act.put, List.setIfInBounds_toArray, List.set_cons_zero, List.set_cons_succ])
            refine tk (i := 12) (d := (some 57)) (v := ?_) rfl rfl (by kernel_rfl) (by kernel_rfl) (by kernel_rfl) (fun _ _ _ h => h) (Or.inl ⟨by rfl, ?_⟩) hHeld ?_
            rotate_left
            · intro w hSw; have zc0 := keepc hSw c0; have zc1 := keepc hSw c1; have zc2 := keepc hSw c2; have zc3 := keepc hSw c3; clear hSw; go_simp <;> with_reducible rfl
            (try simp only [Act.put, List.setIfInBounds_toArray, List.set_cons_zero, List.set_cons_succ])
            refine tk (i := 13) (d := (some 58)) (v := ?_) rfl rfl (by kernel_rfl) (by kernel_rfl) (by kernel_rfl) (fun _ _ _ h => h) (Or.inl ⟨by rfl, ?_⟩) hHeld ?_
            rotate_left
            · intro w hSw; have zc0 := keepc hSw c0; have zc1 := keepc hSw c1; have zc2 := keepc hSw c2; have zc3 := keepc hSw c3; clear hSw; go_simp <;> with_reducible rfl
            (try simp only [Act.put, List.setIfInBounds_toArray, List.set_cons_zero, List.set_cons_succ])
            refine tk (i := 14) (d := (some 59)) (v := ?_) rfl rfl (by kernel_rfl) (by kernel_rfl) (by kernel_rfl) (fun _ _ _ h => h) (Or.inl ⟨by rfl, ?_⟩) hHeld ?_
            rotate_left
            · intro w hSw; have zc0 := keepc hSw c0; have zc1 := keepc hSw c1; have zc2 := keepc hSw c2; have zc3 := keepc hSw c3; clear hSw; go_simp <;> with_reducible rfl
            (try simp only [Act.put, List.setIfInBounds_toArray, List.set_cons_zero, List.set_cons_succ])
            refine tk (i := 15) (d := (some 60)) (v := ?_) rfl rfl (by kernel_rfl) (by kernel_rfl) (by kernel_rfl) (fun _ _ _ h => h) (Or.inl ⟨by rfl, ?_⟩) hHeld ?_
            rotate_left
            · intro w hSw; have zc0 := keepc hSw c0; have zc1 := keepc hSw c1; have zc2 := keepc hSw c2; have zc3 := keepc hSw c3; clear hSw; go_simp <;> with_reducible rfl
            (try simp only [Act.put, List.setIfInBounds_toArray, List.set_cons_zero, List.set_cons_succ])
            refine tk (i := 16) (d := (some 61)) (v := ?_) rfl rfl (by kernel_rfl) (by kernel_rfl) (by kernel_rfl) (fun _ _ _ h => h) (Or.inl ⟨by rfl, ?_⟩) hHeld ?_
            rotate_left
            · intro w hSw; have zc0 := keepc hSw c0; have zc1 := keepc hSw c1; have zc2 := keepc hSw c2; have zc3 := keepc hSw c3; clear hSw; go_simp <;> with_reducible rfl
            (try simp only [Act.put, List.setIfInBounds_toArray, List.set_cons_zero, List.set_cons_succ])
            refine tk (i := 17) (d := (some 62)) (v := ?_) rfl rfl (by kernel_rfl) (by kernel_rfl) (by kernel_rfl) (fun _ _ _ h => h) (Or.inl ⟨by rfl, ?_⟩) hHeld ?_
            rotate_left
            · intro w hSw; have zc0 := keepc hSw c0; have zc1 := keepc hSw c1; have zc2 := keepc hSw c2; have zc3 := keepc hSw c3; clear hSw; go_simp <;> with_reducible rfl
            (try simp only [Act.put, List.setIfInBounds_toArray, List.set_cons_zero, List.set_cons_succ])
            refine tk (i := 18) (d := (some 63)) (v := ?_) rfl rfl (by kernel_rfl) (by kernel_rfl) (by kernel_rfl) (fun _ _ _ h => h) (Or.inl ⟨by rfl, ?_⟩) hHeld ?_
            rotate_left
            · intro w hSw; have zc0 := keepc hSw c0; have zc1 := keepc hSw c1; have zc2 := keepc hSw c2; have zc3 := keepc hSw c3; clear hSw; go_simp <;> with_reducible rfl
            (try simp only [Act.put, List.setIfInBounds_toArray, List.set_cons_zero, List.set_cons_succ])
            refine wpAnyH_ready (rs := [19]) (by kernel_rfl) (by simp) ?_
            refine AllReadyH.cons rfl (fun K hK => ?_) AllReadyH.nil
            go_simp
            refine ((GIN.out u HU _ (HS.out.below (chn hb hHeld))).out).mono ?_; rintro e W ⟨rfl, hq⟩
            go_simp
            refine hK.out _ _ (chn hHeld hq) (fun h => ?_)
            clear hK K; replace hHeld := h; clear h hq
            (try simp only [Act.put, List.setIfInBounds_toArray, List.set_cons_zero, List.set_cons_succ])
            cases u with
            | false =>
              obtain rfl : r = false := HNO.out (fun h => by have h := h.2.2.1; rw [upM_tk] at h; exact absurd (HU.out.symm.trans h) (by simp))
              refine tk (i := 20) (d := (some 65)) (v := ?_) rfl rfl (by kernel_rfl) (by kernel_rfl) (by kernel_rfl) (fun _ _ _ h => h) (Or.inl ⟨by rfl, ?_⟩) hHeld ?_
              rotate_left
              · intro w hSw; have zc0 := keepc hSw c0; have zc1 := keepc hSw c1; have zc2 := keepc hSw c2; have zc3 := keepc hSw c3; clear hSw; go_simp <;> with_reducible rfl
              (try simp only [Act.put, List.setIfInBounds_toArray, List.set_cons_zero, List.set_cons_succ])
              refine tk (i := 21) (d := (some 66)) (v := ?_) rfl rfl (by kernel_rfl) (by kernel_rfl) (by kernel_rfl) (fun _ _ _ h => h) (Or.inl ⟨by rfl, ?_⟩) hHeld ?_
              rotate_left
              · intro w hSw; have zc0 := keepc hSw c0; have zc1 := keepc hSw c1; have zc2 := keepc hSw c2; have zc3 := keepc hSw c3; clear hSw; go_simp <;> with_reducible rfl
              (try simp only [Act.put, List.setIfInBounds_toArray, List.set_cons_zero, List.set_cons_succ])
              refine wpAnyH_done (by kernel_rfl) ?_ _
              replace hb := chn hb hHeld; clear hHeld
              go_wp2
              go_ret
              exact ⟨rfl, by repeat (first | exact hb | refine Below.alloc ?_ (by have := hb.size; simp; try omega) _)⟩
            | true =>
              refine tk (i := 20) (d := (some 65)) (v := ?_) rfl rfl (by kernel_rfl) (by kernel_rfl) (by kernel_rfl) (fun _ _ _ h => h) (Or.inl ⟨by rfl, ?_⟩) hHeld ?_
              rotate_left
              · intro w hSw; have zc0 := keepc hSw c0; have zc1 := keepc hSw c1; have zc2 := keepc hSw c2; have zc3 := keepc hSw c3; clear hSw; go_simp <;> with_reducible rfl
              (try simp only [Act.put, List.setIfInBounds_toArray, List.set_cons_zero, List.set_cons_succ])
              refine tk (i := 21) (d := (some 66)) (v := ?_) rfl rfl (by kernel_rfl) (by kernel_rfl) (by kernel_rfl) (fun _ _ _ h => h) (Or.inl ⟨by rfl, ?_⟩) hHeld ?_
              rotate_left
              · intro w hSw; have zc0 := keepc hSw c0; have zc1 := keepc hSw c1; have zc2 := keepc hSw c2; have zc3 := keepc hSw c3; clear hSw; go_simp <;> with_reducible rfl
              (try simp only [Act.put, List.setIfInBounds_toArray, List.set_cons_zero, List.set_cons_succ])
              refine wpAnyH_done (by kernel_rfl) ?_ _
              replace hb := chn hb hHeld; replace c0 := keepc hHeld c0; replace c1 := keepc hHeld c1; replace c2 := keepc hHeld c2; clear hHeld
              have HUQ := Lib.hid ((upM_tk xs (k+1) ep.data.toList).trans HU.out)
              by_cases k3 : 2 < ek
              · have d3 : decide (2 < ek) = true := by simp; omega
                go_wp2_with fail
                refine wp_region_held_drew (S := fun w' => Below _ _ w') (by kernel_rfl) (below_drew _) (fun hHeld => ?_)
                refine tk (i := 0) (d := (some 67)) (v := ?_) rfl rfl (by kernel_rfl) (by kernel_rfl) (by kernel_rfl) (fun _ _ _ h => h) (Or.inl ⟨by rfl, ?_⟩) hHeld ?_
                rotate_left
                · intro w hSw; have zc0 := keepc hSw c0; have zc1 := keepc hSw c1; have zc2 := keepc hSw c2; clear hSw; go_simp <;> with_reducible rfl
                (try simp only [Act.put, List.setIfInBounds_toArray, List.set_cons_zero, List.set_cons_succ])
                refine tk (i := 1) (d := (some 68)) (v := ?_) rfl rfl (by kernel_rfl) (by kernel_rfl) (by kernel_rfl) (fun _ _ _ h => h) (Or.inl ⟨by rfl, ?_⟩) hHeld ?_
                rotate_left
                · intro w hSw; have zc0 := keepc hSw c0; have zc1 := keepc hSw c1; have zc2 := keepc hSw c2; clear hSw; go_simp <;> with_reducible rfl
                (try simp only [Act.put, List.setIfInBounds_toArray, List.set_cons_zero, List.set_cons_succ])
                refine tk (i := 2) (d := (some 69)) (v := ?_) rfl rfl (by kernel_rfl) (by kernel_rfl) (by kernel_rfl) (fun _ _ _ h => h) (Or.inl ⟨by rfl, ?_⟩) hHeld ?_
                rotate_left
                · intro w hSw; have zc0 := keepc hSw c0; have zc1 := keepc hSw c1; have zc2 := keepc hSw c2; clear hSw; go_simp <;> with_reducible rfl
                (try simp only [Act.put, List.setIfInBounds_toArray, List.set_cons_zero, List.set_cons_succ])
                refine tk (i := 3) (d := (some 70)) (v := ?_) rfl rfl (by kernel_rfl) (by kernel_rfl) (by kernel_rfl) (fun _ _ _ h => h) (Or.inl ⟨by rfl, ?_⟩) hHeld ?_
                rotate_left
                · intro w hSw; have zc0 := keepc hSw c0; have zc1 := keepc hSw c1; have zc2 := keepc hSw c2; clear hSw; go_simp <;> with_reducible rfl
                (try simp only [Act.put, List.setIfInBounds_toArray, List.set_cons_zero, List.set_cons_succ])
                refine tk (i := 4) (d := (some 71)) (v := ?_) rfl rfl (by kernel_rfl) (by kernel_rfl) (by kernel_rfl) (fun _ _ _ h => h) (Or.inl ⟨by rfl, ?_⟩) hHeld ?_
                rotate_left
                · intro w hSw; have zc0 := keepc hSw c0; have zc1 := keepc hSw c1; have zc2 := keepc hSw c2; clear hSw; go_simp <;> with_reducible rfl
                (try simp only [Act.put, List.setIfInBounds_toArray, List.set_cons_zero, List.set_cons_succ])
                refine tk (i := 5) (d := (some 72)) (v := ?_) rfl rfl (by kernel_rfl) (by kernel_rfl) (by kernel_rfl) (fun _ _ _ h => h) (Or.inl ⟨by rfl, ?_⟩) hHeld ?_
                rotate_left
                · intro w hSw; have zc0 := keepc hSw c0; have zc1 := keepc hSw c1; have zc2 := keepc hSw c2; clear hSw; go_simp <;> with_reducible rfl
                (try simp only [Act.put, List.setIfInBounds_toArray, List.set_cons_zero, List.set_cons_succ])
                refine tk (i := 6) (d := (some 73)) (v := ?_) rfl rfl (by kernel_rfl) (by kernel_rfl) (by kernel_rfl) (fun _ _ _ h => h) (Or.inl ⟨by rfl, ?_⟩) hHeld ?_
                rotate_left
                · intro w hSw; have zc0 := keepc hSw c0; have zc1 := keepc hSw c1; have zc2 := keepc hSw c2; clear hSw; go_simp <;> with_reducible rfl
                (try simp only [Act.put, List.setIfInBounds_toArray, List.set_cons_zero, List.set_cons_succ])
                refine tk (i := 7) (d := (some 74)) (v := ?_) rfl rfl (by kernel_rfl) (by kernel_rfl) (by kernel_rfl) (fun _ _ _ h => h) (Or.inl ⟨by rfl, ?_⟩) hHeld ?_
                rotate_left
                · intro w hSw; have zc0 := keepc hSw c0; have zc1 := keepc hSw c1; have zc2 := keepc hSw c2; clear hSw; go_simp <;> with_reducible rfl
                (try simp only [Act.put, List.setIfInBounds_toArray, List.set_cons_zero, List.set_cons_succ])
                refine tk (i := 8) (d := (some 75)) (v := ?_) rfl rfl (by kernel_rfl) (by kernel_rfl) (by kernel_rfl) (fun _ _ _ h => h) (Or.inl ⟨by rfl, ?_⟩) hHeld ?_
                rotate_left
                · intro w hSw; have zc0 := keepc hSw c0; have zc1 := keepc hSw c1; have zc2 := keepc hSw c2; clear hSw; go_simp <;> with_reducible rfl
                (try simp only [Act.put, List.setIfInBounds_toArray, List.set_cons_zero, List.set_cons_succ])
                refine wpAnyH_ready (rs := [9]) (by kernel_rfl) (by simp) ?_
                refine AllReadyH.cons rfl (fun K hK => ?_) AllReadyH.nil
                go_simp
                refine ((GBR.out v HV _ (HS.out.below (chn hb hHeld))).out).mono ?_; rintro e W ⟨rfl, hq⟩
                go_simp
                refine hK.out _ _ (chn hHeld hq) (fun h => ?_)
                clear hK K; replace hHeld := h; clear h hq
                (try simp only [Act.put, List.setIfInBounds_toArray, List.set_cons_zero, List.set_cons_succ])
                cases v with
                | true =>
                  obtain rfl : r = false := HNO.out (fun h => by have h := h.2.2.2 k3; exact absurd ((HVB.out).symm.trans h) (by simp))
                  refine tk (i := 10) (d := (some 77)) (v := ?_) rfl rfl (by kernel_rfl) (by kernel_rfl) (by kernel_rfl) (fun _ _ _ h => h) (Or.inl ⟨by rfl, ?_⟩) hHeld ?_
                  rotate_left
                  · intro w hSw; have zc0 := keepc hSw c0; have zc1 := keepc hSw c1; have zc2 := keepc hSw c2; clear hSw; go_simp <;> with_reducible rfl
                  (try simp only [Act.put, List.setIfInBounds_toArray, List.set_cons_zero, List.set_cons_succ])
                  refine wpAnyH_done (by kernel_rfl) ?_ _
                  replace hb := chn hb hHeld; clear hHeld
                  go_wp2
                  go_ret
                  exact ⟨rfl, by repeat (first | exact hb | refine Below.alloc ?_ (by have := hb.size; simp; try omega) _)⟩
                | false =>
                  refine tk (i := 10) (d := (some 77)) (v := ?_) rfl rfl (by kernel_rfl) (by kernel_rfl) (by kernel_rfl) (fun _ _ _ h => h) (Or.inl ⟨by rfl, ?_⟩) hHeld ?_
                  rotate_left
                  · intro w hSw; have zc0 := keepc hSw c0; have zc1 := keepc hSw c1; have zc2 := keepc hSw c2; clear hSw; go_simp <;> with_reducible rfl
                  (try simp only [Act.put, List.setIfInBounds_toArray, List.set_cons_zero, List.set_cons_succ])
                  refine wpAnyH_done (by kernel_rfl) ?_ _
                  replace hb := chn hb hHeld; clear hHeld
                  go_wp2
                  go_roundw
                  case rel => exact ⟨(k+1+1), by omega, by go_num, ASK.out HUQ.out (fun _ => HVB.out), by repeat (first | exact hb | refine Below.alloc ?_ (by have := hb.size; simp; try omega) _)⟩
                  case measure => simp [intOf]; omega
              · have d3 : decide (2 < ek) = false := by simp; omega
                go_wp2_with fail
                refine wp_region_held_drew (S := fun w' => Below _ _ w') (by kernel_rfl) (below_drew _) (fun hHeld => ?_)
                refine tk (i := 0) (d := (some 67)) (v := ?_) rfl rfl (by kernel_rfl) (by kernel_rfl) (by kernel_rfl) (fun _ _ _ h => h) (Or.inl ⟨by rfl, ?_⟩) hHeld ?_
                rotate_left
                · intro w hSw; have zc0 := keepc hSw c0; have zc1 := keepc hSw c1; have zc2 := keepc hSw c2; clear hSw; go_simp <;> with_reducible rfl
                (try simp only [Act.put, List.setIfInBounds_toArray, List.set_cons_zero, List.set_cons_succ])
                refine tk (i := 1) (d := (some 68)) (v := ?_) rfl rfl (by kernel_rfl) (by kernel_rfl) (by kernel_rfl) (fun _ _ _ h => h) (Or.inl ⟨by rfl, ?_⟩) hHeld ?_
                rotate_left
                · intro w hSw; have zc0 := keepc hSw c0; have zc1 := keepc hSw c1; have zc2 := keepc hSw c2; clear hSw; go_simp <;> with_reducible rfl
                (try simp only [Act.put, List.setIfInBounds_toArray, List.set_cons_zero, List.set_cons_succ])
                refine tk (i := 2) (d := (some 69)) (v := ?_) rfl rfl (by kernel_rfl) (by kernel_rfl) (by kernel_rfl) (fun _ _ _ h => h) (Or.inl ⟨by rfl, ?_⟩) hHeld ?_
                rotate_left
                · intro w hSw; have zc0 := keepc hSw c0; have zc1 := keepc hSw c1; have zc2 := keepc hSw c2; clear hSw; go_simp <;> with_reducible rfl
                (try simp only [Act.put, List.setIfInBounds_toArray, List.set_cons_zero, List.set_cons_succ])
                refine tk (i := 3) (d := (some 70)) (v := ?_) rfl rfl (by kernel_rfl) (by kernel_rfl) (by kernel_rfl) (fun _ _ _ h => h) (Or.inl ⟨by rfl, ?_⟩) hHeld ?_
                rotate_left
                · intro w hSw; have zc0 := keepc hSw c0; have zc1 := keepc hSw c1; have zc2 := keepc hSw c2; clear hSw; go_simp <;> with_reducible rfl
                (try simp only [Act.put, List.setIfInBounds_toArray, List.set_cons_zero, List.set_cons_succ])
                refine tk (i := 4) (d := (some 71)) (v := undef) rfl rfl (by kernel_rfl) (by kernel_rfl) (by kernel_rfl) (fun _ _ _ h => h) (Or.inr ⟨by kernel_rfl, rfl⟩) hHeld ?_
                (try simp only [Act.put, List.setIfInBounds_toArray, List.set_cons_zero, List.set_cons_succ])
                refine tk (i := 5) (d := (some 72)) (v := undef) rfl rfl (by kernel_rfl) (by kernel_rfl) (by kernel_rfl) (fun _ _ _ h => h) (Or.inr ⟨by kernel_rfl, rfl⟩) hHeld ?_
                (try simp only [Act.put, List.setIfInBounds_toArray, List.set_cons_zero, List.set_cons_succ])
                refine tk (i := 6) (d := (some 73)) (v := undef) rfl rfl (by kernel_rfl) (by kernel_rfl) (by kernel_rfl) (fun _ _ _ h => h) (Or.inr ⟨by kernel_rfl, rfl⟩) hHeld ?_
                (try simp only [Act.put, List.setIfInBounds_toArray, List.set_cons_zero, List.set_cons_succ])
                refine tk (i := 7) (d := (some 74)) (v := undef) rfl rfl (by kernel_rfl) (by kernel_rfl) (by kernel_rfl) (fun _ _ _ h => h) (Or.inr ⟨by kernel_rfl, rfl⟩) hHeld ?_
                (try simp only [Act.put, List.setIfInBounds_toArray, List.set_cons_zero, List.set_cons_succ])
                refine tk (i := 8) (d := (some 75)) (v := undef) rfl rfl (by kernel_rfl) (by kernel_rfl) (by kernel_rfl) (fun _ _ _ h => h) (Or.inr ⟨by kernel_rfl, rfl⟩) hHeld ?_
                (try simp only [Act.put, List.setIfInBounds_toArray, List.set_cons_zero, List.set_cons_succ])
                refine tk (i := 9) (d := (some 76)) (v := undef) rfl rfl (by kernel_rfl) (by kernel_rfl) (by kernel_rfl) (fun _ _ _ h => h) (Or.inr ⟨by kernel_rfl, rfl⟩) hHeld ?_
                (try simp only [Act.put, List.setIfInBounds_toArray, List.set_cons_zero, List.set_cons_succ])
                refine tk (i := 10) (d := (some 77)) (v := ?_) rfl rfl (by kernel_rfl) (by kernel_rfl) (by kernel_rfl) (fun _ _ _ h => h) (Or.inl ⟨by rfl, ?_⟩) hHeld ?_
                rotate_left
                · intro w hSw; have zc0 := keepc hSw c0; have zc1 := keepc hSw c1; have zc2 := keepc hSw c2; clear hSw; go_simp <;> with_reducible rfl
                (try simp only [Act.put, List.setIfInBounds_toArray, List.set_cons_zero, List.set_cons_succ])
                refine wpAnyH_done (by kernel_rfl) ?_ _
                replace hb := chn hb hHeld; clear hHeld
                go_wp2
                go_roundw
                case rel => exact ⟨(k+1+1), by omega, by go_num, ASK.out HUQ.out (fun h => (by exfalso; omega)), by repeat (first | exact hb | refine Below.alloc ?_ (by have := hb.size; simp; try omega) _)⟩
                case measure => simp [intOf]; omega
        · obtain rfl : r = false := HNO.out (fun h => by have := mless_at xs k f ⟨ep, ek, ex⟩ HFF.out h.2.1; rw [hle] at this; cases this)
          rcases hk1 with n1 | ⟨n1, q1⟩
          all_goals
            go_wp2_with fail
            refine (sPathOk_c ep true HP1 _ HZ1.out).mono ?_; rintro e W ⟨rfl, hq⟩; replace hb := chn hb hq; replace c0 := keepc hq c0; replace c1 := keepc hq c1; replace c2 := keepc hq c2; replace c3 := keepc hq c3; clear hq
            go_wp2_with fail
            refine (l2Data_c ex true HP2 _ HZ2.out).mono ?_; rintro e' W' ⟨rfl, rfl⟩
            go_wp2_with fail
            refine wp_region_held_drew (S := fun w' => Below _ _ w') (by kernel_rfl) (below_drew _) (fun hHeld => ?_)
            refine tk (i := 0) (d := (some 45)) (v := ?_) rfl rfl (by kernel_rfl) (by kernel_rfl) (by kernel_rfl) (fun _ _ _ h => h) (Or.inl ⟨by rfl, ?_⟩) hHeld ?_
            rotate_left
            · intro w hSw; have zc0 := keepc hSw c0; have zc1 := keepc hSw c1; have zc2 := keepc hSw c2; have zc3 := keepc hSw c3; clear hSw; go_simp <;> with_reducible rfl
            (try simp only [Act.put, List.setIfInBounds_toArray, List.set_cons_zero, List.set_cons_succ])
            refine tk (i := 1) (d := (some 46)) (v := ?_) rfl rfl (by kernel_rfl) (by kernel_rfl) (by kernel_rfl) (fun _ _ _ h => h) (Or.inl ⟨by rfl, ?_⟩) hHeld ?_
            rotate_left
            · intro w hSw; have zc0 := keepc hSw c0; have zc1 := keepc hSw c1; have zc2 := keepc hSw c2; have zc3 := keepc hSw c3; clear hSw; go_simp <;> with_reducible rfl
            (try simp only [Act.put, List.setIfInBounds_toArray, List.set_cons_zero, List.set_cons_succ])
            refine tk (i := 2) (d := (some 47)) (v := ?_) rfl rfl (by kernel_rfl) (by kernel_rfl) (by kernel_rfl) (fun _ _ _ h => h) (Or.inl ⟨by rfl, ?_⟩) hHeld ?_
            rotate_left
            · intro w hSw; have zc0 := keepc hSw c0; have zc1 := keepc hSw c1; have zc2 := keepc hSw c2; have zc3 := keepc hSw c3; clear hSw; go_simp <;> with_reducible rfl
            (try simp only [Act.put, List.setIfInBounds_toArray, List.set_cons_zero, List.set_cons_succ])
            refine tk (i := 3) (d := (some 48)) (v := ?_) rfl rfl (by kernel_rfl) (by kernel_rfl) (by kernel_rfl) (fun _ _ _ h => h) (Or.inl ⟨by rfl, ?_⟩) hHeld ?_
            rotate_left
            · intro w hSw; have zc0 := keepc hSw c0; have zc1 := keepc hSw c1; have zc2 := keepc hSw c2; have zc3 := keepc hSw c3; clear hSw; go_simp <;> with_reducible rfl
            (try simp only [Act.put, List.setIfInBounds_toArray, List.set_cons_zero, List.set_cons_succ])
            refine tk (i := 4) (d := (some 49)) (v := ?_) rfl rfl (by kernel_rfl) (by kernel_rfl) (by kernel_rfl) (fun _ _ _ h => h) (Or.inl ⟨by rfl, ?_⟩) hHeld ?_
            rotate_left
            · intro w hSw; have zc0 := keepc hSw c0; have zc1 := keepc hSw c1; have zc2 := keepc hSw c2; have zc3 := keepc hSw c3; clear hSw; go_simp <;> with_reducible rfl
            (try simp only [Act.put, List.setIfInBounds_toArray, List.set_cons_zero, List.set_cons_succ])
            refine tk (i := 5) (d := (some 50)) (v := ?_) rfl rfl (by kernel_rfl) (by kernel_rfl) (by kernel_rfl) (fun _ _ _ h => h) (Or.inl ⟨by rfl, ?_⟩) hHeld ?_
            rotate_left
            · intro w hSw; have zc0 := keepc hSw c0; have zc1 := keepc hSw c1; have zc2 := keepc hSw c2; have zc3 := keepc hSw c3; clear hSw; go_simp <;> with_reducible rfl
            (try simp only [Act.put, List.setIfInBounds_toArray, List.set_cons_zero, List.set_cons_succ])
            refine tk (i := 6) (d := (some 51)) (v := ?_) rfl rfl (by kernel_rfl) (by kernel_rfl) (by kernel_rfl) (fun _ _ _ h => h) (Or.inl ⟨by rfl, ?_⟩) hHeld ?_
            rotate_left
            · intro w hSw; have zc0 := keepc hSw c0; have zc1 := keepc hSw c1; have zc2 := keepc hSw c2; have zc3 := keepc hSw c3; clear hSw; go_simp <;> with_reducible rfl
            (try simp only [Act.put, List.setIfInBounds_toArray, List.set_cons_zero, List.set_cons_succ])
            refine tk (i := 7) (d := (some 52)) (v := ?_) rfl rfl (by kernel_rfl) (by kernel_rfl) (by kernel_rfl) (fun _ _ _ h => h) (Or.inl ⟨by rfl, ?_⟩) hHeld ?_
            rotate_left
            · intro w hSw; have zc0 := keepc hSw c0; have zc1 := keepc hSw c1; have zc2 := keepc hSw c2; have zc3 := keepc hSw c3; clear hSw; go_simp <;> with_reducible rfl
            (try simp only [Act.put, List.setIfInBounds_toArray, List.set_cons_zero, List.set_cons_succ])
            refine tk (i := 8) (d := (some 53)) (v := ?_) rfl rfl (by kernel_rfl) (by kernel_rfl) (by kernel_rfl) (fun _ _ _ h => h) (Or.inl ⟨by rfl, ?_⟩) hHeld ?_
            rotate_left
            · intro w hSw; have zc0 := keepc hSw c0; have zc1 := keepc hSw c1; have zc2 := keepc hSw c2; have zc3 := keepc hSw c3; clear hSw; go_simp <;> with_reducible rfl
            (try simp only [Act.put, List.setIfInBounds_toArray, List.set_cons_zero, List.set_cons_succ])
            refine tk (i := 9) (d := (some 54)) (v := ?_) rfl rfl (by kernel_rfl) (by kernel_rfl) (by kernel_rfl) (fun _ _ _ h => h) (Or.inl ⟨by rfl, ?_⟩) hHeld ?_
            rotate_left
            · intro w hSw; have zc0 := keepc hSw c0; have zc1 := keepc hSw c1; have zc2 := keepc hSw c2; have zc3 := keepc hSw c3; clear hSw; go_simp <;> with_reducible rfl
            (try simp only [Act.put, List.setIfInBounds_toArray, List.set_cons_zero, List.set_cons_succ])
            refine tk (i := 10) (d := (some 55)) (v := ?_) rfl rfl (by kernel_rfl) (by kernel_rfl) (by kernel_rfl) (fun _ _ _ h => h) (Or.inl ⟨by rfl, ?_⟩) hHeld ?_
            rotate_left
            · intro w hSw; have zc0 := keepc hSw c0; have zc1 := keepc hSw c1; have zc2 := keepc hSw c2; have zc3 := keepc hSw c3; clear hSw; go_simp <;> with_reducible rfl
            (try simp only [Act.put, List.setIfInBounds_toArray, List.set_cons_zero, List.set_cons_succ])
            refine tk (i := 11) (d := (some 56)) (v := ?_) rfl rfl (by kernel_rfl) (by kernel_rfl) (by kernel_rfl) (fun _ _ _ h => h) (Or.inl ⟨by rfl, ?_⟩) hHeld ?_
            rotate_left
            · intro w hSw; have zc0 := keepc hSw c0; have zc1 := keepc hSw c1; have zc2 := keepc hSw c2; have zc3 := keepc hSw c3; clear hSw; go_simp <;> with_reducible rfl
            (try simp only [Act.put, List.setIfInBounds_toArray, List.set_cons_zero, List.set_cons_succ])
            refine tk (i := 12) (d := (some 57)) (v := ?_) rfl rfl (by kernel_rfl) (by kernel_rfl) (by kernel_rfl) (fun _ _ _ h => h) (Or.inl ⟨by rfl, ?_⟩) hHeld ?_
            rotate_left
            · intro w hSw; have zc0 := keepc hSw c0; have zc1 := keepc hSw c1; have zc2 := keepc hSw c2; have zc3 := keepc hSw c3; clear hSw; go_simp <;> with_reducible rfl
            (try simp only [Act.put, List.setIfInBounds_toArray, List.set_cons_zero, List.set_cons_succ])
            refine tk (i := 13) (d := (some 58)) (v := ?_) rfl rfl (by kernel_rfl) (by kernel_rfl) (by kernel_rfl) (fun _ _ _ h => h) (Or.inl ⟨by rfl, ?_⟩) hHeld ?_
            rotate_left
            · intro w hSw; have zc0 := keepc hSw c0; have zc1 := keepc hSw c1; have zc2 := keepc hSw c2; have zc3 := keepc hSw c3; clear hSw; go_simp <;> with_reducible rfl
            (try simp only [Act.put, List.setIfInBounds_toArray, List.set_cons_zero, List.set_cons_succ])
            refine tk (i := 14) (d := (some 59)) (v := undef) rfl rfl (by kernel_rfl) (by kernel_rfl) (by kernel_rfl) (fun _ _ _ h => h) (Or.inr ⟨by kernel_rfl, rfl⟩) hHeld ?_
            (try simp only [Act.put, List.setIfInBounds_toArray, List.set_cons_zero, List.set_cons_succ])
            refine tk (i := 15) (d := (some 60)) (v := undef) rfl rfl (by kernel_rfl) (by kernel_rfl) (by kernel_rfl) (fun _ _ _ h => h) (Or.inr ⟨by kernel_rfl, rfl⟩) hHeld ?_
            (try simp only [Act.put, List.setIfInBounds_toArray, List.set_cons_zero, List.set_cons_succ])
            refine tk (i := 16) (d := (some 61)) (v := undef) rfl rfl (by kernel_rfl) (by kernel_rfl) (by kernel_rfl) (fun _ _ _ h => h) (Or.inr ⟨by kernel_rfl, rfl⟩) hHeld ?_
            (try simp only [Act.put, List.setIfInBounds_toArray, List.set_cons_zero, List.set_cons_succ])
            refine tk (i := 17) (d := (some 62)) (v := undef) rfl rfl (by kernel_rfl) (by kernel_rfl) (by kernel_rfl) (fun _ _ _ h => h) (Or.inr ⟨by kernel_rfl, rfl⟩) hHeld ?_
            (try simp only [Act.put, List.setIfInBounds_toArray, List.set_cons_zero, List.set_cons_succ])
            refine tk (i := 18) (d := (some 63)) (v := undef) rfl rfl (by kernel_rfl) (by kernel_rfl) (by kernel_rfl) (fun _ _ _ h => h) (Or.inr ⟨by kernel_rfl, rfl⟩) hHeld ?_
            (try simp only [Act.put, List.setIfInBounds_toArray, List.set_cons_zero, List.set_cons_succ])
            refine tk (i := 19) (d := (some 64)) (v := undef) rfl rfl (by kernel_rfl) (by kernel_rfl) (by kernel_rfl) (fun _ _ _ h => h) (Or.inr ⟨by kernel_rfl, rfl⟩) hHeld ?_
            (try simp only [Act.put, List.setIfInBounds_toArray, List.set_cons_zero, List.set_cons_succ])
            refine tk (i := 20) (d := (some 65)) (v := undef) rfl rfl (by kernel_rfl) (by kernel_rfl) (by kernel_rfl) (fun _ _ _ h => h) (Or.inr ⟨by kernel_rfl, rfl⟩) hHeld ?_
            (try simp only [Act.put, List.setIfInBounds_toArray, List.set_cons_zero, List.set_cons_succ])
            refine tk (i := 21) (d := (some 66)) (v := ?_) rfl rfl (by kernel_rfl) (by kernel_rfl) (by kernel_rfl) (fun _ _ _ h => h) (Or.inl ⟨by rfl, ?_⟩) hHeld ?_
            rotate_left
            · intro w hSw; have zc0 := keepc hSw c0; have zc1 := keepc hSw c1; have zc2 := keepc hSw c2; have zc3 := keepc hSw c3; clear hSw; go_simp <;> with_reducible rfl
            (try simp only [Act.put, List.setIfInBounds_toArray, List.set_cons_zero, List.set_cons_succ])
            refine wpAnyH_done (by kernel_rfl) ?_ _
            replace hb := chn hb hHeld; clear hHeld
            go_wp2
            go_ret
            exact ⟨rfl, by repeat (first | exact hb | refine Below.alloc ?_ (by have := hb.size; simp; try omega) _)⟩
    · have HFIN : Hid (n ≤ 32 → r = true) := fun h => hR.out.2 ⟨h, fun j e he => HA.out j e (by have := (List.getElem?_eq_some_iff.1 he).1; rw [HN.out] at this; omega) he⟩
      by_cases h32 : n ≤ 32
      · obtain rfl : r = true := HFIN.out h32
        go_wp2
        go_ret
        exact ⟨ret_bool (by simp; try omega), hb⟩
      · obtain rfl : r = false := by
          cases r
          · rfl
          · have := (hR.out.1 rfl).1; omega
        go_wp2
        go_ret
        exact ⟨ret_bool (by simp; try omega), hb⟩
end Go.Proofs.YtnmjidjhloodbaaGreatDoor
namespace Go.Proofs.YtnmjidjhloodbaaGreatDoor
open Go.RowKit
/-- What the reference keeps of the tree. -/
def freeT (l : List PM) (t : List PE) : List PE := t.filter fun e => !hidesL l e.p
theorem freeT_snoc (l : List PM) (xs : List En) (k : Nat) (e : En) (he : xs[k]? = some e) (ms : List En) (h : ms.map En.pl = freeT l ((xs.take k).map En.pl)) :
    (ms ++ if hidesL l e.p.data.toList = true then [] else [e]).map En.pl = freeT l ((xs.take (k + 1)).map En.pl) := by
  rw [take_pl xs k e he]
  unfold freeT at *
  rw [List.filter_append, List.map_append, h]
  congr 1
  rw [List.filter_cons, show e.pl.p = e.p.data.toList from rfl]
  cases hidesL l e.p.data.toList <;> rfl
theorem freeT_len (l : List PM) (xs : List En) (k : Nat) (ms : List En) (h : ms.map En.pl = freeT l ((xs.take k).map En.pl)) : ms.length ≤ k := by
  have h1 := congrArg List.length h
  have h2 := List.length_filter_le (fun e : PE => !hidesL l e.p) ((xs.take k).map En.pl)
  unfold freeT at h1
  simp only [List.length_map, List.length_take] at h1 h2
  omega
/-- The rest of what the reference makes. -/
def laidT (l : List PM) (pre : List PE) : List PE := ((l.filter fun m => decide (m.k ≠ 3)).map toE).foldl (putP PE.p) pre
theorem laidT_snoc (xs : List Mk) (k : Nat) (e : Mk) (he : xs[k]? = some e) (pre : List PE) : laidT ((xs.take (k + 1)).map Mk.pl) pre = if e.k = 3 then laidT ((xs.take k).map Mk.pl) pre else putP PE.p (laidT ((xs.take k).map Mk.pl) pre) (toE e.pl) := by
  unfold laidT
  rw [take_ml xs k e he, List.filter_append, List.map_append, List.foldl_append, List.filter_cons, show e.pl.k = e.k from rfl]
  by_cases h3 : e.k = 3
  · rw [if_pos h3, if_neg (by simp [h3])]; rfl
  · rw [if_neg h3, if_pos (by simp [h3])]; rfl
set_option maxRecDepth 100000 in
set_option maxHeartbeats 8000000 in
theorem l3On_c (a a' : Option Addr) (c c' : Nat) (xs : List Mk) (ys : List En) (w : World) (hs : SlF Mk.cells w a xs) (hs' : SlF En.cells w a' ys) (hl : LOk (xs.map Mk.pl)) (ht : TOk (ys.map En.pl)) (hz : ∀ e ∈ xs, e.p.size ≤ 2000000 ∧ e.x.size ≤ 2000000) (hz' : ∀ e ∈ ys, e.p.size ≤ 2000000 ∧ e.x.size ≤ 2000000) :
    Calls Tryz.prog 35 #[.slice a xs.length c, .slice a' ys.length c'] w (MadeEl (onL (xs.map Mk.pl) (ys.map En.pl)) w) := by
  have HE := eltEn
  have hx32 : xs.length ≤ 32 := by have := hl.most; rw [List.length_map] at this; exact this
  have hy16 : ys.length ≤ 16 := by have := ht.most; rw [List.length_map] at this; exact this
  have hxm : xs.length ≤ maxLen := by unfold maxLen; omega
  have GH := fun (q : ByteArray) (hp : pathOkL q.data.toList = true) (hq : q.size ≤ 2000000) (r : Bool) (hr : Hid (hidesL (xs.map Mk.pl) q.data.toList = r)) W (h : SlF Mk.cells W a xs) => Lib.hid (l3Hides_c a c xs q r (by rw [Hid, hideQ_eq hp (fun m hm => hl.pth hm)]; exact hr) W h hxm hq hz)
  have HPY : Hid (∀ e ∈ ys, pathOkL e.p.data.toList = true) := fun e he => ht.pth (e := e.pl) (List.mem_map_of_mem he)
  have HMK : Hid (∀ e ∈ xs, markOkL e.pl = true) := fun e he => hl.mks e.pl (List.mem_map_of_mem he)
  have HS := Lib.hid hs
  have HS' := Lib.hid hs'
  have HZ := Lib.hid hz
  have HZ' := Lib.hid hz'
  obtain ⟨n, hn⟩ : ∃ n, xs.length = n := ⟨_, rfl⟩
  obtain ⟨n', hn'⟩ : ∃ n, ys.length = n := ⟨_, rfl⟩
  have HN := Lib.hid hn
  have HN' := Lib.hid hn'
  have HALL : Hid (xs.take n = xs) := by rw [Hid, ← hn, List.take_length]
  have HALL' : Hid (ys.take n' = ys) := by rw [Hid, ← hn', List.take_length]
  rw [hn] at hx32 GH ⊢
  rw [hn'] at hy16 ⊢
  have HGH := Lib.hid GH
  clear hs hs' hz hz' hn hn' GH hxm hl ht
  go_enter Tryz.func35, Tryz.ntmps35
  go_wp2
  go_loopw [5, 6] (fun v i wr => ∃ (k : Nat) (ms : List En), k ≤ n' ∧ i = .int .i64 k ∧ ms.map En.pl = freeT (xs.map Mk.pl) ((ys.take k).map En.pl) ∧ v.ownBlock ≠ none ∧ wr.ownsRow w.heap.size 52 3 v ms.length (ms.flatMap En.cells) ∧ Below w.heap.size w wr) (fun _ i _ => n' - (intOf i).toNat)
  case atStart => exact ⟨0, [], Nat.zero_le _, rfl, rfl, by simp [Value.ownBlock], World.ownsRow_lit w #[] 0 (Nat.le_refl _) (Nat.zero_le _) rfl, bellow_alloc _ _⟩
  case round =>
    obtain ⟨k, ms, hk, rfl, hms, hvn, hown, hb⟩ := hrel
    have HMS := Lib.hid hms
    have hml := freeT_len _ _ _ _ hms
    have HVN := Lib.hid hvn
    clear hms hvn
    by_cases hlt : k < n'
    · obtain ⟨e, hee⟩ : ∃ e, ys[k]? = some e := ⟨_, List.getElem?_eq_getElem (by rw [HN'.out]; exact hlt)⟩
      have hzz := HZ'.out e (List.mem_of_getElem? hee)
      have hpp := HPY.out e (List.mem_of_getElem? hee)
      have hsx := HS.out.below hb
      have hsy := HS'.out.below hb
      obtain ⟨b', off', rfl, _⟩ := hsy.addr (by rw [HN'.out]; omega)
      obtain ⟨d0, d1, d2⟩ := en_at hsy k e hee
      have HSN := Lib.hid (freeT_snoc (xs.map Mk.pl) ys k e hee ms HMS.out)
      obtain ⟨r, hr⟩ : ∃ r, hidesL (xs.map Mk.pl) e.p.data.toList = r := ⟨_, rfl⟩
      have HR := Lib.hid hr
      rw [hr] at HSN
      obtain ⟨ep, ed, ex⟩ := e
      clear hee hr hsy
      have i0 : (0 : Int) ≤ (k : Int) := by omega
      have i1 : (k : Int) < (n' : Int) := by omega
      go_wp2_with fail
      refine ((HGH.out ep hpp hzz.1 r HR _ hsx).out).mono ?_; rintro e W ⟨rfl, hq⟩; replace hb := chn hb hq; replace hsx := SlF.below hsx hq; replace hown := own_below hown hq; replace d0 := keepc hq d0; replace d1 := keepc hq d1; replace d2 := keepc hq d2; clear hq
      cases r with
      | true =>
        have HSM : Hid (ms.map En.pl = freeT (xs.map Mk.pl) ((ys.take (k + 1)).map En.pl)) := by
          have h := HSN.out; rw [if_pos rfl, List.append_nil] at h; exact h
        go_wp2
        go_roundw
        case rel => exact ⟨k + 1, ms, by omega, by go_num, HSM.out, HVN.out, hown, hb⟩
        case measure => simp [intOf]; omega
      | false =>
        have HSM : Hid ((ms ++ [(⟨ep, ed, ex⟩ : En)]).map En.pl = freeT (xs.map Mk.pl) ((ys.take (k + 1)).map En.pl)) := HSN
        go_wp2_with (at_builtin; go_must (refine wp_app1 (by rfl) _ _ 27 (by rfl) HE w.heap.size w.heap.size w _ #[.string ep, .bool ed, .string ex] _ _ _ (by rfl) (by rfl) hown (by rfl) (by simp [Value.oneCell']) (by omega) hb.size hb (Nat.le_refl _) ?_); intro v' w1 hown1 hbel1 _ _)
        go_roundw
        case rel => exact ⟨k + 1, ms ++ [⟨ep, ed, ex⟩], by omega, by go_num, HSM.out, by rcases hown1.2 with ⟨rfl, h0⟩ | ⟨g, cap, cur, rfl, _⟩ <;> simp [Value.ownBlock] at *, by rw [← flat_app]; simpa using hown1, hbel1⟩
        case measure => simp [intOf]; omega
    · obtain rfl : k = n' := by omega
      have HMK2 : Hid (ms.map En.pl = freeT (xs.map Mk.pl) (ys.map En.pl)) := by rw [Hid, HMS.out, HALL'.out]
      have HOWR := Lib.hid (ownRe_of hown HVN.out)
      have HBK := Lib.hid hb
      have HML := Lib.hid hml
      clear hown hb hml HMS HVN
      go_wp2
      go_loopw [5, 7] (fun v i wr => ∃ (j : Nat) (ns : List En), j ≤ n ∧ ns.length ≤ 16 + j ∧ i = .int .i64 j ∧ ns.map En.pl = laidT ((xs.take j).map Mk.pl) (freeT (xs.map Mk.pl) (ys.map En.pl)) ∧ OwnRe wr w.heap.size v ns ∧ Below w.heap.size w wr) (fun _ i _ => n - (intOf i).toNat)
      case atStart => exact ⟨0, ms, Nat.zero_le _, by have := HML.out; omega, rfl, HMK2.out, HOWR.out, HBK.out⟩
      case round =>
        obtain ⟨j, ns, hj, hnl, rfl, hns, hown, hb⟩ := hrel
        have HNS := Lib.hid hns
        clear hns
        by_cases hlt2 : j < n
        · obtain ⟨e, hee⟩ : ∃ e, xs[j]? = some e := ⟨_, List.getElem?_eq_getElem (by rw [HN.out]; exact hlt2)⟩
          have hmk := HMK.out e (List.mem_of_getElem? hee)
          have hkk := markOk_kind hmk
          have hk1 : 1 ≤ e.k := hkk.1
          have hk4 : e.k ≤ 4 := hkk.2
          have hsx := HS.out.below hb
          obtain ⟨b, off, rfl, _⟩ := hsx.addr (by rw [HN.out]; omega)
          obtain ⟨d0, d1, d2⟩ := mk_at hsx j e hee
          have HSN := Lib.hid (laidT_snoc xs j e hee (freeT (xs.map Mk.pl) (ys.map En.pl)))
          have hnx : e.k ≠ 1 → e.x = ⟨#[]⟩ := fun h => bytes_eq (markOk_none hmk h)
          obtain ⟨ep, ek, ex⟩ := e
          have i0 : (0 : Int) ≤ (j : Int) := by omega
          have i1 : (j : Int) < (n : Int) := by omega
          clear hee hmk hkk hsx
          change 1 ≤ ek at hk1
          change ek ≤ 4 at hk4
          by_cases h1 : ek = 1
          · subst h1
            have HK3 := Lib.hid (by decide : ¬ (1 : Int) = 3)
            have HTE : Hid (toE (Mk.pl ⟨ep, 1, ex⟩) = En.pl ⟨ep, false, ex⟩) := rfl
            have hpl := eput_len ns ⟨ep, false, ex⟩
            have HNS2 : Hid ((putP En.bs ns ⟨ep, false, ex⟩).map En.pl = laidT ((xs.take (j + 1)).map Mk.pl) (freeT (xs.map Mk.pl) (ys.map En.pl))) := by
              rw [Hid, HSN.out, if_neg HK3.out, ← HNS.out, putP_map En.pl (f := En.bs) (g := PE.p) (fun _ => rfl)]
              exact congrArg (putP PE.p _) HTE.out.symm
            clear hnx hk1 hk4
            go_wp2_with fail
            go_still_tail 12, (by kernel_rfl)
            repeat still_step
            (try refine wpStill_nil ?_)
            change wpList _ _ _ _ _ wr.drew
            replace hb := chn hb (below_drew wr)
            replace hown := hown.below (below_drew wr)
            generalize wr.drew = W0 at hb hown ⊢
            go_wp2_with fail
            refine (l2PutO_c w.heap.size _ ns ⟨ep, false, ex⟩ _ hown hb.size (by omega)).mono ?_
            rintro e W2 ⟨v2, rfl, ho2, hq⟩
            replace hb := chn hb hq
            go_wp2
            go_roundw
            case rel => exact ⟨j + 1, _, by omega, by omega, by go_num, HNS2.out, ho2, hb⟩
            case measure => simp [intOf]; omega
          · have hx0 := hnx h1
            simp only at hx0
            subst hx0
            have n1 : (ek == 1) = false := by rw [beq_eq_false_iff_ne]; exact h1
            by_cases h3 : ek = 3
            · have n2 : (ek == 2) = false := by rw [beq_eq_false_iff_ne]; omega
              have n4 : (ek == 4) = false := by rw [beq_eq_false_iff_ne]; omega
              have HSM : Hid (ns.map En.pl = laidT ((xs.take (j + 1)).map Mk.pl) (freeT (xs.map Mk.pl) (ys.map En.pl))) := by rw [Hid, HSN.out, if_pos h3]; exact HNS.out
              clear h1 h3 hnx hk1 hk4
              go_wp2
              go_roundw
              case rel => exact ⟨j + 1, ns, by omega, by omega, by go_num, HSM.out, hown, hb⟩
              case measure => simp [intOf]; omega
            · have HK3 := Lib.hid h3
              by_cases h2 : ek = 2
              · subst h2
                have HTE : Hid (toE (Mk.pl ⟨ep, 2, ⟨#[]⟩⟩) = En.pl ⟨ep, true, ⟨#[]⟩⟩) := rfl
                have hpl := eput_len ns ⟨ep, true, ⟨#[]⟩⟩
                have HNS2 : Hid ((putP En.bs ns ⟨ep, true, ⟨#[]⟩⟩).map En.pl = laidT ((xs.take (j + 1)).map Mk.pl) (freeT (xs.map Mk.pl) (ys.map En.pl))) := by
                  rw [Hid, HSN.out, if_neg HK3.out, ← HNS.out, putP_map En.pl (f := En.bs) (g := PE.p) (fun _ => rfl)]
                  exact congrArg (putP PE.p _) HTE.out.symm
                clear hnx hk1 hk4 h1 h3
                go_wp2_with fail
                refine (l2PutO_c w.heap.size _ ns ⟨ep, true, ⟨#[]⟩⟩ _ hown hb.size (by omega)).mono ?_
                rintro e W2 ⟨v2, rfl, ho2, hq⟩
                replace hb := chn hb hq
                go_wp2
                go_roundw
                case rel => exact ⟨j + 1, _, by omega, by omega, by go_num, HNS2.out, ho2, hb⟩
                case measure => simp [intOf]; omega
              · have h4 : ek = 4 := by omega
                subst h4
                have HTE : Hid (toE (Mk.pl ⟨ep, 4, ⟨#[]⟩⟩) = En.pl ⟨ep, true, ⟨#[]⟩⟩) := rfl
                have hpl := eput_len ns ⟨ep, true, ⟨#[]⟩⟩
                have HNS2 : Hid ((putP En.bs ns ⟨ep, true, ⟨#[]⟩⟩).map En.pl = laidT ((xs.take (j + 1)).map Mk.pl) (freeT (xs.map Mk.pl) (ys.map En.pl))) := by
                  rw [Hid, HSN.out, if_neg HK3.out, ← HNS.out, putP_map En.pl (f := En.bs) (g := PE.p) (fun _ => rfl)]
                  exact congrArg (putP PE.p _) HTE.out.symm
                clear hnx hk1 hk4 h1 h3 h2
                go_wp2_with fail
                refine (l2PutO_c w.heap.size _ ns ⟨ep, true, ⟨#[]⟩⟩ _ hown hb.size (by omega)).mono ?_
                rintro e W2 ⟨v2, rfl, ho2, hq⟩
                replace hb := chn hb hq
                go_wp2
                go_roundw
                case rel => exact ⟨j + 1, _, by omega, by omega, by go_num, HNS2.out, ho2, hb⟩
                case measure => simp [intOf]; omega
        · obtain rfl : j = n := by omega
          have HRAW : Hid (ns.map En.pl = onL (xs.map Mk.pl) (ys.map En.pl)) := by rw [Hid, HNS.out, HALL.out]; rfl
          go_wp2
          go_ret
          exact ⟨_, ns, rfl, HRAW.out, hown, hb⟩
set_option maxRecDepth 100000 in
set_option maxHeartbeats 8000000 in
theorem sLayerOn_c (a a' : Option Addr) (c c' : Nat) (xs : List Mk) (ys : List En) (w : World) (hs : SlF Mk.cells w a xs) (hs' : SlF En.cells w a' ys) (hx : xs.length ≤ maxLen) (hy : ys.length ≤ maxLen) (hc : xs.length ≤ c) (hc' : ys.length ≤ c') (hz : ∀ e ∈ xs, e.p.size ≤ 2000000 ∧ e.x.size ≤ 2000000) (hz' : ∀ e ∈ ys, e.p.size ≤ 2000000 ∧ e.x.size ≤ 2000000) :
    Calls Tryz.prog 15 #[.slice a xs.length c, .slice a' ys.length c'] w (MadeEb (lonL (xs.map Mk.pl) (ys.map En.pl)) (lonB (xs.map Mk.pl) (ys.map En.pl)) w) := by
  have hm2 : (2000000 : Nat) ≤ maxLen := by unfold maxLen; omega
  have hb := Below.refl w.heap.size w
  obtain ⟨r, hr⟩ := lok_dec xs
  obtain ⟨r', hr'⟩ := tok_dec ys
  have HT := Lib.hid (sLayerOk_c a c xs r (Lib.hid hr) w hs hx hc hz)
  have HT' := Lib.hid (fun W (h : SlF En.cells W a' ys) => sTreeOk_c a' c' ys r' (Lib.hid hr') W h hy hc' (fun e he => ⟨Nat.le_trans (hz' e he).1 hm2, Nat.le_trans (hz' e he).2 hm2⟩))
  obtain ⟨L, hL⟩ : ∃ L, lonL (xs.map Mk.pl) (ys.map En.pl) = L := ⟨_, rfl⟩
  obtain ⟨B, hB⟩ : ∃ B, lonB (xs.map Mk.pl) (ys.map En.pl) = B := ⟨_, rfl⟩
  have hbd : ¬ (r = true ∧ r' = true) → B = false := fun h => by rw [← hB]; exact lon_bad fun h' => h ⟨hr.2 h'.1, hr'.2 h'.2⟩
  have HBD := Lib.hid hbd
  have HLD : Hid (¬ (r = true ∧ r' = true) → [] = L) := fun h => by rw [← hL]; unfold lonL; rw [hB, hbd h]; rfl
  have HON := Lib.hid (fun (h : r = true) (h' : r' = true) W (k : SlF Mk.cells W a xs) (k' : SlF En.cells W a' ys) => l3On_c a a' c c' xs ys W k k' (hr.1 h) (hr'.1 h') hz hz')
  have HBE : Hid (r = true → r' = true → decide ((onL (xs.map Mk.pl) (ys.map En.pl)).length ≤ 16) = B) := fun h h' => by rw [← hB, lon_ok (hr.1 h) (hr'.1 h')]
  have HLL := Lib.hid hL
  have HBB := Lib.hid hB
  rw [hL, hB]
  have HS := Lib.hid hs
  have HS' := Lib.hid hs'
  obtain ⟨n, hn⟩ : ∃ n, xs.length = n := ⟨_, rfl⟩
  obtain ⟨n', hn'⟩ : ∃ n, ys.length = n := ⟨_, rfl⟩
  rw [hn] at HT HON ⊢
  rw [hn'] at HT' HON ⊢
  clear hr hr' hs hs' hL hB hbd hz hz' hc hc' hx hy hn hn' hm2
  cases r with
  | false =>
    go_enter Tryz.func15, Tryz.ntmps15
    go_wp2_with fail
    refine HT.out.mono ?_; rintro e WS ⟨rfl, hq⟩; replace hb := chn hb hq; clear hq
    go_wp2
    refine bodyPost_ret (v := .tuple #[.slice (some ⟨WS.heap.size, 0, none⟩) 0 0, .bool false]) (by simp [results, Tryz.results15, go_sem]) rfl ⟨some ⟨WS.heap.size, 0, none⟩, 0, [], by rw [HBD.out (by simp)]; rfl, HLD.out (by simp), World.ownsRow_lit _ #[] 0 hb.size (Nat.zero_le _) rfl, hb.alloc hb.size _⟩
  | true =>
  cases r' with
  | false =>
    go_enter Tryz.func15, Tryz.ntmps15
    go_wp2_with fail
    refine (HT.out).mono ?_; rintro e W ⟨rfl, hq⟩; replace hb := chn hb hq; clear hq
    go_wp2_with fail
    refine (HT'.out _ (HS'.out.below hb)).mono ?_; rintro e WS ⟨rfl, hq⟩; replace hb := chn hb hq; clear hq
    go_wp2
    refine bodyPost_ret (v := .tuple #[.slice (some ⟨WS.heap.size, 0, none⟩) 0 0, .bool false]) (by simp [results, Tryz.results15, go_sem]) rfl ⟨some ⟨WS.heap.size, 0, none⟩, 0, [], by rw [HBD.out (by simp)]; rfl, HLD.out (by simp), World.ownsRow_lit _ #[] 0 hb.size (Nat.zero_le _) rfl, hb.alloc hb.size _⟩
  | true =>
    have HJ := Lib.hid (HON.out rfl rfl)
    have HBX := Lib.hid (HBE.out rfl rfl)
    clear HON HBE HBD HLD
    go_enter Tryz.func15, Tryz.ntmps15
    go_wp2_with fail
    refine (HT.out).mono ?_; rintro e W ⟨rfl, hq⟩; replace hb := chn hb hq; clear hq
    go_wp2_with fail
    refine (HT'.out _ (HS'.out.below hb)).mono ?_; rintro e W ⟨rfl, hq⟩; replace hb := chn hb hq; clear hq
    go_wp2_with fail
    refine (HJ.out _ (HS.out.below hb) (HS'.out.below hb)).mono ?_; rintro e WS ⟨v, ms, rfl, hms, ⟨g, c2, rfl, g1, g2, g3⟩, hq⟩
    have HB1 := Lib.hid hb.size
    replace hb := chn hb hq
    have HMS := Lib.hid hms
    have HML : Hid (ms.length = (onL (xs.map Mk.pl) (ys.map En.pl)).length) := by rw [Hid, ← hms, List.length_map]
    rw [← HML.out] at HBX
    clear hms hq
    by_cases h16 : 16 < ms.length
    · have hg : (16 : Int) < (ms.length : Int) := by omega
      obtain rfl : B = false := by rw [← HBX.out, decide_eq_false_iff_not]; omega
      have HL0 : Hid ([] = L) := by rw [Hid, ← HLL.out]; unfold lonL; rw [HBB.out]; rfl
      go_wp2
      refine bodyPost_ret (v := .tuple #[.slice (some ⟨WS.heap.size, 0, none⟩) 0 0, .bool false]) (by simp [results, Tryz.results15, go_sem]) rfl ⟨some ⟨WS.heap.size, 0, none⟩, 0, [], rfl, HL0.out, World.ownsRow_lit _ #[] 0 hb.size (Nat.zero_le _) rfl, hb.alloc hb.size _⟩
    · have hg : decide ((16 : Int) < (ms.length : Int)) = false := by rw [decide_eq_false_iff_not]; omega
      obtain rfl : B = true := by rw [← HBX.out, decide_eq_true_iff]; omega
      have HL1 : Hid (onL (xs.map Mk.pl) (ys.map En.pl) = L) := by rw [Hid, ← HLL.out]; unfold lonL; rw [HBB.out]; rfl
      go_wp2
      refine bodyPost_ret (v := .tuple #[.slice (some ⟨g, 0, none⟩) ms.length c2, .bool true]) (by simp [results, Tryz.results15, go_sem]) rfl ⟨_, c2, ms, rfl, HMS.out.trans HL1.out, own_mono g3 HB1.out, hb⟩
end Go.Proofs.YtnmjidjhloodbaaGreatDoor
namespace Go.Proofs.YtnmjidjhloodbaaGreatDoor
open Go.RowKit
theorem exactLayerOn_w_len (a : List PM) (b : List PE) : (lonL a b).length ≤ 32 := by
  unfold lonL
  split
  · next h =>
      have h2 : LOk a ∧ TOk b ∧ (onL a b).length ≤ 16 := by simpa [lonB] using h
      omega
  · simp
set_option maxRecDepth 100000 in
set_option maxHeartbeats 16000000 in
theorem exactLayerOn_w (a a' : Option Addr) (c c' : Nat) (xs : List Mk) (ys : List En) (w : World) (hs : SlF Mk.cells w a xs) (hs' : SlF En.cells w a' ys) (hx : xs.length ≤ maxLen) (hy : ys.length ≤ maxLen)
    (hz : ∀ e ∈ xs, e.p.size ≤ maxLen ∧ e.x.size ≤ maxLen) (hz' : ∀ e ∈ ys, e.p.size ≤ maxLen ∧ e.x.size ≤ maxLen) :
    Calls Tryz.prog 4 #[.slice a xs.length c, .slice a' ys.length c'] w (TrueS w) := by
  have hb := Below.refl w.heap.size w
  by_cases h1 : 1048576 < (xs.length : Int) + sumW mkW xs
  · have H := Lib.hid (szMarkS_no a c xs 1048576 (by omega) (by omega) h1 w hs hx hz)
    obtain ⟨n, hn⟩ : ∃ n, xs.length = n := ⟨_, rfl⟩
    obtain ⟨n', hn'⟩ : ∃ n, ys.length = n := ⟨_, rfl⟩
    rw [hn] at H ⊢
    rw [hn']
    clear hn hn' hs hs' hx hy hz hz' h1
    go_enter Tryz.func4, Tryz.ntmps4
    go_wp2_with fail
    refine (H.out).mono ?_; rintro e W ⟨rfl, hq⟩; replace hb := chn hb hq; clear hq
    go_wp2
    go_ret
    exact ⟨rfl, hb⟩
  have hl1 : (xs.length : Int) + sumW mkW xs ≤ 1048576 := by omega
  have H1 := Lib.hid (szMarkS_yes a c xs 1048576 (by omega) hl1 w hs)
  obtain ⟨l2, hl2⟩ : ∃ l2 : Int, (1048576 : Int) - xs.length - sumW mkW xs = l2 := ⟨_, rfl⟩
  rw [hl2] at H1
  have hl20 : 0 ≤ l2 := by omega
  have hl21 : l2 ≤ 1048576 := by omega
  by_cases h2 : l2 < (ys.length : Int) + sumW enW ys
  · have H2 := fun W (h : SlF En.cells W a' ys) => Lib.hid (szEntS_no a' c' ys l2 (by omega) (by omega) h2 W h hy hz')
    have HS' := Lib.hid hs'
    obtain ⟨n, hn⟩ : ∃ n, xs.length = n := ⟨_, rfl⟩
    obtain ⟨n', hn'⟩ : ∃ n, ys.length = n := ⟨_, rfl⟩
    rw [hn] at H1 ⊢
    rw [hn'] at H2 ⊢
    have HH2 := Lib.hid H2
    clear hn hn' hs hs' hx hy hz hz' h1 h2 hl1 hl2 H2
    go_enter Tryz.func4, Tryz.ntmps4
    go_wp2_with fail
    refine (H1.out).mono ?_; rintro e W ⟨rfl, hq⟩; replace hb := chn hb hq; clear hq
    go_wp2_with fail
    refine ((HH2.out _ (HS'.out.below hb)).out).mono ?_; rintro e W ⟨rfl, hq⟩; replace hb := chn hb hq; clear hq
    go_wp2
    go_ret
    exact ⟨rfl, hb⟩
  have hl3 : (ys.length : Int) + sumW enW ys ≤ l2 := by omega
  have H2 := fun W (h : SlF En.cells W a' ys) => Lib.hid (szEntS_yes a' c' ys l2 (by omega) hl3 W h)
  obtain ⟨l4, hl4⟩ : ∃ l4 : Int, l2 - ys.length - sumW enW ys = l4 := ⟨_, rfl⟩
  rw [hl4] at H2
  have hl40 : 0 ≤ l4 := by omega
  have hxn : xs.length ≤ 1048576 := by omega
  have hyn : ys.length ≤ 1048576 := by omega
  have hZ := mk_low hl1
  have hZ' := en_low (xs := ys) (by omega)
  obtain ⟨L, hL⟩ : ∃ L, lonL (xs.map Mk.pl) (ys.map En.pl) = L := ⟨_, rfl⟩
  obtain ⟨B, hB⟩ : ∃ B, lonB (xs.map Mk.pl) (ys.map En.pl) = B := ⟨_, rfl⟩
  have hll : L.length ≤ 32 := by rw [← hL]; exact exactLayerOn_w_len _ _
  have hT := fun W (h : SlF Mk.cells W a xs) => Lib.hid (toMarkS_d a c xs W h (by omega))
  have hT' := fun W (h : SlF En.cells W a' ys) => Lib.hid (toEntS_d a' c' ys W h (by omega))
  have hSs := fun W b0 b1 (h : SlF Mk.cells W (some ⟨b0, 0, none⟩) xs) (h' : SlF En.cells W (some ⟨b1, 0, none⟩) ys) (hb0 : b0 < W.heap.size) => Lib.hid (sLayerOn_c (some ⟨b0, 0, none⟩) (some ⟨b1, 0, none⟩) xs.length ys.length xs ys W h h' hx hy (Nat.le_refl _) (Nat.le_refl _) hZ hZ')
  have hSi := fun W a a' c c' (h : SlF Mk.cells W a xs) (h' : SlF En.cells W a' ys) => Lib.hid (layerOn_c a a' c c' xs ys W h h' hx hy hZ hZ')
  have hE := fun W a a' c c' (h : SlF Mk.cells W a xs) (h' : SlF Mk.cells W a' xs) => Lib.hid (eqMarkS_c a a' c c' xs xs true (Lib.hid ⟨fun _ => rfl, fun _ => rfl⟩) W h h' hx hx)
  have hE' := fun W a a' c c' (h : SlF En.cells W a ys) (h' : SlF En.cells W a' ys) => Lib.hid (eqEntS_c a a' c c' ys ys true (Lib.hid ⟨fun _ => rfl, fun _ => rfl⟩) W h h' hy hy)
  obtain ⟨n, hn⟩ : ∃ n, xs.length = n := ⟨_, rfl⟩
  obtain ⟨n', hn'⟩ : ∃ n, ys.length = n := ⟨_, rfl⟩
  rw [hL, hB] at hSs hSi
  rw [hn] at H1 hT hSs hSi hE hxn ⊢
  rw [hn'] at H2 hT' hSs hSi hE' hyn ⊢
  have G2 := Lib.hid H2
  have GT := Lib.hid hT
  have GT' := Lib.hid hT'
  have GS := Lib.hid hSs
  have GI := Lib.hid hSi
  have GE := Lib.hid hE
  have GE' := Lib.hid hE'
  have HS := Lib.hid hs
  have HS' := Lib.hid hs'
  have HLL := Lib.hid hll
  have HQS := fun (a a' : Option Addr) (c c' n : Nat) (ss : List En) (hn : ss.length = n) (hx : n ≤ 2000000) => Lib.hid (fun (W : World) (h : SlF En.cells W a ss) (h' : SlF En.cells W a' ss) => eqEntS_n a a' c c' n ss hn W h h' hx)
  have GQS := Lib.hid HQS
  clear hn hn' hx hy hz hz' hZ hZ' h1 h2 hl1 hl2 hl3 hl4 H2 hT hT' hSs hSi hE hE' hs hs' hL hB hll HQS
  go_enter Tryz.func4, Tryz.ntmps4
  go_wp2_with fail
  refine (H1.out).mono ?_; rintro e W ⟨rfl, hq⟩; replace hb := chn hb hq; clear hq
  go_wp2_with fail
  refine ((G2.out _ (HS'.out.below hb)).out).mono ?_; rintro e W ⟨rfl, hq⟩; replace hb := chn hb hq; clear hq
  go_wp2_with fail
  refine (GT.out _ (HS.out.below hb)).out.mono ?_; rintro e W ⟨rfl, oy, y0, hq⟩; replace hb := chn hb hq
  have hlt := lt_of_own oy
  clear oy hq
  go_wp2_with fail
  refine (GT'.out _ (HS'.out.below hb)).out.mono ?_; rintro e W ⟨rfl, _, y1, hq⟩; replace hb := chn hb hq; replace y0 := SlF.below y0 hq
  have HLT := Lib.hid (Nat.lt_of_lt_of_le hlt hq.size)
  clear hq hlt
  go_wp2_with fail
  refine (GS.out _ _ _ y0 y1 HLT.out).out.mono ?_
  rintro e W1 ⟨av, cs, ss, rfl, hss, oS, hq⟩
  replace hb := chn hb hq
  have HSS := Lib.hid hss
  have hpl : ss.length ≤ 32 := by have := congrArg List.length hss; rw [List.length_map] at this; rw [this]; exact HLL.out
  obtain ⟨p, hp⟩ : ∃ p, ss.length = p := ⟨_, rfl⟩
  unfold OwnEn at oS
  rw [hp] at oS hpl ⊢
  have HP := Lib.hid hp
  have LS := Lib.hid (lt_own oS)
  have HB1 := Lib.hid hb.size
  clear y0 y1 hq hss hp HLT
  go_wp2_with fail
  refine (GT.out _ (HS.out.below hb)).out.mono ?_; rintro e W2 ⟨rfl, oX, sX, hq⟩; replace hb := chn hb hq; replace oS := own_below oS hq
  have HX := Lib.hid (lt_of_own oX)
  have HX1 := Lib.hid hq.size
  clear hq
  go_wp2_with fail
  refine (GT'.out _ (HS'.out.below hb)).out.mono ?_; rintro e W3 ⟨rfl, oY, sY, hq⟩; replace hb := chn hb hq; replace oS := own_below oS hq; replace oX := own_below oX hq; replace sX := SlF.below sX hq
  have HY := Lib.hid (lt_of_own oY)
  clear hq
  go_wp2_with fail
  refine (GI.out _ _ _ _ _ sX sY).out.mono ?_
  rintro e W4 ⟨ag, cg, sg, rfl, hsg, oG, hq⟩
  obtain rfl : sg = ss := map_inj_ En.pl_inj (hsg.trans HSS.out.symm)
  replace hb := chn hb hq; replace oS := own_below oS hq; replace oX := own_below oX hq; replace oY := own_below oY hq; replace sX := SlF.below sX hq; replace sY := SlF.below sY hq
  unfold OwnEn at oG
  rw [HP.out] at oG ⊢
  have LG := Lib.hid (le_own oG)
  clear hsg hq
  go_wp2_with fail
  refine ((GQS.out ag av cg cs p sg HP.out (by omega)).out _ (own_slfN (fun _ => rfl) oG HP.out) (own_slfN (fun _ => rfl) oS HP.out)).mono ?_; rintro e W ⟨rfl, hq⟩; replace hb := chn hb hq; replace sX := SlF.below sX hq; replace sY := SlF.below sY hq; replace oS := own_below oS hq; replace oX := own_below oX hq; replace oY := own_below oY hq; replace oG := own_below oG hq; clear hq
  go_wp2_with fail
  refine (GT.out _ (HS.out.below hb)).out.mono ?_; rintro e W ⟨rfl, _, z0, hq⟩; replace hb := chn hb hq; replace oS := own_below oS hq; replace oX := own_below oX hq; replace oY := own_below oY hq; replace oG := own_below oG hq; replace sX := SlF.below sX hq; replace sY := SlF.below sY hq; clear hq
  go_wp2_with fail
  refine ((GE.out _ _ _ _ _ sX z0).out).mono ?_; rintro e W ⟨rfl, hq⟩; replace hb := chn hb hq; replace sY := SlF.below sY hq; replace oS := own_below oS hq; replace oX := own_below oX hq; replace oY := own_below oY hq; replace oG := own_below oG hq; clear hq
  clear sX z0
  go_wp2_with fail
  refine (GT'.out _ (HS'.out.below hb)).out.mono ?_; rintro e W ⟨rfl, _, z0, hq⟩; replace hb := chn hb hq; replace oS := own_below oS hq; replace oX := own_below oX hq; replace oY := own_below oY hq; replace oG := own_below oG hq; replace sY := SlF.below sY hq; clear hq
  go_wp2_with fail
  refine ((GE'.out _ _ _ _ _ sY z0).out).mono ?_; rintro e W ⟨rfl, hq⟩; replace hb := chn hb hq; replace oS := own_below oS hq; replace oX := own_below oX hq; replace oY := own_below oY hq; replace oG := own_below oG hq; clear hq
  clear sY z0
  go_wp2_with fail
  refine (markMarkS_c W1.heap.size (some ⟨W1.heap.size, 0, none⟩) n n 1 _ _ oX (by omega) (by decide) (by decide)).mono ?_
  rintro e W5 ⟨rfl, _, hg⟩
  replace hb := below_grown hb hb.size hg (fun k hk => by injection hk with hk; rw [← hk]; exact HB1.out)
  replace oS := kept_lt oS hg LS.out
  replace oY := kept_gt oY hg (fun k hk => by injection hk with hk; rw [← hk]; exact HX.out)
  replace oG := kept_gt oG hg (fun k hk => Nat.lt_of_lt_of_le (Nat.lt_trans HX.out HY.out) (LG.out k hk))
  clear hg oX
  have HM2 := Lib.hid (markEntS_c W2.heap.size (some ⟨W2.heap.size, 0, none⟩) n' n' (1 + 3 * n) _ _ oY (by omega) (by omega) (by omega))
  rw [show ((1 + 3 * n : Nat) : Int) = 1 + 3 * (n : Int) by omega] at HM2
  go_wp2_with fail
  refine HM2.out.mono ?_
  rintro e W6 ⟨rfl, _, hg⟩
  replace hb := below_grown hb hb.size hg (fun k hk => by injection hk with hk; rw [← hk]; exact Nat.le_trans HB1.out HX1.out)
  replace oS := kept_lt oS hg (fun k hk => Nat.lt_trans (LS.out k hk) HX.out)
  replace oG := kept_gt oG hg (fun k hk => Nat.lt_of_lt_of_le HY.out (LG.out k hk))
  clear hg oY HM2
  go_wp2_with fail
  refine ((GQS.out ag av cg cs p sg HP.out (by omega)).out _ (own_slfN (fun _ => rfl) oG HP.out) (own_slfN (fun _ => rfl) oS HP.out)).mono ?_; rintro e W ⟨rfl, hq⟩; replace hb := chn hb hq; replace oS := own_below oS hq; replace oG := own_below oG hq; clear hq
  go_wp2_with fail
  refine (markEntS_c W3.heap.size ag cg p 1 _ _ oG (by omega) (by decide) (by decide)).mono ?_
  rintro e W7 ⟨rfl, ⟨LM, oM, hM⟩, hg⟩
  replace hb := below_grown hb hb.size hg (fun k hk => Nat.le_trans HB1.out (Nat.le_trans (Nat.le_of_lt (Nat.lt_trans HX.out HY.out)) (LG.out k hk)))
  replace oS := kept_v oS hg LS.out (fun k hk => Nat.le_trans (Nat.le_of_lt (Nat.lt_trans HX.out HY.out)) (LG.out k hk))
  have HM := Lib.hid hM
  clear hg hM oG
  have HHS := Lib.hid (fun W (h : W.ownsRow W3.heap.size 52 3 (.slice ag p cg) p LM) => heldEntS_c W3.heap.size ag cg p 1 LM W h HM.out (by omega) (by decide) (by decide))
  go_wp2_with fail
  refine (HHS.out _ oM).mono ?_; rintro e W ⟨rfl, hq⟩; replace hb := chn hb hq; replace oS := own_below oS hq; replace oM := own_below oM hq; clear hq
  go_wp2_with fail
  refine (GT.out _ (HS.out.below hb)).out.mono ?_; rintro e W ⟨rfl, _, z0, hq⟩; replace hb := chn hb hq; replace oS := own_below oS hq; replace oM := own_below oM hq; clear hq
  go_wp2_with fail
  refine (GT'.out _ (HS'.out.below hb)).out.mono ?_; rintro e W ⟨rfl, _, z1, hq⟩; replace hb := chn hb hq; replace oS := own_below oS hq; replace oM := own_below oM hq; replace z0 := SlF.below z0 hq; clear hq
  go_wp2_with fail
  refine (GI.out _ _ _ _ _ z0 z1).out.mono ?_
  rintro e W8 ⟨ah, ch, sh, rfl, hsh, oH, hq⟩
  obtain rfl : sh = sg := map_inj_ En.pl_inj (hsh.trans HSS.out.symm)
  unfold OwnEn at oH
  rw [HP.out] at oH ⊢
  replace hb := chn hb hq; replace oS := own_below oS hq; replace oM := own_below oM hq
  clear hsh hq z0 z1
  go_wp2_with fail
  refine ((GQS.out ah av ch cs p sh HP.out (by omega)).out _ (own_slfN (fun _ => rfl) oH HP.out) (own_slfN (fun _ => rfl) oS HP.out)).mono ?_; rintro e W ⟨rfl, hq⟩; replace hb := chn hb hq; replace oM := own_below oM hq; clear hq
  clear oS oH
  go_wp2_with fail
  refine (HHS.out _ oM).mono ?_; rintro e W ⟨rfl, hq⟩; replace hb := chn hb hq; clear hq
  go_wp2
  go_ret
  exact ⟨rfl, hb⟩
end Go.Proofs.YtnmjidjhloodbaaGreatDoor
