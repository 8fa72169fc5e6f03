/- The walks of markAt and LayerOk, of the program and of the reference. The walk of the program's joinMarks. What LayerJoin tells, in plain words. The walk of the reference's l3Tidy. The walk of the reference's l3Put. The walks of the reference's l3Both, l3Join. The walks of the reference's l3Ups. The walks of the reference's LayerOk, and of LayerHides of both. What draws layers: shapes and small laws; the walks of num, l3Layer. What draws layers: the walk of l3Bent. What draws layers: the walks of DrawLayerOk, DrawLayerSame, DrawLayerHides, DrawLayerOn, DrawLayerJoin. The walks of LayerHides, of the program and of the reference. Conditions: each theorem's own. -/
import Derived.Test.YtobbodbkdcbflaaDoorB5
import Derived.Test.YtobbodbkdcbflaaDoorB4
import Derived.Test.YtobbodbkdcbflaaDoorB2
import Derived.StillTailTactics
import Derived.Test.YtobbodbkdcbflaaDoorB6
namespace Go.Proofs.YtobbodbkdcbflaaDoor
open Go.RowKit
abbrev optM (o : Option Mk) : Value := match o with
  | some e => .tuple #[e.val, .bool true]
  | none => .tuple #[.agg #[.string ⟨#[]⟩, .int .i64 0, .string ⟨#[]⟩], .bool false]
set_option maxHeartbeats 2000000 in
theorem markAt_c (a : Option Addr) (c : Nat) (xs : List Mk) (q : ByteArray) (o : Option Mk) (ho : Hid (getM xs q = o)) (w : World) (hs : SlF Mk.cells w a xs) (hx : xs.length ≤ maxLen) :
    Calls Tryd.prog 45 #[.slice a xs.length c, .string q] w fun r w' => r = .returned (optM o) ∧ Below w.heap.size w w' := by
  obtain ⟨n, hn⟩ : ∃ n, xs.length = n := ⟨_, rfl⟩
  rw [hn] at hx ⊢
  unfold maxLen at hx
  have HN := Lib.hid hn
  obtain ⟨z, hz⟩ : ∃ z, w.alloc (.cells #[.string ⟨#[]⟩, .int .i64 0, .string ⟨#[]⟩] 30) = z := ⟨_, rfl⟩
  have HS := Lib.hid (hs.below (hz ▸ bellow_alloc w _ : Below w.heap.size w z))
  have hzs : z.heap.size = w.heap.size + 1 := by rw [← hz]; simp
  have c0 : z.cell? ⟨w.heap.size, 0, none⟩ = some (.string ⟨#[]⟩) := by rw [← hz]; exact new_cell _ _ _ 0 _ rfl
  have c1 : z.cell? ⟨w.heap.size, 1, none⟩ = some (.int .i64 0) := by rw [← hz]; exact new_cell _ _ _ 1 _ rfl
  have c2 : z.cell? ⟨w.heap.size, 2, none⟩ = some (.string ⟨#[]⟩) := by rw [← hz]; exact new_cell _ _ _ 2 _ rfl
  have hfz : ∀ j, z.frozen? ⟨w.heap.size, j, none⟩ = false := fun j => by rw [← hz]; exact new_free w _ _ j
  have HW := Lib.hid (hz ▸ bellow_alloc w _ : Below w.heap.size w z)
  have HF := Lib.hid hfz
  have HC0 := Lib.hid c0
  have HC1 := Lib.hid c1
  have HC2 := Lib.hid c2
  have HZ := Lib.hid hzs
  clear hn hs hzs c0 c1 c2 hfz
  go_enter Tryd.func45, Tryd.ntmps45
  go_wp2
  clear hz
  go_loopw [7, 10] (fun _ i wr => ∃ k : Nat, k ≤ n ∧ i = .int .i64 k ∧ (∀ (j : Nat) (f : Mk), j < k → xs[j]? = some f → f.p.data.toList ≠ q.data.toList) ∧ Below z.heap.size z wr) (fun _ i _ => n - (intOf i).toNat)
  case atStart => exact ⟨0, Nat.zero_le _, rfl, fun j _ h => absurd h (by omega), Below.refl _ _⟩
  case round =>
    obtain ⟨k, hk, rfl, hall, hb⟩ := hrel
    have HA := Lib.hid hall
    clear hall
    have hlt0 : w.heap.size < wr.heap.size := by have := hb.size; rw [HZ.out] at this; omega
    have g0 := keepc hb HC0.out
    have g1 := keepc hb HC1.out
    have g2 := keepc hb HC2.out
    have f0 := (hb.frozen (p := ⟨w.heap.size, 0, none⟩) (by rw [HZ.out]; simp)).trans (HF.out 0)
    have f1 := (hb.frozen (p := ⟨w.heap.size, 1, none⟩) (by rw [HZ.out]; simp)).trans (HF.out 1)
    have f2 := (hb.frozen (p := ⟨w.heap.size, 2, none⟩) (by rw [HZ.out]; simp)).trans (HF.out 2)
    by_cases hlt : k < n
    · obtain ⟨e, hee⟩ : ∃ e, xs[k]? = some e := ⟨_, List.getElem?_eq_getElem (by rw [HN.out]; exact hlt)⟩
      have h2 := (HS.out.below hb)
      obtain ⟨b, off, rfl, _⟩ := h2.addr (by rw [HN.out]; omega)
      obtain ⟨c0, c1, c2⟩ := mk_at h2 k e hee
      have hg := getM_skip xs q k e hee HA.out
      have HG := Lib.hid hg
      have HEE := Lib.hid hee
      clear h2 hg hee
      by_cases heq : e.p.data.toList = q.data.toList
      · have hq := beqs_yes heq
        obtain rfl : o = some e := by rw [← ho.out, HG.out, if_pos heq]
        clear heq
        go_wp2
        obtain ⟨q0, q1, q2⟩ := three_set wr w.heap.size _ _ _ (.string e.p) (.int .i64 e.k) (.string e.x) g0 g1 g2 (.cells #[.string e.p, .int .i64 e.k, .string e.x] 30)
        refine bodyPost_ret (v := optM (some e)) (by simp [results, Tryd.results45, go_sem, q0, q1, q2]) rfl ⟨rfl, ?_⟩
        have HB := HW.out.trans (hb.mono (by rw [HZ.out]; omega))
        repeat (first | exact HB | refine Below.alloc ?_ (by simp; try omega) _ | refine Below.setCell ?_ (by simp; try omega) _)
      · have hq := beqs_no heq
        have HQ := Lib.hid heq
        clear heq
        go_wp2
        go_roundw
        case rel => exact ⟨k + 1, by omega, by go_num, fun j f hj hf => by
          by_cases ej : j = k
          · subst ej
            rw [HEE.out] at hf
            injection hf with hf
            exact hf ▸ HQ.out
          · exact HA.out j f (by omega) hf, hb.alloc hb.size _⟩
        case measure => simp [intOf]; omega
    · obtain rfl : o = none := by
        rw [← ho.out]
        exact getM_none xs q (fun j f hf => HA.out j f (by have := (List.getElem?_eq_some_iff.1 hf).1; rw [HN.out] at this; omega) hf)
      go_wp2
      refine bodyPost_ret (v := optM none) (by simp [results, Tryd.results45, go_sem, g0, g1, g2]) rfl ⟨rfl, ?_⟩
      have HB := HW.out.trans (hb.mono (by rw [HZ.out]; omega))
      repeat (first | exact HB | refine Below.alloc ?_ (by simp; try omega) _ | refine Below.setCell ?_ (by simp; try omega) _)
/-- What the program asks of the mark at place k. -/
def MAskM (xs : List Mk) (k : Nat) (e : Mk) : Prop := MAskI (xs.map Mk.pl) k e.pl
def MAskR (xs : List Mk) (k : Nat) (e : Mk) : Prop := MAskS (xs.map Mk.pl) k e.pl
theorem lok_M (xs : List Mk) : LOk (xs.map Mk.pl) ↔ xs.length ≤ 32 ∧ ∀ (k : Nat) (e : Mk), xs[k]? = some e → MAskM xs k e := by
  rw [lok_iff, List.length_map]
  constructor
  · rintro ⟨h1, h2⟩
    exact ⟨h1, fun k e he => h2 k e.pl (by simp [he])⟩
  · rintro ⟨h1, h2⟩
    refine ⟨h1, fun k e he => ?_⟩
    rw [List.getElem?_map, Option.map_eq_some_iff] at he
    obtain ⟨f, hf, rfl⟩ := he
    exact h2 k f hf
theorem lok_R (xs : List Mk) : LOk (xs.map Mk.pl) ↔ xs.length ≤ 32 ∧ ∀ (k : Nat) (e : Mk), xs[k]? = some e → MAskR xs k e := by
  rw [lok_iffS, List.length_map]
  constructor
  · rintro ⟨h1, h2⟩
    exact ⟨h1, fun k e he => h2 k e.pl (by simp [he])⟩
  · rintro ⟨h1, h2⟩
    refine ⟨h1, fun k e he => ?_⟩
    rw [List.getElem?_map, Option.map_eq_some_iff] at he
    obtain ⟨f, hf, rfl⟩ := he
    exact h2 k f hf
theorem lok_dec (xs : List Mk) : ∃ r : Bool, r = true ↔ LOk (xs.map Mk.pl) := ⟨by classical exact decide (LOk (xs.map Mk.pl)), by simp⟩
theorem mless_of (xs : List Mk) (k : Nat) (f e : Mk) (hf : xs[k]? = some f) (h2 : Op.bytesLess f.p.toList e.p.toList = true) : ∀ g, 0 < k + 1 → (xs.map Mk.pl)[k + 1 - 1]? = some g → Op.bytesLess g.p e.pl.p = true := by
  intro g _ hg
  rw [Nat.add_sub_cancel, List.getElem?_map, hf] at hg
  injection hg with hg
  rw [← hg]
  rw [less_of'] at h2
  exact h2
theorem mless_at (xs : List Mk) (k : Nat) (f e : Mk) (hf : xs[k]? = some f) (h : ∀ g, 0 < k + 1 → (xs.map Mk.pl)[k + 1 - 1]? = some g → Op.bytesLess g.p e.pl.p = true) : Op.bytesLess f.p.toList e.p.toList = true := by
  have := h f.pl (by omega) (by rw [Nat.add_sub_cancel, List.getElem?_map, hf]; rfl)
  rw [less_of']
  exact this
theorem upM_G (xs : List Mk) (q u : ByteArray) (hu : upL q.data.toList = u.data.toList) (hr : u.data.toList ≠ [47]) : upM (xs.map Mk.pl) q.data.toList = match getM xs u with
    | some m => dirM m.pl
    | none => false := by
  unfold upM
  rw [hu, getM_pl]
  have : (u.data.toList == [47]) = false := by simpa using hr
  rw [this, Bool.false_or]
  cases getM xs u <;> rfl
theorem upM_root (l : List PM) (q : Bs) (hu : upL q = [47]) : upM l q = true := by unfold upM; rw [hu]; rfl
set_option maxRecDepth 100000 in
set_option maxHeartbeats 8000000 in
theorem layerOk_c (a : Option Addr) (c : Nat) (xs : List Mk) (r : Bool) (hr : Hid (r = true ↔ LOk (xs.map Mk.pl))) (w : World) (hs : SlF Mk.cells w a xs) (hx : xs.length ≤ maxLen) (hz : ∀ e ∈ xs, e.p.size ≤ 2000000 ∧ e.x.size ≤ 2000000) :
    Calls Tryd.prog 13 #[.slice a xs.length c] w fun q w' => q = .returned (.bool r) ∧ Below w.heap.size w w' := by
  have hR : Hid (r = true ↔ xs.length ≤ 32 ∧ ∀ (k : Nat) (e : Mk), xs[k]? = some e → MAskM xs k e) := by rw [Hid, hr.out, lok_M]
  have HM := fun (q : ByteArray) (o : Option Mk) (ho : Hid (getM xs q = o)) (W : World) (h : SlF Mk.cells W a xs) => Lib.hid (markAt_c a c xs q o ho W h hx)
  have HB := fun (q : ByteArray) (hq : q.size ≤ 2000000) (v : Bool) (hv : Hid (bareL (xs.map Mk.pl) q.data.toList = v)) => Lib.hid (fun (W : World) (h : SlF Mk.cells W a xs) => Lib.hid (belowBare_c a c xs q v hv W h hx hq hz))
  have HZ := Lib.hid hz
  have HS := Lib.hid hs
  obtain ⟨n, hn⟩ : ∃ n, xs.length = n := ⟨_, rfl⟩
  have HN := Lib.hid hn
  rw [hn] at hR hx HM HB ⊢
  unfold maxLen at hx
  have GM := Lib.hid HM
  have GB0 := Lib.hid HB
  clear hn hz hs hr HM HB
  by_cases h16 : 32 < n
  · obtain rfl : r = false := by
      cases r
      · rfl
      · have := hR.out.1 rfl; omega
    go_enter Tryd.func13, Tryd.ntmps13
    go_wp2
    go_ret
    exact ⟨rfl, Below.refl _ _⟩
  have hno : Hid (∀ (k : Nat) (e : Mk), xs[k]? = some e → ¬ MAskM xs k e → r = false) := fun k e he hne => by
    cases r
    · rfl
    · exact absurd ((hR.out.1 rfl).2 k e he) hne
  go_enter Tryd.func13, Tryd.ntmps13
  go_wp2
  go_loopw [3, 4, 5, 6, 7, 13] (fun _ _ _ _ _ i wr => ∃ k : Nat, k ≤ n ∧ i = .int .i64 k ∧ (∀ (j : Nat) (e : Mk), j < k → xs[j]? = some e → MAskM xs j e) ∧ Below w.heap.size w wr) (fun _ _ _ _ _ i _ => n - (intOf i).toNat)
  case atStart => exact ⟨0, Nat.zero_le _, rfl, fun j _ h => absurd h (by omega), Below.refl _ _⟩
  case round =>
    obtain ⟨k, hk, rfl, hall, hb⟩ := hrel
    have HA := Lib.hid hall
    clear hall
    by_cases hlt : k < n
    · obtain ⟨e, hee⟩ : ∃ e, xs[k]? = some e := ⟨_, List.getElem?_eq_getElem (by rw [HN.out]; exact hlt)⟩
      have h2 := (HS.out.below hb)
      obtain ⟨b, off, rfl, _⟩ := h2.addr (by rw [HN.out]; omega)
      obtain ⟨d0, d1, d2⟩ := mk_at h2 k e hee
      have hzz := HZ.out e (List.mem_of_getElem? hee)
      have HNO := Lib.hid (fun h => hno.out k e hee h)
      have HEE := Lib.hid hee
      have h3 := h2
      clear h2 hee
      obtain ⟨ep, ek, ex⟩ := e
      have hz1 : ep.size ≤ maxLen := Nat.le_trans hzz.1 (by unfold maxLen; omega)
      have hz2 : ex.size ≤ maxLen := Nat.le_trans hzz.2 (by unfold maxLen; omega)
      have HZ1 := Lib.hid hz1
      have HZ2 := Lib.hid hz2
      have GB := Lib.hid (fun v hv => GB0.out ep hzz.1 v hv)
      obtain ⟨u, hu, hus⟩ := up_str20 ep
      clear hzz hz1 hz2
      have c0 := new_cell wr #[.string ep, .int .i64 ek, .string ex] 30 0 _ rfl
      have c1 := new_cell wr #[.string ep, .int .i64 ek, .string ex] 30 1 _ rfl
      have c2 := new_cell wr #[.string ep, .int .i64 ek, .string ex] 30 2 _ rfl
      replace hb := hb.alloc hb.size (.cells #[.string ep, .int .i64 ek, .string ex] 30)
      obtain ⟨p1, hp1⟩ : ∃ x, markOkL (Mk.pl ⟨ep, ek, ex⟩) = x := ⟨_, rfl⟩
      have H1 := Lib.hid hp1
      clear hp1
      cases p1 with
      | false =>
        obtain rfl : r = false := HNO.out (fun h => by have := h.1; rw [H1.out] at this; cases this)
        go_wp2_with fail
        refine (markOk_c ⟨ep, ek, ex⟩ false H1 _ HZ1.out HZ2.out).mono ?_; rintro e W ⟨rfl, hq⟩; replace hb := chn hb hq; clear hq
        go_wp2
        go_ret
        exact ⟨rfl, hb⟩
      | true =>
      have hkk : 1 ≤ ek ∧ ek ≤ 4 := markOk_kind H1.out
      have HKK := Lib.hid hkk
      clear hkk
      cases k with
      | zero =>
        rw [Nat.zero_mul, Nat.add_zero] at d0 d1 d2
        have ASK := Lib.hid (fun (h3 : upM (xs.map Mk.pl) ep.data.toList = true) (h4 : 2 < ek → bareL (xs.map Mk.pl) ep.data.toList = false) (j : Nat) (g : Mk) (hj : j < 0 + 1) (hg : xs[j]? = some g) => (by
          have ej : j = 0 := by omega
          subst ej
          rw [HEE.out] at hg
          injection hg with hg
          rw [← hg]
          exact ⟨H1.out, fun _ h _ => absurd h (by omega), h3, h4⟩ : MAskM xs j g))
        clear h3
        go_wp2_with fail
        refine (markOk_c ⟨ep, ek, ex⟩ true H1 _ HZ1.out HZ2.out).mono ?_; rintro e W ⟨rfl, hq⟩; replace hb := chn hb hq; replace c0 := keepc hq c0; replace c1 := keepc hq c1; replace c2 := keepc hq c2; clear hq
        go_wp2_with fail
        go_quiet (fail)
        go_wp2_with fail
        refine (pathUp_c ep u hu _ HZ1.out).mono ?_; rintro e W ⟨rfl, hq⟩; replace hb := chn (drw hb _) hq; replace c0 := keepc hq c0; replace c1 := keepc hq c1; replace c2 := keepc hq c2; clear hq
        by_cases hrt : u.data.toList = [47]
        · have q2 := beq_yes hrt
          have HUP := Lib.hid (upM_root (xs.map Mk.pl) ep.data.toList (hu.out.trans hrt))
          clear hrt
          by_cases k3 : 2 < ek
          · obtain ⟨v, hv⟩ : ∃ v, bareL (xs.map Mk.pl) ep.data.toList = v := ⟨_, rfl⟩
            have HV := Lib.hid hv
            clear hv
            have HBB := GB.out v HV
            rcases (by have := HKK.out; omega : ek = 3 ∨ ek = 4) with hek | hek <;> subst hek
            all_goals
              go_wp2_with fail
              refine (HBB.out _ (HS.out.below hb)).out.mono ?_; rintro e' W' ⟨rfl, hq⟩; replace hb := chn hb hq; clear hq
              cases v with
              | true =>
                obtain rfl : r = false := HNO.out (fun h => by have := h.2.2.2 k3; rw [show (Mk.pl ⟨ep, _, ex⟩).p = ep.data.toList from rfl, HV.out] at this; cases this)
                go_wp2
                go_ret
                exact ⟨rfl, by repeat (first | exact hb | refine Below.alloc ?_ (by have := hb.size; simp; try omega) _)⟩
              | false =>
                go_wp2
                go_roundw
                case rel => exact ⟨(0+1), by omega, by go_num, ASK.out HUP.out (fun _ => HV.out), by repeat (first | exact hb | refine Below.alloc ?_ (by have := hb.size; simp; try omega) _)⟩
                case measure => simp [intOf]; omega
          · have n3 : (ek == 3) = false := by rw [beq_eq_false_iff_ne]; omega
            have n4 : (ek == 4) = false := by rw [beq_eq_false_iff_ne]; omega
            go_wp2
            go_roundw
            case rel => exact ⟨(0+1), by omega, by go_num, ASK.out HUP.out (fun h => (by exfalso; omega)), by repeat (first | exact hb | refine Below.alloc ?_ (by have := hb.size; simp; try omega) _)⟩
            case measure => simp [intOf]; omega
        · have q2 := beq_no hrt
          have HUP := Lib.hid (upM_G xs ep u hu.out hrt)
          clear hrt
          obtain ⟨o, ho⟩ : ∃ o, getM xs u = o := ⟨_, rfl⟩
          have HO := Lib.hid ho
          clear ho
          go_wp2_with fail
          refine ((GM.out u o HO _ (HS.out.below hb)).out).mono ?_; rintro e W ⟨rfl, hq⟩; replace hb := chn hb hq; replace c0 := keepc hq c0; replace c1 := keepc hq c1; replace c2 := keepc hq c2; clear hq
          cases o with
          | none =>
            obtain rfl : r = false := HNO.out (fun h => by have h := h.2.2.1; rw [show (Mk.pl ⟨ep, ek, ex⟩).p = ep.data.toList from rfl, HUP.out, HO.out] at h; cases h)
            go_wp2
            go_ret
            exact ⟨rfl, by repeat (first | exact hb | refine Below.alloc ?_ (by have := hb.size; simp; try omega) _)⟩
          | some f =>
            obtain ⟨v, hv⟩ : ∃ v, dirM f.pl = v := ⟨_, rfl⟩
            have HV := Lib.hid hv
            clear hv
            obtain ⟨fp, fk, fx⟩ := f
            replace hb := hb.alloc hb.size (.cells #[.string fp, .int .i64 fk, .string fx] 30); replace c0 := keepc (bellow_alloc _ (.cells #[.string fp, .int .i64 fk, .string fx] 30)) c0; replace c1 := keepc (bellow_alloc _ (.cells #[.string fp, .int .i64 fk, .string fx] 30)) c1; replace c2 := keepc (bellow_alloc _ (.cells #[.string fp, .int .i64 fk, .string fx] 30)) c2; 
            go_wp2_with fail
            refine (isDir_c ⟨fp, fk, fx⟩ v HV _).mono ?_; rintro e W ⟨rfl, hq⟩; replace hb := chn hb hq; replace c0 := keepc hq c0; replace c1 := keepc hq c1; replace c2 := keepc hq c2; clear hq
            cases v with
            | false =>
              obtain rfl : r = false := HNO.out (fun h => by have h := h.2.2.1; rw [show (Mk.pl ⟨ep, ek, ex⟩).p = ep.data.toList from rfl, HUP.out, HO.out] at h; exact absurd (h.symm.trans HV.out) (by simp))
              go_wp2
              go_ret
              exact ⟨rfl, by repeat (first | exact hb | refine Below.alloc ?_ (by have := hb.size; simp; try omega) _)⟩
            | true =>
              have HUQ : Hid (upM (xs.map Mk.pl) ep.data.toList = true) := by rw [Hid, HUP.out, HO.out]; exact HV.out
              clear HV HO HUP
              by_cases k3 : 2 < ek
              · obtain ⟨v, hv⟩ : ∃ v, bareL (xs.map Mk.pl) ep.data.toList = v := ⟨_, rfl⟩
                have HV := Lib.hid hv
                clear hv
                have HBB := GB.out v HV
                rcases (by have := HKK.out; omega : ek = 3 ∨ ek = 4) with hek | hek <;> subst hek
                all_goals
                  go_wp2_with fail
                  refine (HBB.out _ (HS.out.below hb)).out.mono ?_; rintro e' W' ⟨rfl, hq⟩; replace hb := chn hb hq; clear hq
                  cases v with
                  | true =>
                    obtain rfl : r = false := HNO.out (fun h => by have := h.2.2.2 k3; rw [show (Mk.pl ⟨ep, _, ex⟩).p = ep.data.toList from rfl, HV.out] at this; cases this)
                    go_wp2
                    go_ret
                    exact ⟨rfl, by repeat (first | exact hb | refine Below.alloc ?_ (by have := hb.size; simp; try omega) _)⟩
                  | false =>
                    go_wp2
                    go_roundw
                    case rel => exact ⟨(0+1), by omega, by go_num, ASK.out HUQ.out (fun _ => HV.out), by repeat (first | exact hb | refine Below.alloc ?_ (by have := hb.size; simp; try omega) _)⟩
                    case measure => simp [intOf]; omega
              · have n3 : (ek == 3) = false := by rw [beq_eq_false_iff_ne]; omega
                have n4 : (ek == 4) = false := by rw [beq_eq_false_iff_ne]; omega
                go_wp2
                go_roundw
                case rel => exact ⟨(0+1), by omega, by go_num, ASK.out HUQ.out (fun h => (by exfalso; omega)), by repeat (first | exact hb | refine Below.alloc ?_ (by have := hb.size; simp; try omega) _)⟩
                case measure => simp [intOf]; omega
      | succ k =>
        obtain ⟨f, hff⟩ : ∃ f, xs[k]? = some f := ⟨_, List.getElem?_eq_getElem (by rw [HN.out]; omega)⟩
        obtain ⟨c3, _, _⟩ := mk_at h3 k f hff
        replace c3 := keepc (bellow_alloc wr (.cells #[.string ep, .int .i64 ek, .string ex] 30)) c3
        have HFF := Lib.hid hff
        clear hff h3
        rcases Bool.eq_false_or_eq_true (Op.bytesLess f.p.toList ep.toList) with hle | hle
        · have HLE := Lib.hid hle
          have ASK := Lib.hid (fun (h3 : upM (xs.map Mk.pl) ep.data.toList = true) (h4 : 2 < ek → bareL (xs.map Mk.pl) ep.data.toList = false) (j : Nat) (g : Mk) (hj : j < k + 1 + 1) (hg : xs[j]? = some g) => (by
            by_cases ej : j = k + 1
            · subst ej
              rw [HEE.out] at hg
              injection hg with hg
              rw [← hg]
              exact ⟨H1.out, mless_of xs k f ⟨ep, ek, ex⟩ HFF.out HLE.out, h3, h4⟩
            · exact HA.out j g (by omega) hg : MAskM xs j g))
          go_wp2_with fail
          refine (markOk_c ⟨ep, ek, ex⟩ true H1 _ HZ1.out HZ2.out).mono ?_; rintro e W ⟨rfl, hq⟩; replace hb := chn hb hq; replace c0 := keepc hq c0; replace c1 := keepc hq c1; replace c2 := keepc hq c2; replace c3 := keepc hq c3; clear hq
          go_wp2_with fail
          go_quiet (fail)
          clear hle c3
          go_wp2_with fail
          refine (pathUp_c ep u hu _ HZ1.out).mono ?_; rintro e W ⟨rfl, hq⟩; replace hb := chn (drw hb _) hq; replace c0 := keepc hq c0; replace c1 := keepc hq c1; replace c2 := keepc hq c2; clear hq
          by_cases hrt : u.data.toList = [47]
          · have q2 := beq_yes hrt
            have HUP := Lib.hid (upM_root (xs.map Mk.pl) ep.data.toList (hu.out.trans hrt))
            clear hrt
            by_cases k3 : 2 < ek
            · obtain ⟨v, hv⟩ : ∃ v, bareL (xs.map Mk.pl) ep.data.toList = v := ⟨_, rfl⟩
              have HV := Lib.hid hv
              clear hv
              have HBB := GB.out v HV
              rcases (by have := HKK.out; omega : ek = 3 ∨ ek = 4) with hek | hek <;> subst hek
              all_goals
                go_wp2_with fail
                refine (HBB.out _ (HS.out.below hb)).out.mono ?_; rintro e' W' ⟨rfl, hq⟩; replace hb := chn hb hq; clear hq
                cases v with
                | true =>
                  obtain rfl : r = false := HNO.out (fun h => by have := h.2.2.2 k3; rw [show (Mk.pl ⟨ep, _, ex⟩).p = ep.data.toList from rfl, HV.out] at this; cases this)
                  go_wp2
                  go_ret
                  exact ⟨rfl, by repeat (first | exact hb | refine Below.alloc ?_ (by have := hb.size; simp; try omega) _)⟩
                | false =>
                  go_wp2
                  go_roundw
                  case rel => exact ⟨(k+1+1), by omega, by go_num, ASK.out HUP.out (fun _ => HV.out), by repeat (first | exact hb | refine Below.alloc ?_ (by have := hb.size; simp; try omega) _)⟩
                  case measure => simp [intOf]; omega
            · have n3 : (ek == 3) = false := by rw [beq_eq_false_iff_ne]; omega
              have n4 : (ek == 4) = false := by rw [beq_eq_false_iff_ne]; omega
              go_wp2
              go_roundw
              case rel => exact ⟨(k+1+1), by omega, by go_num, ASK.out HUP.out (fun h => (by exfalso; omega)), by repeat (first | exact hb | refine Below.alloc ?_ (by have := hb.size; simp; try omega) _)⟩
              case measure => simp [intOf]; omega
          · have q2 := beq_no hrt
            have HUP := Lib.hid (upM_G xs ep u hu.out hrt)
            clear hrt
            obtain ⟨o, ho⟩ : ∃ o, getM xs u = o := ⟨_, rfl⟩
            have HO := Lib.hid ho
            clear ho
            go_wp2_with fail
            refine ((GM.out u o HO _ (HS.out.below hb)).out).mono ?_; rintro e W ⟨rfl, hq⟩; replace hb := chn hb hq; replace c0 := keepc hq c0; replace c1 := keepc hq c1; replace c2 := keepc hq c2; clear hq
            cases o with
            | none =>
              obtain rfl : r = false := HNO.out (fun h => by have h := h.2.2.1; rw [show (Mk.pl ⟨ep, ek, ex⟩).p = ep.data.toList from rfl, HUP.out, HO.out] at h; cases h)
              go_wp2
              go_ret
              exact ⟨rfl, by repeat (first | exact hb | refine Below.alloc ?_ (by have := hb.size; simp; try omega) _)⟩
            | some f =>
              obtain ⟨v, hv⟩ : ∃ v, dirM f.pl = v := ⟨_, rfl⟩
              have HV := Lib.hid hv
              clear hv
              obtain ⟨fp, fk, fx⟩ := f
              replace hb := hb.alloc hb.size (.cells #[.string fp, .int .i64 fk, .string fx] 30); replace c0 := keepc (bellow_alloc _ (.cells #[.string fp, .int .i64 fk, .string fx] 30)) c0; replace c1 := keepc (bellow_alloc _ (.cells #[.string fp, .int .i64 fk, .string fx] 30)) c1; replace c2 := keepc (bellow_alloc _ (.cells #[.string fp, .int .i64 fk, .string fx] 30)) c2; 
              go_wp2_with fail
              refine (isDir_c ⟨fp, fk, fx⟩ v HV _).mono ?_; rintro e W ⟨rfl, hq⟩; replace hb := chn hb hq; replace c0 := keepc hq c0; replace c1 := keepc hq c1; replace c2 := keepc hq c2; clear hq
              cases v with
              | false =>
                obtain rfl : r = false := HNO.out (fun h => by have h := h.2.2.1; rw [show (Mk.pl ⟨ep, ek, ex⟩).p = ep.data.toList from rfl, HUP.out, HO.out] at h; exact absurd (h.symm.trans HV.out) (by simp))
                go_wp2
                go_ret
                exact ⟨rfl, by repeat (first | exact hb | refine Below.alloc ?_ (by have := hb.size; simp; try omega) _)⟩
              | true =>
                have HUQ : Hid (upM (xs.map Mk.pl) ep.data.toList = true) := by rw [Hid, HUP.out, HO.out]; exact HV.out
                clear HV HO HUP
                by_cases k3 : 2 < ek
                · obtain ⟨v, hv⟩ : ∃ v, bareL (xs.map Mk.pl) ep.data.toList = v := ⟨_, rfl⟩
                  have HV := Lib.hid hv
                  clear hv
                  have HBB := GB.out v HV
                  rcases (by have := HKK.out; omega : ek = 3 ∨ ek = 4) with hek | hek <;> subst hek
                  all_goals
                    go_wp2_with fail
                    refine (HBB.out _ (HS.out.below hb)).out.mono ?_; rintro e' W' ⟨rfl, hq⟩; replace hb := chn hb hq; clear hq
                    cases v with
                    | true =>
                      obtain rfl : r = false := HNO.out (fun h => by have := h.2.2.2 k3; rw [show (Mk.pl ⟨ep, _, ex⟩).p = ep.data.toList from rfl, HV.out] at this; cases this)
                      go_wp2
                      go_ret
                      exact ⟨rfl, by repeat (first | exact hb | refine Below.alloc ?_ (by have := hb.size; simp; try omega) _)⟩
                    | false =>
                      go_wp2
                      go_roundw
                      case rel => exact ⟨(k+1+1), by omega, by go_num, ASK.out HUQ.out (fun _ => HV.out), by repeat (first | exact hb | refine Below.alloc ?_ (by have := hb.size; simp; try omega) _)⟩
                      case measure => simp [intOf]; omega
                · have n3 : (ek == 3) = false := by rw [beq_eq_false_iff_ne]; omega
                  have n4 : (ek == 4) = false := by rw [beq_eq_false_iff_ne]; omega
                  go_wp2
                  go_roundw
                  case rel => exact ⟨(k+1+1), by omega, by go_num, ASK.out HUQ.out (fun h => (by exfalso; omega)), by repeat (first | exact hb | refine Below.alloc ?_ (by have := hb.size; simp; try omega) _)⟩
                  case measure => simp [intOf]; omega
        · obtain rfl : r = false := HNO.out (fun h => by have := mless_at xs k f ⟨ep, ek, ex⟩ HFF.out h.2.1; rw [hle] at this; cases this)
          go_wp2_with fail
          refine (markOk_c ⟨ep, ek, ex⟩ true H1 _ HZ1.out HZ2.out).mono ?_; rintro e W ⟨rfl, hq⟩; replace hb := chn hb hq; replace c0 := keepc hq c0; replace c1 := keepc hq c1; replace c2 := keepc hq c2; replace c3 := keepc hq c3; clear hq
          go_wp2_with fail
          go_quiet (fail)
          go_wp2
          go_ret
          exact ⟨rfl, drw hb _⟩
    · obtain rfl : r = true := hR.out.2 ⟨by omega, fun j e he => HA.out j e (by have := (List.getElem?_eq_some_iff.1 he).1; rw [HN.out] at this; omega) he⟩
      go_wp2
      go_ret
      exact ⟨rfl, hb⟩
end Go.Proofs.YtobbodbkdcbflaaDoor
namespace Go.Proofs.YtobbodbkdcbflaaDoor
open Go.RowKit
/-- A row of marks of the call's own that reads as l. -/
def MadeMs (l : List PM) (w : World) (e : Ending) (w' : World) : Prop :=
  ∃ (a : Option Addr) (c : Nat) (ms : List Mk), e = .returned (.slice a ms.length c) ∧ ms.map Mk.pl = l ∧ OwnMk w' w.heap.size (.slice a ms.length c) ms ∧ Below w.heap.size w w'
theorem madeMs_of {w0 w : World} {B : Nat} {v : Value} {ms : List Mk} {l : List PM} (hl : ms.map Mk.pl = l) (h : w.ownsRow B 30 3 v ms.length (ms.flatMap Mk.cells)) (hB : w0.heap.size ≤ B) (hb : Below w0.heap.size w0 w) : MadeMs l w0 (.returned v) w := by
  rcases h.2 with ⟨rfl, h1⟩ | ⟨g, cap, cur, rfl, hg, hh, hnc, hm, h2, h3⟩
  · refine ⟨none, 0, ms, by rw [h1], hl, ?_, hb⟩
    refine ⟨h.1, .inl ⟨by rw [h1], h1⟩⟩
  · exact ⟨_, cap, ms, rfl, hl, ⟨h.1, .inr ⟨g, cap, cur, rfl, Nat.le_trans hB hg, hh, hnc, hm, h2, h3⟩⟩, hb⟩
theorem take_ml (xs : List Mk) (k : Nat) (e : Mk) (he : xs[k]? = some e) : (xs.take (k + 1)).map Mk.pl = (xs.take k).map Mk.pl ++ [e.pl] := by
  have h1 := List.take_succ_eq_append_getElem (l := xs) (i := k) (List.getElem?_eq_some_iff.1 he).1
  rw [(List.getElem?_eq_some_iff.1 he).2] at h1
  rw [h1, List.map_append]; rfl
theorem flat_mk (xs : List Mk) (e : Mk) : xs.flatMap Mk.cells ++ (#[.string e.p, .int .i64 e.k, .string e.x] : Array Value).toList = (xs ++ [e]).flatMap Mk.cells := by simp [Mk.cells]
/-- What is kept of the lower layer. -/
def keptM (a b : List PM) : List PM := b.filter fun m => (atP PM.p a m.p).isNone && !hidesL a m.p
theorem kept_snoc (a b : List PM) (m : PM) : keptM a (b ++ [m]) = keptM a b ++ if (atP PM.p a m.p).isNone && !hidesL a m.p then [m] else [] := by
  unfold keptM
  rw [List.filter_append]
  congr 1
  rw [List.filter_cons]
  split <;> simp_all
theorem kept_len (a b : List PM) : (keptM a b).length ≤ b.length := by unfold keptM; exact List.length_filter_le _ _
theorem joinRaw_eq (a b : List PM) : joinRaw a b = keptM a b ++ a.map (bothM b) := rfl
/-- A mark of the upper layer on what the lower one has there. -/
def bothK (o : Option Mk) (e : Mk) : Mk := if e.k = 2 then (match o with
  | some u => if u.k = 2 then e else ⟨e.p, 4, e.x⟩
  | none => e) else e
theorem both_pl (ys : List Mk) (e : Mk) : bothM (ys.map Mk.pl) e.pl = (bothK (getM ys e.p) e).pl := by
  unfold bothM bothK
  rw [show atP PM.p (ys.map Mk.pl) e.pl.p = (getM ys e.p).map Mk.pl from getM_pl ys e.p]
  by_cases h : e.k = 2
  · rw [if_pos (show e.pl.k = 2 from h), if_pos h]
    cases getM ys e.p with
    | none => rfl
    | some u =>
      show (if u.k = 2 then e.pl else _) = _
      show _ = (if u.k = 2 then e else (⟨e.p, 4, e.x⟩ : Mk)).pl
      by_cases h2 : u.k = 2
      · rw [if_pos h2, if_pos h2]
      · rw [if_neg h2, if_neg h2]; rfl
  · rw [if_neg (show ¬ e.pl.k = 2 from h), if_neg h]
end Go.Proofs.YtobbodbkdcbflaaDoor
namespace Go.Proofs.YtobbodbkdcbflaaDoor
open Go.RowKit
open Classical in
/-- What LayerJoin tells. -/
noncomputable def ljoinB (a b : List PM) : Bool := decide (LOk a ∧ LOk b ∧ (joinLy a b).length ≤ 32)
noncomputable def ljoinL (a b : List PM) : List PM := if ljoinB a b then joinLy a b else []
theorem ljoin_bad {a b : List PM} (h : ¬ (LOk a ∧ LOk b)) : ljoinB a b = false := by
  unfold ljoinB; rw [decide_eq_false_iff_not]; exact fun h' => h ⟨h'.1, h'.2.1⟩
theorem ljoin_ok {a b : List PM} (h : LOk a) (h' : LOk b) : ljoinB a b = decide ((joinLy a b).length ≤ 32) := by
  unfold ljoinB; simp [h, h']
theorem bound_of {xs : List Mk} {l : List PM} (h : xs.map Mk.pl = l) (hl : ∀ m ∈ l, m.p.length ≤ 2000000 ∧ m.x.length ≤ 2000000) : ∀ e ∈ xs, e.p.size ≤ 2000000 ∧ e.x.size ≤ 2000000 := fun e he => by
  have := hl e.pl (by rw [← h]; exact List.mem_map_of_mem he)
  have h1 : e.pl.p.length = e.p.size := size_data e.p
  have h2 : e.pl.x.length = e.x.size := size_data e.x
  omega
theorem bound_pl {xs : List Mk} (hz : ∀ e ∈ xs, e.p.size ≤ 2000000 ∧ e.x.size ≤ 2000000) : ∀ m ∈ xs.map Mk.pl, m.p.length ≤ 2000000 ∧ m.x.length ≤ 2000000 := fun m hm => by
  obtain ⟨e, he, rfl⟩ := List.mem_map.1 hm
  have := hz e he
  have h1 : e.pl.p.length = e.p.size := size_data e.p
  have h2 : e.pl.x.length = e.x.size := size_data e.x
  omega
theorem both_x (b : List PM) (m : PM) : (bothM b m).x = m.x := by
  unfold bothM
  split
  · split
    · split <;> rfl
    · rfl
  · rfl
theorem bound_join {a b : List PM} (ha : ∀ m ∈ a, m.p.length ≤ 2000000 ∧ m.x.length ≤ 2000000) (hb : ∀ m ∈ b, m.p.length ≤ 2000000 ∧ m.x.length ≤ 2000000) : ∀ m ∈ joinRaw a b, m.p.length ≤ 2000000 ∧ m.x.length ≤ 2000000 := fun m hm => by
  unfold joinRaw at hm
  rcases List.mem_append.1 hm with h | h
  · exact hb m (List.mem_filter.1 h).1
  · obtain ⟨n, hn, rfl⟩ := List.mem_map.1 h
    rw [bothM_p, both_x]; exact ha n hn
theorem len_join (a b : List PM) : (joinRaw a b).length ≤ a.length + b.length := by
  unfold joinRaw
  have := List.length_filter_le (fun m => (atP PM.p a m.p).isNone && !hidesL a m.p) b
  rw [List.length_append, List.length_map]; omega
/-- What becomes of a mark as it lies. -/
def tidyK (r : Bool) (m : Mk) : Option Mk := if r = true then (if m.k = 3 then none else if m.k = 4 then some ⟨m.p, 2, m.x⟩ else some m) else some m
theorem tidy_pl (u : List PM) (m : Mk) : tidyM u m.pl = (tidyK (bareL u m.p.data.toList) m).map Mk.pl := by
  unfold tidyM tidyK
  show (if bareL u m.p.data.toList = true then (if m.k = 3 then none else if m.k = 4 then some _ else some m.pl) else some m.pl) = _
  split
  · split
    · rfl
    · split <;> rfl
  · rfl
theorem tidy_snoc (u : List PM) (ms : List Mk) (k : Nat) (e : Mk) (he : ms[k]? = some e) (ns : List Mk) (h : ns.map Mk.pl = ((ms.take k).map Mk.pl).filterMap (tidyM u)) :
    (ns ++ (tidyK (bareL u e.p.data.toList) e).toList).map Mk.pl = ((ms.take (k + 1)).map Mk.pl).filterMap (tidyM u) := by
  rw [take_ml ms k e he, List.filterMap_append, List.map_append, h]
  congr 1
  rw [List.filterMap_cons, tidy_pl]
  cases tidyK (bareL u e.p.data.toList) e <;> rfl
end Go.Proofs.YtobbodbkdcbflaaDoor
namespace Go.Proofs.YtobbodbkdcbflaaDoor
open Go.RowKit
theorem tidyL_step (ms : List Mk) (k : Nat) (e : Mk) (he : ms[k]? = some e) (ns : List Mk) :
    tidyL (ns.map Mk.pl) ((ms.drop k).map Mk.pl) = tidyL ((ns ++ (tidyK (bareL (ns.map Mk.pl) e.p.data.toList) e).toList).map Mk.pl) ((ms.drop (k + 1)).map Mk.pl) := by
  obtain ⟨h1, h2⟩ := List.getElem?_eq_some_iff.1 he
  rw [List.drop_eq_getElem_cons h1, h2, List.map_cons, tidyL, tidy_pl, List.map_append]
  cases tidyK (bareL (ns.map Mk.pl) e.p.data.toList) e with
  | none => simp
  | some m => rfl
end Go.Proofs.YtobbodbkdcbflaaDoor
namespace Go.Proofs.YtobbodbkdcbflaaDoor
open Go.RowKit
/-- A slice of entries that the call made. -/
def MadeMk (ys : List Mk) (w : World) (e : Ending) (w' : World) : Prop :=
  ∃ g c, e = .returned (.slice (some ⟨g, 0, none⟩) ys.length c) ∧ ys.length ≤ c ∧ c ≤ maxLen ∧ OwnMk w' w.heap.size (.slice (some ⟨g, 0, none⟩) ys.length c) ys ∧ Below w.heap.size w w'
theorem own_slfMk' {w : World} {B g c : Nat} {xs : List Mk} (h : OwnMk w B (.slice (some ⟨g, 0, none⟩) xs.length c) xs) : SlF Mk.cells w (some ⟨g, 0, none⟩) xs := fun hn => by
  obtain ⟨g', c', hv, _, _, hlt, hc, _⟩ := own_form h hn
  have hg : g = g' := by injection hv with h1; injection h1 with h1; injection h1
  subst hg
  refine ⟨g, 0, rfl, hlt, fun k x hx j u hu => ?_⟩
  rw [Nat.zero_add]
  refine hc _ _ ?_
  have key : ∀ (ys : List Mk) (k : Nat) (y : Mk), ys[k]? = some y → (ys.flatMap Mk.cells)[k * 3 + j]? = (Mk.cells y)[j]? := by
    have hj : j < 3 := (List.getElem?_eq_some_iff.1 hu).1
    intro ys
    induction ys with
    | nil => intro k y hy; simp at hy
    | cons z r ih =>
      intro k y hy
      rw [List.flatMap_cons]
      cases k with
      | zero =>
        simp at hy; subst hy
        rw [Nat.zero_mul, Nat.zero_add, List.getElem?_append_left (by exact hj)]
      | succ k =>
        rw [List.getElem?_append_right (by show 3 ≤ _; omega), show (k + 1) * 3 + j - (Mk.cells z).length = k * 3 + j by show (k + 1) * 3 + j - 3 = _; omega]
        exact ih k y (by simpa using hy)
  rw [key xs k x hx]; exact hu
theorem mmade_of {w0 w : World} {B : Nat} {v : Value} {ys : List Mk} (h : w.ownsRow B 30 3 v ys.length (ys.flatMap Mk.cells)) (hB : w0.heap.size ≤ B) (hb : Below w0.heap.size w0 w) (hn : 0 < ys.length) : MadeMk ys w0 (.returned v) w := by
  have h0 := h
  rcases h.2 with ⟨_, h1⟩ | ⟨g, cap, cur, rfl, hg, hh, hnc, hm, h2, h3⟩
  · omega
  · exact ⟨g, cap, rfl, hnc, hm, ⟨h.1, .inr ⟨g, cap, cur, rfl, Nat.le_trans hB hg, hh, hnc, hm, h2, h3⟩⟩, hb⟩
theorem mk_one (e : Mk) : ∀ u ∈ Mk.cells e, u.oneCell' = true := by intro u hu; simp [Mk.cells] at hu; rcases hu with rfl | rfl | rfl <;> rfl
theorem mflat_one (e : Mk) : [e].flatMap Mk.cells = (#[.string e.p, .int .i64 e.k, .string e.x] : Array Value).toList := by simp [Mk.cells]
theorem mflat_app (xs : List Mk) (e : Mk) : xs.flatMap Mk.cells ++ (#[.string e.p, .int .i64 e.k, .string e.x] : Array Value).toList = (xs ++ [e]).flatMap Mk.cells := by simp [Mk.cells]
theorem mbs_less (e f : Mk) (b : Bool) : Op.bytesLess e.p.toList f.p.toList = b ↔ Op.bytesLess (Mk.bs e) (Mk.bs f) = b := by rw [less_of']
theorem mdrop_len {xs : List Mk} {n k : Nat} (h : xs.length = n) : (xs.drop k).length = n - k := by rw [List.length_drop, h]
theorem mdrop_len0 {xs : List Mk} {k : Nat} (h : xs.length = k) : (xs.drop k).length = 0 := by rw [List.length_drop, h]; omega
theorem mput_rows {xs ys : List Mk} {k k1 : Nat} {e : Mk} (h : ys = xs.take k ++ e :: xs.drop k1) {w : World} {B : Nat} {t : TypeId} {v : Value}
    (ho : w.ownsRow B t 3 v ((xs.take k).length + 1 + (xs.drop k1).length) ((xs.take k).flatMap Mk.cells ++ (#[.string e.p, .int .i64 e.k, .string e.x] : Array Value).toList ++ (xs.drop k1).flatMap Mk.cells)) : w.ownsRow B t 3 v ys.length (ys.flatMap Mk.cells) := by
  have e1 : ys.length = (xs.take k).length + 1 + (xs.drop k1).length := by rw [h]; simp; omega
  have e2 : ys.flatMap Mk.cells = (xs.take k).flatMap Mk.cells ++ (#[.string e.p, .int .i64 e.k, .string e.x] : Array Value).toList ++ (xs.drop k1).flatMap Mk.cells := by rw [h]; simp [Mk.cells]
  rw [e1, e2]; exact ho
set_option maxRecDepth 100000 in
set_option maxHeartbeats 4000000 in
theorem l3Put_c (b off c : Nat) (xs : List Mk) (e : Mk) (ys : List Mk) (hy : Hid (putP Mk.bs xs e = ys)) (w : World) (hs : SlF Mk.cells w (some ⟨b, off, none⟩) xs) (_hblk : b < w.heap.size) (hx : xs.length ≤ 1000000) (hc : xs.length ≤ c) (hcm : c ≤ maxLen) :
    Calls Tryd.prog 74 #[.slice (some ⟨b, off, none⟩) xs.length c, e.val] w (MadeMk ys w) := by
  have HE := eltMk
  obtain ⟨ep, ed, ex⟩ := e
  unfold maxLen at hcm
  obtain ⟨n, hn⟩ : ∃ n, xs.length = n := ⟨_, rfl⟩
  have HN := Lib.hid hn
  rw [hn] at hx hc ⊢
  obtain ⟨z, hz⟩ : ∃ z, w.alloc (.cells #[.string ep, .int .i64 ed, .string ex] 30) = z := ⟨_, rfl⟩
  have hzs : z.heap.size = w.heap.size + 1 := by rw [← hz]; simp
  have c0 : z.cell? ⟨w.heap.size, 0, none⟩ = some (.string ep) := by rw [← hz]; exact new_cell _ _ _ 0 _ rfl
  have c1 : z.cell? ⟨w.heap.size, 1, none⟩ = some (.int .i64 ed) := by rw [← hz]; exact new_cell _ _ _ 1 _ rfl
  have c2 : z.cell? ⟨w.heap.size, 2, none⟩ = some (.string ex) := by rw [← hz]; exact new_cell _ _ _ 2 _ rfl
  have HW := Lib.hid (hz ▸ bellow_alloc w _ : Below w.heap.size w z)
  have HS := Lib.hid (hs.below HW.out)
  have HZ := Lib.hid hzs
  have HWZ := Lib.hid (show w.heap.size ≤ z.heap.size by rw [hzs]; omega)
  have HC0 := Lib.hid c0
  have HC1 := Lib.hid c1
  have HC2 := Lib.hid c2
  clear hn hs hzs c0 c1 c2
  go_enter Tryd.func74, Tryd.ntmps74
  go_wp2
  clear hz
  go_loopw [5, 6] (fun v i wr => ∃ k : Nat, k ≤ n ∧ i = .int .i64 k ∧ wr.ownsRow z.heap.size 30 3 v (xs.take k).length ((xs.take k).flatMap Mk.cells) ∧ (∀ (j : Nat) (f : Mk), j < k → xs[j]? = some f → Op.bytesLess (Mk.bs f) ep.data.toList = true) ∧ Below z.heap.size z wr) (fun _ i _ => n - (intOf i).toNat)
  case atStart => exact ⟨0, Nat.zero_le _, rfl, World.ownsRow_lit z #[] 0 (Nat.le_refl _) (Nat.zero_le _) rfl, fun j _ h => absurd h (by omega), bellow_alloc _ _⟩
  case round =>
    obtain ⟨k, hk, rfl, hown, hall, hb⟩ := hrel
    have HA := Lib.hid hall
    clear hall
    have g0 := keepc hb HC0.out
    have g1 := keepc hb HC1.out
    have g2 := keepc hb HC2.out
    have hsw := HS.out.below hb
    have hlen : (xs.take k).length = k := by rw [List.length_take, HN.out]; omega
    have HL := Lib.hid hlen
    clear hlen
    by_cases hlt : k < n
    · obtain ⟨f, hff⟩ : ∃ f, xs[k]? = some f := ⟨_, List.getElem?_eq_getElem (by rw [HN.out]; exact hlt)⟩
      obtain ⟨d0, d1, d2⟩ := mk_at hsw k f hff
      have i0 : (0 : Int) ≤ (k : Int) := by omega
      have i1 : (k : Int) < (n : Int) := by omega
      rcases Bool.eq_false_or_eq_true (Op.bytesLess f.p.toList ep.toList) with hle | hle
      · have HLE := Lib.hid ((mbs_less f ⟨ep, ed, ex⟩ true).1 hle)
        have HFF := Lib.hid hff
        clear hff
        go_wp2_with fail
        go_quiet (fail)
        go_wp2_with (at_builtin; go_must (refine wp_app1 (by rfl) _ _ 23 (by rfl) HE z.heap.size z.heap.size z _ #[.string f.p, .int .i64 f.k, .string f.x] _ _ _ (by rfl) (by rfl) hown (by rfl) (by simp [Value.oneCell']) (by have := HL.out; omega) (drw hb _).size (drw hb _) (Nat.le_refl _) ?_); intro v' w1 hown1 hbel1 _ hg1)
        go_roundw
        case rel => exact ⟨k + 1, by omega, by go_num, by
          have e1 := List.take_succ_eq_append_getElem (l := xs) (i := k) (by rw [HN.out]; exact hlt)
          have e2 : xs[k]'(by rw [HN.out]; exact hlt) = f := (List.getElem?_eq_some_iff.1 HFF.out).2
          rw [e2] at e1
          rw [mflat_app] at hown1
          rw [e1, List.length_append]
          exact hown1, fun j g hj hg => by
          by_cases ej : j = k
          · subst ej
            rw [HFF.out] at hg
            injection hg with hg
            exact hg ▸ HLE.out
          · exact HA.out j g (by omega) hg, hbel1⟩
        case measure => simp [intOf]; omega
      · have hnl : ∀ x, xs[k]? = some x → Op.bytesLess (Mk.bs x) (Mk.bs ⟨ep, ed, ex⟩) = false := fun x hx => by
          rw [hff] at hx; injection hx with hx; rw [← hx]; exact (mbs_less f ⟨ep, ed, ex⟩ false).1 hle
        have HSP := Lib.hid (put_split (f := Mk.bs) xs ⟨ep, ed, ex⟩ k (by rw [HN.out]; omega) HA.out hnl)
        clear hnl
        by_cases heq : f.p.data.toList = ep.data.toList
        · have q1 := beqs_yes heq
          have HY : Hid (ys = xs.take k ++ ⟨ep, ed, ex⟩ :: xs.drop (k + 1)) := by
            rw [Hid, ← hy.out, HSP.out, hff, show (Option.map Mk.bs (some f)) = some (Mk.bs ⟨ep, ed, ex⟩) from congrArg some heq, if_pos rfl]
          have HFF := Lib.hid hff
          clear heq hff HSP
          have i2 : (k : Int) + 1 ≤ (n : Int) := by omega
          have i3 : (0 : Int) ≤ (k : Int) + 1 := by omega
          have i4 : (k : Int) + 1 ≤ (c : Int) := by omega
          go_wp2_with fail
          go_quiet (fail)
          go_wp2_with (at_builtin; go_must (refine wp_app1 (by rfl) _ _ 23 (by rfl) HE z.heap.size z.heap.size z _ #[.string ep, .int .i64 ed, .string ex] _ _ _ (by rfl) (by rfl) hown (by rfl) (by simp [Value.oneCell']) (by have := HL.out; omega) (drw hb _).size (drw hb _) (Nat.le_refl _) ?_); intro v' w1 hown1 hbel1 _ hg1)
          have hsw1 := HS.out.below hbel1
          have HDL := Lib.hid (mdrop_len (k := (k+1)) HN.out)
          by_cases hck : c = (k+1)
          · have HSD : ∀ W, SlF Mk.cells W (some ⟨b, off, none⟩) (xs.drop (k+1)) := fun W h => absurd h (by rw [HDL.out]; omega)
            obtain ⟨d0, d1, d2⟩ := mk_at hsw1 k f HFF.out
            have q0 := keepc hbel1 HC0.out
            have hown2 := hown1
            go_wp2_with fail
            go_quiet (fail)
            go_wp2_with (at_builtin; go_must (refine wp_appS (by rfl) _ _ 23 (by rfl) HE z.heap.size z.heap.size z _ _ _ _ (by rfl) Mk.cells (fun _ => rfl) mk_one (xs.drop (k+1)) b off _ _ HDL.out (by rfl) (HSD _) hown2 (by have := HL.out; have := HDL.out; omega) hbel1.size (drw hbel1 _) (Nat.le_refl _) ?_); intro v2 w2 hown3 hbel3 _ _)
            go_ret
            exact mmade_of (mput_rows HY.out hown3) HWZ.out (HW.out.trans (hbel3.mono HWZ.out)) (by rw [HY.out]; simp; omega)
          · have HSD0 := Lib.hid (hsw1.drop (k+1))
            obtain ⟨d0, d1, d2⟩ := mk_at hsw1 k f HFF.out
            have q0 := keepc hbel1 HC0.out
            have hown2 := hown1
            go_wp2_with fail
            go_quiet (fail)
            go_wp2_with (at_builtin; go_must (refine wp_appS (by rfl) _ _ 23 (by rfl) HE z.heap.size z.heap.size z _ _ _ _ (by rfl) Mk.cells (fun _ => rfl) mk_one (xs.drop (k+1)) b (off+(k+1)*3) _ _ HDL.out (by rfl) (HSD0.out.below (below_dr _ _)) hown2 (by have := HL.out; have := HDL.out; omega) hbel1.size (drw hbel1 _) (Nat.le_refl _) ?_); intro v2 w2 hown3 hbel3 _ _)
            go_ret
            exact mmade_of (mput_rows HY.out hown3) HWZ.out (HW.out.trans (hbel3.mono HWZ.out)) (by rw [HY.out]; simp; omega)
        · have q1 := beqs_no heq
          have HY : Hid (ys = xs.take k ++ ⟨ep, ed, ex⟩ :: xs.drop k) := by
            rw [Hid, ← hy.out, HSP.out, hff, if_neg (by intro h; injection h with h; exact heq h)]; rfl
          have HFF := Lib.hid hff
          clear heq hff HSP
          have i4 : (k : Int) ≤ (c : Int) := by omega
          have i5 : (k : Int) ≤ (n : Int) := by omega
          go_wp2_with fail
          go_quiet (fail)
          go_wp2_with (at_builtin; go_must (refine wp_app1 (by rfl) _ _ 23 (by rfl) HE z.heap.size z.heap.size z _ #[.string ep, .int .i64 ed, .string ex] _ _ _ (by rfl) (by rfl) hown (by rfl) (by simp [Value.oneCell']) (by have := HL.out; omega) (drw hb _).size (drw hb _) (Nat.le_refl _) ?_); intro v' w1 hown1 hbel1 _ hg1)
          have hsw1 := HS.out.below hbel1
          have HDL := Lib.hid (mdrop_len (k := k) HN.out)
          by_cases hck : c = k
          · have HSD : ∀ W, SlF Mk.cells W (some ⟨b, off, none⟩) (xs.drop k) := fun W h => absurd h (by rw [HDL.out]; omega)
            obtain ⟨d0, d1, d2⟩ := mk_at hsw1 k f HFF.out
            have q0 := keepc hbel1 HC0.out
            have hown2 := hown1
            go_wp2_with fail
            go_quiet (fail)
            go_wp2_with (at_builtin; go_must (refine wp_appS (by rfl) _ _ 23 (by rfl) HE z.heap.size z.heap.size z _ _ _ _ (by rfl) Mk.cells (fun _ => rfl) mk_one (xs.drop k) b off _ _ HDL.out (by rfl) (HSD _) hown2 (by have := HL.out; have := HDL.out; omega) hbel1.size (drw hbel1 _) (Nat.le_refl _) ?_); intro v2 w2 hown3 hbel3 _ _)
            go_ret
            exact mmade_of (mput_rows HY.out hown3) HWZ.out (HW.out.trans (hbel3.mono HWZ.out)) (by rw [HY.out]; simp; omega)
          · have HSD0 := Lib.hid (hsw1.drop k)
            obtain ⟨d0, d1, d2⟩ := mk_at hsw1 k f HFF.out
            have q0 := keepc hbel1 HC0.out
            have hown2 := hown1
            go_wp2_with fail
            go_quiet (fail)
            go_wp2_with (at_builtin; go_must (refine wp_appS (by rfl) _ _ 23 (by rfl) HE z.heap.size z.heap.size z _ _ _ _ (by rfl) Mk.cells (fun _ => rfl) mk_one (xs.drop k) b (off+k*3) _ _ HDL.out (by rfl) (HSD0.out.below (below_dr _ _)) hown2 (by have := HL.out; have := HDL.out; omega) hbel1.size (drw hbel1 _) (Nat.le_refl _) ?_); intro v2 w2 hown3 hbel3 _ _)
            go_ret
            exact mmade_of (mput_rows HY.out hown3) HWZ.out (HW.out.trans (hbel3.mono HWZ.out)) (by rw [HY.out]; simp; omega)
    · obtain rfl : k = n := by omega
      have hnl : ∀ x, xs[k]? = some x → Op.bytesLess (Mk.bs x) (Mk.bs ⟨ep, ed, ex⟩) = false := fun x hx => by
        have := (List.getElem?_eq_some_iff.1 hx).1; rw [HN.out] at this; omega
      have hff : xs[k]? = none := List.getElem?_eq_none (by rw [HN.out]; omega)
      have HY : Hid (ys = xs.take k ++ ⟨ep, ed, ex⟩ :: xs.drop k) := by
        rw [Hid, ← hy.out, put_split (f := Mk.bs) xs ⟨ep, ed, ex⟩ k (by rw [HN.out]; omega) HA.out hnl, hff, if_neg (by simp)]; rfl
      clear hnl hff
      have i4 : (k : Int) ≤ (c : Int) := by omega
      have i0 : (0 : Int) ≤ (k : Int) := by omega
      have dk : decide ((k : Int) < (k : Int)) = false := by simp
      go_wp2_with fail
      go_quiet (fail)
      go_wp2_with (at_builtin; go_must (refine wp_app1 (by rfl) _ _ 23 (by rfl) HE z.heap.size z.heap.size z _ #[.string ep, .int .i64 ed, .string ex] _ _ _ (by rfl) (by rfl) hown (by rfl) (by simp [Value.oneCell']) (by have := HL.out; omega) (drw hb _).size (drw hb _) (Nat.le_refl _) ?_); intro v' w1 hown1 hbel1 _ hg1)
      have hsw1 := HS.out.below hbel1
      have HDL := Lib.hid (mdrop_len0 (k := k) HN.out)
      by_cases hck : c = k
      · have HSD : ∀ W, SlF Mk.cells W (some ⟨b, off, none⟩) (xs.drop k) := fun W h => absurd h (by rw [HDL.out]; omega)
        have hown2 := hown1
        go_wp2_with fail
        go_quiet (fail)
        go_wp2_with (at_builtin; go_must (refine wp_appS (by rfl) _ _ 23 (by rfl) HE z.heap.size z.heap.size z _ _ _ _ (by rfl) Mk.cells (fun _ => rfl) mk_one (xs.drop k) b off _ _ HDL.out (by rfl) (HSD _) hown2 (by have := HL.out; have := HDL.out; omega) hbel1.size (drw hbel1 _) (Nat.le_refl _) ?_); intro v2 w2 hown3 hbel3 _ _)
        go_ret
        exact mmade_of (mput_rows HY.out hown3) HWZ.out (HW.out.trans (hbel3.mono HWZ.out)) (by rw [HY.out]; simp; omega)
      · have HSD0 := Lib.hid (hsw1.drop k)
        have hown2 := hown1
        go_wp2_with fail
        go_quiet (fail)
        go_wp2_with (at_builtin; go_must (refine wp_appS (by rfl) _ _ 23 (by rfl) HE z.heap.size z.heap.size z _ _ _ _ (by rfl) Mk.cells (fun _ => rfl) mk_one (xs.drop k) b (off+k*3) _ _ HDL.out (by rfl) (HSD0.out.below (below_dr _ _)) hown2 (by have := HL.out; have := HDL.out; omega) hbel1.size (drw hbel1 _) (Nat.le_refl _) ?_); intro v2 w2 hown3 hbel3 _ _)
        go_ret
        exact mmade_of (mput_rows HY.out hown3) HWZ.out (HW.out.trans (hbel3.mono HWZ.out)) (by rw [HY.out]; simp; omega)
end Go.Proofs.YtobbodbkdcbflaaDoor
namespace Go.Proofs.YtobbodbkdcbflaaDoor
open Go.RowKit
def bothI (a b : Int) : Int := if a = 2 ∧ b ≠ 0 ∧ b ≠ 2 then 4 else a
theorem getM_mem {xs : List Mk} {q : ByteArray} {m : Mk} (h : getM xs q = some m) : m ∈ xs := by
  induction xs with
  | nil => cases h
  | cons e r ih =>
    rw [getM] at h
    split at h
    · injection h with h; subst h; simp
    · exact List.mem_cons_of_mem _ (ih h)
/-- A mark on what has a kind of its own there. -/
theorem both_kind (ys : List Mk) (e : Mk) (hk : ∀ m ∈ ys, m.k ≠ 0) : (bothM (ys.map Mk.pl) e.pl) = (⟨e.p, bothI e.k (kindM ys e.p), e.x⟩ : Mk).pl := by
  rw [both_pl]
  congr 1
  unfold bothK bothI kindM
  by_cases h : e.k = 2
  · rw [if_pos h]
    cases hg : getM ys e.p with
    | none => obtain ⟨p, k, x⟩ := e; simp_all
    | some u =>
      have hu : u ∈ ys := getM_mem hg
      have := hk u hu
      obtain ⟨p, k, x⟩ := e
      by_cases h2 : u.k = 2 <;> simp_all
  · rw [if_neg h, if_neg (fun h' => h h'.1)]
theorem below_drewB (B : Nat) (w : World) : Below B w w.drew := ⟨rfl, rfl, rfl, Nat.le_refl _, fun _ _ => rfl⟩
/-- A slice of marks that can be read and be put into. -/
def ReadMk (w : World) (v : Value) (zs : List Mk) : Prop := ∃ b off c, v = .slice (some ⟨b, off, none⟩) zs.length c ∧ zs.length ≤ c ∧ c ≤ maxLen ∧ b < w.heap.size ∧ SlF Mk.cells w (some ⟨b, off, none⟩) zs
theorem ReadMk.below {w w' : World} {v : Value} {zs : List Mk} (h : ReadMk w v zs) (hq : Below w.heap.size w w') : ReadMk w' v zs := by
  obtain ⟨b, off, c, h1, h2, h3, h4, h5⟩ := h
  exact ⟨b, off, c, h1, h2, h3, Nat.lt_of_lt_of_le h4 hq.size, h5.below hq⟩
theorem mmade_read {ys : List Mk} {w : World} {e : Ending} {w' : World} (h : MadeMk ys w e w') : ∃ v, e = .returned v ∧ ReadMk w' v ys ∧ Below w.heap.size w w' := by
  obtain ⟨g, c, rfl, h1, h2, h3, h4⟩ := h
  exact ⟨_, rfl, ⟨g, 0, c, rfl, h1, h2, (h3.lt g rfl).2, own_slfMk' h3⟩, h4⟩
theorem mfold_pl (xs ys : List Mk) : (ys.foldl (putP Mk.bs) xs).map Mk.pl = (ys.map Mk.pl).foldl (putP PM.p) (xs.map Mk.pl) := by
  induction ys generalizing xs with
  | nil => rfl
  | cons y r ih => rw [List.foldl_cons, ih, List.map_cons, List.foldl_cons, putP_map Mk.pl (f := Mk.bs) (g := PM.p) (fun _ => rfl)]
theorem mput_len (xs : List Mk) (y : Mk) : (putP Mk.bs xs y).length ≤ xs.length + 1 := by
  induction xs with
  | nil => simp [putP]
  | cons x a ih =>
    unfold putP
    split
    · simp only [List.length_cons]; omega
    · split <;> simp
theorem kind_zero {xs : List Mk} (hk : ∀ m ∈ xs, m.k ≠ 0) (q : ByteArray) : (kindM xs q == 0) = (getM xs q).isNone := by
  unfold kindM
  cases hg : getM xs q with
  | none => rfl
  | some u => simpa using hk u (getM_mem hg)
/-- What lies in the reference's row behind k marks of the lower layer. -/
def keptZ (xs ys : List Mk) (k : Nat) : List PM := (keptM (xs.map Mk.pl) ((ys.take k).map Mk.pl)).foldl (putP PM.p) []
theorem keptZ_step (xs ys : List Mk) (k : Nat) (e : Mk) (he : ys[k]? = some e) (zs : List Mk) (h : zs.map Mk.pl = keptZ xs ys k) :
    keptZ xs ys (k + 1) = (if (getM xs e.p).isNone && !hidesL (xs.map Mk.pl) e.p.data.toList then putP Mk.bs zs e else zs).map Mk.pl := by
  unfold keptZ at *
  rw [take_ml ys k e he, kept_snoc, List.foldl_append, ← h]
  rw [show atP PM.p (xs.map Mk.pl) e.pl.p = (getM xs e.p).map Mk.pl from getM_pl xs e.p, Option.isNone_map]
  show List.foldl (putP PM.p) (zs.map Mk.pl) (if (getM xs e.p).isNone && !hidesL (xs.map Mk.pl) e.p.data.toList then [e.pl] else []) = _
  split
  · rw [putP_map Mk.pl (f := Mk.bs) (g := PM.p) (fun _ => rfl)]; rfl
  · rfl
end Go.Proofs.YtobbodbkdcbflaaDoor
namespace Go.Proofs.YtobbodbkdcbflaaDoor
open Go.RowKit
/-- A row of marks of the call's own, with an array behind it. -/
def OwnRd (w : World) (B : Nat) (v : Value) (ms : List Mk) : Prop :=
  ∃ g c, v = .slice (some ⟨g, 0, none⟩) ms.length c ∧ ms.length ≤ c ∧ c ≤ maxLen ∧ OwnMk w B (.slice (some ⟨g, 0, none⟩) ms.length c) ms
theorem OwnRd.below {w w' : World} {B : Nat} {v : Value} {ms : List Mk} (h : OwnRd w B v ms) (hq : Below w.heap.size w w') : OwnRd w' B v ms := by
  obtain ⟨g, c, h1, h2, h3, h4⟩ := h
  exact ⟨g, c, h1, h2, h3, own_below h4 hq⟩
/-- The contract of l3Put, as the rows of the call's own meet it. -/
theorem l3PutO_c (B : Nat) (v : Value) (ms : List Mk) (e : Mk) (w : World) (h : OwnRd w B v ms) (hB : B ≤ w.heap.size) (hn : ms.length ≤ 1000) :
    Calls Tryd.prog 74 #[v, e.val] w fun r w' => ∃ v', r = .returned v' ∧ OwnRd w' B v' (putP Mk.bs ms e) ∧ Below w.heap.size w w' := by
  obtain ⟨g, c, rfl, h2, h3, h4⟩ := h
  refine (l3Put_c g 0 c ms e _ (Lib.hid rfl) w (own_slf (fun _ => rfl) h4) (h4.lt g rfl).2 (by omega) h2 h3).mono ?_
  rintro r w' ⟨g', c', rfl, h5, h6, h7, h8⟩
  exact ⟨_, rfl, ⟨g', c', rfl, h5, h6, own_mono h7 hB⟩, h8⟩
theorem kinds_put {ms : List Mk} {e : Mk} (h : ∀ m ∈ ms, m.k ≠ 0) (he : e.k ≠ 0) : ∀ m ∈ putP Mk.bs ms e, m.k ≠ 0 := by
  induction ms with
  | nil => intro m hm; simp [putP] at hm; rw [hm]; exact he
  | cons x r ih =>
    intro m hm
    rw [putP] at hm
    split at hm
    · rcases List.mem_cons.1 hm with rfl | hm
      · exact h _ List.mem_cons_self
      · exact ih (fun m hm => h m (List.mem_cons_of_mem _ hm)) m hm
    · split at hm
      · rcases List.mem_cons.1 hm with rfl | hm
        · exact he
        · exact h _ (List.mem_cons_of_mem _ hm)
      · rcases List.mem_cons.1 hm with rfl | hm
        · exact he
        · exact h _ hm
/-- What l3Ups leaves. -/
def UpsPost (B : Nat) (l : List PM) (N : Nat) (w : World) (e : Ending) (w' : World) : Prop :=
  ∃ (v' : Value) (ns : List Mk), e = .returned v' ∧ ns.map Mk.pl = l ∧ (∀ m ∈ ns, m.k ≠ 0) ∧ ns.length ≤ N ∧ OwnRd w' B v' ns ∧ Below w.heap.size w w'
set_option maxRecDepth 100000 in
set_option maxHeartbeats 8000000 in
theorem l3Ups_c (n : Nat) : ∀ (v : Value) (ms : List Mk) (q : ByteArray) (B : Nat) (w : World), pathOkL q.data.toList = true → levelsL q.data.toList ≤ n → (∀ m ∈ ms, m.k ≠ 0) → OwnRd w B v ms → B ≤ w.heap.size → ms.length + n ≤ 1000 →
    Calls Tryd.prog 75 #[v, .string q] w (UpsPost B (upsL n (ms.map Mk.pl) q.data.toList) (ms.length + n) w) := by
  induction n with
  | zero =>
    intro v ms q B w hq hl _ _ _ _
    have := levels_up hq
    omega
  | succ n ih =>
    intro v ms q B w hq hl hk hv hB hn
    have hqs : q.size ≤ maxLen := by have := (path_len hq).2; rw [size_data] at this; unfold maxLen; omega
    obtain ⟨u, hu⟩ := str_of20 (upL q.data.toList)
    have HU := Lib.hid hu
    have hb := Below.refl w.heap.size w
    have HV := Lib.hid hv
    have HK := Lib.hid hk
    by_cases hr : upL q.data.toList = [47]
    · have q1 := beq_yes (hu ▸ hr)
      have HL : Hid (ms.map Mk.pl = upsL (n + 1) (ms.map Mk.pl) q.data.toList) := by rw [Hid]; conv => rhs; rw [upsL, if_pos hr]
      have HN : Hid (ms.length ≤ ms.length + (n + 1)) := Nat.le_add_right _ _
      obtain ⟨L, hL⟩ : ∃ L, upsL (n + 1) (ms.map Mk.pl) q.data.toList = L := ⟨_, rfl⟩
      rw [hL] at HL ⊢
      clear hr hu hq hl hk hv ih hL
      go_enter Tryd.func75, Tryd.ntmps75
      go_wp2_with fail
      refine (sPathUp_c q u HU _ hqs).mono ?_; rintro e W ⟨rfl, hq⟩; replace hb := chn hb hq; clear hq
      go_wp2
      go_ret
      exact ⟨_, ms, rfl, HL.out, HK.out, HN.out, HV.out.below hb, hb⟩
    · have q1 := beq_no (s := u) (by rw [← hu]; exact hr)
      have hlv := levels_up hq
      have hup := up_path hq hr
      rw [hu] at hlv hup
      obtain ⟨kk, hkk⟩ : ∃ kk, kindM ms u = kk := ⟨_, rfl⟩
      have HKK := Lib.hid hkk
      have hz := kind_zero hk u
      rw [hkk] at hz
      have HGK := Lib.hid (fun W (h : OwnRd W B v ms) => (by
        obtain ⟨g, c, rfl, h2, h3, h4⟩ := h
        exact l3Kind_c _ c ms u kk HKK W (own_slf (fun _ => rfl) h4) (by unfold maxLen; omega) : Calls Tryd.prog 80 #[v, .string u] W fun e w' => e = .returned (.int .i64 kk) ∧ W = w'))
      by_cases h0 : kk = 0
      · subst h0
        have hnone : getM ms u = none := by
          cases hg : getM ms u with
          | none => rfl
          | some m => rw [hg] at hz; simp at hz
        have HL : Hid (upsL n ((putP Mk.bs ms ⟨u, 2, ⟨#[]⟩⟩).map Mk.pl) u.data.toList = upsL (n + 1) (ms.map Mk.pl) q.data.toList) := by
          rw [Hid]
          conv => rhs; rw [upsL, if_neg hr]
          rw [hu, getM_pl, hnone, if_pos (by rfl), putP_map Mk.pl (f := Mk.bs) (g := PM.p) (fun _ => rfl)]; rfl
        have HP := Lib.hid (fun W (h : OwnRd W B v ms) (h' : B ≤ W.heap.size) => l3PutO_c B v ms ⟨u, 2, ⟨#[]⟩⟩ W h h' (by omega))
        have hpl := mput_len ms ⟨u, 2, ⟨#[]⟩⟩
        have HI := Lib.hid (fun v2 W (h : OwnRd W B v2 (putP Mk.bs ms ⟨u, 2, ⟨#[]⟩⟩)) (h' : B ≤ W.heap.size) => ih v2 _ u B W hup (by omega) (kinds_put hk (show (2 : Int) ≠ 0 by decide)) h h' (by omega))
        have HN : Hid ((putP Mk.bs ms ⟨u, 2, ⟨#[]⟩⟩).length + n ≤ ms.length + (n + 1)) := by rw [Hid]; omega
        obtain ⟨L, hL⟩ : ∃ L, upsL (n + 1) (ms.map Mk.pl) q.data.toList = L := ⟨_, rfl⟩
        rw [hL] at HL ⊢
        clear hr hu hq hl hk hv ih hL hlv hup hkk hz hnone hpl
        go_enter Tryd.func75, Tryd.ntmps75
        go_wp2_with fail
        refine (sPathUp_c q u HU _ hqs).mono ?_; rintro e W ⟨rfl, hq⟩; replace hb := chn hb hq; clear hq
        go_wp2_with fail
        refine (HGK.out _ (HV.out.below hb)).mono ?_; rintro e W ⟨rfl, rfl⟩
        go_wp2_with fail
        refine (HP.out _ (HV.out.below hb) (Nat.le_trans hB hb.size)).mono ?_; rintro e W ⟨v2, rfl, ho2, hq2⟩; replace hb := chn hb hq2
        go_wp2_with fail
        refine (HI.out v2 _ ho2 (Nat.le_trans hB hb.size)).mono ?_; rintro e W3 ⟨v3, ns, rfl, h1, h2, h3, h4, hq3⟩; replace hb := chn hb hq3
        go_wp2
        go_ret
        exact ⟨_, ns, rfl, h1.trans HL.out, h2, Nat.le_trans h3 HN.out, h4, hb⟩
      · have hsome : getM ms u ≠ none := fun hg => by rw [hg] at hz; simp at hz; exact h0 hz
        have HL : Hid (upsL n (ms.map Mk.pl) u.data.toList = upsL (n + 1) (ms.map Mk.pl) q.data.toList) := by
          rw [Hid]
          conv => rhs; rw [upsL, if_neg hr]
          rw [hu, getM_pl, if_neg (by cases hg : getM ms u with
            | none => exact absurd hg hsome
            | some m => simp)]
        have HI := Lib.hid (fun W (h : OwnRd W B v ms) (h' : B ≤ W.heap.size) => ih v ms u B W hup (by omega) hk h h' (by omega))
        have HN : Hid (ms.length + n ≤ ms.length + (n + 1)) := by rw [Hid]; omega
        obtain ⟨L, hL⟩ : ∃ L, upsL (n + 1) (ms.map Mk.pl) q.data.toList = L := ⟨_, rfl⟩
        rw [hL] at HL ⊢
        have hne : (kk == 0) = false := by rw [beq_eq_false_iff_ne]; exact h0
        clear hr hu hq hl hk hv ih hL hlv hup hkk hz hsome h0
        go_enter Tryd.func75, Tryd.ntmps75
        go_wp2_with fail
        refine (sPathUp_c q u HU _ hqs).mono ?_; rintro e W ⟨rfl, hq⟩; replace hb := chn hb hq; clear hq
        go_wp2_with fail
        refine (HGK.out _ (HV.out.below hb)).mono ?_; rintro e W ⟨rfl, rfl⟩
        go_wp2_with fail
        refine (HI.out _ (HV.out.below hb) (Nat.le_trans hB hb.size)).mono ?_; rintro e W3 ⟨v3, ns, rfl, h1, h2, h3, h4, hq3⟩; replace hb := chn hb hq3
        go_wp2
        go_ret
        exact ⟨_, ns, rfl, h1.trans HL.out, h2, Nat.le_trans h3 HN.out, h4, hb⟩
end Go.Proofs.YtobbodbkdcbflaaDoor
namespace Go.Proofs.YtobbodbkdcbflaaDoor
open Go.RowKit
theorem upM_tk (xs : List Mk) (k : Nat) (q : Bs) : upM ((xs.map Mk.pl).take k) q = upM ((xs.take k).map Mk.pl) q := by rw [List.map_take]
/-- The marks so far are at paths. -/
theorem path_tk {xs : List Mk} {k : Nat} (h : ∀ (j : Nat) (e : Mk), j < k → xs[j]? = some e → MAskR xs j e) : ∀ m ∈ (xs.take k).map Mk.pl, pathOkL m.p = true := by
  intro m hm
  obtain ⟨e, he, rfl⟩ := List.mem_map.1 hm
  obtain ⟨j, hj⟩ := List.getElem?_of_mem he
  rw [List.getElem?_take] at hj
  split at hj
  · next hjk => exact markOk_path (h j e hjk hj).1
  · cases hj
set_option maxRecDepth 100000 in
set_option maxHeartbeats 8000000 in
theorem sLayerOk_c (a : Option Addr) (c : Nat) (xs : List Mk) (r : Bool) (hr : Hid (r = true ↔ LOk (xs.map Mk.pl))) (w : World) (hs : SlF Mk.cells w a xs) (hx : xs.length ≤ maxLen) (hc : xs.length ≤ c) (hz : ∀ e ∈ xs, e.p.size ≤ 2000000 ∧ e.x.size ≤ 2000000) :
    Calls Tryd.prog 14 #[.slice a xs.length c] w fun q w' => q = .returned (.bool r) ∧ Below w.heap.size w w' := by
  have hR : Hid (r = true ↔ xs.length ≤ 32 ∧ ∀ (k : Nat) (e : Mk), xs[k]? = some e → MAskR xs k e) := by rw [Hid, hr.out, lok_R]
  have HIN0 := fun (k : Nat) (hk : k ≤ xs.length) (q : ByteArray) (hq : q.size ≤ maxLen) (u : Bool) (hu : Hid (upM ((xs.take k).map Mk.pl) q.data.toList = u)) (W : World) (h : SlF Mk.cells W a xs) => Lib.hid ((by
      have h1 := l3In_c a c (xs.take k) q u hu W (h.take k) (by rw [List.length_take]; omega) hq
      rw [List.length_take, Nat.min_eq_left hk] at h1
      exact h1) : Calls Tryd.prog 50 #[.slice a k c, .string q] W fun e w' => e = .returned (.bool u) ∧ Below W.heap.size W w')
  have HBR0 := fun (k : Nat) (hk : k ≤ xs.length) (q : ByteArray) (hq : q.size ≤ 2000000) (u : Bool) (hu : Hid (((xs.take k).map Mk.pl).any (bareQ q.data.toList) = u)) (W : World) (h : SlF Mk.cells W a xs) => Lib.hid ((by
      have h1 := l3Bare_c a c (xs.take k) q u hu W (h.take k) (by rw [List.length_take]; omega) hq (fun e he => hz e (List.mem_of_mem_take he))
      rw [List.length_take, Nat.min_eq_left hk] at h1
      exact h1) : Calls Tryd.prog 51 #[.slice a k c, .string q] W fun e w' => e = .returned (.bool u) ∧ Below W.heap.size W w')
  have HZ := Lib.hid hz
  have HS := Lib.hid hs
  obtain ⟨n, hn⟩ : ∃ n, xs.length = n := ⟨_, rfl⟩
  have HN := Lib.hid hn
  rw [hn] at hR hx hc HIN0 HBR0 ⊢
  unfold maxLen at hx
  have GIN0 := Lib.hid HIN0
  have GBR0 := Lib.hid HBR0
  clear hn hz hs hr HIN0 HBR0
  have hno : Hid (∀ (k : Nat) (e : Mk), xs[k]? = some e → ¬ MAskR xs k e → r = false) := fun k e he hne => by
    cases r
    · rfl
    · exact absurd ((hR.out.1 rfl).2 k e he) hne
  go_enter Tryd.func14, Tryd.ntmps14
  go_wp2
  go_loopw [3, 4] (fun i _ wr => ∃ k : Nat, k ≤ n ∧ i = .int .i64 k ∧ (∀ (j : Nat) (e : Mk), j < k → xs[j]? = some e → MAskR xs j e) ∧ Below w.heap.size w wr) (fun i _ _ => n - (intOf i).toNat)
  case atStart => exact ⟨0, Nat.zero_le _, rfl, fun j _ h => absurd h (by omega), Below.refl _ _⟩
  case round =>
    obtain ⟨k, hk, rfl, hall, hb⟩ := hrel
    have HA := Lib.hid hall
    clear hall
    by_cases hlt : k < n
    · obtain ⟨e, hee⟩ : ∃ e, xs[k]? = some e := ⟨_, List.getElem?_eq_getElem (by rw [HN.out]; exact hlt)⟩
      have h2 := (HS.out.below hb)
      obtain ⟨b, off, rfl, _⟩ := h2.addr (by rw [HN.out]; omega)
      obtain ⟨d0, d1, d2⟩ := mk_at h2 k e hee
      have hzz := HZ.out e (List.mem_of_getElem? hee)
      have HNO := Lib.hid (fun h => hno.out k e hee h)
      have HEE := Lib.hid hee
      have h3 := h2
      clear h2 hee
      obtain ⟨ep, ek, ex⟩ := e
      have hz1 : ep.size ≤ maxLen := Nat.le_trans hzz.1 (by unfold maxLen; omega)
      have hz2 : ex.size ≤ maxLen := Nat.le_trans hzz.2 (by unfold maxLen; omega)
      have HZ1 := Lib.hid hz1
      have HZ2 := Lib.hid hz2
      have GIN := Lib.hid (fun u hu => GIN0.out k hk ep hz1 u hu)
      have GBR := Lib.hid (fun u hu => GBR0.out k hk ep hzz.1 u hu)
      have HRM : Hid (markOkL (Mk.pl ⟨ep, ek, ex⟩) = (decide (1 ≤ ek) && decide (ek ≤ 4) && pathOkL ep.data.toList && dataOkL ex.data.toList && (decide (ek = 1) || ex.data.toList == []))) := rfl
      clear hzz hz1 hz2
      have c0 := new_cell wr #[.string ep, .int .i64 ek, .string ex] 30 0 _ rfl
      have c1 := new_cell wr #[.string ep, .int .i64 ek, .string ex] 30 1 _ rfl
      have c2 := new_cell wr #[.string ep, .int .i64 ek, .string ex] 30 2 _ rfl
      replace hb := hb.alloc hb.size (.cells #[.string ep, .int .i64 ek, .string ex] 30)
      have HNM := Lib.hid (fun (h : markOkL (Mk.pl ⟨ep, ek, ex⟩) = false) => HNO.out (fun h' => by have := h'.1; rw [h] at this; cases this))
      by_cases klo : ek < 1
      · obtain rfl : r = false := HNM.out (by rw [HRM.out, decide_eq_false (p := 1 ≤ ek) (by omega)]; rfl)
        go_wp2
        go_ret
        exact ⟨rfl, by repeat (first | exact hb | refine Below.alloc ?_ (by have := hb.size; simp; try omega) _)⟩
      by_cases khi : 4 < ek
      · obtain rfl : r = false := HNM.out (by rw [HRM.out, decide_eq_false (p := ek ≤ 4) (by omega), Bool.and_false]; rfl)
        go_wp2
        go_ret
        exact ⟨rfl, by repeat (first | exact hb | refine Below.alloc ?_ (by have := hb.size; simp; try omega) _)⟩
      have h4 : decide (4 < ek) = false := by simp; omega
      have HRM2 : Hid (markOkL (Mk.pl ⟨ep, ek, ex⟩) = (pathOkL ep.data.toList && dataOkL ex.data.toList && (decide (ek = 1) || ex.data.toList == []))) := by rw [Hid, HRM.out, decide_eq_true (p := 1 ≤ ek) (by omega), decide_eq_true (p := ek ≤ 4) (by omega)]; rfl
      clear HRM
      obtain ⟨p1, hp1⟩ : ∃ x, pathOkL ep.data.toList = x := ⟨_, rfl⟩
      have HP1 := Lib.hid hp1
      clear hp1
      cases p1 with
      | false =>
        obtain rfl : r = false := HNM.out (by rw [HRM2.out, HP1.out]; rfl)
        go_wp2_with fail
        refine (sPathOk_c ep false HP1 _ HZ1.out).mono ?_; rintro e W ⟨rfl, hq⟩; replace hb := chn hb hq; replace c0 := keepc hq c0; replace c1 := keepc hq c1; replace c2 := keepc hq c2; clear hq
        go_wp2
        go_ret
        exact ⟨rfl, by repeat (first | exact hb | refine Below.alloc ?_ (by have := hb.size; simp; try omega) _)⟩
      | true =>
      obtain ⟨p2, hp2⟩ : ∃ x, dataOkL ex.data.toList = x := ⟨_, rfl⟩
      have HP2 := Lib.hid hp2
      clear hp2
      cases p2 with
      | false =>
        obtain rfl : r = false := HNM.out (by rw [HRM2.out, HP1.out, HP2.out]; rfl)
        go_wp2_with fail
        refine (sPathOk_c ep true HP1 _ HZ1.out).mono ?_; rintro e W ⟨rfl, hq⟩; replace hb := chn hb hq; replace c0 := keepc hq c0; replace c1 := keepc hq c1; replace c2 := keepc hq c2; clear hq
        go_wp2_with fail
        refine (l2Data_c ex false HP2 _ HZ2.out).mono ?_; rintro e' W' ⟨rfl, rfl⟩
        go_wp2
        go_ret
        exact ⟨rfl, by repeat (first | exact hb | refine Below.alloc ?_ (by have := hb.size; simp; try omega) _)⟩
      | true =>
      have HRM3 : Hid (markOkL (Mk.pl ⟨ep, ek, ex⟩) = (decide (ek = 1) || ex.data.toList == [])) := by rw [Hid, HRM2.out, HP1.out, HP2.out]; rfl
      clear HRM2
      by_cases hxx : ek ≠ 1 ∧ ex.data.toList ≠ []
      · obtain rfl : r = false := HNM.out (by rw [HRM3.out, beqE_no hxx.2, decide_eq_false hxx.1]; rfl)
        have n1 : (ek != 1) = true := by rw [bne_iff_ne]; exact hxx.1
        have q1 := isE_no hxx.2
        clear hxx
        go_wp2_with fail
        refine (sPathOk_c ep true HP1 _ HZ1.out).mono ?_; rintro e W ⟨rfl, hq⟩; replace hb := chn hb hq; replace c0 := keepc hq c0; replace c1 := keepc hq c1; replace c2 := keepc hq c2; clear hq
        go_wp2_with fail
        refine (l2Data_c ex true HP2 _ HZ2.out).mono ?_; rintro e' W' ⟨rfl, rfl⟩
        go_wp2
        go_ret
        exact ⟨rfl, by repeat (first | exact hb | refine Below.alloc ?_ (by have := hb.size; simp; try omega) _)⟩
      have HM1 : Hid (markOkL (Mk.pl ⟨ep, ek, ex⟩) = true) := by
        rw [Hid, HRM3.out, Bool.or_eq_true, decide_eq_true_eq, beq_iff_eq]
        by_cases h1 : ek = 1
        · exact .inl h1
        · exact .inr (Classical.byContradiction fun h => hxx ⟨h1, h⟩)
      have hk1 : (ek != 1) = false ∨ ((ek != 1) = true ∧ ex.toList.isEmpty = true) := by
        by_cases h1 : ek = 1
        · exact .inl (by simp [h1])
        · exact .inr ⟨by rw [bne_iff_ne]; exact h1, isE_yes (Classical.byContradiction fun h => hxx ⟨h1, h⟩)⟩
      obtain ⟨u, hu⟩ : ∃ u, upM ((xs.take k).map Mk.pl) ep.data.toList = u := ⟨_, rfl⟩
      obtain ⟨v, hv⟩ : ∃ v, ((xs.take k).map Mk.pl).any (bareQ ep.data.toList) = v := ⟨_, rfl⟩
      have HU := Lib.hid hu
      have HV := Lib.hid hv
      have HVB : Hid (bareL ((xs.map Mk.pl).take k) ep.data.toList = v) := by
        rw [Hid, ← List.map_take, ← bareQ_eq HP1.out (path_tk HA.out)]; exact hv
      clear hu hv hxx HRM3 HNM
      cases k with
      | zero =>
        rw [Nat.zero_mul, Nat.add_zero] at d0 d1 d2
        have ASK := Lib.hid (fun (h3 : upM ((xs.map Mk.pl).take 0) ep.data.toList = true) (h4 : 2 < ek → bareL ((xs.map Mk.pl).take 0) ep.data.toList = false) (j : Nat) (g : Mk) (hj : j < 0 + 1) (hg : xs[j]? = some g) => (by
          have ej : j = 0 := by omega
          subst ej
          rw [HEE.out] at hg
          injection hg with hg
          rw [← hg]
          exact ⟨HM1.out, fun _ h _ => absurd h (by omega), h3, h4⟩ : MAskR xs j g))
        clear h3
        have w4 : (0 : Int) ≤ (c : Int) := by omega
        rcases hk1 with n1 | ⟨n1, q1⟩
        all_goals
          go_wp2_with fail
          refine (sPathOk_c ep true HP1 _ HZ1.out).mono ?_; rintro e W ⟨rfl, hq⟩; replace hb := chn hb hq; replace c0 := keepc hq c0; replace c1 := keepc hq c1; replace c2 := keepc hq c2; clear hq
          go_wp2_with fail
          refine (l2Data_c ex true HP2 _ HZ2.out).mono ?_; rintro e' W' ⟨rfl, rfl⟩
          go_wp2_with fail
          refine wp_region_held_drew (S := fun w' => Below _ _ w') (by kernel_rfl) (below_drew _) (fun hHeld => ?_)
          refine tk (i := 0) (d := (some 45)) (v := ?_) rfl rfl (by kernel_rfl) (by kernel_rfl) (by kernel_rfl) (fun _ _ _ h => h) (Or.inl ⟨by rfl, ?_⟩) hHeld ?_
          rotate_left
          · intro w hSw; have zc0 := keepc hSw c0; have zc1 := keepc hSw c1; have zc2 := keepc hSw c2; clear hSw; go_simp <;> with_reducible rfl
          (try simp only [Act.put, List.setIfInBounds_toArray, List.set_cons_zero, List.set_cons_succ])
          refine tk (i := 1) (d := (some 46)) (v := ?_) rfl rfl (by kernel_rfl) (by kernel_rfl) (by kernel_rfl) (fun _ _ _ h => h) (Or.inl ⟨by rfl, ?_⟩) hHeld ?_
          rotate_left
          · intro w hSw; have zc0 := keepc hSw c0; have zc1 := keepc hSw c1; have zc2 := keepc hSw c2; clear hSw; go_simp <;> with_reducible rfl
          (try simp only [Act.put, List.setIfInBounds_toArray, List.set_cons_zero, List.set_cons_succ])
          refine tk (i := 2) (d := (some 47)) (v := ?_) rfl rfl (by kernel_rfl) (by kernel_rfl) (by kernel_rfl) (fun _ _ _ h => h) (Or.inl ⟨by rfl, ?_⟩) hHeld ?_
          rotate_left
          · intro w hSw; have zc0 := keepc hSw c0; have zc1 := keepc hSw c1; have zc2 := keepc hSw c2; clear hSw; go_simp <;> with_reducible rfl
          (try simp only [Act.put, List.setIfInBounds_toArray, List.set_cons_zero, List.set_cons_succ])
          refine tk (i := 3) (d := (some 48)) (v := undef) rfl rfl (by kernel_rfl) (by kernel_rfl) (by kernel_rfl) (fun _ _ _ h => h) (Or.inr ⟨by kernel_rfl, rfl⟩) hHeld ?_
          (try simp only [Act.put, List.setIfInBounds_toArray, List.set_cons_zero, List.set_cons_succ])
          refine tk (i := 4) (d := (some 49)) (v := undef) rfl rfl (by kernel_rfl) (by kernel_rfl) (by kernel_rfl) (fun _ _ _ h => h) (Or.inr ⟨by kernel_rfl, rfl⟩) hHeld ?_
          (try simp only [Act.put, List.setIfInBounds_toArray, List.set_cons_zero, List.set_cons_succ])
          refine tk (i := 5) (d := (some 50)) (v := undef) rfl rfl (by kernel_rfl) (by kernel_rfl) (by kernel_rfl) (fun _ _ _ h => h) (Or.inr ⟨by kernel_rfl, rfl⟩) hHeld ?_
          (try simp only [Act.put, List.setIfInBounds_toArray, List.set_cons_zero, List.set_cons_succ])
          refine tk (i := 6) (d := (some 51)) (v := undef) rfl rfl (by kernel_rfl) (by kernel_rfl) (by kernel_rfl) (fun _ _ _ h => h) (Or.inr ⟨by kernel_rfl, rfl⟩) hHeld ?_
          (try simp only [Act.put, List.setIfInBounds_toArray, List.set_cons_zero, List.set_cons_succ])
          refine tk (i := 7) (d := (some 52)) (v := undef) rfl rfl (by kernel_rfl) (by kernel_rfl) (by kernel_rfl) (fun _ _ _ h => h) (Or.inr ⟨by kernel_rfl, rfl⟩) hHeld ?_
          (try simp only [Act.put, List.setIfInBounds_toArray, List.set_cons_zero, List.set_cons_succ])
          refine tk (i := 8) (d := (some 53)) (v := undef) rfl rfl (by kernel_rfl) (by kernel_rfl) (by kernel_rfl) (fun _ _ _ h => h) (Or.inr ⟨by kernel_rfl, rfl⟩) hHeld ?_
          (try simp only [Act.put, List.setIfInBounds_toArray, List.set_cons_zero, List.set_cons_succ])
          refine tk (i := 9) (d := (some 54)) (v := undef) rfl rfl (by kernel_rfl) (by kernel_rfl) (by kernel_rfl) (fun _ _ _ h => h) (Or.inr ⟨by kernel_rfl, rfl⟩) hHeld ?_
          (try simp only [Act.put, List.setIfInBounds_toArray, List.set_cons_zero, List.set_cons_succ])
          refine tk (i := 10) (d := (some 55)) (v := undef) rfl rfl (by kernel_rfl) (by kernel_rfl) (by kernel_rfl) (fun _ _ _ h => h) (Or.inr ⟨by kernel_rfl, rfl⟩) hHeld ?_
          (try simp only [Act.put, List.setIfInBounds_toArray, List.set_cons_zero, List.set_cons_succ])
          refine tk (i := 11) (d := (some 56)) (v := undef) rfl rfl (by kernel_rfl) (by kernel_rfl) (by kernel_rfl) (fun _ _ _ h => h) (Or.inr ⟨by kernel_rfl, rfl⟩) hHeld ?_
          (try simp only [Act.put, List.setIfInBounds_toArray, List.set_cons_zero, List.set_cons_succ])
          refine tk (i := 12) (d := (some 57)) (v := ?_) rfl rfl (by kernel_rfl) (by kernel_rfl) (by kernel_rfl) (fun _ _ _ h => h) (Or.inl ⟨by rfl, ?_⟩) hHeld ?_
          rotate_left
          · intro w hSw; have zc0 := keepc hSw c0; have zc1 := keepc hSw c1; have zc2 := keepc hSw c2; clear hSw; go_simp <;> with_reducible rfl
          (try simp only [Act.put, List.setIfInBounds_toArray, List.set_cons_zero, List.set_cons_succ])
          refine tk (i := 13) (d := (some 58)) (v := ?_) rfl rfl (by kernel_rfl) (by kernel_rfl) (by kernel_rfl) (fun _ _ _ h => h) (Or.inl ⟨by rfl, ?_⟩) hHeld ?_
          rotate_left
          · intro w hSw; have zc0 := keepc hSw c0; have zc1 := keepc hSw c1; have zc2 := keepc hSw c2; clear hSw; go_simp <;> with_reducible rfl
          (try simp only [Act.put, List.setIfInBounds_toArray, List.set_cons_zero, List.set_cons_succ])
          refine tk (i := 14) (d := (some 59)) (v := ?_) rfl rfl (by kernel_rfl) (by kernel_rfl) (by kernel_rfl) (fun _ _ _ h => h) (Or.inl ⟨by rfl, ?_⟩) hHeld ?_
          rotate_left
          · intro w hSw; have zc0 := keepc hSw c0; have zc1 := keepc hSw c1; have zc2 := keepc hSw c2; clear hSw; go_simp <;> with_reducible rfl
          (try simp only [Act.put, List.setIfInBounds_toArray, List.set_cons_zero, List.set_cons_succ])
          refine tk (i := 15) (d := (some 60)) (v := ?_) rfl rfl (by kernel_rfl) (by kernel_rfl) (by kernel_rfl) (fun _ _ _ h => h) (Or.inl ⟨by rfl, ?_⟩) hHeld ?_
          rotate_left
          · intro w hSw; have zc0 := keepc hSw c0; have zc1 := keepc hSw c1; have zc2 := keepc hSw c2; clear hSw; go_simp <;> with_reducible rfl
          (try simp only [Act.put, List.setIfInBounds_toArray, List.set_cons_zero, List.set_cons_succ])
          refine tk (i := 16) (d := (some 61)) (v := ?_) rfl rfl (by kernel_rfl) (by kernel_rfl) (by kernel_rfl) (fun _ _ _ h => h) (Or.inl ⟨by rfl, ?_⟩) hHeld ?_
          rotate_left
          · intro w hSw; have zc0 := keepc hSw c0; have zc1 := keepc hSw c1; have zc2 := keepc hSw c2; clear hSw; go_simp <;> with_reducible rfl
          (try simp only [Act.put, List.setIfInBounds_toArray, List.set_cons_zero, List.set_cons_succ])
          refine tk (i := 17) (d := (some 62)) (v := ?_) rfl rfl (by kernel_rfl) (by kernel_rfl) (by kernel_rfl) (fun _ _ _ h => h) (Or.inl ⟨by rfl, ?_⟩) hHeld ?_
          rotate_left
          · intro w hSw; have zc0 := keepc hSw c0; have zc1 := keepc hSw c1; have zc2 := keepc hSw c2; clear hSw; go_simp <;> with_reducible rfl
          (try simp only [Act.put, List.setIfInBounds_toArray, List.set_cons_zero, List.set_cons_succ])
          refine tk (i := 18) (d := (some 63)) (v := ?_) rfl rfl (by kernel_rfl) (by kernel_rfl) (by kernel_rfl) (fun _ _ _ h => h) (Or.inl ⟨by rfl, ?_⟩) hHeld ?_
          rotate_left
          · intro w hSw; have zc0 := keepc hSw c0; have zc1 := keepc hSw c1; have zc2 := keepc hSw c2; clear hSw; go_simp <;> with_reducible rfl
          (try simp only [Act.put, List.setIfInBounds_toArray, List.set_cons_zero, List.set_cons_succ])
          refine wpAnyH_ready (rs := [19]) (by kernel_rfl) (by simp) ?_
          refine AllReadyH.cons rfl (fun K hK => ?_) AllReadyH.nil
          go_simp
          refine ((GIN.out u HU _ (HS.out.below (chn hb hHeld))).out).mono ?_; rintro e W ⟨rfl, hq⟩
          go_simp
          refine hK.out _ _ (chn hHeld hq) (fun h => ?_)
          clear hK K; replace hHeld := h; clear h hq
          (try simp only [Act.put, List.setIfInBounds_toArray, List.set_cons_zero, List.set_cons_succ])
          cases u with
          | false =>
            obtain rfl : r = false := HNO.out (fun h => by have h := h.2.2.1; rw [upM_tk] at h; exact absurd (HU.out.symm.trans h) (by simp))
            refine tk (i := 20) (d := (some 65)) (v := ?_) rfl rfl (by kernel_rfl) (by kernel_rfl) (by kernel_rfl) (fun _ _ _ h => h) (Or.inl ⟨by rfl, ?_⟩) hHeld ?_
            rotate_left
            · intro w hSw; have zc0 := keepc hSw c0; have zc1 := keepc hSw c1; have zc2 := keepc hSw c2; clear hSw; go_simp <;> with_reducible rfl
            (try simp only [Act.put, List.setIfInBounds_toArray, List.set_cons_zero, List.set_cons_succ])
            refine tk (i := 21) (d := (some 66)) (v := ?_) rfl rfl (by kernel_rfl) (by kernel_rfl) (by kernel_rfl) (fun _ _ _ h => h) (Or.inl ⟨by rfl, ?_⟩) hHeld ?_
            rotate_left
            · intro w hSw; have zc0 := keepc hSw c0; have zc1 := keepc hSw c1; have zc2 := keepc hSw c2; clear hSw; go_simp <;> with_reducible rfl
            (try simp only [Act.put, List.setIfInBounds_toArray, List.set_cons_zero, List.set_cons_succ])
            refine wpAnyH_done (by kernel_rfl) ?_ _
            replace hb := chn hb hHeld; clear hHeld
            go_wp2
            go_ret
            exact ⟨rfl, by repeat (first | exact hb | refine Below.alloc ?_ (by have := hb.size; simp; try omega) _)⟩
          | true =>
            refine tk (i := 20) (d := (some 65)) (v := ?_) rfl rfl (by kernel_rfl) (by kernel_rfl) (by kernel_rfl) (fun _ _ _ h => h) (Or.inl ⟨by rfl, ?_⟩) hHeld ?_
            rotate_left
            · intro w hSw; have zc0 := keepc hSw c0; have zc1 := keepc hSw c1; have zc2 := keepc hSw c2; clear hSw; go_simp <;> with_reducible rfl
            (try simp only [Act.put, List.setIfInBounds_toArray, List.set_cons_zero, List.set_cons_succ])
            refine tk (i := 21) (d := (some 66)) (v := ?_) rfl rfl (by kernel_rfl) (by kernel_rfl) (by kernel_rfl) (fun _ _ _ h => h) (Or.inl ⟨by rfl, ?_⟩) hHeld ?_
            rotate_left
            · intro w hSw; have zc0 := keepc hSw c0; have zc1 := keepc hSw c1; have zc2 := keepc hSw c2; clear hSw; go_simp <;> with_reducible rfl
            (try simp only [Act.put, List.setIfInBounds_toArray, List.set_cons_zero, List.set_cons_succ])
            refine wpAnyH_done (by kernel_rfl) ?_ _
            replace hb := chn hb hHeld; replace c0 := keepc hHeld c0; replace c1 := keepc hHeld c1; replace c2 := keepc hHeld c2; clear hHeld
            have HUQ := Lib.hid ((upM_tk xs 0 ep.data.toList).trans HU.out)
            by_cases k3 : 2 < ek
            · have d3 : decide (2 < ek) = true := by simp; omega
              go_wp2_with fail
              refine wp_region_held_drew (S := fun w' => Below _ _ w') (by kernel_rfl) (below_drew _) (fun hHeld => ?_)
              refine tk (i := 0) (d := (some 67)) (v := ?_) rfl rfl (by kernel_rfl) (by kernel_rfl) (by kernel_rfl) (fun _ _ _ h => h) (Or.inl ⟨by rfl, ?_⟩) hHeld ?_
              rotate_left
              · intro w hSw; have zc0 := keepc hSw c0; have zc1 := keepc hSw c1; have zc2 := keepc hSw c2; clear hSw; go_simp <;> with_reducible rfl
              (try simp only [Act.put, List.setIfInBounds_toArray, List.set_cons_zero, List.set_cons_succ])
              refine tk (i := 1) (d := (some 68)) (v := ?_) rfl rfl (by kernel_rfl) (by kernel_rfl) (by kernel_rfl) (fun _ _ _ h => h) (Or.inl ⟨by rfl, ?_⟩) hHeld ?_
              rotate_left
              · intro w hSw; have zc0 := keepc hSw c0; have zc1 := keepc hSw c1; have zc2 := keepc hSw c2; clear hSw; go_simp <;> with_reducible rfl
              (try simp only [Act.put, List.setIfInBounds_toArray, List.set_cons_zero, List.set_cons_succ])
              refine tk (i := 2) (d := (some 69)) (v := ?_) rfl rfl (by kernel_rfl) (by kernel_rfl) (by kernel_rfl) (fun _ _ _ h => h) (Or.inl ⟨by rfl, ?_⟩) hHeld ?_
              rotate_left
              · intro w hSw; have zc0 := keepc hSw c0; have zc1 := keepc hSw c1; have zc2 := keepc hSw c2; clear hSw; go_simp <;> with_reducible rfl
              (try simp only [Act.put, List.setIfInBounds_toArray, List.set_cons_zero, List.set_cons_succ])
              refine tk (i := 3) (d := (some 70)) (v := ?_) rfl rfl (by kernel_rfl) (by kernel_rfl) (by kernel_rfl) (fun _ _ _ h => h) (Or.inl ⟨by rfl, ?_⟩) hHeld ?_
              rotate_left
              · intro w hSw; have zc0 := keepc hSw c0; have zc1 := keepc hSw c1; have zc2 := keepc hSw c2; clear hSw; go_simp <;> with_reducible rfl
              (try simp only [Act.put, List.setIfInBounds_toArray, List.set_cons_zero, List.set_cons_succ])
              refine tk (i := 4) (d := (some 71)) (v := ?_) rfl rfl (by kernel_rfl) (by kernel_rfl) (by kernel_rfl) (fun _ _ _ h => h) (Or.inl ⟨by rfl, ?_⟩) hHeld ?_
              rotate_left
              · intro w hSw; have zc0 := keepc hSw c0; have zc1 := keepc hSw c1; have zc2 := keepc hSw c2; clear hSw; go_simp <;> with_reducible rfl
              (try simp only [Act.put, List.setIfInBounds_toArray, List.set_cons_zero, List.set_cons_succ])
              refine tk (i := 5) (d := (some 72)) (v := ?_) rfl rfl (by kernel_rfl) (by kernel_rfl) (by kernel_rfl) (fun _ _ _ h => h) (Or.inl ⟨by rfl, ?_⟩) hHeld ?_
              rotate_left
              · intro w hSw; have zc0 := keepc hSw c0; have zc1 := keepc hSw c1; have zc2 := keepc hSw c2; clear hSw; go_simp <;> with_reducible rfl
              (try simp only [Act.put, List.setIfInBounds_toArray, List.set_cons_zero, List.set_cons_succ])
              refine tk (i := 6) (d := (some 73)) (v := ?_) rfl rfl (by kernel_rfl) (by kernel_rfl) (by kernel_rfl) (fun _ _ _ h => h) (Or.inl ⟨by rfl, ?_⟩) hHeld ?_
              rotate_left
              · intro w hSw; have zc0 := keepc hSw c0; have zc1 := keepc hSw c1; have zc2 := keepc hSw c2; clear hSw; go_simp <;> with_reducible rfl
              (try simp only [Act.put, List.setIfInBounds_toArray, List.set_cons_zero, List.set_cons_succ])
              refine tk (i := 7) (d := (some 74)) (v := ?_) rfl rfl (by kernel_rfl) (by kernel_rfl) (by kernel_rfl) (fun _ _ _ h => h) (Or.inl ⟨by rfl, ?_⟩) hHeld ?_
              rotate_left
              · intro w hSw; have zc0 := keepc hSw c0; have zc1 := keepc hSw c1; have zc2 := keepc hSw c2; clear hSw; go_simp <;> with_reducible rfl
              (try simp only [Act.put, List.setIfInBounds_toArray, List.set_cons_zero, List.set_cons_succ])
              refine tk (i := 8) (d := (some 75)) (v := ?_) rfl rfl (by kernel_rfl) (by kernel_rfl) (by kernel_rfl) (fun _ _ _ h => h) (Or.inl ⟨by rfl, ?_⟩) hHeld ?_
              rotate_left
              · intro w hSw; have zc0 := keepc hSw c0; have zc1 := keepc hSw c1; have zc2 := keepc hSw c2; clear hSw; go_simp <;> with_reducible rfl
              (try simp only [Act.put, List.setIfInBounds_toArray, List.set_cons_zero, List.set_cons_succ])
              refine wpAnyH_ready (rs := [9]) (by kernel_rfl) (by simp) ?_
              refine AllReadyH.cons rfl (fun K hK => ?_) AllReadyH.nil
              go_simp
              refine ((GBR.out v HV _ (HS.out.below (chn hb hHeld))).out).mono ?_; rintro e W ⟨rfl, hq⟩
              go_simp
              refine hK.out _ _ (chn hHeld hq) (fun h => ?_)
              clear hK K; replace hHeld := h; clear h hq
              (try simp only [Act.put, List.setIfInBounds_toArray, List.set_cons_zero, List.set_cons_succ])
              cases v with
              | true =>
                obtain rfl : r = false := HNO.out (fun h => by have h := h.2.2.2 k3; exact absurd ((HVB.out).symm.trans h) (by simp))
                refine tk (i := 10) (d := (some 77)) (v := ?_) rfl rfl (by kernel_rfl) (by kernel_rfl) (by kernel_rfl) (fun _ _ _ h => h) (Or.inl ⟨by rfl, ?_⟩) hHeld ?_
                rotate_left
                · intro w hSw; have zc0 := keepc hSw c0; have zc1 := keepc hSw c1; have zc2 := keepc hSw c2; clear hSw; go_simp <;> with_reducible rfl
                (try simp only [Act.put, List.setIfInBounds_toArray, List.set_cons_zero, List.set_cons_succ])
                refine wpAnyH_done (by kernel_rfl) ?_ _
                replace hb := chn hb hHeld; clear hHeld
                go_wp2
                go_ret
                exact ⟨rfl, by repeat (first | exact hb | refine Below.alloc ?_ (by have := hb.size; simp; try omega) _)⟩
              | false =>
                refine tk (i := 10) (d := (some 77)) (v := ?_) rfl rfl (by kernel_rfl) (by kernel_rfl) (by kernel_rfl) (fun _ _ _ h => h) (Or.inl ⟨by rfl, ?_⟩) hHeld ?_
                rotate_left
                · intro w hSw; have zc0 := keepc hSw c0; have zc1 := keepc hSw c1; have zc2 := keepc hSw c2; clear hSw; go_simp <;> with_reducible rfl
                (try simp only [Act.put, List.setIfInBounds_toArray, List.set_cons_zero, List.set_cons_succ])
                refine wpAnyH_done (by kernel_rfl) ?_ _
                replace hb := chn hb hHeld; clear hHeld
                go_wp2
                go_roundw
                case rel => exact ⟨(0+1), by omega, by go_num, ASK.out HUQ.out (fun _ => HVB.out), by repeat (first | exact hb | refine Below.alloc ?_ (by have := hb.size; simp; try omega) _)⟩
                case measure => simp [intOf]; omega
            · have d3 : decide (2 < ek) = false := by simp; omega
              go_wp2_with fail
              refine wp_region_held_drew (S := fun w' => Below _ _ w') (by kernel_rfl) (below_drew _) (fun hHeld => ?_)
              refine tk (i := 0) (d := (some 67)) (v := ?_) rfl rfl (by kernel_rfl) (by kernel_rfl) (by kernel_rfl) (fun _ _ _ h => h) (Or.inl ⟨by rfl, ?_⟩) hHeld ?_
              rotate_left
              · intro w hSw; have zc0 := keepc hSw c0; have zc1 := keepc hSw c1; have zc2 := keepc hSw c2; clear hSw; go_simp <;> with_reducible rfl
              (try simp only [Act.put, List.setIfInBounds_toArray, List.set_cons_zero, List.set_cons_succ])
              refine tk (i := 1) (d := (some 68)) (v := ?_) rfl rfl (by kernel_rfl) (by kernel_rfl) (by kernel_rfl) (fun _ _ _ h => h) (Or.inl ⟨by rfl, ?_⟩) hHeld ?_
              rotate_left
              · intro w hSw; have zc0 := keepc hSw c0; have zc1 := keepc hSw c1; have zc2 := keepc hSw c2; clear hSw; go_simp <;> with_reducible rfl
              (try simp only [Act.put, List.setIfInBounds_toArray, List.set_cons_zero, List.set_cons_succ])
              refine tk (i := 2) (d := (some 69)) (v := ?_) rfl rfl (by kernel_rfl) (by kernel_rfl) (by kernel_rfl) (fun _ _ _ h => h) (Or.inl ⟨by rfl, ?_⟩) hHeld ?_
              rotate_left
              · intro w hSw; have zc0 := keepc hSw c0; have zc1 := keepc hSw c1; have zc2 := keepc hSw c2; clear hSw; go_simp <;> with_reducible rfl
              (try simp only [Act.put, List.setIfInBounds_toArray, List.set_cons_zero, List.set_cons_succ])
              refine tk (i := 3) (d := (some 70)) (v := ?_) rfl rfl (by kernel_rfl) (by kernel_rfl) (by kernel_rfl) (fun _ _ _ h => h) (Or.inl ⟨by rfl, ?_⟩) hHeld ?_
              rotate_left
              · intro w hSw; have zc0 := keepc hSw c0; have zc1 := keepc hSw c1; have zc2 := keepc hSw c2; clear hSw; go_simp <;> with_reducible rfl
              (try simp only [Act.put, List.setIfInBounds_toArray, List.set_cons_zero, List.set_cons_succ])
              refine tk (i := 4) (d := (some 71)) (v := undef) rfl rfl (by kernel_rfl) (by kernel_rfl) (by kernel_rfl) (fun _ _ _ h => h) (Or.inr ⟨by kernel_rfl, rfl⟩) hHeld ?_
              (try simp only [Act.put, List.setIfInBounds_toArray, List.set_cons_zero, List.set_cons_succ])
              refine tk (i := 5) (d := (some 72)) (v := undef) rfl rfl (by kernel_rfl) (by kernel_rfl) (by kernel_rfl) (fun _ _ _ h => h) (Or.inr ⟨by kernel_rfl, rfl⟩) hHeld ?_
              (try simp only [Act.put, List.setIfInBounds_toArray, List.set_cons_zero, List.set_cons_succ])
              refine tk (i := 6) (d := (some 73)) (v := undef) rfl rfl (by kernel_rfl) (by kernel_rfl) (by kernel_rfl) (fun _ _ _ h => h) (Or.inr ⟨by kernel_rfl, rfl⟩) hHeld ?_
              (try simp only [Act.put, List.setIfInBounds_toArray, List.set_cons_zero, List.set_cons_succ])
              refine tk (i := 7) (d := (some 74)) (v := undef) rfl rfl (by kernel_rfl) (by kernel_rfl) (by kernel_rfl) (fun _ _ _ h => h) (Or.inr ⟨by kernel_rfl, rfl⟩) hHeld ?_
              (try simp only [Act.put, List.setIfInBounds_toArray, List.set_cons_zero, List.set_cons_succ])
              refine tk (i := 8) (d := (some 75)) (v := undef) rfl rfl (by kernel_rfl) (by kernel_rfl) (by kernel_rfl) (fun _ _ _ h => h) (Or.inr ⟨by kernel_rfl, rfl⟩) hHeld ?_
              (try simp only [Act.put, List.setIfInBounds_toArray, List.set_cons_zero, List.set_cons_succ])
              refine tk (i := 9) (d := (some 76)) (v := undef) rfl rfl (by kernel_rfl) (by kernel_rfl) (by kernel_rfl) (fun _ _ _ h => h) (Or.inr ⟨by kernel_rfl, rfl⟩) hHeld ?_
              (try simp only [Act.put, List.setIfInBounds_toArray, List.set_cons_zero, List.set_cons_succ])
              refine tk (i := 10) (d := (some 77)) (v := ?_) rfl rfl (by kernel_rfl) (by kernel_rfl) (by kernel_rfl) (fun _ _ _ h => h) (Or.inl ⟨by rfl, ?_⟩) hHeld ?_
              rotate_left
              · intro w hSw; have zc0 := keepc hSw c0; have zc1 := keepc hSw c1; have zc2 := keepc hSw c2; clear hSw; go_simp <;> with_reducible rfl
              (try simp only [Act.put, List.setIfInBounds_toArray, List.set_cons_zero, List.set_cons_succ])
              refine wpAnyH_done (by kernel_rfl) ?_ _
              replace hb := chn hb hHeld; clear hHeld
              go_wp2
              go_roundw
              case rel => exact ⟨(0+1), by omega, by go_num, ASK.out HUQ.out (fun h => (by exfalso; omega)), by repeat (first | exact hb | refine Below.alloc ?_ (by have := hb.size; simp; try omega) _)⟩
              case measure => simp [intOf]; omega
      | succ k =>
        obtain ⟨f, hff⟩ : ∃ f, xs[k]? = some f := ⟨_, List.getElem?_eq_getElem (by rw [HN.out]; omega)⟩
        obtain ⟨c3, _, _⟩ := mk_at h3 k f hff
        replace c3 := keepc (bellow_alloc wr (.cells #[.string ep, .int .i64 ek, .string ex] 30)) c3
        have HFF := Lib.hid hff
        clear hff h3
        have w0 : IntKind.i64.wrap (k : Int) = (k : Int) := IntWalk.i64_in _ (by omega)
        have w1 : (0 : Int) ≤ (k : Int) := by omega
        have w2 : (k : Int) < (n : Int) := by omega
        have w3 : (0 : Int) ≤ (k : Int) + 1 := by omega
        have w4 : (k : Int) + 1 ≤ (c : Int) := by omega
        rcases Bool.eq_false_or_eq_true (Op.bytesLess f.p.toList ep.toList) with hle | hle
        · have HLE := Lib.hid hle
          have ASK := Lib.hid (fun (h3 : upM ((xs.map Mk.pl).take (k + 1)) ep.data.toList = true) (h4 : 2 < ek → bareL ((xs.map Mk.pl).take (k + 1)) ep.data.toList = false) (j : Nat) (g : Mk) (hj : j < k + 1 + 1) (hg : xs[j]? = some g) => (by
            by_cases ej : j = k + 1
            · subst ej
              rw [HEE.out] at hg
              injection hg with hg
              rw [← hg]
              exact ⟨HM1.out, mless_of xs k f ⟨ep, ek, ex⟩ HFF.out HLE.out, h3, h4⟩
            · exact HA.out j g (by omega) hg : MAskR xs j g))
          rcases hk1 with n1 | ⟨n1, q1⟩
          all_goals
            go_wp2_with fail
            refine (sPathOk_c ep true HP1 _ HZ1.out).mono ?_; rintro e W ⟨rfl, hq⟩; replace hb := chn hb hq; replace c0 := keepc hq c0; replace c1 := keepc hq c1; replace c2 := keepc hq c2; replace c3 := keepc hq c3; clear hq
            go_wp2_with fail
            refine (l2Data_c ex true HP2 _ HZ2.out).mono ?_; rintro e' W' ⟨rfl, rfl⟩
            go_wp2_with fail
            refine wp_region_held_drew (S := fun w' => Below _ _ w') (by kernel_rfl) (below_drew _) (fun hHeld => ?_)
            refine tk (i := 0) (d := (some 45)) (v := ?_) rfl rfl (by kernel_rfl) (by kernel_rfl) (by kernel_rfl) (fun _ _ _ h => h) (Or.inl ⟨by rfl, ?_⟩) hHeld ?_
            rotate_left
            · intro w hSw; have zc0 := keepc hSw c0; have zc1 := keepc hSw c1; have zc2 := keepc hSw c2; have zc3 := keepc hSw c3; clear hSw; go_simp <;> with_reducible rfl
            (try simp only [Act.put, List.setIfInBounds_toArray, List.set_cons_zero, List.set_cons_succ])
            refine tk (i := 1) (d := (some 46)) (v := ?_) rfl rfl (by kernel_rfl) (by kernel_rfl) (by kernel_rfl) (fun _ _ _ h => h) (Or.inl ⟨by rfl, ?_⟩) hHeld ?_
            rotate_left
            · intro w hSw; have zc0 := keepc hSw c0; have zc1 := keepc hSw c1; have zc2 := keepc hSw c2; have zc3 := keepc hSw c3; clear hSw; go_simp <;> with_reducible rfl
            (try simp only [Act.put, List.setIfInBounds_toArray, List.set_cons_zero, List.set_cons_succ])
            refine tk (i := 2) (d := (some 47)) (v := ?_) rfl rfl (by kernel_rfl) (by kernel_rfl) (by kernel_rfl) (fun _ _ _ h => h) (Or.inl ⟨by rfl, ?_⟩) hHeld ?_
            rotate_left
            · intro w hSw; have zc0 := keepc hSw c0; have zc1 := keepc hSw c1; have zc2 := keepc hSw c2; have zc3 := keepc hSw c3; clear hSw; go_simp <;> with_reducible rfl
            (try simp only [Act.put, List.setIfInBounds_toArray, List.set_cons_zero, List.set_cons_succ])
            refine tk (i := 3) (d := (some 48)) (v := ?_) rfl rfl (by kernel_rfl) (by kernel_rfl) (by kernel_rfl) (fun _ _ _ h => h) (Or.inl ⟨by rfl, ?_⟩) hHeld ?_
            rotate_left
            · intro w hSw; have zc0 := keepc hSw c0; have zc1 := keepc hSw c1; have zc2 := keepc hSw c2; have zc3 := keepc hSw c3; clear hSw; go_simp <;> with_reducible rfl
            (try simp only [Act.put, List.setIfInBounds_toArray, List.set_cons_zero, List.set_cons_succ])
            refine tk (i := 4) (d := (some 49)) (v := ?_) rfl rfl (by kernel_rfl) (by kernel_rfl) (by kernel_rfl) (fun _ _ _ h => h) (Or.inl ⟨by rfl, ?_⟩) hHeld ?_
            rotate_left
            · intro w hSw; have zc0 := keepc hSw c0; have zc1 := keepc hSw c1; have zc2 := keepc hSw c2; have zc3 := keepc hSw c3; clear hSw; go_simp <;> with_reducible rfl
            (try simp only [Act.put, List.setIfInBounds_toArray, List.set_cons_zero, List.set_cons_succ])
            refine tk (i := 5) (d := (some 50)) (v := ?_) rfl rfl (by kernel_rfl) (by kernel_rfl) (by kernel_rfl) (fun _ _ _ h => h) (Or.inl ⟨by rfl, ?_⟩) hHeld ?_
            rotate_left
            · intro w hSw; have zc0 := keepc hSw c0; have zc1 := keepc hSw c1; have zc2 := keepc hSw c2; have zc3 := keepc hSw c3; clear hSw; go_simp <;> with_reducible rfl
            (try simp only [Act.put, List.setIfInBounds_toArray, List.set_cons_zero, List.set_cons_succ])
            refine tk (i := 6) (d := (some 51)) (v := ?_) rfl rfl (by kernel_rfl) (by kernel_rfl) (by kernel_rfl) (fun _ _ _ h => h) (Or.inl ⟨by rfl, ?_⟩) hHeld ?_
            rotate_left
            · intro w hSw; have zc0 := keepc hSw c0; have zc1 := keepc hSw c1; have zc2 := keepc hSw c2; have zc3 := keepc hSw c3; clear hSw; go_simp <;> with_reducible rfl
            (try simp only [Act.put, List.setIfInBounds_toArray, List.set_cons_zero, List.set_cons_succ])
            refine tk (i := 7) (d := (some 52)) (v := ?_) rfl rfl (by kernel_rfl) (by kernel_rfl) (by kernel_rfl) (fun _ _ _ h => h) (Or.inl ⟨by rfl, ?_⟩) hHeld ?_
            rotate_left
            · intro w hSw; have zc0 := keepc hSw c0; have zc1 := keepc hSw c1; have zc2 := keepc hSw c2; have zc3 := keepc hSw c3; clear hSw; go_simp <;> with_reducible rfl
            (try simp only [Act.put, List.setIfInBounds_toArray, List.set_cons_zero, List.set_cons_succ])
            refine tk (i := 8) (d := (some 53)) (v := ?_) rfl rfl (by kernel_rfl) (by kernel_rfl) (by kernel_rfl) (fun _ _ _ h => h) (Or.inl ⟨by rfl, ?_⟩) hHeld ?_
            rotate_left
            · intro w hSw; have zc0 := keepc hSw c0; have zc1 := keepc hSw c1; have zc2 := keepc hSw c2; have zc3 := keepc hSw c3; clear hSw; go_simp <;> with_reducible rfl
            (try simp only [Act.put, List.setIfInBounds_toArray, List.set_cons_zero, List.set_cons_succ])
            refine tk (i := 9) (d := (some 54)) (v := ?_) rfl rfl (by kernel_rfl) (by kernel_rfl) (by kernel_rfl) (fun _ _ _ h => h) (Or.inl ⟨by rfl, ?_⟩) hHeld ?_
            rotate_left
            · intro w hSw; have zc0 := keepc hSw c0; have zc1 := keepc hSw c1; have zc2 := keepc hSw c2; have zc3 := keepc hSw c3; clear hSw; go_simp <;> with_reducible rfl
            (try simp only [Act.put, List.setIfInBounds_toArray, List.set_cons_zero, List.set_cons_succ])
            refine tk (i := 10) (d := (some 55)) (v := ?_) rfl rfl (by kernel_rfl) (by kernel_rfl) (by kernel_rfl) (fun _ _ _ h => h) (Or.inl ⟨by rfl, ?_⟩) hHeld ?_
            rotate_left
            · intro w hSw; have zc0 := keepc hSw c0; have zc1 := keepc hSw c1; have zc2 := keepc hSw c2; have zc3 := keepc hSw c3; clear hSw; go_simp <;> with_reducible rfl
            (try simp only [Act.put, List.setIfInBounds_toArray, List.set_cons_zero, List.set_cons_succ])
            refine tk (i := 11) (d := (some 56)) (v := ?_) rfl rfl (by kernel_rfl) (by kernel_rfl) (by kernel_rfl) (fun _ _ _ h => h) (Or.inl ⟨by rfl, ?_⟩) hHeld ?_
            rotate_left
            · intro w hSw; have zc0 := keepc hSw c0; have zc1 := keepc hSw c1; have zc2 := keepc hSw c2; have zc3 := keepc hSw c3; clear hSw; go_simp <;> with_reducible rfl
            (try simp only [Act.put, List.setIfInBounds_toArray, List.set_cons_zero, List.set_cons_succ])
            refine tk (i := 12) (d := (some 57)) (v := ?_) rfl rfl (by kernel_rfl) (by kernel_rfl) (by kernel_rfl) (fun _ _ _ h => h) (Or.inl ⟨by rfl, ?_⟩) hHeld ?_
            rotate_left
            · intro w hSw; have zc0 := keepc hSw c0; have zc1 := keepc hSw c1; have zc2 := keepc hSw c2; have zc3 := keepc hSw c3; clear hSw; go_simp <;> with_reducible rfl
            (try simp only [Act.put, List.setIfInBounds_toArray, List.set_cons_zero, List.set_cons_succ])
            refine tk (i := 13) (d := (some 58)) (v := ?_) rfl rfl (by kernel_rfl) (by kernel_rfl) (by kernel_rfl) (fun _ _ _ h => h) (Or.inl ⟨by rfl, ?_⟩) hHeld ?_
            rotate_left
            · intro w hSw; have zc0 := keepc hSw c0; have zc1 := keepc hSw c1; have zc2 := keepc hSw c2; have zc3 := keepc hSw c3; clear hSw; go_simp <;> with_reducible rfl
            (try simp only [Act.put, List.setIfInBounds_toArray, List.set_cons_zero, List.set_cons_succ])
            refine tk (i := 14) (d := (some 59)) (v := ?_) rfl rfl (by kernel_rfl) (by kernel_rfl) (by kernel_rfl) (fun _ _ _ h => h) (Or.inl ⟨by rfl, ?_⟩) hHeld ?_
            rotate_left
            · intro w hSw; have zc0 := keepc hSw c0; have zc1 := keepc hSw c1; have zc2 := keepc hSw c2; have zc3 := keepc hSw c3; clear hSw; go_simp <;> with_reducible rfl
            (try simp only [Act.put, List.setIfInBounds_toArray, List.set_cons_zero, List.set_cons_succ])
            refine tk (i := 15) (d := (some 60)) (v := ?_) rfl rfl (by kernel_rfl) (by kernel_rfl) (by kernel_rfl) (fun _ _ _ h => h) (Or.inl ⟨by rfl, ?_⟩) hHeld ?_
            rotate_left
            · intro w hSw; have zc0 := keepc hSw c0; have zc1 := keepc hSw c1; have zc2 := keepc hSw c2; have zc3 := keepc hSw c3; clear hSw; go_simp <;> with_reducible rfl
            (try simp only [Act.put, List.setIfInBounds_toArray, List.set_cons_zero, List.set_cons_succ])
            refine tk (i := 16) (d := (some 61)) (v := ?_) rfl rfl (by kernel_rfl) (by kernel_rfl) (by kernel_rfl) (fun _ _ _ h => h) (Or.inl ⟨by rfl, ?_⟩) hHeld ?_
            rotate_left
            · intro w hSw; have zc0 := keepc hSw c0; have zc1 := keepc hSw c1; have zc2 := keepc hSw c2; have zc3 := keepc hSw c3; clear hSw; go_simp <;> with_reducible rfl
            (try simp only [Act.put, List.setIfInBounds_toArray, List.set_cons_zero, List.set_cons_succ])
            refine tk (i := 17) (d := (some 62)) (v := ?_) rfl rfl (by kernel_rfl) (by kernel_rfl) (by kernel_rfl) (fun _ _ _ h => h) (Or.inl ⟨by rfl, ?_⟩) hHeld ?_
            rotate_left
            · intro w hSw; have zc0 := keepc hSw c0; have zc1 := keepc hSw c1; have zc2 := keepc hSw c2; have zc3 := keepc hSw c3; clear hSw; go_simp <;> with_reducible rfl
            (try simp only [Act.put, List.setIfInBounds_toArray, List.set_cons_zero, List.set_cons_succ])
            refine tk (i := 18) (d := (some 63)) (v := ?_) rfl rfl (by kernel_rfl) (by kernel_rfl) (by kernel_rfl) (fun _ _ _ h => h) (Or.inl ⟨by rfl, ?_⟩) hHeld ?_
            rotate_left
            · intro w hSw; have zc0 := keepc hSw c0; have zc1 := keepc hSw c1; have zc2 := keepc hSw c2; have zc3 := keepc hSw c3; clear hSw; go_simp <;> with_reducible rfl
            (try simp only [Act.put, List.setIfInBounds_toArray, List.set_cons_zero, List.set_cons_succ])
            refine wpAnyH_ready (rs := [19]) (by kernel_rfl) (by simp) ?_
            refine AllReadyH.cons rfl (fun K hK => ?_) AllReadyH.nil
            go_simp
            refine ((GIN.out u HU _ (HS.out.below (chn hb hHeld))).out).mono ?_; rintro e W ⟨rfl, hq⟩
            go_simp
            refine hK.out _ _ (chn hHeld hq) (fun h => ?_)
            clear hK K; replace hHeld := h; clear h hq
            (try simp only [Act.put, List.setIfInBounds_toArray, List.set_cons_zero, List.set_cons_succ])
            cases u with
            | false =>
              obtain rfl : r = false := HNO.out (fun h => by have h := h.2.2.1; rw [upM_tk] at h; exact absurd (HU.out.symm.trans h) (by simp))
              refine tk (i := 20) (d := (some 65)) (v := ?_) rfl rfl (by kernel_rfl) (by kernel_rfl) (by kernel_rfl) (fun _ _ _ h => h) (Or.inl ⟨by rfl, ?_⟩) hHeld ?_
              rotate_left
              · intro w hSw; have zc0 := keepc hSw c0; have zc1 := keepc hSw c1; have zc2 := keepc hSw c2; have zc3 := keepc hSw c3; clear hSw; go_simp <;> with_reducible rfl
              (try simp only [Act.put, List.setIfInBounds_toArray, List.set_cons_zero, List.set_cons_succ])
              refine tk (i := 21) (d := (some 66)) (v := ?_) rfl rfl (by kernel_rfl) (by kernel_rfl) (by kernel_rfl) (fun _ _ _ h => h) (Or.inl ⟨by rfl, ?_⟩) hHeld ?_
              rotate_left
              · intro w hSw; have zc0 := keepc hSw c0; have zc1 := keepc hSw c1; have zc2 := keepc hSw c2; have zc3 := keepc hSw c3; clear hSw; go_simp <;> with_reducible rfl
              (try simp only [Act.put, List.setIfInBounds_toArray, List.set_cons_zero, List.set_cons_succ])
              refine wpAnyH_done (by kernel_rfl) ?_ _
              replace hb := chn hb hHeld; clear hHeld
              go_wp2
              go_ret
              exact ⟨rfl, by repeat (first | exact hb | refine Below.alloc ?_ (by have := hb.size; simp; try omega) _)⟩
            | true =>
              refine tk (i := 20) (d := (some 65)) (v := ?_) rfl rfl (by kernel_rfl) (by kernel_rfl) (by kernel_rfl) (fun _ _ _ h => h) (Or.inl ⟨by rfl, ?_⟩) hHeld ?_
              rotate_left
              · intro w hSw; have zc0 := keepc hSw c0; have zc1 := keepc hSw c1; have zc2 := keepc hSw c2; have zc3 := keepc hSw c3; clear hSw; go_simp <;> with_reducible rfl
              (try simp only [Act.put, List.setIfInBounds_toArray, List.set_cons_zero, List.set_cons_succ])
              refine tk (i := 21) (d := (some 66)) (v := ?_) rfl rfl (by kernel_rfl) (by kernel_rfl) (by kernel_rfl) (fun _ _ _ h => h) (Or.inl ⟨by rfl, ?_⟩) hHeld ?_
              rotate_left
              · intro w hSw; have zc0 := keepc hSw c0; have zc1 := keepc hSw c1; have zc2 := keepc hSw c2; have zc3 := keepc hSw c3; clear hSw; go_simp <;> with_reducible rfl
              (try simp only [Act.put, List.setIfInBounds_toArray, List.set_cons_zero, List.set_cons_succ])
              refine wpAnyH_done (by kernel_rfl) ?_ _
              replace hb := chn hb hHeld; replace c0 := keepc hHeld c0; replace c1 := keepc hHeld c1; replace c2 := keepc hHeld c2; clear hHeld
              have HUQ := Lib.hid ((upM_tk xs (k+1) ep.data.toList).trans HU.out)
              by_cases k3 : 2 < ek
              · have d3 : decide (2 < ek) = true := by simp; omega
                go_wp2_with fail
                refine wp_region_held_drew (S := fun w' => Below _ _ w') (by kernel_rfl) (below_drew _) (fun hHeld => ?_)
                refine tk (i := 0) (d := (some 67)) (v := ?_) rfl rfl (by kernel_rfl) (by kernel_rfl) (by kernel_rfl) (fun _ _ _ h => h) (Or.inl ⟨by rfl, ?_⟩) hHeld ?_
                rotate_left
                · intro w hSw; have zc0 := keepc hSw c0; have zc1 := keepc hSw c1; have zc2 := keepc hSw c2; clear hSw; go_simp <;> with_reducible rfl
                (try simp only [Act.put, List.setIfInBounds_toArray, List.set_cons_zero, List.set_cons_succ])
                refine tk (i := 1) (d := (some 68)) (v := ?_) rfl rfl (by kernel_rfl) (by kernel_rfl) (by kernel_rfl) (fun _ _ _ h => h) (Or.inl ⟨by rfl, ?_⟩) hHeld ?_
                rotate_left
                · intro w hSw; have zc0 := keepc hSw c0; have zc1 := keepc hSw c1; have zc2 := keepc hSw c2; clear hSw; go_simp <;> with_reducible rfl
                (try simp only [Act.put, List.setIfInBounds_toArray, List.set_cons_zero, List.set_cons_succ])
                refine tk (i := 2) (d := (some 69)) (v := ?_) rfl rfl (by kernel_rfl) (by kernel_rfl) (by kernel_rfl) (fun _ _ _ h => h) (Or.inl ⟨by rfl, ?_⟩) hHeld ?_
                rotate_left
                · intro w hSw; have zc0 := keepc hSw c0; have zc1 := keepc hSw c1; have zc2 := keepc hSw c2; clear hSw; go_simp <;> with_reducible rfl
                (try simp only [Act.put, List.setIfInBounds_toArray, List.set_cons_zero, List.set_cons_succ])
                refine tk (i := 3) (d := (some 70)) (v := ?_) rfl rfl (by kernel_rfl) (by kernel_rfl) (by kernel_rfl) (fun _ _ _ h => h) (Or.inl ⟨by rfl, ?_⟩) hHeld ?_
                rotate_left
                · intro w hSw; have zc0 := keepc hSw c0; have zc1 := keepc hSw c1; have zc2 := keepc hSw c2; clear hSw; go_simp <;> with_reducible rfl
                (try simp only [Act.put, List.setIfInBounds_toArray, List.set_cons_zero, List.set_cons_succ])
                refine tk (i := 4) (d := (some 71)) (v := ?_) rfl rfl (by kernel_rfl) (by kernel_rfl) (by kernel_rfl) (fun _ _ _ h => h) (Or.inl ⟨by rfl, ?_⟩) hHeld ?_
                rotate_left
                · intro w hSw; have zc0 := keepc hSw c0; have zc1 := keepc hSw c1; have zc2 := keepc hSw c2; clear hSw; go_simp <;> with_reducible rfl
                (try simp only [Act.put, List.setIfInBounds_toArray, List.set_cons_zero, List.set_cons_succ])
                refine tk (i := 5) (d := (some 72)) (v := ?_) rfl rfl (by kernel_rfl) (by kernel_rfl) (by kernel_rfl) (fun _ _ _ h => h) (Or.inl ⟨by rfl, ?_⟩) hHeld ?_
                rotate_left
                · intro w hSw; have zc0 := keepc hSw c0; have zc1 := keepc hSw c1; have zc2 := keepc hSw c2; clear hSw; go_simp <;> with_reducible rfl
                (try simp only [Act.put, List.setIfInBounds_toArray, List.set_cons_zero, List.set_cons_succ])
                refine tk (i := 6) (d := (some 73)) (v := ?_) rfl rfl (by kernel_rfl) (by kernel_rfl) (by kernel_rfl) (fun _ _ _ h => h) (Or.inl ⟨by rfl, ?_⟩) hHeld ?_
                rotate_left
                · intro w hSw; have zc0 := keepc hSw c0; have zc1 := keepc hSw c1; have zc2 := keepc hSw c2; clear hSw; go_simp <;> with_reducible rfl
                (try simp only [Act.put, List.setIfInBounds_toArray, List.set_cons_zero, List.set_cons_succ])
                refine tk (i := 7) (d := (some 74)) (v := ?_) rfl rfl (by kernel_rfl) (by kernel_rfl) (by kernel_rfl) (fun _ _ _ h => h) (Or.inl ⟨by rfl, ?_⟩) hHeld ?_
                rotate_left
                · intro w hSw; have zc0 := keepc hSw c0; have zc1 := keepc hSw c1; have zc2 := keepc hSw c2; clear hSw; go_simp <;> with_reducible rfl
                (try simp only [Act.put, List.setIfInBounds_toArray, List.set_cons_zero, List.set_cons_succ])
                refine tk (i := 8) (d := (some 75)) (v := ?_) rfl rfl (by kernel_rfl) (by kernel_rfl) (by kernel_rfl) (fun _ _ _ h => h) (Or.inl ⟨by rfl, ?_⟩) hHeld ?_
                rotate_left
                · intro w hSw; have zc0 := keepc hSw c0; have zc1 := keepc hSw c1; have zc2 := keepc hSw c2; clear hSw; go_simp <;> with_reducible rfl
                (try simp only [Act.put, List.setIfInBounds_toArray, List.set_cons_zero, List.set_cons_succ])
                refine wpAnyH_ready (rs := [9]) (by kernel_rfl) (by simp) ?_
                refine AllReadyH.cons rfl (fun K hK => ?_) AllReadyH.nil
                go_simp
                refine ((GBR.out v HV _ (HS.out.below (chn hb hHeld))).out).mono ?_; rintro e W ⟨rfl, hq⟩
                go_simp
                refine hK.out _ _ (chn hHeld hq) (fun h => ?_)
                clear hK K; replace hHeld := h; clear h hq
                (try simp only [Act.put, List.setIfInBounds_toArray, List.set_cons_zero, List.set_cons_succ])
                cases v with
                | true =>
                  obtain rfl : r = false := HNO.out (fun h => by have h := h.2.2.2 k3; exact absurd ((HVB.out).symm.trans h) (by simp))
                  refine tk (i := 10) (d := (some 77)) (v := ?_) rfl rfl (by kernel_rfl) (by kernel_rfl) (by kernel_rfl) (fun _ _ _ h => h) (Or.inl ⟨by rfl, ?_⟩) hHeld ?_
                  rotate_left
                  · intro w hSw; have zc0 := keepc hSw c0; have zc1 := keepc hSw c1; have zc2 := keepc hSw c2; clear hSw; go_simp <;> with_reducible rfl
                  (try simp only [Act.put, List.setIfInBounds_toArray, List.set_cons_zero, List.set_cons_succ])
                  refine wpAnyH_done (by kernel_rfl) ?_ _
                  replace hb := chn hb hHeld; clear hHeld
                  go_wp2
                  go_ret
                  exact ⟨rfl, by repeat (first | exact hb | refine Below.alloc ?_ (by have := hb.size; simp; try omega) _)⟩
                | false =>
                  refine tk (i := 10) (d := (some 77)) (v := ?_) rfl rfl (by kernel_rfl) (by kernel_rfl) (by kernel_rfl) (fun _ _ _ h => h) (Or.inl ⟨by rfl, ?_⟩) hHeld ?_
                  rotate_left
                  · intro w hSw; have zc0 := keepc hSw c0; have zc1 := keepc hSw c1; have zc2 := keepc hSw c2; clear hSw; go_simp <;> with_reducible rfl
                  (try simp only [Act.put, List.setIfInBounds_toArray, List.set_cons_zero, List.set_cons_succ])
                  refine wpAnyH_done (by kernel_rfl) ?_ _
                  replace hb := chn hb hHeld; clear hHeld
                  go_wp2
                  go_roundw
                  case rel => exact ⟨(k+1+1), by omega, by go_num, ASK.out HUQ.out (fun _ => HVB.out), by repeat (first | exact hb | refine Below.alloc ?_ (by have := hb.size; simp; try omega) _)⟩
                  case measure => simp [intOf]; omega
              · have d3 : decide (2 < ek) = false := by simp; omega
                go_wp2_with fail
                refine wp_region_held_drew (S := fun w' => Below _ _ w') (by kernel_rfl) (below_drew _) (fun hHeld => ?_)
                refine tk (i := 0) (d := (some 67)) (v := ?_) rfl rfl (by kernel_rfl) (by kernel_rfl) (by kernel_rfl) (fun _ _ _ h => h) (Or.inl ⟨by rfl, ?_⟩) hHeld ?_
                rotate_left
                · intro w hSw; have zc0 := keepc hSw c0; have zc1 := keepc hSw c1; have zc2 := keepc hSw c2; clear hSw; go_simp <;> with_reducible rfl
                (try simp only [Act.put, List.setIfInBounds_toArray, List.set_cons_zero, List.set_cons_succ])
                refine tk (i := 1) (d := (some 68)) (v := ?_) rfl rfl (by kernel_rfl) (by kernel_rfl) (by kernel_rfl) (fun _ _ _ h => h) (Or.inl ⟨by rfl, ?_⟩) hHeld ?_
                rotate_left
                · intro w hSw; have zc0 := keepc hSw c0; have zc1 := keepc hSw c1; have zc2 := keepc hSw c2; clear hSw; go_simp <;> with_reducible rfl
                (try simp only [Act.put, List.setIfInBounds_toArray, List.set_cons_zero, List.set_cons_succ])
                refine tk (i := 2) (d := (some 69)) (v := ?_) rfl rfl (by kernel_rfl) (by kernel_rfl) (by kernel_rfl) (fun _ _ _ h => h) (Or.inl ⟨by rfl, ?_⟩) hHeld ?_
                rotate_left
                · intro w hSw; have zc0 := keepc hSw c0; have zc1 := keepc hSw c1; have zc2 := keepc hSw c2; clear hSw; go_simp <;> with_reducible rfl
                (try simp only [Act.put, List.setIfInBounds_toArray, List.set_cons_zero, List.set_cons_succ])
                refine tk (i := 3) (d := (some 70)) (v := ?_) rfl rfl (by kernel_rfl) (by kernel_rfl) (by kernel_rfl) (fun _ _ _ h => h) (Or.inl ⟨by rfl, ?_⟩) hHeld ?_
                rotate_left
                · intro w hSw; have zc0 := keepc hSw c0; have zc1 := keepc hSw c1; have zc2 := keepc hSw c2; clear hSw; go_simp <;> with_reducible rfl
                (try simp only [Act.put, List.setIfInBounds_toArray, List.set_cons_zero, List.set_cons_succ])
                refine tk (i := 4) (d := (some 71)) (v := undef) rfl rfl (by kernel_rfl) (by kernel_rfl) (by kernel_rfl) (fun _ _ _ h => h) (Or.inr ⟨by kernel_rfl, rfl⟩) hHeld ?_
                (try simp only [Act.put, List.setIfInBounds_toArray, List.set_cons_zero, List.set_cons_succ])
                refine tk (i := 5) (d := (some 72)) (v := undef) rfl rfl (by kernel_rfl) (by kernel_rfl) (by kernel_rfl) (fun _ _ _ h => h) (Or.inr ⟨by kernel_rfl, rfl⟩) hHeld ?_
                (try simp only [Act.put, List.setIfInBounds_toArray, List.set_cons_zero, List.set_cons_succ])
                refine tk (i := 6) (d := (some 73)) (v := undef) rfl rfl (by kernel_rfl) (by kernel_rfl) (by kernel_rfl) (fun _ _ _ h => h) (Or.inr ⟨by kernel_rfl, rfl⟩) hHeld ?_
                (try simp only [Act.put, List.setIfInBounds_toArray, List.set_cons_zero, List.set_cons_succ])
                refine tk (i := 7) (d := (some 74)) (v := undef) rfl rfl (by kernel_rfl) (by kernel_rfl) (by kernel_rfl) (fun _ _ _ h => h) (Or.inr ⟨by kernel_rfl, rfl⟩) hHeld ?_
                (try simp only [Act.put, List.setIfInBounds_toArray, List.set_cons_zero, List.set_cons_succ])
                refine tk (i := 8) (d := (some 75)) (v := undef) rfl rfl (by kernel_rfl) (by kernel_rfl) (by kernel_rfl) (fun _ _ _ h => h) (Or.inr ⟨by kernel_rfl, rfl⟩) hHeld ?_
                (try simp only [Act.put, List.setIfInBounds_toArray, List.set_cons_zero, List.set_cons_succ])
                refine tk (i := 9) (d := (some 76)) (v := undef) rfl rfl (by kernel_rfl) (by kernel_rfl) (by kernel_rfl) (fun _ _ _ h => h) (Or.inr ⟨by kernel_rfl, rfl⟩) hHeld ?_
                (try simp only [Act.put, List.setIfInBounds_toArray, List.set_cons_zero, List.set_cons_succ])
                refine tk (i := 10) (d := (some 77)) (v := ?_) rfl rfl (by kernel_rfl) (by kernel_rfl) (by kernel_rfl) (fun _ _ _ h => h) (Or.inl ⟨by rfl, ?_⟩) hHeld ?_
                rotate_left
                · intro w hSw; have zc0 := keepc hSw c0; have zc1 := keepc hSw c1; have zc2 := keepc hSw c2; clear hSw; go_simp <;> with_reducible rfl
                (try simp only [Act.put, List.setIfInBounds_toArray, List.set_cons_zero, List.set_cons_succ])
                refine wpAnyH_done (by kernel_rfl) ?_ _
                replace hb := chn hb hHeld; clear hHeld
                go_wp2
                go_roundw
                case rel => exact ⟨(k+1+1), by omega, by go_num, ASK.out HUQ.out (fun h => (by exfalso; omega)), by repeat (first | exact hb | refine Below.alloc ?_ (by have := hb.size; simp; try omega) _)⟩
                case measure => simp [intOf]; omega
        · obtain rfl : r = false := HNO.out (fun h => by have := mless_at xs k f ⟨ep, ek, ex⟩ HFF.out h.2.1; rw [hle] at this; cases this)
          rcases hk1 with n1 | ⟨n1, q1⟩
          all_goals
            go_wp2_with fail
            refine (sPathOk_c ep true HP1 _ HZ1.out).mono ?_; rintro e W ⟨rfl, hq⟩; replace hb := chn hb hq; replace c0 := keepc hq c0; replace c1 := keepc hq c1; replace c2 := keepc hq c2; replace c3 := keepc hq c3; clear hq
            go_wp2_with fail
            refine (l2Data_c ex true HP2 _ HZ2.out).mono ?_; rintro e' W' ⟨rfl, rfl⟩
            go_wp2_with fail
            refine wp_region_held_drew (S := fun w' => Below _ _ w') (by kernel_rfl) (below_drew _) (fun hHeld => ?_)
            refine tk (i := 0) (d := (some 45)) (v := ?_) rfl rfl (by kernel_rfl) (by kernel_rfl) (by kernel_rfl) (fun _ _ _ h => h) (Or.inl ⟨by rfl, ?_⟩) hHeld ?_
            rotate_left
            · intro w hSw; have zc0 := keepc hSw c0; have zc1 := keepc hSw c1; have zc2 := keepc hSw c2; have zc3 := keepc hSw c3; clear hSw; go_simp <;> with_reducible rfl
            (try simp only [Act.put, List.setIfInBounds_toArray, List.set_cons_zero, List.set_cons_succ])
            refine tk (i := 1) (d := (some 46)) (v := ?_) rfl rfl (by kernel_rfl) (by kernel_rfl) (by kernel_rfl) (fun _ _ _ h => h) (Or.inl ⟨by rfl, ?_⟩) hHeld ?_
            rotate_left
            · intro w hSw; have zc0 := keepc hSw c0; have zc1 := keepc hSw c1; have zc2 := keepc hSw c2; have zc3 := keepc hSw c3; clear hSw; go_simp <;> with_reducible rfl
            (try simp only [Act.put, List.setIfInBounds_toArray, List.set_cons_zero, List.set_cons_succ])
            refine tk (i := 2) (d := (some 47)) (v := ?_) rfl rfl (by kernel_rfl) (by kernel_rfl) (by kernel_rfl) (fun _ _ _ h => h) (Or.inl ⟨by rfl, ?_⟩) hHeld ?_
            rotate_left
            · intro w hSw; have zc0 := keepc hSw c0; have zc1 := keepc hSw c1; have zc2 := keepc hSw c2; have zc3 := keepc hSw c3; clear hSw; go_simp <;> with_reducible rfl
            (try simp only [Act.put, List.setIfInBounds_toArray, List.set_cons_zero, List.set_cons_succ])
            refine tk (i := 3) (d := (some 48)) (v := ?_) rfl rfl (by kernel_rfl) (by kernel_rfl) (by kernel_rfl) (fun _ _ _ h => h) (Or.inl ⟨by rfl, ?_⟩) hHeld ?_
            rotate_left
            · intro w hSw; have zc0 := keepc hSw c0; have zc1 := keepc hSw c1; have zc2 := keepc hSw c2; have zc3 := keepc hSw c3; clear hSw; go_simp <;> with_reducible rfl
            (try simp only [Act.put, List.setIfInBounds_toArray, List.set_cons_zero, List.set_cons_succ])
            refine tk (i := 4) (d := (some 49)) (v := ?_) rfl rfl (by kernel_rfl) (by kernel_rfl) (by kernel_rfl) (fun _ _ _ h => h) (Or.inl ⟨by rfl, ?_⟩) hHeld ?_
            rotate_left
            · intro w hSw; have zc0 := keepc hSw c0; have zc1 := keepc hSw c1; have zc2 := keepc hSw c2; have zc3 := keepc hSw c3; clear hSw; go_simp <;> with_reducible rfl
            (try simp only [Act.put, List.setIfInBounds_toArray, List.set_cons_zero, List.set_cons_succ])
            refine tk (i := 5) (d := (some 50)) (v := ?_) rfl rfl (by kernel_rfl) (by kernel_rfl) (by kernel_rfl) (fun _ _ _ h => h) (Or.inl ⟨by rfl, ?_⟩) hHeld ?_
            rotate_left
            · intro w hSw; have zc0 := keepc hSw c0; have zc1 := keepc hSw c1; have zc2 := keepc hSw c2; have zc3 := keepc hSw c3; clear hSw; go_simp <;> with_reducible rfl
            (try simp only [Act.put, List.setIfInBounds_toArray, List.set_cons_zero, List.set_cons_succ])
            refine tk (i := 6) (d := (some 51)) (v := ?_) rfl rfl (by kernel_rfl) (by kernel_rfl) (by kernel_rfl) (fun _ _ _ h => h) (Or.inl ⟨by rfl, ?_⟩) hHeld ?_
            rotate_left
            · intro w hSw; have zc0 := keepc hSw c0; have zc1 := keepc hSw c1; have zc2 := keepc hSw c2; have zc3 := keepc hSw c3; clear hSw; go_simp <;> with_reducible rfl
            (try simp only [Act.put, List.setIfInBounds_toArray, List.set_cons_zero, List.set_cons_succ])
            refine tk (i := 7) (d := (some 52)) (v := ?_) rfl rfl (by kernel_rfl) (by kernel_rfl) (by kernel_rfl) (fun _ _ _ h => h) (Or.inl ⟨by rfl, ?_⟩) hHeld ?_
            rotate_left
            · intro w hSw; have zc0 := keepc hSw c0; have zc1 := keepc hSw c1; have zc2 := keepc hSw c2; have zc3 := keepc hSw c3; clear hSw; go_simp <;> with_reducible rfl
            (try simp only [Act.put, List.setIfInBounds_toArray, List.set_cons_zero, List.set_cons_succ])
            refine tk (i := 8) (d := (some 53)) (v := ?_) rfl rfl (by kernel_rfl) (by kernel_rfl) (by kernel_rfl) (fun _ _ _ h => h) (Or.inl ⟨by rfl, ?_⟩) hHeld ?_
            rotate_left
            · intro w hSw; have zc0 := keepc hSw c0; have zc1 := keepc hSw c1; have zc2 := keepc hSw c2; have zc3 := keepc hSw c3; clear hSw; go_simp <;> with_reducible rfl
            (try simp only [Act.put, List.setIfInBounds_toArray, List.set_cons_zero, List.set_cons_succ])
            refine tk (i := 9) (d := (some 54)) (v := ?_) rfl rfl (by kernel_rfl) (by kernel_rfl) (by kernel_rfl) (fun _ _ _ h => h) (Or.inl ⟨by rfl, ?_⟩) hHeld ?_
            rotate_left
            · intro w hSw; have zc0 := keepc hSw c0; have zc1 := keepc hSw c1; have zc2 := keepc hSw c2; have zc3 := keepc hSw c3; clear hSw; go_simp <;> with_reducible rfl
            (try simp only [Act.put, List.setIfInBounds_toArray, List.set_cons_zero, List.set_cons_succ])
            refine tk (i := 10) (d := (some 55)) (v := ?_) rfl rfl (by kernel_rfl) (by kernel_rfl) (by kernel_rfl) (fun _ _ _ h => h) (Or.inl ⟨by rfl, ?_⟩) hHeld ?_
            rotate_left
            · intro w hSw; have zc0 := keepc hSw c0; have zc1 := keepc hSw c1; have zc2 := keepc hSw c2; have zc3 := keepc hSw c3; clear hSw; go_simp <;> with_reducible rfl
            (try simp only [Act.put, List.setIfInBounds_toArray, List.set_cons_zero, List.set_cons_succ])
            refine tk (i := 11) (d := (some 56)) (v := ?_) rfl rfl (by kernel_rfl) (by kernel_rfl) (by kernel_rfl) (fun _ _ _ h => h) (Or.inl ⟨by rfl, ?_⟩) hHeld ?_
            rotate_left
            · intro w hSw; have zc0 := keepc hSw c0; have zc1 := keepc hSw c1; have zc2 := keepc hSw c2; have zc3 := keepc hSw c3; clear hSw; go_simp <;> with_reducible rfl
            (try simp only [Act.put, List.setIfInBounds_toArray, List.set_cons_zero, List.set_cons_succ])
            refine tk (i := 12) (d := (some 57)) (v := ?_) rfl rfl (by kernel_rfl) (by kernel_rfl) (by kernel_rfl) (fun _ _ _ h => h) (Or.inl ⟨by rfl, ?_⟩) hHeld ?_
            rotate_left
            · intro w hSw; have zc0 := keepc hSw c0; have zc1 := keepc hSw c1; have zc2 := keepc hSw c2; have zc3 := keepc hSw c3; clear hSw; go_simp <;> with_reducible rfl
            (try simp only [Act.put, List.setIfInBounds_toArray, List.set_cons_zero, List.set_cons_succ])
            refine tk (i := 13) (d := (some 58)) (v := ?_) rfl rfl (by kernel_rfl) (by kernel_rfl) (by kernel_rfl) (fun _ _ _ h => h) (Or.inl ⟨by rfl, ?_⟩) hHeld ?_
            rotate_left
            · intro w hSw; have zc0 := keepc hSw c0; have zc1 := keepc hSw c1; have zc2 := keepc hSw c2; have zc3 := keepc hSw c3; clear hSw; go_simp <;> with_reducible rfl
            (try simp only [Act.put, List.setIfInBounds_toArray, List.set_cons_zero, List.set_cons_succ])
            refine tk (i := 14) (d := (some 59)) (v := undef) rfl rfl (by kernel_rfl) (by kernel_rfl) (by kernel_rfl) (fun _ _ _ h => h) (Or.inr ⟨by kernel_rfl, rfl⟩) hHeld ?_
            (try simp only [Act.put, List.setIfInBounds_toArray, List.set_cons_zero, List.set_cons_succ])
            refine tk (i := 15) (d := (some 60)) (v := undef) rfl rfl (by kernel_rfl) (by kernel_rfl) (by kernel_rfl) (fun _ _ _ h => h) (Or.inr ⟨by kernel_rfl, rfl⟩) hHeld ?_
            (try simp only [Act.put, List.setIfInBounds_toArray, List.set_cons_zero, List.set_cons_succ])
            refine tk (i := 16) (d := (some 61)) (v := undef) rfl rfl (by kernel_rfl) (by kernel_rfl) (by kernel_rfl) (fun _ _ _ h => h) (Or.inr ⟨by kernel_rfl, rfl⟩) hHeld ?_
            (try simp only [Act.put, List.setIfInBounds_toArray, List.set_cons_zero, List.set_cons_succ])
            refine tk (i := 17) (d := (some 62)) (v := undef) rfl rfl (by kernel_rfl) (by kernel_rfl) (by kernel_rfl) (fun _ _ _ h => h) (Or.inr ⟨by kernel_rfl, rfl⟩) hHeld ?_
            (try simp only [Act.put, List.setIfInBounds_toArray, List.set_cons_zero, List.set_cons_succ])
            refine tk (i := 18) (d := (some 63)) (v := undef) rfl rfl (by kernel_rfl) (by kernel_rfl) (by kernel_rfl) (fun _ _ _ h => h) (Or.inr ⟨by kernel_rfl, rfl⟩) hHeld ?_
            (try simp only [Act.put, List.setIfInBounds_toArray, List.set_cons_zero, List.set_cons_succ])
            refine tk (i := 19) (d := (some 64)) (v := undef) rfl rfl (by kernel_rfl) (by kernel_rfl) (by kernel_rfl) (fun _ _ _ h => h) (Or.inr ⟨by kernel_rfl, rfl⟩) hHeld ?_
            (try simp only [Act.put, List.setIfInBounds_toArray, List.set_cons_zero, List.set_cons_succ])
            refine tk (i := 20) (d := (some 65)) (v := undef) rfl rfl (by kernel_rfl) (by kernel_rfl) (by kernel_rfl) (fun _ _ _ h => h) (Or.inr ⟨by kernel_rfl, rfl⟩) hHeld ?_
            (try simp only [Act.put, List.setIfInBounds_toArray, List.set_cons_zero, List.set_cons_succ])
            refine tk (i := 21) (d := (some 66)) (v := ?_) rfl rfl (by kernel_rfl) (by kernel_rfl) (by kernel_rfl) (fun _ _ _ h => h) (Or.inl ⟨by rfl, ?_⟩) hHeld ?_
            rotate_left
            · intro w hSw; have zc0 := keepc hSw c0; have zc1 := keepc hSw c1; have zc2 := keepc hSw c2; have zc3 := keepc hSw c3; clear hSw; go_simp <;> with_reducible rfl
            (try simp only [Act.put, List.setIfInBounds_toArray, List.set_cons_zero, List.set_cons_succ])
            refine wpAnyH_done (by kernel_rfl) ?_ _
            replace hb := chn hb hHeld; clear hHeld
            go_wp2
            go_ret
            exact ⟨rfl, by repeat (first | exact hb | refine Below.alloc ?_ (by have := hb.size; simp; try omega) _)⟩
    · have HFIN : Hid (n ≤ 32 → r = true) := fun h => hR.out.2 ⟨h, fun j e he => HA.out j e (by have := (List.getElem?_eq_some_iff.1 he).1; rw [HN.out] at this; omega) he⟩
      by_cases h32 : n ≤ 32
      · obtain rfl : r = true := HFIN.out h32
        go_wp2
        go_ret
        exact ⟨ret_bool (by simp; try omega), hb⟩
      · obtain rfl : r = false := by
          cases r
          · rfl
          · have := (hR.out.1 rfl).1; omega
        go_wp2
        go_ret
        exact ⟨ret_bool (by simp; try omega), hb⟩
end Go.Proofs.YtobbodbkdcbflaaDoor
namespace Go.Proofs.YtobbodbkdcbflaaDoor
open Go.RowKit
/-- Marks with short texts. -/
def SmallM (xs : List Mk) : Prop := ∀ e ∈ xs, e.p.size ≤ 20 ∧ e.x.size ≤ 20
theorem SmallM.mil {xs : List Mk} (h : SmallM xs) : ∀ e ∈ xs, e.p.size ≤ 2000000 ∧ e.x.size ≤ 2000000 := fun e he => by have := h e he; omega
/-- Marks with short texts, and paths of which F says yes. -/
def SmM (F : ByteArray → Bool) (xs : List Mk) : Prop := ∀ e ∈ xs, (e.p.size ≤ 20 ∧ e.x.size ≤ 20) ∧ F e.p = true
theorem SmM.small {F : ByteArray → Bool} {xs : List Mk} (h : SmM F xs) : SmallM xs := fun e he => (h e he).1
theorem lok_small {xs : List Mk} (h : LOk (xs.map Mk.pl)) : SmallM xs := fun e he => by
  have h1 := h.mks e.pl (List.mem_map_of_mem he)
  unfold markOkL at h1
  simp only [Bool.and_eq_true] at h1
  have h2 := (path_len h1.1.1.2).2
  have h3 := data_len h1.1.2
  have h4 : e.pl.p.length = e.p.size := size_data e.p
  have h5 : e.pl.x.length = e.x.size := size_data e.x
  omega
theorem lok_kinds {xs : List Mk} (h : LOk (xs.map Mk.pl)) : ∀ m ∈ xs, m.k ≠ 0 := fun e he hk => by
  have h1 := h.mks e.pl (List.mem_map_of_mem he)
  unfold markOkL at h1
  simp only [Bool.and_eq_true, decide_eq_true_eq] at h1
  have h2 : e.pl.k = e.k := rfl
  omega
/-- A slice of marks with an array behind it, that can be read. -/
def RdMk (w : World) (a : Option Addr) (c : Nat) (xs : List Mk) : Prop := ∃ b off, a = some ⟨b, off, none⟩ ∧ b < w.heap.size ∧ SlF Mk.cells w (some ⟨b, off, none⟩) xs ∧ xs.length ≤ c ∧ c ≤ maxLen
theorem RdMk.below {w w' : World} {a : Option Addr} {c : Nat} {xs : List Mk} (h : RdMk w a c xs) (hq : Below w.heap.size w w') : RdMk w' a c xs := by
  obtain ⟨b, off, h1, h2, h3, h4⟩ := h
  exact ⟨b, off, h1, Nat.lt_of_lt_of_le h2 hq.size, h3.below hq, h4⟩
theorem RdMk.sl {w : World} {a : Option Addr} {c : Nat} {xs : List Mk} (h : RdMk w a c xs) : SlF Mk.cells w a xs := by
  obtain ⟨b, off, rfl, _, h3, _⟩ := h; exact h3
theorem RdMk.cap {w : World} {a : Option Addr} {c : Nat} {xs : List Mk} (h : RdMk w a c xs) : xs.length ≤ c := by
  obtain ⟨b, off, _, _, _, h4, _⟩ := h; exact h4
/-- A slice of marks that was made behind block g. -/
def DrawnM (w : World) (g : Nat) (a : Option Addr) (c : Nat) (xs : List Mk) : Prop := ∃ b off, a = some ⟨b, off, none⟩ ∧ g < b ∧ b < w.heap.size ∧ SlF Mk.cells w (some ⟨b, off, none⟩) xs ∧ xs.length ≤ c ∧ c ≤ maxLen
theorem DrawnM.read {w : World} {g : Nat} {a : Option Addr} {c : Nat} {xs : List Mk} (h : DrawnM w g a c xs) : RdMk w a c xs := by
  obtain ⟨b, off, h1, _, h2⟩ := h; exact ⟨b, off, h1, h2⟩
theorem DrawnM.only {w w' : World} {g : Nat} {a : Option Addr} {c : Nat} {xs : List Mk} (h : DrawnM w g a c xs) (ho : Only g w w') : DrawnM w' g a c xs := by
  obtain ⟨b, off, h1, h2, h3, h4, h5⟩ := h
  exact ⟨b, off, h1, h2, Nat.lt_of_lt_of_le h3 ho.size, h4.grown ho (fun b' hb' e => by injection hb' with hb'; injection e with e; simp at hb'; omega), h5⟩
theorem OwnRd.drawn {w : World} {B g : Nat} {v : Value} {ms : List Mk} (h : OwnRd w B v ms) (hg : g < B) : ∃ a c, v = .slice a ms.length c ∧ DrawnM w g a c ms := by
  obtain ⟨b, c, h1, h2, h3, h4⟩ := h
  exact ⟨_, c, h1, b, 0, rfl, Nat.lt_of_lt_of_le hg (h4.lt b rfl).1, (h4.lt b rfl).2, own_slf (fun _ => rfl) h4, h2, h3⟩
theorem OwnRd.only {w w' : World} {B g : Nat} {v : Value} {ms : List Mk} (h : OwnRd w B v ms) (ho : Only g w w') (hg : g < B) : OwnRd w' B v ms := by
  obtain ⟨b, c, h1, h2, h3, h4⟩ := h
  exact ⟨b, c, h1, h2, h3, own_only h4 ho hg⟩
theorem OwnRd.slf {w : World} {B : Nat} {v : Value} {ms : List Mk} (h : OwnRd w B v ms) : ∃ a c, v = .slice a ms.length c ∧ ms.length ≤ c ∧ SlF Mk.cells w a ms := by
  obtain ⟨b, c, h1, h2, h3, h4⟩ := h
  exact ⟨_, c, h1, h2, own_slf (fun _ => rfl) h4⟩
theorem mownRe_of {w : World} {B : Nat} {v : Value} {ms : List Mk} (h : w.ownsRow B 30 3 v ms.length (ms.flatMap Mk.cells)) (hv : v.ownBlock ≠ none) : OwnRd w B v ms := by
  have h0 := h
  rcases h.2 with ⟨rfl, h1⟩ | ⟨g, cap, cur, rfl, hg, hh, hnc, hm, h2, h3⟩
  · exact absurd rfl hv
  · exact ⟨g, cap, rfl, hnc, hm, h0⟩
/-- A number of which F says yes. -/
def okInt (F : Int → Bool) (v : Value) : Bool := match v with | .int .i64 z => F z | _ => false
theorem okInt_at {F : Int → Bool} {cs : Array Value} (h : cs.toList.all (okInt F) = true) {k : Nat} (hk : k < cs.size) : ∃ z : Int, cs[k]? = some (.int .i64 z) ∧ F z = true := by
  have h1 := List.all_eq_true.1 h cs[k] (by simp)
  have h2 : cs[k]? = some cs[k] := Array.getElem?_eq_getElem hk
  unfold okInt at h1
  split at h1
  · next z hz => exact ⟨z, by rw [h2, hz], h1⟩
  · cases h1
/-- What a drawing of a number of which F says yes leaves. -/
def IntOf (F : Int → Bool) (w : World) (g p q : Nat) (e : Ending) (w' : World) : Prop :=
  ∃ (z : Int) (p' : Nat), e = .returned (.int .i64 z) ∧ F z = true ∧ p' ≤ p + q ∧ Rd w' g p' ∧ Only g w w'
set_option maxHeartbeats 1000000 in
theorem numF_c (F : Int → Bool) (w : World) (g p b n : Nat) (cs : Array Value) (t : TypeId) (hr : Rd w g p) (hp : p ≤ 1000000) (hb : w.heap[b]? = some (.cells cs t (0, 0))) (hbg : b ≠ g) (hn : cs.size = n) (h0 : 0 < n) (hn1 : n ≤ 1000) (hs : cs.toList.all (okInt F) = true) :
    Calls Tryd.prog 71 #[.pointer (some ⟨g, 0, none⟩), .slice (some ⟨b, 0, none⟩) n n] w (IntOf F w g p 1) := by
  have hbl : b < w.heap.size := by
    rcases Nat.lt_or_ge b w.heap.size with h | h
    · exact h
    · rw [Array.getElem?_eq_none h] at hb; cases hb
  have HP := Lib.hid (pick_c w g p (n : Int) hr hp (by omega) (by omega))
  have HC : Hid (∀ w1 (m : Nat), Only g w w1 → m < n → ∃ z : Int, w1.cell? ⟨b, m, none⟩ = some (.int .i64 z) ∧ F z = true) := fun w1 m ho hm => by
    obtain ⟨z, h1, h2⟩ := okInt_at hs (k := m) (by omega)
    refine ⟨z, ?_, h2⟩
    rw [cell_of_row w1 b m cs t (0, 0) ((ho.block b hbl (by simpa using hbg)).trans hb)]
    exact h1
  clear hb hs hn hbg hr
  go_enter Tryd.func71, Tryd.ntmps71
  go_wp2_with fail
  refine HP.out.mono ?_
  rintro e w1 ⟨m, rfl, _, hm, hrd, ho⟩
  have hm' : m < n := by have := hm (by omega); omega
  obtain ⟨z, hc, hz⟩ := HC.out w1 m ho hm'
  clear hm
  go_wp2
  go_ret
  exact ⟨z, p + 1, rfl, hz, Nat.le_refl _, hrd, ho⟩
/-- The kind of a mark. -/
def kindOk (z : Int) : Bool := decide (1 ≤ z) && decide (z ≤ 4)
theorem kindOk_ne {z : Int} (h : kindOk z = true) : z ≠ 0 := by unfold kindOk at h; simp only [Bool.and_eq_true, decide_eq_true_eq] at h; omega
/-- All that stands in a layer is low. -/
def LowM (l : List PM) : Prop := ∀ m ∈ l, lowL m.p = true
theorem low_put {t : List PM} (ht : LowM t) {m : PM} (hm : lowL m.p = true) : LowM (putP PM.p t m) := by
  induction t with
  | nil => intro e he; simp [putP] at he; rw [he]; exact hm
  | cons x r ih =>
    have h1 : lowL x.p = true := ht x (by simp)
    have h2 : LowM r := fun e he => ht e (by simp [he])
    intro e he
    rw [putP] at he
    split at he
    · rcases List.mem_cons.1 he with rfl | he
      · exact h1
      · exact ih h2 e he
    · split at he
      · rcases List.mem_cons.1 he with rfl | he
        · exact hm
        · exact h2 e he
      · rcases List.mem_cons.1 he with rfl | he
        · exact hm
        · exact ht e he
theorem low_up {q : Bs} (h : pathOkL q = true) (hr : upL q ≠ [47]) (hq : lowL q = true) : lowL (upL q) = true := by
  obtain ⟨x, hx⟩ := under_pre (up_under h) (up_path h hr)
  rw [hx, low_app (path_len (up_path h hr)).1] at hq
  exact hq
theorem low_ups (n : Nat) : ∀ {l : List PM} {q : Bs}, LowM l → pathOkL q = true → lowL q = true → LowM (upsL n l q) := by
  induction n with
  | zero => intro l q hl _ _; exact hl
  | succ n ih =>
    intro l q hl hp hq
    rw [upsL]
    split
    · exact hl
    · next hr =>
      have h1 := up_path hp hr
      have h2 := low_up hp hr hq
      split
      · exact ih (low_put hl h2) h1 h2
      · exact ih hl h1 h2
/-- Marks with short texts, in plain words. -/
def ShortM (l : List PM) : Prop := ∀ m ∈ l, m.p.length ≤ 20 ∧ m.x.length ≤ 20
theorem short_put {t : List PM} (ht : ShortM t) {m : PM} (hm : m.p.length ≤ 20 ∧ m.x.length ≤ 20) : ShortM (putP PM.p t m) := by
  induction t with
  | nil => intro e he; simp [putP] at he; rw [he]; exact hm
  | cons x r ih =>
    have h1 := ht x (by simp)
    have h2 : ShortM r := fun e he => ht e (by simp [he])
    intro e he
    rw [putP] at he
    split at he
    · rcases List.mem_cons.1 he with rfl | he
      · exact h1
      · exact ih h2 e he
    · split at he
      · rcases List.mem_cons.1 he with rfl | he
        · exact hm
        · exact h2 e he
      · rcases List.mem_cons.1 he with rfl | he
        · exact hm
        · exact ht e he
theorem short_ups (n : Nat) : ∀ {l : List PM} {q : Bs}, ShortM l → pathOkL q = true → ShortM (upsL n l q) := by
  induction n with
  | zero => intro l q hl _; exact hl
  | succ n ih =>
    intro l q hl hp
    rw [upsL]
    split
    · exact hl
    · next hr =>
      have h1 := up_path hp hr
      have h2 := (path_len h1).2
      split
      · exact ih (short_put hl ⟨show (upL q).length ≤ 20 by omega, by simp⟩) h1
      · exact ih hl h1
theorem short_small {xs : List Mk} (h : ShortM (xs.map Mk.pl)) : SmallM xs := fun e he => by
  have h1 := h e.pl (List.mem_map_of_mem he)
  have h4 : e.pl.p.length = e.p.size := size_data e.p
  have h5 : e.pl.x.length = e.x.size := size_data e.x
  omega
theorem small_short {xs : List Mk} (h : SmallM xs) : ShortM (xs.map Mk.pl) := fun m hm => by
  obtain ⟨e, he, rfl⟩ := List.mem_map.1 hm
  have h1 := h e he
  have h4 : e.pl.p.length = e.p.size := size_data e.p
  have h5 : e.pl.x.length = e.x.size := size_data e.x
  omega
/-- What a drawing of a layer leaves. -/
def LayerPost (w : World) (g p q : Nat) (e : Ending) (w' : World) : Prop :=
  ∃ (a : Option Addr) (c : Nat) (xs : List Mk) (p' : Nat), e = .returned (.slice a xs.length c) ∧ DrawnM w' g a c xs ∧ LOk (xs.map Mk.pl) ∧ LowM (xs.map Mk.pl) ∧ p' ≤ p + q ∧ Rd w' g p' ∧ Only g w w'
/-- The state of a layer that is drawn. -/
def LayerIn (w0 w : World) (g p : Nat) (v : Value) : Prop :=
  ∃ ms : List Mk, OwnRd w w0.heap.size v ms ∧ LOk (ms.map Mk.pl) ∧ LowM (ms.map Mk.pl) ∧ Rd w g p ∧ Only g w0 w
theorem mlok_dec (xs : List Mk) : ∃ r : Bool, r = true ↔ LOk (xs.map Mk.pl) := ⟨by classical exact decide (LOk (xs.map Mk.pl)), by simp⟩
theorem pathT_ok {s : ByteArray} (h : pathT s = true) : pathOkL s.data.toList = true := by unfold pathT at h; simp only [Bool.and_eq_true] at h; exact h.1
set_option maxRecDepth 100000 in
set_option maxHeartbeats 8000000 in
theorem l3Layer_c (w : World) (g p : Nat) (hr : Rd w g p) (hp : p ≤ 500000) :
    Calls Tryd.prog 41 #[.pointer (some ⟨g, 0, none⟩)] w (LayerPost w g p 2000) := by
  have hg := hr.lt
  have HR := Lib.hid hr
  clear hr
  have hs0 : (w.alloc (.cells #[] 30)).heap.size = w.heap.size + 1 := by simp
  have HRD0 := Lib.hid (HR.out.alloc (.cells #[] 30))
  have HOW0 : Hid (OwnRd (w.alloc (.cells #[] 30)) w.heap.size (.slice (some ⟨w.heap.size, 0, none⟩) 0 0) []) := ⟨w.heap.size, 0, rfl, Nat.zero_le _, Nat.zero_le _, World.ownsRow_lit w #[] 0 (Nat.le_refl _) (Nat.zero_le _) rfl⟩
  have HO0 := Lib.hid ((Only.refl g w).alloc (.cells #[] 30))
  have HNUM := Lib.hid (fun (cs : Array Value) (n : Nat) (hn : Hid (cs.size = n)) h0 h1 hs => num_c ((w.alloc (.cells #[] 30)).alloc (.cells cs 3)) g p (w.heap.size + 1) n cs 3 (HRD0.out.alloc _) (by omega) (by rw [← hs0]; exact heap_alloc_new _ _) (by omega) hn.out h0 h1 hs)
  clear hs0
  go_enter Tryd.func41, Tryd.ntmps41
  go_wp2_with fail
  refine (HNUM.out _ _ (by exact Lib.hid rfl) (by decide) (by decide) (by rfl)).mono ?_
  rintro e w1 ⟨z, p1, rfl, hz1, hz2, hp1, hrd1, ho1⟩
  have HT1 : Hid (LayerIn w w1 g p1 (.slice (some ⟨w.heap.size, 0, none⟩) 0 0)) := ⟨[], (HOW0.out.below (bellow_alloc _ _)).only ho1 hg, lok_nil, (fun m h => by simp at h), hrd1, (HO0.out.alloc _).trans ho1⟩
  clear hrd1 ho1 HNUM HOW0 HRD0 HO0
  go_wp2
  go_loopw [3, 4] (fun v i wr => ∃ (z' : Int) (p' : Nat), i = .int .i64 z' ∧ -10 ≤ z' ∧ z' ≤ 100 ∧ p' + 3 * z'.toNat ≤ p + 1001 ∧ LayerIn w wr g p' v) (fun _ i _ => (intOf i).toNat)
  case atStart => exact ⟨z, p1, rfl, hz1, hz2, by omega, HT1.out⟩
  case round =>
    obtain ⟨z', p', rfl, hz1', hz2', hpz, ms, ⟨b0, cc0, rfl, k1, k2, k3⟩, hlok, hlow, hrd, ho⟩ := hrel
    have HOW : Hid (OwnRd wr w.heap.size (.slice (some ⟨b0, 0, none⟩) ms.length cc0) ms) := ⟨b0, cc0, rfl, k1, k2, k3⟩
    obtain ⟨m0, hm0⟩ : ∃ m, ms.length = m := ⟨_, rfl⟩
    rw [hm0] at HOW ⊢
    have HM0 := Lib.hid hm0
    have HLK := Lib.hid hlok
    have HLW := Lib.hid hlow
    have HO := Lib.hid ho
    have hBr := ho.size
    clear k1 k2 k3 hm0 hlok hlow ho
    by_cases hpos : 0 < z'
    · have HL := Lib.hid (l1PathT_c wr g p' hrd (by omega))
      clear hrd
      go_wp2_with fail
      refine HL.out.mono ?_; rintro e w2 ⟨s, p2, rfl, hs, hp2, hrd2, ho2⟩
      have HNUM := Lib.hid (fun (cs : Array Value) (n : Nat) (hn : Hid (cs.size = n)) h0 h1 hs => numF_c kindOk (w2.alloc (.cells cs 3)) g p2 w2.heap.size n cs 3 (hrd2.alloc _) (by omega) (heap_alloc_new w2 _) (by have := hrd2.lt; omega) hn.out h0 h1 hs)
      have hsz2 := ho2.size
      have HO2 := Lib.hid ho2
      clear hrd2 ho2 HL
      go_wp2_with fail
      refine (HNUM.out _ _ (by exact Lib.hid rfl) (by decide) (by decide) (by kernel_rfl)).mono ?_
      rintro e w3 ⟨k, p3, rfl, hk, hp3, hrd3, ho3⟩
      obtain ⟨b, hb⟩ : ∃ b, w3.heap.size = b := ⟨_, rfl⟩
      have hO3 := (HO2.out.alloc _).trans ho3
      have hwb : wr.heap.size ≤ b := by rw [← hb]; exact hO3.size
      have hgb : g < b := by omega
      have HO4 := Lib.hid (hO3.alloc (.cells #[.string s, .int .i64 k, .string ⟨#[]⟩] 30))
      have HR4 := Lib.hid (hrd3.alloc (.cells #[.string s, .int .i64 k, .string ⟨#[]⟩] 30))
      have e0 := new_cell w3 #[.string s, .int .i64 k, .string ⟨#[]⟩] 30 0 _ rfl
      have e1 := new_cell w3 #[.string s, .int .i64 k, .string ⟨#[]⟩] 30 1 _ rfl
      have e2 := new_cell w3 #[.string s, .int .i64 k, .string ⟨#[]⟩] 30 2 _ rfl
      have f2 := new_free w3 #[.string s, .int .i64 k, .string ⟨#[]⟩] 30 2
      have hsz4 : (w3.alloc (.cells #[.string s, .int .i64 k, .string ⟨#[]⟩] 30)).heap.size = b + 1 := by simp [hb]
      clear hO3 hrd3 ho3 HNUM HO2
      go_upto_if 23 with fail
      generalize hW : w3.alloc (.cells #[.string s, .int .i64 k, .string ⟨#[]⟩] 30) = W at HO4 HR4 e0 e1 e2 f2 hsz4 ⊢
      rw [hb] at e0 e1 e2 f2
      (try rw [hb])
      clear hW hb
      by_cases hk1 : k = 1
      · have hkb : (k == 1) = true := by rw [beq_iff_eq]; exact hk1
        clear hk1
        have HP1 := Lib.hid (l2Some_c W g p3 HR4.out (by omega))
        go_wp2_with fail
        refine HP1.out.mono ?_; rintro e w5 ⟨d, p5, rfl, hd, hp5, hrd5, ho5⟩
        have e0 := cell_only ho5 e0 (by show b ≠ g; omega)
        have e1 := cell_only ho5 e1 (by show b ≠ g; omega)
        have e2 := cell_only ho5 e2 (by show b ≠ g; omega)
        have f2 := (frozen_only (a := ⟨b, 2, none⟩) ho5 (by show b < _; omega) (by show b ≠ g; omega)).trans f2
        have HOX := Lib.hid ((HO4.out.trans ho5).setCell (p := ⟨b, 2, none⟩) (.inr hwb) (.string d))
        have HRX := Lib.hid (hrd5.set ⟨b, 2, none⟩ (.string d) hgb)
        have HSX : Hid (w.heap.size ≤ (w5.setCell ⟨b, 2, none⟩ (.string d)).heap.size) := Nat.le_trans hBr HOX.out.size
        have HGX : Hid (g < (w5.setCell ⟨b, 2, none⟩ (.string d)).heap.size) := HRX.out.lt
        have HSD : Hid (s.data.toList.length ≤ 20 ∧ d.data.toList.length ≤ 20) := ⟨by rw [size_data]; exact goodT_size (pathT_good hs), by rw [size_data]; exact hd⟩
        have x0 := (World.cell?_setCell_other w5 ⟨b, 2, none⟩ ⟨b, 0, none⟩ (.string d) (by simp)).trans e0
        have x1 := (World.cell?_setCell_other w5 ⟨b, 2, none⟩ ⟨b, 1, none⟩ (.string d) (by simp)).trans e1
        have x2 := World.cell?_setCell_same w5 ⟨b, 2, none⟩ (.string d) e2
        clear hrd5 ho5 HP1 HR4 HO4
        go_upto_region 8 with fail
        generalize w5.setCell ⟨b, 2, none⟩ (.string d) = W6 at HOX HRX HSX HGX x0 x1 x2 ⊢
        clear e0 e1 e2 f2
        have e0 := x0
        have e1 := x1
        have e2 := x2
        clear x0 x1 x2
        have HP := Lib.hid (l3PutO_c w.heap.size (.slice (some ⟨b0, 0, none⟩) m0 cc0) ms ⟨s, k, d⟩ W6 (HOW.out.only HOX.out hg) HSX.out (by have := HLK.out.most; rw [List.length_map] at this; omega))
        go_wp2_with fail
        refine HP.out.mono ?_; rintro e w6 ⟨v6, rfl, how6, hq6⟩
        have hpm : (putP Mk.bs ms ⟨s, k, d⟩).map Mk.pl = putP PM.p (ms.map Mk.pl) (Mk.pl ⟨s, k, d⟩) := putP_map Mk.pl (f := Mk.bs) (g := PM.p) (fun _ => rfl) _ _
        have hlow6 : LowM ((putP Mk.bs ms ⟨s, k, d⟩).map Mk.pl) := by rw [hpm]; exact low_put HLW.out (good_low.1 (pathT_good hs)).2
        have hsh6 : ShortM ((putP Mk.bs ms ⟨s, k, d⟩).map Mk.pl) := by rw [hpm]; exact short_put (small_short (lok_small HLK.out)) HSD.out
        have hln6 : (putP Mk.bs ms ⟨s, k, d⟩).length ≤ 40 := by have h1 := HLK.out.most; rw [List.length_map] at h1; have h2 := mput_len ms ⟨s, k, d⟩; omega
        have hkn6 := kinds_put (lok_kinds HLK.out) (e := ⟨s, k, d⟩) (kindOk_ne hk)
        obtain ⟨xs6, hxs6⟩ : ∃ xs6, putP Mk.bs ms ⟨s, k, d⟩ = xs6 := ⟨_, rfl⟩
        rw [hxs6] at how6 hlow6 hsh6 hln6 hkn6
        obtain ⟨r6, hr6⟩ := mlok_dec xs6
        obtain ⟨a6, c6, rfl, hc6, hsl6⟩ := how6.slf
        have HK := Lib.hid (sLayerOk_c a6 c6 xs6 r6 (Lib.hid hr6) w6 hsl6 (by unfold maxLen; omega) hc6 (short_small hsh6).mil)
        have g0 := keepc hq6 e0
        have HO6 := Lib.hid (HOX.out.trans (Only.of_below hq6))
        have HR6 := Lib.hid (HRX.out.keep hq6 HGX.out)
        have HOW6 := Lib.hid how6
        have HLN6 := Lib.hid hln6
        have HLOW6 := Lib.hid hlow6
        have HSZ6 := Lib.hid (Nat.le_trans HSX.out hq6.size)
        obtain ⟨m6, hm6⟩ : ∃ m, xs6.length = m := ⟨_, rfl⟩
        have HM6 := Lib.hid hm6
        rw [hm6] at HK ⊢
        clear hsl6 hxs6 hpm how6 hq6 hlow6 hln6 hm6 e0 e1
        go_wp2_with fail
        refine HK.out.mono ?_; rintro e w7 ⟨rfl, hq7⟩
        have g0 := keepc hq7 g0
        cases r6 with
        | true =>
          have HX : Hid (LayerIn w w7 g p5 (.slice a6 m6 c6)) := ⟨xs6, by rw [← HM6.out]; exact HOW6.out.below hq7, hr6.1 rfl, HLOW6.out, HR6.out.keep hq7 (Nat.lt_of_lt_of_le hg HSZ6.out), (HO.out.trans HO6.out).trans (Only.of_below hq7)⟩
          clear hq7 HK g0
          go_wp2
          go_roundw
          case rel => exact ⟨z' - 1, p5, by go_num, by omega, by omega, by omega, HX.out⟩
          case measure => simp [intOf]; omega
        | false =>
          have HSZ7 := Lib.hid (Nat.le_trans HSZ6.out hq7.size)
          have HU := Lib.hid (l3Ups_c 3 (.slice a6 xs6.length c6) xs6 s w.heap.size w7 (pathT_ok hs) (levels_3 _) hkn6 (HOW6.out.below hq7) HSZ7.out (by have := HLN6.out; omega))
          rw [HM6.out] at HU
          have HO7 := Lib.hid (HO6.out.trans (Only.of_below hq7))
          have HR7 := Lib.hid (HR6.out.keep hq7 (Nat.lt_of_lt_of_le hg HSZ6.out))
          clear hq7 HK
          go_wp2_with fail
          refine HU.out.mono ?_; rintro e w8 ⟨v8, ns, rfl, hns, _, hln8, how8, hq8⟩
          obtain ⟨r8, hr8⟩ := mlok_dec ns
          obtain ⟨a8, c8, rfl, hc8, hsl8⟩ := how8.slf
          have hsh8 : ShortM (ns.map Mk.pl) := by rw [hns]; exact short_ups 3 hsh6 (pathT_ok hs)
          have hlow8 : LowM (ns.map Mk.pl) := by rw [hns]; exact low_ups 3 HLOW6.out (pathT_ok hs) (good_low.1 (pathT_good hs)).2
          have HK8 := Lib.hid (sLayerOk_c a8 c8 ns r8 (Lib.hid hr8) w8 hsl8 (by have h1 := HLN6.out; have h2 := HM6.out; unfold maxLen; omega) hc8 (short_small hsh8).mil)
          have HSZ8 := Lib.hid (Nat.le_trans HSZ7.out hq8.size)
          have HO8 := Lib.hid (HO7.out.trans (Only.of_below hq8))
          have HR8 := Lib.hid (HR7.out.keep hq8 (Nat.lt_of_lt_of_le hg HSZ7.out))
          have HOW8 := Lib.hid how8
          have HLOW8 := Lib.hid hlow8
          obtain ⟨m8, hm8⟩ : ∃ m, ns.length = m := ⟨_, rfl⟩
          have HM8 := Lib.hid hm8
          rw [hm8] at HK8 ⊢
          clear hsl8 how8 hq8 hlow8 hns hm8 HU g0
          go_wp2_with fail
          refine HK8.out.mono ?_; rintro e w9 ⟨rfl, hq9⟩
          have HO9 := Lib.hid (HO8.out.trans (Only.of_below hq9))
          have HR9 := Lib.hid (HR8.out.keep hq9 (Nat.lt_of_lt_of_le hg HSZ8.out))
          cases r8 with
          | true =>
            have HX : Hid (LayerIn w w9 g p5 (.slice a8 m8 c8)) := ⟨ns, by rw [← HM8.out]; exact HOW8.out.below hq9, hr8.1 rfl, HLOW8.out, HR9.out, HO.out.trans HO9.out⟩
            clear hq9 HK8
            go_wp2
            go_roundw
            case rel => exact ⟨z' - 1, p5, by go_num, by omega, by omega, by omega, HX.out⟩
            case measure => simp [intOf]; omega
          | false =>
            have HX : Hid (LayerIn w w9 g p5 (.slice (some ⟨b0, 0, none⟩) m0 cc0)) := ⟨ms, HOW.out.only HO9.out hg, HLK.out, HLW.out, HR9.out, HO.out.trans HO9.out⟩
            clear hq9 HK8
            go_wp2
            go_roundw
            case rel => exact ⟨z' - 1, p5, by go_num, by omega, by omega, by omega, HX.out⟩
            case measure => simp [intOf]; omega
      · have hkb : (k == 1) = false := by rw [beq_eq_false_iff_ne]; exact hk1
        have HOX := HO4
        have HRX := HR4
        have HSX : Hid (w.heap.size ≤ W.heap.size) := Nat.le_trans hBr HOX.out.size
        have HGX : Hid (g < W.heap.size) := HRX.out.lt
        have HSD : Hid (s.data.toList.length ≤ 20 ∧ ([] : List UInt8).length ≤ 20) := ⟨by rw [size_data]; exact goodT_size (pathT_good hs), by decide⟩
        have HP := Lib.hid (l3PutO_c w.heap.size (.slice (some ⟨b0, 0, none⟩) m0 cc0) ms ⟨s, k, ⟨#[]⟩⟩ W (HOW.out.only HOX.out hg) HSX.out (by have := HLK.out.most; rw [List.length_map] at this; omega))
        go_wp2_with fail
        refine HP.out.mono ?_; rintro e w6 ⟨v6, rfl, how6, hq6⟩
        have hpm : (putP Mk.bs ms ⟨s, k, ⟨#[]⟩⟩).map Mk.pl = putP PM.p (ms.map Mk.pl) (Mk.pl ⟨s, k, ⟨#[]⟩⟩) := putP_map Mk.pl (f := Mk.bs) (g := PM.p) (fun _ => rfl) _ _
        have hlow6 : LowM ((putP Mk.bs ms ⟨s, k, ⟨#[]⟩⟩).map Mk.pl) := by rw [hpm]; exact low_put HLW.out (good_low.1 (pathT_good hs)).2
        have hsh6 : ShortM ((putP Mk.bs ms ⟨s, k, ⟨#[]⟩⟩).map Mk.pl) := by rw [hpm]; exact short_put (small_short (lok_small HLK.out)) HSD.out
        have hln6 : (putP Mk.bs ms ⟨s, k, ⟨#[]⟩⟩).length ≤ 40 := by have h1 := HLK.out.most; rw [List.length_map] at h1; have h2 := mput_len ms ⟨s, k, ⟨#[]⟩⟩; omega
        have hkn6 := kinds_put (lok_kinds HLK.out) (e := ⟨s, k, ⟨#[]⟩⟩) (kindOk_ne hk)
        obtain ⟨xs6, hxs6⟩ : ∃ xs6, putP Mk.bs ms ⟨s, k, ⟨#[]⟩⟩ = xs6 := ⟨_, rfl⟩
        rw [hxs6] at how6 hlow6 hsh6 hln6 hkn6
        obtain ⟨r6, hr6⟩ := mlok_dec xs6
        obtain ⟨a6, c6, rfl, hc6, hsl6⟩ := how6.slf
        have HK := Lib.hid (sLayerOk_c a6 c6 xs6 r6 (Lib.hid hr6) w6 hsl6 (by unfold maxLen; omega) hc6 (short_small hsh6).mil)
        have g0 := keepc hq6 e0
        have HO6 := Lib.hid (HOX.out.trans (Only.of_below hq6))
        have HR6 := Lib.hid (HRX.out.keep hq6 HGX.out)
        have HOW6 := Lib.hid how6
        have HLN6 := Lib.hid hln6
        have HLOW6 := Lib.hid hlow6
        have HSZ6 := Lib.hid (Nat.le_trans HSX.out hq6.size)
        obtain ⟨m6, hm6⟩ : ∃ m, xs6.length = m := ⟨_, rfl⟩
        have HM6 := Lib.hid hm6
        rw [hm6] at HK ⊢
        clear hsl6 hxs6 hpm how6 hq6 hlow6 hln6 hm6 e0 e1
        go_wp2_with fail
        refine HK.out.mono ?_; rintro e w7 ⟨rfl, hq7⟩
        have g0 := keepc hq7 g0
        cases r6 with
        | true =>
          have HX : Hid (LayerIn w w7 g p3 (.slice a6 m6 c6)) := ⟨xs6, by rw [← HM6.out]; exact HOW6.out.below hq7, hr6.1 rfl, HLOW6.out, HR6.out.keep hq7 (Nat.lt_of_lt_of_le hg HSZ6.out), (HO.out.trans HO6.out).trans (Only.of_below hq7)⟩
          clear hq7 HK g0
          go_wp2
          go_roundw
          case rel => exact ⟨z' - 1, p3, by go_num, by omega, by omega, by omega, HX.out⟩
          case measure => simp [intOf]; omega
        | false =>
          have HSZ7 := Lib.hid (Nat.le_trans HSZ6.out hq7.size)
          have HU := Lib.hid (l3Ups_c 3 (.slice a6 xs6.length c6) xs6 s w.heap.size w7 (pathT_ok hs) (levels_3 _) hkn6 (HOW6.out.below hq7) HSZ7.out (by have := HLN6.out; omega))
          rw [HM6.out] at HU
          have HO7 := Lib.hid (HO6.out.trans (Only.of_below hq7))
          have HR7 := Lib.hid (HR6.out.keep hq7 (Nat.lt_of_lt_of_le hg HSZ6.out))
          clear hq7 HK
          go_wp2_with fail
          refine HU.out.mono ?_; rintro e w8 ⟨v8, ns, rfl, hns, _, hln8, how8, hq8⟩
          obtain ⟨r8, hr8⟩ := mlok_dec ns
          obtain ⟨a8, c8, rfl, hc8, hsl8⟩ := how8.slf
          have hsh8 : ShortM (ns.map Mk.pl) := by rw [hns]; exact short_ups 3 hsh6 (pathT_ok hs)
          have hlow8 : LowM (ns.map Mk.pl) := by rw [hns]; exact low_ups 3 HLOW6.out (pathT_ok hs) (good_low.1 (pathT_good hs)).2
          have HK8 := Lib.hid (sLayerOk_c a8 c8 ns r8 (Lib.hid hr8) w8 hsl8 (by have h1 := HLN6.out; have h2 := HM6.out; unfold maxLen; omega) hc8 (short_small hsh8).mil)
          have HSZ8 := Lib.hid (Nat.le_trans HSZ7.out hq8.size)
          have HO8 := Lib.hid (HO7.out.trans (Only.of_below hq8))
          have HR8 := Lib.hid (HR7.out.keep hq8 (Nat.lt_of_lt_of_le hg HSZ7.out))
          have HOW8 := Lib.hid how8
          have HLOW8 := Lib.hid hlow8
          obtain ⟨m8, hm8⟩ : ∃ m, ns.length = m := ⟨_, rfl⟩
          have HM8 := Lib.hid hm8
          rw [hm8] at HK8 ⊢
          clear hsl8 how8 hq8 hlow8 hns hm8 HU g0
          go_wp2_with fail
          refine HK8.out.mono ?_; rintro e w9 ⟨rfl, hq9⟩
          have HO9 := Lib.hid (HO8.out.trans (Only.of_below hq9))
          have HR9 := Lib.hid (HR8.out.keep hq9 (Nat.lt_of_lt_of_le hg HSZ8.out))
          cases r8 with
          | true =>
            have HX : Hid (LayerIn w w9 g p3 (.slice a8 m8 c8)) := ⟨ns, by rw [← HM8.out]; exact HOW8.out.below hq9, hr8.1 rfl, HLOW8.out, HR9.out, HO.out.trans HO9.out⟩
            clear hq9 HK8
            go_wp2
            go_roundw
            case rel => exact ⟨z' - 1, p3, by go_num, by omega, by omega, by omega, HX.out⟩
            case measure => simp [intOf]; omega
          | false =>
            have HX : Hid (LayerIn w w9 g p3 (.slice (some ⟨b0, 0, none⟩) m0 cc0)) := ⟨ms, HOW.out.only HO9.out hg, HLK.out, HLW.out, HR9.out, HO.out.trans HO9.out⟩
            clear hq9 HK8
            go_wp2
            go_roundw
            case rel => exact ⟨z' - 1, p3, by go_num, by omega, by omega, by omega, HX.out⟩
            case measure => simp [intOf]; omega
    · have HFIN : Hid (LayerPost w g p 2000 (.returned (.slice (some ⟨b0, 0, none⟩) m0 cc0)) wr) := by
        obtain ⟨a, c, he, hd⟩ := HOW.out.drawn hg
        exact ⟨a, c, ms, p', by rw [he], hd, HLK.out, HLW.out, by omega, hrd, HO.out⟩
      clear hrd
      go_wp2
      go_ret
      exact HFIN.out
end Go.Proofs.YtobbodbkdcbflaaDoor
namespace Go.Proofs.YtobbodbkdcbflaaDoor
open Go.RowKit
/-- What a bending leaves. -/
def MBentPost (F : ByteArray → Bool) (w : World) (g p q N : Nat) (e : Ending) (w' : World) : Prop :=
  ∃ (a : Option Addr) (c : Nat) (xs : List Mk) (p' : Nat), e = .returned (.slice a xs.length c) ∧ DrawnM w' g a c xs ∧ SmM F xs ∧ xs.length ≤ N ∧ p' ≤ p + q ∧ Rd w' g p' ∧ Only g w w'
theorem msmall_set {F : ByteArray → Bool} {xs : List Mk} (h : SmM F xs) (k : Nat) (e : Mk) (he : (e.p.size ≤ 20 ∧ e.x.size ≤ 20) ∧ F e.p = true) : SmM F (xs.set k e) := fun x hx => by
  rcases List.mem_or_eq_of_mem_set hx with h1 | h1
  · exact h x h1
  · rw [h1]; exact he
theorem mbent_own {w : World} {B : Nat} {v : Value} {n : Nat} {xs : List Mk} {ad : Addr} {cc : Nat} (hn : xs.length = n) (h : w.ownsRow B 30 3 v (0 + xs.length) ([] ++ xs.flatMap Mk.cells)) (hnil : v = .slice none 0 0 ↔ Value.slice (some ad) 0 cc = .slice none 0 0 ∧ xs.length = 0) :
    ∃ b c, v = .slice (some ⟨b, 0, none⟩) n c ∧ n ≤ c ∧ c ≤ maxLen ∧ w.ownsRow B 30 3 (.slice (some ⟨b, 0, none⟩) n c) n (xs.flatMap Mk.cells) := by
  rw [Nat.zero_add, List.nil_append, hn] at h
  have h0 := h
  rcases h.2 with ⟨h1, _⟩ | ⟨g, cap, cur, rfl, hg, hh, hnc, hm, h2, h3⟩
  · have := hnil.1 h1; simp at this
  · exact ⟨g, cap, rfl, hnc, hm, h0⟩
theorem mdrawn_own {w : World} {g B b c : Nat} {xs : List Mk} (h : w.ownsRow B 30 3 (.slice (some ⟨b, 0, none⟩) xs.length c) xs.length (xs.flatMap Mk.cells)) (hg : g < B) (hc : xs.length ≤ c) (hm : c ≤ maxLen) : DrawnM w g (some ⟨b, 0, none⟩) c xs :=
  ⟨b, 0, rfl, Nat.lt_of_lt_of_le hg (h.lt b rfl).1, (h.lt b rfl).2, own_slf (fun _ => rfl) h, hc, hm⟩
set_option maxRecDepth 100000 in
set_option maxHeartbeats 8000000 in
theorem l3Bent_c (F : ByteArray → Bool) (hF : ∀ s, goodT s = true → F s = true) (hZZ : F ⟨#[47, 122, 122, 47, 122]⟩ = true) (w : World) (g p : Nat) (hr : Rd w g p) (hp : p ≤ 900000) (a : Option Addr) (c : Nat) (xs : List Mk) (ht : DrawnM w g a c xs) (hz : SmM F xs) (hx : xs.length ≤ 1000) :
    Calls Tryd.prog 42 #[.pointer (some ⟨g, 0, none⟩), .slice a xs.length c] w (MBentPost F w g p 4 (xs.length + 1)) := by
  have HE := eltMk
  have hg := hr.lt
  have HZ := Lib.hid hz
  have HR := Lib.hid hr
  have HB0 := bellow_alloc w (.cells #[] 30)
  have HRD := Lib.hid (ht.read.below HB0)
  obtain ⟨b0, off, rfl, _, hsl, _⟩ := HRD.out
  have hsl' := Lib.hid hsl
  have hown0 : Hid ((w.alloc (.cells #[] 30)).ownsRow w.heap.size 30 3 (.slice (some ⟨w.heap.size, 0, none⟩) 0 0) 0 []) := World.ownsRow_lit w #[] 0 (Nat.le_refl _) (Nat.zero_le _) rfl
  obtain ⟨n, hn⟩ : ∃ n, xs.length = n := ⟨_, rfl⟩
  have HN := Lib.hid hn
  rw [hn] at hx ⊢
  clear hsl ht hr hn hz
  by_cases hn0 : n = 0
  · subst hn0
    go_enter Tryd.func42, Tryd.ntmps42
    go_wp2_with (at_builtin; go_must (refine wp_appN (by rfl) _ _ 23 (by rfl) HE w.heap.size w.heap.size w _ _ 0 [] (by rfl) Mk.cells (fun _ => rfl) mk_one xs b0 off 0 c HN.out (by rfl) hsl'.out hown0.out (by rw [HN.out]; omega) HB0.size HB0 (Nat.le_refl _) ?_); intro v2 w2 hown3 hbel3 hnil; obtain ⟨b, c5, rfl, hc5, hcm, how⟩ := mbent_own HN.out hown3 hnil; clear hown3 hnil)
    have HRD2 := Lib.hid (HR.out.keep hbel3 hg)
    have HO2 : Hid (Only g w w2) := Only.of_below hbel3
    have hgb : w.heap.size ≤ b := (how.lt b rfl).1
    have HOW := Lib.hid how
    clear hbel3 how HB0 hsl' hown0 HRD
    go_ret
    exact ⟨some ⟨b, 0, none⟩, c5, xs, p, ret_len HN.out, mdrawn_own (B := w.heap.size) (by rw [HN.out]; exact HOW.out) hg (by rw [HN.out]; omega) hcm, HZ.out, by rw [HN.out]; omega, by omega, HRD2.out, HO2.out⟩
  have n0 : ((n : Int) == 0) = false := by rw [beq_eq_false_iff_ne]; omega
  go_enter Tryd.func42, Tryd.ntmps42
  go_wp2_with (at_builtin; go_must (refine wp_appN (by rfl) _ _ 23 (by rfl) HE w.heap.size w.heap.size w _ _ 0 [] (by rfl) Mk.cells (fun _ => rfl) mk_one xs b0 off n c HN.out (by rfl) hsl'.out hown0.out (by rw [HN.out]; omega) HB0.size HB0 (Nat.le_refl _) ?_); intro v2 w2 hown3 hbel3 hnil; obtain ⟨b, c5, rfl, hc5, hcm, how⟩ := mbent_own HN.out hown3 hnil; clear hown3 hnil)
  have HRD2 := Lib.hid (HR.out.keep hbel3 hg)
  have HO2 : Hid (Only g w w2) := Only.of_below hbel3
  have hgb : w.heap.size ≤ b := (how.lt b rfl).1
  have HOW := Lib.hid how
  clear hbel3 how HB0 hsl' hown0 HRD
  have HK := Lib.hid (pick_c w2 g p (n : Int) HRD2.out (by omega) (by omega) (by omega))
  clear HRD2
  refine HK.out.mono ?_; rintro e w3 ⟨k, rfl, _, hkn, hrd3, ho3⟩
  have hk : k < n := by have := hkn (by omega); omega
  have HOW3 := Lib.hid (own_only HOW.out ho3 hg)
  have HO3 := Lib.hid (HO2.out.trans ho3)
  have HK2 := Lib.hid (pick_c w3 g (p + 1) 60 hrd3 (by omega) (by omega) (by omega))
  clear hkn hrd3 ho3 HK HOW HO2
  go_wp2_with fail
  refine HK2.out.mono ?_; rintro e w4 ⟨m, rfl, _, _, hrd, ho4⟩
  have hown := own_only HOW3.out ho4 hg
  have HOX := Lib.hid (HO3.out.trans ho4)
  obtain ⟨⟨ep, ek, ex⟩, hee⟩ : ∃ e, xs[k]? = some e := ⟨_, List.getElem?_eq_getElem (by rw [HN.out]; exact hk)⟩
  have hes := HZ.out ⟨ep, ek, ex⟩ (List.mem_of_getElem? hee)
  have hsx : SlF Mk.cells w4 (some ⟨b, 0, none⟩) xs := own_slfN (fun _ => rfl) hown HN.out
  obtain ⟨d0, d1, d2⟩ := mk_at hsx k ⟨ep, ek, ex⟩ hee
  have i0 : (0 : Int) ≤ (k : Int) := by omega
  have i1 : (k : Int) < (n : Int) := by omega
  rw [Nat.zero_add] at d0 d1 d2
  clear ho4 HK2 HOW3 HO3
  by_cases m0 : m = 0
  · subst m0
    have HNU := Lib.hid (fun (cs : Array Value) (n : Nat) (hn : Hid (cs.size = n)) h0 h1 hs => num_c (w4.alloc (.cells cs 3)) g (p + 1 + 1) w4.heap.size n cs 3 (hrd.alloc _) (by omega) (heap_alloc_new w4 _) (by have := hrd.lt; omega) hn.out h0 h1 hs)
    have HEE := Lib.hid hee
    have HOWN := Lib.hid hown
    clear hrd hsx hee d0 d1 d2 hown
    go_wp2_with fail
    refine (HNU.out _ _ (by exact Lib.hid rfl) (by decide) (by decide) (by rfl)).mono ?_
    rintro e w5 ⟨z, p6, rfl, _, _, hp6, hrd6, ho6⟩
    have hown5 := own_only (own_below HOWN.out (bellow_alloc w4 _)) ho6 hg
    have d0 := hown5.cellAt (k * 3 + 1) (by omega)
    obtain ⟨x0, hx0⟩ : ∃ u, (xs.flatMap Mk.cells)[k * 3 + 1]? = some u := ⟨_, List.getElem?_eq_getElem (by rw [flatMap_len (fun _ => rfl), HN.out]; omega)⟩
    rw [hx0] at d0
    have f0 := hown5.frozenAt (k * 3 + 1)
    have HST := Lib.hid (hown5.stored (k * 3 + 1) (.int .i64 z))
    rw [flat_set (fun _ => rfl) (by decide : 1 < 3) xs k ⟨ep, ek, ex⟩ HEE.out (e' := (⟨ep, z, ex⟩ : Mk)) rfl] at HST
    have HSM := Lib.hid (msmall_set HZ.out k (⟨ep, z, ex⟩ : Mk) hes)
    have HRD6 := Lib.hid (hrd6.set ⟨b, k * 3 + 1, none⟩ (.int .i64 z) (by show g < b; omega))
    have HO6 := Lib.hid (((HOX.out.alloc _).trans ho6).setCell (p := ⟨b, k * 3 + 1, none⟩) (.inr (by show w.heap.size ≤ b; omega)) (.int .i64 z))
    clear hown5 hx0 hrd6 ho6 HNU
    go_wp2
    go_ret
    exact ⟨some ⟨b, 0, none⟩, c5, xs.set k (⟨ep, z, ex⟩ : Mk), p6, ret_len (by rw [List.length_set, HN.out]), mdrawn_own (B := w.heap.size) (by rw [List.length_set, HN.out]; exact HST.out.1) hg (by rw [List.length_set, HN.out]; exact hc5) hcm, HSM.out, by rw [List.length_set, HN.out]; omega, by omega, HRD6.out, HO6.out⟩
  have n0' : ((m : Int) == 0) = false := by rw [beq_eq_false_iff_ne]; omega
  by_cases m1 : m = 1
  · subst m1
    have HNU := Lib.hid (fun (cs : Array Value) (n : Nat) (hn : Hid (cs.size = n)) h0 h1 hs => ofF_c goodT (w4.alloc (.cells cs 9)) g (p + 1 + 1) w4.heap.size n cs 9 (hrd.alloc _) (by omega) (heap_alloc_new w4 _) (by have := hrd.lt; omega) hn.out h0 h1 hs)
    have HEE := Lib.hid hee
    have HOWN := Lib.hid hown
    clear hrd hsx hee d0 d1 d2 hown
    go_wp2_with fail
    refine (HNU.out _ _ (by exact Lib.hid rfl) (by decide) (by decide) (by kernel_rfl)).mono ?_
    rintro e w5 ⟨s, p6, rfl, hs, hp6, hrd6, ho6⟩
    have hown5 := own_only (own_below HOWN.out (bellow_alloc w4 _)) ho6 hg
    have d0 := hown5.cellAt (k * 3) (by omega)
    obtain ⟨x0, hx0⟩ : ∃ u, (xs.flatMap Mk.cells)[k * 3]? = some u := ⟨_, List.getElem?_eq_getElem (by rw [flatMap_len (fun _ => rfl), HN.out]; omega)⟩
    rw [hx0] at d0
    have f0 := hown5.frozenAt (k * 3)
    have HST := Lib.hid (hown5.stored (k * 3 + 0) (.string s))
    rw [flat_set (fun _ => rfl) (by decide : 0 < 3) xs k ⟨ep, ek, ex⟩ HEE.out (e' := (⟨s, ek, ex⟩ : Mk)) rfl] at HST
    have HSM := Lib.hid (msmall_set HZ.out k (⟨s, ek, ex⟩ : Mk) ⟨⟨goodT_size hs, hes.1.2⟩, hF s hs⟩)
    have HRD6 := Lib.hid (hrd6.set ⟨b, k * 3 + 0, none⟩ (.string s) (by show g < b; omega))
    have HO6 := Lib.hid (((HOX.out.alloc _).trans ho6).setCell (p := ⟨b, k * 3 + 0, none⟩) (.inr (by show w.heap.size ≤ b; omega)) (.string s))
    clear hown5 hx0 hrd6 ho6 HNU
    go_wp2
    go_ret
    exact ⟨some ⟨b, 0, none⟩, c5, xs.set k (⟨s, ek, ex⟩ : Mk), p6, ret_len (by rw [List.length_set, HN.out]), mdrawn_own (B := w.heap.size) (by rw [List.length_set, HN.out]; exact HST.out.1) hg (by rw [List.length_set, HN.out]; exact hc5) hcm, HSM.out, by rw [List.length_set, HN.out]; omega, by omega, HRD6.out, HO6.out⟩
  have n1' : ((m : Int) == 1) = false := by rw [beq_eq_false_iff_ne]; omega
  by_cases m2 : m = 2
  · subst m2
    have HNU := Lib.hid (fun (cs : Array Value) (n : Nat) (hn : Hid (cs.size = n)) h0 h1 hs => of_c (w4.alloc (.cells cs 9)) g (p + 1 + 1) w4.heap.size n cs 9 (hrd.alloc _) (by omega) (heap_alloc_new w4 _) (by have := hrd.lt; omega) hn.out h0 h1 hs)
    have HEE := Lib.hid hee
    have HOWN := Lib.hid hown
    clear hrd hsx hee d0 d1 d2 hown
    go_wp2_with fail
    refine (HNU.out _ _ (by exact Lib.hid rfl) (by decide) (by decide) (by rfl)).mono ?_
    rintro e w5 ⟨s, p6, rfl, hs, hp6, hrd6, ho6⟩
    have hown5 := own_only (own_below HOWN.out (bellow_alloc w4 _)) ho6 hg
    have d0 := hown5.cellAt (k * 3 + 2) (by omega)
    obtain ⟨x0, hx0⟩ : ∃ u, (xs.flatMap Mk.cells)[k * 3 + 2]? = some u := ⟨_, List.getElem?_eq_getElem (by rw [flatMap_len (fun _ => rfl), HN.out]; omega)⟩
    rw [hx0] at d0
    have f0 := hown5.frozenAt (k * 3 + 2)
    have HST := Lib.hid (hown5.stored (k * 3 + 2) (.string s))
    rw [flat_set (fun _ => rfl) (by decide : 2 < 3) xs k ⟨ep, ek, ex⟩ HEE.out (e' := (⟨ep, ek, s⟩ : Mk)) rfl] at HST
    have HSM := Lib.hid (msmall_set HZ.out k (⟨ep, ek, s⟩ : Mk) ⟨⟨hes.1.1, hs⟩, hes.2⟩)
    have HRD6 := Lib.hid (hrd6.set ⟨b, k * 3 + 2, none⟩ (.string s) (by show g < b; omega))
    have HO6 := Lib.hid (((HOX.out.alloc _).trans ho6).setCell (p := ⟨b, k * 3 + 2, none⟩) (.inr (by show w.heap.size ≤ b; omega)) (.string s))
    clear hown5 hx0 hrd6 ho6 HNU
    go_wp2
    go_ret
    exact ⟨some ⟨b, 0, none⟩, c5, xs.set k (⟨ep, ek, s⟩ : Mk), p6, ret_len (by rw [List.length_set, HN.out]), mdrawn_own (B := w.heap.size) (by rw [List.length_set, HN.out]; exact HST.out.1) hg (by rw [List.length_set, HN.out]; exact hc5) hcm, HSM.out, by rw [List.length_set, HN.out]; omega, by omega, HRD6.out, HO6.out⟩
  have n2' : ((m : Int) == 2) = false := by rw [beq_eq_false_iff_ne]; omega
  by_cases m3 : m = 3
  · subst m3
    have HRDX := Lib.hid hrd
    have HSM : Hid (SmM F (xs ++ [(⟨ep, ek, ex⟩ : Mk)])) := fun x hx => by
      rcases List.mem_append.1 hx with h | h
      · exact HZ.out x h
      · rw [List.mem_singleton.1 h]; exact hes
    clear hrd hsx hee
    go_wp2_with (at_builtin; go_must (refine wp_app1H (by rfl) _ _ 23 (by rfl) HE w.heap.size w.heap.size w4 _ #[.string ep, .int .i64 ek, .string ex] _ _ _ (by rfl) w4.heap.size (by simp) (by rfl) hown (by rfl) (by simp [Value.oneCell']) (by omega) HOX.out.size (Below.refl _ _) (Nat.le_refl _) ?_); intro v' w5 hown1 _ _ hgr)
    have hown2 : w5.ownsRow w.heap.size 30 3 v' (xs ++ [(⟨ep, ek, ex⟩ : Mk)]).length ((xs ++ [(⟨ep, ek, ex⟩ : Mk)]).flatMap Mk.cells) := by
      rw [← mflat_app, List.length_append, HN.out]; exact hown1
    obtain ⟨b9, c9, rfl, h91, h92, h93⟩ : OwnRd w5 w.heap.size v' (xs ++ [(⟨ep, ek, ex⟩ : Mk)]) := by
      refine mownRe_of hown2 (own_some hown1 (fun hv => ?_))
      have h2 := hown1
      rw [hv] at h2
      rcases h2.2 with ⟨_, h3⟩ | ⟨_, _, _, h3, _⟩
      · omega
      · cases h3
    have hbk : ∀ k, (Value.slice (some ⟨b, 0, none⟩) n c5).ownBlock = some k → w.heap.size ≤ k := fun k hk => by
      have : b = k := by simpa [Value.ownBlock] using hk
      omega
    have HO9 := Lib.hid (only_grown (HOX.out.alloc _) hgr hbk)
    have HR9 := Lib.hid ((HRDX.out.alloc _).grown hgr (fun k hk => Nat.lt_of_lt_of_le hg (hbk k hk)))
    clear hown1 hown2 hgr
    go_wp2
    go_ret
    exact ⟨_, c9, _, p + 1 + 1, rfl, mdrawn_own h93 hg h91 h92, HSM.out, by simp [HN.out], by omega, HR9.out, HO9.out⟩
  have n3' : ((m : Int) == 3) = false := by rw [beq_eq_false_iff_ne]; omega
  have HRDX := Lib.hid hrd
  have HOWN := Lib.hid hown
  have HSX := Lib.hid hsx
  clear hrd hown hsx hee d0 d1 d2
  by_cases m4 : m = 4
  · subst m4
    have i2 : (1 : Int) ≤ (n : Int) := by omega
    have i3 : (1 : Int) ≤ (c5 : Int) := by omega
    have HDR := Lib.hid (HSX.out.drop 1)
    have hlt : b < w4.heap.size := (HOWN.out.lt b rfl).2
    by_cases hc1 : c5 = 1
    · subst hc1
      obtain rfl : n = 1 := by omega
      have HFIN : Hid (MBentPost F w g p 4 (1 + 1) (.returned (.slice (some ⟨b, 0, none⟩) 0 0)) w4) := ⟨some ⟨b, 0, none⟩, 0, [], p + 1 + 1, rfl, ⟨b, 0, rfl, by omega, hlt, fun h => absurd h (by simp), Nat.zero_le _, Nat.zero_le _⟩, fun x hx => by simp at hx, by simp, by omega, HRDX.out, HOX.out⟩
      go_wp2
      all_goals first | (exfalso; omega) | skip
      all_goals go_ret
      all_goals exact HFIN.out
    · have HFIN : Hid (MBentPost F w g p 4 (n + 1) (.returned (.slice (some ⟨b, 3, none⟩) (n - 1) (c5 - 1))) w4) := ⟨some ⟨b, 3, none⟩, c5 - 1, xs.drop 1, p + 1 + 1, ret_len (by rw [List.length_drop, HN.out]), ⟨b, 3, rfl, by omega, hlt, by simpa using HDR.out, by rw [List.length_drop, HN.out]; omega, by omega⟩, fun x hx => HZ.out x (List.mem_of_mem_drop hx), by rw [List.length_drop, HN.out]; omega, by omega, HRDX.out, HOX.out⟩
      go_wp2
      all_goals first | (exfalso; omega) | skip
      all_goals go_ret
      all_goals exact HFIN.out
  have n4' : ((m : Int) == 4) = false := by rw [beq_eq_false_iff_ne]; omega
  by_cases m5 : m = 5
  · subst m5
    have HSM : Hid (SmM F (xs ++ [(⟨⟨#[47, 122, 122, 47, 122]⟩, 1, ⟨#[]⟩⟩ : Mk)])) := fun x hx => by
      rcases List.mem_append.1 hx with h | h
      · exact HZ.out x h
      · rw [List.mem_singleton.1 h]; exact ⟨by decide, hZZ⟩
    have hown := HOWN.out
    go_wp2_with (at_builtin; go_must (refine wp_app1H (by rfl) _ _ 23 (by rfl) HE w.heap.size w.heap.size w4 _ #[.string ⟨#[47, 122, 122, 47, 122]⟩, .int .i64 1, .string ⟨#[]⟩] _ _ _ (by rfl) w4.heap.size (by simp) (by rfl) hown (by rfl) (by simp [Value.oneCell']) (by omega) HOX.out.size (Below.refl _ _) (Nat.le_refl _) ?_); intro v' w5 hown1 _ _ hgr)
    have hown2 : w5.ownsRow w.heap.size 30 3 v' (xs ++ [(⟨⟨#[47, 122, 122, 47, 122]⟩, 1, ⟨#[]⟩⟩ : Mk)]).length ((xs ++ [(⟨⟨#[47, 122, 122, 47, 122]⟩, 1, ⟨#[]⟩⟩ : Mk)]).flatMap Mk.cells) := by
      rw [← mflat_app, List.length_append, HN.out]; exact hown1
    obtain ⟨b9, c9, rfl, h91, h92, h93⟩ : OwnRd w5 w.heap.size v' (xs ++ [(⟨⟨#[47, 122, 122, 47, 122]⟩, 1, ⟨#[]⟩⟩ : Mk)]) := by
      refine mownRe_of hown2 (own_some hown1 (fun hv => ?_))
      have h2 := hown1
      rw [hv] at h2
      rcases h2.2 with ⟨_, h3⟩ | ⟨_, _, _, h3, _⟩
      · omega
      · cases h3
    have hbk : ∀ k, (Value.slice (some ⟨b, 0, none⟩) n c5).ownBlock = some k → w.heap.size ≤ k := fun k hk => by
      have : b = k := by simpa [Value.ownBlock] using hk
      omega
    have HO9 := Lib.hid (only_grown (HOX.out.alloc _) hgr hbk)
    have HR9 := Lib.hid ((HRDX.out.alloc _).grown hgr (fun k hk => Nat.lt_of_lt_of_le hg (hbk k hk)))
    clear hown1 hown2 hgr
    go_wp2
    go_ret
    exact ⟨_, c9, _, p + 1 + 1, rfl, mdrawn_own h93 hg h91 h92, HSM.out, by simp [HN.out], by omega, HR9.out, HO9.out⟩
  · have n5' : ((m : Int) == 5) = false := by rw [beq_eq_false_iff_ne]; omega
    go_wp2
    go_ret
    exact ⟨some ⟨b, 0, none⟩, c5, xs, p + 1 + 1, ret_len HN.out, mdrawn_own (B := w.heap.size) (by rw [HN.out]; exact HOWN.out) hg (by rw [HN.out]; exact hc5) hcm, HZ.out, by rw [HN.out]; omega, by omega, HRDX.out, HOX.out⟩
end Go.Proofs.YtobbodbkdcbflaaDoor
namespace Go.Proofs.YtobbodbkdcbflaaDoor
open Go.RowKit
theorem small_leM {xs : List Mk} (h : SmallM xs) : SmM le20 xs := fun e he => ⟨h e he, by unfold le20; rw [decide_eq_true_eq]; exact (h e he).1⟩
/-- A short text that is low, or z in zz. -/
def lowZ (s : ByteArray) : Bool := goodT s || (s.data.toList == [47, 122, 122, 47, 122])
theorem lowZ_good (s : ByteArray) (h : goodT s = true) : lowZ s = true := by unfold lowZ; rw [h]; rfl
theorem lowZ_z : lowZ ⟨#[47, 122, 122, 47, 122]⟩ = true := by decide
theorem le20_z : le20 ⟨#[47, 122, 122, 47, 122]⟩ = true := by decide
/-- All that stands in a layer is low, or z in zz. -/
def LowZ (l : List PM) : Prop := ∀ m ∈ l, lowL m.p = true ∨ m.p = [47, 122, 122, 47, 122]
theorem low_lowZ {xs : List Mk} (h : LowM (xs.map Mk.pl)) (hz : SmallM xs) : SmM lowZ xs := fun e he => ⟨hz e he, lowZ_good _ (good_low.2 ⟨(hz e he).1, h e.pl (List.mem_map_of_mem he)⟩)⟩
theorem lowZ_low {xs : List Mk} (h : SmM lowZ xs) : LowZ (xs.map Mk.pl) := fun m hm => by
  obtain ⟨e, he, rfl⟩ := List.mem_map.1 hm
  have h1 := (h e he).2
  unfold lowZ at h1
  rw [Bool.or_eq_true, beq_iff_eq] at h1
  exact h1.imp (fun h2 => (good_low.1 h2).2) (fun h2 => h2)
/-- A layer, drawn. -/
def OneLayerPost (w : World) (e : Ending) (w' : World) : Prop :=
  ∃ (a : Option Addr) (c : Nat) (xs : List Mk), e = .returned (.slice a xs.length c) ∧ RdMk w' a c xs ∧ SmallM xs ∧ xs.length ≤ 40 ∧ LowZ (xs.map Mk.pl) ∧ Below w.heap.size w w'
/-- Two layers, drawn. -/
def TwoLayerPost (w : World) (e : Ending) (w' : World) : Prop :=
  ∃ (a : Option Addr) (c : Nat) (xs : List Mk) (a' : Option Addr) (c' : Nat) (ys : List Mk), e = .returned (.tuple #[.slice a xs.length c, .slice a' ys.length c']) ∧ RdMk w' a c xs ∧ SmallM xs ∧ xs.length ≤ 40 ∧ RdMk w' a' c' ys ∧ SmallM ys ∧ ys.length ≤ 40 ∧ Below w.heap.size w w'
/-- A layer and a text, drawn. -/
def LayerTextPost (w : World) (e : Ending) (w' : World) : Prop :=
  ∃ (a : Option Addr) (c : Nat) (xs : List Mk) (s : ByteArray), e = .returned (.tuple #[.slice a xs.length c, .string s]) ∧ RdMk w' a c xs ∧ SmallM xs ∧ xs.length ≤ 40 ∧ s.size ≤ 20 ∧ Below w.heap.size w w'
/-- A layer and a tree, drawn. -/
def LayerTreePost (w : World) (e : Ending) (w' : World) : Prop :=
  ∃ (a : Option Addr) (c : Nat) (xs : List Mk) (a' : Option Addr) (c' : Nat) (ys : List En), e = .returned (.tuple #[.slice a xs.length c, .slice a' ys.length c']) ∧ RdMk w' a c xs ∧ SmallM xs ∧ xs.length ≤ 40 ∧ ReadEn w' a' c' ys ∧ Small ys ∧ ys.length ≤ 25 ∧ Below w.heap.size w w'
set_option maxRecDepth 100000 in
set_option maxHeartbeats 4000000 in
theorem drawLayerOk_c (w : World) (a : Option Addr) (n c : Nat) (h : Code w a n c) : Calls Tryd.prog 10 #[.slice a n c] w (OneLayerPost w) := by
  obtain ⟨rb, hrb⟩ : ∃ rb, w.heap.size = rb := ⟨_, rfl⟩
  have ho0 := open_c' w a n c h
  rw [hrb] at ho0
  have HO := Lib.hid ho0
  clear h ho0
  go_enter Tryd.func10, Tryd.ntmps10
  go_wp2_with fail
  refine HO.out.mono ?_; rintro e w1 ⟨rfl, hrd, hb⟩
  have HB1 := Lib.hid (hb.mono (by rw [hrb]; exact Nat.le_refl _) : Below w.heap.size w w1)
  have HT := Lib.hid (l3Layer_c w1 rb 0 hrd (by omega))
  clear hrd hb HO
  go_wp2_with fail
  refine HT.out.mono ?_; rintro e w2 ⟨a2, c2, ts, p2, rfl, hd2, hlok, hlow, hp2, hrd2, ho2⟩
  have hts : ts.length ≤ 32 := by have := hlok.most; rw [List.length_map] at this; exact this
  have hsa := low_lowZ hlow (lok_small hlok)
  have HBT := Lib.hid (l3Bent_c lowZ lowZ_good lowZ_z w2 rb p2 hrd2 (by omega) a2 c2 ts hd2 hsa (by omega))
  clear hd2 hrd2
  obtain ⟨m2, hn2⟩ : ∃ n, ts.length = n := ⟨_, rfl⟩
  have HLB2 := Lib.hid hn2
  rw [hn2] at HBT ⊢
  clear hn2
  go_wp2_with fail
  refine HBT.out.mono ?_; rintro e w3 ⟨a3, c3, us, p3, rfl, hd3, hs3, hl3, hp3, hrd3, ho3⟩
  have hm2 := HLB2.out
  clear HBT
  have HBT := Lib.hid (l3Bent_c lowZ lowZ_good lowZ_z w3 rb p3 hrd3 (by omega) a3 c3 us hd3 hs3 (by omega))
  clear hd3 hrd3
  obtain ⟨m3, hn2⟩ : ∃ n, us.length = n := ⟨_, rfl⟩
  have HLB3 := Lib.hid hn2
  rw [hn2] at HBT ⊢
  clear hn2
  go_wp2_with fail
  refine HBT.out.mono ?_; rintro e w4 ⟨a4, c4, vs, p4, rfl, hd4, hs4, hl4, hp4, hrd4, ho4⟩
  have hm3 := HLB3.out
  clear HBT
  have HB4 := Lib.hid (((ho2.trans ho3).trans ho4).below HB1.out (by omega) HB1.out.size)
  have HR4 := Lib.hid hd4.read
  clear ho2 ho3 ho4 hd4 hrd4 HT
  obtain ⟨m4, hn4⟩ : ∃ n, vs.length = n := ⟨_, rfl⟩
  have HN4 := Lib.hid hn4
  rw [hn4] at hl4 ⊢
  clear hn4
  go_wp2
  go_ret
  exact ⟨a4, c4, vs, by rw [HN4.out]; rfl, HR4.out, hs4.small, by rw [HN4.out]; omega, lowZ_low hs4, HB4.out⟩
set_option maxRecDepth 100000 in
set_option maxHeartbeats 4000000 in
theorem drawLayerSame_c (w : World) (a : Option Addr) (n c : Nat) (h : Code w a n c) : Calls Tryd.prog 9 #[.slice a n c] w (TwoLayerPost w) := by
  obtain ⟨rb, hrb⟩ : ∃ rb, w.heap.size = rb := ⟨_, rfl⟩
  have ho0 := open_c' w a n c h
  rw [hrb] at ho0
  have HO := Lib.hid ho0
  clear h ho0
  go_enter Tryd.func9, Tryd.ntmps9
  go_wp2_with fail
  refine HO.out.mono ?_; rintro e w1 ⟨rfl, hrd, hb⟩
  have HB1 := Lib.hid (hb.mono (by rw [hrb]; exact Nat.le_refl _) : Below w.heap.size w w1)
  have HT := Lib.hid (l3Layer_c w1 rb 0 hrd (by omega))
  clear hrd hb HO
  go_wp2_with fail
  refine HT.out.mono ?_; rintro e w2 ⟨a2, c2, ts, p2, rfl, hd2, hlok, hlow, hp2, hrd2, ho2⟩
  have hts : ts.length ≤ 32 := by have := hlok.most; rw [List.length_map] at this; exact this
  have hsa := small_leM (lok_small hlok)
  have HDT := Lib.hid hd2
  have HBT := Lib.hid (l3Bent_c le20 le20_good le20_z w2 rb p2 hrd2 (by omega) a2 c2 ts hd2 hsa (by omega))
  clear hd2 hrd2
  obtain ⟨m2, hn2⟩ : ∃ n, ts.length = n := ⟨_, rfl⟩
  have HLB2 := Lib.hid hn2
  rw [hn2] at HBT ⊢
  clear hn2
  go_wp2_with fail
  refine HBT.out.mono ?_; rintro e w3 ⟨a3, c3, us, p3, rfl, hd3, hs3, hl3, hp3, hrd3, ho3⟩
  have hm2 := HLB2.out
  clear HBT
  have HBT := Lib.hid (l3Bent_c le20 le20_good le20_z w3 rb p3 hrd3 (by omega) a3 c3 us hd3 hs3 (by omega))
  clear hd3 hrd3
  obtain ⟨m3, hn2⟩ : ∃ n, us.length = n := ⟨_, rfl⟩
  have HLB3 := Lib.hid hn2
  rw [hn2] at HBT ⊢
  clear hn2
  go_wp2_with fail
  refine HBT.out.mono ?_; rintro e w4 ⟨a4, c4, vs, p4, rfl, hd4, hs4, hl4, hp4, hrd4, ho4⟩
  have hm3 := HLB3.out
  clear HBT
  have HBT := Lib.hid (l3Bent_c le20 le20_good le20_z w4 rb p4 hrd4 (by omega) a4 c4 vs hd4 hs4 (by omega))
  clear hd4 hrd4
  obtain ⟨m4, hn2⟩ : ∃ n, vs.length = n := ⟨_, rfl⟩
  have HLB4 := Lib.hid hn2
  rw [hn2] at HBT ⊢
  clear hn2
  go_wp2_with fail
  refine HBT.out.mono ?_; rintro e w5 ⟨a5, c5, ys, p5, rfl, hd5, hs5, hl5, hp5, hrd5, ho5⟩
  have hm4 := HLB4.out
  clear HBT
  have HBT := Lib.hid (l3Bent_c le20 le20_good le20_z w5 rb p5 hrd5 (by omega) a5 c5 ys hd5 hs5 (by omega))
  clear hd5 hrd5
  obtain ⟨m5, hn2⟩ : ∃ n, ys.length = n := ⟨_, rfl⟩
  have HLB5 := Lib.hid hn2
  rw [hn2] at HBT ⊢
  clear hn2
  go_wp2_with fail
  refine HBT.out.mono ?_; rintro e w6 ⟨a6, c6, zs, p6, rfl, hd6, hs6, hl6, hp6, hrd6, ho6⟩
  have hm5 := HLB5.out
  clear HBT
  have HO6 := ((ho3.trans ho4).trans ho5).trans ho6
  have HB6 := Lib.hid ((ho2.trans HO6).below HB1.out (by omega) HB1.out.size)
  have HR2 := Lib.hid (HDT.out.only HO6).read
  have HR6 := Lib.hid hd6.read
  clear ho2 ho3 ho4 ho5 ho6 HO6 hd6 hrd6 HT
  obtain ⟨m6, hn6⟩ : ∃ n, zs.length = n := ⟨_, rfl⟩
  have HN6 := Lib.hid hn6
  rw [hn6] at hl6 ⊢
  clear hn6
  go_wp2
  go_ret2
  exact ⟨a2, c2, ts, a6, c6, zs, by rw [HN6.out, HLB2.out]; rfl, HR2.out, hsa.small, by rw [HLB2.out]; omega, HR6.out, hs6.small, by rw [HN6.out]; omega, HB6.out⟩
set_option maxRecDepth 100000 in
set_option maxHeartbeats 4000000 in
theorem drawLayerHides_c (w : World) (a : Option Addr) (n c : Nat) (h : Code w a n c) : Calls Tryd.prog 15 #[.slice a n c] w (LayerTextPost w) := by
  obtain ⟨rb, hrb⟩ : ∃ rb, w.heap.size = rb := ⟨_, rfl⟩
  have ho0 := open_c' w a n c h
  rw [hrb] at ho0
  have HO := Lib.hid ho0
  clear h ho0
  go_enter Tryd.func15, Tryd.ntmps15
  go_wp2_with fail
  refine HO.out.mono ?_; rintro e w1 ⟨rfl, hrd, hb⟩
  have HB1 := Lib.hid (hb.mono (by rw [hrb]; exact Nat.le_refl _) : Below w.heap.size w w1)
  have HT := Lib.hid (l3Layer_c w1 rb 0 hrd (by omega))
  clear hrd hb HO
  go_wp2_with fail
  refine HT.out.mono ?_; rintro e w2 ⟨a2, c2, ts, p2, rfl, hd2, hlok, hlow, hp2, hrd2, ho2⟩
  have hts : ts.length ≤ 32 := by have := hlok.most; rw [List.length_map] at this; exact this
  have hsa := small_leM (lok_small hlok)
  have HBT := Lib.hid (l3Bent_c le20 le20_good le20_z w2 rb p2 hrd2 (by omega) a2 c2 ts hd2 hsa (by omega))
  clear hd2 hrd2
  obtain ⟨m2, hn2⟩ : ∃ n, ts.length = n := ⟨_, rfl⟩
  have HLB2 := Lib.hid hn2
  rw [hn2] at HBT ⊢
  clear hn2
  go_wp2_with fail
  refine HBT.out.mono ?_; rintro e w3 ⟨a3, c3, us, p3, rfl, hd3, hs3, hl3, hp3, hrd3, ho3⟩
  have hm2 := HLB2.out
  clear HBT
  have HL := Lib.hid (l1Text_c w3 rb p3 hrd3 (by omega))
  have HO3 := Lib.hid (ho2.trans ho3)
  have HD3 := Lib.hid hd3
  clear hd3 hrd3 ho2 ho3
  obtain ⟨n3, hn3⟩ : ∃ n, us.length = n := ⟨_, rfl⟩
  have HN3 := Lib.hid hn3
  rw [hn3] at hl3 ⊢
  clear hn3
  go_wp2_with fail
  refine HL.out.mono ?_; rintro e w4 ⟨s, p4, rfl, hs, _, _, ho4⟩
  have HB4 := Lib.hid ((HO3.out.trans ho4).below HB1.out (by omega) HB1.out.size)
  have HR4 := Lib.hid (HD3.out.only ho4).read
  clear ho4 HL
  go_wp2
  go_ret2
  exact ⟨a3, c3, us, s, by rw [HN3.out]; rfl, HR4.out, hs3.small, by rw [HN3.out]; omega, hs, HB4.out⟩
end Go.Proofs.YtobbodbkdcbflaaDoor
namespace Go.Proofs.YtobbodbkdcbflaaDoor
open Go.RowKit
set_option maxHeartbeats 4000000 in
theorem layerHides_c (a : Option Addr) (c : Nat) (xs : List Mk) (q : ByteArray) (r : Bool) (hr : Hid (r = true ↔ LOk (xs.map Mk.pl) ∧ hidesL (xs.map Mk.pl) q.data.toList = true)) (w : World) (hs : SlF Mk.cells w a xs) (hx : xs.length ≤ maxLen) (hq : q.size ≤ 2000000) (hz : ∀ e ∈ xs, e.p.size ≤ 2000000 ∧ e.x.size ≤ 2000000) :
    Calls Tryd.prog 16 #[.slice a xs.length c, .string q] w fun e w' => e = .returned (.bool r) ∧ Below w.heap.size w w' := by
  have hb := Below.refl w.heap.size w
  obtain ⟨k, hk⟩ := lok_dec xs
  have HT := Lib.hid (layerOk_c a c xs k (Lib.hid hk) w hs hx hz)
  obtain ⟨v, hv⟩ : ∃ v, hidesL (xs.map Mk.pl) q.data.toList = v := ⟨_, rfl⟩
  have HH := fun W (h : SlF Mk.cells W a xs) => Lib.hid (hides_c a c xs q v (Lib.hid hv) W h hx hq hz)
  have HR : Hid (r = (k && v)) := by
    rw [Hid, Bool.eq_iff_iff, hr.out, ← hk, hv, Bool.and_eq_true]
  have HS := Lib.hid hs
  obtain ⟨n, hn⟩ : ∃ n, xs.length = n := ⟨_, rfl⟩
  rw [hn] at HT HH ⊢
  have GH := Lib.hid HH
  clear hn HH hx hz hs hr hk hv hq
  cases k with
  | false =>
    obtain rfl : r = false := HR.out
    go_enter Tryd.func16, Tryd.ntmps16
    go_wp2_with fail
    refine (HT.out).mono ?_; rintro e W ⟨rfl, hq⟩; replace hb := chn hb hq; clear hq
    go_wp2
    go_ret
    exact ⟨rfl, hb⟩
  | true =>
    obtain rfl : r = v := by rw [HR.out]; simp
    go_enter Tryd.func16, Tryd.ntmps16
    go_wp2_with fail
    refine (HT.out).mono ?_; rintro e W ⟨rfl, hq⟩; replace hb := chn hb hq; clear hq
    go_wp2_with fail
    refine ((GH.out _ (HS.out.below hb)).out).mono ?_; rintro e W ⟨rfl, hq⟩; replace hb := chn hb hq; clear hq
    go_wp2
    go_ret
    exact ⟨rfl, hb⟩
set_option maxHeartbeats 4000000 in
theorem sLayerHides_c (a : Option Addr) (c : Nat) (xs : List Mk) (q : ByteArray) (r : Bool) (hr : Hid (r = true ↔ LOk (xs.map Mk.pl) ∧ hidesL (xs.map Mk.pl) q.data.toList = true)) (w : World) (hs : SlF Mk.cells w a xs) (hx : xs.length ≤ maxLen) (hc : xs.length ≤ c) (hq : q.size ≤ 2000000) (hz : ∀ e ∈ xs, e.p.size ≤ 2000000 ∧ e.x.size ≤ 2000000) :
    Calls Tryd.prog 17 #[.slice a xs.length c, .string q] w fun e w' => e = .returned (.bool r) ∧ Below w.heap.size w w' := by
  have hb := Below.refl w.heap.size w
  have hqm : q.size ≤ maxLen := by unfold maxLen; omega
  obtain ⟨k, hk⟩ := lok_dec xs
  have HT := Lib.hid (sLayerOk_c a c xs k (Lib.hid hk) w hs hx hc hz)
  obtain ⟨p, hp⟩ : ∃ p, pathOkL q.data.toList = p := ⟨_, rfl⟩
  have HP := fun W => Lib.hid (sPathOk_c q p (Lib.hid hp) W hqm)
  obtain ⟨v, hv⟩ : ∃ v, (xs.map Mk.pl).any (hideQ q.data.toList) = v := ⟨_, rfl⟩
  have HH := fun W (h : SlF Mk.cells W a xs) => Lib.hid (l3Hides_c a c xs q v (Lib.hid hv) W h hx hq hz)
  have HR : Hid (r = (k && (p && v))) := by
    rw [Hid, Bool.eq_iff_iff, hr.out, ← hk, Bool.and_eq_true, Bool.and_eq_true]
    constructor
    · rintro ⟨h1, h2⟩
      have h3 := hides_path (hk.1 h1) h2
      refine ⟨h1, hp ▸ h3, ?_⟩
      rw [← hv, hideQ_eq h3 (fun m hm => (hk.1 h1).pth hm)]; exact h2
    · rintro ⟨h1, h2, h3⟩
      refine ⟨h1, ?_⟩
      rw [← hideQ_eq (hp.trans h2) (fun m hm => (hk.1 h1).pth hm), hv]; exact h3
  have HS := Lib.hid hs
  obtain ⟨n, hn⟩ : ∃ n, xs.length = n := ⟨_, rfl⟩
  rw [hn] at HT HH ⊢
  have GH := Lib.hid HH
  have GP := Lib.hid HP
  clear hn HH HP hx hz hs hr hk hv hq hp hqm hc
  cases k with
  | false =>
    obtain rfl : r = false := HR.out
    go_enter Tryd.func17, Tryd.ntmps17
    go_wp2_with fail
    refine (HT.out).mono ?_; rintro e W ⟨rfl, hq⟩; replace hb := chn hb hq; clear hq
    go_wp2
    go_ret
    exact ⟨rfl, hb⟩
  | true =>
    cases p with
    | false =>
      obtain rfl : r = false := HR.out
      go_enter Tryd.func17, Tryd.ntmps17
      go_wp2_with fail
      refine (HT.out).mono ?_; rintro e W ⟨rfl, hq⟩; replace hb := chn hb hq; clear hq
      go_wp2_with fail
      refine ((GP.out _).out).mono ?_; rintro e W ⟨rfl, hq⟩; replace hb := chn hb hq; clear hq
      go_wp2
      go_ret
      exact ⟨rfl, hb⟩
    | true =>
      obtain rfl : r = v := by rw [HR.out]; simp
      go_enter Tryd.func17, Tryd.ntmps17
      go_wp2_with fail
      refine (HT.out).mono ?_; rintro e W ⟨rfl, hq⟩; replace hb := chn hb hq; clear hq
      go_wp2_with fail
      refine ((GP.out _).out).mono ?_; rintro e W ⟨rfl, hq⟩; replace hb := chn hb hq; clear hq
      go_wp2_with fail
      refine ((GH.out _ (HS.out.below hb)).out).mono ?_; rintro e W ⟨rfl, hq⟩; replace hb := chn hb hq; clear hq
      go_wp2
      go_ret
      exact ⟨rfl, hb⟩
end Go.Proofs.YtobbodbkdcbflaaDoor
