/- The walks of the reference's l2MoveCode and l2Code. The walks of the reference's l2Off, l2Move, l2Do, TreeDo. The walk of the reference's TreeDo. The walk of the exact law of TreeDo. Conditions: each theorem's own. -/
import Derived.Test.YtnmjidjhloodbaaGreatDoorB5
namespace Go.Proofs.YtnmjidjhloodbaaGreatDoor
open Go.RowKit
set_option maxRecDepth 100000 in
set_option maxHeartbeats 8000000 in
theorem l2MoveCode_c (a : Option Addr) (c : Nat) (xs : List En) (k : Int) (p t d : ByteArray) (m : Nat) (hm : Hid (moveC (xs.map En.pl) p.data.toList t.data.toList = m)) (w : World) (hs : SlF En.cells w a xs) (hx : xs.length ≤ maxLen) (hp : p.size ≤ 2000000) (ht : t.size ≤ 2000000) (hpp : pathOkL p.data.toList = true) (htt : pathOkL t.data.toList = true) (hzs : ∀ e ∈ xs, e.p.size ≤ 2000000 ∧ e.x.size ≤ 2000000) :
    Calls Tryz.prog 48 #[.slice a xs.length c, opV k p t d] w fun r w' => r = .returned (.int .i64 m) ∧ Below w.heap.size w w' := by
  have HZ := Lib.hid hzs
  have htm : t.size ≤ maxLen := by unfold maxLen; omega
  have c0 := new_cell w (opBox k p t d) 31 0 _ rfl
  have c1 := new_cell w (opBox k p t d) 31 1 _ rfl
  have c2 := new_cell w (opBox k p t d) 31 2 _ rfl
  have c3 := new_cell w (opBox k p t d) 31 3 _ rfl
  have hb := bellow_alloc w (.cells (opBox k p t d) 31)
  obtain ⟨o, ho⟩ : ∃ o, getE xs p = o := ⟨_, rfl⟩
  obtain ⟨o2, ho2⟩ : ∃ o, getE xs t = o := ⟨_, rfl⟩
  obtain ⟨u, hu⟩ : ∃ u, upCodeL (xs.map En.pl) t.data.toList = u := ⟨_, rfl⟩
  obtain ⟨v, hv⟩ : ∃ v, underL t.data.toList p.data.toList = v := ⟨_, rfl⟩
  obtain ⟨r, hr⟩ : ∃ r, ((xs.map En.pl).any fun e => !moveOkL e.p p.data.toList t.data.toList) = r := ⟨_, rfl⟩
  have HM : Hid (m = if o = none then 2 else if u ≠ 0 then u else if o2.isSome = true then 4 else if v = true then 7 else if r = true then 8 else 0) := by
    rw [Hid, ← hm.out, moveC, getE_pl, getE_pl, ho, ho2, hu, hv, Option.isSome_map, ← hr]
    have e1 : (Option.map En.pl o = none) = (o = none) := by cases o <;> simp
    have e2 : ((xs.map En.pl).all fun e => moveOkL e.p p.data.toList t.data.toList) = !((xs.map En.pl).any fun e => !moveOkL e.p p.data.toList t.data.toList) := by simp [List.any_eq_not_all_not]
    rw [e2]
    simp only [e1]
    cases ((xs.map En.pl).any fun e => !moveOkL e.p p.data.toList t.data.toList) <;> rfl
  have HO : Hid (lgetE xs p = o) := by rw [Hid, lget_of (path_no_root hpp)]; exact ho
  have HO2 : Hid (lgetE xs t = o2) := by rw [Hid, lget_of (path_no_root htt)]; exact ho2
  have HU := Lib.hid (fun W (h : SlF En.cells W a xs) => l2Up_c a c xs t u (Lib.hid hu) W h hx htm)
  have HV : Hid (l1UnderL t.data.toList p.data.toList = v) := by rw [Hid, ← under_l1 htt hpp]; exact hv
  have HR := Lib.hid hr
  have HS := Lib.hid hs
  have HG := Lib.hid (fun (q : ByteArray) (o' : Option En) (ho' : Hid (lgetE xs q = o')) W (h : SlF En.cells W a xs) => l2Get_c a c xs q o' ho' W h hx)
  obtain ⟨n, hn⟩ : ∃ n, xs.length = n := ⟨_, rfl⟩
  have HN := Lib.hid hn
  rw [hn] at HG HU hx ⊢
  unfold maxLen at hx
  clear ho ho2 hu hv hr hm hn hs hzs hpp htt
  cases o with
  | none =>
    obtain rfl : m = 2 := HM.out
    cases o2 with
    | none =>
      go_enter Tryz.func48, Tryz.ntmps48
      go_wp2_with fail
      refine (HG.out p _ HO _ (HS.out.below hb)).mono ?_; rintro e W ⟨rfl, hq⟩; replace hb := chn hb hq; replace c0 := keepc hq c0; replace c1 := keepc hq c1; replace c2 := keepc hq c2; replace c3 := keepc hq c3; clear hq
      replace hb := hb.alloc hb.size (.cells #[.string ⟨#[]⟩, .bool false, .string ⟨#[]⟩] 52); replace c0 := keepc (bellow_alloc _ (.cells #[.string ⟨#[]⟩, .bool false, .string ⟨#[]⟩] 52)) c0; replace c1 := keepc (bellow_alloc _ (.cells #[.string ⟨#[]⟩, .bool false, .string ⟨#[]⟩] 52)) c1; replace c2 := keepc (bellow_alloc _ (.cells #[.string ⟨#[]⟩, .bool false, .string ⟨#[]⟩] 52)) c2; replace c3 := keepc (bellow_alloc _ (.cells #[.string ⟨#[]⟩, .bool false, .string ⟨#[]⟩] 52)) c3; 
      go_wp2_with fail
      refine (HU.out _ (HS.out.below hb)).mono ?_; rintro e W ⟨rfl, hq⟩; replace hb := chn hb hq; replace c0 := keepc hq c0; replace c1 := keepc hq c1; replace c2 := keepc hq c2; replace c3 := keepc hq c3; clear hq
      go_wp2_with fail
      refine (HG.out t _ HO2 _ (HS.out.below hb)).mono ?_; rintro e W ⟨rfl, hq⟩; replace hb := chn hb hq; replace c0 := keepc hq c0; replace c1 := keepc hq c1; replace c2 := keepc hq c2; replace c3 := keepc hq c3; clear hq
      replace hb := hb.alloc hb.size (.cells #[.string ⟨#[]⟩, .bool false, .string ⟨#[]⟩] 52); replace c0 := keepc (bellow_alloc _ (.cells #[.string ⟨#[]⟩, .bool false, .string ⟨#[]⟩] 52)) c0; replace c1 := keepc (bellow_alloc _ (.cells #[.string ⟨#[]⟩, .bool false, .string ⟨#[]⟩] 52)) c1; replace c2 := keepc (bellow_alloc _ (.cells #[.string ⟨#[]⟩, .bool false, .string ⟨#[]⟩] 52)) c2; replace c3 := keepc (bellow_alloc _ (.cells #[.string ⟨#[]⟩, .bool false, .string ⟨#[]⟩] 52)) c3; 
      go_wp2
      go_ret
      exact ⟨rfl, by repeat (first | exact hb | refine Below.alloc ?_ (by have := hb.size; simp; try omega) _)⟩
    | some e2 =>
      obtain ⟨ep2, ed2, ex2⟩ := e2
      go_enter Tryz.func48, Tryz.ntmps48
      go_wp2_with fail
      refine (HG.out p _ HO _ (HS.out.below hb)).mono ?_; rintro e W ⟨rfl, hq⟩; replace hb := chn hb hq; replace c0 := keepc hq c0; replace c1 := keepc hq c1; replace c2 := keepc hq c2; replace c3 := keepc hq c3; clear hq
      replace hb := hb.alloc hb.size (.cells #[.string ⟨#[]⟩, .bool false, .string ⟨#[]⟩] 52); replace c0 := keepc (bellow_alloc _ (.cells #[.string ⟨#[]⟩, .bool false, .string ⟨#[]⟩] 52)) c0; replace c1 := keepc (bellow_alloc _ (.cells #[.string ⟨#[]⟩, .bool false, .string ⟨#[]⟩] 52)) c1; replace c2 := keepc (bellow_alloc _ (.cells #[.string ⟨#[]⟩, .bool false, .string ⟨#[]⟩] 52)) c2; replace c3 := keepc (bellow_alloc _ (.cells #[.string ⟨#[]⟩, .bool false, .string ⟨#[]⟩] 52)) c3; 
      go_wp2_with fail
      refine (HU.out _ (HS.out.below hb)).mono ?_; rintro e W ⟨rfl, hq⟩; replace hb := chn hb hq; replace c0 := keepc hq c0; replace c1 := keepc hq c1; replace c2 := keepc hq c2; replace c3 := keepc hq c3; clear hq
      go_wp2_with fail
      refine (HG.out t _ HO2 _ (HS.out.below hb)).mono ?_; rintro e W ⟨rfl, hq⟩; replace hb := chn hb hq; replace c0 := keepc hq c0; replace c1 := keepc hq c1; replace c2 := keepc hq c2; replace c3 := keepc hq c3; clear hq
      replace hb := hb.alloc hb.size (.cells #[.string ep2, .bool ed2, .string ex2] 52); replace c0 := keepc (bellow_alloc _ (.cells #[.string ep2, .bool ed2, .string ex2] 52)) c0; replace c1 := keepc (bellow_alloc _ (.cells #[.string ep2, .bool ed2, .string ex2] 52)) c1; replace c2 := keepc (bellow_alloc _ (.cells #[.string ep2, .bool ed2, .string ex2] 52)) c2; replace c3 := keepc (bellow_alloc _ (.cells #[.string ep2, .bool ed2, .string ex2] 52)) c3; 
      go_wp2
      go_ret
      exact ⟨rfl, by repeat (first | exact hb | refine Below.alloc ?_ (by have := hb.size; simp; try omega) _)⟩
  | some e =>
  obtain ⟨ep, ed, ex⟩ := e
  by_cases h0 : u = 0
  · subst h0
    cases o2 with
    | some e2 =>
      obtain ⟨ep2, ed2, ex2⟩ := e2
      obtain rfl : m = 4 := HM.out
      go_enter Tryz.func48, Tryz.ntmps48
      go_wp2_with fail
      refine (HG.out p _ HO _ (HS.out.below hb)).mono ?_; rintro e W ⟨rfl, hq⟩; replace hb := chn hb hq; replace c0 := keepc hq c0; replace c1 := keepc hq c1; replace c2 := keepc hq c2; replace c3 := keepc hq c3; clear hq
      replace hb := hb.alloc hb.size (.cells #[.string ep, .bool ed, .string ex] 52); replace c0 := keepc (bellow_alloc _ (.cells #[.string ep, .bool ed, .string ex] 52)) c0; replace c1 := keepc (bellow_alloc _ (.cells #[.string ep, .bool ed, .string ex] 52)) c1; replace c2 := keepc (bellow_alloc _ (.cells #[.string ep, .bool ed, .string ex] 52)) c2; replace c3 := keepc (bellow_alloc _ (.cells #[.string ep, .bool ed, .string ex] 52)) c3; 
      go_wp2_with fail
      refine (HU.out _ (HS.out.below hb)).mono ?_; rintro e W ⟨rfl, hq⟩; replace hb := chn hb hq; replace c0 := keepc hq c0; replace c1 := keepc hq c1; replace c2 := keepc hq c2; replace c3 := keepc hq c3; clear hq
      go_wp2_with fail
      refine (HG.out t _ HO2 _ (HS.out.below hb)).mono ?_; rintro e W ⟨rfl, hq⟩; replace hb := chn hb hq; replace c0 := keepc hq c0; replace c1 := keepc hq c1; replace c2 := keepc hq c2; replace c3 := keepc hq c3; clear hq
      replace hb := hb.alloc hb.size (.cells #[.string ep2, .bool ed2, .string ex2] 52); replace c0 := keepc (bellow_alloc _ (.cells #[.string ep2, .bool ed2, .string ex2] 52)) c0; replace c1 := keepc (bellow_alloc _ (.cells #[.string ep2, .bool ed2, .string ex2] 52)) c1; replace c2 := keepc (bellow_alloc _ (.cells #[.string ep2, .bool ed2, .string ex2] 52)) c2; replace c3 := keepc (bellow_alloc _ (.cells #[.string ep2, .bool ed2, .string ex2] 52)) c3; 
      go_wp2
      go_ret
      exact ⟨rfl, by repeat (first | exact hb | refine Below.alloc ?_ (by have := hb.size; simp; try omega) _)⟩
    | none =>
      cases v with
      | true =>
        obtain rfl : m = 7 := HM.out
        go_enter Tryz.func48, Tryz.ntmps48
        go_wp2_with fail
        refine (HG.out p _ HO _ (HS.out.below hb)).mono ?_; rintro e W ⟨rfl, hq⟩; replace hb := chn hb hq; replace c0 := keepc hq c0; replace c1 := keepc hq c1; replace c2 := keepc hq c2; replace c3 := keepc hq c3; clear hq
        replace hb := hb.alloc hb.size (.cells #[.string ep, .bool ed, .string ex] 52); replace c0 := keepc (bellow_alloc _ (.cells #[.string ep, .bool ed, .string ex] 52)) c0; replace c1 := keepc (bellow_alloc _ (.cells #[.string ep, .bool ed, .string ex] 52)) c1; replace c2 := keepc (bellow_alloc _ (.cells #[.string ep, .bool ed, .string ex] 52)) c2; replace c3 := keepc (bellow_alloc _ (.cells #[.string ep, .bool ed, .string ex] 52)) c3; 
        go_wp2_with fail
        refine (HU.out _ (HS.out.below hb)).mono ?_; rintro e W ⟨rfl, hq⟩; replace hb := chn hb hq; replace c0 := keepc hq c0; replace c1 := keepc hq c1; replace c2 := keepc hq c2; replace c3 := keepc hq c3; clear hq
        go_wp2_with fail
        refine (HG.out t _ HO2 _ (HS.out.below hb)).mono ?_; rintro e W ⟨rfl, hq⟩; replace hb := chn hb hq; replace c0 := keepc hq c0; replace c1 := keepc hq c1; replace c2 := keepc hq c2; replace c3 := keepc hq c3; clear hq
        replace hb := hb.alloc hb.size (.cells #[.string ⟨#[]⟩, .bool false, .string ⟨#[]⟩] 52); replace c0 := keepc (bellow_alloc _ (.cells #[.string ⟨#[]⟩, .bool false, .string ⟨#[]⟩] 52)) c0; replace c1 := keepc (bellow_alloc _ (.cells #[.string ⟨#[]⟩, .bool false, .string ⟨#[]⟩] 52)) c1; replace c2 := keepc (bellow_alloc _ (.cells #[.string ⟨#[]⟩, .bool false, .string ⟨#[]⟩] 52)) c2; replace c3 := keepc (bellow_alloc _ (.cells #[.string ⟨#[]⟩, .bool false, .string ⟨#[]⟩] 52)) c3; 
        go_wp2_with fail
        refine (l1Under_c t p true HV _ ht hp).mono ?_; rintro e W ⟨rfl, rfl⟩
        go_wp2
        go_ret
        exact ⟨rfl, by repeat (first | exact hb | refine Below.alloc ?_ (by have := hb.size; simp; try omega) _)⟩
      | false =>
        have HM2 : Hid (m = if r = true then 8 else 0) := HM.out
        clear HM
        go_enter Tryz.func48, Tryz.ntmps48
        go_wp2_with fail
        refine (HG.out p _ HO _ (HS.out.below hb)).mono ?_; rintro e W ⟨rfl, hq⟩; replace hb := chn hb hq; replace c0 := keepc hq c0; replace c1 := keepc hq c1; replace c2 := keepc hq c2; replace c3 := keepc hq c3; clear hq
        replace hb := hb.alloc hb.size (.cells #[.string ep, .bool ed, .string ex] 52); replace c0 := keepc (bellow_alloc _ (.cells #[.string ep, .bool ed, .string ex] 52)) c0; replace c1 := keepc (bellow_alloc _ (.cells #[.string ep, .bool ed, .string ex] 52)) c1; replace c2 := keepc (bellow_alloc _ (.cells #[.string ep, .bool ed, .string ex] 52)) c2; replace c3 := keepc (bellow_alloc _ (.cells #[.string ep, .bool ed, .string ex] 52)) c3; 
        go_wp2_with fail
        refine (HU.out _ (HS.out.below hb)).mono ?_; rintro e W ⟨rfl, hq⟩; replace hb := chn hb hq; replace c0 := keepc hq c0; replace c1 := keepc hq c1; replace c2 := keepc hq c2; replace c3 := keepc hq c3; clear hq
        go_wp2_with fail
        refine (HG.out t _ HO2 _ (HS.out.below hb)).mono ?_; rintro e W ⟨rfl, hq⟩; replace hb := chn hb hq; replace c0 := keepc hq c0; replace c1 := keepc hq c1; replace c2 := keepc hq c2; replace c3 := keepc hq c3; clear hq
        replace hb := hb.alloc hb.size (.cells #[.string ⟨#[]⟩, .bool false, .string ⟨#[]⟩] 52); replace c0 := keepc (bellow_alloc _ (.cells #[.string ⟨#[]⟩, .bool false, .string ⟨#[]⟩] 52)) c0; replace c1 := keepc (bellow_alloc _ (.cells #[.string ⟨#[]⟩, .bool false, .string ⟨#[]⟩] 52)) c1; replace c2 := keepc (bellow_alloc _ (.cells #[.string ⟨#[]⟩, .bool false, .string ⟨#[]⟩] 52)) c2; replace c3 := keepc (bellow_alloc _ (.cells #[.string ⟨#[]⟩, .bool false, .string ⟨#[]⟩] 52)) c3; 
        go_wp2_with fail
        refine (l1Under_c t p false HV _ ht hp).mono ?_; rintro e z ⟨rfl, hzq⟩
        have C1 := Lib.hid (hzq ▸ c1)
        have C2 := Lib.hid (hzq ▸ c2)
        have HBZ := Lib.hid (hzq ▸ hb : Below w.heap.size w z)
        have HSZ := Lib.hid (HS.out.below HBZ.out)
        clear hzq c0 c1 c2 c3 hb
        go_wp2
        go_loopw [10] (fun i wr => ∃ j : Nat, j ≤ n ∧ i = .int .i64 j ∧ (∀ (i : Nat) (f : En), i < j → xs[i]? = some f → moveOkL f.p.data.toList p.data.toList t.data.toList = true) ∧ Below z.heap.size z wr) (fun i _ => n - (intOf i).toNat)
        case atStart => exact ⟨0, Nat.zero_le _, rfl, fun i f h => absurd h (by omega), Below.refl _ _⟩
        case round =>
          obtain ⟨j, hj, rfl, hall, hb⟩ := hrel
          have HA := Lib.hid hall
          clear hall
          have c1 := keepc hb C1.out
          have c2 := keepc hb C2.out
          by_cases hlt : j < n
          · obtain ⟨e, hee⟩ : ∃ e, xs[j]? = some e := ⟨_, List.getElem?_eq_getElem (by rw [HN.out]; exact hlt)⟩
            have hzz := HZ.out e (List.mem_of_getElem? hee)
            have h2 := HSZ.out.below hb
            obtain ⟨b, off, rfl, _⟩ := h2.addr (by rw [HN.out]; omega)
            obtain ⟨d0, d1, d2⟩ := en_at h2 j e hee
            have i0 : (0 : Int) ≤ (j : Int) := by omega
            have i1 : (j : Int) < (n : Int) := by omega
            obtain ⟨u, hu⟩ : ∃ u, moveOkL e.p.data.toList p.data.toList t.data.toList = u := ⟨_, rfl⟩
            have HU2 := Lib.hid hu
            obtain ⟨mv, hmv⟩ : ∃ mv : ByteArray, moveL e.p.data.toList p.data.toList t.data.toList = mv.data.toList := ⟨⟨(moveL e.p.data.toList p.data.toList t.data.toList).toArray⟩, by simp⟩
            have HMV := Lib.hid hmv
            have HYES : Hid (u = false → r = true) := fun h => by rw [← HR.out]; exact anyE_at (P := fun e => !moveOkL e.p p.data.toList t.data.toList) j e hee (by show (!moveOkL e.p.data.toList p.data.toList t.data.toList) = true; rw [hu, h]; rfl)
            have HNO : Hid (u = true → ∀ (i : Nat) (f : En), i < j + 1 → xs[i]? = some f → moveOkL f.p.data.toList p.data.toList t.data.toList = true) := fun h i f hi hf => by
              by_cases ej : i = j
              · subst ej; rw [hee] at hf; injection hf with hf; rw [← hf]; exact hu.trans h
              · exact HA.out i f (by omega) hf
            obtain ⟨fp, fd, fx⟩ := e
            clear hu hee h2 hmv
            go_wp2_with fail
            refine wp_region_held_drew (S := fun w' => Below _ _ w') (by kernel_rfl) (below_drew _) (fun hHeld => ?_)
            refine tk (i := 0) (d := (some 53)) (v := ?_) rfl rfl (by kernel_rfl) (by kernel_rfl) (by kernel_rfl) (fun _ _ _ h => h) (Or.inl ⟨by rfl, ?_⟩) hHeld ?_
            rotate_left
            · intro w hSw; have zd0 := keepc hSw d0; have zc1 := keepc hSw c1; have zc2 := keepc hSw c2; clear hSw; go_simp <;> with_reducible rfl
            (try simp only [Act.put, List.setIfInBounds_toArray, List.set_cons_zero, List.set_cons_succ])
            refine tk (i := 1) (d := (some 54)) (v := ?_) rfl rfl (by kernel_rfl) (by kernel_rfl) (by kernel_rfl) (fun _ _ _ h => h) (Or.inl ⟨by rfl, ?_⟩) hHeld ?_
            rotate_left
            · intro w hSw; have zd0 := keepc hSw d0; have zc1 := keepc hSw c1; have zc2 := keepc hSw c2; clear hSw; go_simp <;> with_reducible rfl
            (try simp only [Act.put, List.setIfInBounds_toArray, List.set_cons_zero, List.set_cons_succ])
            refine tk (i := 2) (d := (some 55)) (v := ?_) rfl rfl (by kernel_rfl) (by kernel_rfl) (by kernel_rfl) (fun _ _ _ h => h) (Or.inl ⟨by rfl, ?_⟩) hHeld ?_
            rotate_left
            · intro w hSw; have zd0 := keepc hSw d0; have zc1 := keepc hSw c1; have zc2 := keepc hSw c2; clear hSw; go_simp <;> with_reducible rfl
            (try simp only [Act.put, List.setIfInBounds_toArray, List.set_cons_zero, List.set_cons_succ])
            refine tk (i := 3) (d := (some 56)) (v := ?_) rfl rfl (by kernel_rfl) (by kernel_rfl) (by kernel_rfl) (fun _ _ _ h => h) (Or.inl ⟨by rfl, ?_⟩) hHeld ?_
            rotate_left
            · intro w hSw; have zd0 := keepc hSw d0; have zc1 := keepc hSw c1; have zc2 := keepc hSw c2; clear hSw; go_simp <;> with_reducible rfl
            (try simp only [Act.put, List.setIfInBounds_toArray, List.set_cons_zero, List.set_cons_succ])
            refine tk (i := 4) (d := (some 57)) (v := ?_) rfl rfl (by kernel_rfl) (by kernel_rfl) (by kernel_rfl) (fun _ _ _ h => h) (Or.inl ⟨by rfl, ?_⟩) hHeld ?_
            rotate_left
            · intro w hSw; have zd0 := keepc hSw d0; have zc1 := keepc hSw c1; have zc2 := keepc hSw c2; clear hSw; go_simp <;> with_reducible rfl
            (try simp only [Act.put, List.setIfInBounds_toArray, List.set_cons_zero, List.set_cons_succ])
            refine tk (i := 5) (d := (some 58)) (v := ?_) rfl rfl (by kernel_rfl) (by kernel_rfl) (by kernel_rfl) (fun _ _ _ h => h) (Or.inl ⟨by rfl, ?_⟩) hHeld ?_
            rotate_left
            · intro w hSw; have zd0 := keepc hSw d0; have zc1 := keepc hSw c1; have zc2 := keepc hSw c2; clear hSw; go_simp <;> with_reducible rfl
            (try simp only [Act.put, List.setIfInBounds_toArray, List.set_cons_zero, List.set_cons_succ])
            refine tk (i := 6) (d := (some 59)) (v := ?_) rfl rfl (by kernel_rfl) (by kernel_rfl) (by kernel_rfl) (fun _ _ _ h => h) (Or.inl ⟨by rfl, ?_⟩) hHeld ?_
            rotate_left
            · intro w hSw; have zd0 := keepc hSw d0; have zc1 := keepc hSw c1; have zc2 := keepc hSw c2; clear hSw; go_simp <;> with_reducible rfl
            (try simp only [Act.put, List.setIfInBounds_toArray, List.set_cons_zero, List.set_cons_succ])
            refine tk (i := 7) (d := (some 60)) (v := ?_) rfl rfl (by kernel_rfl) (by kernel_rfl) (by kernel_rfl) (fun _ _ _ h => h) (Or.inl ⟨by rfl, ?_⟩) hHeld ?_
            rotate_left
            · intro w hSw; have zd0 := keepc hSw d0; have zc1 := keepc hSw c1; have zc2 := keepc hSw c2; clear hSw; go_simp <;> with_reducible rfl
            (try simp only [Act.put, List.setIfInBounds_toArray, List.set_cons_zero, List.set_cons_succ])
            refine tk (i := 8) (d := (some 61)) (v := ?_) rfl rfl (by kernel_rfl) (by kernel_rfl) (by kernel_rfl) (fun _ _ _ h => h) (Or.inl ⟨by rfl, ?_⟩) hHeld ?_
            rotate_left
            · intro w hSw; have zd0 := keepc hSw d0; have zc1 := keepc hSw c1; have zc2 := keepc hSw c2; clear hSw; go_simp <;> with_reducible rfl
            (try simp only [Act.put, List.setIfInBounds_toArray, List.set_cons_zero, List.set_cons_succ])
            refine wpAnyH_ready (rs := [9]) (by kernel_rfl) (by simp) ?_
            refine AllReadyH.cons rfl (fun K hK => ?_) AllReadyH.nil
            go_simp
            refine (sPathMove_c fp p t mv u HMV HU2 _ hzz.1 hp ht).mono ?_; rintro e W ⟨rfl, hq⟩
            go_simp
            refine hK.out _ _ (chn hHeld hq) (fun h => ?_)
            clear hK K; replace hHeld := h; clear h hq
            (try simp only [Act.put, List.setIfInBounds_toArray, List.set_cons_zero, List.set_cons_succ])
            refine tk (i := 10) (d := (some 52)) (v := ?_) rfl rfl (by kernel_rfl) (by kernel_rfl) (by kernel_rfl) (fun _ _ _ h => h) (Or.inl ⟨by rfl, ?_⟩) hHeld ?_
            rotate_left
            · intro w hSw; have zd0 := keepc hSw d0; have zc1 := keepc hSw c1; have zc2 := keepc hSw c2; clear hSw; go_simp <;> with_reducible rfl
            (try simp only [Act.put, List.setIfInBounds_toArray, List.set_cons_zero, List.set_cons_succ])
            refine tk (i := 11) (d := (some 63)) (v := ?_) rfl rfl (by kernel_rfl) (by kernel_rfl) (by kernel_rfl) (fun _ _ _ h => h) (Or.inl ⟨by rfl, ?_⟩) hHeld ?_
            rotate_left
            · intro w hSw; have zd0 := keepc hSw d0; have zc1 := keepc hSw c1; have zc2 := keepc hSw c2; clear hSw; go_simp <;> with_reducible rfl
            (try simp only [Act.put, List.setIfInBounds_toArray, List.set_cons_zero, List.set_cons_succ])
            refine tk (i := 12) (d := (some 64)) (v := ?_) rfl rfl (by kernel_rfl) (by kernel_rfl) (by kernel_rfl) (fun _ _ _ h => h) (Or.inl ⟨by rfl, ?_⟩) hHeld ?_
            rotate_left
            · intro w hSw; have zd0 := keepc hSw d0; have zc1 := keepc hSw c1; have zc2 := keepc hSw c2; clear hSw; go_simp <;> with_reducible rfl
            (try simp only [Act.put, List.setIfInBounds_toArray, List.set_cons_zero, List.set_cons_succ])
            refine tk (i := 13) (d := (some 11)) (v := ?_) rfl rfl (by kernel_rfl) (by kernel_rfl) (by kernel_rfl) (fun _ _ _ h => h) (Or.inl ⟨by rfl, ?_⟩) hHeld ?_
            rotate_left
            · intro w hSw; have zd0 := keepc hSw d0; have zc1 := keepc hSw c1; have zc2 := keepc hSw c2; clear hSw; go_simp <;> with_reducible rfl
            (try simp only [Act.put, List.setIfInBounds_toArray, List.set_cons_zero, List.set_cons_succ])
            refine tk (i := 14) (d := (some 12)) (v := ?_) rfl rfl (by kernel_rfl) (by kernel_rfl) (by kernel_rfl) (fun _ _ _ h => h) (Or.inl ⟨by rfl, ?_⟩) hHeld ?_
            rotate_left
            · intro w hSw; have zd0 := keepc hSw d0; have zc1 := keepc hSw c1; have zc2 := keepc hSw c2; clear hSw; go_simp <;> with_reducible rfl
            (try simp only [Act.put, List.setIfInBounds_toArray, List.set_cons_zero, List.set_cons_succ])
            refine wpAnyH_done (by kernel_rfl) ?_ _
            replace hb := chn hb hHeld; clear hHeld
            cases u with
            | false =>
              obtain rfl : r = true := HYES.out (by simp)
              obtain rfl : m = 8 := HM2.out
              go_wp2
              go_ret
              exact ⟨rfl, HBZ.out.trans (hb.mono HBZ.out.size)⟩
            | true =>
              go_wp2
              go_roundw
              case rel => exact ⟨j + 1, by omega, by go_num, HNO.out (by simp), hb⟩
              case measure => simp [intOf]; omega
          · obtain rfl : r = false := by
              rw [← HR.out]
              exact anyE_no (P := fun e => !moveOkL e.p p.data.toList t.data.toList) (fun i f hf => by
                show (!moveOkL f.p.data.toList p.data.toList t.data.toList) = false
                rw [HA.out i f (by have := (List.getElem?_eq_some_iff.1 hf).1; rw [HN.out] at this; omega) hf]; rfl)
            obtain rfl : m = 0 := HM2.out
            go_wp2
            go_ret
            exact ⟨rfl, HBZ.out.trans (hb.mono HBZ.out.size)⟩
  · obtain rfl : m = u := by rw [HM.out, if_neg (by simp), if_pos h0]
    have hne : ((m : Int) != 0) = true := by rw [bne_iff_ne]; omega
    cases o2 with
    | none =>
      go_enter Tryz.func48, Tryz.ntmps48
      go_wp2_with fail
      refine (HG.out p _ HO _ (HS.out.below hb)).mono ?_; rintro e W ⟨rfl, hq⟩; replace hb := chn hb hq; replace c0 := keepc hq c0; replace c1 := keepc hq c1; replace c2 := keepc hq c2; replace c3 := keepc hq c3; clear hq
      replace hb := hb.alloc hb.size (.cells #[.string ep, .bool ed, .string ex] 52); replace c0 := keepc (bellow_alloc _ (.cells #[.string ep, .bool ed, .string ex] 52)) c0; replace c1 := keepc (bellow_alloc _ (.cells #[.string ep, .bool ed, .string ex] 52)) c1; replace c2 := keepc (bellow_alloc _ (.cells #[.string ep, .bool ed, .string ex] 52)) c2; replace c3 := keepc (bellow_alloc _ (.cells #[.string ep, .bool ed, .string ex] 52)) c3; 
      go_wp2_with fail
      refine (HU.out _ (HS.out.below hb)).mono ?_; rintro e W ⟨rfl, hq⟩; replace hb := chn hb hq; replace c0 := keepc hq c0; replace c1 := keepc hq c1; replace c2 := keepc hq c2; replace c3 := keepc hq c3; clear hq
      go_wp2_with fail
      refine (HG.out t _ HO2 _ (HS.out.below hb)).mono ?_; rintro e W ⟨rfl, hq⟩; replace hb := chn hb hq; replace c0 := keepc hq c0; replace c1 := keepc hq c1; replace c2 := keepc hq c2; replace c3 := keepc hq c3; clear hq
      replace hb := hb.alloc hb.size (.cells #[.string ⟨#[]⟩, .bool false, .string ⟨#[]⟩] 52); replace c0 := keepc (bellow_alloc _ (.cells #[.string ⟨#[]⟩, .bool false, .string ⟨#[]⟩] 52)) c0; replace c1 := keepc (bellow_alloc _ (.cells #[.string ⟨#[]⟩, .bool false, .string ⟨#[]⟩] 52)) c1; replace c2 := keepc (bellow_alloc _ (.cells #[.string ⟨#[]⟩, .bool false, .string ⟨#[]⟩] 52)) c2; replace c3 := keepc (bellow_alloc _ (.cells #[.string ⟨#[]⟩, .bool false, .string ⟨#[]⟩] 52)) c3; 
      go_wp2
      go_ret
      exact ⟨rfl, by repeat (first | exact hb | refine Below.alloc ?_ (by have := hb.size; simp; try omega) _)⟩
    | some e2 =>
      obtain ⟨ep2, ed2, ex2⟩ := e2
      go_enter Tryz.func48, Tryz.ntmps48
      go_wp2_with fail
      refine (HG.out p _ HO _ (HS.out.below hb)).mono ?_; rintro e W ⟨rfl, hq⟩; replace hb := chn hb hq; replace c0 := keepc hq c0; replace c1 := keepc hq c1; replace c2 := keepc hq c2; replace c3 := keepc hq c3; clear hq
      replace hb := hb.alloc hb.size (.cells #[.string ep, .bool ed, .string ex] 52); replace c0 := keepc (bellow_alloc _ (.cells #[.string ep, .bool ed, .string ex] 52)) c0; replace c1 := keepc (bellow_alloc _ (.cells #[.string ep, .bool ed, .string ex] 52)) c1; replace c2 := keepc (bellow_alloc _ (.cells #[.string ep, .bool ed, .string ex] 52)) c2; replace c3 := keepc (bellow_alloc _ (.cells #[.string ep, .bool ed, .string ex] 52)) c3; 
      go_wp2_with fail
      refine (HU.out _ (HS.out.below hb)).mono ?_; rintro e W ⟨rfl, hq⟩; replace hb := chn hb hq; replace c0 := keepc hq c0; replace c1 := keepc hq c1; replace c2 := keepc hq c2; replace c3 := keepc hq c3; clear hq
      go_wp2_with fail
      refine (HG.out t _ HO2 _ (HS.out.below hb)).mono ?_; rintro e W ⟨rfl, hq⟩; replace hb := chn hb hq; replace c0 := keepc hq c0; replace c1 := keepc hq c1; replace c2 := keepc hq c2; replace c3 := keepc hq c3; clear hq
      replace hb := hb.alloc hb.size (.cells #[.string ep2, .bool ed2, .string ex2] 52); replace c0 := keepc (bellow_alloc _ (.cells #[.string ep2, .bool ed2, .string ex2] 52)) c0; replace c1 := keepc (bellow_alloc _ (.cells #[.string ep2, .bool ed2, .string ex2] 52)) c1; replace c2 := keepc (bellow_alloc _ (.cells #[.string ep2, .bool ed2, .string ex2] 52)) c2; replace c3 := keepc (bellow_alloc _ (.cells #[.string ep2, .bool ed2, .string ex2] 52)) c3; 
      go_wp2
      go_ret
      exact ⟨rfl, by repeat (first | exact hb | refine Below.alloc ?_ (by have := hb.size; simp; try omega) _)⟩
set_option maxHeartbeats 4000000 in
theorem l2Code_c (a : Option Addr) (c : Nat) (xs : List En) (k : Int) (p t d : ByteArray) (m : Nat) (hm : Hid (codeL (xs.map En.pl) k p.data.toList t.data.toList = m)) (hok : opOkL k p.data.toList t.data.toList d.data.toList = true) (w : World) (hs : SlF En.cells w a xs) (htok : TOk (xs.map En.pl)) (hp : p.size ≤ 2000000) (ht : t.size ≤ 2000000) (hzs : ∀ e ∈ xs, e.p.size ≤ 2000000 ∧ e.x.size ≤ 2000000) :
    Calls Tryz.prog 23 #[.slice a xs.length c, opV k p t d] w fun r w' => r = .returned (.int .i64 m) ∧ Below w.heap.size w w' := by
  have hm2 : (2000000 : Nat) ≤ maxLen := by unfold maxLen; omega
  have hpm := Nat.le_trans hp hm2
  have htm := Nat.le_trans ht hm2
  have hx16 : xs.length ≤ 16 := by have := htok.most; rw [List.length_map] at this; exact this
  have hx : xs.length ≤ maxLen := by omega
  have hpp := opOk_p hok
  have c0 := new_cell w (opBox k p t d) 31 0 _ rfl
  have c1 := new_cell w (opBox k p t d) 31 1 _ rfl
  have c2 := new_cell w (opBox k p t d) 31 2 _ rfl
  have c3 := new_cell w (opBox k p t d) 31 3 _ rfl
  have hb := bellow_alloc w (.cells (opBox k p t d) 31)
  have HS := Lib.hid hs
  have h2 := hm.out
  rcases opOk_k hok with rfl | rfl | rfl | rfl | rfl
  · have HC := Lib.hid (fun W (h : SlF En.cells W a xs) => l2New_c a c xs p m (by rw [Hid, ← h2, code_1]) W h hx hpm (path_no_root hpp))
    clear h2 hx hpp
    obtain ⟨n, hn⟩ : ∃ n, xs.length = n := ⟨_, rfl⟩
    rw [hn] at HC ⊢
    clear hn hs hm hzs hx16 htok hok
    go_enter Tryz.func23, Tryz.ntmps23
    go_wp2_with fail
    refine (HC.out _ (HS.out.below hb)).mono ?_; rintro e W ⟨rfl, hq⟩; replace hb := chn hb hq; clear hq
    go_wp2
    go_ret
    exact ⟨rfl, by repeat (first | exact hb | refine Below.alloc ?_ (by have := hb.size; simp; try omega) _)⟩
  · have HC := Lib.hid (fun W (h : SlF En.cells W a xs) => l2PutCode_c a c xs p m (by rw [Hid, ← h2, code_2]) W h hx hpm (path_no_root hpp))
    clear h2 hx hpp
    obtain ⟨n, hn⟩ : ∃ n, xs.length = n := ⟨_, rfl⟩
    rw [hn] at HC ⊢
    clear hn hs hm hzs hx16 htok hok
    go_enter Tryz.func23, Tryz.ntmps23
    go_wp2_with fail
    refine (HC.out _ (HS.out.below hb)).mono ?_; rintro e W ⟨rfl, hq⟩; replace hb := chn hb hq; clear hq
    go_wp2
    go_ret
    exact ⟨rfl, by repeat (first | exact hb | refine Below.alloc ?_ (by have := hb.size; simp; try omega) _)⟩
  · have HC := Lib.hid (fun W (h : SlF En.cells W a xs) => l2OffCode_c a c xs 3 p t d m (.inl rfl) hm W h htok hpp (fun e he => ⟨Nat.le_trans (hzs e he).1 hm2, Nat.le_trans (hzs e he).2 hm2⟩))
    clear h2 hx hpp
    obtain ⟨n, hn⟩ : ∃ n, xs.length = n := ⟨_, rfl⟩
    rw [hn] at HC ⊢
    clear hn hs hm hzs hx16 htok hok
    go_enter Tryz.func23, Tryz.ntmps23
    go_wp2_with fail
    refine (HC.out _ (HS.out.below hb)).mono ?_; rintro e W ⟨rfl, hq⟩; replace hb := chn hb hq; clear hq
    go_wp2
    go_ret
    exact ⟨rfl, by repeat (first | exact hb | refine Below.alloc ?_ (by have := hb.size; simp; try omega) _)⟩
  · have HC := Lib.hid (fun W (h : SlF En.cells W a xs) => l2OffCode_c a c xs 4 p t d m (.inr rfl) hm W h htok hpp (fun e he => ⟨Nat.le_trans (hzs e he).1 hm2, Nat.le_trans (hzs e he).2 hm2⟩))
    clear h2 hx hpp
    obtain ⟨n, hn⟩ : ∃ n, xs.length = n := ⟨_, rfl⟩
    rw [hn] at HC ⊢
    clear hn hs hm hzs hx16 htok hok
    go_enter Tryz.func23, Tryz.ntmps23
    go_wp2_with fail
    refine (HC.out _ (HS.out.below hb)).mono ?_; rintro e W ⟨rfl, hq⟩; replace hb := chn hb hq; clear hq
    go_wp2
    go_ret
    exact ⟨rfl, by repeat (first | exact hb | refine Below.alloc ?_ (by have := hb.size; simp; try omega) _)⟩
  · have htt : pathOkL t.data.toList = true := by rw [opOk_5] at hok; simp only [Bool.and_eq_true] at hok; exact hok.2.1
    have HC := Lib.hid (fun W (h : SlF En.cells W a xs) => l2MoveCode_c a c xs 5 p t d m (by rw [Hid, ← h2, code_5]) W h hx hp ht hpp htt hzs)
    clear h2 hx hpp htt
    obtain ⟨n, hn⟩ : ∃ n, xs.length = n := ⟨_, rfl⟩
    rw [hn] at HC ⊢
    clear hn hs hm hzs hx16 htok hok
    go_enter Tryz.func23, Tryz.ntmps23
    go_wp2_with fail
    refine (HC.out _ (HS.out.below hb)).mono ?_; rintro e W ⟨rfl, hq⟩; replace hb := chn hb hq; clear hq
    go_wp2
    go_ret
    exact ⟨rfl, by repeat (first | exact hb | refine Below.alloc ?_ (by have := hb.size; simp; try omega) _)⟩
end Go.Proofs.YtnmjidjhloodbaaGreatDoor
namespace Go.Proofs.YtnmjidjhloodbaaGreatDoor
open Go.RowKit
/-- A row of entries of the call's own, with an array behind it. -/
def OwnRe (w : World) (B : Nat) (v : Value) (ms : List En) : Prop :=
  ∃ g c, v = .slice (some ⟨g, 0, none⟩) ms.length c ∧ ms.length ≤ c ∧ c ≤ maxLen ∧ OwnEn w B (.slice (some ⟨g, 0, none⟩) ms.length c) ms
theorem OwnRe.below {w w' : World} {B : Nat} {v : Value} {ms : List En} (h : OwnRe w B v ms) (hq : Below w.heap.size w w') : OwnRe w' B v ms := by
  obtain ⟨g, c, h1, h2, h3, h4⟩ := h
  exact ⟨g, c, h1, h2, h3, own_below h4 hq⟩
/-- A slice of entries with an array behind it, that can be read and be put into. -/
def ReadEn (w : World) (a : Option Addr) (c : Nat) (xs : List En) : Prop := ∃ b off, a = some ⟨b, off, none⟩ ∧ b < w.heap.size ∧ SlF En.cells w (some ⟨b, off, none⟩) xs ∧ xs.length ≤ c ∧ c ≤ maxLen
theorem ReadEn.below {w w' : World} {a : Option Addr} {c : Nat} {xs : List En} (h : ReadEn w a c xs) (hq : Below w.heap.size w w') : ReadEn w' a c xs := by
  obtain ⟨b, off, h1, h2, h3, h4⟩ := h
  exact ⟨b, off, h1, Nat.lt_of_lt_of_le h2 hq.size, h3.below hq, h4⟩
theorem ReadEn.sl {w : World} {a : Option Addr} {c : Nat} {xs : List En} (h : ReadEn w a c xs) : SlF En.cells w a xs := by
  obtain ⟨b, off, rfl, _, h3, _⟩ := h; exact h3
theorem OwnRe.read {w : World} {B : Nat} {v : Value} {ms : List En} (h : OwnRe w B v ms) : ∃ a c, v = .slice a ms.length c ∧ ReadEn w a c ms := by
  obtain ⟨g, c, h1, h2, h3, h4⟩ := h
  exact ⟨_, c, h1, g, 0, rfl, (h4.lt g rfl).2, own_slf (fun _ => rfl) h4, h2, h3⟩
/-- Entries that the call made, with an array behind them. -/
def MadeEl (l : List PE) (w : World) (e : Ending) (w' : World) : Prop :=
  ∃ (v : Value) (ms : List En), e = .returned v ∧ ms.map En.pl = l ∧ OwnRe w' w.heap.size v ms ∧ Below w.heap.size w w'
theorem ownRe_of {w : World} {B : Nat} {v : Value} {ms : List En} (h : w.ownsRow B 52 3 v ms.length (ms.flatMap En.cells)) (hv : v.ownBlock ≠ none) : OwnRe w B v ms := by
  have h0 := h
  rcases h.2 with ⟨rfl, h1⟩ | ⟨g, cap, cur, rfl, hg, hh, hnc, hm, h2, h3⟩
  · exact absurd rfl hv
  · exact ⟨g, cap, rfl, hnc, hm, h0⟩
/-- The contract of l2Put, as the rows of the call's own meet it. -/
theorem l2PutO_c (B : Nat) (v : Value) (ms : List En) (e : En) (w : World) (h : OwnRe w B v ms) (hB : B ≤ w.heap.size) (hn : ms.length ≤ 1000) :
    Calls Tryz.prog 50 #[v, e.val] w fun r w' => ∃ v', r = .returned v' ∧ OwnRe w' B v' (putP En.bs ms e) ∧ Below w.heap.size w w' := by
  obtain ⟨g, c, rfl, h2, h3, h4⟩ := h
  refine (l2Put_c g 0 c ms e _ (Lib.hid rfl) w (own_slf (fun _ => rfl) h4) (h4.lt g rfl).2 (by omega) h2 h3).mono ?_
  rintro r w' ⟨g', c', rfl, h5, h6, h7, h8⟩
  exact ⟨_, rfl, ⟨g', c', rfl, h5, h6, own_mono h7 hB⟩, h8⟩
theorem eput_len (xs : List En) (y : En) : (putP En.bs xs y).length ≤ xs.length + 1 := by
  induction xs with
  | nil => simp [putP]
  | cons x a ih =>
    rw [putP]
    split
    · simp only [List.length_cons]; omega
    · split
      · simp only [List.length_cons]; omega
      · simp only [List.length_cons]; omega
theorem keep_snoc' (xs : List En) (k : Nat) (e : En) (he : xs[k]? = some e) (p : Bs) (ms : List En) (h : ms.map En.pl = ((xs.take k).map En.pl).filter fun e => !(e.p == p)) :
    (ms ++ if e.p.data.toList = p then [] else [e]).map En.pl = ((xs.take (k + 1)).map En.pl).filter fun e => !(e.p == p) := by
  rw [take_pl xs k e he, List.filter_append, List.map_append, h]
  congr 1
  rw [List.filter_cons]
  by_cases hp : e.p.data.toList = p
  · rw [if_pos hp, if_neg (by rw [show e.pl.p = e.p.data.toList from rfl, hp]; simp)]; rfl
  · rw [if_neg hp, if_pos (by rw [show e.pl.p = e.p.data.toList from rfl]; simpa using hp)]; rfl
theorem keep_len' (xs : List En) (k : Nat) (p : Bs) (ms : List En) (h : ms.map En.pl = ((xs.take k).map En.pl).filter fun e => !(e.p == p)) : ms.length ≤ k := by
  have h1 := congrArg List.length h
  have h2 := List.length_filter_le (fun e : PE => !(e.p == p)) ((xs.take k).map En.pl)
  simp only [List.length_map, List.length_take] at h1 h2
  omega
set_option maxRecDepth 100000 in
set_option maxHeartbeats 4000000 in
theorem l2Off_c (a : Option Addr) (c : Nat) (xs : List En) (q : ByteArray) (w : World) (hs : SlF En.cells w a xs) (hx : xs.length ≤ 1000) :
    Calls Tryz.prog 52 #[.slice a xs.length c, .string q] w (MadeEl ((xs.map En.pl).filter fun e => !(e.p == q.data.toList)) w) := by
  have HE := eltEn
  have HS := Lib.hid hs
  obtain ⟨n, hn⟩ : ∃ n, xs.length = n := ⟨_, rfl⟩
  have HN := Lib.hid hn
  have HALL : Hid (xs.take n = xs) := by rw [Hid, ← hn, List.take_length]
  rw [hn] at hx ⊢
  clear hn hs
  go_enter Tryz.func52, Tryz.ntmps52
  go_wp2
  go_loopw [5, 6] (fun v i wr => ∃ (j : Nat) (ms : List En), j ≤ n ∧ i = .int .i64 j ∧ ms.map En.pl = ((xs.take j).map En.pl).filter (fun e => !(e.p == q.data.toList)) ∧ v.ownBlock ≠ none ∧ wr.ownsRow w.heap.size 52 3 v ms.length (ms.flatMap En.cells) ∧ Below w.heap.size w wr) (fun _ i _ => n - (intOf i).toNat)
  case atStart => exact ⟨0, [], Nat.zero_le _, rfl, rfl, by simp [Value.ownBlock], World.ownsRow_lit w #[] 0 (Nat.le_refl _) (Nat.zero_le _) rfl, bellow_alloc _ _⟩
  case round =>
    obtain ⟨j, ms, hj, rfl, hms, hvn, hown, hb⟩ := hrel
    have HMS := Lib.hid hms
    have hml := keep_len' _ _ _ _ hms
    have HVN := Lib.hid hvn
    clear hms hvn
    by_cases hlt : j < n
    · obtain ⟨e, hee⟩ : ∃ e, xs[j]? = some e := ⟨_, List.getElem?_eq_getElem (by rw [HN.out]; exact hlt)⟩
      have h2 := HS.out.below hb
      obtain ⟨b, off, rfl, _⟩ := h2.addr (by rw [HN.out]; omega)
      obtain ⟨d0, d1, d2⟩ := en_at h2 j e hee
      have i0 : (0 : Int) ≤ (j : Int) := by omega
      have i1 : (j : Int) < (n : Int) := by omega
      have HSN := Lib.hid (keep_snoc' xs j e hee q.data.toList ms HMS.out)
      obtain ⟨ep, ed, ex⟩ := e
      clear h2 hee
      by_cases heq : ep.data.toList = q.data.toList
      · have qe := beqs_yes heq
        have HSM : Hid (ms.map En.pl = ((xs.take (j + 1)).map En.pl).filter fun e => !(e.p == q.data.toList)) := by
          have h := HSN.out; rw [if_pos heq, List.append_nil] at h; exact h
        clear heq
        go_wp2
        go_roundw
        case rel => exact ⟨j + 1, ms, by omega, by go_num, HSM.out, HVN.out, hown, hb⟩
        case measure => simp [intOf]; omega
      · have qe := beqs_no heq
        have HSM : Hid ((ms ++ [(⟨ep, ed, ex⟩ : En)]).map En.pl = ((xs.take (j + 1)).map En.pl).filter fun e => !(e.p == q.data.toList)) := by
          have h := HSN.out; rw [if_neg heq] at h; exact h
        clear heq
        go_wp2_with (at_builtin; go_must (refine wp_app1H (by rfl) _ _ 27 (by rfl) HE w.heap.size w.heap.size w _ #[.string ep, .bool ed, .string ex] _ _ _ (by rfl) wr.heap.size (by simp) (by rfl) hown (by rfl) (by simp [Value.oneCell']) (by omega) hb.size hb (Nat.le_refl _) ?_); intro v' w1 hown1 hbel1 _ _)
        go_roundw
        case rel => exact ⟨j + 1, ms ++ [⟨ep, ed, ex⟩], by omega, by go_num, HSM.out, by rcases hown1.2 with ⟨rfl, h0⟩ | ⟨g, cap, cur, rfl, _⟩ <;> simp [Value.ownBlock] at *, by rw [← flat_app]; simpa using hown1, hbel1⟩
        case measure => simp [intOf]; omega
    · obtain rfl : j = n := by omega
      have HKEEP : Hid (ms.map En.pl = (xs.map En.pl).filter fun e => !(e.p == q.data.toList)) := by rw [Hid, HMS.out, HALL.out]
      go_wp2
      go_ret
      exact ⟨_, ms, rfl, HKEEP.out, ownRe_of hown HVN.out, hb⟩
theorem move_snoc (xs : List En) (k : Nat) (e : En) (he : xs[k]? = some e) (p t : Bs) (mv : ByteArray) (hm : moveL e.p.data.toList p t = mv.data.toList) (ms : List En) (h : ms.map En.pl = (((xs.take k).map En.pl).map (movedE p t)).foldl (putP PE.p) []) :
    (putP En.bs ms ⟨mv, e.d, e.x⟩).map En.pl = (((xs.take (k + 1)).map En.pl).map (movedE p t)).foldl (putP PE.p) [] := by
  rw [take_pl xs k e he, List.map_append, List.foldl_append, ← h, putP_map En.pl (f := En.bs) (g := PE.p) (fun _ => rfl)]
  show putP PE.p _ (⟨mv.data.toList, e.d, e.x.data.toList⟩ : PE) = putP PE.p _ (⟨moveL e.p.data.toList p t, e.d, e.x.data.toList⟩ : PE)
  rw [hm]
set_option maxRecDepth 100000 in
set_option maxHeartbeats 4000000 in
theorem l2Move_c (a : Option Addr) (c : Nat) (xs : List En) (p t : ByteArray) (w : World) (hs : SlF En.cells w a xs) (hx : xs.length ≤ 900) (hp : p.size ≤ 2000000) (ht : t.size ≤ 2000000) (hzs : ∀ e ∈ xs, e.p.size ≤ 2000000 ∧ e.x.size ≤ 2000000) :
    Calls Tryz.prog 51 #[.slice a xs.length c, .string p, .string t] w (MadeEl (((xs.map En.pl).map (movedE p.data.toList t.data.toList)).foldl (putP PE.p) []) w) := by
  have HZ := Lib.hid hzs
  have HS := Lib.hid hs
  obtain ⟨n, hn⟩ : ∃ n, xs.length = n := ⟨_, rfl⟩
  have HN := Lib.hid hn
  have HALL : Hid (xs.take n = xs) := by rw [Hid, ← hn, List.take_length]
  rw [hn] at hx ⊢
  clear hn hs hzs
  go_enter Tryz.func51, Tryz.ntmps51
  go_wp2
  go_loopw [7, 8] (fun v i wr => ∃ (j : Nat) (ms : List En), j ≤ n ∧ ms.length ≤ j ∧ i = .int .i64 j ∧ ms.map En.pl = (((xs.take j).map En.pl).map (movedE p.data.toList t.data.toList)).foldl (putP PE.p) [] ∧ OwnRe wr w.heap.size v ms ∧ Below w.heap.size w wr) (fun _ i _ => n - (intOf i).toNat)
  case atStart => exact ⟨0, [], Nat.zero_le _, Nat.zero_le _, rfl, rfl, ⟨w.heap.size, 0, rfl, Nat.zero_le _, Nat.zero_le _, World.ownsRow_lit w #[] 0 (Nat.le_refl _) (Nat.zero_le _) rfl⟩, bellow_alloc _ _⟩
  case round =>
    obtain ⟨j, ms, hj, hml, rfl, hms, hown, hb⟩ := hrel
    have HMS := Lib.hid hms
    clear hms
    by_cases hlt : j < n
    · obtain ⟨e, hee⟩ : ∃ e, xs[j]? = some e := ⟨_, List.getElem?_eq_getElem (by rw [HN.out]; exact hlt)⟩
      have hzz := HZ.out e (List.mem_of_getElem? hee)
      have h2 := HS.out.below hb
      obtain ⟨b, off, rfl, _⟩ := h2.addr (by rw [HN.out]; omega)
      obtain ⟨d0, d1, d2⟩ := en_at h2 j e hee
      have i0 : (0 : Int) ≤ (j : Int) := by omega
      have i1 : (j : Int) < (n : Int) := by omega
      obtain ⟨u, hu⟩ : ∃ u, moveOkL e.p.data.toList p.data.toList t.data.toList = u := ⟨_, rfl⟩
      have HU2 := Lib.hid hu
      obtain ⟨mv, hmv⟩ : ∃ mv : ByteArray, moveL e.p.data.toList p.data.toList t.data.toList = mv.data.toList := ⟨⟨(moveL e.p.data.toList p.data.toList t.data.toList).toArray⟩, by simp⟩
      have HMV := Lib.hid hmv
      have HSN := Lib.hid (move_snoc xs j e hee p.data.toList t.data.toList mv hmv ms HMS.out)
      obtain ⟨ep, ed, ex⟩ := e
      clear hu hmv h2 hee
      have q0 := new_cell wr #[.string ep, .bool ed, .string ex] 52 0 (.string ep) rfl
      have q1 := new_cell wr #[.string ep, .bool ed, .string ex] 52 1 (.bool ed) rfl
      have q2 := new_cell wr #[.string ep, .bool ed, .string ex] 52 2 (.string ex) rfl
      have f0 := new_free wr #[.string ep, .bool ed, .string ex] 52 0
      have HOW := Lib.hid hown
      have HLW := Lib.hid hb.size
      have hbw := bellow_alloc wr (.cells #[.string ep, .bool ed, .string ex] 52)
      clear hown
      replace hb := hb.alloc hb.size (.cells #[.string ep, .bool ed, .string ex] 52); 
      go_wp2_with fail
      refine (sPathMove_c ep p t mv u HMV HU2 _ hzz.1 hp ht).mono ?_; rintro e W ⟨rfl, hq⟩; replace hb := chn hb hq; replace hbw := chn hbw hq; replace f0 := (hq.frozen (p := ⟨wr.heap.size, 0, none⟩) (by simp)).trans f0; replace q0 := keepc hq q0; replace q1 := keepc hq q1; replace q2 := keepc hq q2; clear hq
      have HOW1 := Lib.hid (HOW.out.below (hbw.setCell (p := ⟨wr.heap.size, 0, none⟩) (Nat.le_refl _) (.string mv)))
      have hb1 := hb.setCell (p := ⟨wr.heap.size, 0, none⟩) HLW.out (.string mv)
      replace hb := hb1
      clear hb1
      go_wp2_with fail
      refine (l2PutO_c w.heap.size _ ms ⟨mv, ed, ex⟩ _ HOW1.out hb.size (by omega)).mono ?_; rintro e W2 ⟨v2, rfl, ho2, hq⟩; replace hb := chn hb hq
      have hpl := eput_len ms ⟨mv, ed, ex⟩
      go_wp2
      go_roundw
      case rel => exact ⟨j + 1, _, by omega, by omega, by go_num, HSN.out, ho2, hb⟩
      case measure => simp [intOf]; omega
    · obtain rfl : j = n := by omega
      have HRAW : Hid (ms.map En.pl = ((xs.map En.pl).map (movedE p.data.toList t.data.toList)).foldl (putP PE.p) []) := by rw [Hid, HMS.out, HALL.out]
      go_wp2
      go_ret
      exact ⟨_, ms, rfl, HRAW.out, hown, hb⟩
/-- l2Put on what is read. -/
theorem l2PutR_c (a : Option Addr) (c : Nat) (xs : List En) (e : En) (w : World) (h : ReadEn w a c xs) (hn : xs.length ≤ 1000) :
    Calls Tryz.prog 50 #[.slice a xs.length c, e.val] w (MadeEl (putP PE.p (xs.map En.pl) e.pl) w) := by
  obtain ⟨b, off, rfl, h2, h3, h4, h5⟩ := h
  refine (l2Put_c b off c xs e _ (Lib.hid rfl) w h3 h2 (by omega) h4 h5).mono ?_
  rintro r w' ⟨g', c', rfl, h5, h6, h7, h8⟩
  exact ⟨_, putP En.bs xs e, rfl, putP_map En.pl (f := En.bs) (g := PE.p) (fun _ => rfl) xs e, ⟨g', c', rfl, h5, h6, h7⟩, h8⟩
set_option maxHeartbeats 4000000 in
theorem l2Do_c (a : Option Addr) (c : Nat) (xs : List En) (k : Int) (p t d : ByteArray) (L : List PE) (hL : Hid (doL (xs.map En.pl) k p.data.toList t.data.toList d.data.toList = L)) (hok : opOkL k p.data.toList t.data.toList d.data.toList = true) (w : World) (hs : ReadEn w a c xs) (hx : xs.length ≤ 16) (hp : p.size ≤ 2000000) (ht : t.size ≤ 2000000) (hzs : ∀ e ∈ xs, e.p.size ≤ 2000000 ∧ e.x.size ≤ 2000000) :
    Calls Tryz.prog 24 #[.slice a xs.length c, opV k p t d] w (MadeEl L w) := by
  have c0 := new_cell w (opBox k p t d) 31 0 _ rfl
  have c1 := new_cell w (opBox k p t d) 31 1 _ rfl
  have c2 := new_cell w (opBox k p t d) 31 2 _ rfl
  have c3 := new_cell w (opBox k p t d) 31 3 _ rfl
  have hb := bellow_alloc w (.cells (opBox k p t d) 31)
  have HS := Lib.hid hs
  have h2 := hL.out
  obtain ⟨n, hn⟩ : ∃ n, xs.length = n := ⟨_, rfl⟩
  rcases opOk_k hok with rfl | rfl | rfl | rfl | rfl
  · have hd0 : d = ⟨#[]⟩ := by
      rw [opOk_1] at hok; simp only [Bool.and_eq_true, beq_iff_eq] at hok; exact bytes_eq hok.2.2
    subst hd0
    have HC := Lib.hid (fun W (h : ReadEn W a c xs) => (h2 ▸ doL_1 (t := xs.map En.pl) ▸ l2PutR_c a c xs ⟨p, true, ⟨#[]⟩⟩ W h (by omega) : Calls Tryz.prog 50 #[.slice a xs.length c, (⟨p, true, ⟨#[]⟩⟩ : En).val] W (MadeEl L W)))
    rw [hn] at HC ⊢
    clear hn hs hok h2 hx hzs hL
    go_enter Tryz.func24, Tryz.ntmps24
    go_wp2_with fail
    refine (HC.out _ (HS.out.below hb)).mono ?_; rintro e W ⟨v, ms, rfl, hms, how, hq⟩
    have HB := Lib.hid hb
    replace hb := chn hb hq
    obtain ⟨g, c2, rfl, g1, g2, g3⟩ := how
    go_wp2
    go_ret
    exact ⟨_, ms, rfl, hms, ⟨g, c2, rfl, g1, g2, own_mono g3 HB.out.size⟩, hb⟩
  · have HC := Lib.hid (fun W (h : ReadEn W a c xs) => (h2 ▸ doL_2 (t := xs.map En.pl) ▸ l2PutR_c a c xs ⟨p, false, d⟩ W h (by omega) : Calls Tryz.prog 50 #[.slice a xs.length c, (⟨p, false, d⟩ : En).val] W (MadeEl L W)))
    rw [hn] at HC ⊢
    clear hn hs hok h2 hx hzs hL
    go_enter Tryz.func24, Tryz.ntmps24
    go_wp2_with fail
    refine (HC.out _ (HS.out.below hb)).mono ?_; rintro e W ⟨v, ms, rfl, hms, how, hq⟩
    have HB := Lib.hid hb
    replace hb := chn hb hq
    obtain ⟨g, c2, rfl, g1, g2, g3⟩ := how
    go_wp2
    go_ret
    exact ⟨_, ms, rfl, hms, ⟨g, c2, rfl, g1, g2, own_mono g3 HB.out.size⟩, hb⟩
  · have HC := Lib.hid (fun W (h : ReadEn W a c xs) => (h2 ▸ doL_3 (t := xs.map En.pl) ▸ l2Off_c a c xs p W h.sl (by omega) : Calls Tryz.prog 52 #[.slice a xs.length c, .string p] W (MadeEl L W)))
    rw [hn] at HC ⊢
    clear hn hs hok h2 hx hzs hL
    go_enter Tryz.func24, Tryz.ntmps24
    go_wp2_with fail
    refine (HC.out _ (HS.out.below hb)).mono ?_; rintro e W ⟨v, ms, rfl, hms, how, hq⟩
    have HB := Lib.hid hb
    replace hb := chn hb hq
    obtain ⟨g, c2, rfl, g1, g2, g3⟩ := how
    go_wp2
    go_ret
    exact ⟨_, ms, rfl, hms, ⟨g, c2, rfl, g1, g2, own_mono g3 HB.out.size⟩, hb⟩
  · have HC := Lib.hid (fun W (h : ReadEn W a c xs) => (h2 ▸ doL_4 (t := xs.map En.pl) ▸ l2Off_c a c xs p W h.sl (by omega) : Calls Tryz.prog 52 #[.slice a xs.length c, .string p] W (MadeEl L W)))
    rw [hn] at HC ⊢
    clear hn hs hok h2 hx hzs hL
    go_enter Tryz.func24, Tryz.ntmps24
    go_wp2_with fail
    refine (HC.out _ (HS.out.below hb)).mono ?_; rintro e W ⟨v, ms, rfl, hms, how, hq⟩
    have HB := Lib.hid hb
    replace hb := chn hb hq
    obtain ⟨g, c2, rfl, g1, g2, g3⟩ := how
    go_wp2
    go_ret
    exact ⟨_, ms, rfl, hms, ⟨g, c2, rfl, g1, g2, own_mono g3 HB.out.size⟩, hb⟩
  · have HC := Lib.hid (fun W (h : ReadEn W a c xs) => (h2 ▸ doL_5 (t := xs.map En.pl) ▸ l2Move_c a c xs p t W h.sl (by omega) hp ht hzs : Calls Tryz.prog 51 #[.slice a xs.length c, .string p, .string t] W (MadeEl L W)))
    rw [hn] at HC ⊢
    clear hn hs hok h2 hx hzs hL
    go_enter Tryz.func24, Tryz.ntmps24
    go_wp2_with fail
    refine (HC.out _ (HS.out.below hb)).mono ?_; rintro e W ⟨v, ms, rfl, hms, how, hq⟩
    have HB := Lib.hid hb
    replace hb := chn hb hq
    obtain ⟨g, c2, rfl, g1, g2, g3⟩ := how
    go_wp2
    go_ret
    exact ⟨_, ms, rfl, hms, ⟨g, c2, rfl, g1, g2, own_mono g3 HB.out.size⟩, hb⟩
end Go.Proofs.YtnmjidjhloodbaaGreatDoor
namespace Go.Proofs.YtnmjidjhloodbaaGreatDoor
open Go.RowKit
/-- Entries that the call made, with an array behind them, and how it ended. -/
def MadeEo (l : List PE) (k : Nat) (w : World) (e : Ending) (w' : World) : Prop :=
  ∃ (v : Value) (ms : List En), e = .returned (.tuple #[v, .int .i64 (k : Int)]) ∧ ms.map En.pl = l ∧ OwnRe w' w.heap.size v ms ∧ Below w.heap.size w w'
theorem MadeEo.ei {l : List PE} {k : Nat} {w : World} {e : Ending} {w' : World} (h : MadeEo l k w e w') : MadeEi l k w e w' := by
  obtain ⟨v, ms, rfl, h1, ⟨g, c, rfl, h2, h3, h4⟩, h5⟩ := h
  exact ⟨_, c, ms, rfl, h1, h4, h5⟩
/-- 'append(out, ys...)', with what it tells of nil. -/
theorem wp_appN {P : Program} {ops : Array Oper} {rest : List Oper} {o : Oper} {a : Act} {Q : Exit → Act → World → Prop} (hgd : o.guard = none) (s x : Operand) (t : TypeId)
    (ho : o.op = .call { callee := .builtin .append, args := #[s, x], argTypes := #[t, t] }) {e : TypeId} {bytes : Nat} (E : Elt P t e 3 bytes)
    (base B : Nat) (w0 w : World) (v : Value) (n : Nat) (xs : List Value) (hs : a.eval s = v) {α : Type} (f : α → List Value) (hf : ∀ x, (f x).length = 3) (h1 : ∀ x, ∀ u ∈ f x, u.oneCell' = true) (ys : List α) (b off m c : Nat) (hm : ys.length = m) (hx : a.eval x = .slice (some ⟨b, off, none⟩) m c)
    (hsl : SlF f w (some ⟨b, off, none⟩) ys) (hown : w.ownsRow base e 3 v n xs) (hn : n + ys.length ≤ 2000000) (hbase : base ≤ w.heap.size) (hB : Below B w0 w) (hBb : B ≤ base)
    (h : ∀ v' w', w'.ownsRow base e 3 v' (n + ys.length) (xs ++ ys.flatMap f) → Below B w0 w' → (v' = .slice none 0 0 ↔ v = .slice none 0 0 ∧ ys.length = 0) → wpList P ops Q rest (a.put o.dst v') w') :
    wpList P ops Q (o :: rest) a w := by
  subst hm
  obtain ⟨i, z, hi, hz, hsz, hby, hzs⟩ := E.info
  have hsm := E.small
  refine wpList_append_own _ hgd s x t ho base e i z 3 bytes E.und hi hz hsz hby hzs E.pos v n xs hs hown ⟨b, off, none⟩ ys.length c (ys.flatMap f) hx (flatMap_len hf ys) (hsl.cells_at hf) (fun u hu => ?_) (by unfold maxLen; omega) ?_ hbase ?_
  · obtain ⟨y, hy, hu⟩ := List.mem_flatMap.1 hu
    exact h1 y u hu
  · have : (n + ys.length) * bytes ≤ 2000000 * 64 := Nat.mul_le_mul hn hsm
    omega
  · intro v' w' h2 h3 h4
    refine h v' w' h2 (hB.grown h3 (Nat.le_trans hBb hbase) ?_) h4
    intro k hk
    rcases hown.2 with ⟨rfl, _⟩ | ⟨g, cap, cur, rfl, hg, _⟩
    · simp [Value.ownBlock] at hk
    · simp [Value.ownBlock] at hk; omega
theorem own_some {w : World} {B : Nat} {e : TypeId} {size : Nat} {v : Value} {n : Nat} {xs : List Value} (h : w.ownsRow B e size v n xs) (hv : v ≠ .slice none 0 0) : v.ownBlock ≠ none := by
  rcases h.2 with ⟨rfl, _⟩ | ⟨g, cap, cur, rfl, _⟩
  · exact absurd rfl hv
  · simp [Value.ownBlock]
set_option maxRecDepth 100000 in
set_option maxHeartbeats 8000000 in
theorem sTreeDo_c (a : Option Addr) (c : Nat) (xs : List En) (k : Int) (p t d : ByteArray) (w : World) (hs : ReadEn w a c xs) (hx : xs.length ≤ 2000000) (hp : p.size ≤ 2000000) (ht : t.size ≤ 2000000) (hd : d.size ≤ 2000000) (hzs : ∀ e ∈ xs, e.p.size ≤ 2000000 ∧ e.x.size ≤ 2000000) :
    Calls Tryz.prog 7 #[.slice a xs.length c, opV k p t d] w (MadeEo (tdo (xs.map En.pl) k p.data.toList t.data.toList d.data.toList) (tcode (xs.map En.pl) k p.data.toList t.data.toList d.data.toList) w) := by
  have HE := eltEn
  have hm2 : (2000000 : Nat) ≤ maxLen := by unfold maxLen; omega
  have hpm := Nat.le_trans hp hm2
  have htm := Nat.le_trans ht hm2
  have hdm := Nat.le_trans hd hm2
  have hxm : xs.length ≤ maxLen := by unfold maxLen; omega
  have hc : xs.length ≤ c := by obtain ⟨_, _, _, _, _, h, _⟩ := hs; exact h
  have c0 := new_cell w (opBox k p t d) 31 0 _ rfl
  have c1 := new_cell w (opBox k p t d) 31 1 _ rfl
  have c2 := new_cell w (opBox k p t d) 31 2 _ rfl
  have c3 := new_cell w (opBox k p t d) 31 3 _ rfl
  have hb := bellow_alloc w (.cells (opBox k p t d) 31)
  obtain ⟨r, hr⟩ := tok_dec xs
  have HT := Lib.hid (fun W (h : SlF En.cells W a xs) => sTreeOk_c a c xs r (Lib.hid hr) W h hxm hc (fun e he => ⟨Nat.le_trans (hzs e he).1 hm2, Nat.le_trans (hzs e he).2 hm2⟩))
  obtain ⟨L, hL⟩ : ∃ L, tdo (xs.map En.pl) k p.data.toList t.data.toList d.data.toList = L := ⟨_, rfl⟩
  obtain ⟨C, hC⟩ : ∃ C, tcode (xs.map En.pl) k p.data.toList t.data.toList d.data.toList = C := ⟨_, rfl⟩
  have HS := Lib.hid hs
  rw [hL, hC]
  cases r with
  | false =>
    have hno : ¬ TOk (xs.map En.pl) := fun h => by have := hr.2 h; cases this
    obtain rfl : C = 1 := by rw [← hC]; exact tcode_bad hno
    obtain rfl : L = [] := by rw [← hL]; exact tdo_bad hno
    obtain ⟨n, hn⟩ : ∃ n, xs.length = n := ⟨_, rfl⟩
    rw [hn] at HT ⊢
    clear hn hs hr hL hC hno hzs hx hc hxm
    go_enter Tryz.func7, Tryz.ntmps7
    go_wp2_with fail
    refine (HT.out _ (HS.out.below hb).sl).mono ?_; rintro e WS ⟨rfl, hq⟩; replace hb := chn hb hq; clear hq
    go_wp2
    refine bodyPost_ret (v := .tuple #[.slice (some ⟨WS.heap.size, 0, none⟩) 0 0, .int .i64 1]) (by simp [results, Tryz.results7, go_sem]) rfl ⟨_, [], rfl, rfl, ⟨WS.heap.size, 0, rfl, Nat.zero_le _, Nat.zero_le _, World.ownsRow_lit WS #[] 0 hb.size (Nat.zero_le _) rfl⟩, hb.alloc hb.size _⟩
  | true =>
  have htok := hr.1 rfl
  have hx16 : xs.length ≤ 16 := by have := htok.most; rw [List.length_map] at this; exact this
  obtain ⟨ok, hok⟩ : ∃ ok, opOkL k p.data.toList t.data.toList d.data.toList = ok := ⟨_, rfl⟩
  have HOK := Lib.hid hok
  cases ok with
  | false =>
    obtain rfl : C = 1 := by rw [← hC]; exact tcode_no (by rw [hok]; simp)
    have HLX : Hid (xs.map En.pl = L) := by rw [Hid, ← hL, tdo_same htok (by rw [hC]; decide)]
    obtain ⟨n, hn⟩ : ∃ n, xs.length = n := ⟨_, rfl⟩
    have HN := Lib.hid hn
    rw [hn] at HT hx16 ⊢
    clear hn hs hr hL hC htok hzs hx hc hxm hok
    go_enter Tryz.func7, Tryz.ntmps7
    go_wp2_with fail
    refine (HT.out _ (HS.out.below hb).sl).mono ?_; rintro e W ⟨rfl, hq⟩; replace hb := chn hb hq; replace c0 := keepc hq c0; replace c1 := keepc hq c1; replace c2 := keepc hq c2; replace c3 := keepc hq c3; clear hq
    go_wp2_with fail
    refine (sOpOk_c k p t d false HOK _ hpm htm hdm).mono ?_; rintro e WS ⟨rfl, hq⟩; replace hb := chn hb hq; clear hq c0 c1 c2 c3
    have HOWN0 : (WS.alloc (.cells #[] 52)).ownsRow w.heap.size 52 3 (.slice (some ⟨WS.heap.size, 0, none⟩) 0 0) 0 [] := World.ownsRow_lit WS #[] 0 hb.size (Nat.zero_le _) rfl
    have hb2 := hb.alloc hb.size (.cells #[] 52)
    have HRD := Lib.hid ((HS.out.below hb).below (bellow_alloc WS (.cells #[] 52)))
    obtain ⟨b, off, rfl, _, hsl, _⟩ := HRD.out
    have hsl' := Lib.hid hsl
    have hown0 := Lib.hid HOWN0
    clear hsl HOWN0
    go_wp2_with (at_builtin; go_must (refine wp_appN (by rfl) _ _ 27 (by rfl) HE w.heap.size w.heap.size w _ _ 0 [] (by rfl) En.cells (fun _ => rfl) en_one xs b off n c HN.out (by rfl) hsl'.out hown0.out (by rw [HN.out]; omega) hb2.size hb2 (Nat.le_refl _) ?_); intro v2 w2 hown3 hbel3 hnil)
    have HOW : Hid (OwnRe w2 w.heap.size v2 xs) := by
      have h := hown3
      rw [Nat.zero_add, List.nil_append] at h
      exact ownRe_of h (own_some h (fun hv => by have := hnil.1 hv; simp at this))
    clear hown3 hnil
    go_wp2
    refine bodyPost_ret (v := .tuple #[v2, .int .i64 1]) (by simp [results, Tryz.results7, go_sem]) rfl ⟨v2, xs, rfl, HLX.out, HOW.out, hbel3⟩
  | true =>
    have HC := Lib.hid (fun W (h : SlF En.cells W a xs) => l2Code_c a c xs k p t d C (by rw [Hid, ← hC, tcode_op htok hok]) hok W h htok hp ht hzs)
    by_cases hC0 : C = 0
    · subst hC0
      have HD := Lib.hid (fun W (h : ReadEn W a c xs) => l2Do_c a c xs k p t d L (by rw [Hid, ← hL, tdo_do hC]) hok W h hx16 hp ht hzs)
      obtain ⟨n, hn⟩ : ∃ n, xs.length = n := ⟨_, rfl⟩
      rw [hn] at HT HC HD hx16 ⊢
      clear hn hs hr hL hC htok hzs hx hc hxm hok
      go_enter Tryz.func7, Tryz.ntmps7
      go_wp2_with fail
      refine (HT.out _ (HS.out.below hb).sl).mono ?_; rintro e W ⟨rfl, hq⟩; replace hb := chn hb hq; replace c0 := keepc hq c0; replace c1 := keepc hq c1; replace c2 := keepc hq c2; replace c3 := keepc hq c3; clear hq
      go_wp2_with fail
      refine (sOpOk_c k p t d true HOK _ hpm htm hdm).mono ?_; rintro e W ⟨rfl, hq⟩; replace hb := chn hb hq; replace c0 := keepc hq c0; replace c1 := keepc hq c1; replace c2 := keepc hq c2; replace c3 := keepc hq c3; clear hq
      go_wp2_with fail
      refine (HC.out _ (HS.out.below hb).sl).mono ?_; rintro e W ⟨rfl, hq⟩; replace hb := chn hb hq; replace c0 := keepc hq c0; replace c1 := keepc hq c1; replace c2 := keepc hq c2; replace c3 := keepc hq c3; clear hq
      go_wp2_with fail
      refine (HD.out _ (HS.out.below hb)).mono ?_; rintro e W ⟨v, ms, rfl, hms, ⟨g, c2', rfl, g1, g2, g3⟩, hq⟩
      have HB := Lib.hid hb
      replace hb := chn hb hq
      clear hq
      go_wp2
      refine bodyPost_ret (v := .tuple #[.slice (some ⟨g, 0, none⟩) ms.length c2', .int .i64 0]) (by simp [results, Tryz.results7, go_sem]) rfl ⟨_, ms, rfl, hms, ⟨g, c2', rfl, g1, g2, own_mono g3 HB.out.size⟩, hb⟩
    · have hC1 : ((C : Int) != 0) = true := by rw [bne_iff_ne]; omega
      have HLX : Hid (xs.map En.pl = L) := by rw [Hid, ← hL, tdo_same htok (by rw [hC]; exact hC0)]
      obtain ⟨n, hn⟩ : ∃ n, xs.length = n := ⟨_, rfl⟩
      have HN := Lib.hid hn
      rw [hn] at HT HC hx16 ⊢
      clear hn hs hr hL hC htok hzs hx hc hxm hok hC0
      go_enter Tryz.func7, Tryz.ntmps7
      go_wp2_with fail
      refine (HT.out _ (HS.out.below hb).sl).mono ?_; rintro e W ⟨rfl, hq⟩; replace hb := chn hb hq; replace c0 := keepc hq c0; replace c1 := keepc hq c1; replace c2 := keepc hq c2; replace c3 := keepc hq c3; clear hq
      go_wp2_with fail
      refine (sOpOk_c k p t d true HOK _ hpm htm hdm).mono ?_; rintro e W ⟨rfl, hq⟩; replace hb := chn hb hq; replace c0 := keepc hq c0; replace c1 := keepc hq c1; replace c2 := keepc hq c2; replace c3 := keepc hq c3; clear hq
      go_wp2_with fail
      refine (HC.out _ (HS.out.below hb).sl).mono ?_; rintro e WS ⟨rfl, hq⟩; replace hb := chn hb hq; clear hq c0 c1 c2 c3
      have HOWN0 : (WS.alloc (.cells #[] 52)).ownsRow w.heap.size 52 3 (.slice (some ⟨WS.heap.size, 0, none⟩) 0 0) 0 [] := World.ownsRow_lit WS #[] 0 hb.size (Nat.zero_le _) rfl
      have hb2 := hb.alloc hb.size (.cells #[] 52)
      have HRD := Lib.hid ((HS.out.below hb).below (bellow_alloc WS (.cells #[] 52)))
      obtain ⟨b, off, rfl, _, hsl, _⟩ := HRD.out
      have hsl' := Lib.hid hsl
      have hown0 := Lib.hid HOWN0
      clear hsl HOWN0
      go_wp2_with (at_builtin; go_must (refine wp_appN (by rfl) _ _ 27 (by rfl) HE w.heap.size w.heap.size w _ _ 0 [] (by rfl) En.cells (fun _ => rfl) en_one xs b off n c HN.out (by rfl) hsl'.out hown0.out (by rw [HN.out]; omega) hb2.size hb2 (Nat.le_refl _) ?_); intro v2 w2 hown3 hbel3 hnil)
      have HOW : Hid (OwnRe w2 w.heap.size v2 xs) := by
        have h := hown3
        rw [Nat.zero_add, List.nil_append] at h
        exact ownRe_of h (own_some h (fun hv => by have := hnil.1 hv; simp at this))
      clear hown3 hnil
      go_wp2
      refine bodyPost_ret (v := .tuple #[v2, .int .i64 (C : Int)]) (by simp [results, Tryz.results7, go_sem]) rfl ⟨v2, xs, rfl, HLX.out, HOW.out, hbel3⟩
end Go.Proofs.YtnmjidjhloodbaaGreatDoor
namespace Go.Proofs.YtnmjidjhloodbaaGreatDoor
open Go.RowKit
theorem tdo_len (t : List PE) (k : Int) (p r x : Bs) : (tdo t k p r x).length ≤ t.length + 1 := by
  unfold tdo
  split
  · split
    · unfold doL
      split
      · exact put_len_le (f := PE.p) _ _
      · split
        · exact put_len_le (f := PE.p) _ _
        · split
          · have := fold_len_le (f := PE.p) (t.map (movedE p r)) []
            rw [List.length_map] at this
            simp only [List.length_nil] at this
            omega
          · exact Nat.le_trans (List.length_filter_le _ _) (Nat.le_succ _)
    · exact Nat.le_succ _
  · simp
theorem cell_grown {w w' : World} {own : Option Nat} {a : Addr} {v : Value} (hg : w.grownBy w' own) (h : w.cell? a = some v) (hne : own ≠ some a.block) : w'.cell? a = some v := by
  have hb := hg.block a.block (World.block_lt_of_cell? _ _ h) (Ne.symm hne)
  rw [← h]
  unfold World.cell?
  simp only [hb]
set_option maxRecDepth 100000 in
set_option maxHeartbeats 16000000 in
theorem exactTreeDo_w (a : Option Addr) (c : Nat) (xs : List En) (k : Int) (p t d : ByteArray) (w : World) (hs : SlF En.cells w a xs) (hx : xs.length ≤ maxLen) (hz : ∀ e ∈ xs, e.p.size ≤ maxLen ∧ e.x.size ≤ maxLen) (hp : p.size ≤ maxLen) (ht : t.size ≤ maxLen) (hd : d.size ≤ maxLen) :
    Calls Tryz.prog 3 #[.slice a xs.length c, opV k p t d] w (TrueS w) := by
  have c0 := new_cell w (opBox k p t d) 24 0 _ rfl
  have c1 := new_cell w (opBox k p t d) 24 1 _ rfl
  have c2 := new_cell w (opBox k p t d) 24 2 _ rfl
  have c3 := new_cell w (opBox k p t d) 24 3 _ rfl
  have hb := bellow_alloc w (.cells (opBox k p t d) 24)
  have HS := Lib.hid hs
  by_cases h1 : 1048576 < (xs.length : Int) + sumW enW xs
  · have H := Lib.hid (fun W (h : SlF En.cells W a xs) => szEntS_no a c xs 1048576 (by omega) (by omega) h1 W h hx hz)
    obtain ⟨n, hn⟩ : ∃ n, xs.length = n := ⟨_, rfl⟩
    rw [hn] at H ⊢
    clear hn hs hx hz h1 hp ht hd
    go_enter Tryz.func3, Tryz.ntmps3
    go_wp2_with fail
    refine (H.out _ (HS.out.below hb)).mono ?_; rintro e W ⟨rfl, hq⟩; replace hb := chn hb hq; clear hq
    go_wp2
    go_ret
    exact ⟨rfl, hb⟩
  have hl1 : (xs.length : Int) + sumW enW xs ≤ 1048576 := by omega
  have H1 := Lib.hid (fun W (h : SlF En.cells W a xs) => szEntS_yes a c xs 1048576 (by omega) hl1 W h)
  obtain ⟨l2, hl2⟩ : ∃ l2 : Int, (1048576 : Int) - xs.length - sumW enW xs = l2 := ⟨_, rfl⟩
  rw [hl2] at H1
  have hl20 : 0 ≤ l2 := by omega
  have hl21 : l2 ≤ 1048576 := by omega
  by_cases h2 : l2 < (p.size : Int) + t.size + d.size
  · have H2 := Lib.hid (fun W => szOp_no k p t d l2 (by omega) hl20 h2 W hp ht hd)
    obtain ⟨n, hn⟩ : ∃ n, xs.length = n := ⟨_, rfl⟩
    rw [hn] at H1 ⊢
    clear hn hs hx hz h1 hl1 hl2 h2 hp ht hd
    go_enter Tryz.func3, Tryz.ntmps3
    go_wp2_with fail
    refine (H1.out _ (HS.out.below hb)).mono ?_; rintro e W ⟨rfl, hq⟩; replace hb := chn hb hq; replace c0 := keepc hq c0; replace c1 := keepc hq c1; replace c2 := keepc hq c2; replace c3 := keepc hq c3; clear hq
    go_wp2_with fail
    refine (H2.out _).mono ?_; rintro e W ⟨rfl, hq⟩; replace hb := chn hb hq; clear hq
    go_wp2
    go_ret
    exact ⟨rfl, hb⟩
  have hl3 : (p.size : Int) + t.size + d.size ≤ l2 := by omega
  have H2 := Lib.hid (fun W => szOp_yes k p t d l2 (by omega) hl3 W)
  obtain ⟨l4, hl4⟩ : ∃ l4 : Int, l2 - p.size - t.size - d.size = l4 := ⟨_, rfl⟩
  rw [hl4] at H2
  have hl40 : 0 ≤ l4 := by omega
  have hp2 : p.size ≤ 2000000 := by omega
  have ht2 : t.size ≤ 2000000 := by omega
  have hd2 : d.size ≤ 2000000 := by omega
  have hxn2 : xs.length ≤ 1048576 := by omega
  have hZ := en_low hl1
  obtain ⟨L, hL⟩ : ∃ L, tdo (xs.map En.pl) k p.data.toList t.data.toList d.data.toList = L := ⟨_, rfl⟩
  obtain ⟨C, hC⟩ : ∃ C, tcode (xs.map En.pl) k p.data.toList t.data.toList d.data.toList = C := ⟨_, rfl⟩
  have hll : L.length ≤ 1048577 := by rw [← hL]; have := tdo_len (xs.map En.pl) k p.data.toList t.data.toList d.data.toList; rw [List.length_map] at this; omega
  have hT := fun W (h : SlF En.cells W a xs) => Lib.hid (toEntS_d a c xs W h (by omega))
  have hSs := fun W b0 (h : SlF En.cells W (some ⟨b0, 0, none⟩) xs) (hb0 : b0 < W.heap.size) => Lib.hid (sTreeDo_c (some ⟨b0, 0, none⟩) xs.length xs k p t d W ⟨b0, 0, rfl, hb0, h, Nat.le_refl _, hx⟩ (by omega) hp2 ht2 hd2 hZ)
  have hSi := fun W b0 (h : SlF En.cells W (some ⟨b0, 0, none⟩) xs) => Lib.hid (treeDo_c (some ⟨b0, 0, none⟩) xs.length xs k p t d W h (.inr ⟨b0, 0, rfl⟩) hx hp2 ht2 hd2 hZ)
  have hE := fun W a a' c c' (h : SlF En.cells W a xs) (h' : SlF En.cells W a' xs) => Lib.hid (eqEntS_c a a' c c' xs xs true (Lib.hid ⟨fun _ => rfl, fun _ => rfl⟩) W h h' hx hx)
  have HQS := fun (a a' : Option Addr) (c c' n : Nat) (ss : List En) (hn : ss.length = n) (hx : n ≤ 2000000) => Lib.hid (fun (W : World) (h : SlF En.cells W a ss) (h' : SlF En.cells W a' ss) => eqEntS_n a a' c c' n ss hn W h h' hx)
  obtain ⟨n, hn⟩ : ∃ n, xs.length = n := ⟨_, rfl⟩
  rw [hL, hC] at hSs hSi
  rw [hn] at H1 hT hSs hSi hE hxn2 ⊢
  have GT := Lib.hid hT
  have GS := Lib.hid hSs
  have GI := Lib.hid hSi
  have GE := Lib.hid hE
  have GQS := Lib.hid HQS
  have HLL := Lib.hid hll
  clear hn hs hx hz hZ h1 h2 hl1 hl2 hl3 hl4 hT hSs hSi hE hL hC hll HQS hp ht hd hp2 ht2 hd2
  go_enter Tryz.func3, Tryz.ntmps3
  go_wp2_with fail
  refine (H1.out _ (HS.out.below hb)).mono ?_; rintro e W ⟨rfl, hq⟩; replace hb := chn hb hq; replace c0 := keepc hq c0; replace c1 := keepc hq c1; replace c2 := keepc hq c2; replace c3 := keepc hq c3; clear hq
  go_wp2_with fail
  refine (H2.out _).mono ?_; rintro e W ⟨rfl, hq⟩; replace hb := chn hb hq; replace c0 := keepc hq c0; replace c1 := keepc hq c1; replace c2 := keepc hq c2; replace c3 := keepc hq c3; clear hq
  go_wp2_with fail
  refine wp_region_held_drew (S := fun w' => Below _ _ w') (by kernel_rfl) (below_drew _) (fun hHeld => ?_)
  refine tk (i := 0) (d := (some 27)) (v := ?_) rfl rfl (by kernel_rfl) (by kernel_rfl) (by kernel_rfl) (fun _ _ _ h => h) (Or.inl ⟨by rfl, ?_⟩) hHeld ?_
  rotate_left
  · intro w hSw; have zc0 := keepc hSw c0; have zc1 := keepc hSw c1; have zc2 := keepc hSw c2; have zc3 := keepc hSw c3; clear hSw; go_simp <;> with_reducible rfl
  (try simp only [Act.put, List.setIfInBounds_toArray, List.set_cons_zero, List.set_cons_succ])
  refine tk (i := 2) (d := (some 29)) (v := ?_) rfl rfl (by kernel_rfl) (by kernel_rfl) (by kernel_rfl) (fun _ _ _ h => h) (Or.inl ⟨by rfl, ?_⟩) hHeld ?_
  rotate_left
  · intro w hSw; have zc0 := keepc hSw c0; have zc1 := keepc hSw c1; have zc2 := keepc hSw c2; have zc3 := keepc hSw c3; clear hSw; go_simp <;> with_reducible rfl
  (try simp only [Act.put, List.setIfInBounds_toArray, List.set_cons_zero, List.set_cons_succ])
  refine wpAnyH_ready (rs := [1]) (by kernel_rfl) (by simp) ?_
  refine AllReadyH.cons rfl (fun K hK => ?_) AllReadyH.nil
  go_simp
  refine ((GT.out _ (HS.out.below (chn hb hHeld))).out).mono ?_; rintro e W ⟨rfl,oy,y0,hq⟩
  go_simp
  refine hK.out _ _ (chn hHeld hq) (fun h => ?_)
  clear hK K; replace hHeld := h; clear h hq
  (try simp only [Act.put, List.setIfInBounds_toArray, List.set_cons_zero, List.set_cons_succ])
  refine wpAnyH_ready (rs := [3]) (by kernel_rfl) (by simp) ?_
  refine AllReadyH.cons rfl (fun K hK => ?_) AllReadyH.nil
  go_simp
  refine (toOp_c k p t d _).mono ?_; rintro e W ⟨rfl,hq⟩; replace y0 := SlF.below y0 hq; have hlt := Nat.lt_of_lt_of_le (lt_of_own oy) hq.size; clear oy
  go_simp
  refine hK.out _ _ (chn hHeld hq) (fun h => ?_)
  clear hK K; replace hHeld := h; clear h hq
  (try simp only [Act.put, List.setIfInBounds_toArray, List.set_cons_zero, List.set_cons_succ])
  refine wpAnyH_ready (rs := [4]) (by kernel_rfl) (by simp) ?_
  refine AllReadyH.cons rfl (fun K hK => ?_) AllReadyH.nil
  go_simp
  refine ((GS.out _ _ y0 hlt).out).mono ?_; rintro e W ⟨vS,ss,rfl,hss,how,hq⟩; clear y0 hlt
  go_simp
  refine hK.out _ _ (chn hHeld hq) (fun h => ?_)
  clear hK K; replace hHeld := h; clear h hq
  (try simp only [Act.put, List.setIfInBounds_toArray, List.set_cons_zero, List.set_cons_succ])
  refine tk (i := 5) (d := (some 26)) (v := ?_) rfl rfl (by kernel_rfl) (by kernel_rfl) (by kernel_rfl) (fun _ _ _ h => h) (Or.inl ⟨by rfl, ?_⟩) hHeld ?_
  rotate_left
  · intro w hSw; have zc0 := keepc hSw c0; have zc1 := keepc hSw c1; have zc2 := keepc hSw c2; have zc3 := keepc hSw c3; clear hSw; go_simp <;> with_reducible rfl
  (try simp only [Act.put, List.setIfInBounds_toArray, List.set_cons_zero, List.set_cons_succ])
  refine tk (i := 6) (d := (some 32)) (v := ?_) rfl rfl (by kernel_rfl) (by kernel_rfl) (by kernel_rfl) (fun _ _ _ h => h) (Or.inl ⟨by rfl, ?_⟩) hHeld ?_
  rotate_left
  · intro w hSw; have zc0 := keepc hSw c0; have zc1 := keepc hSw c1; have zc2 := keepc hSw c2; have zc3 := keepc hSw c3; clear hSw; go_simp <;> with_reducible rfl
  (try simp only [Act.put, List.setIfInBounds_toArray, List.set_cons_zero, List.set_cons_succ])
  refine tk (i := 7) (d := (some 33)) (v := ?_) rfl rfl (by kernel_rfl) (by kernel_rfl) (by kernel_rfl) (fun _ _ _ h => h) (Or.inl ⟨by rfl, ?_⟩) hHeld ?_
  rotate_left
  · intro w hSw; have zc0 := keepc hSw c0; have zc1 := keepc hSw c1; have zc2 := keepc hSw c2; have zc3 := keepc hSw c3; clear hSw; go_simp <;> with_reducible rfl
  (try simp only [Act.put, List.setIfInBounds_toArray, List.set_cons_zero, List.set_cons_succ])
  refine tk (i := 8) (d := (some 6)) (v := ?_) rfl rfl (by kernel_rfl) (by kernel_rfl) (by kernel_rfl) (fun _ _ _ h => h) (Or.inl ⟨by rfl, ?_⟩) hHeld ?_
  rotate_left
  · intro w hSw; have zc0 := keepc hSw c0; have zc1 := keepc hSw c1; have zc2 := keepc hSw c2; have zc3 := keepc hSw c3; clear hSw; go_simp <;> with_reducible rfl
  (try simp only [Act.put, List.setIfInBounds_toArray, List.set_cons_zero, List.set_cons_succ])
  refine tk (i := 9) (d := (some 7)) (v := ?_) rfl rfl (by kernel_rfl) (by kernel_rfl) (by kernel_rfl) (fun _ _ _ h => h) (Or.inl ⟨by rfl, ?_⟩) hHeld ?_
  rotate_left
  · intro w hSw; have zc0 := keepc hSw c0; have zc1 := keepc hSw c1; have zc2 := keepc hSw c2; have zc3 := keepc hSw c3; clear hSw; go_simp <;> with_reducible rfl
  (try simp only [Act.put, List.setIfInBounds_toArray, List.set_cons_zero, List.set_cons_succ])
  refine wpAnyH_done (by kernel_rfl) ?_ _
  replace hb := chn hb hHeld; replace c0 := keepc hHeld c0; replace c1 := keepc hHeld c1; replace c2 := keepc hHeld c2; replace c3 := keepc hHeld c3; clear hHeld
  obtain ⟨gS, cs, rfl, _, _, oS⟩ := how
  have HSS := Lib.hid hss
  have hpl : ss.length ≤ 1048577 := by have := congrArg List.length hss; rw [List.length_map] at this; rw [this]; exact HLL.out
  obtain ⟨q, hq⟩ : ∃ q, ss.length = q := ⟨_, rfl⟩
  unfold OwnEn at oS
  rw [hq] at oS hpl ⊢
  have HP := Lib.hid hq
  have LS := Lib.hid (lt_own oS)
  have HB1 := Lib.hid hb.size
  have HBOX := Lib.hid (World.block_lt_of_cell? _ _ c0 : w.heap.size < W.heap.size)
  clear hss hq
  go_wp2_with fail
  refine (GT.out _ (HS.out.below hb)).out.mono ?_; rintro e W2 ⟨rfl, oX, sX, hq⟩; replace hb := chn hb hq; replace oS := own_below oS hq; replace c0 := keepc hq c0; replace c1 := keepc hq c1; replace c2 := keepc hq c2; replace c3 := keepc hq c3
  have HX := Lib.hid (lt_of_own oX)
  clear hq
  go_wp2_with fail
  refine (toOp_c k p t d _).mono ?_; rintro e W3 ⟨rfl, hq⟩; replace hb := chn hb hq; replace oS := own_below oS hq; replace oX := own_below oX hq; replace sX := SlF.below sX hq; replace c0 := keepc hq c0; replace c1 := keepc hq c1; replace c2 := keepc hq c2; replace c3 := keepc hq c3
  have HX3 := Lib.hid (Nat.lt_of_lt_of_le HX.out hq.size)
  clear hq
  go_wp2_with fail
  refine (GI.out _ _ sX).out.mono ?_
  rintro e W4 ⟨ag, cg, sg, rfl, hsg, oG, hq⟩
  obtain rfl : sg = ss := map_inj_ En.pl_inj (hsg.trans HSS.out.symm)
  replace hb := chn hb hq; replace oS := own_below oS hq; replace oX := own_below oX hq; replace sX := SlF.below sX hq; replace c0 := keepc hq c0; replace c1 := keepc hq c1; replace c2 := keepc hq c2; replace c3 := keepc hq c3
  unfold OwnEn at oG
  rw [HP.out] at oG ⊢
  have LG := Lib.hid (le_own oG)
  clear hsg hq
  go_wp2_with fail
  refine ((GQS.out ag (some ⟨gS, 0, none⟩) cg cs q sg HP.out (by omega)).out _ (own_slfN (fun _ => rfl) oG HP.out) (own_slfN (fun _ => rfl) oS HP.out)).mono ?_; rintro e W ⟨rfl, hq⟩; replace hb := chn hb hq; replace sX := SlF.below sX hq; replace oS := own_below oS hq; replace oX := own_below oX hq; replace oG := own_below oG hq; replace c0 := keepc hq c0; replace c1 := keepc hq c1; replace c2 := keepc hq c2; replace c3 := keepc hq c3; clear hq
  go_wp2_with fail
  refine (GT.out _ (HS.out.below hb)).out.mono ?_; rintro e W5 ⟨rfl, _, z0, hq⟩; replace hb := chn hb hq; replace oS := own_below oS hq; replace oX := own_below oX hq; replace oG := own_below oG hq; replace sX := SlF.below sX hq; replace c0 := keepc hq c0; replace c1 := keepc hq c1; replace c2 := keepc hq c2; replace c3 := keepc hq c3; clear hq
  go_wp2_with fail
  refine ((GE.out _ _ _ _ _ sX z0).out).mono ?_; rintro e W ⟨rfl, hq⟩; replace hb := chn hb hq; replace oS := own_below oS hq; replace oX := own_below oX hq; replace oG := own_below oG hq; replace c0 := keepc hq c0; replace c1 := keepc hq c1; replace c2 := keepc hq c2; replace c3 := keepc hq c3; clear hq
  clear sX z0
  go_wp2_with fail
  refine (markEntS_c _ (some ⟨_, 0, none⟩) n n 1 _ _ oX (by omega) (by decide) (by decide)).mono ?_
  rintro e W6 ⟨rfl, _, hg⟩
  replace hb := below_grown hb hb.size hg (fun k hk => by injection hk with hk; rw [← hk]; exact HB1.out)
  replace oS := kept_lt oS hg LS.out
  replace oG := kept_gt oG hg (fun k hk => Nat.lt_of_lt_of_le HX3.out (LG.out k hk))
  replace c0 := cell_grown hg c0 (by simp [Value.ownBlock]; have := HBOX.out; omega)
  replace c1 := cell_grown hg c1 (by simp [Value.ownBlock]; have := HBOX.out; omega)
  replace c2 := cell_grown hg c2 (by simp [Value.ownBlock]; have := HBOX.out; omega)
  replace c3 := cell_grown hg c3 (by simp [Value.ownBlock]; have := HBOX.out; omega)
  clear hg oX
  go_wp2_with fail
  refine ((GQS.out ag (some ⟨gS, 0, none⟩) cg cs q sg HP.out (by omega)).out _ (own_slfN (fun _ => rfl) oG HP.out) (own_slfN (fun _ => rfl) oS HP.out)).mono ?_; rintro e W ⟨rfl, hq⟩; replace hb := chn hb hq; replace oS := own_below oS hq; replace oG := own_below oG hq; replace c0 := keepc hq c0; replace c1 := keepc hq c1; replace c2 := keepc hq c2; replace c3 := keepc hq c3; clear hq
  have HGE : Hid (∀ k, (Value.slice ag q cg).ownBlock = some k → w.heap.size < k ∧ gS < k) := fun k hk => ⟨Nat.lt_of_lt_of_le (Nat.lt_trans HBOX.out HX3.out) (LG.out k hk), Nat.lt_of_lt_of_le (Nat.lt_trans (LS.out gS rfl) HX3.out) (LG.out k hk)⟩
  go_wp2_with fail
  refine (markEntS_c _ ag cg q 1 _ _ oG (by omega) (by decide) (by decide)).mono ?_
  rintro e W7 ⟨rfl, ⟨LM, oM, hM⟩, hg⟩
  replace hb := below_grown hb hb.size hg (fun k hk => Nat.le_of_lt (HGE.out k hk).1)
  replace oS := own_kept oS hg (fun k hk e => absurd (HGE.out k e).2 (by rw [show gS = k by simpa [Value.ownBlock] using hk]; exact Nat.lt_irrefl _))
  replace c0 := cell_grown hg c0 (fun e => by have := (HGE.out _ e).1; simp at this)
  replace c1 := cell_grown hg c1 (fun e => by have := (HGE.out _ e).1; simp at this)
  replace c2 := cell_grown hg c2 (fun e => by have := (HGE.out _ e).1; simp at this)
  replace c3 := cell_grown hg c3 (fun e => by have := (HGE.out _ e).1; simp at this)
  have HM := Lib.hid hM
  clear hg hM oG
  have HHS := Lib.hid (fun W B (h : W.ownsRow B 52 3 (.slice ag q cg) q LM) => heldEntS_c B ag cg q 1 LM W h HM.out (by omega) (by decide) (by decide))
  go_wp2_with fail
  refine (HHS.out _ _ oM).mono ?_; rintro e W ⟨rfl, hq⟩; replace hb := chn hb hq; replace oS := own_below oS hq; replace oM := own_below oM hq; replace c0 := keepc hq c0; replace c1 := keepc hq c1; replace c2 := keepc hq c2; replace c3 := keepc hq c3; clear hq
  go_wp2_with fail
  refine wp_region_held_drew (S := fun w' => Below _ _ w') (by kernel_rfl) (below_drew _) (fun hHeld => ?_)
  refine tk (i := 0) (d := (some 85)) (v := ?_) rfl rfl (by kernel_rfl) (by kernel_rfl) (by kernel_rfl) (fun _ _ _ h => h) (Or.inl ⟨by rfl, ?_⟩) hHeld ?_
  rotate_left
  · intro w hSw; have zc0 := keepc hSw c0; have zc1 := keepc hSw c1; have zc2 := keepc hSw c2; have zc3 := keepc hSw c3; clear hSw; go_simp <;> with_reducible rfl
  (try simp only [Act.put, List.setIfInBounds_toArray, List.set_cons_zero, List.set_cons_succ])
  refine tk (i := 2) (d := (some 87)) (v := ?_) rfl rfl (by kernel_rfl) (by kernel_rfl) (by kernel_rfl) (fun _ _ _ h => h) (Or.inl ⟨by rfl, ?_⟩) hHeld ?_
  rotate_left
  · intro w hSw; have zc0 := keepc hSw c0; have zc1 := keepc hSw c1; have zc2 := keepc hSw c2; have zc3 := keepc hSw c3; clear hSw; go_simp <;> with_reducible rfl
  (try simp only [Act.put, List.setIfInBounds_toArray, List.set_cons_zero, List.set_cons_succ])
  refine wpAnyH_ready (rs := [1]) (by kernel_rfl) (by simp) ?_
  refine AllReadyH.cons rfl (fun K hK => ?_) AllReadyH.nil
  go_simp
  refine ((GT.out _ (HS.out.below (chn hb hHeld))).out).mono ?_; rintro e W ⟨rfl,_,y0,hq⟩
  go_simp
  refine hK.out _ _ (chn hHeld hq) (fun h => ?_)
  clear hK K; replace hHeld := h; clear h hq
  (try simp only [Act.put, List.setIfInBounds_toArray, List.set_cons_zero, List.set_cons_succ])
  refine wpAnyH_ready (rs := [3]) (by kernel_rfl) (by simp) ?_
  refine AllReadyH.cons rfl (fun K hK => ?_) AllReadyH.nil
  go_simp
  refine (toOp_c k p t d _).mono ?_; rintro e W ⟨rfl,hq⟩; replace y0 := SlF.below y0 hq
  go_simp
  refine hK.out _ _ (chn hHeld hq) (fun h => ?_)
  clear hK K; replace hHeld := h; clear h hq
  (try simp only [Act.put, List.setIfInBounds_toArray, List.set_cons_zero, List.set_cons_succ])
  refine wpAnyH_ready (rs := [4]) (by kernel_rfl) (by simp) ?_
  refine AllReadyH.cons rfl (fun K hK => ?_) AllReadyH.nil
  go_simp
  refine ((GI.out _ _ y0).out).mono ?_; rintro e W ⟨ah,ch,sh,rfl,hsh,oH,hq⟩; clear y0
  go_simp
  refine hK.out _ _ (chn hHeld hq) (fun h => ?_)
  clear hK K; replace hHeld := h; clear h hq
  (try simp only [Act.put, List.setIfInBounds_toArray, List.set_cons_zero, List.set_cons_succ])
  refine tk (i := 5) (d := (some 84)) (v := ?_) rfl rfl (by kernel_rfl) (by kernel_rfl) (by kernel_rfl) (fun _ _ _ h => h) (Or.inl ⟨by rfl, ?_⟩) hHeld ?_
  rotate_left
  · intro w hSw; have zc0 := keepc hSw c0; have zc1 := keepc hSw c1; have zc2 := keepc hSw c2; have zc3 := keepc hSw c3; clear hSw; go_simp <;> with_reducible rfl
  (try simp only [Act.put, List.setIfInBounds_toArray, List.set_cons_zero, List.set_cons_succ])
  refine tk (i := 6) (d := (some 90)) (v := ?_) rfl rfl (by kernel_rfl) (by kernel_rfl) (by kernel_rfl) (fun _ _ _ h => h) (Or.inl ⟨by rfl, ?_⟩) hHeld ?_
  rotate_left
  · intro w hSw; have zc0 := keepc hSw c0; have zc1 := keepc hSw c1; have zc2 := keepc hSw c2; have zc3 := keepc hSw c3; clear hSw; go_simp <;> with_reducible rfl
  (try simp only [Act.put, List.setIfInBounds_toArray, List.set_cons_zero, List.set_cons_succ])
  refine tk (i := 7) (d := (some 91)) (v := ?_) rfl rfl (by kernel_rfl) (by kernel_rfl) (by kernel_rfl) (fun _ _ _ h => h) (Or.inl ⟨by rfl, ?_⟩) hHeld ?_
  rotate_left
  · intro w hSw; have zc0 := keepc hSw c0; have zc1 := keepc hSw c1; have zc2 := keepc hSw c2; have zc3 := keepc hSw c3; clear hSw; go_simp <;> with_reducible rfl
  (try simp only [Act.put, List.setIfInBounds_toArray, List.set_cons_zero, List.set_cons_succ])
  refine tk (i := 8) (d := (some 14)) (v := ?_) rfl rfl (by kernel_rfl) (by kernel_rfl) (by kernel_rfl) (fun _ _ _ h => h) (Or.inl ⟨by rfl, ?_⟩) hHeld ?_
  rotate_left
  · intro w hSw; have zc0 := keepc hSw c0; have zc1 := keepc hSw c1; have zc2 := keepc hSw c2; have zc3 := keepc hSw c3; clear hSw; go_simp <;> with_reducible rfl
  (try simp only [Act.put, List.setIfInBounds_toArray, List.set_cons_zero, List.set_cons_succ])
  refine tk (i := 9) (d := (some 15)) (v := ?_) rfl rfl (by kernel_rfl) (by kernel_rfl) (by kernel_rfl) (fun _ _ _ h => h) (Or.inl ⟨by rfl, ?_⟩) hHeld ?_
  rotate_left
  · intro w hSw; have zc0 := keepc hSw c0; have zc1 := keepc hSw c1; have zc2 := keepc hSw c2; have zc3 := keepc hSw c3; clear hSw; go_simp <;> with_reducible rfl
  (try simp only [Act.put, List.setIfInBounds_toArray, List.set_cons_zero, List.set_cons_succ])
  refine wpAnyH_done (by kernel_rfl) ?_ _
  replace hb := chn hb hHeld; replace oS := own_below oS hHeld; replace oM := own_below oM hHeld; clear hHeld
  obtain rfl : sh = sg := map_inj_ En.pl_inj (hsh.trans HSS.out.symm)
  unfold OwnEn at oH
  rw [HP.out] at oH ⊢
  clear hsh c0 c1 c2 c3
  go_wp2_with fail
  refine ((GQS.out ah (some ⟨gS, 0, none⟩) ch cs q sh HP.out (by omega)).out _ (own_slfN (fun _ => rfl) oH HP.out) (own_slfN (fun _ => rfl) oS HP.out)).mono ?_; rintro e W ⟨rfl, hq⟩; replace hb := chn hb hq; replace oM := own_below oM hq; clear hq
  clear oS oH
  go_wp2_with fail
  refine (HHS.out _ _ oM).mono ?_; rintro e W ⟨rfl, hq⟩; replace hb := chn hb hq; clear hq
  go_wp2
  go_ret
  exact ⟨rfl, hb⟩
end Go.Proofs.YtnmjidjhloodbaaGreatDoor
