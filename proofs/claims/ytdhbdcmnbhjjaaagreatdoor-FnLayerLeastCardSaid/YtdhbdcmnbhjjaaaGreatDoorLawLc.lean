/- The walk of the law that difference layers hold nothing needless: FnLayerLeast. Conditions: none beyond what can be read. -/
import Derived.Test.YtdhbdcmnbhjjaaaGreatDoorB9
import Derived.Test.YtdhbdcmnbhjjaaaGreatDoorB8
namespace Go.Proofs.YtdhbdcmnbhjjaaaGreatDoor
open Go.RowKit
theorem split_at {α : Type} {l : List α} {k : Nat} {m : α} (h : l[k]? = some m) : l = l.take k ++ m :: l.drop (k + 1) := by
  obtain ⟨h1, h2⟩ := List.getElem?_eq_some_iff.1 h
  rw [← h2, ← List.drop_eq_getElem_cons h1, List.take_append_drop]
theorem less_mem {l : List PM} (ho : OrdP PM.p l) {k : Nat} {m : PM} (h : l[k]? = some m) : OrdP PM.p (l.take k ++ l.drop (k + 1)) ∧ ∀ n, n ∈ l.take k ++ l.drop (k + 1) ↔ n ∈ l ∧ n ≠ m := by
  have hs := split_at h
  have ho2 := ho
  rw [hs] at ho2
  obtain ⟨h1, h2, h3⟩ := List.pairwise_append.1 ho2
  obtain ⟨h4, h5⟩ := List.pairwise_cons.1 h2
  refine ⟨List.pairwise_append.2 ⟨h1, h5, fun a ha b hb => h3 a ha b (List.mem_cons_of_mem _ hb)⟩, fun n => ?_⟩
  conv => rhs; rw [hs]
  simp only [List.mem_append, List.mem_cons]
  constructor
  · rintro (hn | hn)
    · exact ⟨.inl hn, fun e => less_ne (h3 n hn m List.mem_cons_self) (by rw [e])⟩
    · exact ⟨.inr (.inr hn), fun e => less_ne (h4 n hn) (by rw [e])⟩
  · rintro ⟨hn | rfl | hn, hne⟩
    · exact .inl hn
    · exact absurd rfl hne
    · exact .inr hn
theorem slf_take {α : Type} {f : α → List Value} {w : World} {b off : Nat} {xs : List α} (h : SlF f w (some ⟨b, off, none⟩) xs) (k : Nat) : SlF f w (some ⟨b, off, none⟩) (xs.take k) := fun hn => by
  obtain ⟨b', off', e, hlt, hc⟩ := h (by rw [List.length_take] at hn; omega)
  refine ⟨b', off', e, hlt, fun i x hx j u hu => hc i x ?_ j u hu⟩
  rw [List.getElem?_take] at hx
  split at hx
  · exact hx
  · cases hx
theorem slf_drop {α : Type} {f : α → List Value} {w : World} {b off : Nat} {xs : List α} (h : SlF f w (some ⟨b, off, none⟩) xs) (k : Nat) : SlF f w (some ⟨b, off + k * 3, none⟩) (xs.drop k) := fun hn => by
  obtain ⟨b', off', e, hlt, hc⟩ := h (by rw [List.length_drop] at hn; omega)
  simp only [Option.some.injEq, Addr.mk.injEq, and_true] at e
  obtain ⟨rfl, rfl⟩ := e
  refine ⟨b, off + k * 3, rfl, hlt, fun i x hx j u hu => ?_⟩
  rw [List.getElem?_drop] at hx
  have h1 := hc (k + i) x hx j u hu
  rw [show off + k * 3 + i * 3 + j = off + (k + i) * 3 + j by omega]
  exact h1
set_option maxRecDepth 100000 in
set_option maxHeartbeats 8000000 in
theorem lawLayerLeast_w (w : World) (a : Option Addr) (n c : Nat) (a' : Option Addr) (n' c' : Nat) (h : Code w a n c) (h' : Code w a' n' c') : Calls Tryz.prog 7 #[.slice a n c, .slice a' n' c'] w (TrueB w) := by
  have hn := h.2.2
  have hn' := h'.2.2
  by_cases hbig : 1048576 < n
  · clear h h'
    go_enter Tryz.func7, Tryz.ntmps7
    go_wp2
    go_ret
    exact ⟨rfl, Below.refl _ _⟩
  by_cases hbig' : 1048576 < n'
  · clear h h'
    go_enter Tryz.func7, Tryz.ntmps7
    go_wp2
    go_ret
    exact ⟨rfl, Below.refl _ _⟩
  have HE := eltMk
  have HD := Lib.hid (drawLayerDiff_c w a n c h)
  clear h h'
  go_enter Tryz.func7, Tryz.ntmps7
  go_wp2_with fail
  refine HD.out.mono ?_; rintro e W1 ⟨a1, c1, xs, a2, c2, ys, rfl, hR, htk, hR2, hz2, hy, hb⟩
  have hx : xs.length ≤ 16 := by have := htk.most; rw [List.length_map] at this; exact this
  have HTK := Lib.hid htk
  have HZ := Lib.hid (tok_small htk)
  have HZ2 := Lib.hid hz2
  have hcn := hR.cap
  have hcn2 := hR2.cap
  obtain ⟨n1, hn1⟩ : ∃ m, xs.length = m := ⟨_, rfl⟩
  obtain ⟨n2, hn2⟩ : ∃ m, ys.length = m := ⟨_, rfl⟩
  rw [hn1] at hx hcn ⊢
  rw [hn2] at hy hcn2 ⊢
  have HN1 := Lib.hid hn1
  have HN2 := Lib.hid hn2
  obtain ⟨L, hL⟩ : ∃ L, tdiffL (xs.map En.pl) (ys.map En.pl) = L := ⟨_, rfl⟩
  have HL := Lib.hid hL
  have HDI := Lib.hid (fun W (h : SlF En.cells W a1 xs) (h' : SlF En.cells W a2 ys) => diffI_c a1 a2 c1 c2 n1 n2 xs ys L (Lib.hid hL) W HN1.out HN2.out h h' (by omega) (by omega) HZ.out HZ2.out)
  have HDS := Lib.hid (fun W (h : ReadEn W a1 c1 xs) (h' : ReadEn W a2 c2 ys) => diffS_c a1 a2 c1 c2 n1 n2 xs ys L (Lib.hid hL) W HN1.out HN2.out h h' (by omega) (by omega) HZ.out HZ2.out)
  have HOA := Lib.hid (fun W (h : SlF En.cells W a1 xs) => okS_c a1 c1 n1 xs true (Lib.hid ⟨fun _ => HTK.out, fun _ => rfl⟩) W HN1.out h hcn (by omega) HZ.out)
  obtain ⟨r2, hr2⟩ := tok_dec ys
  have HR2 := Lib.hid hr2
  have HOB := Lib.hid (fun W (h : SlF En.cells W a2 ys) => okS_c a2 c2 n2 ys r2 (Lib.hid hr2) W HN2.out h hcn2 (by omega) HZ2.out)
  clear hn1 hn2 hz2 htk HD hL hr2
  go_wp2_with fail
  refine (HDI.out _ hR.sl hR2.sl).mono ?_; rintro e W2 ⟨a3, c3, ms, rfl, hms, hov, hq⟩; replace hb := chn hb hq; replace hR := hR.below hq; replace hR2 := hR2.below hq; clear hq HDI
  have hsl : SlF Mk.cells W2 a3 ms := own_slf (fun _ => rfl) hov
  have hcap := own_cap hov
  have hml : ms.length ≤ 200 := by
    have h1 := congrArg List.length (hms.trans HL.out.symm)
    have h2 := tdiff_len (xs.map En.pl) (ys.map En.pl)
    rw [List.length_map] at h1
    omega
  have HMS := Lib.hid hms
  have HSMM := Lib.hid (fun a4 c4 W (h : SlF Mk.cells W a3 ms) (h' : SlF Mk.cells W a4 ms) => sameM_c a3 a4 c3 c4 ms.length ms.length ms ms true (Lib.hid ⟨fun _ => rfl, fun _ => rfl⟩) W rfl rfl h h' (by omega) (by omega))
  obtain ⟨n3, hn3⟩ : ∃ m, ms.length = m := ⟨_, rfl⟩
  have HN3 := Lib.hid hn3
  rw [hn3] at hml hcap HSMM ⊢
  clear hms hov hn3
  go_wp2_with fail
  refine (HDS.out _ hR hR2).mono ?_; rintro e W3 ⟨a4, c4, ms4, rfl, hms4, hov4, hq⟩; replace hb := chn hb hq; replace hR := hR.below hq; replace hR2 := hR2.below hq; replace hsl := hsl.below hq; clear hq
  obtain rfl : ms4 = ms := map_inj_ Mk.pl_inj (hms4.trans HMS.out.symm)
  have hsl4 : SlF Mk.cells W3 a4 ms4 := own_slf (fun _ => rfl) hov4
  rw [HN3.out]
  clear hms4 hov4
  go_wp2_with fail
  refine (HSMM.out a4 c4 _ hsl hsl4).mono ?_; rintro e W4 ⟨rfl, hq⟩; replace hb := chn hb hq; replace hR := hR.below hq; replace hR2 := hR2.below hq; replace hsl := hsl.below hq; clear hq hsl4
  by_cases h0 : n3 = 0
  · have h0' : ((n3 : Int) == 0) = true := by rw [beq_iff_eq]; omega
    clear h0
    go_wp2_with fail
    refine (HDS.out _ hR hR2).mono ?_; rintro e W5 ⟨a5, c5, ms5, rfl, hms5, hov5, hq⟩; replace hb := chn hb hq; replace hsl := hsl.below hq; clear hq
    obtain rfl : ms5 = ms4 := map_inj_ Mk.pl_inj (hms5.trans HMS.out.symm)
    have hsl5 : SlF Mk.cells W5 a5 ms5 := own_slf (fun _ => rfl) hov5
    rw [HN3.out]
    clear hms5 hov5
    go_wp2_with fail
    refine (HSMM.out a5 c5 _ hsl hsl5).mono ?_; rintro e W6 ⟨rfl, hq⟩; replace hb := chn hb hq; clear hq
    go_wp2
    go_ret
    exact ⟨rfl, hb⟩
  have h0' : ((n3 : Int) == 0) = false := by rw [beq_eq_false_iff_ne]; omega
  have hpos : 0 < n3 := Nat.pos_of_ne_zero h0
  obtain ⟨htk2, hmd⟩ : TOk (ys.map En.pl) ∧ ms4.map Mk.pl = diffL (xs.map En.pl) (ys.map En.pl) := by
    by_cases ht : TOk (xs.map En.pl) ∧ TOk (ys.map En.pl)
    · exact ⟨ht.2, by rw [HMS.out, ← HL.out, tdiff_ok ht.1 ht.2]⟩
    · have h1 := HMS.out
      rw [← HL.out, tdiff_bad ht, List.map_eq_nil_iff] at h1
      rw [h1] at HN3
      exact absurd HN3.out.symm h0
  obtain ⟨k, hk⟩ : ∃ k, n' % n3 = k := ⟨_, rfl⟩
  have hkl : k < n3 := by rw [← hk]; exact Nat.mod_lt _ hpos
  have hkm : Int.tmod (n' : Int) (n3 : Int) = (k : Int) := by rw [Int.tmod_eq_emod_of_nonneg (by omega), ← hk]; rfl
  obtain ⟨mk, hmk⟩ : ∃ e, ms4[k]? = some e := ⟨_, List.getElem?_eq_getElem (by rw [HN3.out]; exact hkl)⟩
  have hmkp : (ms4.map Mk.pl)[k]? = some mk.pl := by rw [List.getElem?_map, hmk]; rfl
  have hmem : mk.pl ∈ diffL (xs.map En.pl) (ys.map En.pl) := by rw [← hmd]; exact List.mem_of_getElem? hmkp
  have hlk : LOk (ms4.map Mk.pl) := by rw [hmd]; exact diff_lok HTK.out htk2
  have HSMA := Lib.hid (lok_small hlk)
  have HAB : Hid (∀ e ∈ ms4, underL e.p.data.toList mk.p.data.toList = true → mk.k = 2) := fun e he hu => diff_above HTK.out htk2 hmem (by rw [← hmd]; exact List.mem_map_of_mem he) hu
  have HLS : Hid ((∀ e ∈ ms4, underL e.p.data.toList mk.p.data.toList = false) → onL ((ms4.take k ++ ms4.drop (k + 1)).map Mk.pl) (xs.map En.pl) ≠ ys.map En.pl) := fun hno => by
    obtain ⟨h1, h2⟩ := less_mem hlk.ord hmkp
    rw [List.map_append, List.map_take, List.map_drop]
    refine diff_less HTK.out htk2 hmem (fun n hn => ?_) h1 (fun n => by rw [← hmd]; exact h2 n)
    rw [← hmd] at hn
    obtain ⟨e, he, rfl⟩ := List.mem_map.1 hn
    exact hno e he
  have HMK := Lib.hid hmk
  obtain ⟨b, off, rfl, _⟩ := hsl.addr (by rw [HN3.out]; exact hpos)
  have HB0 := Lib.hid hb
  have HR0 := Lib.hid hR
  have HR1 := Lib.hid hR2
  have HSL := Lib.hid hsl
  have hkmp := hkm
  clear hk hmkp hmem hlk hmk hb hR hR2 hsl HDS HSMM HOA HOB HR2 h0
  go_wp2
  go_loopw [9] (fun i wr => ∃ j : Nat, j ≤ n3 ∧ i = .int .i64 j ∧ (∀ (q : Nat) (e : Mk), q < j → ms4[q]? = some e → underL e.p.data.toList mk.p.data.toList = false) ∧ Below W4.heap.size W4 wr) (fun i _ => n3 - (intOf i).toNat)
  case atStart => exact ⟨0, Nat.zero_le _, rfl, fun q _ h => absurd h (by omega), Below.refl _ _⟩
  case round =>
    obtain ⟨j, hj, rfl, hno, hb⟩ := hrel
    have HNO := Lib.hid hno
    clear hno
    have hsw := HSL.out.below hb
    obtain ⟨g0, g1, g2⟩ := mk_at hsw k mk HMK.out
    have i2 : (0 : Int) ≤ (k : Int) := by omega
    have i3 : (k : Int) < (n3 : Int) := by omega
    have hms := (HSMA.out mk (List.mem_of_getElem? HMK.out)).1
    by_cases hlt : j < n3
    · obtain ⟨e, hee⟩ : ∃ e, ms4[j]? = some e := ⟨_, List.getElem?_eq_getElem (by rw [HN3.out]; exact hlt)⟩
      obtain ⟨d0, _, _⟩ := mk_at hsw j e hee
      have hem := List.mem_of_getElem? hee
      have hes := (HSMA.out e hem).1
      have i0 : (0 : Int) ≤ (j : Int) := by omega
      have i1 : (j : Int) < (n3 : Int) := by omega
      obtain ⟨u, hu⟩ : ∃ u, underL e.p.data.toList mk.p.data.toList = u := ⟨_, rfl⟩
      have HU := Lib.hid hu
      have HEE := Lib.hid hee
      have HUA : Hid (u = true → mk.k = 2) := fun h => HAB.out e hem (hu.trans h)
      clear hee hem hu
      go_wp2_with fail
      refine wp_region_held_drew (S := fun w' => Below _ _ w') (by kernel_rfl) (below_drew _) (fun hHeld => ?_)
      refine tk (i := 0) (d := (some 56)) (v := ?_) rfl rfl (by kernel_rfl) (by kernel_rfl) (by kernel_rfl) (fun _ _ _ h => h) (Or.inl ⟨by rfl, ?_⟩) hHeld ?_
      rotate_left
      · intro w hSw; have zd0 := keepc hSw d0; have zg0 := keepc hSw g0; clear hSw; go_simp <;> with_reducible rfl
      (try simp only [Act.put, List.setIfInBounds_toArray, List.set_cons_zero, List.set_cons_succ])
      refine tk (i := 1) (d := (some 57)) (v := ?_) rfl rfl (by kernel_rfl) (by kernel_rfl) (by kernel_rfl) (fun _ _ _ h => h) (Or.inl ⟨by rfl, ?_⟩) hHeld ?_
      rotate_left
      · intro w hSw; have zd0 := keepc hSw d0; have zg0 := keepc hSw g0; clear hSw; go_simp <;> with_reducible rfl
      (try simp only [Act.put, List.setIfInBounds_toArray, List.set_cons_zero, List.set_cons_succ])
      refine tk (i := 2) (d := (some 58)) (v := ?_) rfl rfl (by kernel_rfl) (by kernel_rfl) (by kernel_rfl) (fun _ _ _ h => h) (Or.inl ⟨by rfl, ?_⟩) hHeld ?_
      rotate_left
      · intro w hSw; have zd0 := keepc hSw d0; have zg0 := keepc hSw g0; clear hSw; go_simp <;> with_reducible rfl
      (try simp only [Act.put, List.setIfInBounds_toArray, List.set_cons_zero, List.set_cons_succ])
      refine tk (i := 3) (d := (some 59)) (v := ?_) rfl rfl (by kernel_rfl) (by kernel_rfl) (by kernel_rfl) (fun _ _ _ h => h) (Or.inl ⟨by rfl, ?_⟩) hHeld ?_
      rotate_left
      · intro w hSw; have zd0 := keepc hSw d0; have zg0 := keepc hSw g0; clear hSw; go_simp <;> with_reducible rfl
      (try simp only [Act.put, List.setIfInBounds_toArray, List.set_cons_zero, List.set_cons_succ])
      refine tk (i := 4) (d := (some 60)) (v := ?_) rfl rfl (by kernel_rfl) (by kernel_rfl) (by kernel_rfl) (fun _ _ _ h => h) (Or.inl ⟨by rfl, ?_⟩) hHeld ?_
      rotate_left
      · intro w hSw; have zd0 := keepc hSw d0; have zg0 := keepc hSw g0; clear hSw; go_simp <;> with_reducible rfl
      (try simp only [Act.put, List.setIfInBounds_toArray, List.set_cons_zero, List.set_cons_succ])
      refine tk (i := 5) (d := (some 61)) (v := ?_) rfl rfl (by kernel_rfl) (by kernel_rfl) (by kernel_rfl) (fun _ _ _ h => h) (Or.inl ⟨by rfl, ?_⟩) hHeld ?_
      rotate_left
      · intro w hSw; have zd0 := keepc hSw d0; have zg0 := keepc hSw g0; clear hSw; go_simp <;> with_reducible rfl
      (try simp only [Act.put, List.setIfInBounds_toArray, List.set_cons_zero, List.set_cons_succ])
      refine tk (i := 6) (d := (some 62)) (v := ?_) rfl rfl (by kernel_rfl) (by kernel_rfl) (by kernel_rfl) (fun _ _ _ h => h) (Or.inl ⟨by rfl, ?_⟩) hHeld ?_
      rotate_left
      · intro w hSw; have zd0 := keepc hSw d0; have zg0 := keepc hSw g0; clear hSw; go_simp <;> with_reducible rfl
      (try simp only [Act.put, List.setIfInBounds_toArray, List.set_cons_zero, List.set_cons_succ])
      refine tk (i := 7) (d := (some 63)) (v := ?_) rfl rfl (by kernel_rfl) (by kernel_rfl) (by kernel_rfl) (fun _ _ _ h => h) (Or.inl ⟨by rfl, ?_⟩) hHeld ?_
      rotate_left
      · intro w hSw; have zd0 := keepc hSw d0; have zg0 := keepc hSw g0; clear hSw; go_simp <;> with_reducible rfl
      (try simp only [Act.put, List.setIfInBounds_toArray, List.set_cons_zero, List.set_cons_succ])
      refine tk (i := 8) (d := (some 64)) (v := ?_) rfl rfl (by kernel_rfl) (by kernel_rfl) (by kernel_rfl) (fun _ _ _ h => h) (Or.inl ⟨by rfl, ?_⟩) hHeld ?_
      rotate_left
      · intro w hSw; have zd0 := keepc hSw d0; have zg0 := keepc hSw g0; clear hSw; go_simp <;> with_reducible rfl
      (try simp only [Act.put, List.setIfInBounds_toArray, List.set_cons_zero, List.set_cons_succ])
      refine tk (i := 9) (d := (some 65)) (v := ?_) rfl rfl (by kernel_rfl) (by kernel_rfl) (by kernel_rfl) (fun _ _ _ h => h) (Or.inl ⟨by rfl, ?_⟩) hHeld ?_
      rotate_left
      · intro w hSw; have zd0 := keepc hSw d0; have zg0 := keepc hSw g0; clear hSw; go_simp <;> with_reducible rfl
      (try simp only [Act.put, List.setIfInBounds_toArray, List.set_cons_zero, List.set_cons_succ])
      refine wpAnyH_ready (rs := [10]) (by kernel_rfl) (by simp) ?_
      refine AllReadyH.cons rfl (fun K hK => ?_) AllReadyH.nil
      go_simp
      refine (pathUnder_c e.p mk.p u HU _ (by omega) (by omega)).mono ?_; rintro e W ⟨rfl, hq⟩
      go_simp
      refine hK.out _ _ (chn hHeld hq) (fun h => ?_)
      clear hK K; replace hHeld := h; clear h hq
      (try simp only [Act.put, List.setIfInBounds_toArray, List.set_cons_zero, List.set_cons_succ])
      refine wpAnyH_done (by kernel_rfl) ?_ _
      replace hb := chn hb hHeld; replace g1 := keepc hHeld g1; clear hHeld
      cases u with
      | true =>
        have hk2 : (mk.k == 2) = true := by rw [beq_iff_eq]; exact HUA.out (by trivial)
        have hbX := chn HB0.out hb
        clear HUA HAB HLS
        go_wp2
        go_ret
        exact ⟨rfl, by first | exact hbX | exact drw hbX _⟩
      | false =>
        clear HUA
        go_wp2
        go_roundw
        case rel => exact ⟨j + 1, by omega, by go_num, fun q f hq hf => by
          by_cases ej : q = j
          · subst ej; rw [HEE.out] at hf; injection hf with hf; rw [← hf]; exact HU.out
          · exact HNO.out q f (by omega) hf, by first | exact hb | exact drw hb _⟩
        case measure => simp [intOf]; omega
    · obtain rfl : j = n3 := by omega
      have hno : ∀ e ∈ ms4, underL e.p.data.toList mk.p.data.toList = false := fun e he => by
        obtain ⟨q, hq⟩ := List.getElem?_of_mem he
        exact HNO.out q e (by have := (List.getElem?_eq_some_iff.1 hq).1; rw [HN3.out] at this; exact this) hq
      have HLS2 := Lib.hid (HLS.out hno)
      have hbX := chn HB0.out hb
      have hRR := HR0.out.below hb
      have hRY := HR1.out.below hb
      have HTL : Hid ((ms4.take k).length = k) := by rw [Hid, List.length_take, HN3.out]; omega
      have HDL : Hid ((ms4.drop (k + 1)).length = j - (k + 1)) := by rw [Hid, List.length_drop, HN3.out]
      have HLL : Hid ((ms4.take k ++ ms4.drop (k + 1)).length = j - 1) := by rw [Hid, List.length_append, HTL.out, HDL.out]; omega
      have HSLs : Hid (SmallM (ms4.take k ++ ms4.drop (k + 1))) := fun e he => HSMA.out e ((List.mem_append.1 he).elim (fun h => List.mem_of_mem_take h) (fun h => List.mem_of_mem_drop h))
      have i4 : (k : Int) ≤ (c3 : Int) := by omega
      have i5 : ((k : Int) + 1) ≤ (j : Int) := by omega
      have i6 : (j : Int) ≤ (c3 : Int) := by omega
      have i7 : ((k : Int) + 1) ≤ (c3 : Int) := by omega
      obtain ⟨bl, hbl⟩ : ∃ bl, lonB ((ms4.take k ++ ms4.drop (k + 1)).map Mk.pl) (xs.map En.pl) = bl := ⟨_, rfl⟩
      obtain ⟨Ll, hLl⟩ : ∃ Ll, lonL ((ms4.take k ++ ms4.drop (k + 1)).map Mk.pl) (xs.map En.pl) = Ll := ⟨_, rfl⟩
      have HON := Lib.hid (fun a5 c5 W (h : SlF Mk.cells W a5 (ms4.take k ++ ms4.drop (k + 1))) (h' : SlF En.cells W a1 xs) => onI_c a5 a1 c5 c1 (j - 1) n1 _ xs Ll bl (Lib.hid hbl) (Lib.hid hLl) W HLL.out HN1.out h h' (by omega) (by omega) HSLs.out HZ.out)
      have HNE : Hid (bl = true → Ll ≠ ys.map En.pl ∧ Ll.length ≤ 16) := fun h => by
        have h1 := lon_true (hbl.trans h)
        rw [← hLl, h1.2.2.2.1]; exact ⟨HLS2.out, h1.2.2.1⟩
      have HTS := Lib.hid (slf_take hsw k)
      have HDP := Lib.hid (slf_drop hsw (k + 1))
      clear hno HNO HLS HAB g0 g1 g2 hbl hLl HLS2 HMK hms hb hsw
      have hw1 : IntKind.i64.wrap ((k : Int) + 1) = (k : Int) + 1 := IntWalk.i64_in _ (by omega)
      have hw2 : ((k : Int) + 1).toNat = k + 1 := by omega
      have i10 : (0 : Int) ≤ (k : Int) + 1 := by omega
      by_cases hck : c3 = k + 1
      · have HDX : Hid (SlF Mk.cells wr (some ⟨b, off, none⟩) (ms4.drop (k + 1))) := fun h => absurd h (by rw [HDL.out]; omega)
        obtain rfl : j = k + 1 := by omega
        subst hck
        have i9 : (k : Int) ≤ (k : Int) + 1 := by omega
        have HDL0 : Hid ((ms4.drop (k + 1)).length = 0) := HDL.out.trans (Nat.sub_self _)
        go_wp2_with fail
        refine wp_region_held_drew (S := fun w' => Below _ _ w') (by kernel_rfl) (below_drew _) (fun hHeld => ?_)
        refine tk (i := 1) (d := (some 74)) (v := ?_) rfl rfl (by kernel_rfl) (by kernel_rfl) (by kernel_rfl) (fun _ _ _ h => h) (Or.inl ⟨by rfl, ?_⟩) hHeld ?_
        rotate_left
        · intro w hSw; clear hSw; go_simp <;> with_reducible rfl
        (try simp only [Act.put, List.setIfInBounds_toArray, List.set_cons_zero, List.set_cons_succ])
        refine tk (i := 2) (d := (some 75)) (v := ?_) rfl rfl (by kernel_rfl) (by kernel_rfl) (by kernel_rfl) (fun _ _ _ h => h) (Or.inl ⟨by rfl, ?_⟩) hHeld ?_
        rotate_left
        · intro w hSw; clear hSw; go_simp <;> with_reducible rfl
        (try simp only [Act.put, List.setIfInBounds_toArray, List.set_cons_zero, List.set_cons_succ])
        refine tk (i := 3) (d := (some 76)) (v := ?_) rfl rfl (by kernel_rfl) (by kernel_rfl) (by kernel_rfl) (fun _ _ _ h => h) (Or.inl ⟨by rfl, ?_⟩) hHeld ?_
        rotate_left
        · intro w hSw; clear hSw; go_simp <;> with_reducible rfl
        (try simp only [Act.put, List.setIfInBounds_toArray, List.set_cons_zero, List.set_cons_succ])
        refine tk (i := 5) (d := (some 78)) (v := ?_) rfl rfl (by kernel_rfl) (by kernel_rfl) (by kernel_rfl) (fun _ _ _ h => h) (Or.inl ⟨by rfl, ?_⟩) hHeld ?_
        rotate_left
        · intro w hSw; clear hSw; go_simp <;> with_reducible rfl
        (try simp only [Act.put, List.setIfInBounds_toArray, List.set_cons_zero, List.set_cons_succ])
        refine tk (i := 6) (d := (some 79)) (v := ?_) rfl rfl (by kernel_rfl) (by kernel_rfl) (by kernel_rfl) (fun _ _ _ h => h) (Or.inl ⟨by rfl, ?_⟩) hHeld ?_
        rotate_left
        · intro w hSw; clear hSw; go_simp <;> with_reducible rfl
        (try simp only [Act.put, List.setIfInBounds_toArray, List.set_cons_zero, List.set_cons_succ])
        refine tk (i := 7) (d := (some 80)) (v := ?_) rfl rfl (by kernel_rfl) (by kernel_rfl) (by kernel_rfl) (fun _ _ _ h => h) (Or.inl ⟨by rfl, ?_⟩) hHeld ?_
        rotate_left
        · intro w hSw; clear hSw; go_simp <;> with_reducible rfl
        (try simp only [Act.put, List.setIfInBounds_toArray, List.set_cons_zero, List.set_cons_succ])
        refine tk (i := 8) (d := (some 81)) (v := ?_) rfl rfl (by kernel_rfl) (by kernel_rfl) (by kernel_rfl) (fun _ _ _ h => h) (Or.inl ⟨by rfl, ?_⟩) hHeld ?_
        rotate_left
        · intro w hSw; clear hSw; go_simp <;> with_reducible rfl
        (try simp only [Act.put, List.setIfInBounds_toArray, List.set_cons_zero, List.set_cons_succ])
        refine wpAnyH_ready (rs := [0]) (by kernel_rfl) (by simp) ?_
        refine AllReadyH.cons rfl (fun K hK => ?_) AllReadyH.nil
        go_simp
        refine hK.out _ _ (chn (bellow_alloc wr _) (below_drew _)) (fun h => ?_)
        clear hK K; replace hHeld := h; clear h
        (try simp only [Act.put, List.setIfInBounds_toArray, List.set_cons_zero, List.set_cons_succ])
        refine wpAnyH_ready (rs := [4]) (by kernel_rfl) (by simp) ?_
        refine AllReadyH.cons rfl (fun K hK => ?_) AllReadyH.nil
        rw [if_pos (by kernel_rfl)]
        refine op_appN _ _ 32 (by rfl) HE wr.heap.size wr.heap.size wr _ _ 0 [] (by rfl) Mk.cells (fun _ => rfl) mk_one (ms4.take k) b off k _ HTL.out (by rfl) (HTS.out.below hHeld) (own_below (World.ownsRow_lit wr #[] 0 (Nat.le_refl _) (Nat.zero_le _) rfl) (below_drew _)) (by rw [HTL.out]; omega) hHeld.size hHeld (Nat.le_refl _) ?_; intro v2 w2 hown2 hbel2
        refine hK.out _ _ (hbel2) (fun h => ?_)
        clear hK K; replace hHeld := h; clear h
        (try simp only [Act.put, List.setIfInBounds_toArray])
        refine wpAnyH_ready (rs := [9]) (by kernel_rfl) (by simp) ?_
        refine AllReadyH.cons rfl (fun K hK => ?_) AllReadyH.nil
        rw [if_pos (by kernel_rfl)]
        refine op_appN _ _ 32 (by rfl) HE wr.heap.size wr.heap.size wr w2 v2 _ _ (by rfl) Mk.cells (fun _ => rfl) mk_one (ms4.drop (k + 1)) b off _ _ HDL0.out (by rfl) (HDX.out.below hHeld) hown2 (by rw [HTL.out, HDL.out]; omega) hHeld.size hHeld (Nat.le_refl _) ?_; intro v3 w3 hown3 hbel3
        refine hK.out _ _ (hbel3) (fun h => ?_)
        clear hK K; replace hHeld := h; clear h
        (try simp only [Act.put])
        obtain ⟨a5, c5, rfl, hslx⟩ := row_of (N := _) (fun _ => rfl) hown3 (by rw [HTL.out, HDL.out]; omega) HLL.out
        refine tk (i := 10) (d := (some 10)) (v := ?_) rfl rfl (by kernel_rfl) (by kernel_rfl) (by kernel_rfl) (fun _ _ _ h => h) (Or.inl ⟨by rfl, ?_⟩) hHeld ?_
        rotate_left
        · intro w hSw; clear hSw; go_simp <;> with_reducible rfl
        (try simp only [Act.put])
        refine wpAnyH_done (by kernel_rfl) ?_ _
        replace hbX := chn hbX hHeld; replace hRR := hRR.below hHeld; replace hRY := hRY.below hHeld
        clear hHeld hown2 hbel2 hown3 hbel3
        go_wp2_with fail
        refine (HON.out a5 c5 _ hslx hRR.sl).mono ?_; rintro e V1 ⟨a6, c6, zs, rfl, hzs, ho6, hq⟩; replace hbX := chn hbX hq; replace hRY := hRY.below hq; clear hq hRR hslx
        have hsl6 : SlF En.cells V1 a6 zs := own_slf (fun _ => rfl) ho6
        cases bl with
        | false =>
          go_wp2
          go_ret
          exact ⟨rfl, hbX⟩
        | true =>
          obtain ⟨hne, hle⟩ := HNE.out (by trivial)
          rw [← hzs] at hne hle
          rw [List.length_map] at hle
          obtain ⟨n5, hn5⟩ : ∃ m, zs.length = m := ⟨_, rfl⟩
          have HSX := Lib.hid (fun W (h : SlF En.cells W a6 zs) (h' : SlF En.cells W a2 ys) => sameR_c a6 a2 c6 c2 n5 n2 zs ys false (Lib.hid ⟨fun h => (by cases h), fun h => absurd (by rw [h]) hne⟩) W hn5 HN2.out h h' (by omega) (by omega))
          rw [hn5]
          clear hne hle hzs ho6 hn5
          go_wp2_with fail
          refine (HSX.out _ hsl6 hRY.sl).mono ?_; rintro e V2 ⟨rfl, hq⟩; replace hbX := chn hbX hq; clear hq HSX
          go_wp2
          go_ret
          exact ⟨rfl, hbX⟩
      · have HDX := HDP
        have i8 : (k : Int) + 1 < (c3 : Int) := by omega
        go_wp2_with fail
        refine wp_region_held_drew (S := fun w' => Below _ _ w') (by kernel_rfl) (below_drew _) (fun hHeld => ?_)
        refine tk (i := 1) (d := (some 74)) (v := ?_) rfl rfl (by kernel_rfl) (by kernel_rfl) (by kernel_rfl) (fun _ _ _ h => h) (Or.inl ⟨by rfl, ?_⟩) hHeld ?_
        rotate_left
        · intro w hSw; clear hSw; go_simp <;> with_reducible rfl
        (try simp only [Act.put, List.setIfInBounds_toArray, List.set_cons_zero, List.set_cons_succ])
        refine tk (i := 2) (d := (some 75)) (v := ?_) rfl rfl (by kernel_rfl) (by kernel_rfl) (by kernel_rfl) (fun _ _ _ h => h) (Or.inl ⟨by rfl, ?_⟩) hHeld ?_
        rotate_left
        · intro w hSw; clear hSw; go_simp <;> with_reducible rfl
        (try simp only [Act.put, List.setIfInBounds_toArray, List.set_cons_zero, List.set_cons_succ])
        refine tk (i := 3) (d := (some 76)) (v := ?_) rfl rfl (by kernel_rfl) (by kernel_rfl) (by kernel_rfl) (fun _ _ _ h => h) (Or.inl ⟨by rfl, ?_⟩) hHeld ?_
        rotate_left
        · intro w hSw; clear hSw; go_simp <;> with_reducible rfl
        (try simp only [Act.put, List.setIfInBounds_toArray, List.set_cons_zero, List.set_cons_succ])
        refine tk (i := 5) (d := (some 78)) (v := ?_) rfl rfl (by kernel_rfl) (by kernel_rfl) (by kernel_rfl) (fun _ _ _ h => h) (Or.inl ⟨by rfl, ?_⟩) hHeld ?_
        rotate_left
        · intro w hSw; clear hSw; go_simp <;> with_reducible rfl
        (try simp only [Act.put, List.setIfInBounds_toArray, List.set_cons_zero, List.set_cons_succ])
        refine tk (i := 6) (d := (some 79)) (v := ?_) rfl rfl (by kernel_rfl) (by kernel_rfl) (by kernel_rfl) (fun _ _ _ h => h) (Or.inl ⟨by rfl, ?_⟩) hHeld ?_
        rotate_left
        · intro w hSw; clear hSw; go_simp <;> with_reducible rfl
        (try simp only [Act.put, List.setIfInBounds_toArray, List.set_cons_zero, List.set_cons_succ])
        refine tk (i := 7) (d := (some 80)) (v := ?_) rfl rfl (by kernel_rfl) (by kernel_rfl) (by kernel_rfl) (fun _ _ _ h => h) (Or.inl ⟨by rfl, ?_⟩) hHeld ?_
        rotate_left
        · intro w hSw; clear hSw; go_simp <;> with_reducible rfl
        (try simp only [Act.put, List.setIfInBounds_toArray, List.set_cons_zero, List.set_cons_succ])
        refine tk (i := 8) (d := (some 81)) (v := ?_) rfl rfl (by kernel_rfl) (by kernel_rfl) (by kernel_rfl) (fun _ _ _ h => h) (Or.inl ⟨by rfl, ?_⟩) hHeld ?_
        rotate_left
        · intro w hSw; clear hSw; go_simp <;> with_reducible rfl
        (try simp only [Act.put, List.setIfInBounds_toArray, List.set_cons_zero, List.set_cons_succ])
        refine wpAnyH_ready (rs := [0]) (by kernel_rfl) (by simp) ?_
        refine AllReadyH.cons rfl (fun K hK => ?_) AllReadyH.nil
        go_simp
        refine hK.out _ _ (chn (bellow_alloc wr _) (below_drew _)) (fun h => ?_)
        clear hK K; replace hHeld := h; clear h
        (try simp only [Act.put, List.setIfInBounds_toArray, List.set_cons_zero, List.set_cons_succ])
        refine wpAnyH_ready (rs := [4]) (by kernel_rfl) (by simp) ?_
        refine AllReadyH.cons rfl (fun K hK => ?_) AllReadyH.nil
        rw [if_pos (by kernel_rfl)]
        refine op_appN _ _ 32 (by rfl) HE wr.heap.size wr.heap.size wr _ _ 0 [] (by rfl) Mk.cells (fun _ => rfl) mk_one (ms4.take k) b off k _ HTL.out (by rfl) (HTS.out.below hHeld) (own_below (World.ownsRow_lit wr #[] 0 (Nat.le_refl _) (Nat.zero_le _) rfl) (below_drew _)) (by rw [HTL.out]; omega) hHeld.size hHeld (Nat.le_refl _) ?_; intro v2 w2 hown2 hbel2
        refine hK.out _ _ (hbel2) (fun h => ?_)
        clear hK K; replace hHeld := h; clear h
        (try simp only [Act.put, List.setIfInBounds_toArray])
        refine wpAnyH_ready (rs := [9]) (by kernel_rfl) (by simp) ?_
        refine AllReadyH.cons rfl (fun K hK => ?_) AllReadyH.nil
        rw [if_pos (by kernel_rfl)]
        refine op_appN _ _ 32 (by rfl) HE wr.heap.size wr.heap.size wr w2 v2 _ _ (by rfl) Mk.cells (fun _ => rfl) mk_one (ms4.drop (k + 1)) b (off + (k + 1) * 3) _ _ HDL.out (by rfl) (HDX.out.below hHeld) hown2 (by rw [HTL.out, HDL.out]; omega) hHeld.size hHeld (Nat.le_refl _) ?_; intro v3 w3 hown3 hbel3
        refine hK.out _ _ (hbel3) (fun h => ?_)
        clear hK K; replace hHeld := h; clear h
        (try simp only [Act.put])
        obtain ⟨a5, c5, rfl, hslx⟩ := row_of (N := _) (fun _ => rfl) hown3 (by rw [HTL.out, HDL.out]; omega) HLL.out
        refine tk (i := 10) (d := (some 10)) (v := ?_) rfl rfl (by kernel_rfl) (by kernel_rfl) (by kernel_rfl) (fun _ _ _ h => h) (Or.inl ⟨by rfl, ?_⟩) hHeld ?_
        rotate_left
        · intro w hSw; clear hSw; go_simp <;> with_reducible rfl
        (try simp only [Act.put])
        refine wpAnyH_done (by kernel_rfl) ?_ _
        replace hbX := chn hbX hHeld; replace hRR := hRR.below hHeld; replace hRY := hRY.below hHeld
        clear hHeld hown2 hbel2 hown3 hbel3
        go_wp2_with fail
        refine (HON.out a5 c5 _ hslx hRR.sl).mono ?_; rintro e V1 ⟨a6, c6, zs, rfl, hzs, ho6, hq⟩; replace hbX := chn hbX hq; replace hRY := hRY.below hq; clear hq hRR hslx
        have hsl6 : SlF En.cells V1 a6 zs := own_slf (fun _ => rfl) ho6
        cases bl with
        | false =>
          go_wp2
          go_ret
          exact ⟨rfl, hbX⟩
        | true =>
          obtain ⟨hne, hle⟩ := HNE.out (by trivial)
          rw [← hzs] at hne hle
          rw [List.length_map] at hle
          obtain ⟨n5, hn5⟩ : ∃ m, zs.length = m := ⟨_, rfl⟩
          have HSX := Lib.hid (fun W (h : SlF En.cells W a6 zs) (h' : SlF En.cells W a2 ys) => sameR_c a6 a2 c6 c2 n5 n2 zs ys false (Lib.hid ⟨fun h => (by cases h), fun h => absurd (by rw [h]) hne⟩) W hn5 HN2.out h h' (by omega) (by omega))
          rw [hn5]
          clear hne hle hzs ho6 hn5
          go_wp2_with fail
          refine (HSX.out _ hsl6 hRY.sl).mono ?_; rintro e V2 ⟨rfl, hq⟩; replace hbX := chn hbX hq; clear hq HSX
          go_wp2
          go_ret
          exact ⟨rfl, hbX⟩
end Go.Proofs.YtdhbdcmnbhjjaaaGreatDoor
