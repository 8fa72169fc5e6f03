/- What draws a tree and what is done to it: the walk of DrawTreeDo. The walks of the laws of what is done to trees: FnTreePut, FnTreeMany. The walk of the law that what is done can be undone: FnTreeBack. Conditions: each theorem's own. -/
import Derived.Test.YtakbngafhogcbaaGreatDoorB5
namespace Go.Proofs.YtakbngafhogcbaaGreatDoor
open Go.RowKit
/-- A tree and what is done to it, drawn. -/
def TreeOpPost (w : World) (e : Ending) (w' : World) : Prop :=
  ∃ (a : Option Addr) (c : Nat) (xs : List En) (k : Int) (P T D : ByteArray), e = .returned (.tuple #[.slice a xs.length c, opV k P T D]) ∧ ReadEn w' a c xs ∧ Small xs ∧ xs.length ≤ 20 ∧ P.size ≤ 20 ∧ T.size ≤ 20 ∧ D.size ≤ 20 ∧ Below w.heap.size w w'
set_option maxRecDepth 100000 in
set_option maxHeartbeats 4000000 in
theorem drawTreeDo_c (w : World) (a : Option Addr) (n c : Nat) (h : Code w a n c) : Calls Tryz.prog 11 #[.slice a n c] w (TreeOpPost w) := by
  obtain ⟨rb, hrb⟩ : ∃ rb, w.heap.size = rb := ⟨_, rfl⟩
  have hb0 := bellow_alloc w (.cells #[.int .i64 0, .string ⟨#[]⟩, .string ⟨#[]⟩, .string ⟨#[]⟩] 25)
  have hs0 : (w.alloc (.cells #[.int .i64 0, .string ⟨#[]⟩, .string ⟨#[]⟩, .string ⟨#[]⟩] 25)).heap.size = rb + 1 := by rw [← hrb]; simp
  have HBX : Hid (Box4 (w.alloc (.cells #[.int .i64 0, .string ⟨#[]⟩, .string ⟨#[]⟩, .string ⟨#[]⟩] 25)) rb (.int .i64 0) (.string ⟨#[]⟩) (.string ⟨#[]⟩) (.string ⟨#[]⟩)) := by rw [Hid, ← hrb]; exact Box4.new w _ _ _ _ _
  have ho0 := open_c' _ a n c (h.below hb0)
  rw [hs0] at ho0
  have HO := Lib.hid ho0
  have HB0 := Lib.hid hb0
  have HSZ := Lib.hid hs0
  clear h hs0 hb0 ho0
  go_enter Tryz.func11, Tryz.ntmps11
  go_wp2_with fail
  refine HO.out.mono ?_; rintro e w1 ⟨rfl, hrd, hb⟩
  have HX1 := Lib.hid (HBX.out.only (Only.of_below (by rw [HSZ.out]; exact hb) : Only (rb + 1) _ w1) (by omega))
  have HB1 := Lib.hid (HB0.out.trans (hb.mono (by rw [hrb]; omega)))
  have HT := Lib.hid (l2Tree_c w1 (rb + 1) 0 hrd (by omega))
  clear hrd hb HO HBX HB0
  go_wp2_with fail
  refine HT.out.mono ?_; rintro e w2 ⟨a2, c2, ts, p2, rfl, hd2, htok, hp2, hrd2, ho2⟩
  have hts : ts.length ≤ 16 := by have := htok.most; rw [List.length_map] at this; exact this
  have HBT := Lib.hid (l2Bent_c w2 (rb + 1) p2 hrd2 (by omega) a2 c2 ts hd2 (tok_small htok) (by omega))
  have HO2 := Lib.hid ho2
  clear hd2 htok hrd2 ho2 HT
  obtain ⟨n2, hn2⟩ : ∃ n, ts.length = n := ⟨_, rfl⟩
  rw [hn2] at HBT hts ⊢
  clear hn2
  go_wp2_with fail
  refine HBT.out.mono ?_; rintro e w3 ⟨a3, c3, us, p3, rfl, hd3, hsm, hus, hp3, hrd3, ho3⟩
  have HL := Lib.hid (l2Op_c w3 (rb + 1) p3 hrd3 (by omega) a3 c3 us hd3 hsm (by omega))
  have HO3 := Lib.hid (HO2.out.trans ho3)
  have HD3 := Lib.hid hd3
  have HSM := Lib.hid hsm
  clear hd3 hsm hrd3 ho3 HBT HO2
  obtain ⟨n3, hn3⟩ : ∃ n, us.length = n := ⟨_, rfl⟩
  have HN3 := Lib.hid hn3
  rw [hn3] at HL hus ⊢
  clear hn3
  go_wp2_with fail
  refine HL.out.mono ?_; rintro e w4 ⟨k, P, T, D, p4, rfl, hP, hT, hD, _, _, ho4⟩
  have HO4 := HO3.out.trans ho4
  have HX4 := Lib.hid (HX1.out.only HO4 (by omega))
  have hb4 : Below w.heap.size w w4 := HO4.below HB1.out (by omega) HB1.out.size
  have HB8 := Lib.hid ((((hb4.setCell (p := ⟨rb, 0, none⟩) (Nat.le_of_eq hrb) (.int .i64 k)).setCell (p := ⟨rb, 1, none⟩) (Nat.le_of_eq hrb) (.string P)).setCell (p := ⟨rb, 2, none⟩) (Nat.le_of_eq hrb) (.string T)).setCell (p := ⟨rb, 3, none⟩) (Nat.le_of_eq hrb) (.string D))
  have hO8 : Only rb w4 ((((w4.setCell ⟨rb, 0, none⟩ (.int .i64 k)).setCell ⟨rb, 1, none⟩ (.string P)).setCell ⟨rb, 2, none⟩ (.string T)).setCell ⟨rb, 3, none⟩ (.string D)) :=
    ((((Only.refl rb w4).setCell (p := ⟨rb, 0, none⟩) (.inl rfl) _).setCell (p := ⟨rb, 1, none⟩) (.inl rfl) _).setCell (p := ⟨rb, 2, none⟩) (.inl rfl) _).setCell (p := ⟨rb, 3, none⟩) (.inl rfl) _
  have HD4 := HD3.out.only ho4
  have HRE : Hid (ReadEn ((((w4.setCell ⟨rb, 0, none⟩ (.int .i64 k)).setCell ⟨rb, 1, none⟩ (.string P)).setCell ⟨rb, 2, none⟩ (.string T)).setCell ⟨rb, 3, none⟩ (.string D)) a3 c3 us) := by
    obtain ⟨b, off, rfl, h1, h2, h3, h4⟩ := HD4
    exact ⟨b, off, rfl, Nat.lt_of_lt_of_le h2 hO8.size, h3.grown hO8 (fun b' hb' e => by injection hb' with hb'; injection e with e; simp at hb'; omega), h4⟩
  have hR8 := Lib.hid ((((HX4.out.set0 (.int .i64 k)).set1 (.string P)).set2 (.string T)).set3 (.string D))
  obtain ⟨r0, r1, r2, r3, rf⟩ := HX4.out
  have rf0 := rf 0
  have rf1 := rf 1
  have rf2 := rf 2
  have rf3 := rf 3
  clear rf ho4 HO4 HD4 hO8 hb4 HL
  go_wp2
  obtain ⟨q0, q1, q2, q3, _⟩ := hR8.out
  refine bodyPost_ret (v := .tuple #[.slice a3 us.length c3, opV k P T D]) (by simp [results, Tryz.results11, go_sem, q0, q1, q2, q3, HN3.out]) rfl ⟨a3, c3, us, k, P, T, D, rfl, HRE.out, HSM.out, by rw [HN3.out]; omega, hP, hT, hD, HB8.out⟩
end Go.Proofs.YtakbngafhogcbaaGreatDoor
namespace Go.Proofs.YtakbngafhogcbaaGreatDoor
open Go.RowKit
def TrueB (w : World) (e : Ending) (w' : World) : Prop := e = .returned (.bool true) ∧ Below w.heap.size w w'
/-- What is done once more. -/
theorem put_again {t : List PE} {k : Int} {p r x : Bs} (hc : tcode t k p r x = 0) : tcode (tdo t k p r x) k p r x = (if k = 2 then 0 else if k = 1 then 4 else 2) ∧ tdo (tdo t k p r x) k p r x = tdo t k p r x := by
  obtain ⟨h, ho, hcd⟩ := tcode_0 hc
  rw [tdo_do hc]
  have h2 := do_tok h ho hcd (x := x)
  have hp := opOk_p ho
  have key : ∀ m, codeL (doL t k p r x) k p r = m → tcode (doL t k p r x) k p r x = m := fun m hm => by rw [tcode_op h2 ho]; exact hm
  rcases opOk_k ho with rfl | rfl | rfl | rfl | rfl
  · have hx : x = [] := by rw [opOk_1] at ho; simp only [Bool.and_eq_true, beq_iff_eq] at ho; exact ho.2.2
    subst hx
    rw [code_1] at hcd
    have h4 := key 4 (by rw [code_1, doL_1]; exact again_1 h hcd hp)
    exact ⟨h4, tdo_same h2 (by rw [h4]; decide)⟩
  · rw [code_2] at hcd
    have hx : dataOkL x = true := by rw [opOk_2] at ho; simp only [Bool.and_eq_true] at ho; exact ho.2.2
    obtain ⟨h3, h4⟩ := again_2 h hcd hp hx
    have h5 := key 0 (by rw [code_2, doL_2]; exact h3)
    exact ⟨h5, by rw [tdo_do h5, doL_2, doL_2]; exact h4⟩
  · have h4 := key 2 (by rw [code_3, doL_3]; exact (again_off h).1)
    exact ⟨h4, tdo_same h2 (by rw [h4]; decide)⟩
  · have h4 := key 2 (by rw [code_4, doL_4]; exact (again_off h).2)
    exact ⟨h4, tdo_same h2 (by rw [h4]; decide)⟩
  · rw [code_5] at hcd
    have hr : pathOkL r = true := by rw [opOk_5] at ho; simp only [Bool.and_eq_true] at ho; exact ho.2.1
    have h4 := key 2 (by rw [code_5, doL_5]; exact again_5 (mv_of h hp hr hcd))
    exact ⟨h4, tdo_same h2 (by rw [h4]; decide)⟩
/-- How many are there then. -/
theorem many_len {t : List PE} {k : Int} {p r x : Bs} (hc : tcode t k p r x = 0) : (k = 1 → (tdo t k p r x).length = t.length + 1) ∧
    (k = 2 → (tdo t k p r x).length = if (getL t p).isSome = true then t.length else t.length + 1) ∧ (k = 5 → (tdo t k p r x).length = t.length) ∧ (k ≠ 1 → k ≠ 2 → k ≠ 5 → (tdo t k p r x).length + 1 = t.length) := by
  obtain ⟨h, ho, hcd⟩ := tcode_0 hc
  rw [tdo_do hc]
  have hp := opOk_p ho
  refine ⟨?_, ?_, ?_, ?_⟩
  · rintro rfl
    rw [code_1] at hcd
    rw [doL_1, len_putP h.ordP, if_neg]
    rw [← getL_at, (makeC_0 hcd).2.1]; simp
  · rintro rfl
    rw [doL_2, len_putP h.ordP, getL_at]
  · rintro rfl
    rw [code_5] at hcd
    have hr : pathOkL r = true := by rw [opOk_5] at ho; simp only [Bool.and_eq_true] at ho; exact ho.2.1
    rw [doL_5]; exact (mv_of h hp hr hcd).len
  · intro h1 h2 h5
    rcases opOk_k ho with rfl | rfl | rfl | rfl | rfl
    · exact absurd rfl h1
    · exact absurd rfl h2
    · rw [code_3] at hcd
      obtain ⟨e, he, _⟩ := rmC_0 hcd
      obtain ⟨h6, h7⟩ := getL_some he
      rw [doL_3, ← h7]; exact off_len h h6
    · rw [code_4] at hcd
      obtain ⟨e, he, _⟩ := rmdirC_0 hcd
      obtain ⟨h6, h7⟩ := getL_some he
      rw [doL_4, ← h7]; exact off_len h h6
    · exact absurd rfl h5
/-- A slice of entries that may be handed on. -/
def InT (w : World) (a : Option Addr) (c : Nat) (xs : List En) : Prop := SlF En.cells w a xs ∧ Adr a c
theorem InT.below {w w' : World} {a : Option Addr} {c : Nat} {xs : List En} (h : InT w a c xs) (hq : Below w.heap.size w w') : InT w' a c xs := ⟨h.1.below hq, h.2⟩
theorem ReadEn.inT {w : World} {a : Option Addr} {c : Nat} {xs : List En} (h : ReadEn w a c xs) : InT w a c xs := by
  obtain ⟨b, off, rfl, _, h3, _⟩ := h; exact ⟨h3, .inr ⟨b, off, rfl⟩⟩
theorem own_inT {w : World} {B c : Nat} {a : Option Addr} {xs : List En} (h : OwnEn w B (.slice a xs.length c) xs) : InT w a c xs := ⟨own_slf (fun _ => rfl) h, own_adr h⟩
/-- TreeDo, as the laws meet it. -/
theorem doL_c (a : Option Addr) (c n : Nat) (xs : List En) (k : Int) (p t d : ByteArray) (w : World) (hn : xs.length = n) (hs : InT w a c xs) (hx : n ≤ 1000) (hp : p.size ≤ 20) (ht : t.size ≤ 20) (hd : d.size ≤ 20) (hz : Small xs) :
    Calls Tryz.prog 12 #[.slice a n c, opV k p t d] w fun e w' => ∃ (a' : Option Addr) (c' m : Nat) (ms : List En), e = .returned (.tuple #[.slice a' m c', .int .i64 ((tcode (xs.map En.pl) k p.data.toList t.data.toList d.data.toList : Nat) : Int)]) ∧ ms.length = m ∧ ms.map En.pl = tdo (xs.map En.pl) k p.data.toList t.data.toList d.data.toList ∧ InT w' a' c' ms ∧ Below w.heap.size w w' := by
  subst hn
  refine (treeDo_c a c xs k p t d w hs.1 hs.2 (by unfold maxLen; omega) (by omega) (by omega) (by omega) hz.mil).mono ?_
  rintro e w' ⟨a', c', ms, rfl, h1, h2, h3⟩
  exact ⟨a', c', ms.length, ms, rfl, rfl, h1, own_inT h2, h3⟩
theorem sDoL_c (a : Option Addr) (c n : Nat) (xs : List En) (k : Int) (p t d : ByteArray) (w : World) (hn : xs.length = n) (hs : ReadEn w a c xs) (hx : n ≤ 1000) (hp : p.size ≤ 20) (ht : t.size ≤ 20) (hd : d.size ≤ 20) (hz : Small xs) :
    Calls Tryz.prog 13 #[.slice a n c, opV k p t d] w fun e w' => ∃ (a' : Option Addr) (c' m : Nat) (ms : List En), e = .returned (.tuple #[.slice a' m c', .int .i64 ((tcode (xs.map En.pl) k p.data.toList t.data.toList d.data.toList : Nat) : Int)]) ∧ ms.length = m ∧ ms.map En.pl = tdo (xs.map En.pl) k p.data.toList t.data.toList d.data.toList ∧ InT w' a' c' ms ∧ Below w.heap.size w w' := by
  subst hn
  refine (sTreeDo_c a c xs k p t d w hs (by omega) (by omega) (by omega) (by omega) hz.mil).mono ?_
  rintro e w' ⟨v, ms, rfl, h1, ⟨g, c', rfl, h4, h5, h2⟩, h3⟩
  exact ⟨_, c', ms.length, ms, rfl, rfl, h1, own_inT h2, h3⟩
/-- Two trees held against one another. -/
theorem sameL_c (a a' : Option Addr) (c c' n n' : Nat) (xs ys : List En) (r : Bool) (hr : Hid (r = true ↔ xs = ys)) (w : World) (hn : xs.length = n) (hn' : ys.length = n') (hs : InT w a c xs) (hs' : InT w a' c' ys) (hx : n ≤ 1000) (hy : n' ≤ 1000) :
    Calls Tryz.prog 15 #[.slice a n c, .slice a' n' c'] w fun e w' => e = .returned (.bool r) ∧ Below w.heap.size w w' := by
  subst hn hn'
  exact (treeSame_c a a' c c' xs ys r hr w hs.1 hs'.1 (by unfold maxLen; omega) (by unfold maxLen; omega)).mono fun _ _ ⟨h1, m, h2⟩ => ⟨h1, h2 ▸ below_dr w m⟩
theorem tdo_small {t : List PE} {k : Int} {p r x : Bs} {ms : List En} (hm : ms.map En.pl = tdo t k p r x) (hc : tcode t k p r x = 0) : Small ms := tok_small (by rw [hm]; exact tdo_tok (tcode_0 hc).1)
theorem do_len (t : List PE) (k : Int) (p r x : Bs) : (tdo t k p r x).length ≤ t.length + 1 := by
  unfold tdo
  split
  · split
    · unfold doL
      split
      · exact put_len_le (f := PE.p) _ _
      · split
        · exact put_len_le (f := PE.p) _ _
        · split
          · have := fold_len_le (f := PE.p) (t.map (movedE p r)) []
            rw [List.length_map] at this
            simp only [List.length_nil] at this
            omega
          · exact Nat.le_trans (List.length_filter_le _ _) (Nat.le_succ _)
    · exact Nat.le_succ _
  · simp
set_option maxRecDepth 100000 in
set_option maxHeartbeats 4000000 in
theorem lawTreePut_w (w : World) (a : Option Addr) (n c : Nat) (h : Code w a n c) : Calls Tryz.prog 5 #[.slice a n c] w (TrueB w) := by
  have hn := h.2.2
  by_cases hbig : 1048576 < n
  · clear h
    go_enter Tryz.func5, Tryz.ntmps5
    go_wp2
    go_ret
    exact ⟨rfl, Below.refl _ _⟩
  have HD := Lib.hid (drawTreeDo_c w a n c h)
  clear h
  go_enter Tryz.func5, Tryz.ntmps5
  go_wp2_with fail
  refine HD.out.mono ?_; rintro e W1 ⟨a1, c1, xs, k, P, T, D, rfl, hR, hz, hx, hP, hT, hD, hb⟩
  obtain ⟨n1, hn1⟩ : ∃ m, xs.length = m := ⟨_, rfl⟩
  rw [hn1] at hx ⊢
  have HN1 := Lib.hid hn1
  have HZ := Lib.hid hz
  have c0 := new_cell W1 (opBox k P T D) 25 0 _ rfl
  have c1' := new_cell W1 (opBox k P T D) 25 1 _ rfl
  have c2' := new_cell W1 (opBox k P T D) 25 2 _ rfl
  have c3' := new_cell W1 (opBox k P T D) 25 3 _ rfl
  replace hb := hb.alloc hb.size (.cells (opBox k P T D) 25)
  replace hR := hR.below (bellow_alloc W1 (.cells (opBox k P T D) 25))
  clear hn1 hz HD
  go_wp2_with fail
  refine (doL_c a1 c1 n1 xs k P T D _ HN1.out hR.inT (by omega) hP hT hD HZ.out).mono ?_
  rintro e W2 ⟨a2, c2, n2, ms, rfl, hn2, hms, hX, hq⟩
  replace hb := chn hb hq; replace hR := hR.below hq; replace c0 := keepc hq c0; replace c1' := keepc hq c1'; replace c2' := keepc hq c2'; replace c3' := keepc hq c3'
  have HN2 := Lib.hid hn2
  have HMS := Lib.hid hms
  clear hq hn2 hms
  go_wp2_with fail
  refine (sDoL_c a1 c1 n1 xs k P T D _ HN1.out hR (by omega) hP hT hD HZ.out).mono ?_
  rintro e W3 ⟨a3, c3, n3, ms3, rfl, hn3, hms3, hY, hq⟩
  obtain rfl : ms3 = ms := map_inj_ En.pl_inj (hms3.trans HMS.out.symm)
  obtain rfl : n3 = n2 := hn3.symm.trans HN2.out
  replace hb := chn hb hq; replace hR := hR.below hq; replace hX := hX.below hq; replace c0 := keepc hq c0; replace c1' := keepc hq c1'; replace c2' := keepc hq c2'; replace c3' := keepc hq c3'
  clear hq hn3 hms3
  obtain ⟨C, hC⟩ : ∃ C, tcode (xs.map En.pl) k P.data.toList T.data.toList D.data.toList = C := ⟨_, rfl⟩
  have HC := Lib.hid hC
  rw [hC]
  have hn2b : n3 ≤ 100 := by
    have h1 := congrArg List.length HMS.out
    have h2 := do_len (xs.map En.pl) k P.data.toList T.data.toList D.data.toList
    rw [List.length_map] at h1 h2
    have h3 := HN2.out
    have h4 := HN1.out
    omega
  clear hC
  by_cases hC0 : C = 0
  · subst hC0
    obtain ⟨hag1, hag2⟩ := put_again HC.out
    rw [← HMS.out] at hag1 hag2
    have HA1 := Lib.hid hag1
    have HA2 := Lib.hid hag2
    have HSM := Lib.hid (tdo_small HMS.out HC.out)
    clear hag1 hag2 hY
    go_wp2_with fail
    refine (doL_c a2 c2 n3 ms3 k P T D _ HN2.out hX (by omega) hP hT hD HSM.out).mono ?_
    rintro e W4 ⟨a4, c4, n4, ms4, rfl, hn4, hms4, hV, hq⟩
    rw [HA2.out] at hms4
    obtain rfl : ms4 = ms3 := map_inj_ En.pl_inj hms4
    obtain rfl : n4 = n3 := hn4.symm.trans HN2.out
    rw [HA1.out]
    replace hb := chn hb hq; replace hX := hX.below hq; replace c0 := keepc hq c0
    have HSC := Lib.hid (fun W (h : InT W a2 c2 ms4) (h' : InT W a4 c4 ms4) => sameL_c a2 a4 c2 c4 n4 n4 ms4 ms4 true (Lib.hid ⟨fun _ => rfl, fun _ => rfl⟩) W HN2.out HN2.out h h' (by omega) (by omega))
    clear hq hn4 hms4 c1' c2' c3' hR
    by_cases k2 : k = 2
    · subst k2
      rw [if_pos rfl]
      go_wp2_with fail
      refine (HSC.out _ hX hV).mono ?_; rintro e W ⟨rfl, hq⟩; replace hb := chn hb hq; clear hq
      go_wp2
      go_ret
      exact ⟨rfl, hb⟩
    · rw [if_neg k2]
      have n2' : (k == 2) = false := by rw [beq_eq_false_iff_ne]; exact k2
      by_cases k1 : k = 1
      · subst k1
        rw [if_pos rfl]
        go_wp2_with fail
        refine (HSC.out _ hX hV).mono ?_; rintro e W ⟨rfl, hq⟩; replace hb := chn hb hq; clear hq
        go_wp2
        go_ret
        exact ⟨rfl, hb⟩
      · rw [if_neg k1]
        have n1' : (k == 1) = false := by rw [beq_eq_false_iff_ne]; exact k1
        clear k1 k2
        go_wp2_with fail
        refine (HSC.out _ hX hV).mono ?_; rintro e W ⟨rfl, hq⟩; replace hb := chn hb hq; clear hq
        go_wp2
        go_ret
        exact ⟨rfl, hb⟩
  · skip
    have hne : ((C : Int) != 0) = true := by rw [bne_iff_ne]; omega
    go_wp2
    go_ret
    exact ⟨rfl, hb⟩
/-- TreeGet, as the laws meet it. -/
theorem getT_c (a : Option Addr) (c n : Nat) (xs : List En) (q : ByteArray) (o : Option En) (ho : Hid (tgetE xs q = o)) (w : World) (hn : xs.length = n) (hs : SlF En.cells w a xs) (hx : n ≤ 1000) (hz : Small xs) :
    Calls Tryz.prog 14 #[.slice a n c, .string q] w fun e w' => e = .returned (optV o) ∧ Below w.heap.size w w' := by
  subst hn
  exact treeGet_c a c xs q o ho w hs (by unfold maxLen; omega) hz.max
theorem tget_right {xs : List En} {q : ByteArray} (h : TOk (xs.map En.pl)) (hq : pathOkL q.data.toList = true) : tgetE xs q = getE xs q := by
  rw [tget_ok q h, lgetE, if_neg (path_ne_root hq)]
set_option maxRecDepth 100000 in
set_option maxHeartbeats 4000000 in
theorem lawTreeMany_w (w : World) (a : Option Addr) (n c : Nat) (h : Code w a n c) : Calls Tryz.prog 3 #[.slice a n c] w (TrueB w) := by
  have hn := h.2.2
  by_cases hbig : 1048576 < n
  · clear h
    go_enter Tryz.func3, Tryz.ntmps3
    go_wp2
    go_ret
    exact ⟨rfl, Below.refl _ _⟩
  have HD := Lib.hid (drawTreeDo_c w a n c h)
  clear h
  go_enter Tryz.func3, Tryz.ntmps3
  go_wp2_with fail
  refine HD.out.mono ?_; rintro e W1 ⟨a1, c1, xs, k, P, T, D, rfl, hR, hz, hx, hP, hT, hD, hb⟩
  obtain ⟨n1, hn1⟩ : ∃ m, xs.length = m := ⟨_, rfl⟩
  rw [hn1] at hx ⊢
  have HN1 := Lib.hid hn1
  have HZ := Lib.hid hz
  have c0 := new_cell W1 (opBox k P T D) 25 0 _ rfl
  have c1' := new_cell W1 (opBox k P T D) 25 1 _ rfl
  have c2' := new_cell W1 (opBox k P T D) 25 2 _ rfl
  have c3' := new_cell W1 (opBox k P T D) 25 3 _ rfl
  replace hb := hb.alloc hb.size (.cells (opBox k P T D) 25)
  replace hR := hR.below (bellow_alloc W1 (.cells (opBox k P T D) 25))
  clear hn1 hz HD
  go_wp2_with fail
  refine (doL_c a1 c1 n1 xs k P T D _ HN1.out hR.inT (by omega) hP hT hD HZ.out).mono ?_
  rintro e W2 ⟨a2, c2, n2, ms, rfl, hn2, hms, hX, hq⟩
  replace hb := chn hb hq; replace hR := hR.below hq; replace c0 := keepc hq c0; replace c1' := keepc hq c1'; replace c2' := keepc hq c2'; replace c3' := keepc hq c3'
  have HN2 := Lib.hid hn2
  have HMS := Lib.hid hms
  clear hq hn2 hms
  go_wp2_with fail
  refine (sDoL_c a1 c1 n1 xs k P T D _ HN1.out hR (by omega) hP hT hD HZ.out).mono ?_
  rintro e W3 ⟨a3, c3, n3, ms3, rfl, hn3, hms3, hY, hq⟩
  obtain rfl : ms3 = ms := map_inj_ En.pl_inj (hms3.trans HMS.out.symm)
  obtain rfl : n3 = n2 := hn3.symm.trans HN2.out
  replace hb := chn hb hq; replace hR := hR.below hq; replace hX := hX.below hq; replace c0 := keepc hq c0; replace c1' := keepc hq c1'; replace c2' := keepc hq c2'; replace c3' := keepc hq c3'
  clear hq hn3 hms3
  obtain ⟨C, hC⟩ : ∃ C, tcode (xs.map En.pl) k P.data.toList T.data.toList D.data.toList = C := ⟨_, rfl⟩
  have HC := Lib.hid hC
  rw [hC]
  have hn2b : n3 ≤ 100 := by
    have h1 := congrArg List.length HMS.out
    have h2 := do_len (xs.map En.pl) k P.data.toList T.data.toList D.data.toList
    rw [List.length_map] at h1 h2
    have h3 := HN2.out
    have h4 := HN1.out
    omega
  clear hC
  obtain ⟨o, ho⟩ : ∃ o, tgetE xs P = o := ⟨_, rfl⟩
  have HOG := Lib.hid ho
  have HG := Lib.hid (fun W (h : SlF En.cells W a1 xs) => getT_c a1 c1 n1 xs P o (Lib.hid ho) W HN1.out h (by omega) HZ.out)
  clear ho
  go_wp2_with fail
  refine (HG.out _ hR.sl).mono ?_; rintro e W4 ⟨rfl, hq⟩; replace hb := chn hb hq; replace c0 := keepc hq c0; clear hq HG
  cases o with
  | none =>
    replace c0 := keepc (bellow_alloc W4 (.cells #[.string ⟨#[]⟩, .bool false, .string ⟨#[]⟩] 31)) c0
    by_cases hC0 : C = 0
    · subst hC0
      obtain ⟨ht0, ho0, _⟩ := tcode_0 HC.out
      have hml := many_len HC.out
      rw [← HMS.out, List.length_map, List.length_map, HN1.out, HN2.out, getE_pl, ← tget_right ht0 (opOk_p ho0), HOG.out] at hml
      obtain ⟨l1, l2, l5, l0⟩ := hml
      clear ht0 ho0 hX hY hR HZ c1' c2' c3'
      by_cases k1 : k = 1
      · subst k1
        have hl := l1 rfl
        have q1 : ((n3 : Int) - (n1 : Int) == 1) = true := by rw [beq_iff_eq]; omega
        clear l1 l2 l5 l0 hl
        go_wp2
        go_ret
        exact ⟨rfl, by repeat (first | exact hb | refine Below.alloc ?_ (by have := hb.size; simp; try omega) _)⟩
      · have n1' : (k == 1) = false := by rw [beq_eq_false_iff_ne]; exact k1
        by_cases k2 : k = 2
        · subst k2
          have hl := l2 rfl
          have q1 : ((n3 : Int) - (n1 : Int) == 1) = true := by rw [beq_iff_eq]; simp at hl; omega
          clear l1 l2 l5 l0 hl
          go_wp2
          go_ret
          exact ⟨rfl, by repeat (first | exact hb | refine Below.alloc ?_ (by have := hb.size; simp; try omega) _)⟩
        · have n2' : (k == 2) = false := by rw [beq_eq_false_iff_ne]; exact k2
          by_cases k5 : k = 5
          · subst k5
            have hl := l5 rfl
            have q1 : ((n3 : Int) - (n1 : Int) == 0) = true := by rw [beq_iff_eq]; omega
            clear l1 l2 l5 l0 hl
            go_wp2
            go_ret
            exact ⟨rfl, by repeat (first | exact hb | refine Below.alloc ?_ (by have := hb.size; simp; try omega) _)⟩
          · have n5' : (k == 5) = false := by rw [beq_eq_false_iff_ne]; exact k5
            have hl := l0 k1 k2 k5
            have q1 : ((n3 : Int) - (n1 : Int) == -1) = true := by rw [beq_iff_eq]; omega
            clear l1 l2 l5 l0 hl k1 k2 k5
            go_wp2
            go_ret
            exact ⟨rfl, by repeat (first | exact hb | refine Below.alloc ?_ (by have := hb.size; simp; try omega) _)⟩
    · have hne : ((C : Int) != 0) = true := by rw [bne_iff_ne]; omega
      go_wp2
      go_ret
      exact ⟨rfl, by repeat (first | exact hb | refine Below.alloc ?_ (by have := hb.size; simp; try omega) _)⟩
  | some e =>
    obtain ⟨ep, ed, ex⟩ := e
    replace c0 := keepc (bellow_alloc W4 (.cells #[.string ep, .bool ed, .string ex] 31)) c0
    by_cases hC0 : C = 0
    · subst hC0
      obtain ⟨ht0, ho0, _⟩ := tcode_0 HC.out
      have hml := many_len HC.out
      rw [← HMS.out, List.length_map, List.length_map, HN1.out, HN2.out, getE_pl, ← tget_right ht0 (opOk_p ho0), HOG.out] at hml
      obtain ⟨l1, l2, l5, l0⟩ := hml
      clear ht0 ho0 hX hY hR HZ c1' c2' c3'
      by_cases k1 : k = 1
      · subst k1
        have hl := l1 rfl
        have q1 : ((n3 : Int) - (n1 : Int) == 1) = true := by rw [beq_iff_eq]; omega
        clear l1 l2 l5 l0 hl
        go_wp2
        go_ret
        exact ⟨rfl, by repeat (first | exact hb | refine Below.alloc ?_ (by have := hb.size; simp; try omega) _)⟩
      · have n1' : (k == 1) = false := by rw [beq_eq_false_iff_ne]; exact k1
        by_cases k2 : k = 2
        · subst k2
          have hl := l2 rfl
          have q1 : ((n3 : Int) - (n1 : Int) == 1) = false := by rw [beq_eq_false_iff_ne]; simp at hl; omega
          have q0 : ((n3 : Int) - (n1 : Int) == 0) = true := by rw [beq_iff_eq]; simp at hl; omega
          clear l1 l2 l5 l0 hl
          go_wp2
          go_ret
          exact ⟨rfl, by repeat (first | exact hb | refine Below.alloc ?_ (by have := hb.size; simp; try omega) _)⟩
        · have n2' : (k == 2) = false := by rw [beq_eq_false_iff_ne]; exact k2
          by_cases k5 : k = 5
          · subst k5
            have hl := l5 rfl
            have q1 : ((n3 : Int) - (n1 : Int) == 0) = true := by rw [beq_iff_eq]; omega
            clear l1 l2 l5 l0 hl
            go_wp2
            go_ret
            exact ⟨rfl, by repeat (first | exact hb | refine Below.alloc ?_ (by have := hb.size; simp; try omega) _)⟩
          · have n5' : (k == 5) = false := by rw [beq_eq_false_iff_ne]; exact k5
            have hl := l0 k1 k2 k5
            have q1 : ((n3 : Int) - (n1 : Int) == -1) = true := by rw [beq_iff_eq]; omega
            clear l1 l2 l5 l0 hl k1 k2 k5
            go_wp2
            go_ret
            exact ⟨rfl, by repeat (first | exact hb | refine Below.alloc ?_ (by have := hb.size; simp; try omega) _)⟩
    · have hne : ((C : Int) != 0) = true := by rw [bne_iff_ne]; omega
      go_wp2
      go_ret
      exact ⟨rfl, by repeat (first | exact hb | refine Below.alloc ?_ (by have := hb.size; simp; try omega) _)⟩
end Go.Proofs.YtakbngafhogcbaaGreatDoor
namespace Go.Proofs.YtakbngafhogcbaaGreatDoor
open Go.RowKit
theorem via_op {s : List PE} {k : Int} {p r x : Bs} (hs : TOk s) (ho : opOkL k p r x = true) (hc : codeL s k p r = 0) : tcode s k p r x = 0 ∧ tdo s k p r x = doL s k p r x := by
  have h : tcode s k p r x = 0 := (tcode_op hs ho).trans hc
  exact ⟨h, tdo_do h⟩
theorem undo_1 {t : List PE} {p r x : Bs} (hc : tcode t 1 p r x = 0) : tcode (tdo t 1 p r x) 4 p [] [] = 0 ∧ tdo (tdo t 1 p r x) 4 p [] [] = t := by
  obtain ⟨h, ho, hcd⟩ := tcode_0 hc
  rw [tdo_do hc]
  have hp := opOk_p ho
  have h2 := do_tok h ho hcd (x := x)
  rw [code_1] at hcd
  rw [doL_1] at h2 ⊢
  obtain ⟨h3, h4⟩ := back_1 (x := x) h hcd hp
  obtain ⟨h5, h6⟩ := via_op (k := 4) (r := []) (x := []) h2 (by rw [opOk_4, hp]; rfl) (by rw [code_4]; exact h3)
  exact ⟨h5, by rw [h6, doL_4]; exact h4⟩
theorem undo_4 {t : List PE} {p r x : Bs} (hc : tcode t 4 p r x = 0) : tcode (tdo t 4 p r x) 1 p [] [] = 0 ∧ tdo (tdo t 4 p r x) 1 p [] [] = t := by
  obtain ⟨h, ho, hcd⟩ := tcode_0 hc
  rw [tdo_do hc]
  have hp := opOk_p ho
  have h2 := do_tok h ho hcd (x := x)
  rw [code_4] at hcd
  rw [doL_4] at h2 ⊢
  obtain ⟨h3, h4⟩ := back_4 h hcd hp
  obtain ⟨h5, h6⟩ := via_op (k := 1) (r := []) (x := []) h2 (by rw [opOk_1, hp]; rfl) (by rw [code_1]; exact h3)
  exact ⟨h5, by rw [h6, doL_1]; exact h4⟩
theorem ent_data {t : List PE} (h : TOk t) {p : Bs} {e : PE} (he : getL t p = some e) : dataOkL e.x = true := by
  have h1 := h.ent e (getL_some he).1
  unfold entOkL at h1
  simp only [Bool.and_eq_true] at h1
  exact h1.1.2
theorem undo_3 {t : List PE} {p r x : Bs} (hc : tcode t 3 p r x = 0) : ∃ e, getL t p = some e ∧ tcode (tdo t 3 p r x) 2 p [] e.x = 0 ∧ tdo (tdo t 3 p r x) 2 p [] e.x = t := by
  obtain ⟨h, ho, hcd⟩ := tcode_0 hc
  rw [tdo_do hc]
  have hp := opOk_p ho
  have h2 := do_tok h ho hcd (x := x)
  rw [code_3] at hcd
  rw [doL_3] at h2 ⊢
  obtain ⟨e, he, _⟩ := rmC_0 hcd
  obtain ⟨h3, h4⟩ := back_3 h hcd hp he
  obtain ⟨h5, h6⟩ := via_op (k := 2) (r := []) (x := e.x) h2 (by rw [opOk_2, hp, ent_data h he]; rfl) (by rw [code_2]; exact h3)
  exact ⟨e, he, h5, by rw [h6, doL_2]; exact h4⟩
theorem undo_2 {t : List PE} {p r x : Bs} (hc : tcode t 2 p r x = 0) : (∀ e, getL t p = some e → tcode (tdo t 2 p r x) 2 p [] e.x = 0 ∧ tdo (tdo t 2 p r x) 2 p [] e.x = t) ∧ (getL t p = none → tcode (tdo t 2 p r x) 3 p [] [] = 0 ∧ tdo (tdo t 2 p r x) 3 p [] [] = t) := by
  obtain ⟨h, ho, hcd⟩ := tcode_0 hc
  rw [tdo_do hc]
  have hp := opOk_p ho
  have h2 := do_tok h ho hcd (x := x)
  have hx : dataOkL x = true := by rw [opOk_2] at ho; simp only [Bool.and_eq_true] at ho; exact ho.2.2
  rw [code_2] at hcd
  rw [doL_2] at h2 ⊢
  refine ⟨fun e he => ?_, fun hn => ?_⟩
  · obtain ⟨_, h3, h4⟩ := back_2a h hcd hp hx he
    obtain ⟨h5, h6⟩ := via_op (k := 2) (r := []) (x := e.x) h2 (by rw [opOk_2, hp, ent_data h he]; rfl) (by rw [code_2]; exact h3)
    exact ⟨h5, by rw [h6, doL_2]; exact h4⟩
  · obtain ⟨h3, h4⟩ := back_2b (x := x) h hn
    obtain ⟨h5, h6⟩ := via_op (k := 3) (r := []) (x := []) h2 (by rw [opOk_3, hp]; rfl) (by rw [code_3]; exact h3)
    exact ⟨h5, by rw [h6, doL_3]; exact h4⟩
set_option maxRecDepth 100000 in
set_option maxHeartbeats 8000000 in
theorem lawTreeBack_w (w : World) (a : Option Addr) (n c : Nat) (h : Code w a n c) : Calls Tryz.prog 7 #[.slice a n c] w (TrueB w) := by
  have hn := h.2.2
  by_cases hbig : 1048576 < n
  · clear h
    go_enter Tryz.func7, Tryz.ntmps7
    go_wp2
    go_ret
    exact ⟨rfl, Below.refl _ _⟩
  have HD := Lib.hid (drawTreeDo_c w a n c h)
  clear h
  go_enter Tryz.func7, Tryz.ntmps7
  go_wp2_with fail
  refine HD.out.mono ?_; rintro e W1 ⟨a1, c1, xs, k, P, T, D, rfl, hR, hz, hx, hP, hT, hD, hb⟩
  obtain ⟨n1, hn1⟩ : ∃ m, xs.length = m := ⟨_, rfl⟩
  rw [hn1] at hx ⊢
  have HN1 := Lib.hid hn1
  have HZ := Lib.hid hz
  have c0 := new_cell W1 (opBox k P T D) 25 0 _ rfl
  have c1' := new_cell W1 (opBox k P T D) 25 1 _ rfl
  have c2' := new_cell W1 (opBox k P T D) 25 2 _ rfl
  have c3' := new_cell W1 (opBox k P T D) 25 3 _ rfl
  replace hb := hb.alloc hb.size (.cells (opBox k P T D) 25)
  replace hR := hR.below (bellow_alloc W1 (.cells (opBox k P T D) 25))
  clear hn1 hz HD
  go_wp2_with fail
  refine (doL_c a1 c1 n1 xs k P T D _ HN1.out hR.inT (by omega) hP hT hD HZ.out).mono ?_
  rintro e W2 ⟨a2, c2, n2, ms, rfl, hn2, hms, hX, hq⟩
  replace hb := chn hb hq; replace hR := hR.below hq; replace c0 := keepc hq c0; replace c1' := keepc hq c1'; replace c2' := keepc hq c2'; replace c3' := keepc hq c3'
  have HN2 := Lib.hid hn2
  have HMS := Lib.hid hms
  clear hq hn2 hms
  go_wp2_with fail
  refine (sDoL_c a1 c1 n1 xs k P T D _ HN1.out hR (by omega) hP hT hD HZ.out).mono ?_
  rintro e W3 ⟨a3, c3, n3, ms3, rfl, hn3, hms3, hY, hq⟩
  obtain rfl : ms3 = ms := map_inj_ En.pl_inj (hms3.trans HMS.out.symm)
  obtain rfl : n3 = n2 := hn3.symm.trans HN2.out
  replace hb := chn hb hq; replace hR := hR.below hq; replace hX := hX.below hq; replace c0 := keepc hq c0; replace c1' := keepc hq c1'; replace c2' := keepc hq c2'; replace c3' := keepc hq c3'
  clear hq hn3 hms3
  obtain ⟨C, hC⟩ : ∃ C, tcode (xs.map En.pl) k P.data.toList T.data.toList D.data.toList = C := ⟨_, rfl⟩
  have HC := Lib.hid hC
  rw [hC]
  have hn2b : n3 ≤ 100 := by
    have h1 := congrArg List.length HMS.out
    have h2 := do_len (xs.map En.pl) k P.data.toList T.data.toList D.data.toList
    rw [List.length_map] at h1 h2
    have h3 := HN2.out
    have h4 := HN1.out
    omega
  clear hC
  by_cases hC0 : C = 0
  · subst hC0
    by_cases k5 : k = 5
    · subst k5
      go_wp2
      go_ret
      exact ⟨rfl, hb⟩
    obtain ⟨ht0, ho0, _⟩ := tcode_0 HC.out
    obtain ⟨o, ho⟩ : ∃ o, tgetE xs P = o := ⟨_, rfl⟩
    have HOL : Hid (getL (xs.map En.pl) P.data.toList = o.map En.pl) := by rw [Hid, getE_pl, ← tget_right ht0 (opOk_p ho0), ho]
    have HKK := Lib.hid (opOk_k ho0)
    have HG := Lib.hid (fun W (h : SlF En.cells W a1 xs) => getT_c a1 c1 n1 xs P o (Lib.hid ho) W HN1.out h (by omega) HZ.out)
    clear ho ht0 ho0
    have n5 : (k == 5) = false := by rw [beq_eq_false_iff_ne]; exact k5
    go_wp2_with fail
    refine (HG.out _ hR.sl).mono ?_; rintro e W4 ⟨rfl, hq⟩; replace hb := chn hb hq; replace hR := hR.below hq; replace hX := hX.below hq; replace c0 := keepc hq c0; replace c1' := keepc hq c1'; clear hq HG
    by_cases k1 : k = 1
    · subst k1
      obtain ⟨hc4, hd4⟩ := undo_1 HC.out
      cases o with
      | none =>
        have hsz4 : (W4.alloc (.cells #[.string ⟨#[]⟩, .bool false, .string ⟨#[]⟩] 31)).heap.size = W4.heap.size + 1 := by simp
        have F1 := bellow_alloc W4 (.cells #[.string ⟨#[]⟩, .bool false, .string ⟨#[]⟩] 31)
        have F2 := F1.trans ((bellow_alloc (W4.alloc (.cells #[.string ⟨#[]⟩, .bool false, .string ⟨#[]⟩] 31)) (.cells #[.int .i64 4, .string P, .string ⟨#[]⟩, .string ⟨#[]⟩] 25)).mono F1.size)
        have FX := F1.trans ((bellow_alloc (W4.alloc (.cells #[.string ⟨#[]⟩, .bool false, .string ⟨#[]⟩] 31)) (.cells #[.int .i64 4, .string P, .string ⟨#[]⟩, .string (⟨#[]⟩ : ByteArray)] 25)).mono F1.size)
        have c0a := keepc F1 c0
        have c1a := keepc F1 c1'
        have c0b := keepc F2 c0
        have HBK : Hid (Box4 ((W4.alloc (.cells #[.string ⟨#[]⟩, .bool false, .string ⟨#[]⟩] 31)).alloc (.cells #[.int .i64 4, .string P, .string ⟨#[]⟩, .string (⟨#[]⟩ : ByteArray)] 25)) (W4.heap.size + 1) (.int .i64 4) (.string P) (.string ⟨#[]⟩) (.string (⟨#[]⟩ : ByteArray))) := by rw [Hid, ← hsz4]; exact Box4.new _ _ _ _ _ _
        clear hsz4 F1 F2
        have HX5 := Lib.hid (hX.below FX)
        have HR5 := Lib.hid (hR.below FX)
        have HB5 := Lib.hid (chn hb FX)
        obtain ⟨q0, q1, q2, q3, _⟩ := HBK.out
        rw [← HMS.out] at hc4 hd4
        have HC4 := Lib.hid hc4
        have HD4 := Lib.hid hd4
        have HSM := Lib.hid (tdo_small HMS.out HC.out)
        clear hc4 hd4 hX hR hb FX hY
        go_wp2_with fail
        refine (doL_c a2 c2 n3 ms3 4 P ⟨#[]⟩ (⟨#[]⟩ : ByteArray) _ HN2.out HX5.out (by omega) hP (by decide) (by decide) HSM.out).mono ?_
        rintro e W5 ⟨a5, c5, n5, ms5, rfl, hn5, hms5, hV, hq⟩
        have HD5 : Hid (tdo (ms3.map En.pl) 4 P.data.toList [] (⟨#[]⟩ : ByteArray).data.toList = xs.map En.pl) := HD4.out
        have HC5 : Hid (tcode (ms3.map En.pl) 4 P.data.toList [] (⟨#[]⟩ : ByteArray).data.toList = 0) := HC4.out
        obtain rfl : ms5 = xs := map_inj_ En.pl_inj (hms5.trans HD5.out)
        obtain rfl : n5 = n1 := hn5.symm.trans HN1.out
        rw [show (tcode (ms3.map En.pl) 4 P.data.toList (⟨#[]⟩ : ByteArray).data.toList (⟨#[]⟩ : ByteArray).data.toList) = 0 from HC5.out]
        have hb := chn HB5.out hq
        have HSC := Lib.hid (sameL_c a5 a1 c5 c1 n5 n5 ms5 ms5 true (Lib.hid ⟨fun _ => rfl, fun _ => rfl⟩) W5 HN1.out HN1.out hV (HR5.out.inT.below hq) (by omega) (by omega))
        clear hq hn5 hms5 hV q0 q1 q2 q3
        go_wp2_with fail
        refine HSC.out.mono ?_; rintro e W ⟨rfl, hq⟩; replace hb := chn hb hq; clear hq
        go_wp2
        go_ret
        exact ⟨rfl, hb⟩
      | some e0 =>
        obtain ⟨ep, ed, ex⟩ := e0
        have hsz4 : (W4.alloc (.cells #[.string ep, .bool ed, .string ex] 31)).heap.size = W4.heap.size + 1 := by simp
        have F1 := bellow_alloc W4 (.cells #[.string ep, .bool ed, .string ex] 31)
        have F2 := F1.trans ((bellow_alloc (W4.alloc (.cells #[.string ep, .bool ed, .string ex] 31)) (.cells #[.int .i64 4, .string P, .string ⟨#[]⟩, .string ⟨#[]⟩] 25)).mono F1.size)
        have FX := F1.trans ((bellow_alloc (W4.alloc (.cells #[.string ep, .bool ed, .string ex] 31)) (.cells #[.int .i64 4, .string P, .string ⟨#[]⟩, .string (⟨#[]⟩ : ByteArray)] 25)).mono F1.size)
        have c0a := keepc F1 c0
        have c1a := keepc F1 c1'
        have c0b := keepc F2 c0
        have HBK : Hid (Box4 ((W4.alloc (.cells #[.string ep, .bool ed, .string ex] 31)).alloc (.cells #[.int .i64 4, .string P, .string ⟨#[]⟩, .string (⟨#[]⟩ : ByteArray)] 25)) (W4.heap.size + 1) (.int .i64 4) (.string P) (.string ⟨#[]⟩) (.string (⟨#[]⟩ : ByteArray))) := by rw [Hid, ← hsz4]; exact Box4.new _ _ _ _ _ _
        clear hsz4 F1 F2
        have HX5 := Lib.hid (hX.below FX)
        have HR5 := Lib.hid (hR.below FX)
        have HB5 := Lib.hid (chn hb FX)
        obtain ⟨q0, q1, q2, q3, _⟩ := HBK.out
        rw [← HMS.out] at hc4 hd4
        have HC4 := Lib.hid hc4
        have HD4 := Lib.hid hd4
        have HSM := Lib.hid (tdo_small HMS.out HC.out)
        clear hc4 hd4 hX hR hb FX hY
        go_wp2_with fail
        refine (doL_c a2 c2 n3 ms3 4 P ⟨#[]⟩ (⟨#[]⟩ : ByteArray) _ HN2.out HX5.out (by omega) hP (by decide) (by decide) HSM.out).mono ?_
        rintro e W5 ⟨a5, c5, n5, ms5, rfl, hn5, hms5, hV, hq⟩
        have HD5 : Hid (tdo (ms3.map En.pl) 4 P.data.toList [] (⟨#[]⟩ : ByteArray).data.toList = xs.map En.pl) := HD4.out
        have HC5 : Hid (tcode (ms3.map En.pl) 4 P.data.toList [] (⟨#[]⟩ : ByteArray).data.toList = 0) := HC4.out
        obtain rfl : ms5 = xs := map_inj_ En.pl_inj (hms5.trans HD5.out)
        obtain rfl : n5 = n1 := hn5.symm.trans HN1.out
        rw [show (tcode (ms3.map En.pl) 4 P.data.toList (⟨#[]⟩ : ByteArray).data.toList (⟨#[]⟩ : ByteArray).data.toList) = 0 from HC5.out]
        have hb := chn HB5.out hq
        have HSC := Lib.hid (sameL_c a5 a1 c5 c1 n5 n5 ms5 ms5 true (Lib.hid ⟨fun _ => rfl, fun _ => rfl⟩) W5 HN1.out HN1.out hV (HR5.out.inT.below hq) (by omega) (by omega))
        clear hq hn5 hms5 hV q0 q1 q2 q3
        go_wp2_with fail
        refine HSC.out.mono ?_; rintro e W ⟨rfl, hq⟩; replace hb := chn hb hq; clear hq
        go_wp2
        go_ret
        exact ⟨rfl, hb⟩
    by_cases k4 : k = 4
    · subst k4
      obtain ⟨hc4, hd4⟩ := undo_4 HC.out
      cases o with
      | none =>
        have hsz4 : (W4.alloc (.cells #[.string ⟨#[]⟩, .bool false, .string ⟨#[]⟩] 31)).heap.size = W4.heap.size + 1 := by simp
        have F1 := bellow_alloc W4 (.cells #[.string ⟨#[]⟩, .bool false, .string ⟨#[]⟩] 31)
        have F2 := F1.trans ((bellow_alloc (W4.alloc (.cells #[.string ⟨#[]⟩, .bool false, .string ⟨#[]⟩] 31)) (.cells #[.int .i64 4, .string P, .string ⟨#[]⟩, .string ⟨#[]⟩] 25)).mono F1.size)
        have FX := F1.trans ((bellow_alloc (W4.alloc (.cells #[.string ⟨#[]⟩, .bool false, .string ⟨#[]⟩] 31)) (.cells #[.int .i64 1, .string P, .string ⟨#[]⟩, .string (⟨#[]⟩ : ByteArray)] 25)).mono F1.size)
        have c0a := keepc F1 c0
        have c1a := keepc F1 c1'
        have c0b := keepc F2 c0
        have HBK : Hid (Box4 ((W4.alloc (.cells #[.string ⟨#[]⟩, .bool false, .string ⟨#[]⟩] 31)).alloc (.cells #[.int .i64 1, .string P, .string ⟨#[]⟩, .string (⟨#[]⟩ : ByteArray)] 25)) (W4.heap.size + 1) (.int .i64 1) (.string P) (.string ⟨#[]⟩) (.string (⟨#[]⟩ : ByteArray))) := by rw [Hid, ← hsz4]; exact Box4.new _ _ _ _ _ _
        clear hsz4 F1 F2
        have HX5 := Lib.hid (hX.below FX)
        have HR5 := Lib.hid (hR.below FX)
        have HB5 := Lib.hid (chn hb FX)
        obtain ⟨q0, q1, q2, q3, _⟩ := HBK.out
        rw [← HMS.out] at hc4 hd4
        have HC4 := Lib.hid hc4
        have HD4 := Lib.hid hd4
        have HSM := Lib.hid (tdo_small HMS.out HC.out)
        clear hc4 hd4 hX hR hb FX hY
        go_wp2_with fail
        refine (doL_c a2 c2 n3 ms3 1 P ⟨#[]⟩ (⟨#[]⟩ : ByteArray) _ HN2.out HX5.out (by omega) hP (by decide) (by decide) HSM.out).mono ?_
        rintro e W5 ⟨a5, c5, n5, ms5, rfl, hn5, hms5, hV, hq⟩
        have HD5 : Hid (tdo (ms3.map En.pl) 1 P.data.toList [] (⟨#[]⟩ : ByteArray).data.toList = xs.map En.pl) := HD4.out
        have HC5 : Hid (tcode (ms3.map En.pl) 1 P.data.toList [] (⟨#[]⟩ : ByteArray).data.toList = 0) := HC4.out
        obtain rfl : ms5 = xs := map_inj_ En.pl_inj (hms5.trans HD5.out)
        obtain rfl : n5 = n1 := hn5.symm.trans HN1.out
        rw [show (tcode (ms3.map En.pl) 1 P.data.toList (⟨#[]⟩ : ByteArray).data.toList (⟨#[]⟩ : ByteArray).data.toList) = 0 from HC5.out]
        have hb := chn HB5.out hq
        have HSC := Lib.hid (sameL_c a5 a1 c5 c1 n5 n5 ms5 ms5 true (Lib.hid ⟨fun _ => rfl, fun _ => rfl⟩) W5 HN1.out HN1.out hV (HR5.out.inT.below hq) (by omega) (by omega))
        clear hq hn5 hms5 hV q0 q1 q2 q3
        go_wp2_with fail
        refine HSC.out.mono ?_; rintro e W ⟨rfl, hq⟩; replace hb := chn hb hq; clear hq
        go_wp2
        go_ret
        exact ⟨rfl, hb⟩
      | some e0 =>
        obtain ⟨ep, ed, ex⟩ := e0
        have hsz4 : (W4.alloc (.cells #[.string ep, .bool ed, .string ex] 31)).heap.size = W4.heap.size + 1 := by simp
        have F1 := bellow_alloc W4 (.cells #[.string ep, .bool ed, .string ex] 31)
        have F2 := F1.trans ((bellow_alloc (W4.alloc (.cells #[.string ep, .bool ed, .string ex] 31)) (.cells #[.int .i64 4, .string P, .string ⟨#[]⟩, .string ⟨#[]⟩] 25)).mono F1.size)
        have FX := F1.trans ((bellow_alloc (W4.alloc (.cells #[.string ep, .bool ed, .string ex] 31)) (.cells #[.int .i64 1, .string P, .string ⟨#[]⟩, .string (⟨#[]⟩ : ByteArray)] 25)).mono F1.size)
        have c0a := keepc F1 c0
        have c1a := keepc F1 c1'
        have c0b := keepc F2 c0
        have HBK : Hid (Box4 ((W4.alloc (.cells #[.string ep, .bool ed, .string ex] 31)).alloc (.cells #[.int .i64 1, .string P, .string ⟨#[]⟩, .string (⟨#[]⟩ : ByteArray)] 25)) (W4.heap.size + 1) (.int .i64 1) (.string P) (.string ⟨#[]⟩) (.string (⟨#[]⟩ : ByteArray))) := by rw [Hid, ← hsz4]; exact Box4.new _ _ _ _ _ _
        clear hsz4 F1 F2
        have HX5 := Lib.hid (hX.below FX)
        have HR5 := Lib.hid (hR.below FX)
        have HB5 := Lib.hid (chn hb FX)
        obtain ⟨q0, q1, q2, q3, _⟩ := HBK.out
        rw [← HMS.out] at hc4 hd4
        have HC4 := Lib.hid hc4
        have HD4 := Lib.hid hd4
        have HSM := Lib.hid (tdo_small HMS.out HC.out)
        clear hc4 hd4 hX hR hb FX hY
        go_wp2_with fail
        refine (doL_c a2 c2 n3 ms3 1 P ⟨#[]⟩ (⟨#[]⟩ : ByteArray) _ HN2.out HX5.out (by omega) hP (by decide) (by decide) HSM.out).mono ?_
        rintro e W5 ⟨a5, c5, n5, ms5, rfl, hn5, hms5, hV, hq⟩
        have HD5 : Hid (tdo (ms3.map En.pl) 1 P.data.toList [] (⟨#[]⟩ : ByteArray).data.toList = xs.map En.pl) := HD4.out
        have HC5 : Hid (tcode (ms3.map En.pl) 1 P.data.toList [] (⟨#[]⟩ : ByteArray).data.toList = 0) := HC4.out
        obtain rfl : ms5 = xs := map_inj_ En.pl_inj (hms5.trans HD5.out)
        obtain rfl : n5 = n1 := hn5.symm.trans HN1.out
        rw [show (tcode (ms3.map En.pl) 1 P.data.toList (⟨#[]⟩ : ByteArray).data.toList (⟨#[]⟩ : ByteArray).data.toList) = 0 from HC5.out]
        have hb := chn HB5.out hq
        have HSC := Lib.hid (sameL_c a5 a1 c5 c1 n5 n5 ms5 ms5 true (Lib.hid ⟨fun _ => rfl, fun _ => rfl⟩) W5 HN1.out HN1.out hV (HR5.out.inT.below hq) (by omega) (by omega))
        clear hq hn5 hms5 hV q0 q1 q2 q3
        go_wp2_with fail
        refine HSC.out.mono ?_; rintro e W ⟨rfl, hq⟩; replace hb := chn hb hq; clear hq
        go_wp2
        go_ret
        exact ⟨rfl, hb⟩
    have n4 : (k == 4) = false := by rw [beq_eq_false_iff_ne]; exact k4
    by_cases k3 : k = 3
    · subst k3
      obtain ⟨e3, he3, hc4, hd4⟩ := undo_3 HC.out
      have hoe := HOL.out
      rw [he3] at hoe
      cases o with
      | none => cases hoe
      | some e0 =>
        obtain ⟨ep, ed, ex⟩ := e0
        obtain rfl : e3 = En.pl ⟨ep, ed, ex⟩ := by injection hoe
        have hsz4 : (W4.alloc (.cells #[.string ep, .bool ed, .string ex] 31)).heap.size = W4.heap.size + 1 := by simp
        have F1 := bellow_alloc W4 (.cells #[.string ep, .bool ed, .string ex] 31)
        have F2 := F1.trans ((bellow_alloc (W4.alloc (.cells #[.string ep, .bool ed, .string ex] 31)) (.cells #[.int .i64 4, .string P, .string ⟨#[]⟩, .string ⟨#[]⟩] 25)).mono F1.size)
        have FX := F1.trans ((bellow_alloc (W4.alloc (.cells #[.string ep, .bool ed, .string ex] 31)) (.cells #[.int .i64 2, .string P, .string ⟨#[]⟩, .string ex] 25)).mono F1.size)
        have c0a := keepc F1 c0
        have c1a := keepc F1 c1'
        have c0b := keepc F2 c0
        have HBK : Hid (Box4 ((W4.alloc (.cells #[.string ep, .bool ed, .string ex] 31)).alloc (.cells #[.int .i64 2, .string P, .string ⟨#[]⟩, .string ex] 25)) (W4.heap.size + 1) (.int .i64 2) (.string P) (.string ⟨#[]⟩) (.string ex)) := by rw [Hid, ← hsz4]; exact Box4.new _ _ _ _ _ _
        clear hsz4 F1 F2
        have hexs : ex.size ≤ 20 := by
          have h1 := (getL_some HOL.out).1
          obtain ⟨e9, h2, h3⟩ := List.mem_map.1 h1
          have h4 := (HZ.out e9 h2).2
          have h5 : e9.x = ex := bytes_eq (congrArg PE.x h3)
          rw [← h5]; exact h4
        have x2 : ((W4.alloc (.cells #[.string ep, .bool ed, .string ex] 31)).alloc (.cells #[.int .i64 2, .string P, .string ⟨#[]⟩, .string ⟨#[]⟩] 25)).cell? ⟨W4.heap.size, 2, none⟩ = some (.string ex) :=
          keepc (bellow_alloc _ _) (new_cell W4 #[.string ep, .bool ed, .string ex] 31 2 (.string ex) rfl)
        clear hoe
        have HX5 := Lib.hid (hX.below FX)
        have HR5 := Lib.hid (hR.below FX)
        have HB5 := Lib.hid (chn hb FX)
        obtain ⟨q0, q1, q2, q3, _⟩ := HBK.out
        rw [← HMS.out] at hc4 hd4
        have HC4 := Lib.hid hc4
        have HD4 := Lib.hid hd4
        have HSM := Lib.hid (tdo_small HMS.out HC.out)
        clear hc4 hd4 hX hR hb FX hY
        go_wp2_with fail
        refine (doL_c a2 c2 n3 ms3 2 P ⟨#[]⟩ ex _ HN2.out HX5.out (by omega) hP (by decide) hexs HSM.out).mono ?_
        rintro e W5 ⟨a5, c5, n5, ms5, rfl, hn5, hms5, hV, hq⟩
        have HD5 : Hid (tdo (ms3.map En.pl) 2 P.data.toList [] ex.data.toList = xs.map En.pl) := HD4.out
        have HC5 : Hid (tcode (ms3.map En.pl) 2 P.data.toList [] ex.data.toList = 0) := HC4.out
        obtain rfl : ms5 = xs := map_inj_ En.pl_inj (hms5.trans HD5.out)
        obtain rfl : n5 = n1 := hn5.symm.trans HN1.out
        rw [show (tcode (ms3.map En.pl) 2 P.data.toList (⟨#[]⟩ : ByteArray).data.toList ex.data.toList) = 0 from HC5.out]
        have hb := chn HB5.out hq
        have HSC := Lib.hid (sameL_c a5 a1 c5 c1 n5 n5 ms5 ms5 true (Lib.hid ⟨fun _ => rfl, fun _ => rfl⟩) W5 HN1.out HN1.out hV (HR5.out.inT.below hq) (by omega) (by omega))
        clear hq hn5 hms5 hV q0 q1 q2 q3
        go_wp2_with fail
        refine HSC.out.mono ?_; rintro e W ⟨rfl, hq⟩; replace hb := chn hb hq; clear hq
        go_wp2
        go_ret
        exact ⟨rfl, hb⟩
    · obtain rfl : k = 2 := by rcases HKK.out with h | h | h | h | h <;> simp_all
      obtain ⟨hu1, hu2⟩ := undo_2 HC.out
      cases o with
      | none =>
        obtain ⟨hc4, hd4⟩ := hu2 HOL.out
        clear hu1 hu2
        have hsz4 : (W4.alloc (.cells #[.string ⟨#[]⟩, .bool false, .string ⟨#[]⟩] 31)).heap.size = W4.heap.size + 1 := by simp
        have F1 := bellow_alloc W4 (.cells #[.string ⟨#[]⟩, .bool false, .string ⟨#[]⟩] 31)
        have F2 := F1.trans ((bellow_alloc (W4.alloc (.cells #[.string ⟨#[]⟩, .bool false, .string ⟨#[]⟩] 31)) (.cells #[.int .i64 4, .string P, .string ⟨#[]⟩, .string ⟨#[]⟩] 25)).mono F1.size)
        have FX := F1.trans ((bellow_alloc (W4.alloc (.cells #[.string ⟨#[]⟩, .bool false, .string ⟨#[]⟩] 31)) (.cells #[.int .i64 3, .string P, .string ⟨#[]⟩, .string (⟨#[]⟩ : ByteArray)] 25)).mono F1.size)
        have c0a := keepc F1 c0
        have c1a := keepc F1 c1'
        have c0b := keepc F2 c0
        have HBK : Hid (Box4 ((W4.alloc (.cells #[.string ⟨#[]⟩, .bool false, .string ⟨#[]⟩] 31)).alloc (.cells #[.int .i64 3, .string P, .string ⟨#[]⟩, .string (⟨#[]⟩ : ByteArray)] 25)) (W4.heap.size + 1) (.int .i64 3) (.string P) (.string ⟨#[]⟩) (.string (⟨#[]⟩ : ByteArray))) := by rw [Hid, ← hsz4]; exact Box4.new _ _ _ _ _ _
        clear hsz4 F1 F2
        have HX5 := Lib.hid (hX.below FX)
        have HR5 := Lib.hid (hR.below FX)
        have HB5 := Lib.hid (chn hb FX)
        obtain ⟨q0, q1, q2, q3, _⟩ := HBK.out
        rw [← HMS.out] at hc4 hd4
        have HC4 := Lib.hid hc4
        have HD4 := Lib.hid hd4
        have HSM := Lib.hid (tdo_small HMS.out HC.out)
        clear hc4 hd4 hX hR hb FX hY
        go_wp2_with fail
        refine (doL_c a2 c2 n3 ms3 3 P ⟨#[]⟩ (⟨#[]⟩ : ByteArray) _ HN2.out HX5.out (by omega) hP (by decide) (by decide) HSM.out).mono ?_
        rintro e W5 ⟨a5, c5, n5, ms5, rfl, hn5, hms5, hV, hq⟩
        have HD5 : Hid (tdo (ms3.map En.pl) 3 P.data.toList [] (⟨#[]⟩ : ByteArray).data.toList = xs.map En.pl) := HD4.out
        have HC5 : Hid (tcode (ms3.map En.pl) 3 P.data.toList [] (⟨#[]⟩ : ByteArray).data.toList = 0) := HC4.out
        obtain rfl : ms5 = xs := map_inj_ En.pl_inj (hms5.trans HD5.out)
        obtain rfl : n5 = n1 := hn5.symm.trans HN1.out
        rw [show (tcode (ms3.map En.pl) 3 P.data.toList (⟨#[]⟩ : ByteArray).data.toList (⟨#[]⟩ : ByteArray).data.toList) = 0 from HC5.out]
        have hb := chn HB5.out hq
        have HSC := Lib.hid (sameL_c a5 a1 c5 c1 n5 n5 ms5 ms5 true (Lib.hid ⟨fun _ => rfl, fun _ => rfl⟩) W5 HN1.out HN1.out hV (HR5.out.inT.below hq) (by omega) (by omega))
        clear hq hn5 hms5 hV q0 q1 q2 q3
        go_wp2_with fail
        refine HSC.out.mono ?_; rintro e W ⟨rfl, hq⟩; replace hb := chn hb hq; clear hq
        go_wp2
        go_ret
        exact ⟨rfl, hb⟩
      | some e0 =>
        obtain ⟨ep, ed, ex⟩ := e0
        obtain ⟨hc4, hd4⟩ := hu1 _ HOL.out
        have hoe := HOL.out
        clear hu1 hu2
        have hsz4 : (W4.alloc (.cells #[.string ep, .bool ed, .string ex] 31)).heap.size = W4.heap.size + 1 := by simp
        have F1 := bellow_alloc W4 (.cells #[.string ep, .bool ed, .string ex] 31)
        have F2 := F1.trans ((bellow_alloc (W4.alloc (.cells #[.string ep, .bool ed, .string ex] 31)) (.cells #[.int .i64 4, .string P, .string ⟨#[]⟩, .string ⟨#[]⟩] 25)).mono F1.size)
        have FX := F1.trans ((bellow_alloc (W4.alloc (.cells #[.string ep, .bool ed, .string ex] 31)) (.cells #[.int .i64 2, .string P, .string ⟨#[]⟩, .string ex] 25)).mono F1.size)
        have c0a := keepc F1 c0
        have c1a := keepc F1 c1'
        have c0b := keepc F2 c0
        have HBK : Hid (Box4 ((W4.alloc (.cells #[.string ep, .bool ed, .string ex] 31)).alloc (.cells #[.int .i64 2, .string P, .string ⟨#[]⟩, .string ex] 25)) (W4.heap.size + 1) (.int .i64 2) (.string P) (.string ⟨#[]⟩) (.string ex)) := by rw [Hid, ← hsz4]; exact Box4.new _ _ _ _ _ _
        clear hsz4 F1 F2
        have hexs : ex.size ≤ 20 := by
          have h1 := (getL_some HOL.out).1
          obtain ⟨e9, h2, h3⟩ := List.mem_map.1 h1
          have h4 := (HZ.out e9 h2).2
          have h5 : e9.x = ex := bytes_eq (congrArg PE.x h3)
          rw [← h5]; exact h4
        have x2 : ((W4.alloc (.cells #[.string ep, .bool ed, .string ex] 31)).alloc (.cells #[.int .i64 2, .string P, .string ⟨#[]⟩, .string ⟨#[]⟩] 25)).cell? ⟨W4.heap.size, 2, none⟩ = some (.string ex) :=
          keepc (bellow_alloc _ _) (new_cell W4 #[.string ep, .bool ed, .string ex] 31 2 (.string ex) rfl)
        clear hoe
        have HX5 := Lib.hid (hX.below FX)
        have HR5 := Lib.hid (hR.below FX)
        have HB5 := Lib.hid (chn hb FX)
        obtain ⟨q0, q1, q2, q3, _⟩ := HBK.out
        rw [← HMS.out] at hc4 hd4
        have HC4 := Lib.hid hc4
        have HD4 := Lib.hid hd4
        have HSM := Lib.hid (tdo_small HMS.out HC.out)
        clear hc4 hd4 hX hR hb FX hY
        go_wp2_with fail
        refine (doL_c a2 c2 n3 ms3 2 P ⟨#[]⟩ ex _ HN2.out HX5.out (by omega) hP (by decide) hexs HSM.out).mono ?_
        rintro e W5 ⟨a5, c5, n5, ms5, rfl, hn5, hms5, hV, hq⟩
        have HD5 : Hid (tdo (ms3.map En.pl) 2 P.data.toList [] ex.data.toList = xs.map En.pl) := HD4.out
        have HC5 : Hid (tcode (ms3.map En.pl) 2 P.data.toList [] ex.data.toList = 0) := HC4.out
        obtain rfl : ms5 = xs := map_inj_ En.pl_inj (hms5.trans HD5.out)
        obtain rfl : n5 = n1 := hn5.symm.trans HN1.out
        rw [show (tcode (ms3.map En.pl) 2 P.data.toList (⟨#[]⟩ : ByteArray).data.toList ex.data.toList) = 0 from HC5.out]
        have hb := chn HB5.out hq
        have HSC := Lib.hid (sameL_c a5 a1 c5 c1 n5 n5 ms5 ms5 true (Lib.hid ⟨fun _ => rfl, fun _ => rfl⟩) W5 HN1.out HN1.out hV (HR5.out.inT.below hq) (by omega) (by omega))
        clear hq hn5 hms5 hV q0 q1 q2 q3
        go_wp2_with fail
        refine HSC.out.mono ?_; rintro e W ⟨rfl, hq⟩; replace hb := chn hb hq; clear hq
        go_wp2
        go_ret
        exact ⟨rfl, hb⟩
  · skip
    have hne : ((C : Int) != 0) = true := by rw [bne_iff_ne]; omega
    go_wp2
    go_ret
    exact ⟨rfl, hb⟩
end Go.Proofs.YtakbngafhogcbaaGreatDoor
