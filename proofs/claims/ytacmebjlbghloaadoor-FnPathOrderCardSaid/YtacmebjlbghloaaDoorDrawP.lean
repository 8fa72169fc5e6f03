/- The walks of what draws arguments for the functions of paths. Conditions: none beyond what can be read. -/
import Derived.Test.YtacmebjlbghloaaDoorDraw
import Derived.Test.YtacmebjlbghloaaDoorPathI
namespace Go.Proofs.YtacmebjlbghloaaDoor
open Go.RowKit
def Str1 (w : World) (e : Ending) (w' : World) : Prop := ∃ s : ByteArray, e = .returned (.string s) ∧ s.size ≤ 20 ∧ Below w.heap.size w w'
def Str2 (w : World) (e : Ending) (w' : World) : Prop := ∃ s t : ByteArray, e = .returned (.tuple #[.string s, .string t]) ∧ s.size ≤ 20 ∧ t.size ≤ 20 ∧ Below w.heap.size w w'
def Str3 (w : World) (e : Ending) (w' : World) : Prop := ∃ s t u : ByteArray, e = .returned (.tuple #[.string s, .string t, .string u]) ∧ s.size ≤ 20 ∧ t.size ≤ 20 ∧ u.size ≤ 20 ∧ Below w.heap.size w w'
theorem up_small (s : ByteArray) : ∃ r : ByteArray, upL s.data.toList = r.data.toList ∧ r.size ≤ 20 := by
  obtain ⟨r, hr⟩ : ∃ r : ByteArray, upL s.data.toList = r.data.toList := ⟨⟨(upL s.data.toList).toArray⟩, by simp⟩
  refine ⟨r, hr, ?_⟩
  rw [← size_data, ← hr]
  unfold upL
  split
  · next hp =>
    have hn := pathOk_names hp
    unfold encP
    split
    · simp
    · have h6 := (flat_len hn.1.dropLast.2).1
      have h7 := hn.1.dropLast.1
      omega
  · simp
set_option maxHeartbeats 1000000 in
theorem drawPathUp_c (w : World) (a : Option Addr) (n c : Nat) (h : Code w a n c) : Calls Tryd.prog 40 #[.slice a n c] w (Str1 w) := by
  have HO := Lib.hid (open_c' w a n c h)
  clear h
  go_enter Tryd.func40, Tryd.ntmps40
  go_wp2_with fail
  refine HO.out.mono ?_; rintro e w1 ⟨rfl, hrd, hb⟩
  have HT := Lib.hid (l1Text_c w1 w.heap.size 0 hrd (by omega))
  clear hrd
  go_wp2_with fail
  refine HT.out.mono ?_; rintro e w2 ⟨s, p, rfl, hs, _, _, ho⟩
  go_wp2
  go_ret
  exact ⟨s, rfl, hs, ho.below hb (Nat.le_refl _) hb.size⟩
set_option maxHeartbeats 1000000 in
theorem drawPathLevels_c (w : World) (a : Option Addr) (n c : Nat) (h : Code w a n c) : Calls Tryd.prog 38 #[.slice a n c] w (Str1 w) := by
  have HO := Lib.hid (open_c' w a n c h)
  clear h
  go_enter Tryd.func38, Tryd.ntmps38
  go_wp2_with fail
  refine HO.out.mono ?_; rintro e w1 ⟨rfl, hrd, hb⟩
  have HT := Lib.hid (l1Text_c w1 w.heap.size 0 hrd (by omega))
  clear hrd
  go_wp2_with fail
  refine HT.out.mono ?_; rintro e w2 ⟨s, p, rfl, hs, _, _, ho⟩
  go_wp2
  go_ret
  exact ⟨s, rfl, hs, ho.below hb (Nat.le_refl _) hb.size⟩
set_option maxHeartbeats 2000000 in
theorem drawPathUnder_c (w : World) (a : Option Addr) (n c : Nat) (h : Code w a n c) : Calls Tryd.prog 34 #[.slice a n c] w (Str2 w) := by
  have HO := Lib.hid (open_c' w a n c h)
  clear h
  go_enter Tryd.func34, Tryd.ntmps34
  go_wp2_with fail
  refine HO.out.mono ?_; rintro e w1 ⟨rfl, hrd, hb⟩
  have HT := Lib.hid (l1Text_c w1 w.heap.size 0 hrd (by omega))
  clear hrd
  go_wp2_with fail
  refine HT.out.mono ?_; rintro e w2 ⟨s, p, rfl, hs, hp, hrd2, ho2⟩
  have HK := Lib.hid (pick_c w2 w.heap.size p 3 hrd2 (by omega) (by omega) (by omega))
  have hb2 := Lib.hid (ho2.below hb (Nat.le_refl _) hb.size)
  clear hrd2 ho2
  go_wp2_with fail
  refine HK.out.mono ?_; rintro e w3 ⟨m, rfl, _, hm, hrd3, ho3⟩
  have hm3 : m < 3 := by have := hm (by omega); omega
  have hb3 := Lib.hid (ho3.below hb2.out (Nat.le_refl _) hb2.out.size)
  have hsm : s.size ≤ maxLen := by unfold maxLen; omega
  obtain ⟨r, hr, hrs⟩ := up_small s
  obtain ⟨r2, hr2, hrs2⟩ := up_small r
  have hrm : r.size ≤ maxLen := by unfold maxLen; omega
  have HR := Lib.hid hr
  have HR2 := Lib.hid hr2
  have HT2 := Lib.hid (l1Text_c w3 w.heap.size (p + 1) hrd3 (by omega))
  clear hm hr hr2 hrd3 ho3
  match m, hm3 with
  | 0, _ =>
    go_wp2_with fail
    refine (sPathUp_c s r HR _ hsm).mono ?_; rintro e w4 ⟨rfl, hb4⟩
    go_wp2
    go_ret2
    exact ⟨s, r, rfl, hs, hrs, hb3.out.trans (hb4.mono hb3.out.size)⟩
  | 1, _ =>
    go_wp2_with fail
    refine (sPathUp_c s r HR _ hsm).mono ?_; rintro e w4 ⟨rfl, hb4⟩
    go_wp2_with fail
    refine (sPathUp_c r r2 HR2 _ hrm).mono ?_; rintro e w5 ⟨rfl, hb5⟩
    go_wp2
    go_ret2
    exact ⟨s, r2, rfl, hs, hrs2, (hb3.out.trans (hb4.mono hb3.out.size)).trans (hb5.mono (Nat.le_trans hb3.out.size hb4.size))⟩
  | 2, _ =>
    go_wp2_with fail
    refine HT2.out.mono ?_; rintro e w4 ⟨t, p2, rfl, ht, _, _, ho4⟩
    go_wp2
    go_ret2
    exact ⟨s, t, rfl, hs, ht, ho4.below hb3.out (Nat.le_refl _) hb3.out.size⟩
set_option maxHeartbeats 2000000 in
theorem drawPathJoin_c (w : World) (a : Option Addr) (n c : Nat) (h : Code w a n c) : Calls Tryd.prog 39 #[.slice a n c] w (Str2 w) := by
  have HO := Lib.hid (open_c' w a n c h)
  clear h
  go_enter Tryd.func39, Tryd.ntmps39
  go_wp2_with fail
  refine HO.out.mono ?_; rintro e w1 ⟨rfl, hrd, hb⟩
  have HT := Lib.hid (l1Text_c w1 w.heap.size 0 hrd (by omega))
  clear hrd
  go_wp2_with fail
  refine HT.out.mono ?_; rintro e w2 ⟨s, p, rfl, hs, hp, hrd2, ho2⟩
  have hb2 := Lib.hid (ho2.below hb (Nat.le_refl _) hb.size)
  have hg2 := hrd2.lt
  have HF := Lib.hid (fun (cs : Array Value) (n : Nat) (hn : Hid (cs.size = n)) h0 h1 hs => of_c (w2.alloc (.cells cs 9)) w.heap.size p w2.heap.size n cs 9 (hrd2.alloc _) (by omega) (heap_alloc_new w2 _) (by omega) hn.out h0 h1 hs)
  clear hrd2 ho2
  go_wp2_with fail
  refine (HF.out _ _ (by exact Lib.hid rfl) (by decide) (by decide) (by rfl)).mono ?_
  rintro e w3 ⟨t, p3, rfl, ht, _, _, ho3⟩
  go_wp2
  go_ret2
  exact ⟨s, t, rfl, hs, ht, ho3.below (hb2.out.alloc hb2.out.size _) (Nat.le_refl _) (by simp; omega)⟩
set_option maxHeartbeats 2000000 in
theorem drawPathMove_c (w : World) (a : Option Addr) (n c : Nat) (h : Code w a n c) : Calls Tryd.prog 37 #[.slice a n c] w (Str3 w) := by
  have HO := Lib.hid (open_c' w a n c h)
  clear h
  go_enter Tryd.func37, Tryd.ntmps37
  go_wp2_with fail
  refine HO.out.mono ?_; rintro e w1 ⟨rfl, hrd, hb⟩
  have HT := Lib.hid (l1Text_c w1 w.heap.size 0 hrd (by omega))
  clear hrd
  go_wp2_with fail
  refine HT.out.mono ?_; rintro e w2 ⟨s, p, rfl, hs, hp, hrd2, ho2⟩
  have hb2 := Lib.hid (ho2.below hb (Nat.le_refl _) hb.size)
  have HT2 := Lib.hid (l1Text_c w2 w.heap.size p hrd2 (by omega))
  clear hrd2 ho2
  go_wp2_with fail
  refine HT2.out.mono ?_; rintro e w3 ⟨f, p3, rfl, hf, hp3, hrd3, ho3⟩
  have hb3 := Lib.hid (ho3.below hb2.out (Nat.le_refl _) hb2.out.size)
  have HK := Lib.hid (pick_c w3 w.heap.size p3 2 hrd3 (by omega) (by omega) (by omega))
  clear hrd3 ho3
  go_wp2_with fail
  refine HK.out.mono ?_; rintro e w4 ⟨m, rfl, _, _, hrd4, ho4⟩
  have hb4 := Lib.hid (ho4.below hb3.out (Nat.le_refl _) hb3.out.size)
  have hsm : s.size ≤ maxLen := by unfold maxLen; omega
  have hlt4 := hrd4.lt
  by_cases hm0 : m = 0
  · subst hm0
    cases hpo : pathOkL s.data.toList with
    | false =>
      have HP := Lib.hid hpo
      clear hpo
      have Hrd4 := Lib.hid hrd4
      clear hrd4 ho4
      go_wp2_with fail
      refine (sPathOk_c s false HP _ hsm).mono ?_; rintro e w5 ⟨rfl, hb5⟩
      have HT3 := Lib.hid (l1Text_c w5 w.heap.size (p3 + 1) (Hrd4.out.keep hb5 hlt4) (by omega))
      go_wp2_with fail
      refine HT3.out.mono ?_; rintro e w6 ⟨u, p6, rfl, hu, _, _, ho6⟩
      have hB5 := hb4.out.trans (hb5.mono hb4.out.size)
      go_wp2
      go_ret3
      exact ⟨s, f, u, rfl, hs, hf, hu, ho6.below hB5 (Nat.le_refl _) hB5.size⟩
    | true =>
      have HP := Lib.hid hpo
      clear hpo
      have Hrd4 := Lib.hid hrd4
      clear hrd4 ho4
      obtain ⟨r, hr, hrs⟩ := up_small s
      have HR := Lib.hid hr
      clear hr
      go_wp2_with fail
      refine (sPathOk_c s true HP _ hsm).mono ?_; rintro e w5 ⟨rfl, hb5⟩
      have HB5 := Lib.hid (hb4.out.trans (hb5.mono hb4.out.size))
      have hrd5 := Lib.hid (Hrd4.out.keep hb5 hlt4)
      go_wp2_with fail
      refine (sPathUp_c s r HR _ hsm).mono ?_; rintro e w6 ⟨rfl, hb6⟩
      have HT3 := Lib.hid (l1Text_c w6 w.heap.size (p3 + 1) (hrd5.out.keep hb6 hrd5.out.lt) (by omega))
      go_wp2_with fail
      refine HT3.out.mono ?_; rintro e w7 ⟨u, p7, rfl, hu, _, _, ho7⟩
      have hB6 := HB5.out.trans (hb6.mono HB5.out.size)
      go_wp2
      go_ret3
      exact ⟨s, r, u, rfl, hs, hrs, hu, ho7.below hB6 (Nat.le_refl _) hB6.size⟩
  · have hmz : ((m : Int) == 0) = false := by rw [beq_eq_false_iff_ne]; omega
    have HT3 := Lib.hid (l1Text_c w4 w.heap.size (p3 + 1) hrd4 (by omega))
    clear hrd4 ho4
    go_wp2_with fail
    refine HT3.out.mono ?_; rintro e w6 ⟨u, p6, rfl, hu, _, _, ho6⟩
    go_wp2
    go_ret3
    exact ⟨s, f, u, rfl, hs, hf, hu, ho6.below hb4.out (Nat.le_refl _) hb4.out.size⟩
end Go.Proofs.YtacmebjlbghloaaDoor
