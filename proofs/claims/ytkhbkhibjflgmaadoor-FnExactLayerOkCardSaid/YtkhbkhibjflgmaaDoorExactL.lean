/- The walks of the exact laws of LayerOk and LayerHides. Conditions: lists and texts are no longer than any can be. -/
import Derived.Test.YtkhbkhibjflgmaaDoorExactS
import Derived.Test.YtkhbkhibjflgmaaDoorLayD
namespace Go.Proofs.YtkhbkhibjflgmaaDoor
open Go.RowKit
theorem sum_mem {α : Type} (f : α → Nat) {xs : List α} {e : α} (h : e ∈ xs) : f e ≤ sumW f xs := by
  induction xs with
  | nil => cases h
  | cons x r ih =>
    rcases List.mem_cons.1 h with rfl | h
    · simp [sumW]
    · have := ih h; simp [sumW]; omega
theorem mk_small {xs : List Mk} (h : (xs.length : Int) + sumW mkW xs ≤ 1048576) : ∀ e ∈ xs, e.p.size ≤ 2000000 ∧ e.x.size ≤ 2000000 := fun e he => by
  have h2 := sum_mem mkW he
  have h3 : mkW e = e.p.size + e.x.size := rfl
  omega
set_option maxRecDepth 100000 in
set_option maxHeartbeats 4000000 in
theorem exactLayerOk_w (a : Option Addr) (c : Nat) (xs : List Mk) (w : World) (hs : SlF Mk.cells w a xs) (hx : xs.length ≤ maxLen) (hz : ∀ e ∈ xs, e.p.size ≤ maxLen ∧ e.x.size ≤ maxLen) :
    Calls Tryd.prog 5 #[.slice a xs.length c] w (TrueS w) := by
  have hb := Below.refl w.heap.size w
  obtain ⟨r, hr⟩ := lok_dec xs
  have HR := Lib.hid hr
  clear hr
  by_cases h1 : 1048576 < (xs.length : Int) + sumW mkW xs
  · have H := Lib.hid (szMarkS_no a c xs 1048576 (by omega) (by omega) h1 w hs hx hz)
    obtain ⟨n, hn⟩ : ∃ n, xs.length = n := ⟨_, rfl⟩
    rw [hn] at H ⊢
    clear hn hs hx hz h1
    go_enter Tryd.func5, Tryd.ntmps5
    go_wp2_with fail
    refine (H.out).mono ?_; rintro e W ⟨rfl, hq⟩; replace hb := chn hb hq; clear hq
    go_wp2
    go_ret
    exact ⟨rfl, hb⟩
  have hl1 : (xs.length : Int) + sumW mkW xs ≤ 1048576 := by omega
  have H1 := Lib.hid (szMarkS_yes a c xs 1048576 (by omega) hl1 w hs)
  obtain ⟨l2, hl2⟩ : ∃ l2 : Int, (1048576 : Int) - xs.length - sumW mkW xs = l2 := ⟨_, rfl⟩
  rw [hl2] at H1
  have hl20 : 0 ≤ l2 := by omega
  have hxn : xs.length ≤ 2000000 := by omega
  have hz2 := mk_small hl1
  have hT := fun W (h : SlF Mk.cells W a xs) => Lib.hid (toMarkS_b a c xs W h hxn)
  have hSs := fun W a (h : SlF Mk.cells W a xs) => Lib.hid (sLayerOk_c a xs.length xs r HR W h hx (Nat.le_refl _) hz2)
  have hSi := fun W a c (h : SlF Mk.cells W a xs) => Lib.hid (layerOk_c a c xs r HR W h hx hz2)
  have hE := fun W a a' c c' (h : SlF Mk.cells W a xs) (h' : SlF Mk.cells W a' xs) => Lib.hid (eqMarkS_c a a' c c' xs xs true (Lib.hid ⟨fun _ => rfl, fun _ => rfl⟩) W h h' hx hx)
  obtain ⟨n, hn⟩ : ∃ n, xs.length = n := ⟨_, rfl⟩
  rw [hn] at H1 hT hSs hSi hE ⊢
  have GT := Lib.hid hT
  have GS := Lib.hid hSs
  have GI := Lib.hid hSi
  have GE := Lib.hid hE
  clear hn hx hz hz2 h1 hl1 hl2 hT hSs hSi hE hxn
  cases r
  all_goals
    go_enter Tryd.func5, Tryd.ntmps5
    go_wp2_with fail
    refine (H1.out).mono ?_; rintro e W ⟨rfl, hq⟩; replace hb := chn hb hq; replace hs := SlF.below hs hq; clear hq
    go_wp2_with fail
    refine ((GT.out _ hs).out).mono ?_; rintro e W ⟨rfl, y0, hq⟩; replace hb := chn hb hq; replace hs := SlF.below hs hq; clear hq
    go_wp2_with fail
    refine ((GS.out _ _ y0).out).mono ?_; rintro e W ⟨rfl, hq⟩; replace hb := chn hb hq; replace hs := SlF.below hs hq; clear hq
    clear y0
    go_wp2_with fail
    refine ((GT.out _ hs).out).mono ?_; rintro e W ⟨rfl, x0, hq⟩; replace hb := chn hb hq; replace hs := SlF.below hs hq; clear hq
    go_wp2_with fail
    refine ((GI.out _ _ _ x0).out).mono ?_; rintro e W ⟨rfl, hq⟩; replace hb := chn hb hq; replace hs := SlF.below hs hq; replace x0 := SlF.below x0 hq; clear hq
    go_wp2_with fail
    refine ((GT.out _ hs).out).mono ?_; rintro e W ⟨rfl, z0, hq⟩; replace hb := chn hb hq; replace hs := SlF.below hs hq; replace x0 := SlF.below x0 hq; clear hq
    go_wp2_with fail
    refine ((GE.out _ _ _ _ _ x0 z0).out).mono ?_; rintro e W ⟨rfl, hq⟩; replace hb := chn hb hq; replace hs := SlF.below hs hq; clear hq
    clear z0 x0
    go_wp2
    go_ret
    exact ⟨rfl, hb⟩
set_option maxRecDepth 100000 in
set_option maxHeartbeats 4000000 in
theorem exactLayerHides_w (a : Option Addr) (c : Nat) (xs : List Mk) (q : ByteArray) (w : World) (hs : SlF Mk.cells w a xs) (hx : xs.length ≤ maxLen) (hz : ∀ e ∈ xs, e.p.size ≤ maxLen ∧ e.x.size ≤ maxLen) (hq0 : q.size ≤ maxLen) :
    Calls Tryd.prog 6 #[.slice a xs.length c, .string q] w (TrueS w) := by
  have hb := Below.refl w.heap.size w
  unfold maxLen at hq0
  by_cases hq1 : 1048576 < q.size
  · clear hs hx hz
    go_enter Tryd.func6, Tryd.ntmps6
    go_wp2
    go_ret
    exact ⟨rfl, hb⟩
  have hq2 : q.size ≤ 2000000 := by omega
  obtain ⟨r, hr⟩ : ∃ r : Bool, r = true ↔ LOk (xs.map Mk.pl) ∧ hidesL (xs.map Mk.pl) q.data.toList = true := ⟨by classical exact decide (LOk (xs.map Mk.pl) ∧ hidesL (xs.map Mk.pl) q.data.toList = true), by simp⟩
  have HR := Lib.hid hr
  clear hr
  by_cases h1 : 1048576 < (xs.length : Int) + sumW mkW xs
  · have H := Lib.hid (szMarkS_no a c xs 1048576 (by omega) (by omega) h1 w hs hx hz)
    obtain ⟨n, hn⟩ : ∃ n, xs.length = n := ⟨_, rfl⟩
    rw [hn] at H ⊢
    clear hn hs hx hz h1
    go_enter Tryd.func6, Tryd.ntmps6
    go_wp2_with fail
    refine (H.out).mono ?_; rintro e W ⟨rfl, hq⟩; replace hb := chn hb hq; clear hq
    go_wp2
    go_ret
    exact ⟨rfl, hb⟩
  have hl1 : (xs.length : Int) + sumW mkW xs ≤ 1048576 := by omega
  have H1 := Lib.hid (szMarkS_yes a c xs 1048576 (by omega) hl1 w hs)
  obtain ⟨l2, hl2⟩ : ∃ l2 : Int, (1048576 : Int) - xs.length - sumW mkW xs = l2 := ⟨_, rfl⟩
  rw [hl2] at H1
  have hl20 : 0 ≤ l2 := by omega
  have hxn : xs.length ≤ 2000000 := by omega
  have hz2 := mk_small hl1
  have hT := fun W (h : SlF Mk.cells W a xs) => Lib.hid (toMarkS_b a c xs W h hxn)
  have hSs := fun W a (h : SlF Mk.cells W a xs) => Lib.hid (sLayerHides_c a xs.length xs q r HR W h hx (Nat.le_refl _) hq2 hz2)
  have hSi := fun W a c (h : SlF Mk.cells W a xs) => Lib.hid (layerHides_c a c xs q r HR W h hx hq2 hz2)
  have hE := fun W a a' c c' (h : SlF Mk.cells W a xs) (h' : SlF Mk.cells W a' xs) => Lib.hid (eqMarkS_c a a' c c' xs xs true (Lib.hid ⟨fun _ => rfl, fun _ => rfl⟩) W h h' hx hx)
  obtain ⟨n, hn⟩ : ∃ n, xs.length = n := ⟨_, rfl⟩
  rw [hn] at H1 hT hSs hSi hE ⊢
  have GT := Lib.hid hT
  have GS := Lib.hid hSs
  have GI := Lib.hid hSi
  have GE := Lib.hid hE
  clear hn hx hz hz2 h1 hl1 hl2 hT hSs hSi hE hxn hq2
  cases r
  all_goals
    go_enter Tryd.func6, Tryd.ntmps6
    go_wp2_with fail
    refine (H1.out).mono ?_; rintro e W ⟨rfl, hq⟩; replace hb := chn hb hq; replace hs := SlF.below hs hq; clear hq
    go_wp2_with fail
    refine ((GT.out _ hs).out).mono ?_; rintro e W ⟨rfl, y0, hq⟩; replace hb := chn hb hq; replace hs := SlF.below hs hq; clear hq
    go_wp2_with fail
    refine ((GS.out _ _ y0).out).mono ?_; rintro e W ⟨rfl, hq⟩; replace hb := chn hb hq; replace hs := SlF.below hs hq; clear hq
    clear y0
    go_wp2_with fail
    refine ((GT.out _ hs).out).mono ?_; rintro e W ⟨rfl, x0, hq⟩; replace hb := chn hb hq; replace hs := SlF.below hs hq; clear hq
    go_wp2_with fail
    refine ((GI.out _ _ _ x0).out).mono ?_; rintro e W ⟨rfl, hq⟩; replace hb := chn hb hq; replace hs := SlF.below hs hq; replace x0 := SlF.below x0 hq; clear hq
    go_wp2_with fail
    refine ((GT.out _ hs).out).mono ?_; rintro e W ⟨rfl, z0, hq⟩; replace hb := chn hb hq; replace hs := SlF.below hs hq; replace x0 := SlF.below x0 hq; clear hq
    go_wp2_with fail
    refine ((GE.out _ _ _ _ _ x0 z0).out).mono ?_; rintro e W ⟨rfl, hq⟩; replace hb := chn hb hq; replace hs := SlF.below hs hq; clear hq
    clear z0 x0
    go_wp2
    go_ret
    exact ⟨rfl, hb⟩
end Go.Proofs.YtkhbkhibjflgmaaDoor
