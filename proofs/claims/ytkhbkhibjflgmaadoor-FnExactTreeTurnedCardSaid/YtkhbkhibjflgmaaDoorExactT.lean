/- The walks of the exact laws of TreeOk and TreeGet. Conditions: lists and texts are no longer than any can be. -/
import Derived.Test.YtkhbkhibjflgmaaDoorExactS
import Derived.Test.YtkhbkhibjflgmaaDoorTreeG
namespace Go.Proofs.YtkhbkhibjflgmaaDoor
open Go.RowKit
theorem alloc_size (w : World) (o : Obj) : (w.alloc o).heap.size = w.heap.size + 1 := by simp
set_option maxRecDepth 100000 in
set_option maxHeartbeats 4000000 in
theorem exactTreeOk_w (a : Option Addr) (c : Nat) (xs : List En) (w : World) (hs : SlF En.cells w a xs) (hx : xs.length ≤ maxLen) (hz : ∀ e ∈ xs, e.p.size ≤ maxLen ∧ e.x.size ≤ maxLen) :
    Calls Tryd.prog 3 #[.slice a xs.length c] w (TrueS w) := by
  have hb := Below.refl w.heap.size w
  obtain ⟨r, hr⟩ := tok_dec xs
  have HR := Lib.hid hr
  clear hr
  by_cases h1 : 1048576 < (xs.length : Int) + sumW enW xs
  · have H := Lib.hid (szEntS_no a c xs 1048576 (by omega) (by omega) h1 w hs hx hz)
    obtain ⟨n, hn⟩ : ∃ n, xs.length = n := ⟨_, rfl⟩
    rw [hn] at H ⊢
    clear hn hs hx hz h1
    go_enter Tryd.func3, Tryd.ntmps3
    go_wp2_with fail
    refine (H.out).mono ?_; rintro e W ⟨rfl, hq⟩; replace hb := chn hb hq; clear hq
    go_wp2
    go_ret
    exact ⟨rfl, hb⟩
  have hl1 : (xs.length : Int) + sumW enW xs ≤ 1048576 := by omega
  have H1 := Lib.hid (szEntS_yes a c xs 1048576 (by omega) hl1 w hs)
  obtain ⟨l2, hl2⟩ : ∃ l2 : Int, (1048576 : Int) - xs.length - sumW enW xs = l2 := ⟨_, rfl⟩
  rw [hl2] at H1
  have hl20 : 0 ≤ l2 := by omega
  have hxn : xs.length ≤ 2000000 := by omega
  have hT := fun W (h : SlF En.cells W a xs) => Lib.hid (toEntS_b a c xs W h hxn)
  have hSs := fun W a (h : SlF En.cells W a xs) => Lib.hid (sTreeOk_c a xs.length xs r HR W h hx (Nat.le_refl _) hz)
  have hSi := fun W a c (h : SlF En.cells W a xs) => Lib.hid (treeOk_c a c xs r HR W h hx hz)
  have hE := fun W a a' c c' (h : SlF En.cells W a xs) (h' : SlF En.cells W a' xs) => Lib.hid (eqEntS_c a a' c c' xs xs true (Lib.hid ⟨fun _ => rfl, fun _ => rfl⟩) W h h' hx hx)
  obtain ⟨n, hn⟩ : ∃ n, xs.length = n := ⟨_, rfl⟩
  rw [hn] at H1 hT hSs hSi hE ⊢
  have GT := Lib.hid hT
  have GS := Lib.hid hSs
  have GI := Lib.hid hSi
  have GE := Lib.hid hE
  clear hn hx hz h1 hl1 hl2 hT hSs hSi hE hxn
  cases r
  all_goals
    go_enter Tryd.func3, Tryd.ntmps3
    go_wp2_with fail
    refine (H1.out).mono ?_; rintro e W ⟨rfl, hq⟩; replace hb := chn hb hq; replace hs := SlF.below hs hq; clear hq
    go_wp2_with fail
    refine ((GT.out _ hs).out).mono ?_; rintro e W ⟨rfl, y0, hq⟩; replace hb := chn hb hq; replace hs := SlF.below hs hq; clear hq
    go_wp2_with fail
    refine ((GS.out _ _ y0).out).mono ?_; rintro e W ⟨rfl, hq⟩; replace hb := chn hb hq; replace hs := SlF.below hs hq; clear hq
    clear y0
    go_wp2_with fail
    refine ((GT.out _ hs).out).mono ?_; rintro e W ⟨rfl, x0, hq⟩; replace hb := chn hb hq; replace hs := SlF.below hs hq; clear hq
    go_wp2_with fail
    refine ((GI.out _ _ _ x0).out).mono ?_; rintro e W ⟨rfl, hq⟩; replace hb := chn hb hq; replace hs := SlF.below hs hq; replace x0 := SlF.below x0 hq; clear hq
    go_wp2_with fail
    refine ((GT.out _ hs).out).mono ?_; rintro e W ⟨rfl, z0, hq⟩; replace hb := chn hb hq; replace hs := SlF.below hs hq; replace x0 := SlF.below x0 hq; clear hq
    go_wp2_with fail
    refine ((GE.out _ _ _ _ _ x0 z0).out).mono ?_; rintro e W ⟨rfl, hq⟩; replace hb := chn hb hq; replace hs := SlF.below hs hq; clear hq
    clear z0 x0
    go_wp2
    go_ret
    exact ⟨rfl, hb⟩
set_option maxRecDepth 100000 in
set_option maxHeartbeats 4000000 in
theorem exactTreeGet_w (a : Option Addr) (c : Nat) (xs : List En) (q : ByteArray) (w : World) (hs : SlF En.cells w a xs) (hx : xs.length ≤ maxLen) (hz : ∀ e ∈ xs, e.p.size ≤ maxLen ∧ e.x.size ≤ maxLen) (hq0 : q.size ≤ maxLen) :
    Calls Tryd.prog 4 #[.slice a xs.length c, .string q] w (TrueS w) := by
  have hb := Below.refl w.heap.size w
  unfold maxLen at hq0
  by_cases hq1 : 1048576 < q.size
  · clear hs hx hz
    go_enter Tryd.func4, Tryd.ntmps4
    go_wp2
    go_ret
    exact ⟨rfl, hb⟩
  obtain ⟨o, ho⟩ : ∃ o, tgetE xs q = o := ⟨_, rfl⟩
  have HO := Lib.hid ho
  clear ho
  by_cases h1 : 1048576 < (xs.length : Int) + sumW enW xs
  · have H := Lib.hid (szEntS_no a c xs 1048576 (by omega) (by omega) h1 w hs hx hz)
    obtain ⟨n, hn⟩ : ∃ n, xs.length = n := ⟨_, rfl⟩
    rw [hn] at H ⊢
    clear hn hs hx hz h1
    go_enter Tryd.func4, Tryd.ntmps4
    go_wp2_with fail
    refine (H.out).mono ?_; rintro e W ⟨rfl, hq⟩; replace hb := chn hb hq; clear hq
    go_wp2
    go_ret
    exact ⟨rfl, hb⟩
  have hl1 : (xs.length : Int) + sumW enW xs ≤ 1048576 := by omega
  have H1 := Lib.hid (szEntS_yes a c xs 1048576 (by omega) hl1 w hs)
  obtain ⟨l2, hl2⟩ : ∃ l2 : Int, (1048576 : Int) - xs.length - sumW enW xs = l2 := ⟨_, rfl⟩
  rw [hl2] at H1
  have hl20 : 0 ≤ l2 := by omega
  have hxn : xs.length ≤ 2000000 := by omega
  have hT := fun W (h : SlF En.cells W a xs) => Lib.hid (toEntS_b a c xs W h hxn)
  have hSs := fun W a (h : SlF En.cells W a xs) => Lib.hid (sTreeGet_c a xs.length xs q o HO W h hx (Nat.le_refl _) hz)
  have hSi := fun W a c (h : SlF En.cells W a xs) => Lib.hid (treeGet_c a c xs q o HO W h hx hz)
  have hE := fun W a a' c c' (h : SlF En.cells W a xs) (h' : SlF En.cells W a' xs) => Lib.hid (eqEntS_c a a' c c' xs xs true (Lib.hid ⟨fun _ => rfl, fun _ => rfl⟩) W h h' hx hx)
  obtain ⟨n, hn⟩ : ∃ n, xs.length = n := ⟨_, rfl⟩
  rw [hn] at H1 hT hSs hSi hE ⊢
  have GT := Lib.hid hT
  have GS := Lib.hid hSs
  have GI := Lib.hid hSi
  have GE := Lib.hid hE
  clear hn hx hz h1 hl1 hl2 hT hSs hSi hE hxn
  obtain ⟨⟨p, d, x⟩, b, he⟩ : ∃ (e : En) (b : Bool), optV o = .tuple #[e.val, .bool b] := by
    cases o with
    | none => exact ⟨⟨⟨#[]⟩, false, ⟨#[]⟩⟩, false, rfl⟩
    | some e => exact ⟨e, true, rfl⟩
  rw [he] at GS GI
  have GQ := Lib.hid (fun W => eqEnt_c ⟨p, d, x⟩ ⟨p, d, x⟩ true (Lib.hid ⟨fun _ => rfl, fun _ => rfl⟩) W)
  clear he HO
  cases b
  all_goals
    go_enter Tryd.func4, Tryd.ntmps4
    go_wp2_with fail
    refine (H1.out).mono ?_; rintro e W ⟨rfl, hq⟩; replace hb := chn hb hq; replace hs := SlF.below hs hq; clear hq
    go_wp2_with fail
    refine ((GT.out _ hs).out).mono ?_; rintro e W ⟨rfl, y0, hq⟩; replace hb := chn hb hq; replace hs := SlF.below hs hq; clear hq
    go_wp2_with fail
    refine ((GS.out _ _ y0).out).mono ?_; rintro e W ⟨rfl, hq⟩; replace hb := chn hb hq; replace hs := SlF.below hs hq; clear hq
    clear y0
    have a0 := new_cell W #[.string p, .bool d, .string x] 30 0 (.string p) rfl
    have a1 := new_cell W #[.string p, .bool d, .string x] 30 1 (.bool d) rfl
    have a2 := new_cell W #[.string p, .bool d, .string x] 30 2 (.string x) rfl
    replace hb := hb.alloc hb.size (.cells #[.string p, .bool d, .string x] 30); replace hs := SlF.below hs (bellow_alloc _ (.cells #[.string p, .bool d, .string x] 30)); 
    go_wp2_with fail
    refine ((GT.out _ hs).out).mono ?_; rintro e W ⟨rfl, x0, hq⟩; replace hb := chn hb hq; replace hs := SlF.below hs hq; replace a0 := keepc hq a0; replace a1 := keepc hq a1; replace a2 := keepc hq a2; clear hq
    rw [alloc_size] at x0
    go_wp2_with fail
    refine ((GI.out _ _ _ x0).out).mono ?_; rintro e W ⟨rfl, hq⟩; replace hb := chn hb hq; replace hs := SlF.below hs hq; replace x0 := SlF.below x0 hq; replace a0 := keepc hq a0; replace a1 := keepc hq a1; replace a2 := keepc hq a2; clear hq
    have b0 := new_cell W #[.string p, .bool d, .string x] 30 0 (.string p) rfl
    have b1 := new_cell W #[.string p, .bool d, .string x] 30 1 (.bool d) rfl
    have b2 := new_cell W #[.string p, .bool d, .string x] 30 2 (.string x) rfl
    replace hb := hb.alloc hb.size (.cells #[.string p, .bool d, .string x] 30); replace hs := SlF.below hs (bellow_alloc _ (.cells #[.string p, .bool d, .string x] 30)); replace x0 := SlF.below x0 (bellow_alloc _ (.cells #[.string p, .bool d, .string x] 30)); replace a0 := keepc (bellow_alloc _ (.cells #[.string p, .bool d, .string x] 30)) a0; replace a1 := keepc (bellow_alloc _ (.cells #[.string p, .bool d, .string x] 30)) a1; replace a2 := keepc (bellow_alloc _ (.cells #[.string p, .bool d, .string x] 30)) a2; 
    go_wp2_with fail
    refine (GQ.out _).mono ?_; rintro e W ⟨rfl, hq⟩; replace hb := chn hb hq; replace hs := SlF.below hs hq; replace x0 := SlF.below x0 hq; clear hq
    go_wp2_with fail
    refine ((GT.out _ hs).out).mono ?_; rintro e W ⟨rfl, z0, hq⟩; replace hb := chn hb hq; replace hs := SlF.below hs hq; replace x0 := SlF.below x0 hq; clear hq
    go_wp2_with fail
    refine ((GE.out _ _ _ _ _ x0 z0).out).mono ?_; rintro e W ⟨rfl, hq⟩; replace hb := chn hb hq; replace hs := SlF.below hs hq; clear hq
    clear z0 x0
    go_wp2
    go_ret
    exact ⟨rfl, hb⟩
end Go.Proofs.YtkhbkhibjflgmaaDoor
