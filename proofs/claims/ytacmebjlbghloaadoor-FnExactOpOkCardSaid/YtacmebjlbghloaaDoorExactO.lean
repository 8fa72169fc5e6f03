/- The walk of the exact law of OpOk. Conditions: texts are no longer than any text can be. -/
import Derived.Test.YtacmebjlbghloaaDoorOps
namespace Go.Proofs.YtacmebjlbghloaaDoor
open Go.RowKit
set_option maxHeartbeats 1000000 in
theorem szOp_yes (k : Int) (p t d : ByteArray) (l : Int) (hl : l ≤ 2000000) (h : (p.size : Int) + t.size + d.size ≤ l) (w : World) :
    Calls Tryd.prog 30 #[opV k p t d, .int .i64 l] w fun e w' => e = .returned (.int .i64 (l - p.size - t.size - d.size)) ∧ Below w.heap.size w w' := by
  go_enter Tryd.func30, Tryd.ntmps30
  go_wp2
  go_ret
  exact ⟨rfl, bellow_alloc _ _⟩
set_option maxHeartbeats 1000000 in
theorem szOp_no (k : Int) (p t d : ByteArray) (l : Int) (hl : l ≤ 2000000) (hl0 : 0 ≤ l) (h : l < (p.size : Int) + t.size + d.size) (w : World) (hp : p.size ≤ maxLen) (ht : t.size ≤ maxLen) (hd : d.size ≤ maxLen) :
    Calls Tryd.prog 30 #[opV k p t d, .int .i64 l] w fun e w' => e = .returned (.int .i64 (-1)) ∧ Below w.heap.size w w' := by
  unfold maxLen at hp ht hd
  by_cases h1 : l < (p.size : Int)
  · go_enter Tryd.func30, Tryd.ntmps30
    go_wp2
    go_ret
    exact ⟨rfl, bellow_alloc _ _⟩
  by_cases h2 : l < (p.size : Int) + t.size
  · go_enter Tryd.func30, Tryd.ntmps30
    go_wp2
    go_ret
    exact ⟨rfl, bellow_alloc _ _⟩
  · go_enter Tryd.func30, Tryd.ntmps30
    go_wp2
    go_ret
    exact ⟨rfl, bellow_alloc _ _⟩
set_option maxHeartbeats 1000000 in
theorem toOp_c (k : Int) (p t d : ByteArray) (w : World) :
    Calls Tryd.prog 32 #[opV k p t d] w fun e w' => e = .returned (opV k p t d) ∧ Below w.heap.size w w' := by
  go_enter Tryd.func32, Tryd.ntmps32
  go_wp2
  refine bodyPost_ret (v := opV k p t d) (by simp [results, Tryd.results32, go_sem]) rfl ⟨rfl, ?_⟩
  repeat (first | exact Below.refl _ _ | refine Below.alloc ?_ (by simp; try omega) _)
def TrueBelowO (w : World) (e : Ending) (w' : World) : Prop := e = .returned (.bool true) ∧ Below w.heap.size w w'
set_option maxHeartbeats 2000000 in
theorem exactOpOk_w (k : Int) (p t d : ByteArray) (w : World) (hp : p.size ≤ maxLen) (ht : t.size ≤ maxLen) (hd : d.size ≤ maxLen) :
    Calls Tryd.prog 9 #[opV k p t d] w (TrueBelowO w) := by
  have c0 := new_cell w (opBox k p t d) 31 0 _ rfl
  have c1 := new_cell w (opBox k p t d) 31 1 _ rfl
  have c2 := new_cell w (opBox k p t d) 31 2 _ rfl
  have c3 := new_cell w (opBox k p t d) 31 3 _ rfl
  have hb := bellow_alloc w (.cells (opBox k p t d) 31)
  by_cases h : 1048576 < (p.size : Int) + t.size + d.size
  · go_enter Tryd.func9, Tryd.ntmps9
    go_wp2_with fail
    refine (szOp_no k p t d 1048576 (by omega) (by omega) h _ hp ht hd).mono ?_; rintro e W ⟨rfl, hq⟩; replace hb := chn hb hq; clear hq
    go_wp2
    go_ret
    exact ⟨rfl, hb⟩
  · obtain ⟨r, hr⟩ : ∃ r, opOkL k p.data.toList t.data.toList d.data.toList = r := ⟨_, rfl⟩
    have HR := Lib.hid hr
    clear hr
    cases r
    all_goals
      go_enter Tryd.func9, Tryd.ntmps9
      go_wp2_with fail
      refine (szOp_yes k p t d 1048576 (by omega) (by omega) _).mono ?_; rintro e W ⟨rfl, hq⟩; replace hb := chn hb hq; replace c0 := keepc hq c0; replace c1 := keepc hq c1; replace c2 := keepc hq c2; replace c3 := keepc hq c3; clear hq
      go_wp2_with fail
      refine (toOp_c k p t d _).mono ?_; rintro e W ⟨rfl, hq⟩; replace hb := chn hb hq; replace c0 := keepc hq c0; replace c1 := keepc hq c1; replace c2 := keepc hq c2; replace c3 := keepc hq c3; clear hq
      go_wp2_with fail
      refine (sOpOk_c k p t d _ HR _ hp ht hd).mono ?_; rintro e W ⟨rfl, hq⟩; replace hb := chn hb hq; replace c0 := keepc hq c0; replace c1 := keepc hq c1; replace c2 := keepc hq c2; replace c3 := keepc hq c3; clear hq
      go_wp2_with fail
      refine (toOp_c k p t d _).mono ?_; rintro e W ⟨rfl, hq⟩; replace hb := chn hb hq; replace c0 := keepc hq c0; replace c1 := keepc hq c1; replace c2 := keepc hq c2; replace c3 := keepc hq c3; clear hq
      go_wp2_with fail
      refine (opOk_c k p t d _ HR _ hp ht hd).mono ?_; rintro e W ⟨rfl, hq⟩; replace hb := chn hb hq; clear hq
      go_wp2
      go_ret
      exact ⟨rfl, hb⟩
end Go.Proofs.YtacmebjlbghloaaDoor
