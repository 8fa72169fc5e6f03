/- The walks of what turns the laws' own structs into the program's, and of what holds lists against one another. Conditions: lists are short. -/
import Derived.Test.YtkhbkhibjflgmaaDoorRec
import Derived.Deep.QuietTactic
import Derived.BigQuiet
import Derived.Laws.MakeOwn
namespace Go.Proofs.YtkhbkhibjflgmaaDoor
open Go.RowKit
theorem set3 {l : List Value} {k : Nat} (h : k * 3 + 3 ≤ l.length) (a b c : Value) : (((l.set (k * 3) a).set (k * 3 + 1) b).set (k * 3 + 2) c).take ((k + 1) * 3) = l.take (k * 3) ++ [a, b, c] := by
  apply List.ext_getElem?
  intro i
  rw [List.getElem?_take, List.getElem?_append, List.length_take, Nat.min_eq_left (by omega)]
  simp only [List.getElem?_set, List.length_set, List.getElem?_take]
  by_cases h1 : i < k * 3
  · rw [if_pos (by omega), if_neg (by omega), if_neg (by omega), if_neg (by omega), if_pos h1, if_pos h1]
  · rw [if_neg h1]
    by_cases h2 : i = k * 3
    · subst h2
      rw [if_pos (by omega), if_neg (by omega), if_neg (by omega), if_pos rfl, if_pos (by omega)]
      simp
    · by_cases h3 : i = k * 3 + 1
      · subst h3
        rw [if_pos (by omega), if_neg (by omega), if_pos rfl, if_pos (by omega)]
        simp
      · by_cases h4 : i = k * 3 + 2
        · subst h4
          rw [if_pos (by omega), if_pos rfl, if_pos (by omega)]
          simp
        · rw [if_neg (by omega), List.getElem?_eq_none (by simp; omega)]
theorem flatMap_len {α : Type} {f : α → List Value} (hf : ∀ x, (f x).length = 3) (xs : List α) : (xs.flatMap f).length = xs.length * 3 := by
  induction xs with
  | nil => rfl
  | cons x r ih => simp [ih, hf]; omega
theorem flatMap_take {α : Type} (f : α → List Value) (xs : List α) (k : Nat) (e : α) (h : xs[k]? = some e) : (xs.take (k + 1)).flatMap f = (xs.take k).flatMap f ++ f e := by
  have hk : k < xs.length := (List.getElem?_eq_some_iff.1 h).1
  have he : xs[k] = e := (List.getElem?_eq_some_iff.1 h).2
  rw [List.take_succ_eq_append_getElem hk, he]
  simp
/-- A row under way: the first k of n structs of three cells are laid. -/
def Fill {α : Type} (f : α → List Value) (t : TypeId) (w : World) (g n : Nat) (xs : List α) (k : Nat) : Prop :=
  ∃ cs : Array Value, w.heap[g]? = some (.cells cs t (0, 0)) ∧ cs.size = n * 3 ∧ cs.toList.take (k * 3) = (xs.take k).flatMap f
theorem Fill.facts {α : Type} {f : α → List Value} {t : TypeId} {w : World} {g n : Nat} {xs : List α} {k : Nat} (h : Fill f t w g n xs k) (hk : k < n) :
    g < w.heap.size ∧ (∃ v, w.cell? ⟨g, k * 3, none⟩ = some v) ∧ (∃ v, w.cell? ⟨g, k * 3 + 1, none⟩ = some v) ∧ (∃ v, w.cell? ⟨g, k * 3 + 2, none⟩ = some v) ∧ (∀ j, w.frozen? ⟨g, j, none⟩ = false) := by
  obtain ⟨cs, h1, h2, _⟩ := h
  have hl : g < w.heap.size := by
    rcases Nat.lt_or_ge g w.heap.size with h | h
    · exact h
    · rw [Array.getElem?_eq_none h] at h1; cases h1
  refine ⟨hl, ⟨cs[k * 3], ?_⟩, ⟨cs[k * 3 + 1], ?_⟩, ⟨cs[k * 3 + 2], ?_⟩, fun j => by simp [World.frozen?, h1]⟩
  · rw [cell_of_row _ _ _ _ _ _ h1]; exact Array.getElem?_eq_getElem (by omega)
  · rw [cell_of_row _ _ _ _ _ _ h1]; exact Array.getElem?_eq_getElem (by omega)
  · rw [cell_of_row _ _ _ _ _ _ h1]; exact Array.getElem?_eq_getElem (by omega)
theorem Fill.keep {α : Type} {f : α → List Value} {t : TypeId} {w w' : World} {g n : Nat} {xs : List α} {k : Nat} (h : Fill f t w g n xs k) (hb : Below w.heap.size w w') : Fill f t w' g n xs k := by
  obtain ⟨cs, h1, h2, h3⟩ := h
  have hl : g < w.heap.size := by
    rcases Nat.lt_or_ge g w.heap.size with h | h
    · exact h
    · rw [Array.getElem?_eq_none h] at h1; cases h1
  exact ⟨cs, (hb.block g hl).trans h1, h2, h3⟩
theorem Fill.store {α : Type} {f : α → List Value} {t : TypeId} {w : World} {g n : Nat} {xs : List α} {k : Nat} (h : Fill f t w g n xs k) (hk : k < n) {e : α} (he : xs[k]? = some e) {a b c : Value} (hf : f e = [a, b, c]) :
    Fill f t (((w.setCell ⟨g, k * 3, none⟩ a).setCell ⟨g, k * 3 + 1, none⟩ b).setCell ⟨g, k * 3 + 2, none⟩ c) g n xs (k + 1) := by
  obtain ⟨cs, h1, h2, h3⟩ := h
  refine ⟨((cs.setIfInBounds (k * 3) a).setIfInBounds (k * 3 + 1) b).setIfInBounds (k * 3 + 2) c, ?_, by simpa using h2, ?_⟩
  · simp [World.setCell, Array.getElem?_modify, h1]
  · rw [flatMap_take f xs k e he, hf, ← h3]
    simp only [Array.toList_setIfInBounds]
    exact set3 (by simp [h2]; omega) a b c
theorem Fill.own {α : Type} {f : α → List Value} {t : TypeId} {w : World} {g n B : Nat} {xs : List α} (h : Fill f t w g n xs n) (hn : xs.length = n) (hf : ∀ x, (f x).length = 3) (hB : B ≤ g) (hm : n ≤ maxLen) :
    w.ownsRow B t 3 (.slice (some ⟨g, 0, none⟩) n n) xs.length (xs.flatMap f) := by
  obtain ⟨cs, h1, h2, h3⟩ := h
  refine ⟨flatMap_len hf xs, .inr ⟨g, n, cs, by rw [hn], hB, h1, by omega, hm, h2, ?_⟩⟩
  rw [hn, h3, ← hn, List.take_length]
set_option maxHeartbeats 1000000 in
theorem toEnt_c (e : En) (w : World) :
    Calls Tryd.prog 76 #[e.val] w fun r w' => r = .returned e.val ∧ Below w.heap.size w w' := by
  obtain ⟨p, d, x⟩ := e
  go_enter Tryd.func76, Tryd.ntmps76
  go_wp2
  refine bodyPost_ret (v := .agg #[.string p, .bool d, .string x]) (by simp [results, Tryd.results76, go_sem]) rfl ⟨rfl, ?_⟩
  repeat (first | exact Below.refl _ _ | refine Below.alloc ?_ (by simp; try omega) _)
/-- A row of the call's own that reads as entries. -/
def OwnEn (w : World) (B : Nat) (v : Value) (xs : List En) : Prop := w.ownsRow B 30 3 v xs.length (xs.flatMap En.cells)
theorem infoEn : (Tryd.prog.info? 30).map (fun i => (i.zero, i.size, i.bytes)) = some (some (.agg #[.string ByteArray.empty, .bool false, .string ByteArray.empty]), 3, 40) := by kernel_rfl
theorem eltEn : Elt Tryd.prog 25 30 3 40 := by
  obtain ⟨i, h1, h2, h3, h4⟩ := info_parts infoEn
  exact ⟨Tryd.underlying25, ⟨i, _, h1, h2, h3, h4, rfl⟩, by decide, by decide⟩
theorem makeEn (n : Nat) (hn : n ≤ 2000000) (W : World) : (Instr.makeSlice 25 (.int .i64 (n : Int)) (.int .i64 (n : Int))).run Tryd.prog W = .ok (.slice (some ⟨W.heap.size, 0, none⟩) n n) (W.alloc (.cells (madeCells #[.string ByteArray.empty, .bool false, .string ByteArray.empty] (n * 3)) 30)) := by
  obtain ⟨i0, hi, hz0, hz1, hz2⟩ := info_parts infoEn
  have hr := run_make (P := Tryd.prog) W 25 30 i0 _ Tryd.underlying25 hi hz0 .i64 .i64 (n : Int) (n : Int) (by omega) (by omega) (by rw [hz2]; omega) (by omega)
  simp only [Int.toNat_natCast, hz1] at hr
  exact hr
set_option maxHeartbeats 1000000 in
theorem toEntS_c (a : Option Addr) (c : Nat) (xs : List En) (w : World) (hs : SlF En.cells w a xs) (hn : xs.length ≤ 2000000) :
    Calls Tryd.prog 21 #[.slice a xs.length c] w fun r w' => r = .returned (.slice (some ⟨w.heap.size, 0, none⟩) xs.length xs.length) ∧ OwnEn w' w.heap.size (.slice (some ⟨w.heap.size, 0, none⟩) xs.length xs.length) xs ∧ Below w.heap.size w w' := by
  obtain ⟨n, hxn⟩ : ∃ n, xs.length = n := ⟨_, rfl⟩
  unfold OwnEn
  rw [hxn] at hn ⊢
  have HN := Lib.hid hxn
  have HS := Lib.hid hs
  clear hxn hs
  have hmk := makeEn n hn
  have h0 : Hid (Fill En.cells 30 (w.alloc (.cells (madeCells #[.string ByteArray.empty, .bool false, .string ByteArray.empty] (n * 3)) 30)) w.heap.size n xs 0) :=
    ⟨_, heap_alloc_new w _, size_madeCells _ _, by simp⟩
  have HO := Lib.hid (fun (W : World) (h : Fill En.cells 30 W w.heap.size n xs n) => h.own (B := w.heap.size) HN.out (fun _ => rfl) (Nat.le_refl _) (by unfold maxLen; omega))
  go_enter Tryd.func21, Tryd.ntmps21
  go_wp2
  clear hmk
  go_loopw [4] (fun i wr => ∃ k : Nat, k ≤ n ∧ i = .int .i64 k ∧ Fill En.cells 30 wr w.heap.size n xs k ∧ Below w.heap.size w wr) (fun i _ => n - (intOf i).toNat)
  case atStart => exact ⟨0, Nat.zero_le _, rfl, h0.out, bellow_alloc _ _⟩
  case round =>
    obtain ⟨k, hk, rfl, hfill, hb⟩ := hrel
    by_cases hlt : k < n
    · obtain ⟨e, hee⟩ : ∃ e, xs[k]? = some e := ⟨_, List.getElem?_eq_getElem (by rw [HN.out]; exact hlt)⟩
      have h2 := (HS.out.below hb)
      obtain ⟨b, off, rfl, _⟩ := h2.addr (by rw [HN.out]; omega)
      obtain ⟨c0, c1, c2⟩ := en_at h2 k e hee
      clear h2
      go_wp2_with fail
      refine (toEnt_c e _).mono ?_; rintro r W ⟨rfl, hq⟩; have hb' := chn hb hq
      have hf2 := hfill.keep hq
      obtain ⟨hlt2, ⟨v0, q0⟩, ⟨v1, q1⟩, ⟨v2, q2⟩, hfz⟩ := hf2.facts hlt
      have f0 := hfz (k * 3)
      have f1 := hfz (k * 3 + 1)
      have f2 := hfz (k * 3 + 2)
      have HF := Lib.hid (hf2.store hlt hee rfl)
      clear hfill hf2 hfz hq hb c0 c1 c2
      go_wp2
      go_roundw
      case rel => exact ⟨k + 1, by omega, by go_num, HF.out, ((hb'.setCell (Nat.le_refl _) _).setCell (Nat.le_refl _) _).setCell (Nat.le_refl _) _⟩
      case measure => simp [intOf]; omega
    · obtain rfl : k = n := by omega
      have HF := Lib.hid (HO.out _ hfill)
      rw [HN.out] at HF
      clear hfill
      go_wp2
      go_ret
      exact ⟨rfl, HF.out, hb⟩
set_option maxHeartbeats 1000000 in
theorem toMark_c (e : Mk) (w : World) :
    Calls Tryd.prog 84 #[e.val] w fun r w' => r = .returned e.val ∧ Below w.heap.size w w' := by
  obtain ⟨p, d, x⟩ := e
  go_enter Tryd.func84, Tryd.ntmps84
  go_wp2
  refine bodyPost_ret (v := .agg #[.string p, .int .i64 d, .string x]) (by simp [results, Tryd.results84, go_sem]) rfl ⟨rfl, ?_⟩
  repeat (first | exact Below.refl _ _ | refine Below.alloc ?_ (by simp; try omega) _)
/-- A row of the call's own that reads as entries. -/
def OwnMk (w : World) (B : Nat) (v : Value) (xs : List Mk) : Prop := w.ownsRow B 49 3 v xs.length (xs.flatMap Mk.cells)
theorem infoMk : (Tryd.prog.info? 49).map (fun i => (i.zero, i.size, i.bytes)) = some (some (.agg #[.string ByteArray.empty, .int .i64 0, .string ByteArray.empty]), 3, 40) := by kernel_rfl
theorem eltMk : Elt Tryd.prog 38 49 3 40 := by
  obtain ⟨i, h1, h2, h3, h4⟩ := info_parts infoMk
  exact ⟨Tryd.underlying38, ⟨i, _, h1, h2, h3, h4, rfl⟩, by decide, by decide⟩
theorem makeMk (n : Nat) (hn : n ≤ 2000000) (W : World) : (Instr.makeSlice 38 (.int .i64 (n : Int)) (.int .i64 (n : Int))).run Tryd.prog W = .ok (.slice (some ⟨W.heap.size, 0, none⟩) n n) (W.alloc (.cells (madeCells #[.string ByteArray.empty, .int .i64 0, .string ByteArray.empty] (n * 3)) 49)) := by
  obtain ⟨i0, hi, hz0, hz1, hz2⟩ := info_parts infoMk
  have hr := run_make (P := Tryd.prog) W 38 49 i0 _ Tryd.underlying38 hi hz0 .i64 .i64 (n : Int) (n : Int) (by omega) (by omega) (by rw [hz2]; omega) (by omega)
  simp only [Int.toNat_natCast, hz1] at hr
  exact hr
set_option maxHeartbeats 1000000 in
theorem toMarkS_c (a : Option Addr) (c : Nat) (xs : List Mk) (w : World) (hs : SlF Mk.cells w a xs) (hn : xs.length ≤ 2000000) :
    Calls Tryd.prog 29 #[.slice a xs.length c] w fun r w' => r = .returned (.slice (some ⟨w.heap.size, 0, none⟩) xs.length xs.length) ∧ OwnMk w' w.heap.size (.slice (some ⟨w.heap.size, 0, none⟩) xs.length xs.length) xs ∧ Below w.heap.size w w' := by
  obtain ⟨n, hxn⟩ : ∃ n, xs.length = n := ⟨_, rfl⟩
  unfold OwnMk
  rw [hxn] at hn ⊢
  have HN := Lib.hid hxn
  have HS := Lib.hid hs
  clear hxn hs
  have hmk := makeMk n hn
  have h0 : Hid (Fill Mk.cells 49 (w.alloc (.cells (madeCells #[.string ByteArray.empty, .int .i64 0, .string ByteArray.empty] (n * 3)) 49)) w.heap.size n xs 0) :=
    ⟨_, heap_alloc_new w _, size_madeCells _ _, by simp⟩
  have HO := Lib.hid (fun (W : World) (h : Fill Mk.cells 49 W w.heap.size n xs n) => h.own (B := w.heap.size) HN.out (fun _ => rfl) (Nat.le_refl _) (by unfold maxLen; omega))
  go_enter Tryd.func29, Tryd.ntmps29
  go_wp2
  clear hmk
  go_loopw [4] (fun i wr => ∃ k : Nat, k ≤ n ∧ i = .int .i64 k ∧ Fill Mk.cells 49 wr w.heap.size n xs k ∧ Below w.heap.size w wr) (fun i _ => n - (intOf i).toNat)
  case atStart => exact ⟨0, Nat.zero_le _, rfl, h0.out, bellow_alloc _ _⟩
  case round =>
    obtain ⟨k, hk, rfl, hfill, hb⟩ := hrel
    by_cases hlt : k < n
    · obtain ⟨e, hee⟩ : ∃ e, xs[k]? = some e := ⟨_, List.getElem?_eq_getElem (by rw [HN.out]; exact hlt)⟩
      have h2 := (HS.out.below hb)
      obtain ⟨b, off, rfl, _⟩ := h2.addr (by rw [HN.out]; omega)
      obtain ⟨c0, c1, c2⟩ := mk_at h2 k e hee
      clear h2
      go_wp2_with fail
      refine (toMark_c e _).mono ?_; rintro r W ⟨rfl, hq⟩; have hb' := chn hb hq
      have hf2 := hfill.keep hq
      obtain ⟨hlt2, ⟨v0, q0⟩, ⟨v1, q1⟩, ⟨v2, q2⟩, hfz⟩ := hf2.facts hlt
      have f0 := hfz (k * 3)
      have f1 := hfz (k * 3 + 1)
      have f2 := hfz (k * 3 + 2)
      have HF := Lib.hid (hf2.store hlt hee rfl)
      clear hfill hf2 hfz hq hb c0 c1 c2
      go_wp2
      go_roundw
      case rel => exact ⟨k + 1, by omega, by go_num, HF.out, ((hb'.setCell (Nat.le_refl _) _).setCell (Nat.le_refl _) _).setCell (Nat.le_refl _) _⟩
      case measure => simp [intOf]; omega
    · obtain rfl : k = n := by omega
      have HF := Lib.hid (HO.out _ hfill)
      rw [HN.out] at HF
      clear hfill
      go_wp2
      go_ret
      exact ⟨rfl, HF.out, hb⟩
end Go.Proofs.YtkhbkhibjflgmaaDoor
