/- The walk of the reference's cut of a text at its strokes. Conditions: a text is short. -/
import Derived.Test.YtkhbkhibjflgmaaDoorPathB
namespace Go.Proofs.YtkhbkhibjflgmaaDoor
open Go.RowKit
theorem strElt : Elt Tryd.prog 55 9 1 16 := by
  obtain ⟨i, h1, h2, h3, h4⟩ := info_parts (show (Tryd.prog.info? 9).map (fun i => (i.zero, i.size, i.bytes)) = some (some (.string ByteArray.empty), 1, 16) by kernel_rfl)
  exact ⟨Tryd.underlying55, ⟨i, _, h1, h2, h3, h4, rfl⟩, by decide, by decide⟩
theorem cut_snoc47 (l : Bs) : cutL (l ++ [47]) = cutL l ++ [[]] := by
  induction l with
  | nil => rfl
  | cons x r ih =>
    rw [List.cons_append]
    by_cases h : x = 47
    · subst h; simp [cutL, ih]
    · rw [cutL, if_neg h, cutL, if_neg h, ih]
      cases hc : cutL r with
      | nil => exact absurd hc (cutL_ne r)
      | cons p ps => simp
theorem cut_snoc (l : Bs) (c : UInt8) (h : c ≠ 47) (d : List Bs) (p : Bs) (hc : cutL l = d ++ [p]) : cutL (l ++ [c]) = d ++ [p ++ [c]] := by
  induction l generalizing d p with
  | nil =>
    rw [show cutL [] = [[]] from rfl] at hc
    cases d with
    | nil => simp at hc; subst hc; simp [cutL, h]
    | cons y d => simp at hc
  | cons x r ih =>
    rw [List.cons_append]
    by_cases hx : x = 47
    · subst hx
      rw [cutL, if_pos rfl] at hc ⊢
      cases d with
      | nil => simp at hc; exact absurd hc.2 (cutL_ne r)
      | cons y d =>
        simp only [List.cons_append, List.cons.injEq] at hc ⊢
        exact ⟨hc.1, ih d p hc.2⟩
    · rw [cutL, if_neg hx] at hc ⊢
      cases hr : cutL r with
      | nil => exact absurd hr (cutL_ne r)
      | cons q qs =>
        rw [hr] at hc
        simp only at hc
        cases d with
        | nil =>
          simp only [List.nil_append, List.cons.injEq] at hc
          obtain ⟨rfl, rfl⟩ := hc
          rw [ih [] q (by rw [hr]; rfl)]
          rfl
        | cons y d =>
          simp only [List.cons_append, List.cons.injEq] at hc
          obtain ⟨rfl, rfl⟩ := hc
          rw [ih (q :: d) p (by rw [hr]; rfl)]
          rfl
/-- What has been cut when k bytes have been seen: the pieces, and where the last one begins. -/
def Seen (s : ByteArray) (k f : Nat) (d : List ByteArray) : Prop := f ≤ k ∧ cutL (s.data.toList.take k) = d.map (·.data.toList) ++ [(s.data.toList.take k).drop f] ∧ d.length ≤ k
theorem take_more (s : ByteArray) (k : Nat) (h : k < s.size) : s.data.toList.take (k + 1) = s.data.toList.take k ++ [s[k]] := by
  rw [List.take_succ_eq_append_getElem (by simpa using h)]; rfl
theorem seen_zero (s : ByteArray) : Seen s 0 0 [] := ⟨Nat.le_refl _, by simp [cutL], by simp⟩
theorem seen_on {s : ByteArray} {k f : Nat} {d : List ByteArray} (h : Seen s k f d) (hk : k < s.size) (hc : s[k] ≠ 47) : Seen s (k + 1) f d := by
  obtain ⟨h1, h2, h3⟩ := h
  refine ⟨by omega, ?_, by omega⟩
  rw [take_more s k hk, cut_snoc _ _ hc _ _ h2]
  rw [List.drop_append_of_le_length (by simp; omega)]
theorem ext_data (s : ByteArray) (f k : Nat) : (s.extract f k).data.toList = (s.data.toList.take k).drop f := by
  rw [Lib.extract_data, List.drop_take]
theorem seen_cut {s : ByteArray} {k f : Nat} {d : List ByteArray} (h : Seen s k f d) (hk : k < s.size) (hc : s[k] = 47) : Seen s (k + 1) (k + 1) (d ++ [s.extract f k]) := by
  obtain ⟨h1, h2, h3⟩ := h
  refine ⟨Nat.le_refl _, ?_, by simp; omega⟩
  rw [take_more s k hk, hc, cut_snoc47, h2, List.map_append, List.map_cons, List.map_nil, ext_data]
  congr 1
  rw [List.drop_eq_nil_of_le (by simp; omega)]
theorem seen_end {s : ByteArray} {f : Nat} {d : List ByteArray} (h : Seen s s.size f d) : (d ++ [s.extract f s.size]).map (·.data.toList) = cutL s.data.toList := by
  obtain ⟨h1, h2, h3⟩ := h
  rw [← size_data, List.take_length] at h2
  rw [h2, List.map_append, List.map_cons, List.map_nil, ext_data, ← size_data, List.take_length]
def CutPost (s : ByteArray) (w : World) (e : Ending) (w' : World) : Prop :=
  ∃ (v : Value) (ps : List ByteArray), e = .returned v ∧ ps.map (·.data.toList) = cutL s.data.toList ∧ w'.ownsRow w.heap.size 9 1 v ps.length (ps.map Value.string) ∧ Below w.heap.size w w'
set_option maxHeartbeats 1000000 in
theorem l10Cut_c (s : ByteArray) (w : World) (hs : s.size ≤ 1000) :
    Calls Tryd.prog 141 #[.string s, .int .u8 47] w (CutPost s w) := by
  have HE := strElt
  go_enter Tryd.func141, Tryd.ntmps141
  go_wp2
  go_loopw [5, 6, 7] (fun v f i wr => ∃ (k : Nat) (fn : Nat) (d : List ByteArray), i = .int .i64 k ∧ f = .int .i64 fn ∧ wr.ownsRow w.heap.size 9 1 v d.length (d.map Value.string) ∧ Below w.heap.size w wr ∧
      ((k ≤ s.size ∧ Seen s k fn d) ∨ (k = s.size + 1 ∧ d.map (·.data.toList) = cutL s.data.toList))) (fun _ _ i _ => s.size + 1 - (intOf i).toNat)
  case atStart =>
    exact ⟨0, 0, [], rfl, rfl, World.ownsRow_lit w #[] 0 (Nat.le_refl _) (Nat.zero_le _) rfl, bellow_alloc _ _, .inl ⟨Nat.zero_le _, seen_zero s⟩⟩
  case round =>
    obtain ⟨k, fn, d, rfl, rfl, hown, hbel, hst⟩ := hrel
    rcases hst with ⟨hk, hseen⟩ | ⟨hk, hdone⟩
    · have hf := hseen.1
      have hdl := hseen.2.2
      by_cases hlt : k < s.size
      · have hke : ((k : Int) == (s.size : Int)) = false := by rw [beq_eq_false_iff_ne]; omega
        by_cases hc : s[k] = 47
        · have hz : ((s[k].toNat : Int) == 47) = true := by rw [hc]; rfl
          have HS := Lib.hid (seen_cut hseen hlt hc)
          clear hseen hc
          go_wp2_with (at_builtin; go_must (refine wp_app1 (by rfl) _ _ 55 (by rfl) HE w.heap.size w.heap.size w wr #[.string (s.extract fn k)] _ _ _ (by rfl) (by rfl) hown (by rfl) (by simp [Value.oneCell']) (by omega) hbel.size hbel (Nat.le_refl _) ?_); intro v' w1 hown1 hbel1 _ _)
          go_roundw
          case rel => exact ⟨k + 1, k + 1, d ++ [s.extract fn k], by go_num, by go_num, by simpa using hown1, hbel1, .inl ⟨by omega, HS.out⟩⟩
          case measure => simp [intOf]; omega
        · have hz : ((s[k].toNat : Int) == 47) = false := by
            rw [beq_eq_false_iff_ne]; intro h; exact hc (UInt8.toNat_inj.1 (by simpa using Int.ofNat.inj h))
          have HS := Lib.hid (seen_on hseen hlt hc)
          clear hseen hc
          go_wp2
          go_roundw
          case rel => exact ⟨k + 1, fn, d, by go_num, rfl, hown, hbel, .inl ⟨by omega, HS.out⟩⟩
          case measure => simp [intOf]; omega
      · obtain rfl : k = s.size := by omega
        have HS := Lib.hid (seen_end hseen)
        clear hseen
        go_wp2_with (at_builtin; refine wp_app1 (by rfl) _ _ 55 (by rfl) HE w.heap.size w.heap.size w wr #[.string (s.extract fn s.size)] _ _ _ (by rfl) (by rfl) hown (by rfl) (by simp [Value.oneCell']) (by omega) hbel.size hbel (Nat.le_refl _) ?_; intro v' w1 hown1 hbel1 _ _)
        go_roundw
        case rel => exact ⟨s.size + 1, s.size + 1, d ++ [s.extract fn s.size], by go_num, by go_num, by simpa using hown1, hbel1, .inr ⟨rfl, HS.out⟩⟩
        case measure => simp [intOf]
    · subst hk
      have HD := Lib.hid hdone
      clear hdone
      go_wp2
      go_ret
      exact ⟨_, d, rfl, HD.out, hown, hbel⟩
end Go.Proofs.YtkhbkhibjflgmaaDoor
