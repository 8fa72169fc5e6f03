/- The walks of what marks memory and looks whether the marks still stand; lists of texts held against one another. Conditions: lists are short. -/
import Derived.Test.YtkhbkhibjflgmaaDoorConv
import Derived.Test.YtkhbkhibjflgmaaDoorRd
import Derived.Laws.OwnMore
import Derived.Test.YtkhbkhibjflgmaaDoorTreeOk
import Derived.Test.YtkhbkhibjflgmaaDoorSame
import Derived.Test.YtkhbkhibjflgmaaDoorReg
import Derived.Deep.QuietTactic
import Derived.BigQuiet
import Derived.Laws.BytesArg
namespace Go.Proofs.YtkhbkhibjflgmaaDoor
open Go.RowKit
def mdig (k : Nat) (acc : Bs) : Bs := if k = 0 then acc else mdig (k / 10) (UInt8.ofNat (48 + k % 10) :: acc)
termination_by k
decreasing_by omega
/-- The mark of number k. -/
def mtext (k : Nat) : ByteArray := ⟨(109 :: mdig k []).toArray⟩
def MtRel (k : Nat) (i o : Value) : Prop := ∃ (j : Nat) (acc : ByteArray), acc.size + j ≤ k ∧ i = .int .i64 j ∧ o = .string acc ∧ mdig j acc.data.toList = mdig k []
set_option maxRecDepth 100000 in
set_option maxHeartbeats 1000000 in
theorem markText_c (k : Nat) (h0 : 0 < k) (hk : k ≤ 100000000) (w : World) :
    Calls Tryd.prog 99 #[.int .i64 k] w fun e w' => e = .returned (.string (mtext k)) ∧ Below w.heap.size w w' := by
  have hk0 : ¬ k = 0 := by omega
  go_enter Tryd.func99, Tryd.ntmps99
  go_wp2
  go_loopw [0, 3] (fun i o wr => MtRel k i o ∧ Below w.heap.size w wr) (fun i _ _ => (intOf i).toNat)
  case atStart => exact ⟨⟨k, ⟨#[]⟩, by show 0 + k ≤ k; omega, rfl, rfl, rfl⟩, Below.refl _ _⟩
  case round =>
    obtain ⟨⟨j, acc, hj, rfl, rfl, hd⟩, hb⟩ := hrel
    have HD := Lib.hid hd
    clear hd
    by_cases hj0 : 0 < j
    · have hcv := run_convert_bytes_arg (P := Tryd.prog) (wr.alloc (.cells #[.int .u8 (48 + (j : Int) % 10)] 5)) 44 5 Tryd.underlying44 Tryd.underlying5 wr.heap.size 0 1 1 [48 + (j : Int) % 10] rfl (fun i hi => by
        obtain rfl : i = 0 := by omega
        exact new_cell wr _ _ 0 _ rfl) 9 Tryd.underlying9
      have hs1 : (strOfNums [48 + (j : Int) % 10]).size = 1 := strOfNums_size _
      have HM : Hid (mdig (j / 10) (strOfNums [48 + (j : Int) % 10] ++ acc).data.toList = mdig k []) := by
        rw [Hid, ← HD.out]
        conv => rhs; rw [mdig, if_neg (by omega)]
        have e : (48 + (j : Int) % 10).toNat = 48 + j % 10 := by omega
        simp [strOfNums, e]
      go_wp2
      go_roundw
      case rel => exact ⟨⟨j / 10, _, by rw [ByteArray.size_append, hs1]; omega, by go_num, rfl, HM.out⟩, hb.alloc hb.size _⟩
      case measure => simp [intOf]; omega
    · obtain rfl : j = 0 := by omega
      have HM : Hid (Ending.returned (.string (⟨#[109]⟩ ++ acc)) = .returned (.string (mtext k))) := by
        have h := HD.out
        rw [mdig, if_pos rfl] at h
        exact congrArg (fun x => Ending.returned (.string x)) (bytes_eq (by rw [mtext, ← h]; simp))
      go_wp2
      go_ret
      exact ⟨HM.out, hb⟩
/-- A slice of texts that can be read. -/
def SlS (w : World) (a : Option Addr) (ss : List ByteArray) : Prop :=
  0 < ss.length → ∃ b off, a = some ⟨b, off, none⟩ ∧ b < w.heap.size ∧ ∀ k s, ss[k]? = some s → w.cell? ⟨b, off + k, none⟩ = some (.string s)
theorem SlS.below {w w' : World} {a : Option Addr} {ss : List ByteArray} (h : SlS w a ss) (hb : Below w.heap.size w w') : SlS w' a ss := fun hn => by
  obtain ⟨b, off, e, hlt, hc⟩ := h hn
  exact ⟨b, off, e, Nat.lt_of_lt_of_le hlt hb.size, fun k s hk => (hb.cell (p := ⟨b, off + k, none⟩) hlt).trans (hc k s hk)⟩
theorem own_sls {w : World} {B : Nat} {t : TypeId} {a : Option Addr} {c n : Nat} {ss : List ByteArray} (h : w.ownsRow B t 1 (.slice a n c) n (ss.map Value.string)) (hn : ss.length = n) : SlS w a ss := fun h0 => by
  rcases h.2 with ⟨_, h1⟩ | ⟨g, cap, cur, e, _, hh, _⟩
  · omega
  · injection e with e1 e2 e3
    subst e1; subst e3
    have hl : g < w.heap.size := by
      rcases Nat.lt_or_ge g w.heap.size with h4 | h4
      · exact h4
      · rw [Array.getElem?_eq_none h4] at hh; cases hh
    refine ⟨g, 0, rfl, hl, fun k s hk => ?_⟩
    have h2 := h.cellAt k (by have := (List.getElem?_eq_some_iff.1 hk).1; omega)
    rw [Nat.zero_add, h2, List.getElem?_map, hk]; rfl
set_option maxHeartbeats 2000000 in
theorem eqStringS_c (a a' : Option Addr) (c c' n : Nat) (ss : List ByteArray) (hn : ss.length = n) (w : World) (hs : SlS w a ss) (hs' : SlS w a' ss) (hx : n ≤ 2000000) :
    Calls Tryd.prog 42 #[.slice a n c, .slice a' n c'] w fun e w' => e = .returned (.bool true) ∧ Below w.heap.size w w' := by
  have HS := Lib.hid hs
  have HS' := Lib.hid hs'
  have HN := Lib.hid hn
  clear hs hs' hn
  go_enter Tryd.func42, Tryd.ntmps42
  go_wp2
  go_loopw [5] (fun i wr => ∃ k : Nat, k ≤ n ∧ i = .int .i64 k ∧ Below w.heap.size w wr) (fun i _ => n - (intOf i).toNat)
  case atStart => exact ⟨0, Nat.zero_le _, rfl, Below.refl _ _⟩
  case round =>
    obtain ⟨k, hk, rfl, hb⟩ := hrel
    by_cases hlt : k < n
    · obtain ⟨s, hss⟩ : ∃ s, ss[k]? = some s := ⟨_, List.getElem?_eq_getElem (by rw [HN.out]; exact hlt)⟩
      obtain ⟨b, off, rfl, _, hc⟩ := (HS.out.below hb) (by rw [HN.out]; omega)
      obtain ⟨b', off', rfl, _, hc'⟩ := (HS'.out.below hb) (by rw [HN.out]; omega)
      have d0 := hc k s hss
      have d1 := hc' k s hss
      have i0 : (0 : Int) ≤ (k : Int) := by omega
      have i1 : (k : Int) < (n : Int) := by omega
      clear hc hc' hss
      go_wp2_with fail
      go_quiet (fail)
      go_wp2
      go_roundw
      case rel => exact ⟨k + 1, by omega, by go_num, drw hb _⟩
      case measure => simp [intOf]; omega
    · go_wp2
      go_ret
      exact ⟨rfl, hb⟩
/-- The texts that marking leaves. -/
def MarkedT (k i : Nat) (L : List Value) : Prop := ∀ j, j < i → L[j]? = some (.string (mtext (k + j)))
theorem MarkedT.more {k i : Nat} {L : List Value} (h : MarkedT k i L) (hi : i < L.length) : MarkedT k (i + 1) (L.set i (.string (mtext (k + i)))) := fun j hj => by
  by_cases e : j = i
  · subst e; rw [List.getElem?_set_self hi]
  · rw [List.getElem?_set_ne (Ne.symm e)]; exact h j (by omega)
set_option maxHeartbeats 2000000 in
theorem markStringS_c (B : Nat) (a : Option Addr) (c n k0 : Nat) (L : List Value) (w : World) (hown : w.ownsRow B 9 1 (.slice a n c) n L) (hx : n ≤ 2000000) (hk0 : 0 < k0) (hk1 : k0 ≤ 10000000) :
    Calls Tryd.prog 44 #[.slice a n c, .int .i64 k0] w fun e w' => e = .returned (.int .i64 ((k0 : Int) + n)) ∧ (∃ L', w'.ownsRow B 9 1 (.slice a n c) n L' ∧ MarkedT k0 n L') ∧ w.grownBy w' (Value.slice a n c).ownBlock := by
  by_cases hn : n = 0
  · subst hn
    have HO := Lib.hid hown
    clear hown
    go_enter Tryd.func44, Tryd.ntmps44
    go_wp2
    go_loopw [1, 5] (fun k i wr => k = .int .i64 k0 ∧ i = .int .i64 0 ∧ wr = w) (fun _ i _ => 0)
    case atStart => exact ⟨rfl, rfl, rfl⟩
    case round =>
      obtain ⟨rfl, rfl, rfl⟩ := hrel
      go_wp2
      go_ret
      exact ⟨ret_int (by simp), ⟨L, HO.out, fun j h => absurd h (by omega)⟩, rfl, rfl, rfl, Nat.le_refl _, fun _ _ _ => rfl⟩
  obtain ⟨g, rfl⟩ : ∃ g, a = some ⟨g, 0, none⟩ := by
    rcases hown.2 with ⟨_, h⟩ | ⟨g, _, _, e, _⟩
    · omega
    · injection e with e1; exact ⟨g, e1⟩
  have HO := Lib.hid hown
  clear hown
  go_enter Tryd.func44, Tryd.ntmps44
  go_wp2
  go_loopw [1, 5] (fun k i wr => ∃ (j : Nat) (L' : List Value), j ≤ n ∧ i = .int .i64 j ∧ k = .int .i64 ((k0 : Int) + j) ∧ wr.ownsRow B 9 1 (.slice (some ⟨g, 0, none⟩) n c) n L' ∧ MarkedT k0 j L' ∧ Only g w wr) (fun _ i _ => n - (intOf i).toNat)
  case atStart => exact ⟨0, L, Nat.zero_le _, rfl, by simp, HO.out, fun j h => absurd h (by omega), Only.refl _ _⟩
  case round =>
    obtain ⟨j, L', hj, rfl, rfl, hown, hm, ho⟩ := hrel
    by_cases hlt : j < n
    · have HM := Lib.hid (hm.more (i := j) (by rw [hown.1]; omega))
      clear hm
      have HT := Lib.hid (fun W => markText_c (k0 + j) (by omega) (by omega) W)
      rw [show ((k0 + j : Nat) : Int) = (k0 : Int) + j by omega] at HT
      go_wp2_with fail
      refine (HT.out _).mono ?_; rintro e W ⟨rfl, hq⟩
      have hown1 := own_below hown hq
      have d0 := hown1.cellAt j (by omega)
      obtain ⟨x0, hx0⟩ : ∃ u, L'[j]? = some u := ⟨_, List.getElem?_eq_getElem (by rw [hown1.1]; omega)⟩
      rw [hx0] at d0
      clear hx0
      have f0 := hown1.frozenAt j
      have HST := Lib.hid (hown1.stored j (.string (mtext (k0 + j))))
      have HOO := Lib.hid (ho.trans (Only.of_below hq))
      clear hown hown1 ho hq
      go_wp2
      go_roundw
      case rel => exact ⟨j + 1, _, by omega, by go_num, by congr 1 <;> omega, HST.out.1, HM.out, HOO.out.trans HST.out.2⟩
      case measure => simp [intOf]; omega
    · obtain rfl : j = n := by omega
      go_wp2
      go_ret
      exact ⟨rfl, ⟨L', hown, hm⟩, ho⟩
set_option maxRecDepth 100000 in
set_option maxHeartbeats 4000000 in
theorem heldStringS_c (B : Nat) (a : Option Addr) (c n k0 : Nat) (L : List Value) (w : World) (hown : w.ownsRow B 9 1 (.slice a n c) n L) (hm : MarkedT k0 n L) (hx : n ≤ 2000000) (hk0 : 0 < k0) (hk1 : k0 ≤ 10000000) :
    Calls Tryd.prog 45 #[.slice a n c, .int .i64 k0] w fun e w' => e = .returned (.int .i64 ((k0 : Int) + n)) ∧ Below w.heap.size w w' := by
  by_cases hn : n = 0
  · subst hn
    clear hown hm
    go_enter Tryd.func45, Tryd.ntmps45
    go_wp2
    go_loopw [1, 5] (fun k i wr => k = .int .i64 k0 ∧ i = .int .i64 0 ∧ wr = w) (fun _ i _ => 0)
    case atStart => exact ⟨rfl, rfl, rfl⟩
    case round =>
      obtain ⟨rfl, rfl, rfl⟩ := hrel
      go_wp2
      go_ret
      exact ⟨ret_int (by simp), Below.refl _ _⟩
  obtain ⟨g, rfl⟩ : ∃ g, a = some ⟨g, 0, none⟩ := by
    rcases hown.2 with ⟨_, h⟩ | ⟨g, _, _, e, _⟩
    · omega
    · injection e with e1; exact ⟨g, e1⟩
  have HO := Lib.hid hown
  have HM := Lib.hid hm
  clear hown hm
  go_enter Tryd.func45, Tryd.ntmps45
  go_wp2
  go_loopw [1, 5] (fun k i wr => ∃ j : Nat, j ≤ n ∧ i = .int .i64 j ∧ k = .int .i64 ((k0 : Int) + j) ∧ Below w.heap.size w wr) (fun _ i _ => n - (intOf i).toNat)
  case atStart => exact ⟨0, Nat.zero_le _, rfl, by simp, Below.refl _ _⟩
  case round =>
    obtain ⟨j, hj, rfl, rfl, hb⟩ := hrel
    by_cases hlt : j < n
    · have HT := Lib.hid (fun W => markText_c (k0 + j) (by omega) (by omega) W)
      rw [show ((k0 + j : Nat) : Int) = (k0 : Int) + j by omega] at HT
      have d0 := (own_below HO.out hb).cellAt j (by omega)
      rw [HM.out j hlt] at d0
      have i0 : (0 : Int) ≤ (j : Int) := by omega
      have i1 : (j : Int) < (n : Int) := by omega
      go_wp2_with fail
      refine wp_region_held_drew (S := fun w' => Below _ _ w') (by kernel_rfl) (below_drew _) (fun hHeld => ?_)
      refine tk (i := 0) (d := (some 12)) (v := ?_) rfl rfl (by kernel_rfl) (by kernel_rfl) (by kernel_rfl) (fun _ _ _ h => h) (Or.inl ⟨by rfl, ?_⟩) hHeld ?_
      rotate_left
      · intro w hSw; have zd0 := keepc hSw d0; clear hSw; go_simp <;> with_reducible rfl
      (try simp only [Act.put, List.setIfInBounds_toArray, List.set_cons_zero, List.set_cons_succ])
      refine tk (i := 1) (d := (some 13)) (v := ?_) rfl rfl (by kernel_rfl) (by kernel_rfl) (by kernel_rfl) (fun _ _ _ h => h) (Or.inl ⟨by rfl, ?_⟩) hHeld ?_
      rotate_left
      · intro w hSw; have zd0 := keepc hSw d0; clear hSw; go_simp <;> with_reducible rfl
      (try simp only [Act.put, List.setIfInBounds_toArray, List.set_cons_zero, List.set_cons_succ])
      refine tk (i := 2) (d := (some 14)) (v := ?_) rfl rfl (by kernel_rfl) (by kernel_rfl) (by kernel_rfl) (fun _ _ _ h => h) (Or.inl ⟨by rfl, ?_⟩) hHeld ?_
      rotate_left
      · intro w hSw; have zd0 := keepc hSw d0; clear hSw; go_simp <;> with_reducible rfl
      (try simp only [Act.put, List.setIfInBounds_toArray, List.set_cons_zero, List.set_cons_succ])
      refine tk (i := 3) (d := (some 15)) (v := ?_) rfl rfl (by kernel_rfl) (by kernel_rfl) (by kernel_rfl) (fun _ _ _ h => h) (Or.inl ⟨by rfl, ?_⟩) hHeld ?_
      rotate_left
      · intro w hSw; have zd0 := keepc hSw d0; clear hSw; go_simp <;> with_reducible rfl
      (try simp only [Act.put, List.setIfInBounds_toArray, List.set_cons_zero, List.set_cons_succ])
      refine tk (i := 4) (d := (some 16)) (v := ?_) rfl rfl (by kernel_rfl) (by kernel_rfl) (by kernel_rfl) (fun _ _ _ h => h) (Or.inl ⟨by rfl, ?_⟩) hHeld ?_
      rotate_left
      · intro w hSw; have zd0 := keepc hSw d0; clear hSw; go_simp <;> with_reducible rfl
      (try simp only [Act.put, List.setIfInBounds_toArray, List.set_cons_zero, List.set_cons_succ])
      refine wpAnyH_ready (rs := [5]) (by kernel_rfl) (by simp) ?_
      refine AllReadyH.cons rfl (fun K hK => ?_) AllReadyH.nil
      go_simp
      refine (HT.out _).mono ?_; rintro e W ⟨rfl, hq⟩
      go_simp
      refine hK.out _ _ (chn hHeld hq) (fun h => ?_)
      clear hK K; replace hHeld := h; clear h hq
      (try simp only [Act.put, List.setIfInBounds_toArray, List.set_cons_zero, List.set_cons_succ])
      refine tk (i := 6) (d := (some 18)) (v := ?_) rfl rfl (by kernel_rfl) (by kernel_rfl) (by kernel_rfl) (fun _ _ _ h => h) (Or.inl ⟨by rfl, ?_⟩) hHeld ?_
      rotate_left
      · intro w hSw; have zd0 := keepc hSw d0; clear hSw; go_simp <;> with_reducible rfl
      (try simp only [Act.put, List.setIfInBounds_toArray, List.set_cons_zero, List.set_cons_succ])
      refine wpAnyH_done (by kernel_rfl) ?_ _
      replace hb := chn hb hHeld; clear hHeld
      go_wp2
      go_roundw
      case rel => exact ⟨j + 1, by omega, by go_num, by congr 1 <;> omega, hb⟩
      case measure => simp [intOf]; omega
    · obtain rfl : j = n := by omega
      go_wp2
      go_ret
      exact ⟨rfl, hb⟩
/-- What marking leaves of entries. -/
def MarkedE (k i : Nat) (L : List Value) : Prop := ∀ j, j < i → L[j * 3]? = some (.string (mtext (k + 3 * j))) ∧ L[j * 3 + 1]? = some (.bool (decide ((k + 3 * j + 1) % 3 = 0))) ∧ L[j * 3 + 2]? = some (.string (mtext (k + 3 * j + 2)))
/-- What marking leaves of marks. -/
def MarkedM (k i : Nat) (L : List Value) : Prop := ∀ j, j < i → L[j * 3]? = some (.string (mtext (k + 3 * j))) ∧ L[j * 3 + 1]? = some (.int .i64 ((k : Int) + 3 * j + 1)) ∧ L[j * 3 + 2]? = some (.string (mtext (k + 3 * j + 2)))
theorem set_three {L : List Value} {i : Nat} (h : i * 3 + 3 ≤ L.length) (a b c : Value) :
    (∀ j, j < i → ∀ q, q < 3 → (((L.set (i * 3) a).set (i * 3 + 1) b).set (i * 3 + 2) c)[j * 3 + q]? = L[j * 3 + q]?) ∧
    (((L.set (i * 3) a).set (i * 3 + 1) b).set (i * 3 + 2) c)[i * 3]? = some a ∧ (((L.set (i * 3) a).set (i * 3 + 1) b).set (i * 3 + 2) c)[i * 3 + 1]? = some b ∧ (((L.set (i * 3) a).set (i * 3 + 1) b).set (i * 3 + 2) c)[i * 3 + 2]? = some c := by
  refine ⟨fun j hj q hq => ?_, ?_, ?_, ?_⟩
  · rw [List.getElem?_set_ne (by omega), List.getElem?_set_ne (by omega), List.getElem?_set_ne (by omega)]
  · rw [List.getElem?_set_ne (by omega), List.getElem?_set_ne (by omega), List.getElem?_set_self (by omega)]
  · rw [List.getElem?_set_ne (by omega), List.getElem?_set_self (by simp; omega)]
  · rw [List.getElem?_set_self (by simp; omega)]
theorem MarkedE.more {k i : Nat} {L : List Value} (h : MarkedE k i L) (hi : i * 3 + 3 ≤ L.length) : MarkedE k (i + 1) (((L.set (i * 3) (.string (mtext (k + 3 * i)))).set (i * 3 + 1) (.bool (decide ((k + 3 * i + 1) % 3 = 0)))).set (i * 3 + 2) (.string (mtext (k + 3 * i + 2)))) := fun j hj => by
  obtain ⟨h0, h1, h2, h3⟩ := set_three hi (.string (mtext (k + 3 * i))) (.bool (decide ((k + 3 * i + 1) % 3 = 0))) (.string (mtext (k + 3 * i + 2)))
  by_cases e : j = i
  · subst e; exact ⟨h1, h2, h3⟩
  · have hji : j < i := by omega
    obtain ⟨g1, g2, g3⟩ := h j hji
    exact ⟨(h0 j hji 0 (by omega)).trans g1, (h0 j hji 1 (by omega)).trans g2, (h0 j hji 2 (by omega)).trans g3⟩
theorem MarkedM.more {k i : Nat} {L : List Value} (h : MarkedM k i L) (hi : i * 3 + 3 ≤ L.length) : MarkedM k (i + 1) (((L.set (i * 3) (.string (mtext (k + 3 * i)))).set (i * 3 + 1) (.int .i64 ((k : Int) + 3 * i + 1))).set (i * 3 + 2) (.string (mtext (k + 3 * i + 2)))) := fun j hj => by
  obtain ⟨h0, h1, h2, h3⟩ := set_three hi (.string (mtext (k + 3 * i))) (.int .i64 ((k : Int) + 3 * i + 1)) (.string (mtext (k + 3 * i + 2)))
  by_cases e : j = i
  · subst e; exact ⟨h1, h2, h3⟩
  · have hji : j < i := by omega
    obtain ⟨g1, g2, g3⟩ := h j hji
    exact ⟨(h0 j hji 0 (by omega)).trans g1, (h0 j hji 1 (by omega)).trans g2, (h0 j hji 2 (by omega)).trans g3⟩
set_option maxRecDepth 100000 in
set_option maxHeartbeats 4000000 in
theorem markMarkS_c (B : Nat) (a : Option Addr) (c n k0 : Nat) (L : List Value) (w : World) (hown : w.ownsRow B 49 3 (.slice a n c) n L) (hx : n ≤ 2000000) (hk0 : 0 < k0) (hk1 : k0 ≤ 10000000) :
    Calls Tryd.prog 67 #[.slice a n c, .int .i64 k0] w fun e w' => e = .returned (.int .i64 ((k0 : Int) + 3 * n)) ∧ (∃ L', w'.ownsRow B 49 3 (.slice a n c) n L' ∧ MarkedM k0 n L') ∧ w.grownBy w' (Value.slice a n c).ownBlock := by
  by_cases hn : n = 0
  · subst hn
    have HO := Lib.hid hown
    clear hown
    go_enter Tryd.func67, Tryd.ntmps67
    go_wp2
    go_loopw [1, 5] (fun k i wr => k = .int .i64 k0 ∧ i = .int .i64 0 ∧ wr = w) (fun _ i _ => 0)
    case atStart => exact ⟨rfl, rfl, rfl⟩
    case round =>
      obtain ⟨rfl, rfl, rfl⟩ := hrel
      go_wp2
      go_ret
      exact ⟨ret_int (by simp), ⟨L, HO.out, fun j h => absurd h (by omega)⟩, rfl, rfl, rfl, Nat.le_refl _, fun _ _ _ => rfl⟩
  obtain ⟨g, rfl⟩ : ∃ g, a = some ⟨g, 0, none⟩ := by
    rcases hown.2 with ⟨_, h⟩ | ⟨g, _, _, e, _⟩
    · omega
    · injection e with e1; exact ⟨g, e1⟩
  have HO := Lib.hid hown
  clear hown
  go_enter Tryd.func67, Tryd.ntmps67
  go_wp2
  go_loopw [1, 5] (fun k i wr => ∃ (j : Nat) (L' : List Value), j ≤ n ∧ i = .int .i64 j ∧ k = .int .i64 ((k0 : Int) + 3 * j) ∧ wr.ownsRow B 49 3 (.slice (some ⟨g, 0, none⟩) n c) n L' ∧ MarkedM k0 j L' ∧ Only g w wr) (fun _ i _ => n - (intOf i).toNat)
  case atStart => exact ⟨0, L, Nat.zero_le _, rfl, by simp, HO.out, fun j h => absurd h (by omega), Only.refl _ _⟩
  case round =>
    obtain ⟨j, L', hj, rfl, rfl, hown, hm, ho⟩ := hrel
    by_cases hlt : j < n
    · have HM := Lib.hid (hm.more (i := j) (by rw [hown.1]; omega))
      clear hm
      skip
      have HT := Lib.hid (fun W => markText_c (k0 + 3 * j) (by omega) (by omega) W)
      have HT2 := Lib.hid (fun W => markText_c (k0 + 3 * j + 2) (by omega) (by omega) W)
      rw [show ((k0 + 3 * j : Nat) : Int) = (k0 : Int) + 3 * j by omega] at HT
      rw [show ((k0 + 3 * j + 2 : Nat) : Int) = (k0 : Int) + 3 * j + 1 + 1 by omega] at HT2
      go_wp2_with fail
      refine (HT.out _).mono ?_; rintro e W ⟨rfl, hq⟩
      have hown1 := own_below hown hq
      have d0 := hown1.cellAt (j * 3) (by omega)
      have d1 := hown1.cellAt (j * 3 + 1) (by omega)
      obtain ⟨x0, hx0⟩ : ∃ u, L'[j * 3]? = some u := ⟨_, List.getElem?_eq_getElem (by rw [hown1.1]; omega)⟩
      obtain ⟨x1, hx1⟩ : ∃ u, L'[j * 3 + 1]? = some u := ⟨_, List.getElem?_eq_getElem (by rw [hown1.1]; omega)⟩
      rw [hx0] at d0
      rw [hx1] at d1
      clear hx0 hx1
      have f0 := hown1.frozenAt (j * 3)
      have f1 := hown1.frozenAt (j * 3 + 1)
      have HST := Lib.hid (hown1.stored (j * 3) (.string (mtext (k0 + 3 * j))))
      have HST2 := Lib.hid (HST.out.1.stored (j * 3 + 1) (.int .i64 ((k0 : Int) + 3 * j + 1)))
      have HOO := Lib.hid (((ho.trans (Only.of_below hq)).trans HST.out.2).trans HST2.out.2)
      clear hown hown1 ho hq
      go_wp2_with fail
      refine (HT2.out _).mono ?_; rintro e W2 ⟨rfl, hq⟩
      have hown3 := own_below HST2.out.1 hq
      have d2 := hown3.cellAt (j * 3 + 2) (by omega)
      obtain ⟨x2, hx2⟩ := (⟨_, List.getElem?_eq_getElem (by rw [hown3.1]; omega)⟩ : ∃ u, (((L'.set (j * 3) (.string (mtext (k0 + 3 * j)))).set (j * 3 + 1) (.int .i64 ((k0 : Int) + 3 * j + 1))))[j * 3 + 2]? = some u)
      rw [hx2] at d2
      clear hx2
      have f2 := hown3.frozenAt (j * 3 + 2)
      have HST3 := Lib.hid (hown3.stored (j * 3 + 2) (.string (mtext (k0 + 3 * j + 2))))
      have HO3 := Lib.hid ((HOO.out.trans (Only.of_below hq)).trans HST3.out.2)
      clear hown3 hq d0 d1 f0 f1
      go_wp2
      go_roundw
      case rel => exact ⟨j + 1, _, by omega, by go_num, by congr 1 <;> omega, HST3.out.1, HM.out, HO3.out⟩
      case measure => simp [intOf]; omega
    · obtain rfl : j = n := by omega
      go_wp2
      go_ret
      exact ⟨rfl, ⟨L', hown, hm⟩, ho⟩
set_option maxRecDepth 100000 in
set_option maxHeartbeats 4000000 in
theorem markEntS_c (B : Nat) (a : Option Addr) (c n k0 : Nat) (L : List Value) (w : World) (hown : w.ownsRow B 30 3 (.slice a n c) n L) (hx : n ≤ 2000000) (hk0 : 0 < k0) (hk1 : k0 ≤ 10000000) :
    Calls Tryd.prog 43 #[.slice a n c, .int .i64 k0] w fun e w' => e = .returned (.int .i64 ((k0 : Int) + 3 * n)) ∧ (∃ L', w'.ownsRow B 30 3 (.slice a n c) n L' ∧ MarkedE k0 n L') ∧ w.grownBy w' (Value.slice a n c).ownBlock := by
  by_cases hn : n = 0
  · subst hn
    have HO := Lib.hid hown
    clear hown
    go_enter Tryd.func43, Tryd.ntmps43
    go_wp2
    go_loopw [1, 5] (fun k i wr => k = .int .i64 k0 ∧ i = .int .i64 0 ∧ wr = w) (fun _ i _ => 0)
    case atStart => exact ⟨rfl, rfl, rfl⟩
    case round =>
      obtain ⟨rfl, rfl, rfl⟩ := hrel
      go_wp2
      go_ret
      exact ⟨ret_int (by simp), ⟨L, HO.out, fun j h => absurd h (by omega)⟩, rfl, rfl, rfl, Nat.le_refl _, fun _ _ _ => rfl⟩
  obtain ⟨g, rfl⟩ : ∃ g, a = some ⟨g, 0, none⟩ := by
    rcases hown.2 with ⟨_, h⟩ | ⟨g, _, _, e, _⟩
    · omega
    · injection e with e1; exact ⟨g, e1⟩
  have HO := Lib.hid hown
  clear hown
  go_enter Tryd.func43, Tryd.ntmps43
  go_wp2
  go_loopw [1, 5] (fun k i wr => ∃ (j : Nat) (L' : List Value), j ≤ n ∧ i = .int .i64 j ∧ k = .int .i64 ((k0 : Int) + 3 * j) ∧ wr.ownsRow B 30 3 (.slice (some ⟨g, 0, none⟩) n c) n L' ∧ MarkedE k0 j L' ∧ Only g w wr) (fun _ i _ => n - (intOf i).toNat)
  case atStart => exact ⟨0, L, Nat.zero_le _, rfl, by simp, HO.out, fun j h => absurd h (by omega), Only.refl _ _⟩
  case round =>
    obtain ⟨j, L', hj, rfl, rfl, hown, hm, ho⟩ := hrel
    by_cases hlt : j < n
    · have HM := Lib.hid (hm.more (i := j) (by rw [hown.1]; omega))
      clear hm
      obtain ⟨mb, hmb, hmv⟩ : ∃ mb : Bool, (((k0 : Int) + 3 * j + 1) % 3 == 0) = mb ∧ decide ((k0 + 3 * j + 1) % 3 = 0) = mb := ⟨_, rfl, by rw [Bool.eq_iff_iff]; simp; omega⟩
      rw [hmv] at HM
      clear hmv
      have HT := Lib.hid (fun W => markText_c (k0 + 3 * j) (by omega) (by omega) W)
      have HT2 := Lib.hid (fun W => markText_c (k0 + 3 * j + 2) (by omega) (by omega) W)
      rw [show ((k0 + 3 * j : Nat) : Int) = (k0 : Int) + 3 * j by omega] at HT
      rw [show ((k0 + 3 * j + 2 : Nat) : Int) = (k0 : Int) + 3 * j + 1 + 1 by omega] at HT2
      go_wp2_with fail
      refine (HT.out _).mono ?_; rintro e W ⟨rfl, hq⟩
      have hown1 := own_below hown hq
      have d0 := hown1.cellAt (j * 3) (by omega)
      have d1 := hown1.cellAt (j * 3 + 1) (by omega)
      obtain ⟨x0, hx0⟩ : ∃ u, L'[j * 3]? = some u := ⟨_, List.getElem?_eq_getElem (by rw [hown1.1]; omega)⟩
      obtain ⟨x1, hx1⟩ : ∃ u, L'[j * 3 + 1]? = some u := ⟨_, List.getElem?_eq_getElem (by rw [hown1.1]; omega)⟩
      rw [hx0] at d0
      rw [hx1] at d1
      clear hx0 hx1
      have f0 := hown1.frozenAt (j * 3)
      have f1 := hown1.frozenAt (j * 3 + 1)
      have HST := Lib.hid (hown1.stored (j * 3) (.string (mtext (k0 + 3 * j))))
      have HST2 := Lib.hid (HST.out.1.stored (j * 3 + 1) (.bool mb))
      have HOO := Lib.hid (((ho.trans (Only.of_below hq)).trans HST.out.2).trans HST2.out.2)
      clear hown hown1 ho hq
      go_wp2_with fail
      refine (HT2.out _).mono ?_; rintro e W2 ⟨rfl, hq⟩
      have hown3 := own_below HST2.out.1 hq
      have d2 := hown3.cellAt (j * 3 + 2) (by omega)
      obtain ⟨x2, hx2⟩ := (⟨_, List.getElem?_eq_getElem (by rw [hown3.1]; omega)⟩ : ∃ u, (((L'.set (j * 3) (.string (mtext (k0 + 3 * j)))).set (j * 3 + 1) (.bool mb)))[j * 3 + 2]? = some u)
      rw [hx2] at d2
      clear hx2
      have f2 := hown3.frozenAt (j * 3 + 2)
      have HST3 := Lib.hid (hown3.stored (j * 3 + 2) (.string (mtext (k0 + 3 * j + 2))))
      have HO3 := Lib.hid ((HOO.out.trans (Only.of_below hq)).trans HST3.out.2)
      clear hown3 hq d0 d1 f0 f1
      go_wp2
      go_roundw
      case rel => exact ⟨j + 1, _, by omega, by go_num, by congr 1 <;> omega, HST3.out.1, HM.out, HO3.out⟩
      case measure => simp [intOf]; omega
    · obtain rfl : j = n := by omega
      go_wp2
      go_ret
      exact ⟨rfl, ⟨L', hown, hm⟩, ho⟩
set_option maxRecDepth 100000 in
set_option maxHeartbeats 4000000 in
theorem heldMarkS_c (B : Nat) (a : Option Addr) (c n k0 : Nat) (L : List Value) (w : World) (hown : w.ownsRow B 49 3 (.slice a n c) n L) (hm : MarkedM k0 n L) (hx : n ≤ 2000000) (hk0 : 0 < k0) (hk1 : k0 ≤ 10000000) :
    Calls Tryd.prog 68 #[.slice a n c, .int .i64 k0] w fun e w' => e = .returned (.int .i64 ((k0 : Int) + 3 * n)) ∧ Below w.heap.size w w' := by
  by_cases hn : n = 0
  · subst hn
    clear hown hm
    go_enter Tryd.func68, Tryd.ntmps68
    go_wp2
    go_loopw [1, 5] (fun k i wr => k = .int .i64 k0 ∧ i = .int .i64 0 ∧ wr = w) (fun _ i _ => 0)
    case atStart => exact ⟨rfl, rfl, rfl⟩
    case round =>
      obtain ⟨rfl, rfl, rfl⟩ := hrel
      go_wp2
      go_ret
      exact ⟨ret_int (by simp), Below.refl _ _⟩
  obtain ⟨g, rfl⟩ : ∃ g, a = some ⟨g, 0, none⟩ := by
    rcases hown.2 with ⟨_, h⟩ | ⟨g, _, _, e, _⟩
    · omega
    · injection e with e1; exact ⟨g, e1⟩
  have HO := Lib.hid hown
  have HM := Lib.hid hm
  clear hown hm
  go_enter Tryd.func68, Tryd.ntmps68
  go_wp2
  go_loopw [1, 5] (fun k i wr => ∃ j : Nat, j ≤ n ∧ i = .int .i64 j ∧ k = .int .i64 ((k0 : Int) + 3 * j) ∧ Below w.heap.size w wr) (fun _ i _ => n - (intOf i).toNat)
  case atStart => exact ⟨0, Nat.zero_le _, rfl, by simp, Below.refl _ _⟩
  case round =>
    obtain ⟨j, hj, rfl, rfl, hb⟩ := hrel
    by_cases hlt : j < n
    · have HT := Lib.hid (fun W => markText_c (k0 + 3 * j) (by omega) (by omega) W)
      have HT2 := Lib.hid (fun W => markText_c (k0 + 3 * j + 2) (by omega) (by omega) W)
      rw [show ((k0 + 3 * j : Nat) : Int) = (k0 : Int) + 3 * j by omega] at HT
      rw [show ((k0 + 3 * j + 2 : Nat) : Int) = (k0 : Int) + 3 * j + 1 + 1 by omega] at HT2
      have d0 := (own_below HO.out hb).cellAt (j * 3) (by omega)
      have d1 := (own_below HO.out hb).cellAt (j * 3 + 1) (by omega)
      have d2 := (own_below HO.out hb).cellAt (j * 3 + 2) (by omega)
      obtain ⟨m0, m1, m2⟩ := HM.out j hlt
      rw [m0] at d0
      rw [m1] at d1
      rw [m2] at d2
      skip
      have i0 : (0 : Int) ≤ (j : Int) := by omega
      have i1 : (j : Int) < (n : Int) := by omega
      clear m0 m1 m2
      go_wp2_with fail
      refine wp_region_held_drew (S := fun w' => Below _ _ w') (by kernel_rfl) (below_drew _) (fun hHeld => ?_)
      refine tk (i := 0) (d := (some 12)) (v := ?_) rfl rfl (by kernel_rfl) (by kernel_rfl) (by kernel_rfl) (fun _ _ _ h => h) (Or.inl ⟨by rfl, ?_⟩) hHeld ?_
      rotate_left
      · intro w hSw; have zd0 := keepc hSw d0; clear hSw; go_simp <;> with_reducible rfl
      (try simp only [Act.put, List.setIfInBounds_toArray, List.set_cons_zero, List.set_cons_succ])
      refine tk (i := 1) (d := (some 13)) (v := ?_) rfl rfl (by kernel_rfl) (by kernel_rfl) (by kernel_rfl) (fun _ _ _ h => h) (Or.inl ⟨by rfl, ?_⟩) hHeld ?_
      rotate_left
      · intro w hSw; have zd0 := keepc hSw d0; clear hSw; go_simp <;> with_reducible rfl
      (try simp only [Act.put, List.setIfInBounds_toArray, List.set_cons_zero, List.set_cons_succ])
      refine tk (i := 2) (d := (some 14)) (v := ?_) rfl rfl (by kernel_rfl) (by kernel_rfl) (by kernel_rfl) (fun _ _ _ h => h) (Or.inl ⟨by rfl, ?_⟩) hHeld ?_
      rotate_left
      · intro w hSw; have zd0 := keepc hSw d0; clear hSw; go_simp <;> with_reducible rfl
      (try simp only [Act.put, List.setIfInBounds_toArray, List.set_cons_zero, List.set_cons_succ])
      refine tk (i := 3) (d := (some 15)) (v := ?_) rfl rfl (by kernel_rfl) (by kernel_rfl) (by kernel_rfl) (fun _ _ _ h => h) (Or.inl ⟨by rfl, ?_⟩) hHeld ?_
      rotate_left
      · intro w hSw; have zd0 := keepc hSw d0; clear hSw; go_simp <;> with_reducible rfl
      (try simp only [Act.put, List.setIfInBounds_toArray, List.set_cons_zero, List.set_cons_succ])
      refine tk (i := 4) (d := (some 16)) (v := ?_) rfl rfl (by kernel_rfl) (by kernel_rfl) (by kernel_rfl) (fun _ _ _ h => h) (Or.inl ⟨by rfl, ?_⟩) hHeld ?_
      rotate_left
      · intro w hSw; have zd0 := keepc hSw d0; clear hSw; go_simp <;> with_reducible rfl
      (try simp only [Act.put, List.setIfInBounds_toArray, List.set_cons_zero, List.set_cons_succ])
      refine tk (i := 5) (d := (some 17)) (v := ?_) rfl rfl (by kernel_rfl) (by kernel_rfl) (by kernel_rfl) (fun _ _ _ h => h) (Or.inl ⟨by rfl, ?_⟩) hHeld ?_
      rotate_left
      · intro w hSw; have zd0 := keepc hSw d0; clear hSw; go_simp <;> with_reducible rfl
      (try simp only [Act.put, List.setIfInBounds_toArray, List.set_cons_zero, List.set_cons_succ])
      refine wpAnyH_ready (rs := [6]) (by kernel_rfl) (by simp) ?_
      refine AllReadyH.cons rfl (fun K hK => ?_) AllReadyH.nil
      go_simp
      refine (HT.out _).mono ?_; rintro e W ⟨rfl, hq⟩
      go_simp
      refine hK.out _ _ (chn hHeld hq) (fun h => ?_)
      clear hK K; replace hHeld := h; clear h hq
      (try simp only [Act.put, List.setIfInBounds_toArray, List.set_cons_zero, List.set_cons_succ])
      refine tk (i := 7) (d := (some 19)) (v := ?_) rfl rfl (by kernel_rfl) (by kernel_rfl) (by kernel_rfl) (fun _ _ _ h => h) (Or.inl ⟨by rfl, ?_⟩) hHeld ?_
      rotate_left
      · intro w hSw; have zd0 := keepc hSw d0; clear hSw; go_simp <;> with_reducible rfl
      (try simp only [Act.put, List.setIfInBounds_toArray, List.set_cons_zero, List.set_cons_succ])
      refine wpAnyH_done (by kernel_rfl) ?_ _
      replace hb := chn hb hHeld; replace d1 := keepc hHeld d1; replace d2 := keepc hHeld d2; clear hHeld
      go_wp2_with fail
      refine wp_region_held_drew (S := fun w' => Below _ _ w') (by kernel_rfl) (below_drew _) (fun hHeld => ?_)
      refine tk (i := 0) (d := (some 31)) (v := ?_) rfl rfl (by kernel_rfl) (by kernel_rfl) (by kernel_rfl) (fun _ _ _ h => h) (Or.inl ⟨by rfl, ?_⟩) hHeld ?_
      rotate_left
      · intro w hSw; have zd2 := keepc hSw d2; clear hSw; go_simp <;> with_reducible rfl
      (try simp only [Act.put, List.setIfInBounds_toArray, List.set_cons_zero, List.set_cons_succ])
      refine tk (i := 1) (d := (some 32)) (v := ?_) rfl rfl (by kernel_rfl) (by kernel_rfl) (by kernel_rfl) (fun _ _ _ h => h) (Or.inl ⟨by rfl, ?_⟩) hHeld ?_
      rotate_left
      · intro w hSw; have zd2 := keepc hSw d2; clear hSw; go_simp <;> with_reducible rfl
      (try simp only [Act.put, List.setIfInBounds_toArray, List.set_cons_zero, List.set_cons_succ])
      refine tk (i := 2) (d := (some 33)) (v := ?_) rfl rfl (by kernel_rfl) (by kernel_rfl) (by kernel_rfl) (fun _ _ _ h => h) (Or.inl ⟨by rfl, ?_⟩) hHeld ?_
      rotate_left
      · intro w hSw; have zd2 := keepc hSw d2; clear hSw; go_simp <;> with_reducible rfl
      (try simp only [Act.put, List.setIfInBounds_toArray, List.set_cons_zero, List.set_cons_succ])
      refine tk (i := 3) (d := (some 34)) (v := ?_) rfl rfl (by kernel_rfl) (by kernel_rfl) (by kernel_rfl) (fun _ _ _ h => h) (Or.inl ⟨by rfl, ?_⟩) hHeld ?_
      rotate_left
      · intro w hSw; have zd2 := keepc hSw d2; clear hSw; go_simp <;> with_reducible rfl
      (try simp only [Act.put, List.setIfInBounds_toArray, List.set_cons_zero, List.set_cons_succ])
      refine tk (i := 4) (d := (some 35)) (v := ?_) rfl rfl (by kernel_rfl) (by kernel_rfl) (by kernel_rfl) (fun _ _ _ h => h) (Or.inl ⟨by rfl, ?_⟩) hHeld ?_
      rotate_left
      · intro w hSw; have zd2 := keepc hSw d2; clear hSw; go_simp <;> with_reducible rfl
      (try simp only [Act.put, List.setIfInBounds_toArray, List.set_cons_zero, List.set_cons_succ])
      refine tk (i := 5) (d := (some 36)) (v := ?_) rfl rfl (by kernel_rfl) (by kernel_rfl) (by kernel_rfl) (fun _ _ _ h => h) (Or.inl ⟨by rfl, ?_⟩) hHeld ?_
      rotate_left
      · intro w hSw; have zd2 := keepc hSw d2; clear hSw; go_simp <;> with_reducible rfl
      (try simp only [Act.put, List.setIfInBounds_toArray, List.set_cons_zero, List.set_cons_succ])
      refine wpAnyH_ready (rs := [6]) (by kernel_rfl) (by simp) ?_
      refine AllReadyH.cons rfl (fun K hK => ?_) AllReadyH.nil
      go_simp
      refine (HT2.out _).mono ?_; rintro e W ⟨rfl, hq⟩
      go_simp
      refine hK.out _ _ (chn hHeld hq) (fun h => ?_)
      clear hK K; replace hHeld := h; clear h hq
      (try simp only [Act.put, List.setIfInBounds_toArray, List.set_cons_zero, List.set_cons_succ])
      refine tk (i := 7) (d := (some 38)) (v := ?_) rfl rfl (by kernel_rfl) (by kernel_rfl) (by kernel_rfl) (fun _ _ _ h => h) (Or.inl ⟨by rfl, ?_⟩) hHeld ?_
      rotate_left
      · intro w hSw; have zd2 := keepc hSw d2; clear hSw; go_simp <;> with_reducible rfl
      (try simp only [Act.put, List.setIfInBounds_toArray, List.set_cons_zero, List.set_cons_succ])
      refine wpAnyH_done (by kernel_rfl) ?_ _
      replace hb := chn hb hHeld; clear hHeld
      go_wp2
      go_roundw
      case rel => exact ⟨j + 1, by omega, by go_num, by congr 1 <;> omega, hb⟩
      case measure => simp [intOf]; omega
    · obtain rfl : j = n := by omega
      go_wp2
      go_ret
      exact ⟨rfl, hb⟩
end Go.Proofs.YtkhbkhibjflgmaaDoor
