/- The walks of the reader of drawn bytes: l10Open, pick, of. Conditions: fewer than a million bytes have been picked. -/
import Derived.Test.YtkhbkhibjflgmaaDoorBase
import Derived.Deep.QuietTactic
import Derived.BigQuiet
import Derived.Laws.BitsLemmas
import Derived.Laws.BitsAllLaws
namespace Go.Proofs.YtkhbkhibjflgmaaDoor
open Go.RowKit
theorem xor_i64 (a b : Nat) (ha : a < 4611686018427387904) (hb : b < 4611686018427387904) : bits .xor .i64 (a : Int) (b : Int) = ((a ^^^ b : Nat) : Int) := by
  have hx : a ^^^ b < 2 ^ 62 := Nat.xor_lt_two_pow (by omega) (by omega)
  show IntKind.i64.wrap ((BitVec.ofInt 64 (a : Int) ^^^ BitVec.ofInt 64 (b : Int)).toNat : Int) = _
  have e : ∀ c : Nat, c < 4611686018427387904 → (BitVec.ofInt 64 (c : Int)).toNat = c := fun c hc => by
    rw [BitVec.ofInt_natCast, BitVec.toNat_ofNat]; exact Nat.mod_eq_of_lt (by omega)
  rw [BitVec.toNat_xor, e a ha, e b hb]
  exact IntWalk.i64_in _ (by omega)
/-- Bytes that can be read: n of them, at a place below block g. -/
def BytesAt (w : World) (g : Nat) (a : Option Addr) (n : Nat) : Prop :=
  0 < n → ∃ b off, a = some ⟨b, off, none⟩ ∧ b < g ∧ ∀ k, k < n → ∃ x : Int, 0 ≤ x ∧ x ≤ 255 ∧ w.cell? ⟨b, off + k, none⟩ = some (.int .u8 x)
/-- The reader in block g: p bytes have been picked. -/
def Rd (w : World) (g p : Nat) : Prop :=
  ∃ a n c, w.heap[g]? = some (.cells #[.slice a n c, .int .i64 (p : Int)] 118 (0, 0)) ∧ n ≤ c ∧ n ≤ 2000 ∧ BytesAt w g a n
/-- Only block g, and what is new, has turned. -/
def Only (g : Nat) (w w' : World) : Prop := w.grownBy w' (some g)
theorem Only.refl (g : Nat) (w : World) : Only g w w := ⟨rfl, rfl, rfl, Nat.le_refl _, fun _ _ _ => rfl⟩
theorem Only.trans {g : Nat} {a b c : World} (h : Only g a b) (k : Only g b c) : Only g a c :=
  ⟨k.os.trans h.os, k.tape.trans h.tape, k.output.trans h.output, Nat.le_trans h.size k.size, fun i hi hne => (k.block i (Nat.lt_of_lt_of_le hi h.size) hne).trans (h.block i hi hne)⟩
theorem Only.drewN {g : Nat} {a b : World} (h : Only g a b) (n : Nat) : Only g a (b.drewN n) := ⟨h.os, h.tape, h.output, h.size, h.block⟩
theorem Only.of_below {g : Nat} {a b : World} (h : Below a.heap.size a b) : Only g a b := ⟨h.os, h.tape, h.output, h.size, fun i hi _ => h.block i hi⟩
theorem Only.setCell {g : Nat} {a b : World} (h : Only g a b) {p : Addr} (hp : p.block = g ∨ a.heap.size ≤ p.block) (u : Value) : Only g a (b.setCell p u) :=
  ⟨h.os, h.tape, h.output, by simpa [World.setCell] using h.size, fun i hi hne => (Below.heap_setCell b p u i (by
    rintro rfl
    rcases hp with hp | hp
    · exact hne (by rw [hp])
    · omega)).trans (h.block i hi hne)⟩
theorem Only.below {g B : Nat} {w0 a b : World} (h0 : Below B w0 a) (h : Only g a b) (hg : B ≤ g) (hB : B ≤ a.heap.size) : Below B w0 b :=
  h0.grown h hB (fun k hk => by injection hk with hk; omega)
theorem Rd.keep {w w' : World} {g p : Nat} (h : Rd w g p) (hb : Below w.heap.size w w') (hg : g < w.heap.size) : Rd w' g p := by
  obtain ⟨a, n, c, h1, h2, h3, h4⟩ := h
  refine ⟨a, n, c, (hb.block g hg).trans h1, h2, h3, fun hn => ?_⟩
  obtain ⟨b, off, e, hlt, hc⟩ := h4 hn
  exact ⟨b, off, e, hlt, fun k hk => by
    obtain ⟨x, h5, h6, h7⟩ := hc k hk
    exact ⟨x, h5, h6, (hb.cell (p := ⟨b, off + k, none⟩) (Nat.lt_trans hlt hg)).trans h7⟩⟩
theorem Rd.lt {w : World} {g p : Nat} (h : Rd w g p) : g < w.heap.size := by
  obtain ⟨a, n, c, h1, _⟩ := h
  rcases Nat.lt_or_ge g w.heap.size with h2 | h2
  · exact h2
  · rw [Array.getElem?_eq_none h2] at h1; cases h1
/-- What a pick leaves: a number below n. -/
def PickPost (w : World) (g p : Nat) (n : Int) (e : Ending) (w' : World) : Prop :=
  ∃ m : Nat, e = .returned (.int .i64 m) ∧ (n < 1 → m = 0) ∧ (1 ≤ n → (m : Int) < n) ∧ Rd w' g (p + 1) ∧ Only g w w'
theorem rd_step {w w1 : World} {g p n c : Nat} {a : Option Addr} (h1 : w.heap[g]? = some (.cells #[.slice a n c, .int .i64 (p : Int)] 118 (0, 0))) (h2 : n ≤ c) (h3 : n ≤ 2000) (h4 : BytesAt w g a n)
    (hw : ∃ q, w1 = (w.setCell ⟨g, 1, none⟩ (.int .i64 ((p : Int) + 1))).drewN q) : Rd w1 g (p + 1) ∧ Only g w w1 := by
  obtain ⟨q, rfl⟩ := hw
  refine ⟨⟨a, n, c, ?_, h2, h3, fun hn => ?_⟩, (Only.setCell (Only.refl _ _) (.inl rfl) _).drewN _⟩
  · show (w.setCell _ _).heap[g]? = _
    simp [World.setCell, Array.getElem?_modify, h1]
  · obtain ⟨b, off, e, hlt, hc⟩ := h4 hn
    exact ⟨b, off, e, hlt, fun k hk => by
      obtain ⟨x, h5, h6, h7⟩ := hc k hk
      exact ⟨x, h5, h6, (World.cell?_setCell_other w _ _ _ (fun e => by injection e with e; omega)).trans h7⟩⟩
set_option maxHeartbeats 1000000 in
theorem pick_c (w : World) (g p : Nat) (n : Int) (hr : Rd w g p) (hp : p ≤ 1000000) (hn : n ≤ 1000000) (hn0 : -1000000 ≤ n) :
    Calls Tryd.prog 109 #[.pointer (some ⟨g, 0, none⟩), .int .i64 n] w (PickPost w g p n) := by
  obtain ⟨a, l, c, h1, h2, h3, h4⟩ := hr
  have hs := Lib.hid (fun w1 => rd_step (w1 := w1) h1 h2 h3 h4)
  have c0 : w.cell? ⟨g, 0, none⟩ = some (.slice a l c) := cell_of_row w g 0 _ _ _ h1
  have c1 : w.cell? ⟨g, 1, none⟩ = some (.int .i64 (p : Int)) := cell_of_row w g 1 _ _ _ h1
  have f1 : w.frozen? ⟨g, 1, none⟩ = false := by simp [World.frozen?, h1]
  clear h1
  by_cases hn1 : n < 1
  · clear h4
    go_enter Tryd.func109, Tryd.ntmps109
    go_wp2
    go_ret
    exact ⟨0, rfl, fun _ => rfl, fun h => by omega, hs.out _ ⟨0, rfl⟩⟩
  by_cases hl : l = 0
  · subst hl
    clear h4
    go_enter Tryd.func109, Tryd.ntmps109
    go_wp2
    go_ret
    exact ⟨0, rfl, fun h => by omega, fun h => by omega, hs.out _ ⟨0, rfl⟩⟩
  obtain ⟨b, off, rfl, hlt, hc⟩ := h4 (by omega)
  have hl0 : ((l : Int) == 0) = false := by rw [beq_eq_false_iff_ne]; omega
  by_cases hpl : p < l
  · obtain ⟨x, hx0, hx1, hcx⟩ := hc p hpl
    have hcx' : (w.setCell ⟨g, 1, none⟩ (.int .i64 ((p : Int) + 1))).cell? ⟨b, off + p, none⟩ = some (.int .u8 x) :=
      (World.cell?_setCell_other w _ _ _ (fun e => by injection e with e; omega)).trans hcx
    have hm : Hid (∃ m : Nat, x % n = (m : Int) ∧ (m : Int) < n) := ⟨(x % n).toNat, by have := Int.emod_nonneg x (b := n) (by omega); omega, by have := Int.emod_lt_of_pos x (b := n) (by omega); have := Int.emod_nonneg x (b := n) (by omega); omega⟩
    clear hc
    go_enter Tryd.func109, Tryd.ntmps109
    go_wp2
    go_ret
    obtain ⟨m, hm1, hm2⟩ := hm.out
    exact ⟨m, ret_int hm1, fun h => by omega, fun _ => hm2, hs.out _ ⟨0, rfl⟩⟩
  · obtain ⟨q, hq⟩ : ∃ q, p % l = q := ⟨_, rfl⟩
    obtain ⟨q2, hq2⟩ : ∃ q2, (p * 7 + 3) % l = q2 := ⟨_, rfl⟩
    obtain ⟨q3, hq3⟩ : ∃ q3, p / l = q3 := ⟨_, rfl⟩
    have hql : q < l := by rw [← hq]; exact Nat.mod_lt _ (by omega)
    have hq2l : q2 < l := by rw [← hq2]; exact Nat.mod_lt _ (by omega)
    have hq3l : q3 ≤ 1000000 := by rw [← hq3]; exact Nat.le_trans (Nat.div_le_self _ _) hp
    have e1 : ((p : Int) % (l : Int)) = (q : Int) := by rw [← hq]; rfl
    have e2 : (((p : Int) * 7 + 3) % (l : Int)) = (q2 : Int) := by rw [← hq2]; rfl
    have e3 : ((p : Int) / (l : Int)) = (q3 : Int) := by rw [← hq3]; rfl
    obtain ⟨x, hx0, hx1, hcx⟩ := hc q hql
    obtain ⟨y, hy0, hy1, hcy⟩ := hc q2 hq2l
    have hcx' : (w.setCell ⟨g, 1, none⟩ (.int .i64 ((p : Int) + 1))).cell? ⟨b, off + q, none⟩ = some (.int .u8 x) :=
      (World.cell?_setCell_other w _ _ _ (fun e => by injection e with e; omega)).trans hcx
    have hcy' : (w.setCell ⟨g, 1, none⟩ (.int .i64 ((p : Int) + 1))).cell? ⟨b, off + q2, none⟩ = some (.int .u8 y) :=
      (World.cell?_setCell_other w _ _ _ (fun e => by injection e with e; omega)).trans hcy
    have hM : Hid (∃ m : Nat, (bits .xor .i64 (x * 131 + y * 1117 + (p : Int) * 29 + (q3 : Int) * 53) ((x * 131 + y * 1117 + (p : Int) * 29 + (q3 : Int) * 53) / 64)).tmod n = (m : Int) ∧ (m : Int) < n) := by
      obtain ⟨X, hX⟩ : ∃ X : Nat, x * 131 + y * 1117 + (p : Int) * 29 + (q3 : Int) * 53 = (X : Int) := ⟨(x * 131 + y * 1117 + (p : Int) * 29 + (q3 : Int) * 53).toNat, by omega⟩
      have hXl : X < 4611686018427387904 := by omega
      obtain ⟨N, rfl⟩ : ∃ N : Nat, n = (N : Int) := ⟨n.toNat, by omega⟩
      have hd : ((X : Int) / 64) = ((X / 64 : Nat) : Int) := rfl
      rw [hX, hd, xor_i64 X (X / 64) hXl (by omega), Int.tmod_eq_emod_of_nonneg (by omega)]
      exact ⟨(X ^^^ X / 64) % N, rfl, by have := Nat.mod_lt (X ^^^ X / 64) (y := N) (by omega); omega⟩
    have t1 : Int.tmod (p : Int) (l : Int) = (q : Int) := by rw [Int.tmod_eq_emod_of_nonneg (by omega)]; exact e1
    have t2 : Int.tmod ((p : Int) * 7 + 3) (l : Int) = (q2 : Int) := by rw [Int.tmod_eq_emod_of_nonneg (by omega)]; exact e2
    have t3 : Int.tdiv (p : Int) (l : Int) = (q3 : Int) := by rw [Int.tdiv_eq_ediv_of_nonneg (by omega)]; exact e3
    have wr1 : IntKind.i64.wrap ((p : Int) * 7) = (p : Int) * 7 := IntWalk.i64_in _ (by omega)
    have wr2 : IntKind.i64.wrap ((p : Int) * 7 + 3) = (p : Int) * 7 + 3 := IntWalk.i64_in _ (by omega)
    have wr3 : IntKind.i64.wrap (x * 131) = x * 131 := IntWalk.i64_in _ (by omega)
    have wr4 : IntKind.i64.wrap (y * 1117) = y * 1117 := IntWalk.i64_in _ (by omega)
    have wr5 : IntKind.i64.wrap (x * 131 + y * 1117) = x * 131 + y * 1117 := IntWalk.i64_in _ (by omega)
    have wr6 : IntKind.i64.wrap ((p : Int) * 29) = (p : Int) * 29 := IntWalk.i64_in _ (by omega)
    have wr7 : IntKind.i64.wrap (x * 131 + y * 1117 + (p : Int) * 29) = x * 131 + y * 1117 + (p : Int) * 29 := IntWalk.i64_in _ (by omega)
    have wr8 : IntKind.i64.wrap ((q3 : Int) * 53) = (q3 : Int) * 53 := IntWalk.i64_in _ (by omega)
    have wr9 : IntKind.i64.wrap (x * 131 + y * 1117 + (p : Int) * 29 + (q3 : Int) * 53) = x * 131 + y * 1117 + (p : Int) * 29 + (q3 : Int) * 53 := IntWalk.i64_in _ (by omega)
    have i1 : (0 : Int) ≤ (q : Int) := by omega
    have i2 : (q : Int) < (l : Int) := by omega
    have i3 : (0 : Int) ≤ (q2 : Int) := by omega
    have i4 : (q2 : Int) < (l : Int) := by omega
    clear hc hq hq2 hq3
    go_enter Tryd.func109, Tryd.ntmps109
    go_wp2
    go_quiet (fail)
    go_wp2
    go_ret
    obtain ⟨m, hm1, hm2⟩ := hM.out
    exact ⟨m, ret_int hm1, fun h => by omega, fun _ => hm2, hs.out _ ⟨_, rfl⟩⟩

set_option maxHeartbeats 1000000 in
theorem open_c (w : World) (a : Option Addr) (n c : Nat) (hnc : n ≤ c) (hb : BytesAt w w.heap.size a n) (hn : n ≤ 9223372036854775807) :
    Calls Tryd.prog 92 #[.slice a n c] w fun e w' => e = .returned (.pointer (some ⟨w.heap.size, 0, none⟩)) ∧ Rd w' w.heap.size 0 ∧ Below w.heap.size w w' := by
  have hfin : ∀ m c', m ≤ c' → m ≤ 2000 → m ≤ n → Hid (Rd (w.alloc (.cells #[.slice a m c', .int .i64 0] 118)) w.heap.size 0) := fun m c' h1 h2 h3 =>
    ⟨a, m, c', heap_alloc_new w _, h1, h2, fun hm => by
      obtain ⟨b, off, e, hlt, hc⟩ := hb (by omega)
      exact ⟨b, off, e, hlt, fun k hk => by
        obtain ⟨x, h5, h6, h7⟩ := hc k (by omega)
        exact ⟨x, h5, h6, (World.cell?_alloc_lt w _ _ (by simpa using hlt)).trans h7⟩⟩⟩
  by_cases h : 2000 < n
  · have H := hfin 2000 c (by omega) (by omega) (by omega)
    clear hfin
    obtain ⟨b, off, rfl, _, _⟩ := hb (by omega)
    clear hb
    go_enter Tryd.func92, Tryd.ntmps92
    go_wp2
    go_ret
    exact ⟨rfl, H.out, (Below.refl _ _).alloc (Nat.le_refl _) _⟩
  · have H := hfin n c hnc (by omega) (by omega)
    clear hfin hb
    go_enter Tryd.func92, Tryd.ntmps92
    go_wp2
    go_ret
    exact ⟨rfl, H.out, (Below.refl _ _).alloc (Nat.le_refl _) _⟩
/-- An argument of bytes that can be read. -/
def Code (w : World) (a : Option Addr) (n c : Nat) : Prop := n ≤ c ∧ BytesAt w w.heap.size a n ∧ n ≤ 9223372036854775807
theorem BytesAt.below {w w' : World} {a : Option Addr} {n : Nat} (h : BytesAt w w.heap.size a n) (hb : Below w.heap.size w w') : BytesAt w' w'.heap.size a n := fun hn => by
  obtain ⟨b, off, e, hlt, hc⟩ := h hn
  refine ⟨b, off, e, Nat.lt_of_lt_of_le hlt hb.size, fun k hk => ?_⟩
  obtain ⟨x, h5, h6, h7⟩ := hc k hk
  exact ⟨x, h5, h6, (hb.cell (p := ⟨b, off + k, none⟩) hlt).trans h7⟩
theorem Code.below {w w' : World} {a : Option Addr} {n c : Nat} (h : Code w a n c) (hb : Below w.heap.size w w') : Code w' a n c := ⟨h.1, h.2.1.below hb, h.2.2⟩
theorem open_c' (w : World) (a : Option Addr) (n c : Nat) (h : Code w a n c) :
    Calls Tryd.prog 92 #[.slice a n c] w fun e w' => e = .returned (.pointer (some ⟨w.heap.size, 0, none⟩)) ∧ Rd w' w.heap.size 0 ∧ Below w.heap.size w w' :=
  open_c w a n c h.1 h.2.1 h.2.2
end Go.Proofs.YtkhbkhibjflgmaaDoor
