/- The walks of TreeGet, of the program and of the reference. Conditions: lists and texts are no longer than any can be. -/
import Derived.Test.YtkhbkhibjflgmaaDoorTreeOkS
namespace Go.Proofs.YtkhbkhibjflgmaaDoor
open Go.RowKit
theorem three_set0 (w : World) (g : Nat) (u0 u1 u2 v0 v1 v2 : Value) (h0 : w.cell? ⟨g, 0, none⟩ = some u0) (h1 : w.cell? ⟨g, 1, none⟩ = some u1) (h2 : w.cell? ⟨g, 2, none⟩ = some u2) :
    ((((w.setCell ⟨g, 0, none⟩ v0).setCell ⟨g, 1, none⟩ v1).setCell ⟨g, 2, none⟩ v2).cell? ⟨g, 0, none⟩ = some v0) ∧
    ((((w.setCell ⟨g, 0, none⟩ v0).setCell ⟨g, 1, none⟩ v1).setCell ⟨g, 2, none⟩ v2).cell? ⟨g, 1, none⟩ = some v1) ∧
    ((((w.setCell ⟨g, 0, none⟩ v0).setCell ⟨g, 1, none⟩ v1).setCell ⟨g, 2, none⟩ v2).cell? ⟨g, 2, none⟩ = some v2) := by
  have n01 : (⟨g, 0, none⟩ : Addr) ≠ ⟨g, 1, none⟩ := by simp
  have n02 : (⟨g, 0, none⟩ : Addr) ≠ ⟨g, 2, none⟩ := by simp
  have n12 : (⟨g, 1, none⟩ : Addr) ≠ ⟨g, 2, none⟩ := by simp
  have a1 := (World.cell?_setCell_other w ⟨g, 0, none⟩ ⟨g, 1, none⟩ v0 n01).trans h1
  have a2 := (World.cell?_setCell_other w ⟨g, 0, none⟩ ⟨g, 2, none⟩ v0 n02).trans h2
  have b2 := (World.cell?_setCell_other (w.setCell ⟨g, 0, none⟩ v0) ⟨g, 1, none⟩ ⟨g, 2, none⟩ v1 n12).trans a2
  refine ⟨?_, ?_, ?_⟩
  · rw [World.cell?_setCell_other _ _ _ _ n02.symm, World.cell?_setCell_other _ _ _ _ n01.symm]
    exact World.cell?_setCell_same _ _ _ h0
  · rw [World.cell?_setCell_other _ _ _ _ n12.symm]
    exact World.cell?_setCell_same _ _ _ a1
  · exact World.cell?_setCell_same _ _ _ b2
abbrev rootE : En := ⟨⟨#[47]⟩, true, ⟨#[]⟩⟩
/-- What is at a path of a right tree, the root let in. -/
def lgetE (xs : List En) (q : ByteArray) : Option En := if q.data.toList = [47] then some rootE else getE xs q
open Classical in
/-- What TreeGet tells. -/
noncomputable def tgetE (xs : List En) (q : ByteArray) : Option En := if TOk (xs.map En.pl) then lgetE xs q else none
theorem tget_bad {xs : List En} (q : ByteArray) (h : ¬ TOk (xs.map En.pl)) : tgetE xs q = none := by unfold tgetE; rw [if_neg h]
theorem tget_ok {xs : List En} (q : ByteArray) (h : TOk (xs.map En.pl)) : tgetE xs q = lgetE xs q := by unfold tgetE; rw [if_pos h]
theorem tok_dec (xs : List En) : ∃ r : Bool, r = true ↔ TOk (xs.map En.pl) := ⟨by classical exact decide (TOk (xs.map En.pl)), by simp⟩
set_option maxHeartbeats 4000000 in
theorem treeGet_c (a : Option Addr) (c : Nat) (xs : List En) (q : ByteArray) (o : Option En) (ho : Hid (tgetE xs q = o)) (w : World) (hs : SlF En.cells w a xs) (hx : xs.length ≤ maxLen) (hz0 : ∀ e ∈ xs, e.p.size ≤ maxLen ∧ e.x.size ≤ maxLen) :
    Calls Tryd.prog 25 #[.slice a xs.length c, .string q] w fun r w' => r = .returned (optV o) ∧ Below w.heap.size w w' := by
  obtain ⟨r, hr⟩ := tok_dec xs
  obtain ⟨z, hz⟩ : ∃ z, w.alloc (.cells #[.string ⟨#[]⟩, .bool false, .string ⟨#[]⟩] 30) = z := ⟨_, rfl⟩
  have hzs : z.heap.size = w.heap.size + 1 := by rw [← hz]; simp
  have c0 : z.cell? ⟨w.heap.size, 0, none⟩ = some (.string ⟨#[]⟩) := by rw [← hz]; exact new_cell _ _ _ 0 _ rfl
  have c1 : z.cell? ⟨w.heap.size, 1, none⟩ = some (.bool false) := by rw [← hz]; exact new_cell _ _ _ 1 _ rfl
  have c2 : z.cell? ⟨w.heap.size, 2, none⟩ = some (.string ⟨#[]⟩) := by rw [← hz]; exact new_cell _ _ _ 2 _ rfl
  have hfz : ∀ j, z.frozen? ⟨w.heap.size, j, none⟩ = false := fun j => by rw [← hz]; exact new_free w _ _ j
  have HW := Lib.hid (hz ▸ bellow_alloc w _ : Below w.heap.size w z)
  have HF := Lib.hid hfz
  have HC0 := Lib.hid c0
  have HC1 := Lib.hid c1
  have HC2 := Lib.hid c2
  have HZ := Lib.hid hzs
  clear hzs c0 c1 c2 hfz
  have HT := Lib.hid (treeOk_c a c xs r (Lib.hid hr) z (hs.below HW.out) hx hz0)
  have HE := fun o' W (ho' : getE xs q = o') (h : SlF En.cells W a xs) => Lib.hid (entAt_c a c xs q o' (Lib.hid ho') W h hx)
  have HS := Lib.hid (hs.below HW.out)
  obtain ⟨n, hn⟩ : ∃ n, xs.length = n := ⟨_, rfl⟩
  rw [hn] at HT HE ⊢
  have GE := Lib.hid HE
  clear hn HE hx hz0 hs
  cases r with
  | false =>
    obtain rfl : o = none := by rw [← ho.out]; exact tget_bad q (fun h => by have := hr.2 h; cases this)
    clear hr
    go_enter Tryd.func25, Tryd.ntmps25
    go_wp2_with fail
    refine HT.out.mono ?_; rintro e W ⟨rfl, hb⟩
    clear hz
    have hlt0 : w.heap.size < W.heap.size := by have h1 := hb.size; have h2 := HZ.out; omega
    have g0 := keepc hb HC0.out
    have g1 := keepc hb HC1.out
    have g2 := keepc hb HC2.out
    have f0 := (hb.frozen (p := ⟨w.heap.size, 0, none⟩) (by rw [HZ.out]; simp)).trans (HF.out 0)
    have f1 := (hb.frozen (p := ⟨w.heap.size, 1, none⟩) (by rw [HZ.out]; simp)).trans (HF.out 1)
    have f2 := (hb.frozen (p := ⟨w.heap.size, 2, none⟩) (by rw [HZ.out]; simp)).trans (HF.out 2)
    go_wp2
    obtain ⟨q0, q1, q2⟩ := three_set0 W w.heap.size _ _ _ (.string ⟨#[]⟩) (.bool false) (.string ⟨#[]⟩) g0 g1 g2
    refine bodyPost_ret (v := (optV none)) (by first | (simp [results, Tryd.results25, go_sem, q0, q1, q2]; done) | (simp [results, Tryd.results25, go_sem, g0, g1, g2]; done)) rfl ⟨rfl, ?_⟩
    have HB := HW.out.trans (hb.mono (by rw [HZ.out]; omega))
    repeat (first | exact HB | refine Below.alloc ?_ (by simp; try omega) _ | refine Below.setCell ?_ (by simp; try omega) _)
  | true =>
    have ho2 := ho.out
    rw [tget_ok q (hr.1 rfl), lgetE] at ho2
    by_cases hq : q.data.toList = [47]
    · rw [if_pos hq] at ho2
      subst ho2
      have hq1 := beq_yes hq
      clear hr hq ho
      go_enter Tryd.func25, Tryd.ntmps25
      go_wp2_with fail
      refine HT.out.mono ?_; rintro e W ⟨rfl, hb⟩
      clear hz
      have hlt0 : w.heap.size < W.heap.size := by have h1 := hb.size; have h2 := HZ.out; omega
      have g0 := keepc hb HC0.out
      have g1 := keepc hb HC1.out
      have g2 := keepc hb HC2.out
      have f0 := (hb.frozen (p := ⟨w.heap.size, 0, none⟩) (by rw [HZ.out]; simp)).trans (HF.out 0)
      have f1 := (hb.frozen (p := ⟨w.heap.size, 1, none⟩) (by rw [HZ.out]; simp)).trans (HF.out 1)
      have f2 := (hb.frozen (p := ⟨w.heap.size, 2, none⟩) (by rw [HZ.out]; simp)).trans (HF.out 2)
      go_wp2
      obtain ⟨q0, q1, q2⟩ := three_set0 W w.heap.size _ _ _ (.string ⟨#[47]⟩) (.bool true) (.string ⟨#[]⟩) g0 g1 g2
      refine bodyPost_ret (v := (optV (some rootE))) (by first | (simp [results, Tryd.results25, go_sem, q0, q1, q2]; done) | (simp [results, Tryd.results25, go_sem, g0, g1, g2]; done)) rfl ⟨rfl, ?_⟩
      have HB := HW.out.trans (hb.mono (by rw [HZ.out]; omega))
      repeat (first | exact HB | refine Below.alloc ?_ (by simp; try omega) _ | refine Below.setCell ?_ (by simp; try omega) _)
    · rw [if_neg hq] at ho2
      have hq1 := beq_no hq
      have GO := Lib.hid ho2
      clear hr hq ho ho2
      go_enter Tryd.func25, Tryd.ntmps25
      go_wp2_with fail
      refine HT.out.mono ?_; rintro e W ⟨rfl, hb⟩
      clear hz
      go_wp2_with fail
      refine (GE.out _ _ GO.out (HS.out.below hb)).out.mono ?_; rintro e W ⟨rfl, hq⟩; replace hb := chn hb hq; clear hq
      have hlt0 : w.heap.size < W.heap.size := by have h1 := hb.size; have h2 := HZ.out; omega
      have g0 := keepc hb HC0.out
      have g1 := keepc hb HC1.out
      have g2 := keepc hb HC2.out
      have f0 := (hb.frozen (p := ⟨w.heap.size, 0, none⟩) (by rw [HZ.out]; simp)).trans (HF.out 0)
      have f1 := (hb.frozen (p := ⟨w.heap.size, 1, none⟩) (by rw [HZ.out]; simp)).trans (HF.out 1)
      have f2 := (hb.frozen (p := ⟨w.heap.size, 2, none⟩) (by rw [HZ.out]; simp)).trans (HF.out 2)
      cases o with
      | none =>
        go_wp2
        obtain ⟨q0, q1, q2⟩ := three_set0 W w.heap.size _ _ _ (.string ⟨#[]⟩) (.bool false) (.string ⟨#[]⟩) g0 g1 g2
        refine bodyPost_ret (v := (optV none)) (by first | (simp [results, Tryd.results25, go_sem, q0, q1, q2]; done) | (simp [results, Tryd.results25, go_sem, g0, g1, g2]; done)) rfl ⟨rfl, ?_⟩
        have HB := HW.out.trans (hb.mono (by rw [HZ.out]; omega))
        repeat (first | exact HB | refine Below.alloc ?_ (by simp; try omega) _ | refine Below.setCell ?_ (by simp; try omega) _)
      | some e =>
        go_wp2
        obtain ⟨q0, q1, q2⟩ := three_set0 W w.heap.size _ _ _ (.string e.p) (.bool e.d) (.string e.x) g0 g1 g2
        refine bodyPost_ret (v := (optV (some e))) (by first | (simp [results, Tryd.results25, go_sem, q0, q1, q2]; done) | (simp [results, Tryd.results25, go_sem, g0, g1, g2]; done)) rfl ⟨rfl, ?_⟩
        have HB := HW.out.trans (hb.mono (by rw [HZ.out]; omega))
        repeat (first | exact HB | refine Below.alloc ?_ (by simp; try omega) _ | refine Below.setCell ?_ (by simp; try omega) _)
set_option maxHeartbeats 4000000 in
theorem l2Get_c (a : Option Addr) (c : Nat) (xs : List En) (q : ByteArray) (o : Option En) (ho : Hid (lgetE xs q = o)) (w : World) (hs : SlF En.cells w a xs) (hx : xs.length ≤ maxLen) :
    Calls Tryd.prog 79 #[.slice a xs.length c, .string q] w fun r w' => r = .returned (optV o) ∧ Below w.heap.size w w' := by
  obtain ⟨z, hz⟩ : ∃ z, w.alloc (.cells #[.string ⟨#[]⟩, .bool false, .string ⟨#[]⟩] 30) = z := ⟨_, rfl⟩
  have hzs : z.heap.size = w.heap.size + 1 := by rw [← hz]; simp
  have c0 : z.cell? ⟨w.heap.size, 0, none⟩ = some (.string ⟨#[]⟩) := by rw [← hz]; exact new_cell _ _ _ 0 _ rfl
  have c1 : z.cell? ⟨w.heap.size, 1, none⟩ = some (.bool false) := by rw [← hz]; exact new_cell _ _ _ 1 _ rfl
  have c2 : z.cell? ⟨w.heap.size, 2, none⟩ = some (.string ⟨#[]⟩) := by rw [← hz]; exact new_cell _ _ _ 2 _ rfl
  have hfz : ∀ j, z.frozen? ⟨w.heap.size, j, none⟩ = false := fun j => by rw [← hz]; exact new_free w _ _ j
  have HW := Lib.hid (hz ▸ bellow_alloc w _ : Below w.heap.size w z)
  have HF := Lib.hid hfz
  have HC0 := Lib.hid c0
  have HC1 := Lib.hid c1
  have HC2 := Lib.hid c2
  have HZ := Lib.hid hzs
  clear hzs c0 c1 c2 hfz
  obtain ⟨k, hk⟩ : ∃ k, findE xs q = k := ⟨_, rfl⟩
  have HT := Lib.hid (l2Find_c a c xs q k (Lib.hid hk) z (hs.below HW.out) hx)
  have HS := Lib.hid (hs.below HW.out)
  have hb := Below.refl z.heap.size z
  have ho2 := ho.out
  rw [lgetE] at ho2
  by_cases hq : q.data.toList = [47]
  · rw [if_pos hq] at ho2
    subst ho2
    have hq1 := beq_yes hq
    clear hq ho hk HT
    go_enter Tryd.func79, Tryd.ntmps79
    have hlt0 : w.heap.size < z.heap.size := by have h1 := hb.size; have h2 := HZ.out; omega
    have g0 := keepc hb HC0.out
    have g1 := keepc hb HC1.out
    have g2 := keepc hb HC2.out
    have f0 := (hb.frozen (p := ⟨w.heap.size, 0, none⟩) (by rw [HZ.out]; simp)).trans (HF.out 0)
    have f1 := (hb.frozen (p := ⟨w.heap.size, 1, none⟩) (by rw [HZ.out]; simp)).trans (HF.out 1)
    have f2 := (hb.frozen (p := ⟨w.heap.size, 2, none⟩) (by rw [HZ.out]; simp)).trans (HF.out 2)
    go_wp2
    obtain ⟨q0, q1, q2⟩ := three_set0 z w.heap.size _ _ _ (.string ⟨#[47]⟩) (.bool true) (.string ⟨#[]⟩) g0 g1 g2
    refine bodyPost_ret (v := (optV (some rootE))) (by first | (simp [results, Tryd.results79, go_sem, q0, q1, q2]; done) | (simp [results, Tryd.results79, go_sem, g0, g1, g2]; done)) rfl ⟨rfl, ?_⟩
    have HB := HW.out.trans (hb.mono (by rw [HZ.out]; omega))
    repeat (first | exact HB | refine Below.alloc ?_ (by simp; try omega) _ | refine Below.setCell ?_ (by simp; try omega) _)
  · rw [if_neg hq] at ho2
    have hq1 := beq_no hq
    have hg := findE_get xs q
    rw [hk] at hg
    cases k with
    | none =>
      obtain rfl : o = none := ho2.symm.trans hg
      obtain ⟨n, hn⟩ : ∃ n, xs.length = n := ⟨_, rfl⟩
      rw [hn] at HT ⊢
      clear hn hq ho ho2 hk hg
      go_enter Tryd.func79, Tryd.ntmps79
      go_wp2_with fail
      refine HT.out.mono ?_; rintro e W ⟨rfl, rfl⟩
      have hlt0 : w.heap.size < z.heap.size := by have h1 := hb.size; have h2 := HZ.out; omega
      have g0 := keepc hb HC0.out
      have g1 := keepc hb HC1.out
      have g2 := keepc hb HC2.out
      have f0 := (hb.frozen (p := ⟨w.heap.size, 0, none⟩) (by rw [HZ.out]; simp)).trans (HF.out 0)
      have f1 := (hb.frozen (p := ⟨w.heap.size, 1, none⟩) (by rw [HZ.out]; simp)).trans (HF.out 1)
      have f2 := (hb.frozen (p := ⟨w.heap.size, 2, none⟩) (by rw [HZ.out]; simp)).trans (HF.out 2)
      go_wp2
      obtain ⟨q0, q1, q2⟩ := three_set0 z w.heap.size _ _ _ (.string ⟨#[]⟩) (.bool false) (.string ⟨#[]⟩) g0 g1 g2
      refine bodyPost_ret (v := (optV none)) (by first | (simp [results, Tryd.results79, go_sem, q0, q1, q2]; done) | (simp [results, Tryd.results79, go_sem, g0, g1, g2]; done)) rfl ⟨rfl, ?_⟩
      have HB := HW.out.trans (hb.mono (by rw [HZ.out]; omega))
      repeat (first | exact HB | refine Below.alloc ?_ (by simp; try omega) _ | refine Below.setCell ?_ (by simp; try omega) _)
    | some k =>
      obtain ⟨e, he, hge⟩ := findE_lt xs q k hk
      obtain rfl : o = some e := ho2.symm.trans hge
      obtain ⟨b, off, rfl, _⟩ := HS.out.addr (by have := (List.getElem?_eq_some_iff.1 he).1; omega)
      obtain ⟨d0, d1, d2⟩ := en_at HS.out k e he
      have hkn : k < xs.length := (List.getElem?_eq_some_iff.1 he).1
      obtain ⟨n, hn⟩ : ∃ n, xs.length = n := ⟨_, rfl⟩
      rw [hn] at HT hkn hx ⊢
      unfold maxLen at hx
      clear hn hq ho ho2 hk hg he hge
      go_enter Tryd.func79, Tryd.ntmps79
      go_wp2_with fail
      refine HT.out.mono ?_; rintro e' W ⟨rfl, rfl⟩
      have hlt0 : w.heap.size < z.heap.size := by have h1 := hb.size; have h2 := HZ.out; omega
      have g0 := keepc hb HC0.out
      have g1 := keepc hb HC1.out
      have g2 := keepc hb HC2.out
      have f0 := (hb.frozen (p := ⟨w.heap.size, 0, none⟩) (by rw [HZ.out]; simp)).trans (HF.out 0)
      have f1 := (hb.frozen (p := ⟨w.heap.size, 1, none⟩) (by rw [HZ.out]; simp)).trans (HF.out 1)
      have f2 := (hb.frozen (p := ⟨w.heap.size, 2, none⟩) (by rw [HZ.out]; simp)).trans (HF.out 2)
      go_wp2
      obtain ⟨q0, q1, q2⟩ := three_set0 z w.heap.size _ _ _ (.string e.p) (.bool e.d) (.string e.x) g0 g1 g2
      refine bodyPost_ret (v := (optV (some e))) (by first | (simp [results, Tryd.results79, go_sem, q0, q1, q2]; done) | (simp [results, Tryd.results79, go_sem, g0, g1, g2]; done)) rfl ⟨rfl, ?_⟩
      have HB := HW.out.trans (hb.mono (by rw [HZ.out]; omega))
      repeat (first | exact HB | refine Below.alloc ?_ (by simp; try omega) _ | refine Below.setCell ?_ (by simp; try omega) _)
set_option maxHeartbeats 4000000 in
theorem sTreeGet_c (a : Option Addr) (c : Nat) (xs : List En) (q : ByteArray) (o : Option En) (ho : Hid (tgetE xs q = o)) (w : World) (hs : SlF En.cells w a xs) (hx : xs.length ≤ maxLen) (hc : xs.length ≤ c) (hz0 : ∀ e ∈ xs, e.p.size ≤ maxLen ∧ e.x.size ≤ maxLen) :
    Calls Tryd.prog 24 #[.slice a xs.length c, .string q] w fun r w' => r = .returned (optV o) ∧ Below w.heap.size w w' := by
  obtain ⟨r, hr⟩ := tok_dec xs
  obtain ⟨z, hz⟩ : ∃ z, w.alloc (.cells #[.string ⟨#[]⟩, .bool false, .string ⟨#[]⟩] 30) = z := ⟨_, rfl⟩
  have hzs : z.heap.size = w.heap.size + 1 := by rw [← hz]; simp
  have c0 : z.cell? ⟨w.heap.size, 0, none⟩ = some (.string ⟨#[]⟩) := by rw [← hz]; exact new_cell _ _ _ 0 _ rfl
  have c1 : z.cell? ⟨w.heap.size, 1, none⟩ = some (.bool false) := by rw [← hz]; exact new_cell _ _ _ 1 _ rfl
  have c2 : z.cell? ⟨w.heap.size, 2, none⟩ = some (.string ⟨#[]⟩) := by rw [← hz]; exact new_cell _ _ _ 2 _ rfl
  have hfz : ∀ j, z.frozen? ⟨w.heap.size, j, none⟩ = false := fun j => by rw [← hz]; exact new_free w _ _ j
  have HW := Lib.hid (hz ▸ bellow_alloc w _ : Below w.heap.size w z)
  have HF := Lib.hid hfz
  have HC0 := Lib.hid c0
  have HC1 := Lib.hid c1
  have HC2 := Lib.hid c2
  have HZ := Lib.hid hzs
  clear hzs c0 c1 c2 hfz
  have HT := Lib.hid (sTreeOk_c a c xs r (Lib.hid hr) z (hs.below HW.out) hx hc hz0)
  have HE := fun o' W (ho' : lgetE xs q = o') (h : SlF En.cells W a xs) => Lib.hid (l2Get_c a c xs q o' (Lib.hid ho') W h hx)
  have HS := Lib.hid (hs.below HW.out)
  obtain ⟨n, hn⟩ : ∃ n, xs.length = n := ⟨_, rfl⟩
  rw [hn] at HT HE ⊢
  have GE := Lib.hid HE
  clear hn HE hx hz0 hs hc
  cases r with
  | false =>
    obtain rfl : o = none := by rw [← ho.out]; exact tget_bad q (fun h => by have := hr.2 h; cases this)
    clear hr
    go_enter Tryd.func24, Tryd.ntmps24
    go_wp2_with fail
    refine HT.out.mono ?_; rintro e W ⟨rfl, hb⟩
    clear hz
    have hlt0 : w.heap.size < W.heap.size := by have h1 := hb.size; have h2 := HZ.out; omega
    have g0 := keepc hb HC0.out
    have g1 := keepc hb HC1.out
    have g2 := keepc hb HC2.out
    have f0 := (hb.frozen (p := ⟨w.heap.size, 0, none⟩) (by rw [HZ.out]; simp)).trans (HF.out 0)
    have f1 := (hb.frozen (p := ⟨w.heap.size, 1, none⟩) (by rw [HZ.out]; simp)).trans (HF.out 1)
    have f2 := (hb.frozen (p := ⟨w.heap.size, 2, none⟩) (by rw [HZ.out]; simp)).trans (HF.out 2)
    go_wp2
    obtain ⟨q0, q1, q2⟩ := three_set0 W w.heap.size _ _ _ (.string ⟨#[]⟩) (.bool false) (.string ⟨#[]⟩) g0 g1 g2
    refine bodyPost_ret (v := (optV none)) (by first | (simp [results, Tryd.results24, go_sem, q0, q1, q2]; done) | (simp [results, Tryd.results24, go_sem, g0, g1, g2]; done)) rfl ⟨rfl, ?_⟩
    have HB := HW.out.trans (hb.mono (by rw [HZ.out]; omega))
    repeat (first | exact HB | refine Below.alloc ?_ (by simp; try omega) _ | refine Below.setCell ?_ (by simp; try omega) _)
  | true =>
    have ho2 := ho.out
    rw [tget_ok q (hr.1 rfl)] at ho2
    have GO := Lib.hid ho2
    clear hr ho ho2
    go_enter Tryd.func24, Tryd.ntmps24
    go_wp2_with fail
    refine HT.out.mono ?_; rintro e W ⟨rfl, hb⟩
    clear hz
    go_wp2_with fail
    refine (GE.out _ _ GO.out (HS.out.below hb)).out.mono ?_; rintro e W ⟨rfl, hq⟩; replace hb := chn hb hq; clear hq
    have hlt0 : w.heap.size < W.heap.size := by have h1 := hb.size; have h2 := HZ.out; omega
    have g0 := keepc hb HC0.out
    have g1 := keepc hb HC1.out
    have g2 := keepc hb HC2.out
    have f0 := (hb.frozen (p := ⟨w.heap.size, 0, none⟩) (by rw [HZ.out]; simp)).trans (HF.out 0)
    have f1 := (hb.frozen (p := ⟨w.heap.size, 1, none⟩) (by rw [HZ.out]; simp)).trans (HF.out 1)
    have f2 := (hb.frozen (p := ⟨w.heap.size, 2, none⟩) (by rw [HZ.out]; simp)).trans (HF.out 2)
    cases o with
    | none =>
      go_wp2
      obtain ⟨q0, q1, q2⟩ := three_set0 W w.heap.size _ _ _ (.string ⟨#[]⟩) (.bool false) (.string ⟨#[]⟩) g0 g1 g2
      refine bodyPost_ret (v := (optV none)) (by first | (simp [results, Tryd.results24, go_sem, q0, q1, q2]; done) | (simp [results, Tryd.results24, go_sem, g0, g1, g2]; done)) rfl ⟨rfl, ?_⟩
      have HB := HW.out.trans (hb.mono (by rw [HZ.out]; omega))
      repeat (first | exact HB | refine Below.alloc ?_ (by simp; try omega) _ | refine Below.setCell ?_ (by simp; try omega) _)
    | some e =>
      go_wp2
      obtain ⟨q0, q1, q2⟩ := three_set0 W w.heap.size _ _ _ (.string e.p) (.bool e.d) (.string e.x) g0 g1 g2
      refine bodyPost_ret (v := (optV (some e))) (by first | (simp [results, Tryd.results24, go_sem, q0, q1, q2]; done) | (simp [results, Tryd.results24, go_sem, g0, g1, g2]; done)) rfl ⟨rfl, ?_⟩
      have HB := HW.out.trans (hb.mono (by rw [HZ.out]; omega))
      repeat (first | exact HB | refine Below.alloc ?_ (by simp; try omega) _ | refine Below.setCell ?_ (by simp; try omega) _)
end Go.Proofs.YtkhbkhibjflgmaaDoor
