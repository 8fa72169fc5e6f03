/- The walks of the exact laws of TreeSame and LayerSame. Conditions: lists and texts are no longer than any can be. -/
import Derived.Test.YtilehieonjmlcaaSame2
import Derived.Test.YtilehieonjmlcaaSize
namespace Go.Proofs.Ytilehieonjmlcaa
open Go.RowKit
def TrueS (w : World) (e : Ending) (w' : World) : Prop := e = .returned (.bool true) ∧ Below w.heap.size w w'
theorem below_draws (w : World) (m : Nat) : Below w.heap.size w (w.drewN m) := ⟨rfl, rfl, rfl, Nat.le_refl _, fun _ _ => rfl⟩
theorem flatMap_at {α : Type} {f : α → List Value} (hf : ∀ x, (f x).length = 3) {xs : List α} (k : Nat) (x : α) (hx : xs[k]? = some x) (j : Nat) (hj : j < 3) : (xs.flatMap f)[k * 3 + j]? = (f x)[j]? := by
  induction xs generalizing k with
  | nil => simp at hx
  | cons y r ih =>
    rw [List.flatMap_cons]
    cases k with
    | zero =>
      simp at hx; subst hx
      rw [Nat.zero_mul, Nat.zero_add, List.getElem?_append_left (by rw [hf]; exact hj)]
    | succ k =>
      rw [List.getElem?_append_right (by rw [hf]; omega), hf, show (k + 1) * 3 + j - 3 = k * 3 + j by omega]
      exact ih k (by simpa using hx)
theorem own_slfEn {w : World} {B g c : Nat} {xs : List En} (h : OwnEn w B (.slice (some ⟨g, 0, none⟩) xs.length c) xs) : SlF En.cells w (some ⟨g, 0, none⟩) xs := fun hn => by
  obtain ⟨g', c', hv, _, _, hlt, hc, _⟩ := own_form h hn
  have hg : g = g' := by injection hv with h1; injection h1 with h1; injection h1
  subst hg
  refine ⟨g, 0, rfl, hlt, fun k x hx j u hu => ?_⟩
  rw [Nat.zero_add]
  exact hc _ _ (by rw [flatMap_at (fun _ => rfl) k x hx j (List.getElem?_eq_some_iff.1 hu).1]; exact hu)
theorem toEntS_b (a : Option Addr) (c : Nat) (xs : List En) (w : World) (hs : SlF En.cells w a xs) (hn : xs.length ≤ 2000000) :
    Calls Try.prog 13 #[.slice a xs.length c] w fun r w' => r = .returned (.slice (some ⟨w.heap.size, 0, none⟩) xs.length xs.length) ∧ SlF En.cells w' (some ⟨w.heap.size, 0, none⟩) xs ∧ Below w.heap.size w w' :=
  (toEntS_c a c xs w hs hn).mono fun _ _ ⟨h1, h2, h3⟩ => ⟨h1, own_slfEn h2, h3⟩
theorem sTreeSame_b (a a' : Option Addr) (c c' : Nat) (xs ys : List En) (r : Bool) (hr : Hid (r = true ↔ xs = ys)) (w : World) (hs : SlF En.cells w a xs) (hs' : SlF En.cells w a' ys) (hx : xs.length ≤ maxLen) (hy : ys.length ≤ maxLen) :
    Calls Try.prog 12 #[.slice a xs.length c, .slice a' ys.length c'] w fun q w' => q = .returned (.bool r) ∧ Below w.heap.size w w' :=
  (sTreeSame_c a a' c c' xs ys r hr w hs hs' hx hy).mono fun _ _ ⟨h1, m, h2⟩ => ⟨h1, h2 ▸ below_draws w m⟩
theorem treeSame_b (a a' : Option Addr) (c c' : Nat) (xs ys : List En) (r : Bool) (hr : Hid (r = true ↔ xs = ys)) (w : World) (hs : SlF En.cells w a xs) (hs' : SlF En.cells w a' ys) (hx : xs.length ≤ maxLen) (hy : ys.length ≤ maxLen) :
    Calls Try.prog 14 #[.slice a xs.length c, .slice a' ys.length c'] w fun q w' => q = .returned (.bool r) ∧ Below w.heap.size w w' :=
  (treeSame_c a a' c c' xs ys r hr w hs hs' hx hy).mono fun _ _ ⟨h1, m, h2⟩ => ⟨h1, h2 ▸ below_draws w m⟩
set_option maxHeartbeats 2000000 in
theorem exactTreeSame_w (a a' : Option Addr) (c c' : Nat) (xs ys : List En) (w : World) (hs : SlF En.cells w a xs) (hs' : SlF En.cells w a' ys) (hx : xs.length ≤ maxLen) (hy : ys.length ≤ maxLen)
    (hz : ∀ e ∈ xs, e.p.size ≤ maxLen ∧ e.x.size ≤ maxLen) (hz' : ∀ e ∈ ys, e.p.size ≤ maxLen ∧ e.x.size ≤ maxLen) :
    Calls Try.prog 5 #[.slice a xs.length c, .slice a' ys.length c'] w (TrueS w) := by
  have hb := Below.refl w.heap.size w
  obtain ⟨r, hr⟩ : ∃ r : Bool, r = true ↔ xs = ys := ⟨by classical exact decide (xs = ys), by simp⟩
  have HR := Lib.hid hr
  clear hr
  by_cases h1 : 1048576 < (xs.length : Int) + sumW enW xs
  · have H := Lib.hid (szEntS_no a c xs 1048576 (by omega) (by omega) h1 w hs hx hz)
    obtain ⟨n, hn⟩ : ∃ n, xs.length = n := ⟨_, rfl⟩
    obtain ⟨n', hn'⟩ : ∃ n, ys.length = n := ⟨_, rfl⟩
    rw [hn] at H ⊢
    rw [hn']
    clear hn hn' hs hs' hx hy hz hz' h1
    go_enter Try.func5, Try.ntmps5
    go_wp2_with fail
    refine (H.out).mono ?_; rintro e W ⟨rfl, hq⟩; replace hb := chn hb hq; clear hq
    go_wp2
    go_ret
    exact ⟨rfl, hb⟩
  have hl1 : (xs.length : Int) + sumW enW xs ≤ 1048576 := by omega
  have H1 := Lib.hid (szEntS_yes a c xs 1048576 (by omega) hl1 w hs)
  obtain ⟨l2, hl2⟩ : ∃ l2 : Int, (1048576 : Int) - xs.length - sumW enW xs = l2 := ⟨_, rfl⟩
  rw [hl2] at H1
  have hl20 : 0 ≤ l2 := by omega
  have hl21 : l2 ≤ 1048576 := by omega
  by_cases h2 : l2 < (ys.length : Int) + sumW enW ys
  · have H2 := fun W (h : SlF En.cells W a' ys) => Lib.hid (szEntS_no a' c' ys l2 (by omega) (by omega) h2 W h hy hz')
    have HS' := Lib.hid hs'
    obtain ⟨n, hn⟩ : ∃ n, xs.length = n := ⟨_, rfl⟩
    obtain ⟨n', hn'⟩ : ∃ n, ys.length = n := ⟨_, rfl⟩
    rw [hn] at H1 ⊢
    rw [hn'] at H2 ⊢
    have HH2 := Lib.hid H2
    clear hn hn' hs hs' hx hy hz hz' h1 h2 hl1 hl2 H2
    go_enter Try.func5, Try.ntmps5
    go_wp2_with fail
    refine (H1.out).mono ?_; rintro e W ⟨rfl, hq⟩; replace hb := chn hb hq; clear hq
    go_wp2_with fail
    refine ((HH2.out _ (HS'.out.below hb)).out).mono ?_; rintro e W ⟨rfl, hq⟩; replace hb := chn hb hq; clear hq
    go_wp2
    go_ret
    exact ⟨rfl, hb⟩
  have hl3 : (ys.length : Int) + sumW enW ys ≤ l2 := by omega
  have H2 := fun W (h : SlF En.cells W a' ys) => Lib.hid (szEntS_yes a' c' ys l2 (by omega) hl3 W h)
  obtain ⟨l4, hl4⟩ : ∃ l4 : Int, l2 - ys.length - sumW enW ys = l4 := ⟨_, rfl⟩
  rw [hl4] at H2
  have hl40 : 0 ≤ l4 := by omega
  have hxn : xs.length ≤ 2000000 := by omega
  have hyn : ys.length ≤ 2000000 := by omega
  have hT := fun W (h : SlF En.cells W a xs) => Lib.hid (toEntS_b a c xs W h hxn)
  have hT' := fun W (h : SlF En.cells W a' ys) => Lib.hid (toEntS_b a' c' ys W h hyn)
  have hSs := fun W a a' c c' (h : SlF En.cells W a xs) (h' : SlF En.cells W a' ys) => Lib.hid (sTreeSame_b a a' c c' xs ys r HR W h h' hx hy)
  have hSi := fun W a a' c c' (h : SlF En.cells W a xs) (h' : SlF En.cells W a' ys) => Lib.hid (treeSame_b a a' c c' xs ys r HR W h h' hx hy)
  have hE := fun W a a' c c' (h : SlF En.cells W a xs) (h' : SlF En.cells W a' xs) => Lib.hid (eqEntS_c a a' c c' xs xs true (Lib.hid ⟨fun _ => rfl, fun _ => rfl⟩) W h h' hx hx)
  have hE' := fun W a a' c c' (h : SlF En.cells W a ys) (h' : SlF En.cells W a' ys) => Lib.hid (eqEntS_c a a' c c' ys ys true (Lib.hid ⟨fun _ => rfl, fun _ => rfl⟩) W h h' hy hy)
  obtain ⟨n, hn⟩ : ∃ n, xs.length = n := ⟨_, rfl⟩
  obtain ⟨n', hn'⟩ : ∃ n, ys.length = n := ⟨_, rfl⟩
  rw [hn] at H1 hT hSs hSi hE ⊢
  rw [hn'] at H2 hT' hSs hSi hE' ⊢
  have G2 := Lib.hid H2
  have GT := Lib.hid hT
  have GT' := Lib.hid hT'
  have GS := Lib.hid hSs
  have GI := Lib.hid hSi
  have GE := Lib.hid hE
  have GE' := Lib.hid hE'
  clear hn hn' hx hy hz hz' h1 h2 hl1 hl2 hl3 hl4 H2 hT hT' hSs hSi hE hE' hxn hyn
  cases r
  all_goals
    go_enter Try.func5, Try.ntmps5
    go_wp2_with fail
    refine (H1.out).mono ?_; rintro e W ⟨rfl, hq⟩; replace hb := chn hb hq; replace hs := SlF.below hs hq; replace hs' := SlF.below hs' hq; clear hq
    go_wp2_with fail
    refine ((G2.out _ hs').out).mono ?_; rintro e W ⟨rfl, hq⟩; replace hb := chn hb hq; replace hs := SlF.below hs hq; replace hs' := SlF.below hs' hq; clear hq
    go_wp2_with fail
    refine ((GT.out _ hs).out).mono ?_; rintro e W ⟨rfl, y0, hq⟩; replace hb := chn hb hq; replace hs := SlF.below hs hq; replace hs' := SlF.below hs' hq; clear hq
    go_wp2_with fail
    refine ((GT'.out _ hs').out).mono ?_; rintro e W ⟨rfl, y1, hq⟩; replace hb := chn hb hq; replace hs := SlF.below hs hq; replace hs' := SlF.below hs' hq; replace y0 := SlF.below y0 hq; clear hq
    go_wp2_with fail
    refine ((GS.out _ _ _ _ _ y0 y1).out).mono ?_; rintro e W ⟨rfl, hq⟩; replace hb := chn hb hq; replace hs := SlF.below hs hq; replace hs' := SlF.below hs' hq; clear hq
    clear y0 y1
    go_wp2_with fail
    refine ((GT.out _ hs).out).mono ?_; rintro e W ⟨rfl, x0, hq⟩; replace hb := chn hb hq; replace hs := SlF.below hs hq; replace hs' := SlF.below hs' hq; clear hq
    go_wp2_with fail
    refine ((GT'.out _ hs').out).mono ?_; rintro e W ⟨rfl, x1, hq⟩; replace hb := chn hb hq; replace hs := SlF.below hs hq; replace hs' := SlF.below hs' hq; replace x0 := SlF.below x0 hq; clear hq
    go_wp2_with fail
    refine ((GI.out _ _ _ _ _ x0 x1).out).mono ?_; rintro e W ⟨rfl, hq⟩; replace hb := chn hb hq; replace hs := SlF.below hs hq; replace hs' := SlF.below hs' hq; replace x0 := SlF.below x0 hq; replace x1 := SlF.below x1 hq; clear hq
    go_wp2_with fail
    refine ((GT.out _ hs).out).mono ?_; rintro e W ⟨rfl, z0, hq⟩; replace hb := chn hb hq; replace hs := SlF.below hs hq; replace hs' := SlF.below hs' hq; replace x0 := SlF.below x0 hq; replace x1 := SlF.below x1 hq; clear hq
    go_wp2_with fail
    refine ((GE.out _ _ _ _ _ x0 z0).out).mono ?_; rintro e W ⟨rfl, hq⟩; replace hb := chn hb hq; replace hs := SlF.below hs hq; replace hs' := SlF.below hs' hq; replace x1 := SlF.below x1 hq; clear hq
    clear z0 x0
    go_wp2_with fail
    refine ((GT'.out _ hs').out).mono ?_; rintro e W ⟨rfl, z1, hq⟩; replace hb := chn hb hq; replace hs := SlF.below hs hq; replace hs' := SlF.below hs' hq; replace x1 := SlF.below x1 hq; clear hq
    go_wp2_with fail
    refine ((GE'.out _ _ _ _ _ x1 z1).out).mono ?_; rintro e W ⟨rfl, hq⟩; replace hb := chn hb hq; replace hs := SlF.below hs hq; replace hs' := SlF.below hs' hq; clear hq
    clear z1 x1
    go_wp2
    go_ret
    exact ⟨rfl, hb⟩
theorem own_slfMk {w : World} {B g c : Nat} {xs : List Mk} (h : OwnMk w B (.slice (some ⟨g, 0, none⟩) xs.length c) xs) : SlF Mk.cells w (some ⟨g, 0, none⟩) xs := fun hn => by
  obtain ⟨g', c', hv, _, _, hlt, hc, _⟩ := own_form h hn
  have hg : g = g' := by injection hv with h1; injection h1 with h1; injection h1
  subst hg
  refine ⟨g, 0, rfl, hlt, fun k x hx j u hu => ?_⟩
  rw [Nat.zero_add]
  exact hc _ _ (by rw [flatMap_at (fun _ => rfl) k x hx j (List.getElem?_eq_some_iff.1 hu).1]; exact hu)
theorem toMarkS_b (a : Option Addr) (c : Nat) (xs : List Mk) (w : World) (hs : SlF Mk.cells w a xs) (hn : xs.length ≤ 2000000) :
    Calls Try.prog 8 #[.slice a xs.length c] w fun r w' => r = .returned (.slice (some ⟨w.heap.size, 0, none⟩) xs.length xs.length) ∧ SlF Mk.cells w' (some ⟨w.heap.size, 0, none⟩) xs ∧ Below w.heap.size w w' :=
  (toMarkS_c a c xs w hs hn).mono fun _ _ ⟨h1, h2, h3⟩ => ⟨h1, own_slfMk h2, h3⟩
theorem sLayerSame_b (a a' : Option Addr) (c c' : Nat) (xs ys : List Mk) (r : Bool) (hr : Hid (r = true ↔ xs = ys)) (w : World) (hs : SlF Mk.cells w a xs) (hs' : SlF Mk.cells w a' ys) (hx : xs.length ≤ maxLen) (hy : ys.length ≤ maxLen) :
    Calls Try.prog 7 #[.slice a xs.length c, .slice a' ys.length c'] w fun q w' => q = .returned (.bool r) ∧ Below w.heap.size w w' :=
  (sLayerSame_c a a' c c' xs ys r hr w hs hs' hx hy).mono fun _ _ ⟨h1, m, h2⟩ => ⟨h1, h2 ▸ below_draws w m⟩
theorem layerSame_b (a a' : Option Addr) (c c' : Nat) (xs ys : List Mk) (r : Bool) (hr : Hid (r = true ↔ xs = ys)) (w : World) (hs : SlF Mk.cells w a xs) (hs' : SlF Mk.cells w a' ys) (hx : xs.length ≤ maxLen) (hy : ys.length ≤ maxLen) :
    Calls Try.prog 9 #[.slice a xs.length c, .slice a' ys.length c'] w fun q w' => q = .returned (.bool r) ∧ Below w.heap.size w w' :=
  (layerSame_c a a' c c' xs ys r hr w hs hs' hx hy).mono fun _ _ ⟨h1, m, h2⟩ => ⟨h1, h2 ▸ below_draws w m⟩
set_option maxHeartbeats 2000000 in
theorem exactLayerSame_w (a a' : Option Addr) (c c' : Nat) (xs ys : List Mk) (w : World) (hs : SlF Mk.cells w a xs) (hs' : SlF Mk.cells w a' ys) (hx : xs.length ≤ maxLen) (hy : ys.length ≤ maxLen)
    (hz : ∀ e ∈ xs, e.p.size ≤ maxLen ∧ e.x.size ≤ maxLen) (hz' : ∀ e ∈ ys, e.p.size ≤ maxLen ∧ e.x.size ≤ maxLen) :
    Calls Try.prog 4 #[.slice a xs.length c, .slice a' ys.length c'] w (TrueS w) := by
  have hb := Below.refl w.heap.size w
  obtain ⟨r, hr⟩ : ∃ r : Bool, r = true ↔ xs = ys := ⟨by classical exact decide (xs = ys), by simp⟩
  have HR := Lib.hid hr
  clear hr
  by_cases h1 : 1048576 < (xs.length : Int) + sumW mkW xs
  · have H := Lib.hid (szMarkS_no a c xs 1048576 (by omega) (by omega) h1 w hs hx hz)
    obtain ⟨n, hn⟩ : ∃ n, xs.length = n := ⟨_, rfl⟩
    obtain ⟨n', hn'⟩ : ∃ n, ys.length = n := ⟨_, rfl⟩
    rw [hn] at H ⊢
    rw [hn']
    clear hn hn' hs hs' hx hy hz hz' h1
    go_enter Try.func4, Try.ntmps4
    go_wp2_with fail
    refine (H.out).mono ?_; rintro e W ⟨rfl, hq⟩; replace hb := chn hb hq; clear hq
    go_wp2
    go_ret
    exact ⟨rfl, hb⟩
  have hl1 : (xs.length : Int) + sumW mkW xs ≤ 1048576 := by omega
  have H1 := Lib.hid (szMarkS_yes a c xs 1048576 (by omega) hl1 w hs)
  obtain ⟨l2, hl2⟩ : ∃ l2 : Int, (1048576 : Int) - xs.length - sumW mkW xs = l2 := ⟨_, rfl⟩
  rw [hl2] at H1
  have hl20 : 0 ≤ l2 := by omega
  have hl21 : l2 ≤ 1048576 := by omega
  by_cases h2 : l2 < (ys.length : Int) + sumW mkW ys
  · have H2 := fun W (h : SlF Mk.cells W a' ys) => Lib.hid (szMarkS_no a' c' ys l2 (by omega) (by omega) h2 W h hy hz')
    have HS' := Lib.hid hs'
    obtain ⟨n, hn⟩ : ∃ n, xs.length = n := ⟨_, rfl⟩
    obtain ⟨n', hn'⟩ : ∃ n, ys.length = n := ⟨_, rfl⟩
    rw [hn] at H1 ⊢
    rw [hn'] at H2 ⊢
    have HH2 := Lib.hid H2
    clear hn hn' hs hs' hx hy hz hz' h1 h2 hl1 hl2 H2
    go_enter Try.func4, Try.ntmps4
    go_wp2_with fail
    refine (H1.out).mono ?_; rintro e W ⟨rfl, hq⟩; replace hb := chn hb hq; clear hq
    go_wp2_with fail
    refine ((HH2.out _ (HS'.out.below hb)).out).mono ?_; rintro e W ⟨rfl, hq⟩; replace hb := chn hb hq; clear hq
    go_wp2
    go_ret
    exact ⟨rfl, hb⟩
  have hl3 : (ys.length : Int) + sumW mkW ys ≤ l2 := by omega
  have H2 := fun W (h : SlF Mk.cells W a' ys) => Lib.hid (szMarkS_yes a' c' ys l2 (by omega) hl3 W h)
  obtain ⟨l4, hl4⟩ : ∃ l4 : Int, l2 - ys.length - sumW mkW ys = l4 := ⟨_, rfl⟩
  rw [hl4] at H2
  have hl40 : 0 ≤ l4 := by omega
  have hxn : xs.length ≤ 2000000 := by omega
  have hyn : ys.length ≤ 2000000 := by omega
  have hT := fun W (h : SlF Mk.cells W a xs) => Lib.hid (toMarkS_b a c xs W h hxn)
  have hT' := fun W (h : SlF Mk.cells W a' ys) => Lib.hid (toMarkS_b a' c' ys W h hyn)
  have hSs := fun W a a' c c' (h : SlF Mk.cells W a xs) (h' : SlF Mk.cells W a' ys) => Lib.hid (sLayerSame_b a a' c c' xs ys r HR W h h' hx hy)
  have hSi := fun W a a' c c' (h : SlF Mk.cells W a xs) (h' : SlF Mk.cells W a' ys) => Lib.hid (layerSame_b a a' c c' xs ys r HR W h h' hx hy)
  have hE := fun W a a' c c' (h : SlF Mk.cells W a xs) (h' : SlF Mk.cells W a' xs) => Lib.hid (eqMarkS_c a a' c c' xs xs true (Lib.hid ⟨fun _ => rfl, fun _ => rfl⟩) W h h' hx hx)
  have hE' := fun W a a' c c' (h : SlF Mk.cells W a ys) (h' : SlF Mk.cells W a' ys) => Lib.hid (eqMarkS_c a a' c c' ys ys true (Lib.hid ⟨fun _ => rfl, fun _ => rfl⟩) W h h' hy hy)
  obtain ⟨n, hn⟩ : ∃ n, xs.length = n := ⟨_, rfl⟩
  obtain ⟨n', hn'⟩ : ∃ n, ys.length = n := ⟨_, rfl⟩
  rw [hn] at H1 hT hSs hSi hE ⊢
  rw [hn'] at H2 hT' hSs hSi hE' ⊢
  have G2 := Lib.hid H2
  have GT := Lib.hid hT
  have GT' := Lib.hid hT'
  have GS := Lib.hid hSs
  have GI := Lib.hid hSi
  have GE := Lib.hid hE
  have GE' := Lib.hid hE'
  clear hn hn' hx hy hz hz' h1 h2 hl1 hl2 hl3 hl4 H2 hT hT' hSs hSi hE hE' hxn hyn
  cases r
  all_goals
    go_enter Try.func4, Try.ntmps4
    go_wp2_with fail
    refine (H1.out).mono ?_; rintro e W ⟨rfl, hq⟩; replace hb := chn hb hq; replace hs := SlF.below hs hq; replace hs' := SlF.below hs' hq; clear hq
    go_wp2_with fail
    refine ((G2.out _ hs').out).mono ?_; rintro e W ⟨rfl, hq⟩; replace hb := chn hb hq; replace hs := SlF.below hs hq; replace hs' := SlF.below hs' hq; clear hq
    go_wp2_with fail
    refine ((GT.out _ hs).out).mono ?_; rintro e W ⟨rfl, y0, hq⟩; replace hb := chn hb hq; replace hs := SlF.below hs hq; replace hs' := SlF.below hs' hq; clear hq
    go_wp2_with fail
    refine ((GT'.out _ hs').out).mono ?_; rintro e W ⟨rfl, y1, hq⟩; replace hb := chn hb hq; replace hs := SlF.below hs hq; replace hs' := SlF.below hs' hq; replace y0 := SlF.below y0 hq; clear hq
    go_wp2_with fail
    refine ((GS.out _ _ _ _ _ y0 y1).out).mono ?_; rintro e W ⟨rfl, hq⟩; replace hb := chn hb hq; replace hs := SlF.below hs hq; replace hs' := SlF.below hs' hq; clear hq
    clear y0 y1
    go_wp2_with fail
    refine ((GT.out _ hs).out).mono ?_; rintro e W ⟨rfl, x0, hq⟩; replace hb := chn hb hq; replace hs := SlF.below hs hq; replace hs' := SlF.below hs' hq; clear hq
    go_wp2_with fail
    refine ((GT'.out _ hs').out).mono ?_; rintro e W ⟨rfl, x1, hq⟩; replace hb := chn hb hq; replace hs := SlF.below hs hq; replace hs' := SlF.below hs' hq; replace x0 := SlF.below x0 hq; clear hq
    go_wp2_with fail
    refine ((GI.out _ _ _ _ _ x0 x1).out).mono ?_; rintro e W ⟨rfl, hq⟩; replace hb := chn hb hq; replace hs := SlF.below hs hq; replace hs' := SlF.below hs' hq; replace x0 := SlF.below x0 hq; replace x1 := SlF.below x1 hq; clear hq
    go_wp2_with fail
    refine ((GT.out _ hs).out).mono ?_; rintro e W ⟨rfl, z0, hq⟩; replace hb := chn hb hq; replace hs := SlF.below hs hq; replace hs' := SlF.below hs' hq; replace x0 := SlF.below x0 hq; replace x1 := SlF.below x1 hq; clear hq
    go_wp2_with fail
    refine ((GE.out _ _ _ _ _ x0 z0).out).mono ?_; rintro e W ⟨rfl, hq⟩; replace hb := chn hb hq; replace hs := SlF.below hs hq; replace hs' := SlF.below hs' hq; replace x1 := SlF.below x1 hq; clear hq
    clear z0 x0
    go_wp2_with fail
    refine ((GT'.out _ hs').out).mono ?_; rintro e W ⟨rfl, z1, hq⟩; replace hb := chn hb hq; replace hs := SlF.below hs hq; replace hs' := SlF.below hs' hq; replace x1 := SlF.below x1 hq; clear hq
    go_wp2_with fail
    refine ((GE'.out _ _ _ _ _ x1 z1).out).mono ?_; rintro e W ⟨rfl, hq⟩; replace hb := chn hb hq; replace hs := SlF.below hs hq; replace hs' := SlF.below hs' hq; clear hq
    clear z1 x1
    go_wp2
    go_ret
    exact ⟨rfl, hb⟩
end Go.Proofs.Ytilehieonjmlcaa
