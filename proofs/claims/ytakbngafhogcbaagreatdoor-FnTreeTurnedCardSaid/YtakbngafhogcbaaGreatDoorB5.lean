/- What draws trees: the walks of l2Bent and DrawTreeDo. The library's sort at this translation, laid in plain words by the kit's own tool. The library's sort at entries and at marks: the comparison's walk, the row before and behind it. The walk of the program's TreeDo. Plain laws of what is done to a tree: what the statements of chapter 2 ask. No program in sight. The walks of TreeSame and LayerSame. Conditions: each theorem's own. -/
import Derived.Test.YtakbngafhogcbaaGreatDoorB4
import Derived.Shelf.SlSortCmp.WholeK
import Derived.Ground.SlsfProg
import Derived.Test.YtakbngafhogcbaaGreatDoorProg
import Derived.Test.YtakbngafhogcbaaGreatDoorB1
import Derived.Test.YtakbngafhogcbaaGreatDoorB3
import Derived.Shelf.SlSortCmp.NoneTotal
namespace Go.Proofs.YtakbngafhogcbaaGreatDoor
open Go.RowKit
/-- One cell of a row of structs stored. -/
theorem flat_set {α : Type} {f : α → List Value} (hf : ∀ x, (f x).length = 3) {j : Nat} (hj : j < 3) {u : Value} {e' : α} : ∀ (xs : List α) (k : Nat) (e : α), xs[k]? = some e → f e' = (f e).set j u → (xs.flatMap f).set (k * 3 + j) u = (xs.set k e').flatMap f := by
  intro xs
  induction xs with
  | nil => intro k e he; simp at he
  | cons x r ih =>
    intro k e he hs
    cases k with
    | zero =>
      simp at he; subst he
      rw [List.flatMap_cons, List.set_cons_zero, List.flatMap_cons, Nat.zero_mul, Nat.zero_add, List.set_append_left _ _ (by rw [hf]; exact hj), hs]
    | succ k =>
      rw [List.flatMap_cons, List.set_cons_succ, List.flatMap_cons, List.set_append_right _ _ (by rw [hf]; omega), show (k + 1) * 3 + j - (f x).length = k * 3 + j by rw [hf]; omega]
      rw [ih k e (by simpa using he) hs]
/-- What a bending leaves. -/
def BentPost (w : World) (g p q N : Nat) (e : Ending) (w' : World) : Prop :=
  ∃ (a : Option Addr) (c : Nat) (xs : List En) (p' : Nat), e = .returned (.slice a xs.length c) ∧ DrawnT w' g a c xs ∧ Small xs ∧ xs.length ≤ N ∧ p' ≤ p + q ∧ Rd w' g p' ∧ Only g w w'
theorem small_set {xs : List En} (h : Small xs) (k : Nat) (e : En) (he : e.p.size ≤ 20 ∧ e.x.size ≤ 20) : Small (xs.set k e) := fun x hx => by
  rcases List.mem_or_eq_of_mem_set hx with h1 | h1
  · exact h x h1
  · rw [h1]; exact he
theorem ret_len {a : Option Addr} {c n m : Nat} (h : m = n) : Ending.returned (.slice a n c) = .returned (.slice a m c) := by rw [h]
theorem cell_gr' {w w' : World} {own : Option Nat} {a : Addr} {v : Value} (hg : w.grownBy w' own) (h : w.cell? a = some v) (hne : own ≠ some a.block) : w'.cell? a = some v := by
  have hb := hg.block a.block (World.block_lt_of_cell? _ _ h) (Ne.symm hne)
  rw [← h]
  unfold World.cell?
  simp only [hb]
theorem own_only {w w' : World} {B g : Nat} {e : TypeId} {size : Nat} {v : Value} {n : Nat} {xs : List Value} (h : w.ownsRow B e size v n xs) (ho : Only g w w') (hg : g < B) : w'.ownsRow B e size v n xs := by
  refine h.kept ho ?_
  cases hb : v.ownBlock with
  | none => exact .inl rfl
  | some k => exact .inr fun e => by have := (h.lt k hb).1; injection e with e; omega
theorem only_grown {w w1 w2 : World} {g : Nat} {own : Option Nat} (h : Only g w w1) (hg : w1.grownBy w2 own) (ho : ∀ k, own = some k → w.heap.size ≤ k) : Only g w w2 :=
  ⟨hg.os.trans h.os, hg.tape.trans h.tape, hg.output.trans h.output, Nat.le_trans h.size hg.size, fun i hi hne => (hg.block i (Nat.lt_of_lt_of_le hi h.size) (fun e => by have := ho i e.symm; omega)).trans (h.block i hi hne)⟩
theorem Rd.grown {w w' : World} {g p : Nat} {own : Option Nat} (h : Rd w g p) (hg : w.grownBy w' own) (ho : ∀ k, own = some k → g < k) : Rd w' g p := by
  have hlt := h.lt
  obtain ⟨a, n, c, h1, h2, h3, h4⟩ := h
  refine ⟨a, n, c, (hg.block g hlt (fun e => by have := ho g e.symm; omega)).trans h1, h2, h3, fun hn => ?_⟩
  obtain ⟨b, off, e, hb, hc⟩ := h4 hn
  exact ⟨b, off, e, hb, fun k hk => by
    obtain ⟨x, h5, h6, h7⟩ := hc k hk
    exact ⟨x, h5, h6, cell_gr' hg h7 (fun e => by have := ho b e; omega)⟩⟩
theorem bent_own {w : World} {B : Nat} {v : Value} {n : Nat} {xs : List En} {ad : Addr} {cc : Nat} (hn : xs.length = n) (h : w.ownsRow B 31 3 v (0 + xs.length) ([] ++ xs.flatMap En.cells)) (hnil : v = .slice none 0 0 ↔ Value.slice (some ad) 0 cc = .slice none 0 0 ∧ xs.length = 0) :
    ∃ b c, v = .slice (some ⟨b, 0, none⟩) n c ∧ n ≤ c ∧ c ≤ maxLen ∧ w.ownsRow B 31 3 (.slice (some ⟨b, 0, none⟩) n c) n (xs.flatMap En.cells) := by
  rw [Nat.zero_add, List.nil_append, hn] at h
  have h0 := h
  rcases h.2 with ⟨h1, _⟩ | ⟨g, cap, cur, rfl, hg, hh, hnc, hm, h2, h3⟩
  · have := hnil.1 h1; simp at this
  · exact ⟨g, cap, rfl, hnc, hm, h0⟩
theorem drawn_own {w : World} {g B b c : Nat} {xs : List En} (h : w.ownsRow B 31 3 (.slice (some ⟨b, 0, none⟩) xs.length c) xs.length (xs.flatMap En.cells)) (hg : g < B) (hc : xs.length ≤ c) (hm : c ≤ maxLen) : DrawnT w g (some ⟨b, 0, none⟩) c xs :=
  ⟨b, 0, rfl, Nat.lt_of_lt_of_le hg (h.lt b rfl).1, (h.lt b rfl).2, own_slf (fun _ => rfl) h, hc, hm⟩
set_option maxRecDepth 100000 in
set_option maxHeartbeats 8000000 in
theorem l2Bent_c (w : World) (g p : Nat) (hr : Rd w g p) (hp : p ≤ 900000) (a : Option Addr) (c : Nat) (xs : List En) (ht : DrawnT w g a c xs) (hz : Small xs) (hx : xs.length ≤ 1000) :
    Calls Tryz.prog 26 #[.pointer (some ⟨g, 0, none⟩), .slice a xs.length c] w (BentPost w g p 4 (xs.length + 1)) := by
  have HE := eltEn
  have hg := hr.lt
  have HZ := Lib.hid hz
  have HR := Lib.hid hr
  have HB0 := bellow_alloc w (.cells #[] 31)
  have HRD := Lib.hid (ht.read.below HB0)
  obtain ⟨b0, off, rfl, _, hsl, _⟩ := HRD.out
  have hsl' := Lib.hid hsl
  have hown0 : Hid ((w.alloc (.cells #[] 31)).ownsRow w.heap.size 31 3 (.slice (some ⟨w.heap.size, 0, none⟩) 0 0) 0 []) := World.ownsRow_lit w #[] 0 (Nat.le_refl _) (Nat.zero_le _) rfl
  obtain ⟨n, hn⟩ : ∃ n, xs.length = n := ⟨_, rfl⟩
  have HN := Lib.hid hn
  rw [hn] at hx ⊢
  clear hsl ht hr hn hz
  by_cases hn0 : n = 0
  · subst hn0
    go_enter Tryz.func26, Tryz.ntmps26
    go_wp2_with (at_builtin; go_must (refine wp_appN (by rfl) _ _ 23 (by rfl) HE w.heap.size w.heap.size w _ _ 0 [] (by rfl) En.cells (fun _ => rfl) en_one xs b0 off 0 c HN.out (by rfl) hsl'.out hown0.out (by rw [HN.out]; omega) HB0.size HB0 (Nat.le_refl _) ?_); intro v2 w2 hown3 hbel3 hnil; obtain ⟨b, c5, rfl, hc5, hcm, how⟩ := bent_own HN.out hown3 hnil; clear hown3 hnil)
    have HRD2 := Lib.hid (HR.out.keep hbel3 hg)
    have HO2 : Hid (Only g w w2) := Only.of_below hbel3
    have hgb : w.heap.size ≤ b := (how.lt b rfl).1
    have HOW := Lib.hid how
    clear hbel3 how HB0 hsl' hown0 HRD
    go_ret
    exact ⟨some ⟨b, 0, none⟩, c5, xs, p, ret_len HN.out, drawn_own (B := w.heap.size) (by rw [HN.out]; exact HOW.out) hg (by rw [HN.out]; omega) hcm, HZ.out, by rw [HN.out]; omega, by omega, HRD2.out, HO2.out⟩
  have n0 : ((n : Int) == 0) = false := by rw [beq_eq_false_iff_ne]; omega
  go_enter Tryz.func26, Tryz.ntmps26
  go_wp2_with (at_builtin; go_must (refine wp_appN (by rfl) _ _ 23 (by rfl) HE w.heap.size w.heap.size w _ _ 0 [] (by rfl) En.cells (fun _ => rfl) en_one xs b0 off n c HN.out (by rfl) hsl'.out hown0.out (by rw [HN.out]; omega) HB0.size HB0 (Nat.le_refl _) ?_); intro v2 w2 hown3 hbel3 hnil; obtain ⟨b, c5, rfl, hc5, hcm, how⟩ := bent_own HN.out hown3 hnil; clear hown3 hnil)
  have HRD2 := Lib.hid (HR.out.keep hbel3 hg)
  have HO2 : Hid (Only g w w2) := Only.of_below hbel3
  have hgb : w.heap.size ≤ b := (how.lt b rfl).1
  have HOW := Lib.hid how
  clear hbel3 how HB0 hsl' hown0 HRD
  have HK := Lib.hid (pick_c w2 g p (n : Int) HRD2.out (by omega) (by omega) (by omega))
  clear HRD2
  refine HK.out.mono ?_; rintro e w3 ⟨k, rfl, _, hkn, hrd3, ho3⟩
  have hk : k < n := by have := hkn (by omega); omega
  have HOW3 := Lib.hid (own_only HOW.out ho3 hg)
  have HO3 := Lib.hid (HO2.out.trans ho3)
  have HK2 := Lib.hid (pick_c w3 g (p + 1) 50 hrd3 (by omega) (by omega) (by omega))
  clear hkn hrd3 ho3 HK HOW HO2
  go_wp2_with fail
  refine HK2.out.mono ?_; rintro e w4 ⟨m, rfl, _, _, hrd, ho4⟩
  have hown := own_only HOW3.out ho4 hg
  have HOX := Lib.hid (HO3.out.trans ho4)
  obtain ⟨⟨ep, ed, ex⟩, hee⟩ : ∃ e, xs[k]? = some e := ⟨_, List.getElem?_eq_getElem (by rw [HN.out]; exact hk)⟩
  have hes := HZ.out ⟨ep, ed, ex⟩ (List.mem_of_getElem? hee)
  have hsx : SlF En.cells w4 (some ⟨b, 0, none⟩) xs := own_slfN (fun _ => rfl) hown HN.out
  obtain ⟨d0, d1, d2⟩ := en_at hsx k ⟨ep, ed, ex⟩ hee
  have i0 : (0 : Int) ≤ (k : Int) := by omega
  have i1 : (k : Int) < (n : Int) := by omega
  rw [Nat.zero_add] at d0 d1 d2
  clear ho4 HK2 HOW3 HO3
  by_cases m0 : m = 0
  · subst m0
    have HRDX := Lib.hid hrd
    have HSM : Hid (Small (xs ++ [(⟨ep, ed, ex⟩ : En)])) := fun x hx => by
      rcases List.mem_append.1 hx with h | h
      · exact HZ.out x h
      · rw [List.mem_singleton.1 h]; exact hes
    clear hrd hsx hee
    go_wp2_with (at_builtin; go_must (refine wp_app1H (by rfl) _ _ 23 (by rfl) HE w.heap.size w.heap.size w4 _ #[.string ep, .bool ed, .string ex] _ _ _ (by rfl) w4.heap.size (by simp) (by rfl) hown (by rfl) (by simp [Value.oneCell']) (by omega) HOX.out.size (Below.refl _ _) (Nat.le_refl _) ?_); intro v' w5 hown1 _ _ hgr)
    have hown2 : w5.ownsRow w.heap.size 31 3 v' (xs ++ [(⟨ep, ed, ex⟩ : En)]).length ((xs ++ [(⟨ep, ed, ex⟩ : En)]).flatMap En.cells) := by
      rw [← flat_app, List.length_append, HN.out]; exact hown1
    obtain ⟨b9, c9, rfl, h91, h92, h93⟩ : OwnRe w5 w.heap.size v' (xs ++ [(⟨ep, ed, ex⟩ : En)]) := by
      refine ownRe_of hown2 (own_some hown1 (fun hv => ?_))
      have h2 := hown1
      rw [hv] at h2
      rcases h2.2 with ⟨_, h3⟩ | ⟨_, _, _, h3, _⟩
      · omega
      · cases h3
    have hbk : ∀ k, (Value.slice (some ⟨b, 0, none⟩) n c5).ownBlock = some k → w.heap.size ≤ k := fun k hk => by
      have : b = k := by simpa [Value.ownBlock] using hk
      omega
    have HO9 := Lib.hid (only_grown (HOX.out.alloc _) hgr hbk)
    have HR9 := Lib.hid ((HRDX.out.alloc _).grown hgr (fun k hk => Nat.lt_of_lt_of_le hg (hbk k hk)))
    clear hown1 hown2 hgr
    go_wp2
    go_ret
    exact ⟨_, c9, _, p + 1 + 1, rfl, drawn_own h93 hg h91 h92, HSM.out, by simp [HN.out], by omega, HR9.out, HO9.out⟩
  have n0' : ((m : Int) == 0) = false := by rw [beq_eq_false_iff_ne]; omega
  by_cases m1 : m = 1
  · subst m1
    have HNU := Lib.hid (fun (cs : Array Value) (n : Nat) (hn : Hid (cs.size = n)) h0 h1 hs => of_c (w4.alloc (.cells cs 9)) g (p + 1 + 1) w4.heap.size n cs 9 (hrd.alloc _) (by omega) (heap_alloc_new w4 _) (by have := hrd.lt; omega) hn.out h0 h1 hs)
    have HEE := Lib.hid hee
    have HOWN := Lib.hid hown
    clear hrd hsx hee d0 d1 d2 hown
    go_wp2_with fail
    refine (HNU.out _ _ (by exact Lib.hid rfl) (by decide) (by decide) (by rfl)).mono ?_
    rintro e w5 ⟨s, p6, rfl, hs, hp6, hrd6, ho6⟩
    have hown5 := own_only (own_below HOWN.out (bellow_alloc w4 _)) ho6 hg
    have d0 := hown5.cellAt (k * 3) (by omega)
    obtain ⟨x0, hx0⟩ : ∃ u, (xs.flatMap En.cells)[k * 3]? = some u := ⟨_, List.getElem?_eq_getElem (by rw [flatMap_len (fun _ => rfl), HN.out]; omega)⟩
    rw [hx0] at d0
    have f0 := hown5.frozenAt (k * 3)
    have HST := Lib.hid (hown5.stored (k * 3 + 0) (.string s))
    rw [flat_set (fun _ => rfl) (by decide : 0 < 3) xs k ⟨ep, ed, ex⟩ HEE.out (e' := (⟨s, ed, ex⟩ : En)) rfl] at HST
    have HSM := Lib.hid (small_set HZ.out k (⟨s, ed, ex⟩ : En) ⟨hs, hes.2⟩)
    have HRD6 := Lib.hid (hrd6.set ⟨b, k * 3 + 0, none⟩ (.string s) (by show g < b; omega))
    have HO6 := Lib.hid (((HOX.out.alloc _).trans ho6).setCell (p := ⟨b, k * 3 + 0, none⟩) (.inr (by show w.heap.size ≤ b; omega)) (.string s))
    clear hown5 hx0 hrd6 ho6 HNU
    go_wp2
    go_ret
    exact ⟨some ⟨b, 0, none⟩, c5, xs.set k (⟨s, ed, ex⟩ : En), p6, ret_len (by rw [List.length_set, HN.out]), drawn_own (B := w.heap.size) (by rw [List.length_set, HN.out]; exact HST.out.1) hg (by rw [List.length_set, HN.out]; exact hc5) hcm, HSM.out, by rw [List.length_set, HN.out]; omega, by omega, HRD6.out, HO6.out⟩
  have n1' : ((m : Int) == 1) = false := by rw [beq_eq_false_iff_ne]; omega
  by_cases m2 : m = 2
  · subst m2
    have HEE := Lib.hid hee
    have hown5 := hown
    have f0 := hown5.frozenAt (k * 3 + 1)
    have hrd6 := hrd
    have ho6 := Only.refl g w4
    have p6 := p + 1 + 1
    have HOX6 := Lib.hid HOX.out
    have HST := Lib.hid (hown.stored (k * 3 + 1) (.bool !ed))
    rw [flat_set (fun _ => rfl) (by decide : 1 < 3) xs k ⟨ep, ed, ex⟩ HEE.out (e' := (⟨ep, !ed, ex⟩ : En)) rfl] at HST
    have HSM := Lib.hid (small_set HZ.out k (⟨ep, !ed, ex⟩ : En) hes)
    have HRD6 := Lib.hid (hrd.set ⟨b, k * 3 + 1, none⟩ (.bool !ed) (by show g < b; omega))
    have HO6 := Lib.hid (HOX.out.setCell (p := ⟨b, k * 3 + 1, none⟩) (.inr (by show w.heap.size ≤ b; omega)) (.bool !ed))
    clear hown5 hown hsx hrd6 ho6 hrd HOX6 p6 hee
    go_wp2
    go_ret
    exact ⟨some ⟨b, 0, none⟩, c5, xs.set k (⟨ep, !ed, ex⟩ : En), p + 1 + 1, ret_len (by rw [List.length_set, HN.out]), drawn_own (B := w.heap.size) (by rw [List.length_set, HN.out]; exact HST.out.1) hg (by rw [List.length_set, HN.out]; exact hc5) hcm, HSM.out, by rw [List.length_set, HN.out]; omega, by omega, HRD6.out, HO6.out⟩
  have n2' : ((m : Int) == 2) = false := by rw [beq_eq_false_iff_ne]; omega
  by_cases m3 : m = 3
  · subst m3
    have HNU := Lib.hid (fun (cs : Array Value) (n : Nat) (hn : Hid (cs.size = n)) h0 h1 hs => of_c (w4.alloc (.cells cs 9)) g (p + 1 + 1) w4.heap.size n cs 9 (hrd.alloc _) (by omega) (heap_alloc_new w4 _) (by have := hrd.lt; omega) hn.out h0 h1 hs)
    have HEE := Lib.hid hee
    have HOWN := Lib.hid hown
    clear hrd hsx hee d0 d1 d2 hown
    go_wp2_with fail
    refine (HNU.out _ _ (by exact Lib.hid rfl) (by decide) (by decide) (by rfl)).mono ?_
    rintro e w5 ⟨s, p6, rfl, hs, hp6, hrd6, ho6⟩
    have hown5 := own_only (own_below HOWN.out (bellow_alloc w4 _)) ho6 hg
    have d0 := hown5.cellAt (k * 3 + 2) (by omega)
    obtain ⟨x0, hx0⟩ : ∃ u, (xs.flatMap En.cells)[k * 3 + 2]? = some u := ⟨_, List.getElem?_eq_getElem (by rw [flatMap_len (fun _ => rfl), HN.out]; omega)⟩
    rw [hx0] at d0
    have f0 := hown5.frozenAt (k * 3 + 2)
    have HST := Lib.hid (hown5.stored (k * 3 + 2) (.string s))
    rw [flat_set (fun _ => rfl) (by decide : 2 < 3) xs k ⟨ep, ed, ex⟩ HEE.out (e' := (⟨ep, ed, s⟩ : En)) rfl] at HST
    have HSM := Lib.hid (small_set HZ.out k (⟨ep, ed, s⟩ : En) ⟨hes.1, hs⟩)
    have HRD6 := Lib.hid (hrd6.set ⟨b, k * 3 + 2, none⟩ (.string s) (by show g < b; omega))
    have HO6 := Lib.hid (((HOX.out.alloc _).trans ho6).setCell (p := ⟨b, k * 3 + 2, none⟩) (.inr (by show w.heap.size ≤ b; omega)) (.string s))
    clear hown5 hx0 hrd6 ho6 HNU
    go_wp2
    go_ret
    exact ⟨some ⟨b, 0, none⟩, c5, xs.set k (⟨ep, ed, s⟩ : En), p6, ret_len (by rw [List.length_set, HN.out]), drawn_own (B := w.heap.size) (by rw [List.length_set, HN.out]; exact HST.out.1) hg (by rw [List.length_set, HN.out]; exact hc5) hcm, HSM.out, by rw [List.length_set, HN.out]; omega, by omega, HRD6.out, HO6.out⟩
  have n3' : ((m : Int) == 3) = false := by rw [beq_eq_false_iff_ne]; omega
  have HRDX := Lib.hid hrd
  have HOWN := Lib.hid hown
  have HSX := Lib.hid hsx
  clear hrd hown hsx hee d0 d1 d2
  by_cases m4 : m = 4
  · subst m4
    have i2 : (1 : Int) ≤ (n : Int) := by omega
    have i3 : (1 : Int) ≤ (c5 : Int) := by omega
    have HDR := Lib.hid (HSX.out.drop 1)
    have hlt : b < w4.heap.size := (HOWN.out.lt b rfl).2
    by_cases hc1 : c5 = 1
    · subst hc1
      obtain rfl : n = 1 := by omega
      have HFIN : Hid (BentPost w g p 4 (1 + 1) (.returned (.slice (some ⟨b, 0, none⟩) 0 0)) w4) := ⟨some ⟨b, 0, none⟩, 0, [], p + 1 + 1, rfl, ⟨b, 0, rfl, by omega, hlt, fun h => absurd h (by simp), Nat.zero_le _, Nat.zero_le _⟩, fun x hx => by simp at hx, by simp, by omega, HRDX.out, HOX.out⟩
      go_wp2
      all_goals first | (exfalso; omega) | skip
      all_goals go_ret
      all_goals exact HFIN.out
    · have HFIN : Hid (BentPost w g p 4 (n + 1) (.returned (.slice (some ⟨b, 3, none⟩) (n - 1) (c5 - 1))) w4) := ⟨some ⟨b, 3, none⟩, c5 - 1, xs.drop 1, p + 1 + 1, ret_len (by rw [List.length_drop, HN.out]), ⟨b, 3, rfl, by omega, hlt, by simpa using HDR.out, by rw [List.length_drop, HN.out]; omega, by omega⟩, fun x hx => HZ.out x (List.mem_of_mem_drop hx), by rw [List.length_drop, HN.out]; omega, by omega, HRDX.out, HOX.out⟩
      go_wp2
      all_goals first | (exfalso; omega) | skip
      all_goals go_ret
      all_goals exact HFIN.out
  · have n4' : ((m : Int) == 4) = false := by rw [beq_eq_false_iff_ne]; omega
    go_wp2
    go_ret
    exact ⟨some ⟨b, 0, none⟩, c5, xs, p + 1 + 1, ret_len HN.out, drawn_own (B := w.heap.size) (by rw [HN.out]; exact HOWN.out) hg (by rw [HN.out]; exact hc5) hcm, HZ.out, by rw [HN.out]; omega, by omega, HRDX.out, HOX.out⟩
end Go.Proofs.YtakbngafhogcbaaGreatDoor
namespace Go.Proofs
open Go.Shelf
def Tryz.sortEnt_ren : Go.Shelf.Ren := ⟨fun | 6 => 57 | 15 => 78 | 14 => 77 | 28 => 97 | 29 => 98 | 20 => 89 | 21 => 90 | 22 => 91 | 23 => 92 | 24 => 93 | 25 => 94 | 26 => 95 | 27 => 96 | 46 => 105 | 47 => 106 | 48 => 107 | 49 => 108 | 50 => 109 | 57 => 114 | n => n, fun | 22 => 23 | 24 => 31 | 25 => 71 | 3 => 3 | 39 => 89 | 0 => 0 | 53 => 103 | 55 => 105 | 4 => 4 | 46 => 96 | 45 => 95 | 50 => 100 | 5 => 5 | 9 => 9 | 66 => 110 | 70 => 114 | 76 => 119 | 77 => 120 | n => n, fun | n => n⟩
theorem Tryz.sortEnt : Go.Proofs.SlLaysF0.n6 Tryz.prog Tryz.sortEnt_ren := {
  mixed := by kernel_rfl
  f6 := ⟨Tryz.f57.name, by decide, Tryz.func57.trans (congrArg some (by kernel_rfl))⟩
  f14 := ⟨Tryz.f77.name, by decide, Tryz.func77.trans (congrArg some (by kernel_rfl))⟩
  f15 := Tryz.func78.trans (congrArg some (by kernel_rfl))
  f20 := ⟨Tryz.f89.name, by decide, Tryz.func89.trans (congrArg some (by kernel_rfl))⟩
  f21 := ⟨Tryz.f90.name, by decide, Tryz.func90.trans (congrArg some (by kernel_rfl))⟩
  f22 := ⟨Tryz.f91.name, by decide, Tryz.func91.trans (congrArg some (by kernel_rfl))⟩
  f23 := ⟨Tryz.f92.name, by decide, Tryz.func92.trans (congrArg some (by kernel_rfl))⟩
  f24 := ⟨Tryz.f93.name, by decide, Tryz.func93.trans (congrArg some (by kernel_rfl))⟩
  f25 := ⟨Tryz.f94.name, by decide, Tryz.func94.trans (congrArg some (by kernel_rfl))⟩
  f26 := ⟨Tryz.f95.name, by decide, Tryz.func95.trans (congrArg some (by kernel_rfl))⟩
  f27 := ⟨Tryz.f96.name, by decide, Tryz.func96.trans (congrArg some (by kernel_rfl))⟩
  f28 := Tryz.func97.trans (congrArg some (by kernel_rfl))
  f29 := Tryz.func98.trans (congrArg some (by kernel_rfl))
  f46 := ⟨Tryz.f105.name, by decide, Tryz.func105.trans (congrArg some (by kernel_rfl))⟩
  f47 := Tryz.func106.trans (congrArg some (by kernel_rfl))
  f48 := Tryz.func107.trans (congrArg some (by kernel_rfl))
  f49 := ⟨Tryz.f108.name, by decide, Tryz.func108.trans (congrArg some (by kernel_rfl))⟩
  f50 := ⟨Tryz.f109.name, by decide, Tryz.func109.trans (congrArg some (by kernel_rfl))⟩
  f57 := ⟨Tryz.f114.name, by decide, Tryz.func114.trans (congrArg some (by kernel_rfl))⟩
  t0 := Tryz.underlying0
  a0 := Tryz.isAgg0
  z0 := Tryz.sizeOf0
  v0 := Tryz.zeroValue0
  t3 := Tryz.underlying3
  a3 := Tryz.isAgg3
  z3 := Tryz.sizeOf3
  v3 := Tryz.zeroValue3
  t4 := Tryz.underlying4
  a4 := Tryz.isAgg4
  z4 := Tryz.sizeOf4
  v4 := Tryz.zeroValue4
  t5 := Tryz.underlying5
  a5 := Tryz.isAgg5
  z5 := Tryz.sizeOf5
  v5 := Tryz.zeroValue5
  t9 := Tryz.underlying9
  a9 := Tryz.isAgg9
  z9 := Tryz.sizeOf9
  v9 := Tryz.zeroValue9
  t22 := Tryz.underlying23
  a22 := Tryz.isAgg23
  z22 := Tryz.sizeOf23
  v22 := Tryz.zeroValue23
  t25 := Tryz.underlying71
  a25 := Tryz.isAgg71
  z25 := Tryz.sizeOf71
  v25 := Tryz.zeroValue71
  t39 := Tryz.underlying89
  a39 := Tryz.isAgg89
  z39 := Tryz.sizeOf89
  v39 := Tryz.zeroValue89
  t45 := Tryz.underlying95
  a45 := Tryz.isAgg95
  z45 := Tryz.sizeOf95
  v45 := Tryz.zeroValue95
  t46 := Tryz.underlying96
  a46 := Tryz.isAgg96
  z46 := Tryz.sizeOf96
  v46 := Tryz.zeroValue96
  t50 := Tryz.underlying100
  a50 := Tryz.isAgg100
  z50 := Tryz.sizeOf100
  v50 := Tryz.zeroValue100
  t53 := Tryz.underlying103
  a53 := Tryz.isAgg103
  z53 := Tryz.sizeOf103
  v53 := Tryz.zeroValue103
  t55 := Tryz.underlying105
  a55 := Tryz.isAgg105
  z55 := Tryz.sizeOf105
  v55 := Tryz.zeroValue105
  t66 := Tryz.underlying110
  a66 := Tryz.isAgg110
  z66 := Tryz.sizeOf110
  v66 := Tryz.zeroValue110
  t70 := Tryz.underlying114
  a70 := Tryz.isAgg114
  z70 := Tryz.sizeOf114
  v70 := Tryz.zeroValue114
  t76 := Tryz.underlying119
  a76 := Tryz.isAgg119
  z76 := Tryz.sizeOf119
  v76 := Tryz.zeroValue119
  t77 := Tryz.underlying120
  a77 := Tryz.isAgg120
  z77 := Tryz.sizeOf120
  v77 := Tryz.zeroValue120 }
end Go.Proofs
namespace Go.Proofs.YtakbngafhogcbaaGreatDoor
open Go.RowKit Go.Shelf Go.Sort
instance : Inhabited En := ⟨⟨.empty, false, .empty⟩⟩
instance : Inhabited Mk := ⟨⟨.empty, 0, .empty⟩⟩
/-- What the library's comparison of two strings hands back. -/
def cmpB (a b : ByteArray) : Int := if Op.bytesLess a.toList b.toList then -1 else if a.toList == b.toList then 0 else 1
set_option maxHeartbeats 1000000 in
theorem isNaNS_c (s : ByteArray) (w : World) : Calls Tryz.prog 79 #[.string s] w fun e w' => e = .returned (.bool false) ∧ w' = w := by
  go_enter Tryz.func79, Tryz.ntmps79
  go_wp2
  go_ret
  exact ⟨by simp, rfl⟩
set_option maxHeartbeats 2000000 in
theorem compareS_c (a b : ByteArray) (w : World) : Calls Tryz.prog 59 #[.string a, .string b] w fun e w' => e = .returned (.int .i64 (cmpB a b)) ∧ w' = w := by
  have hcon := isNaNS_c
  go_enter Tryz.func59, Tryz.ntmps59
  go_wp2_with (go_at_call 79; refine (hcon _ _).mono ?_; rintro e w' ⟨rfl, rfl⟩)
  all_goals (go_ret; refine ⟨?_, rfl⟩; unfold cmpB; simp_all)
/-- The three cells of what stands at place k in a row. -/
theorem flat_at {α : Type} {f : α → List Value} (hf : ∀ x, (f x).length = 3) {j : Nat} (hj : j < 3) : ∀ (ys : List α) (k : Nat) (y : α), ys[k]? = some y → (ys.flatMap f)[k * 3 + j]? = (f y)[j]? := by
  intro ys
  induction ys with
  | nil => intro k y hy; simp at hy
  | cons z r ih =>
    intro k y hy
    rw [List.flatMap_cons]
    cases k with
    | zero =>
      simp at hy; subst hy
      rw [Nat.zero_mul, Nat.zero_add, List.getElem?_append_left (by rw [hf]; exact hj)]
    | succ k =>
      rw [List.getElem?_append_right (by rw [hf]; omega), show (k + 1) * 3 + j - (f z).length = k * 3 + j by rw [hf]; omega]
      exact ih k y (by simpa using hy)
section
variable {α : Type} [Inhabited α] {f : α → List Value}
theorem holdsK_own (hf : ∀ x, (f x).length = 3) {w : World} {B g c : Nat} {t : TypeId} {xs : List α} (h : w.ownsRow B t 3 (.slice (some ⟨g, 0, none⟩) xs.length c) xs.length (xs.flatMap f)) (hn : 0 < xs.length) :
    HoldsK f 3 w g 0 xs.toArray ∧ B ≤ g ∧ g < w.heap.size := by
  obtain ⟨g', c', hv, _, hB, hlt, hc, hz⟩ := own_form h hn
  have hg : g = g' := by injection hv with h1; injection h1 with h1; injection h1
  subst hg
  refine ⟨fun j hj => ?_, hB, hlt⟩
  rw [size_flatK, List.size_toArray] at hj
  rw [Nat.zero_add]
  refine ⟨hc _ _ ?_, hz _⟩
  rw [get_flatK _ _ _ _ (by rw [List.size_toArray]; exact hj)]
  have h3 : j / 3 < xs.length := by omega
  have e := flat_at hf (Nat.mod_lt j (by omega : 0 < 3)) xs (j / 3) _ (List.getElem?_eq_getElem h3)
  rw [show j / 3 * 3 + j % 3 = j by omega] at e
  rw [e]
  have e2 : xs.toArray[j / 3]! = xs[j / 3] := by simp [h3]
  rw [e2]
  have h4 : j % 3 < (f xs[j / 3]).length := by rw [hf]; omega
  show _ = some ((f xs[j / 3])[j % 3]!)
  rw [List.getElem?_eq_getElem h4]
  simp [h4]
theorem slf_holdsK (hf : ∀ x, (f x).length = 3) {w : World} {g : Nat} {d : Array α} (h : HoldsK f 3 w g 0 d) (hg : g < w.heap.size) : SlF f w (some ⟨g, 0, none⟩) d.toList := fun _ => by
  refine ⟨g, 0, rfl, hg, fun k x hx j u hu => ?_⟩
  have hk : k < d.size := by simpa using (List.getElem?_eq_some_iff.1 hx).1
  have hj : j < 3 := by have := (List.getElem?_eq_some_iff.1 hu).1; rwa [hf] at this
  have e := (HoldsK.cell h hk hj).1
  have e1 : d[k]! = x := by
    rw [Array.getElem?_toList, Array.getElem?_eq_getElem hk] at hx
    simp at hx
    rw [getElem!_pos d k hk]; exact hx
  rw [e, e1]
  obtain ⟨h5, h6⟩ := List.getElem?_eq_some_iff.1 hu
  simp [h5, h6]
theorem below_sort {w : World} {B g n : Nat} {d : Array α} {os : Array Obj} (hB : B ≤ g) (hg : g < w.heap.size) : Below B w (sortWorldK f 3 w g 0 n d os) := by
  refine ⟨rfl, rfl, rfl, size_sortWorldK_c f 3 w g 0 n d os, fun k hk => ?_⟩
  have h1 : k < (putRowK f 3 (Sort.ahead w n) g 0 d).heap.size := by rw [size_putRowK]; show k < w.heap.size; omega
  show ((putRowK f 3 (Sort.ahead w n) g 0 d).heap ++ os)[k]? = _
  rw [Array.getElem?_append_left h1]
  show (w.heap.modify g _)[k]? = _
  rw [Array.getElem?_modify, if_neg (by omega)]
/-- A row of the call's own that was sorted is a row of the call's own. -/
theorem own_sort (hf : ∀ x, (f x).length = 3) {w : World} {B g c n : Nat} {t : TypeId} {xs : List α} {d : Array α} {os : Array Obj} (h : w.ownsRow B t 3 (.slice (some ⟨g, 0, none⟩) xs.length c) xs.length (xs.flatMap f)) (hg : g < w.heap.size) (hd : d.size = xs.length)
    (hH : HoldsK f 3 (sortWorldK f 3 w g 0 n d os) g 0 d) : (sortWorldK f 3 w g 0 n d os).ownsRow B t 3 (.slice (some ⟨g, 0, none⟩) d.toList.length c) d.toList.length (d.toList.flatMap f) := by
  rcases h.2 with ⟨hv, _⟩ | ⟨g', cap, cur, hv, hB, hh, hnc, hm, hs, ht⟩
  · cases hv
  obtain ⟨rfl, rfl⟩ : g = g' ∧ c = cap := by injection hv with h1 h2 h3; injection h1 with h1; injection h1 with h1; exact ⟨h1, h3⟩
  have hl : d.toList.length = xs.length := by rw [Array.length_toList, hd]
  have hheap : (sortWorldK f 3 w g 0 n d os).heap[g]? = some (.cells (putCells id 0 (flatK f 3 d) cur) t (0, 0)) := by
    have h1 : g < (putRowK f 3 (Sort.ahead w n) g 0 d).heap.size := by rw [size_putRowK]; exact hg
    show ((putRowK f 3 (Sort.ahead w n) g 0 d).heap ++ os)[g]? = _
    rw [Array.getElem?_append_left h1]
    show (w.heap.modify g _)[g]? = _
    rw [Array.getElem?_modify, if_pos rfl, hh]; rfl
  have hsz : (putCells id 0 (flatK f 3 d) cur).size = c * 3 := by simp [putCells, hs]
  refine ⟨flatMap_len hf _, .inr ⟨g, c, _, rfl, hB, hheap, by rw [hl]; exact hnc, hm, hsz, ?_⟩⟩
  apply List.ext_getElem?
  intro k
  by_cases hk : k < d.toList.length * 3
  · rw [List.getElem?_take, if_pos hk, Array.getElem?_toList]
    have h3 : k / 3 < d.size := by rw [Array.length_toList] at hk; omega
    have hj : k % 3 < 3 := Nat.mod_lt _ (by omega)
    have e := (HoldsK.cell hH h3 hj).1
    rw [show 0 + k / 3 * 3 + k % 3 = k by omega, cell_of_row _ g k _ t (0, 0) hheap] at e
    have e2 := flat_at hf hj d.toList (k / 3) _ (List.getElem?_eq_getElem (by rw [Array.length_toList]; exact h3))
    rw [show k / 3 * 3 + k % 3 = k by omega] at e2
    rw [e2, e, getElem!_pos d _ h3]
    have h4 : k % 3 < (f d[k / 3]).length := by rw [hf]; exact hj
    rw [Array.getElem_toList, List.getElem?_eq_getElem h4, getElem!_pos (f d[k / 3]) _ h4]
  · rw [List.getElem?_eq_none (by rw [List.length_take]; omega), List.getElem?_eq_none (by rw [flatMap_len hf]; omega)]
end
theorem permIn_list {α : Type} [Inhabited α] {d d' : Array α} (h : PermIn 0 d.size d d') : d'.toList.Perm d.toList := by
  obtain ⟨h1, _, h2⟩ := h
  rw [← h1, Array.extract_size, h1, Array.extract_size] at h2
  exact h2
theorem sorted_list {α : Type} [Inhabited α] {lt : α → α → Bool} {d : Array α} {n : Nat} (hn : d.size = n) (h : SortedIn lt 0 n d) : d.toList.Pairwise fun a b => lt b a = false := by
  rw [List.pairwise_iff_getElem]
  intro i j hi hj hij
  have e := h i j (Nat.zero_le _) hij (by rw [← hn]; simpa using hj)
  have hi' : i < d.size := by simpa using hi
  have hj' : j < d.size := by simpa using hj
  rw [getElem!_pos d i hi', getElem!_pos d j hj'] at e
  simpa using e
theorem lt_cmpB {α : Type} (p : α → ByteArray) (x y : α) : ltOf (fun a b : α => cmpB (p a) (p b)) x y = Op.bytesLess (p x).data.toList (p y).data.toList := by
  rw [← less_of']
  unfold ltOf
  show decide (cmpB (p x) (p y) < 0) = _
  unfold cmpB
  by_cases h : Op.bytesLess (p x).toList (p y).toList = true
  · simp [h]
  · rw [if_neg h]
    have h' : Op.bytesLess (p x).toList (p y).toList = false := by simpa using h
    rw [h']
    split <;> decide
theorem swoB {α : Type} (p : α → ByteArray) : SWO (ltOf (fun a b : α => cmpB (p a) (p b))) := by
  refine ⟨fun x => by rw [lt_cmpB]; exact less_irrefl _, fun x y z h1 h2 => by rw [lt_cmpB] at *; exact less_trans h1 h2, fun x y z h1 h2 => ?_⟩
  rw [lt_cmpB] at *
  rcases less_total (p x).data.toList (p z).data.toList with h | h | h
  · rcases less_total (p x).data.toList (p y).data.toList with k | k | k
    · rw [k] at h1; cases h1
    · rw [← k, h] at h2; cases h2
    · have := less_trans k h; rw [this] at h2; cases h2
  · rw [h]; exact less_irrefl _
  · exact less_asymm h
set_option maxHeartbeats 2000000 in
theorem cmpEn_c (x y : En) (W : World) : Calls Tryz.prog 58 #[En.val x, En.val y] W fun e w' => e = .returned (.int .i64 (cmpB x.p y.p)) ∧ ∃ q os', w' = grow (W.drewN q) os' := by
  have hcon := compareS_c
  go_enter Tryz.func58, Tryz.ntmps58
  go_wp2_with (go_at_call 59; refine (hcon _ _ _).mono ?_; rintro e w' ⟨rfl, rfl⟩)
  go_ret
  exact ⟨rfl, 0, _, by rw [alloc_eq_grow, alloc_eq_grow, grow_grow]; rfl⟩
set_option maxHeartbeats 2000000 in
/-- sortEnts: what it sorts reads as the same elements in order, in the same place. -/
theorem sortEn_c (w : World) (B : Nat) (a : Option Addr) (c : Nat) (xs : List En) (h : OwnEn w B (.slice a xs.length c) xs) (hx : xs.length ≤ 1000000) :
    Calls Tryz.prog 31 #[.slice a xs.length c] w fun e w' => e = .returned (.tuple #[]) ∧ ∃ ys, ys.Perm xs ∧ (ys.Pairwise fun e f => Op.bytesLess f.p.data.toList e.p.data.toList = false) ∧ SlF En.cells w' a ys ∧ OwnEn w' B (.slice a ys.length c) ys ∧ Below B w w' := by
  rcases Nat.eq_zero_or_pos xs.length with h0 | hn
  · have hcon := AnyF.slices_SortFunc_none Tryz.sortEnt a c (.func (.func 58) #[] #[]) w
    obtain rfl : xs = [] := List.length_eq_zero_iff.1 h0
    change Calls Tryz.prog 57 _ _ _ at hcon
    go_enter Tryz.func31, Tryz.ntmps31
    go_wp2_with (go_at_call 57; refine hcon.mono ?_; rintro e w' ⟨rfl, rfl⟩)
    go_end0
    exact ⟨rfl, [], List.Perm.refl _, List.Pairwise.nil, SlF.nil_, h, Below.refl _ _⟩
  · have eg : ∀ args w, (callFunc 58 args).run Tryz.prog w = .ok (.enter 58 args) w := enters_of Tryz.func58 (by kernel_rfl) rfl
    obtain ⟨g, c', hv, _, _, _, _, _⟩ := own_form h hn
    obtain ⟨rfl, rfl⟩ : a = some ⟨g, 0, none⟩ ∧ c = c' := by injection hv with h1 h2 h3; exact ⟨h1, h3⟩
    obtain ⟨hH, hB, hg⟩ := holdsK_own (f := En.cells) (fun _ => rfl) h hn
    have hcon := AnyQ.slices_SortFunc Tryz.sortEnt 3 Tryz.isAgg31 Tryz.sizeOf31 En.cells (fun _ => rfl) (fun x v hv => by simp [En.cells] at hv; rcases hv with rfl | rfl | rfl <;> rfl) (fun x y => cmpB x.p y.p) (swoB En.p) 58 #[] g 0 c xs.toArray w eg (fun _ _ _ _ x y => cmpEn_c x y _) hH hg (by simp; omega)
    change Calls Tryz.prog 57 _ _ _ at hcon
    rw [List.size_toArray] at hcon
    have HH := Lib.hid hH
    have HO := Lib.hid h
    clear hH h hv
    go_enter Tryz.func31, Tryz.ntmps31
    go_wp2_with (go_at_call 57; refine hcon.mono ?_; rintro e w' ⟨rfl, d', n, os, hp, hs, rfl⟩)
    go_end0
    have hz : xs.toArray.size = xs.length := by simp
    rw [← hz] at hp
    have hd : d'.size = xs.length := by rw [← hz]; exact hp.1
    refine ⟨rfl, d'.toList, permIn_list hp, (sorted_list hd hs).imp (fun h => by rw [lt_cmpB] at h; exact h), slf_holdsK (fun _ => rfl) (holdsK_sortWorldK_c _ 3 w g 0 xs.toArray d' n os HH.out hg (by rw [hd, hz])) (Nat.lt_of_lt_of_le hg (size_sortWorldK_c _ 3 w g 0 n d' os)), own_sort (fun _ => rfl) HO.out hg hd (holdsK_sortWorldK_c _ 3 w g 0 xs.toArray d' n os HH.out hg (by rw [hd, hz])), below_sort hB hg⟩
end Go.Proofs.YtakbngafhogcbaaGreatDoor
namespace Go.Proofs.YtakbngafhogcbaaGreatDoor
open Go.RowKit
theorem raw_5 {t : List PE} {p r x : Bs} : rawL t 5 p r x = t.map (movedE p r) := by simp [rawL]
theorem raw_1 {t : List PE} {p r x : Bs} : rawL t 1 p r x = (t.filter fun e => !(e.p == p)) ++ [⟨p, true, x⟩] := by simp [rawL]
theorem raw_2 {t : List PE} {p r x : Bs} : rawL t 2 p r x = (t.filter fun e => !(e.p == p)) ++ [⟨p, false, x⟩] := by simp [rawL]
theorem raw_o {t : List PE} {k : Int} {p r x : Bs} (h5 : k ≠ 5) (h1 : k ≠ 1) (h2 : k ≠ 2) : rawL t k p r x = t.filter fun e => !(e.p == p) := by simp [rawL, h5, h1, h2]
theorem keep_snoc (xs : List En) (k : Nat) (e : En) (he : xs[k]? = some e) (p : Bs) (ms : List En) (h : ms.map En.pl = ((xs.take k).map En.pl).filter fun e => !(e.p == p)) :
    (ms ++ if e.p.data.toList = p then [] else [e]).map En.pl = ((xs.take (k + 1)).map En.pl).filter fun e => !(e.p == p) := by
  rw [take_pl xs k e he, List.filter_append, List.map_append, h]
  congr 1
  rw [List.filter_cons]
  by_cases hp : e.p.data.toList = p
  · rw [if_pos hp, if_neg (by rw [show e.pl.p = e.p.data.toList from rfl, hp]; simp)]; rfl
  · rw [if_neg hp, if_pos (by rw [show e.pl.p = e.p.data.toList from rfl]; simpa using hp)]; rfl
theorem keep_len (xs : List En) (k : Nat) (p : Bs) (ms : List En) (h : ms.map En.pl = ((xs.take k).map En.pl).filter fun e => !(e.p == p)) : ms.length ≤ k := by
  have h1 := congrArg List.length h
  have h2 := List.length_filter_le (fun e : PE => !(e.p == p)) ((xs.take k).map En.pl)
  simp only [List.length_map, List.length_take] at h1 h2
  omega
set_option maxRecDepth 100000 in
set_option maxHeartbeats 8000000 in
theorem treeDo_c (a : Option Addr) (c : Nat) (xs : List En) (k : Int) (p t d : ByteArray) (w : World) (hs : SlF En.cells w a xs) (ha : Adr a c) (hx : xs.length ≤ maxLen) (hp : p.size ≤ 2000000) (ht : t.size ≤ 2000000) (hd : d.size ≤ 2000000) (hzs : ∀ e ∈ xs, e.p.size ≤ 2000000 ∧ e.x.size ≤ 2000000) :
    Calls Tryz.prog 12 #[.slice a xs.length c, opV k p t d] w (MadeEi (tdo (xs.map En.pl) k p.data.toList t.data.toList d.data.toList) (tcode (xs.map En.pl) k p.data.toList t.data.toList d.data.toList) w) := by
  have HE := eltEn
  have hm2 : (2000000 : Nat) ≤ maxLen := by unfold maxLen; omega
  have c0 := new_cell w (opBox k p t d) 25 0 _ rfl
  have c1 := new_cell w (opBox k p t d) 25 1 _ rfl
  have c2 := new_cell w (opBox k p t d) 25 2 _ rfl
  have c3 := new_cell w (opBox k p t d) 25 3 _ rfl
  have hb := bellow_alloc w (.cells (opBox k p t d) 25)
  obtain ⟨r, hr⟩ := tok_dec xs
  have HT := Lib.hid (fun W (h : SlF En.cells W a xs) => treeOk_c a c xs r (Lib.hid hr) W h hx (fun e he => ⟨Nat.le_trans (hzs e he).1 hm2, Nat.le_trans (hzs e he).2 hm2⟩))
  obtain ⟨L, hL⟩ : ∃ L, tdo (xs.map En.pl) k p.data.toList t.data.toList d.data.toList = L := ⟨_, rfl⟩
  obtain ⟨C, hC⟩ : ∃ C, tcode (xs.map En.pl) k p.data.toList t.data.toList d.data.toList = C := ⟨_, rfl⟩
  have HS := Lib.hid hs
  rw [hL, hC]
  cases r with
  | false =>
    have hno : ¬ TOk (xs.map En.pl) := fun h => by have := hr.2 h; cases this
    obtain rfl : C = 1 := by rw [← hC]; exact tcode_bad hno
    obtain rfl : L = [] := by rw [← hL]; exact tdo_bad hno
    obtain ⟨n, hn⟩ : ∃ n, xs.length = n := ⟨_, rfl⟩
    rw [hn] at HT ⊢
    clear hn hs hr hL hC hno hzs hx
    go_enter Tryz.func12, Tryz.ntmps12
    go_wp2_with fail
    refine (HT.out _ (HS.out.below hb)).mono ?_; rintro e W ⟨rfl, hq⟩; replace hb := chn hb hq; clear hq
    go_wp2
    refine bodyPost_ret (v := .tuple #[.slice none 0 0, .int .i64 1]) (by simp [results, Tryz.results12, go_sem]) rfl ⟨none, 0, [], rfl, rfl, World.ownsRow_nil _ _ _ _, hb⟩
  | true =>
  have htok := hr.1 rfl
  have HTK := Lib.hid htok
  have hx16 : xs.length ≤ 16 := by have := htok.most; rw [List.length_map] at this; exact this
  have HC := Lib.hid (fun W (h : SlF En.cells W a xs) => opCode_c a c xs k p t d C (by rw [Hid, ← hC]; unfold tcode; rw [if_pos htok]) W h hx hp ht hd hzs)
  by_cases hC0 : C = 0
  · subst hC0
    obtain ⟨_, hok, hcd⟩ := tcode_0 hC
    have HLL : Hid (doL (xs.map En.pl) k p.data.toList t.data.toList d.data.toList = L) := by rw [Hid, ← tdo_do hC]; exact hL
    have HFIN := Lib.hid (fun (s : List PE) => (do_of_raw htok hok hcd).2 (s := s))
    obtain ⟨n, hn⟩ : ∃ n, xs.length = n := ⟨_, rfl⟩
    have HN := Lib.hid hn
    have HALL : Hid (xs.take n = xs) := by rw [Hid, ← hn, List.take_length]
    have HZ := Lib.hid hzs
    rw [hn] at HT HC hx16 ⊢
    clear hn hs hr hL hC htok hzs hx hok hcd
    go_enter Tryz.func12, Tryz.ntmps12
    go_wp2_with fail
    refine (HT.out _ (HS.out.below hb)).mono ?_; rintro e W ⟨rfl, hq⟩; replace hb := chn hb hq; replace c0 := keepc hq c0; replace c1 := keepc hq c1; replace c2 := keepc hq c2; replace c3 := keepc hq c3; clear hq
    go_wp2_with fail
    refine (HC.out _ (HS.out.below hb)).mono ?_; rintro e z ⟨rfl, hq⟩; replace hb := chn hb hq
    have C0 := Lib.hid (keepc hq c0)
    have C1 := Lib.hid (keepc hq c1)
    have C2 := Lib.hid (keepc hq c2)
    have C3 := Lib.hid (keepc hq c3)
    have HBZ := Lib.hid hb
    have HSZ := Lib.hid (HS.out.below hb)
    clear hq c0 c1 c2 c3 hb
    by_cases k5 : k = 5
    · subst k5
      rw [raw_5] at HFIN
      go_wp2
      go_loopw [7, 23] (fun v i wr => ∃ (j : Nat) (ms : List En), j ≤ n ∧ ms.length ≤ j ∧ i = .int .i64 j ∧ ms.map En.pl = ((xs.take j).map En.pl).map (movedE p.data.toList t.data.toList) ∧ wr.ownsRow z.heap.size 31 3 v ms.length (ms.flatMap En.cells) ∧ Below z.heap.size z wr) (fun _ i _ => n - (intOf i).toNat)
      case atStart => exact ⟨0, [], Nat.zero_le _, Nat.zero_le _, rfl, rfl, World.ownsRow_nil _ _ _ _, Below.refl _ _⟩
      case round =>
        obtain ⟨j, ms, hj, hml, rfl, hms, hown, hb⟩ := hrel
        have HMS := Lib.hid hms
        clear hms
        by_cases hlt : j < n
        · skip
          obtain ⟨e, hee⟩ : ∃ e, xs[j]? = some e := ⟨_, List.getElem?_eq_getElem (by rw [HN.out]; exact hlt)⟩
          have hzz := HZ.out e (List.mem_of_getElem? hee)
          have h2 := HSZ.out.below hb
          obtain ⟨b, off, rfl, _⟩ := h2.addr (by rw [HN.out]; omega)
          obtain ⟨d0, d1, d2⟩ := en_at h2 j e hee
          have i0 : (0 : Int) ≤ (j : Int) := by omega
          have i1 : (j : Int) < (n : Int) := by omega
          obtain ⟨u, hu⟩ : ∃ u, moveOkL e.p.data.toList p.data.toList t.data.toList = u := ⟨_, rfl⟩
          have HU2 := Lib.hid hu
          obtain ⟨mv, hmv⟩ : ∃ mv : ByteArray, moveL e.p.data.toList p.data.toList t.data.toList = mv.data.toList := ⟨⟨(moveL e.p.data.toList p.data.toList t.data.toList).toArray⟩, by simp⟩
          have HMV := Lib.hid hmv
          have HSN : Hid ((ms ++ [(⟨mv, e.d, e.x⟩ : En)]).map En.pl = ((xs.take (j + 1)).map En.pl).map (movedE p.data.toList t.data.toList)) := by
            rw [Hid, take_pl xs j e hee, List.map_append, List.map_append, HMS.out]
            congr 1
            show [(⟨mv.data.toList, e.d, e.x.data.toList⟩ : PE)] = [⟨moveL e.p.data.toList p.data.toList t.data.toList, e.d, e.x.data.toList⟩]
            rw [hmv]
          obtain ⟨ep, ed, ex⟩ := e
          clear hu hmv
          clear h2 hee
          have c0 := keepc (bellow_alloc wr (.cells #[.string ep, .bool ed, .string ex] 31)) (keepc hb C0.out)
          have c1 := keepc (bellow_alloc wr (.cells #[.string ep, .bool ed, .string ex] 31)) (keepc hb C1.out)
          have c2 := keepc (bellow_alloc wr (.cells #[.string ep, .bool ed, .string ex] 31)) (keepc hb C2.out)
          have q0 := new_cell wr #[.string ep, .bool ed, .string ex] 31 0 (.string ep) rfl
          have q1 := new_cell wr #[.string ep, .bool ed, .string ex] 31 1 (.bool ed) rfl
          have q2 := new_cell wr #[.string ep, .bool ed, .string ex] 31 2 (.string ex) rfl
          have f0 := new_free wr #[.string ep, .bool ed, .string ex] 31 0
          have HOW := Lib.hid hown
          have HLW := Lib.hid hb.size
          have hbw := bellow_alloc wr (.cells #[.string ep, .bool ed, .string ex] 31)
          replace hown := own_below hown (bellow_alloc wr (.cells #[.string ep, .bool ed, .string ex] 31))
          replace hb := hb.alloc hb.size (.cells #[.string ep, .bool ed, .string ex] 31); 
          go_wp2_with fail
          refine (pathMove_c ep p t mv u HMV HU2 _ hzz.1 hp ht).mono ?_; rintro e W ⟨rfl, hq⟩; replace hb := chn hb hq; replace hbw := chn hbw hq; replace f0 := (hq.frozen (p := ⟨wr.heap.size, 0, none⟩) (by simp)).trans f0; replace hown := own_below hown hq; replace q0 := keepc hq q0; replace q1 := keepc hq q1; replace q2 := keepc hq q2; clear hq
          have hown1 := own_below HOW.out (hbw.setCell (p := ⟨wr.heap.size, 0, none⟩) (Nat.le_refl _) (.string mv))
          replace hown := hown1
          clear hown1
          have hb1 := hb.setCell (p := ⟨wr.heap.size, 0, none⟩) HLW.out (.string mv)
          replace hb := hb1
          clear hb1
          go_wp2_with (at_builtin; go_must (refine wp_app1H (by rfl) _ _ 23 (by rfl) HE z.heap.size z.heap.size z _ #[.string mv, .bool ed, .string ex] _ _ _ (by rfl) W.heap.size (by simp) (by rfl) hown (by rfl) (by simp [Value.oneCell']) (by omega) hb.size hb (Nat.le_refl _) ?_); intro v' w1 hown1 hbel1 _ _)
          go_roundw
          case rel => exact ⟨j + 1, ms ++ [⟨mv, ed, ex⟩], by omega, by simp; omega, by go_num, HSN.out, by rw [← flat_app]; simpa using hown1, hbel1⟩
          case measure => simp [intOf]; omega
        · obtain rfl : j = n := by omega
          have HRAW : Hid (ms.map En.pl = (xs.map En.pl).map (movedE p.data.toList t.data.toList)) := by rw [Hid, HMS.out, HALL.out]
          have c0 := keepc hb C0.out
          obtain ⟨v1, v2, rfl⟩ := own_shape hown
          go_wp2_with fail
          refine (sortEn_c _ z.heap.size v1 v2 ms hown (by omega)).mono ?_; rintro e W2 ⟨rfl, zs, hp2, hso, _, hz2, hq⟩
          have hzl : ms.length = zs.length := hp2.length_eq.symm
          have HEQ : Hid (zs.map En.pl = L) := by
            rw [Hid, ← HLL.out]
            exact HFIN.out _ (by rw [← HRAW.out]; exact hp2.map _) (by rw [List.pairwise_map]; exact hso)
          go_wp2
          refine bodyPost_ret (v := .tuple #[.slice v1 zs.length v2, .int .i64 0]) (by simp [results, Tryz.results12, go_sem]) rfl ⟨v1, v2, zs, rfl, HEQ.out, own_mono hz2 HBZ.out.size, (HBZ.out.trans (hb.mono HBZ.out.size)).trans (hq.mono HBZ.out.size)⟩
    · have n5 : (k == 5) = false := by rw [beq_eq_false_iff_ne]; exact k5
      have HK5 := Lib.hid k5
      clear k5
      go_wp2
      go_loopw [7, 23] (fun v i wr => ∃ (j : Nat) (ms : List En), j ≤ n ∧ i = .int .i64 j ∧ ms.map En.pl = ((xs.take j).map En.pl).filter (fun e => !(e.p == p.data.toList)) ∧ wr.ownsRow z.heap.size 31 3 v ms.length (ms.flatMap En.cells) ∧ Below z.heap.size z wr) (fun _ i _ => n - (intOf i).toNat)
      case atStart => exact ⟨0, [], Nat.zero_le _, rfl, rfl, World.ownsRow_nil _ _ _ _, Below.refl _ _⟩
      case round =>
        obtain ⟨j, ms, hj, rfl, hms, hown, hb⟩ := hrel
        have HMS := Lib.hid hms
        have hml := keep_len _ _ _ _ hms
        clear hms
        by_cases hlt : j < n
        · skip
          obtain ⟨e, hee⟩ : ∃ e, xs[j]? = some e := ⟨_, List.getElem?_eq_getElem (by rw [HN.out]; exact hlt)⟩
          have hzz := HZ.out e (List.mem_of_getElem? hee)
          have h2 := HSZ.out.below hb
          obtain ⟨b, off, rfl, _⟩ := h2.addr (by rw [HN.out]; omega)
          obtain ⟨d0, d1, d2⟩ := en_at h2 j e hee
          have i0 : (0 : Int) ≤ (j : Int) := by omega
          have i1 : (j : Int) < (n : Int) := by omega
          have HSN := Lib.hid (keep_snoc xs j e hee p.data.toList ms HMS.out)
          obtain ⟨ep, ed, ex⟩ := e
          clear h2 hee
          have c0 := keepc (bellow_alloc wr (.cells #[.string ep, .bool ed, .string ex] 31)) (keepc hb C0.out)
          have c1 := keepc (bellow_alloc wr (.cells #[.string ep, .bool ed, .string ex] 31)) (keepc hb C1.out)
          have c2 := keepc (bellow_alloc wr (.cells #[.string ep, .bool ed, .string ex] 31)) (keepc hb C2.out)
          have q0 := new_cell wr #[.string ep, .bool ed, .string ex] 31 0 (.string ep) rfl
          have q1 := new_cell wr #[.string ep, .bool ed, .string ex] 31 1 (.bool ed) rfl
          have q2 := new_cell wr #[.string ep, .bool ed, .string ex] 31 2 (.string ex) rfl
          by_cases heq : ep.data.toList = p.data.toList
          · have qe := beqs_yes heq
            have HSM : Hid (ms.map En.pl = ((xs.take (j + 1)).map En.pl).filter fun e => !(e.p == p.data.toList)) := by
              have h := HSN.out; rw [if_pos heq, List.append_nil] at h; exact h
            clear heq
            go_wp2
            go_roundw
            case rel => exact ⟨j + 1, ms, by omega, by go_num, HSM.out, own_below hown (bellow_alloc _ _), hb.alloc hb.size _⟩
            case measure => simp [intOf]; omega
          · have qe := beqs_no heq
            have HSM : Hid ((ms ++ [(⟨ep, ed, ex⟩ : En)]).map En.pl = ((xs.take (j + 1)).map En.pl).filter fun e => !(e.p == p.data.toList)) := by
              have h := HSN.out; rw [if_neg heq] at h; exact h
            clear heq
            replace hown := own_below hown (bellow_alloc wr (.cells #[.string ep, .bool ed, .string ex] 31))
            replace hb := hb.alloc hb.size (.cells #[.string ep, .bool ed, .string ex] 31); 
            go_wp2_with (at_builtin; go_must (refine wp_app1H (by rfl) _ _ 23 (by rfl) HE z.heap.size z.heap.size z _ #[.string ep, .bool ed, .string ex] _ _ _ (by rfl) (wr.heap.size + 1) (by simp) (by rfl) hown (by rfl) (by simp [Value.oneCell']) (by omega) hb.size hb (Nat.le_refl _) ?_); intro v' w1 hown1 hbel1 _ _)
            go_roundw
            case rel => exact ⟨j + 1, ms ++ [⟨ep, ed, ex⟩], by omega, by go_num, HSM.out, by rw [← flat_app]; simpa using hown1, hbel1⟩
            case measure => simp [intOf]; omega
        · obtain rfl : j = n := by omega
          have HKEEP : Hid (ms.map En.pl = (xs.map En.pl).filter fun e => !(e.p == p.data.toList)) := by rw [Hid, HMS.out, HALL.out]
          have c0 := keepc hb C0.out
          have c1 := keepc hb C1.out
          have c3 := keepc hb C3.out
          by_cases k1 : k = 1
          · subst k1
            have HRAW : Hid ((ms ++ [(⟨p, true, d⟩ : En)]).map En.pl = rawL (xs.map En.pl) 1 p.data.toList t.data.toList d.data.toList) := by rw [Hid, raw_1, List.map_append, HKEEP.out]; rfl
            go_wp2_with (at_builtin; go_must (refine wp_app1H (by rfl) _ _ 23 (by rfl) HE z.heap.size z.heap.size z _ #[.string p, .bool true, .string d] _ _ _ (by rfl) wr.heap.size (by simp) (by rfl) hown (by rfl) (by simp [Value.oneCell']) (by omega) hb.size hb (Nat.le_refl _) ?_); intro v' w1 hown1 hbel1 _ _)
            have hown2 : w1.ownsRow z.heap.size 31 3 v' (ms ++ [(⟨p, true, d⟩ : En)]).length ((ms ++ [(⟨p, true, d⟩ : En)]).flatMap En.cells) := by rw [← flat_app]; simpa using hown1
            have hbX := hbel1
            clear hown hb hown1
            have hown := hown2
            have hb := hbX
            clear hown2 hbX
            obtain ⟨ns, hns⟩ : ∃ ns, ms ++ [(⟨p, true, d⟩ : En)] = ns := ⟨_, rfl⟩
            have hnl : ns.length ≤ 17 := by rw [← hns]; simp; omega
            rw [hns] at hown HRAW
            clear hns
            obtain ⟨v1, v2, rfl⟩ := own_shape hown
            go_wp2_with fail
            refine (sortEn_c _ z.heap.size v1 v2 ns hown (by omega)).mono ?_; rintro e W2 ⟨rfl, zs, hp2, hso, _, hz2, hq⟩
            have hzl : ns.length = zs.length := hp2.length_eq.symm
            have HEQ : Hid (zs.map En.pl = L) := by
              rw [Hid, ← HLL.out]
              exact HFIN.out _ (by rw [← HRAW.out]; exact hp2.map _) (by rw [List.pairwise_map]; exact hso)
            go_wp2
            refine bodyPost_ret (v := .tuple #[.slice v1 zs.length v2, .int .i64 0]) (by simp [results, Tryz.results12, go_sem]) rfl ⟨v1, v2, zs, rfl, HEQ.out, own_mono hz2 HBZ.out.size, (HBZ.out.trans (hb.mono HBZ.out.size)).trans (hq.mono HBZ.out.size)⟩
          · by_cases k2 : k = 2
            · subst k2
              have HRAW : Hid ((ms ++ [(⟨p, false, d⟩ : En)]).map En.pl = rawL (xs.map En.pl) 2 p.data.toList t.data.toList d.data.toList) := by rw [Hid, raw_2, List.map_append, HKEEP.out]; rfl
              go_wp2_with (at_builtin; go_must (refine wp_app1H (by rfl) _ _ 23 (by rfl) HE z.heap.size z.heap.size z _ #[.string p, .bool false, .string d] _ _ _ (by rfl) wr.heap.size (by simp) (by rfl) hown (by rfl) (by simp [Value.oneCell']) (by omega) hb.size hb (Nat.le_refl _) ?_); intro v' w1 hown1 hbel1 _ _)
              have hown2 : w1.ownsRow z.heap.size 31 3 v' (ms ++ [(⟨p, false, d⟩ : En)]).length ((ms ++ [(⟨p, false, d⟩ : En)]).flatMap En.cells) := by rw [← flat_app]; simpa using hown1
              have hbX := hbel1
              clear hown hb hown1
              have hown := hown2
              have hb := hbX
              clear hown2 hbX
              obtain ⟨ns, hns⟩ : ∃ ns, ms ++ [(⟨p, false, d⟩ : En)] = ns := ⟨_, rfl⟩
              have hnl : ns.length ≤ 17 := by rw [← hns]; simp; omega
              rw [hns] at hown HRAW
              clear hns
              obtain ⟨v1, v2, rfl⟩ := own_shape hown
              go_wp2_with fail
              refine (sortEn_c _ z.heap.size v1 v2 ns hown (by omega)).mono ?_; rintro e W2 ⟨rfl, zs, hp2, hso, _, hz2, hq⟩
              have hzl : ns.length = zs.length := hp2.length_eq.symm
              have HEQ : Hid (zs.map En.pl = L) := by
                rw [Hid, ← HLL.out]
                exact HFIN.out _ (by rw [← HRAW.out]; exact hp2.map _) (by rw [List.pairwise_map]; exact hso)
              go_wp2
              refine bodyPost_ret (v := .tuple #[.slice v1 zs.length v2, .int .i64 0]) (by simp [results, Tryz.results12, go_sem]) rfl ⟨v1, v2, zs, rfl, HEQ.out, own_mono hz2 HBZ.out.size, (HBZ.out.trans (hb.mono HBZ.out.size)).trans (hq.mono HBZ.out.size)⟩
            · have n1 : (k == 1) = false := by rw [beq_eq_false_iff_ne]; exact k1
              have n2 : (k == 2) = false := by rw [beq_eq_false_iff_ne]; exact k2
              have HRAW : Hid (ms.map En.pl = rawL (xs.map En.pl) k p.data.toList t.data.toList d.data.toList) := by rw [Hid, raw_o HK5.out k1 k2, HKEEP.out]
              clear k1 k2
              obtain ⟨v1, v2, rfl⟩ := own_shape hown
              go_wp2_with fail
              refine (sortEn_c _ z.heap.size v1 v2 ms hown (by omega)).mono ?_; rintro e W2 ⟨rfl, zs, hp2, hso, _, hz2, hq⟩
              have hzl : ms.length = zs.length := hp2.length_eq.symm
              have HEQ : Hid (zs.map En.pl = L) := by
                rw [Hid, ← HLL.out]
                exact HFIN.out _ (by rw [← HRAW.out]; exact hp2.map _) (by rw [List.pairwise_map]; exact hso)
              go_wp2
              refine bodyPost_ret (v := .tuple #[.slice v1 zs.length v2, .int .i64 0]) (by simp [results, Tryz.results12, go_sem]) rfl ⟨v1, v2, zs, rfl, HEQ.out, own_mono hz2 HBZ.out.size, (HBZ.out.trans (hb.mono HBZ.out.size)).trans (hq.mono HBZ.out.size)⟩
  · have hC1 : ((C : Int) != 0) = true := by rw [bne_iff_ne]; omega
    have HLX : Hid (xs.map En.pl = L) := by rw [Hid, ← hL, tdo_same htok (by rw [hC]; exact hC0)]
    have HCP := Lib.hid (fun W (h : SlF En.cells W a xs) => copyEnts_c a c xs W h ha (by omega))
    obtain ⟨n, hn⟩ : ∃ n, xs.length = n := ⟨_, rfl⟩
    have HN := Lib.hid hn
    rw [hn] at HT HC HCP ⊢
    clear hn hs hr hL hC htok hzs hx ha hx16 hC0
    go_enter Tryz.func12, Tryz.ntmps12
    go_wp2_with fail
    refine (HT.out _ (HS.out.below hb)).mono ?_; rintro e W ⟨rfl, hq⟩; replace hb := chn hb hq; replace c0 := keepc hq c0; replace c1 := keepc hq c1; replace c2 := keepc hq c2; replace c3 := keepc hq c3; clear hq
    go_wp2_with fail
    refine (HC.out _ (HS.out.below hb)).mono ?_; rintro e W ⟨rfl, hq⟩; replace hb := chn hb hq; clear hq
    go_wp2_with fail
    refine (HCP.out _ (HS.out.below hb)).mono ?_; rintro e W ⟨v, rfl, hown, hq⟩
    have HB := Lib.hid hb
    replace hb := chn hb hq
    obtain ⟨v1, v2, rfl⟩ := own_shape hown
    have HOWN : Hid (OwnEn W w.heap.size (.slice v1 xs.length v2) xs) := by
      have h := own_mono hown HB.out.size
      rw [← HN.out] at h; exact h
    clear hown hq
    go_wp2
    refine bodyPost_ret (v := .tuple #[.slice v1 xs.length v2, .int .i64 (C : Int)]) (by simp [results, Tryz.results12, go_sem, HN.out]) rfl ⟨v1, v2, xs, rfl, HLX.out, HOWN.out, hb⟩
end Go.Proofs.YtakbngafhogcbaaGreatDoor
namespace Go.Proofs.YtakbngafhogcbaaGreatDoor
open Go.Op
theorem put_back {t : List PE} (h : TOk t) {p : Bs} {d : Bool} {x : Bs} (hn : atP PE.p t p = none) : (putP PE.p t ⟨p, d, x⟩).filter (fun e => !(e.p == p)) = t := by
  refine ord_ext ((ord_putP h.ordP _).filter _) h.ordP fun e => ?_
  rw [List.mem_filter, mem_putP h.ordP]
  simp only [Bool.not_eq_true', beq_eq_false_iff_ne]
  constructor
  · rintro ⟨rfl | ⟨h1, _⟩, h2⟩
    · exact absurd rfl h2
    · exact h1
  · intro h1
    have := atP_none.1 hn e h1
    exact ⟨.inr ⟨h1, this⟩, this⟩
theorem off_back {t : List PE} (h : TOk t) {e : PE} (he : e ∈ t) : putP PE.p (t.filter fun f => !(f.p == e.p)) e = t := by
  refine ord_ext (ord_putP (h.ordP.filter _) _) h.ordP fun f => ?_
  rw [mem_putP (h.ordP.filter _), List.mem_filter]
  simp only [Bool.not_eq_true', beq_eq_false_iff_ne]
  constructor
  · rintro (rfl | ⟨⟨h1, _⟩, _⟩)
    · exact he
    · exact h1
  · intro h1
    by_cases hp : f.p = e.p
    · exact .inl (h.same h1 he hp)
    · exact .inr ⟨⟨h1, hp⟩, hp⟩
theorem put_over {t : List PE} (h : TOk t) {e : PE} (he : e ∈ t) {f : PE} (hf : f.p = e.p) : putP PE.p (putP PE.p t f) e = t := by
  have h1 := ord_putP h.ordP f
  refine ord_ext (ord_putP h1 _) h.ordP fun g => ?_
  rw [mem_putP h1, mem_putP h.ordP]
  constructor
  · rintro (rfl | ⟨rfl | ⟨h2, _⟩, h3⟩)
    · exact he
    · exact absurd hf h3
    · exact h2
  · intro h2
    by_cases hp : g.p = e.p
    · exact .inl (h.same h2 he hp)
    · exact .inr ⟨.inr ⟨h2, by rw [hf]; exact hp⟩, hp⟩
theorem put_twice {t : List PE} (h : TOk t) (e : PE) : putP PE.p (putP PE.p t e) e = putP PE.p t e := by
  have h1 := ord_putP h.ordP e
  refine ord_ext (ord_putP h1 _) h1 fun g => ?_
  rw [mem_putP h1, mem_putP h.ordP]
  constructor
  · rintro (h2 | ⟨h2, _⟩)
    · exact .inl h2
    · exact h2
  · intro h2
    by_cases hp : g = e
    · exact .inl hp
    · refine .inr ⟨h2, ?_⟩
      rcases h2 with h2 | h2
      · exact absurd h2 hp
      · exact h2.2
theorem off_len {t : List PE} (h : TOk t) {e : PE} (he : e ∈ t) : (t.filter fun f => !(f.p == e.p)).length + 1 = t.length := by
  have h1 := off_back h he
  have h2 : atP PE.p (t.filter fun f => !(f.p == e.p)) e.p = none := by rw [at_off h, if_pos rfl]
  have h3 := len_putP (h.ordP.filter fun f => !(f.p == e.p)) e
  rw [h1, h2] at h3
  simp at h3
  exact h3.symm
/-- Where something would be in, behind a turn at another path. -/
theorem upCode_keep {t s : List PE} (_ht : OrdP PE.p t) (_hs : OrdP PE.p s) {q : Bs} (h : upL q = [47] ∨ atP PE.p s (upL q) = atP PE.p t (upL q)) : upCodeL s q = upCodeL t q := by
  unfold upCodeL
  by_cases hr : upL q = [47]
  · rw [if_pos hr, if_pos hr]
  · rw [if_neg hr, if_neg hr, getL_at, getL_at, h.resolve_left hr]
section
variable {t : List PE} {k : Int} {p r x : Bs}
/-- Lookups behind what was done: all but moves. -/
theorem at_do_put (h : TOk t) (d : Bool) (q : Bs) : atP PE.p (putP PE.p t ⟨p, d, x⟩) q = if p = q then some ⟨p, d, x⟩ else atP PE.p t q := atP_putP h.ordP _ q
theorem law_turned_1 (h : TOk t) (hc : makeC t p = 0) : turnedL t (putP PE.p t ⟨p, true, x⟩) = [p] := by
  obtain ⟨_, h2, _⟩ := makeC_0 hc
  rw [getL_at] at h2
  refine turned_one h.ordP (ord_putP h.ordP _) ?_ fun q hq => ?_
  · rw [at_do_put h, if_pos rfl, h2]; simp
  · rw [at_do_put h, if_neg hq]
theorem law_turned_2 (h : TOk t) : (turnedL t (putP PE.p t ⟨p, false, x⟩) = [] ∧ atP PE.p t p = some ⟨p, false, x⟩) ∨ turnedL t (putP PE.p t ⟨p, false, x⟩) = [p] := by
  by_cases he : atP PE.p t p = some ⟨p, false, x⟩
  · refine .inl ⟨?_, he⟩
    rw [turned_nil h.ordP (ord_putP h.ordP _)]
    refine ord_ext_at h.ordP (ord_putP h.ordP _) fun q => ?_
    rw [at_do_put h]
    by_cases hq : p = q
    · rw [if_pos hq, ← hq, he]
    · rw [if_neg hq]
  · refine .inr (turned_one h.ordP (ord_putP h.ordP _) ?_ fun q hq => ?_)
    · rw [at_do_put h, if_pos rfl]; exact he
    · rw [at_do_put h, if_neg hq]
theorem law_turned_off (h : TOk t) (he : ∃ e, getL t p = some e) : turnedL t (t.filter fun e => !(e.p == p)) = [p] := by
  obtain ⟨e, he⟩ := he
  rw [getL_at] at he
  refine turned_one h.ordP (h.ordP.filter _) ?_ fun q hq => ?_
  · rw [at_off h, if_pos rfl, he]; simp
  · rw [at_off h, if_neg hq]
theorem law_turned_5 (m : MV t p r) {s : Bs} (hs : s ∈ turnedL t (mvL t p r)) : s = p ∨ s = r ∨ underL s p = true ∨ underL s r = true := by
  rw [mem_turned m.tok.ordP (mv_ord _ _ _)] at hs
  refine Classical.byContradiction fun hn => hs ?_
  simp only [not_or] at hn
  obtain ⟨h1, h2, h3, h4⟩ := hn
  refine opt_ext fun e => ?_
  rw [atP_iff m.tok.ordP, atP_iff (mv_ord _ _ _), m.mem]
  constructor
  · rintro ⟨he, rfl⟩
    refine ⟨⟨e, he, ?_⟩, rfl⟩
    have := move_stay (m.all e he) (by rintro (h | h); exact h1 h; exact h3 h)
    obtain ⟨a, b, c⟩ := e
    show PE.mk (moveL a p r) b c = _
    rw [this]
  · rintro ⟨⟨f, hf, rfl⟩, rfl⟩
    by_cases hm : f.p = p ∨ underL f.p p = true
    · rcases mv_in (m.all f hf) hm with h | h
      · exact absurd h h2
      · exact absurd h h4
    · have := move_stay (m.all f hf) hm
      obtain ⟨a, b, c⟩ := f
      have e : movedE p r ⟨a, b, c⟩ = ⟨a, b, c⟩ := by show PE.mk (moveL a p r) b c = _; rw [this]
      rw [e]
      exact ⟨hf, rfl⟩
/-- What is undone. -/
theorem back_1 (h : TOk t) (hc : makeC t p = 0) (hp : pathOkL p = true) : rmdirC (putP PE.p t ⟨p, true, x⟩) p = 0 ∧ (putP PE.p t ⟨p, true, x⟩).filter (fun e => !(e.p == p)) = t := by
  obtain ⟨_, h2, _⟩ := makeC_0 hc
  refine ⟨?_, put_back h (by rw [← getL_at]; exact h2)⟩
  unfold rmdirC
  rw [getL_at, at_do_put h, if_pos rfl]
  show (if true = true then _ else _) = 0
  rw [if_pos rfl, if_neg]
  rw [List.any_eq_true]
  rintro ⟨e, he, hu⟩
  rcases (mem_putP h.ordP).1 he with rfl | ⟨he, _⟩
  · rw [not_under_self] at hu; cases hu
  · obtain ⟨f, hf, hfp, _⟩ := h.anc he hp hu
    exact getL_none.1 h2 f hf hfp
theorem back_2a (h : TOk t) (hc : putC t p = 0) (hp : pathOkL p = true) (hx : dataOkL x = true) {e : PE} (he : getL t p = some e) : e.d = false ∧ putC (putP PE.p t ⟨p, false, x⟩) p = 0 ∧ putP PE.p (putP PE.p t ⟨p, false, x⟩) ⟨p, false, e.x⟩ = t := by
  obtain ⟨h1, h2⟩ := putC_0 hc
  have hd : e.d = false := by
    rcases h2 with ⟨f, hf, hfd⟩ | ⟨hn, _⟩
    · rw [he] at hf; injection hf with hf; rw [hf]; exact hfd
    · rw [he] at hn; cases hn
  obtain ⟨h3, h4⟩ := h.get.1 he
  have e0 : e = ⟨p, false, e.x⟩ := by
    obtain ⟨a, b, c⟩ := e
    have hd : b = false := hd
    have h4 : a = p := h4
    subst hd; subst h4; rfl
  have ht := tok_put (d := false) h hp hx (fun h => (by cases h)) h1 h2
  refine ⟨hd, ?_, ?_⟩
  · unfold putC
    rw [upCode_keep h.ordP ht.ordP (.inr (by rw [at_do_put h, if_neg (Ne.symm (up_ne hp))])), getL_at, at_do_put h, if_pos rfl]
    rw [h1]; rfl
  · rw [← e0]
    exact put_over h h3 (by rw [h4])
theorem back_2b (h : TOk t) (hn : getL t p = none) : rmC (putP PE.p t ⟨p, false, x⟩) p = 0 ∧ (putP PE.p t ⟨p, false, x⟩).filter (fun e => !(e.p == p)) = t := by
  refine ⟨?_, put_back h (by rw [← getL_at]; exact hn)⟩
  unfold rmC
  rw [getL_at, at_do_put h, if_pos rfl]
  rfl
theorem back_off (h : TOk t) (hp : pathOkL p = true) {e : PE} (he : getL t p = some e) : upCodeL (t.filter fun e => !(e.p == p)) p = 0 ∧ getL (t.filter fun e => !(e.p == p)) p = none ∧ (t.filter fun e => !(e.p == p)).length < 16 ∧ putP PE.p (t.filter fun e => !(e.p == p)) e = t := by
  obtain ⟨h3, rfl⟩ := h.get.1 he
  refine ⟨?_, ?_, ?_, off_back h h3⟩
  · rw [upCode_keep h.ordP (h.ordP.filter _) (.inr (by rw [at_off h, if_neg (Ne.symm (up_ne hp))]))]
    exact h.up e h3
  · rw [getL_at, at_off h, if_pos rfl]
  · have := off_len h h3
    have := h.most
    omega
theorem back_3 (h : TOk t) (hc : rmC t p = 0) (hp : pathOkL p = true) {e : PE} (he : getL t p = some e) : putC (t.filter fun e => !(e.p == p)) p = 0 ∧ putP PE.p (t.filter fun e => !(e.p == p)) ⟨p, false, e.x⟩ = t := by
  obtain ⟨f, hf, hd⟩ := rmC_0 hc
  rw [he] at hf; injection hf with hf; subst hf
  obtain ⟨h1, h2, h3, h4⟩ := back_off h hp he
  have e0 : e = ⟨p, false, e.x⟩ := by
    have h5 := (h.get.1 he).2
    obtain ⟨a, b, c⟩ := e
    have hd : b = false := hd
    have h5 : a = p := h5
    subst hd; subst h5; rfl
  refine ⟨?_, by rw [← e0]; exact h4⟩
  unfold putC
  rw [h1, h2]
  show (if (16 : Nat) ≤ _ then 8 else 0) = 0
  rw [if_neg (by omega)]
theorem back_4 (h : TOk t) (hc : rmdirC t p = 0) (hp : pathOkL p = true) : makeC (t.filter fun e => !(e.p == p)) p = 0 ∧ putP PE.p (t.filter fun e => !(e.p == p)) ⟨p, true, []⟩ = t := by
  obtain ⟨e, he, hd, _⟩ := rmdirC_0 hc
  obtain ⟨h1, h2, h3, h4⟩ := back_off h hp he
  have e0 : e = ⟨p, true, []⟩ := by
    have h5 := (h.get.1 he).2
    have := ent_dir h (h.get.1 he).1 hd
    rw [h5] at this; exact this
  refine ⟨?_, by rw [← e0]; exact h4⟩
  unfold makeC
  rw [h1, h2]
  show (if (16 : Nat) ≤ _ then 8 else 0) = 0
  rw [if_neg (by omega)]
/-- What is done once more. -/
theorem again_1 (h : TOk t) (hc : makeC t p = 0) (hp : pathOkL p = true) : makeC (putP PE.p t ⟨p, true, []⟩) p = 4 := by
  obtain ⟨h1, h2, h3⟩ := makeC_0 hc
  have ht := tok_put h hp (x := []) (d := true) (by decide) (fun _ => rfl) h1 (.inr ⟨h2, h3⟩)
  unfold makeC
  rw [upCode_keep h.ordP ht.ordP (.inr (by rw [at_do_put h, if_neg (Ne.symm (up_ne hp))])), h1, getL_at, at_do_put h, if_pos rfl]
  rfl
theorem again_2 (h : TOk t) (hc : putC t p = 0) (hp : pathOkL p = true) (hx : dataOkL x = true) : putC (putP PE.p t ⟨p, false, x⟩) p = 0 ∧ putP PE.p (putP PE.p t ⟨p, false, x⟩) ⟨p, false, x⟩ = putP PE.p t ⟨p, false, x⟩ := by
  obtain ⟨h1, h2⟩ := putC_0 hc
  have ht := tok_put (d := false) h hp hx (fun h => (by cases h)) h1 h2
  refine ⟨?_, put_twice h _⟩
  unfold putC
  rw [upCode_keep h.ordP ht.ordP (.inr (by rw [at_do_put h, if_neg (Ne.symm (up_ne hp))])), h1, getL_at, at_do_put h, if_pos rfl]
  rfl
theorem again_off (h : TOk t) : rmC (t.filter fun e => !(e.p == p)) p = 2 ∧ rmdirC (t.filter fun e => !(e.p == p)) p = 2 := by
  have : getL (t.filter fun e => !(e.p == p)) p = none := by rw [getL_at, at_off h, if_pos rfl]
  unfold rmC rmdirC
  rw [this]
  exact ⟨rfl, rfl⟩
theorem again_5 (m : MV t p r) : moveC (mvL t p r) p r = 2 := by
  have : getL (mvL t p r) p = none := getL_none.2 fun x hx => m.gone hx
  unfold moveC
  rw [if_pos this]
/-- By way of a place in the root. -/
theorem via_code (_h : TOk t) {v : Bs} (hv : upL v = [47]) (hvp : pathOkL v = true) (hp : pathOkL p = true) (he : ∃ e, getL t p = some e) : moveC t p v = 0 ∨ moveC t p v = 4 ∨ moveC t p v = 8 := by
  obtain ⟨e, he⟩ := he
  have h1 : upCodeL t v = 0 := by unfold upCodeL; rw [if_pos hv]
  have h2 : underL v p = false := ups_root hvp hv hp
  unfold moveC
  rw [if_neg (by rw [he]; simp), if_neg (by rw [h1]; simp), h2]
  split
  · exact .inr (.inl rfl)
  · rw [if_neg (by simp)]
    split
    · exact .inl rfl
    · exact .inr (.inr rfl)
end
end Go.Proofs.YtakbngafhogcbaaGreatDoor
namespace Go.Proofs.YtakbngafhogcbaaGreatDoor
open Go.RowKit
set_option maxHeartbeats 1000000 in
theorem equalEnt_c (a a' : Option Addr) (c c' : Nat) (xs ys : List En) (r : Bool) (hr : Hid (r = true ↔ xs = ys)) (w : World) (hs : SlF En.cells w a xs) (hs' : SlF En.cells w a' ys) (hx : xs.length ≤ maxLen) (_hy : ys.length ≤ maxLen) :
    Calls Tryz.prog 35 #[.slice a xs.length c, .slice a' ys.length c'] w fun q w' => q = .returned (.bool r) ∧ ∃ m, w' = w.drewN m := by
  unfold maxLen at hx _hy
  by_cases hl : xs.length = ys.length
  · obtain ⟨n, hn⟩ : ∃ n, xs.length = n := ⟨_, rfl⟩
    have hn' : ys.length = n := by rw [← hl, hn]
    rw [hn] at hx ⊢
    rw [hn']
    have HN := Lib.hid hn
    have HN' := Lib.hid hn'
    have HS := Lib.hid hs
    have HS' := Lib.hid hs'
    have HE := Lib.hid (fun (h : ∀ (k : Nat) (x y : En), xs[k]? = some x → ys[k]? = some y → x = y) => differ hl h)
    clear hl hn hn' hs hs' _hy
    go_enter Tryz.func35, Tryz.ntmps35
    go_wp2
    go_loopw [5, 13] (fun _ i wr => ∃ k : Nat, k ≤ n ∧ i = .int .i64 k ∧ (∀ (j : Nat) (x y : En), j < k → xs[j]? = some x → ys[j]? = some y → x = y) ∧ ∃ m, wr = w.drewN m) (fun _ i _ => n - (intOf i).toNat)
    case atStart => exact ⟨0, Nat.zero_le _, rfl, fun j _ _ h => absurd h (by omega), 0, rfl⟩
    case round =>
      obtain ⟨k, hk, rfl, hall, m, rfl⟩ := hrel
      have HA := Lib.hid hall
      clear hall
      by_cases hlt : k < n
      · obtain ⟨e, hee⟩ : ∃ e, xs[k]? = some e := ⟨_, List.getElem?_eq_getElem (by rw [HN.out]; exact hlt)⟩
        obtain ⟨f, hff⟩ : ∃ e, ys[k]? = some e := ⟨_, List.getElem?_eq_getElem (by rw [HN'.out]; exact hlt)⟩
        have h2 := HS.out
        have h3 := HS'.out
        obtain ⟨b, off, rfl, _⟩ := h2.addr (by rw [HN.out]; omega)
        obtain ⟨b', off', rfl, _⟩ := h3.addr (by rw [HN'.out]; omega)
        obtain ⟨c0, c1, c2⟩ := en_at h2 k e hee
        obtain ⟨d0, d1, d2⟩ := en_at h3 k f hff
        have HEE := Lib.hid hee
        have HFF := Lib.hid hff
        have i0 : (0 : Int) ≤ (k : Int) := by omega
        have i1 : (k : Int) < (n : Int) := by omega
        clear h2 h3 hee hff
        by_cases hef : e = f
        · subst hef
          go_wp2_with fail
          go_quiet (fail)
          go_wp2
          go_roundw
          case rel => exact ⟨k + 1, by omega, by go_num, fun j x y hj h1 h2 => by
            by_cases ej : j = k
            · subst ej
              rw [HEE.out] at h1
              rw [HFF.out] at h2
              injection h1 with h1; injection h2 with h2
              rw [← h1, ← h2]
            · exact HA.out j x y (by omega) h1 h2, _, rfl⟩
          case measure => simp [intOf]; omega
        · obtain rfl : r = false := by
            cases r
            · rfl
            · have := hr.out.1 rfl
              rw [this, HFF.out] at HEE
              exact absurd (Option.some.inj HEE.out).symm hef
          obtain ⟨p, d, x⟩ := e
          obtain ⟨p', d', x'⟩ := f
          simp only at c0 c1 c2 d0 d1 d2
          by_cases h1 : p = p'
          · subst h1
            by_cases h2 : d = d'
            · subst h2
              have q := bq_no (s := x) (t := x') (fun h => hef (by rw [h]))
              clear hef HEE HFF
              go_wp2_with fail
              go_quiet (fail)
              go_wp2
              go_ret
              exact ⟨rfl, _, World.drewN_drewN _ _ _⟩
            · have q : (d == d') = false := by rw [beq_eq_false_iff_ne]; exact h2
              clear hef HEE HFF h2
              go_wp2_with fail
              go_quiet (fail)
              go_wp2
              go_ret
              exact ⟨rfl, _, World.drewN_drewN _ _ _⟩
          · have q := bq_no h1
            clear hef HEE HFF h1
            go_wp2_with fail
            go_quiet (fail)
            go_wp2
            go_ret
            exact ⟨rfl, _, World.drewN_drewN _ _ _⟩
      · obtain rfl : r = true := hr.out.2 (HE.out (fun j x y h1 h2 => HA.out j x y (by
          have := (List.getElem?_eq_some_iff.1 h1).1
          rw [HN.out] at this; omega) h1 h2))
        go_wp2
        go_ret
        exact ⟨rfl, _, rfl⟩
  · obtain rfl : r = false := by
      cases r
      · rfl
      · exact absurd (congrArg List.length (hr.out.1 rfl)) hl
    obtain ⟨n, hn⟩ : ∃ n, xs.length = n := ⟨_, rfl⟩
    obtain ⟨n', hn'⟩ : ∃ n, ys.length = n := ⟨_, rfl⟩
    rw [hn, hn'] at hl
    rw [hn] at hx ⊢
    rw [hn'] at _hy ⊢
    have q : ((n : Int) != (n' : Int)) = true := by rw [bne_iff_ne]; omega
    clear hr hs hs' hn hn' hl
    go_enter Tryz.func35, Tryz.ntmps35
    go_wp2
    go_ret
    exact ⟨rfl, 0, rfl⟩
set_option maxHeartbeats 1000000 in
theorem treeSame_c (a a' : Option Addr) (c c' : Nat) (xs ys : List En) (r : Bool) (hr : Hid (r = true ↔ xs = ys)) (w : World) (hs : SlF En.cells w a xs) (hs' : SlF En.cells w a' ys) (hx : xs.length ≤ maxLen) (hy : ys.length ≤ maxLen) :
    Calls Tryz.prog 15 #[.slice a xs.length c, .slice a' ys.length c'] w fun q w' => q = .returned (.bool r) ∧ ∃ m, w' = w.drewN m := by
  have H := Lib.hid (equalEnt_c a a' c c' xs ys r hr w hs hs' hx hy)
  obtain ⟨n, hn⟩ : ∃ n, xs.length = n := ⟨_, rfl⟩
  obtain ⟨n', hn'⟩ : ∃ n, ys.length = n := ⟨_, rfl⟩
  rw [hn, hn'] at H
  rw [hn, hn']
  clear hr hs hs' hx hy hn hn'
  go_enter Tryz.func15, Tryz.ntmps15
  go_wp2_with fail
  refine H.out.mono ?_
  rintro q W ⟨rfl, m, rfl⟩
  go_wp2
  go_ret
  exact ⟨rfl, _, rfl⟩
end Go.Proofs.YtakbngafhogcbaaGreatDoor
