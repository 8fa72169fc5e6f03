/- What draws trees: the walks of l2Bent and DrawTreeDo. What draws trees: the walks of DrawTreeGet, DrawTreeList, DrawTreeOk, DrawTreeSame, DrawOpOk. The walks of TreeSame and LayerSame. The walks of TreeList, of the program and of the reference. What the laws of trees share: shapes, TreeGet, TreeSame, TreeOk as the laws meet them. The walk of the law that lookups tell what is there: FnTreeGet. The walks of what marks memory and looks whether the marks still stand; lists of texts held against one another. The walks of what looks through lists of texts: wpIn, wpWords. The walk of the law that parents are there: FnTreeUps. Conditions: each theorem's own. -/
import Derived.Test.YtobbodbkdcbflaaDoorB5
import Derived.Test.YtobbodbkdcbflaaDoorB1
import Derived.Test.YtobbodbkdcbflaaDoorB3
import Derived.Deep.Onto
import Derived.Deep.QuietTactic
import Derived.BigQuiet
import Derived.Laws.OwnMore
import Derived.Test.YtobbodbkdcbflaaDoorB2
import Derived.Laws.BytesArg
namespace Go.Proofs.YtobbodbkdcbflaaDoor
open Go.RowKit
/-- One cell of a row of structs stored. -/
theorem flat_set {α : Type} {f : α → List Value} (hf : ∀ x, (f x).length = 3) {j : Nat} (hj : j < 3) {u : Value} {e' : α} : ∀ (xs : List α) (k : Nat) (e : α), xs[k]? = some e → f e' = (f e).set j u → (xs.flatMap f).set (k * 3 + j) u = (xs.set k e').flatMap f := by
  intro xs
  induction xs with
  | nil => intro k e he; simp at he
  | cons x r ih =>
    intro k e he hs
    cases k with
    | zero =>
      simp at he; subst he
      rw [List.flatMap_cons, List.set_cons_zero, List.flatMap_cons, Nat.zero_mul, Nat.zero_add, List.set_append_left _ _ (by rw [hf]; exact hj), hs]
    | succ k =>
      rw [List.flatMap_cons, List.set_cons_succ, List.flatMap_cons, List.set_append_right _ _ (by rw [hf]; omega), show (k + 1) * 3 + j - (f x).length = k * 3 + j by rw [hf]; omega]
      rw [ih k e (by simpa using he) hs]
/-- Entries with short texts, and paths of which F says yes. -/
def SmF (F : ByteArray → Bool) (xs : List En) : Prop := ∀ e ∈ xs, (e.p.size ≤ 20 ∧ e.x.size ≤ 20) ∧ F e.p = true
theorem SmF.small {F : ByteArray → Bool} {xs : List En} (h : SmF F xs) : Small xs := fun e he => (h e he).1
/-- What a bending leaves. -/
def BentPost (F : ByteArray → Bool) (w : World) (g p q N : Nat) (e : Ending) (w' : World) : Prop :=
  ∃ (a : Option Addr) (c : Nat) (xs : List En) (p' : Nat), e = .returned (.slice a xs.length c) ∧ DrawnT w' g a c xs ∧ SmF F xs ∧ xs.length ≤ N ∧ p' ≤ p + q ∧ Rd w' g p' ∧ Only g w w'
theorem small_set {F : ByteArray → Bool} {xs : List En} (h : SmF F xs) (k : Nat) (e : En) (he : (e.p.size ≤ 20 ∧ e.x.size ≤ 20) ∧ F e.p = true) : SmF F (xs.set k e) := fun x hx => by
  rcases List.mem_or_eq_of_mem_set hx with h1 | h1
  · exact h x h1
  · rw [h1]; exact he
theorem ret_len {a : Option Addr} {c n m : Nat} (h : m = n) : Ending.returned (.slice a n c) = .returned (.slice a m c) := by rw [h]
theorem cell_gr' {w w' : World} {own : Option Nat} {a : Addr} {v : Value} (hg : w.grownBy w' own) (h : w.cell? a = some v) (hne : own ≠ some a.block) : w'.cell? a = some v := by
  have hb := hg.block a.block (World.block_lt_of_cell? _ _ h) (Ne.symm hne)
  rw [← h]
  unfold World.cell?
  simp only [hb]
theorem own_only {w w' : World} {B g : Nat} {e : TypeId} {size : Nat} {v : Value} {n : Nat} {xs : List Value} (h : w.ownsRow B e size v n xs) (ho : Only g w w') (hg : g < B) : w'.ownsRow B e size v n xs := by
  refine h.kept ho ?_
  cases hb : v.ownBlock with
  | none => exact .inl rfl
  | some k => exact .inr fun e => by have := (h.lt k hb).1; injection e with e; omega
theorem only_grown {w w1 w2 : World} {g : Nat} {own : Option Nat} (h : Only g w w1) (hg : w1.grownBy w2 own) (ho : ∀ k, own = some k → w.heap.size ≤ k) : Only g w w2 :=
  ⟨hg.os.trans h.os, hg.tape.trans h.tape, hg.output.trans h.output, Nat.le_trans h.size hg.size, fun i hi hne => (hg.block i (Nat.lt_of_lt_of_le hi h.size) (fun e => by have := ho i e.symm; omega)).trans (h.block i hi hne)⟩
theorem Rd.grown {w w' : World} {g p : Nat} {own : Option Nat} (h : Rd w g p) (hg : w.grownBy w' own) (ho : ∀ k, own = some k → g < k) : Rd w' g p := by
  have hlt := h.lt
  obtain ⟨a, n, c, h1, h2, h3, h4⟩ := h
  refine ⟨a, n, c, (hg.block g hlt (fun e => by have := ho g e.symm; omega)).trans h1, h2, h3, fun hn => ?_⟩
  obtain ⟨b, off, e, hb, hc⟩ := h4 hn
  exact ⟨b, off, e, hb, fun k hk => by
    obtain ⟨x, h5, h6, h7⟩ := hc k hk
    exact ⟨x, h5, h6, cell_gr' hg h7 (fun e => by have := ho b e; omega)⟩⟩
theorem bent_own {w : World} {B : Nat} {v : Value} {n : Nat} {xs : List En} {ad : Addr} {cc : Nat} (hn : xs.length = n) (h : w.ownsRow B 41 3 v (0 + xs.length) ([] ++ xs.flatMap En.cells)) (hnil : v = .slice none 0 0 ↔ Value.slice (some ad) 0 cc = .slice none 0 0 ∧ xs.length = 0) :
    ∃ b c, v = .slice (some ⟨b, 0, none⟩) n c ∧ n ≤ c ∧ c ≤ maxLen ∧ w.ownsRow B 41 3 (.slice (some ⟨b, 0, none⟩) n c) n (xs.flatMap En.cells) := by
  rw [Nat.zero_add, List.nil_append, hn] at h
  have h0 := h
  rcases h.2 with ⟨h1, _⟩ | ⟨g, cap, cur, rfl, hg, hh, hnc, hm, h2, h3⟩
  · have := hnil.1 h1; simp at this
  · exact ⟨g, cap, rfl, hnc, hm, h0⟩
theorem drawn_own {w : World} {g B b c : Nat} {xs : List En} (h : w.ownsRow B 41 3 (.slice (some ⟨b, 0, none⟩) xs.length c) xs.length (xs.flatMap En.cells)) (hg : g < B) (hc : xs.length ≤ c) (hm : c ≤ maxLen) : DrawnT w g (some ⟨b, 0, none⟩) c xs :=
  ⟨b, 0, rfl, Nat.lt_of_lt_of_le hg (h.lt b rfl).1, (h.lt b rfl).2, own_slf (fun _ => rfl) h, hc, hm⟩
set_option maxRecDepth 100000 in
set_option maxHeartbeats 8000000 in
theorem l2Bent_c (F : ByteArray → Bool) (hF : ∀ s, goodT s = true → F s = true) (w : World) (g p : Nat) (hr : Rd w g p) (hp : p ≤ 900000) (a : Option Addr) (c : Nat) (xs : List En) (ht : DrawnT w g a c xs) (hz : SmF F xs) (hx : xs.length ≤ 1000) :
    Calls Tryd.prog 56 #[.pointer (some ⟨g, 0, none⟩), .slice a xs.length c] w (BentPost F w g p 4 (xs.length + 1)) := by
  have HE := eltEn
  have hg := hr.lt
  have HZ := Lib.hid hz
  have HR := Lib.hid hr
  have HB0 := bellow_alloc w (.cells #[] 41)
  have HRD := Lib.hid (ht.read.below HB0)
  obtain ⟨b0, off, rfl, _, hsl, _⟩ := HRD.out
  have hsl' := Lib.hid hsl
  have hown0 : Hid ((w.alloc (.cells #[] 41)).ownsRow w.heap.size 41 3 (.slice (some ⟨w.heap.size, 0, none⟩) 0 0) 0 []) := World.ownsRow_lit w #[] 0 (Nat.le_refl _) (Nat.zero_le _) rfl
  obtain ⟨n, hn⟩ : ∃ n, xs.length = n := ⟨_, rfl⟩
  have HN := Lib.hid hn
  rw [hn] at hx ⊢
  clear hsl ht hr hn hz
  by_cases hn0 : n = 0
  · subst hn0
    go_enter Tryd.func56, Tryd.ntmps56
    go_wp2_with (at_builtin; go_must (refine wp_appN (by rfl) _ _ 37 (by rfl) HE w.heap.size w.heap.size w _ _ 0 [] (by rfl) En.cells (fun _ => rfl) en_one xs b0 off 0 c HN.out (by rfl) hsl'.out hown0.out (by rw [HN.out]; omega) HB0.size HB0 (Nat.le_refl _) ?_); intro v2 w2 hown3 hbel3 hnil; obtain ⟨b, c5, rfl, hc5, hcm, how⟩ := bent_own HN.out hown3 hnil; clear hown3 hnil)
    have HRD2 := Lib.hid (HR.out.keep hbel3 hg)
    have HO2 : Hid (Only g w w2) := Only.of_below hbel3
    have hgb : w.heap.size ≤ b := (how.lt b rfl).1
    have HOW := Lib.hid how
    clear hbel3 how HB0 hsl' hown0 HRD
    go_ret
    exact ⟨some ⟨b, 0, none⟩, c5, xs, p, ret_len HN.out, drawn_own (B := w.heap.size) (by rw [HN.out]; exact HOW.out) hg (by rw [HN.out]; omega) hcm, HZ.out, by rw [HN.out]; omega, by omega, HRD2.out, HO2.out⟩
  have n0 : ((n : Int) == 0) = false := by rw [beq_eq_false_iff_ne]; omega
  go_enter Tryd.func56, Tryd.ntmps56
  go_wp2_with (at_builtin; go_must (refine wp_appN (by rfl) _ _ 37 (by rfl) HE w.heap.size w.heap.size w _ _ 0 [] (by rfl) En.cells (fun _ => rfl) en_one xs b0 off n c HN.out (by rfl) hsl'.out hown0.out (by rw [HN.out]; omega) HB0.size HB0 (Nat.le_refl _) ?_); intro v2 w2 hown3 hbel3 hnil; obtain ⟨b, c5, rfl, hc5, hcm, how⟩ := bent_own HN.out hown3 hnil; clear hown3 hnil)
  have HRD2 := Lib.hid (HR.out.keep hbel3 hg)
  have HO2 : Hid (Only g w w2) := Only.of_below hbel3
  have hgb : w.heap.size ≤ b := (how.lt b rfl).1
  have HOW := Lib.hid how
  clear hbel3 how HB0 hsl' hown0 HRD
  have HK := Lib.hid (pick_c w2 g p (n : Int) HRD2.out (by omega) (by omega) (by omega))
  clear HRD2
  refine HK.out.mono ?_; rintro e w3 ⟨k, rfl, _, hkn, hrd3, ho3⟩
  have hk : k < n := by have := hkn (by omega); omega
  have HOW3 := Lib.hid (own_only HOW.out ho3 hg)
  have HO3 := Lib.hid (HO2.out.trans ho3)
  have HK2 := Lib.hid (pick_c w3 g (p + 1) 50 hrd3 (by omega) (by omega) (by omega))
  clear hkn hrd3 ho3 HK HOW HO2
  go_wp2_with fail
  refine HK2.out.mono ?_; rintro e w4 ⟨m, rfl, _, _, hrd, ho4⟩
  have hown := own_only HOW3.out ho4 hg
  have HOX := Lib.hid (HO3.out.trans ho4)
  obtain ⟨⟨ep, ed, ex⟩, hee⟩ : ∃ e, xs[k]? = some e := ⟨_, List.getElem?_eq_getElem (by rw [HN.out]; exact hk)⟩
  have hes := HZ.out ⟨ep, ed, ex⟩ (List.mem_of_getElem? hee)
  have hsx : SlF En.cells w4 (some ⟨b, 0, none⟩) xs := own_slfN (fun _ => rfl) hown HN.out
  obtain ⟨d0, d1, d2⟩ := en_at hsx k ⟨ep, ed, ex⟩ hee
  have i0 : (0 : Int) ≤ (k : Int) := by omega
  have i1 : (k : Int) < (n : Int) := by omega
  rw [Nat.zero_add] at d0 d1 d2
  clear ho4 HK2 HOW3 HO3
  by_cases m0 : m = 0
  · subst m0
    have HRDX := Lib.hid hrd
    have HSM : Hid (SmF F (xs ++ [(⟨ep, ed, ex⟩ : En)])) := fun x hx => by
      rcases List.mem_append.1 hx with h | h
      · exact HZ.out x h
      · rw [List.mem_singleton.1 h]; exact hes
    clear hrd hsx hee
    go_wp2_with (at_builtin; go_must (refine wp_app1H (by rfl) _ _ 37 (by rfl) HE w.heap.size w.heap.size w4 _ #[.string ep, .bool ed, .string ex] _ _ _ (by rfl) w4.heap.size (by simp) (by rfl) hown (by rfl) (by simp [Value.oneCell']) (by omega) HOX.out.size (Below.refl _ _) (Nat.le_refl _) ?_); intro v' w5 hown1 _ _ hgr)
    have hown2 : w5.ownsRow w.heap.size 41 3 v' (xs ++ [(⟨ep, ed, ex⟩ : En)]).length ((xs ++ [(⟨ep, ed, ex⟩ : En)]).flatMap En.cells) := by
      rw [← flat_app, List.length_append, HN.out]; exact hown1
    obtain ⟨b9, c9, rfl, h91, h92, h93⟩ : OwnRe w5 w.heap.size v' (xs ++ [(⟨ep, ed, ex⟩ : En)]) := by
      refine ownRe_of hown2 (own_some hown1 (fun hv => ?_))
      have h2 := hown1
      rw [hv] at h2
      rcases h2.2 with ⟨_, h3⟩ | ⟨_, _, _, h3, _⟩
      · omega
      · cases h3
    have hbk : ∀ k, (Value.slice (some ⟨b, 0, none⟩) n c5).ownBlock = some k → w.heap.size ≤ k := fun k hk => by
      have : b = k := by simpa [Value.ownBlock] using hk
      omega
    have HO9 := Lib.hid (only_grown (HOX.out.alloc _) hgr hbk)
    have HR9 := Lib.hid ((HRDX.out.alloc _).grown hgr (fun k hk => Nat.lt_of_lt_of_le hg (hbk k hk)))
    clear hown1 hown2 hgr
    go_wp2
    go_ret
    exact ⟨_, c9, _, p + 1 + 1, rfl, drawn_own h93 hg h91 h92, HSM.out, by simp [HN.out], by omega, HR9.out, HO9.out⟩
  have n0' : ((m : Int) == 0) = false := by rw [beq_eq_false_iff_ne]; omega
  by_cases m1 : m = 1
  · subst m1
    have HNU := Lib.hid (fun (cs : Array Value) (n : Nat) (hn : Hid (cs.size = n)) h0 h1 hs => ofF_c goodT (w4.alloc (.cells cs 9)) g (p + 1 + 1) w4.heap.size n cs 9 (hrd.alloc _) (by omega) (heap_alloc_new w4 _) (by have := hrd.lt; omega) hn.out h0 h1 hs)
    have HEE := Lib.hid hee
    have HOWN := Lib.hid hown
    clear hrd hsx hee d0 d1 d2 hown
    go_wp2_with fail
    refine (HNU.out _ _ (by exact Lib.hid rfl) (by decide) (by decide) (by kernel_rfl)).mono ?_
    rintro e w5 ⟨s, p6, rfl, hs, hp6, hrd6, ho6⟩
    have hown5 := own_only (own_below HOWN.out (bellow_alloc w4 _)) ho6 hg
    have d0 := hown5.cellAt (k * 3) (by omega)
    obtain ⟨x0, hx0⟩ : ∃ u, (xs.flatMap En.cells)[k * 3]? = some u := ⟨_, List.getElem?_eq_getElem (by rw [flatMap_len (fun _ => rfl), HN.out]; omega)⟩
    rw [hx0] at d0
    have f0 := hown5.frozenAt (k * 3)
    have HST := Lib.hid (hown5.stored (k * 3 + 0) (.string s))
    rw [flat_set (fun _ => rfl) (by decide : 0 < 3) xs k ⟨ep, ed, ex⟩ HEE.out (e' := (⟨s, ed, ex⟩ : En)) rfl] at HST
    have HSM := Lib.hid (small_set HZ.out k (⟨s, ed, ex⟩ : En) ⟨⟨goodT_size hs, hes.1.2⟩, hF s hs⟩)
    have HRD6 := Lib.hid (hrd6.set ⟨b, k * 3 + 0, none⟩ (.string s) (by show g < b; omega))
    have HO6 := Lib.hid (((HOX.out.alloc _).trans ho6).setCell (p := ⟨b, k * 3 + 0, none⟩) (.inr (by show w.heap.size ≤ b; omega)) (.string s))
    clear hown5 hx0 hrd6 ho6 HNU
    go_wp2
    go_ret
    exact ⟨some ⟨b, 0, none⟩, c5, xs.set k (⟨s, ed, ex⟩ : En), p6, ret_len (by rw [List.length_set, HN.out]), drawn_own (B := w.heap.size) (by rw [List.length_set, HN.out]; exact HST.out.1) hg (by rw [List.length_set, HN.out]; exact hc5) hcm, HSM.out, by rw [List.length_set, HN.out]; omega, by omega, HRD6.out, HO6.out⟩
  have n1' : ((m : Int) == 1) = false := by rw [beq_eq_false_iff_ne]; omega
  by_cases m2 : m = 2
  · subst m2
    have HEE := Lib.hid hee
    have hown5 := hown
    have f0 := hown5.frozenAt (k * 3 + 1)
    have hrd6 := hrd
    have ho6 := Only.refl g w4
    have p6 := p + 1 + 1
    have HOX6 := Lib.hid HOX.out
    have HST := Lib.hid (hown.stored (k * 3 + 1) (.bool !ed))
    rw [flat_set (fun _ => rfl) (by decide : 1 < 3) xs k ⟨ep, ed, ex⟩ HEE.out (e' := (⟨ep, !ed, ex⟩ : En)) rfl] at HST
    have HSM := Lib.hid (small_set HZ.out k (⟨ep, !ed, ex⟩ : En) hes)
    have HRD6 := Lib.hid (hrd.set ⟨b, k * 3 + 1, none⟩ (.bool !ed) (by show g < b; omega))
    have HO6 := Lib.hid (HOX.out.setCell (p := ⟨b, k * 3 + 1, none⟩) (.inr (by show w.heap.size ≤ b; omega)) (.bool !ed))
    clear hown5 hown hsx hrd6 ho6 hrd HOX6 p6 hee
    go_wp2
    go_ret
    exact ⟨some ⟨b, 0, none⟩, c5, xs.set k (⟨ep, !ed, ex⟩ : En), p + 1 + 1, ret_len (by rw [List.length_set, HN.out]), drawn_own (B := w.heap.size) (by rw [List.length_set, HN.out]; exact HST.out.1) hg (by rw [List.length_set, HN.out]; exact hc5) hcm, HSM.out, by rw [List.length_set, HN.out]; omega, by omega, HRD6.out, HO6.out⟩
  have n2' : ((m : Int) == 2) = false := by rw [beq_eq_false_iff_ne]; omega
  by_cases m3 : m = 3
  · subst m3
    have HNU := Lib.hid (fun (cs : Array Value) (n : Nat) (hn : Hid (cs.size = n)) h0 h1 hs => of_c (w4.alloc (.cells cs 9)) g (p + 1 + 1) w4.heap.size n cs 9 (hrd.alloc _) (by omega) (heap_alloc_new w4 _) (by have := hrd.lt; omega) hn.out h0 h1 hs)
    have HEE := Lib.hid hee
    have HOWN := Lib.hid hown
    clear hrd hsx hee d0 d1 d2 hown
    go_wp2_with fail
    refine (HNU.out _ _ (by exact Lib.hid rfl) (by decide) (by decide) (by rfl)).mono ?_
    rintro e w5 ⟨s, p6, rfl, hs, hp6, hrd6, ho6⟩
    have hown5 := own_only (own_below HOWN.out (bellow_alloc w4 _)) ho6 hg
    have d0 := hown5.cellAt (k * 3 + 2) (by omega)
    obtain ⟨x0, hx0⟩ : ∃ u, (xs.flatMap En.cells)[k * 3 + 2]? = some u := ⟨_, List.getElem?_eq_getElem (by rw [flatMap_len (fun _ => rfl), HN.out]; omega)⟩
    rw [hx0] at d0
    have f0 := hown5.frozenAt (k * 3 + 2)
    have HST := Lib.hid (hown5.stored (k * 3 + 2) (.string s))
    rw [flat_set (fun _ => rfl) (by decide : 2 < 3) xs k ⟨ep, ed, ex⟩ HEE.out (e' := (⟨ep, ed, s⟩ : En)) rfl] at HST
    have HSM := Lib.hid (small_set HZ.out k (⟨ep, ed, s⟩ : En) ⟨⟨hes.1.1, hs⟩, hes.2⟩)
    have HRD6 := Lib.hid (hrd6.set ⟨b, k * 3 + 2, none⟩ (.string s) (by show g < b; omega))
    have HO6 := Lib.hid (((HOX.out.alloc _).trans ho6).setCell (p := ⟨b, k * 3 + 2, none⟩) (.inr (by show w.heap.size ≤ b; omega)) (.string s))
    clear hown5 hx0 hrd6 ho6 HNU
    go_wp2
    go_ret
    exact ⟨some ⟨b, 0, none⟩, c5, xs.set k (⟨ep, ed, s⟩ : En), p6, ret_len (by rw [List.length_set, HN.out]), drawn_own (B := w.heap.size) (by rw [List.length_set, HN.out]; exact HST.out.1) hg (by rw [List.length_set, HN.out]; exact hc5) hcm, HSM.out, by rw [List.length_set, HN.out]; omega, by omega, HRD6.out, HO6.out⟩
  have n3' : ((m : Int) == 3) = false := by rw [beq_eq_false_iff_ne]; omega
  have HRDX := Lib.hid hrd
  have HOWN := Lib.hid hown
  have HSX := Lib.hid hsx
  clear hrd hown hsx hee d0 d1 d2
  by_cases m4 : m = 4
  · subst m4
    have i2 : (1 : Int) ≤ (n : Int) := by omega
    have i3 : (1 : Int) ≤ (c5 : Int) := by omega
    have HDR := Lib.hid (HSX.out.drop 1)
    have hlt : b < w4.heap.size := (HOWN.out.lt b rfl).2
    by_cases hc1 : c5 = 1
    · subst hc1
      obtain rfl : n = 1 := by omega
      have HFIN : Hid (BentPost F w g p 4 (1 + 1) (.returned (.slice (some ⟨b, 0, none⟩) 0 0)) w4) := ⟨some ⟨b, 0, none⟩, 0, [], p + 1 + 1, rfl, ⟨b, 0, rfl, by omega, hlt, fun h => absurd h (by simp), Nat.zero_le _, Nat.zero_le _⟩, fun x hx => by simp at hx, by simp, by omega, HRDX.out, HOX.out⟩
      go_wp2
      all_goals first | (exfalso; omega) | skip
      all_goals go_ret
      all_goals exact HFIN.out
    · have HFIN : Hid (BentPost F w g p 4 (n + 1) (.returned (.slice (some ⟨b, 3, none⟩) (n - 1) (c5 - 1))) w4) := ⟨some ⟨b, 3, none⟩, c5 - 1, xs.drop 1, p + 1 + 1, ret_len (by rw [List.length_drop, HN.out]), ⟨b, 3, rfl, by omega, hlt, by simpa using HDR.out, by rw [List.length_drop, HN.out]; omega, by omega⟩, fun x hx => HZ.out x (List.mem_of_mem_drop hx), by rw [List.length_drop, HN.out]; omega, by omega, HRDX.out, HOX.out⟩
      go_wp2
      all_goals first | (exfalso; omega) | skip
      all_goals go_ret
      all_goals exact HFIN.out
  · have n4' : ((m : Int) == 4) = false := by rw [beq_eq_false_iff_ne]; omega
    go_wp2
    go_ret
    exact ⟨some ⟨b, 0, none⟩, c5, xs, p + 1 + 1, ret_len HN.out, drawn_own (B := w.heap.size) (by rw [HN.out]; exact HOWN.out) hg (by rw [HN.out]; exact hc5) hcm, HZ.out, by rw [HN.out]; omega, by omega, HRDX.out, HOX.out⟩
/-- A short text. -/
def le20 (s : ByteArray) : Bool := decide (s.size ≤ 20)
theorem le20_good (s : ByteArray) (h : goodT s = true) : le20 s = true := by unfold le20; rw [decide_eq_true_eq]; exact goodT_size h
theorem le20_of {s : ByteArray} (h : le20 s = true) : s.size ≤ 20 := by unfold le20 at h; rwa [decide_eq_true_eq] at h
theorem small_le {xs : List En} (h : Small xs) : SmF le20 xs := fun e he => ⟨h e he, by unfold le20; rw [decide_eq_true_eq]; exact (h e he).1⟩
/-- A short text that is not zz in the root. -/
def nzz (s : ByteArray) : Bool := le20 s && (s.data.toList != [47, 122, 122])
theorem nzz_good (s : ByteArray) (h : goodT s = true) : nzz s = true := by
  unfold nzz
  rw [Bool.and_eq_true, bne_iff_ne]
  refine ⟨le20_good s h, fun hq => ?_⟩
  have h1 := (good_low.1 h).2
  rw [hq] at h1; cases h1
theorem small_nzz {xs : List En} (h : Small xs) (hz : ZL (xs.map En.pl)) : SmF nzz xs := fun e he => ⟨h e he, by
  unfold nzz
  rw [Bool.and_eq_true, bne_iff_ne]
  exact ⟨(small_le h e he).2, hz e.pl (List.mem_map_of_mem he)⟩⟩
theorem nzz_zl {xs : List En} (h : SmF nzz xs) : ZL (xs.map En.pl) := fun e he => by
  obtain ⟨f, hf, rfl⟩ := List.mem_map.1 he
  have h1 := (h f hf).2
  unfold nzz at h1
  rw [Bool.and_eq_true, bne_iff_ne] at h1
  exact h1.2
end Go.Proofs.YtobbodbkdcbflaaDoor
namespace Go.Proofs.YtobbodbkdcbflaaDoor
open Go.RowKit
/-- A tree and a text, drawn. -/
def TreeTextPost (w : World) (e : Ending) (w' : World) : Prop :=
  ∃ (a : Option Addr) (c : Nat) (xs : List En) (s : ByteArray), e = .returned (.tuple #[.slice a xs.length c, .string s]) ∧ ReadEn w' a c xs ∧ Small xs ∧ xs.length ≤ 20 ∧ s.size ≤ 20 ∧ Below w.heap.size w w'
set_option maxRecDepth 100000 in
set_option maxHeartbeats 4000000 in
theorem drawTreeGet_c (w : World) (a : Option Addr) (n c : Nat) (h : Code w a n c) : Calls Tryd.prog 19 #[.slice a n c] w (TreeTextPost w) := by
  obtain ⟨rb, hrb⟩ : ∃ rb, w.heap.size = rb := ⟨_, rfl⟩
  have ho0 := open_c' w a n c h
  rw [hrb] at ho0
  have HO := Lib.hid ho0
  clear h ho0
  go_enter Tryd.func19, Tryd.ntmps19
  go_wp2_with fail
  refine HO.out.mono ?_; rintro e w1 ⟨rfl, hrd, hb⟩
  have HB1 := Lib.hid (hb.mono (by rw [hrb]; exact Nat.le_refl _) : Below w.heap.size w w1)
  have HT := Lib.hid (l2Tree_c w1 rb 0 hrd (by omega))
  clear hrd hb HO
  go_wp2_with fail
  refine HT.out.mono ?_; rintro e w2 ⟨a2, c2, ts, p2, rfl, hd2, htok, hzl, hp2, hrd2, ho2⟩
  have hts : ts.length ≤ 16 := by have := htok.most; rw [List.length_map] at this; exact this
  have HBT := Lib.hid (l2Bent_c le20 le20_good w2 rb p2 hrd2 (by omega) a2 c2 ts hd2 (small_le (tok_small htok)) (by omega))
  have HO2 := Lib.hid ho2
  clear hd2 htok hrd2 ho2 HT
  obtain ⟨n2, hn2⟩ : ∃ n, ts.length = n := ⟨_, rfl⟩
  rw [hn2] at HBT hts ⊢
  clear hn2
  go_wp2_with fail
  refine HBT.out.mono ?_; rintro e w3 ⟨a3, c3, us, p3, rfl, hd3, hsm0, hus, hp3, hrd3, ho3⟩
  have hsm := hsm0.small
  have HL := Lib.hid (l1Text_c w3 rb p3 hrd3 (by omega))
  have HO3 := Lib.hid (HO2.out.trans ho3)
  have HD3 := Lib.hid hd3
  clear hd3 hrd3 ho3 HBT HO2
  obtain ⟨n3, hn3⟩ : ∃ n, us.length = n := ⟨_, rfl⟩
  have HN3 := Lib.hid hn3
  rw [hn3] at hus ⊢
  clear hn3
  go_wp2_with fail
  refine HL.out.mono ?_; rintro e w4 ⟨s, p4, rfl, hs, _, _, ho4⟩
  have HB4 := Lib.hid ((HO3.out.trans ho4).below HB1.out (by omega) HB1.out.size)
  have HR4 := Lib.hid (HD3.out.only ho4).read
  clear ho4 HL
  go_wp2
  go_ret2
  exact ⟨a3, c3, us, s, by rw [HN3.out]; rfl, HR4.out, hsm, by rw [HN3.out]; omega, hs, HB4.out⟩
set_option maxRecDepth 100000 in
theorem drawTreeList_c (w : World) (a : Option Addr) (n c : Nat) (h : Code w a n c) : Calls Tryd.prog 35 #[.slice a n c] w (TreeTextPost w) := by
  have HD := Lib.hid (drawTreeGet_c w a n c h)
  clear h
  go_enter Tryd.func35, Tryd.ntmps35
  go_wp2_with fail
  refine HD.out.mono ?_; rintro e w1 ⟨a1, c1, xs, s, rfl, hrest⟩
  go_wp2
  go_ret2
  exact ⟨a1, c1, xs, s, rfl, hrest⟩
/-- A tree, drawn. -/
def OneTreePost (w : World) (e : Ending) (w' : World) : Prop :=
  ∃ (a : Option Addr) (c : Nat) (xs : List En), e = .returned (.slice a xs.length c) ∧ ReadEn w' a c xs ∧ Small xs ∧ xs.length ≤ 25 ∧ ZL (xs.map En.pl) ∧ Below w.heap.size w w'
/-- Two trees, drawn; the first is right. -/
def TwoTreePost (w : World) (e : Ending) (w' : World) : Prop :=
  ∃ (a : Option Addr) (c : Nat) (xs : List En) (a' : Option Addr) (c' : Nat) (ys : List En), e = .returned (.tuple #[.slice a xs.length c, .slice a' ys.length c']) ∧ ReadEn w' a c xs ∧ Small xs ∧ xs.length ≤ 25 ∧ ReadEn w' a' c' ys ∧ Small ys ∧ ys.length ≤ 25 ∧ Below w.heap.size w w'
set_option maxRecDepth 100000 in
set_option maxHeartbeats 4000000 in
theorem drawTreeOk_c (w : World) (a : Option Addr) (n c : Nat) (h : Code w a n c) : Calls Tryd.prog 24 #[.slice a n c] w (OneTreePost w) := by
  obtain ⟨rb, hrb⟩ : ∃ rb, w.heap.size = rb := ⟨_, rfl⟩
  have ho0 := open_c' w a n c h
  rw [hrb] at ho0
  have HO := Lib.hid ho0
  clear h ho0
  go_enter Tryd.func24, Tryd.ntmps24
  go_wp2_with fail
  refine HO.out.mono ?_; rintro e w1 ⟨rfl, hrd, hb⟩
  have HB1 := Lib.hid (hb.mono (by rw [hrb]; exact Nat.le_refl _) : Below w.heap.size w w1)
  have HT := Lib.hid (l2Tree_c w1 rb 0 hrd (by omega))
  clear hrd hb HO
  go_wp2_with fail
  refine HT.out.mono ?_; rintro e w2 ⟨a2, c2, ts, p2, rfl, hd2, htok, hzl, hp2, hrd2, ho2⟩
  have hts : ts.length ≤ 16 := by have := htok.most; rw [List.length_map] at this; exact this
  have hsa := small_nzz (tok_small htok) hzl
  have HBT := Lib.hid (l2Bent_c nzz nzz_good w2 rb p2 hrd2 (by omega) a2 c2 ts hd2 hsa (by omega))
  clear hd2 hrd2
  obtain ⟨m2, hn2⟩ : ∃ n, ts.length = n := ⟨_, rfl⟩
  have HLB2 := Lib.hid hn2
  rw [hn2] at HBT ⊢
  clear hn2
  go_wp2_with fail
  refine HBT.out.mono ?_; rintro e w3 ⟨a3, c3, us, p3, rfl, hd3, hs3, hl3, hp3, hrd3, ho3⟩
  have hm2 := HLB2.out
  clear HBT
  have HBT := Lib.hid (l2Bent_c nzz nzz_good w3 rb p3 hrd3 (by omega) a3 c3 us hd3 hs3 (by omega))
  clear hd3 hrd3
  obtain ⟨m3, hn2⟩ : ∃ n, us.length = n := ⟨_, rfl⟩
  have HLB3 := Lib.hid hn2
  rw [hn2] at HBT ⊢
  clear hn2
  go_wp2_with fail
  refine HBT.out.mono ?_; rintro e w4 ⟨a4, c4, vs, p4, rfl, hd4, hs4, hl4, hp4, hrd4, ho4⟩
  have hm3 := HLB3.out
  clear HBT
  have HB4 := Lib.hid (((ho2.trans ho3).trans ho4).below HB1.out (by omega) HB1.out.size)
  have HR4 := Lib.hid hd4.read
  clear ho2 ho3 ho4 hd4 hrd4 HT
  obtain ⟨m4, hn4⟩ : ∃ n, vs.length = n := ⟨_, rfl⟩
  have HN4 := Lib.hid hn4
  rw [hn4] at hl4 ⊢
  clear hn4
  go_wp2
  go_ret
  exact ⟨a4, c4, vs, by rw [HN4.out]; rfl, HR4.out, hs4.small, by rw [HN4.out]; omega, nzz_zl hs4, HB4.out⟩
set_option maxRecDepth 100000 in
set_option maxHeartbeats 4000000 in
theorem drawTreeSame_c (w : World) (a : Option Addr) (n c : Nat) (h : Code w a n c) : Calls Tryd.prog 23 #[.slice a n c] w (TwoTreePost w) := by
  obtain ⟨rb, hrb⟩ : ∃ rb, w.heap.size = rb := ⟨_, rfl⟩
  have ho0 := open_c' w a n c h
  rw [hrb] at ho0
  have HO := Lib.hid ho0
  clear h ho0
  go_enter Tryd.func23, Tryd.ntmps23
  go_wp2_with fail
  refine HO.out.mono ?_; rintro e w1 ⟨rfl, hrd, hb⟩
  have HB1 := Lib.hid (hb.mono (by rw [hrb]; exact Nat.le_refl _) : Below w.heap.size w w1)
  have HT := Lib.hid (l2Tree_c w1 rb 0 hrd (by omega))
  clear hrd hb HO
  go_wp2_with fail
  refine HT.out.mono ?_; rintro e w2 ⟨a2, c2, ts, p2, rfl, hd2, htok, hzl, hp2, hrd2, ho2⟩
  have hts : ts.length ≤ 16 := by have := htok.most; rw [List.length_map] at this; exact this
  have hsa := small_le (tok_small htok)
  have HDT := Lib.hid hd2
  have HBT := Lib.hid (l2Bent_c le20 le20_good w2 rb p2 hrd2 (by omega) a2 c2 ts hd2 hsa (by omega))
  clear hd2 hrd2
  obtain ⟨m2, hn2⟩ : ∃ n, ts.length = n := ⟨_, rfl⟩
  have HLB2 := Lib.hid hn2
  rw [hn2] at HBT ⊢
  clear hn2
  go_wp2_with fail
  refine HBT.out.mono ?_; rintro e w3 ⟨a3, c3, us, p3, rfl, hd3, hs3, hl3, hp3, hrd3, ho3⟩
  have hm2 := HLB2.out
  clear HBT
  have HBT := Lib.hid (l2Bent_c le20 le20_good w3 rb p3 hrd3 (by omega) a3 c3 us hd3 hs3 (by omega))
  clear hd3 hrd3
  obtain ⟨m3, hn2⟩ : ∃ n, us.length = n := ⟨_, rfl⟩
  have HLB3 := Lib.hid hn2
  rw [hn2] at HBT ⊢
  clear hn2
  go_wp2_with fail
  refine HBT.out.mono ?_; rintro e w4 ⟨a4, c4, vs, p4, rfl, hd4, hs4, hl4, hp4, hrd4, ho4⟩
  have hm3 := HLB3.out
  clear HBT
  have HBT := Lib.hid (l2Bent_c le20 le20_good w4 rb p4 hrd4 (by omega) a4 c4 vs hd4 hs4 (by omega))
  clear hd4 hrd4
  obtain ⟨m4, hn2⟩ : ∃ n, vs.length = n := ⟨_, rfl⟩
  have HLB4 := Lib.hid hn2
  rw [hn2] at HBT ⊢
  clear hn2
  go_wp2_with fail
  refine HBT.out.mono ?_; rintro e w5 ⟨a5, c5, ys, p5, rfl, hd5, hs5, hl5, hp5, hrd5, ho5⟩
  have hm4 := HLB4.out
  clear HBT
  have HBT := Lib.hid (l2Bent_c le20 le20_good w5 rb p5 hrd5 (by omega) a5 c5 ys hd5 hs5 (by omega))
  clear hd5 hrd5
  obtain ⟨m5, hn2⟩ : ∃ n, ys.length = n := ⟨_, rfl⟩
  have HLB5 := Lib.hid hn2
  rw [hn2] at HBT ⊢
  clear hn2
  go_wp2_with fail
  refine HBT.out.mono ?_; rintro e w6 ⟨a6, c6, zs, p6, rfl, hd6, hs6, hl6, hp6, hrd6, ho6⟩
  have hm5 := HLB5.out
  clear HBT
  have HO6 := ((ho3.trans ho4).trans ho5).trans ho6
  have HB6 := Lib.hid ((ho2.trans HO6).below HB1.out (by omega) HB1.out.size)
  have HR2 := Lib.hid (HDT.out.only HO6).read
  have HR6 := Lib.hid hd6.read
  clear ho2 ho3 ho4 ho5 ho6 HO6 hd6 hrd6 HT
  obtain ⟨m6, hn6⟩ : ∃ n, zs.length = n := ⟨_, rfl⟩
  have HN6 := Lib.hid hn6
  rw [hn6] at hl6 ⊢
  clear hn6
  go_wp2
  go_ret2
  exact ⟨a2, c2, ts, a6, c6, zs, by rw [HN6.out, HLB2.out]; rfl, HR2.out, hsa.small, by rw [HLB2.out]; omega, HR6.out, hs6.small, by rw [HN6.out]; omega, HB6.out⟩
/-- What is done, drawn. -/
def OneOpPost (w : World) (e : Ending) (w' : World) : Prop :=
  ∃ (k : Int) (P T D : ByteArray), e = .returned (opV k P T D) ∧ P.size ≤ 20 ∧ T.size ≤ 20 ∧ D.size ≤ 20 ∧ Below w.heap.size w w'
set_option maxRecDepth 100000 in
set_option maxHeartbeats 4000000 in
theorem drawOpOk_c (w : World) (a : Option Addr) (n c : Nat) (h : Code w a n c) : Calls Tryd.prog 25 #[.slice a n c] w (OneOpPost w) := by
  obtain ⟨rb, hrb⟩ : ∃ rb, w.heap.size = rb := ⟨_, rfl⟩
  have hb0 := bellow_alloc w (.cells #[.int .i64 0, .string ⟨#[]⟩, .string ⟨#[]⟩, .string ⟨#[]⟩] 49)
  have hs0 : (w.alloc (.cells #[.int .i64 0, .string ⟨#[]⟩, .string ⟨#[]⟩, .string ⟨#[]⟩] 49)).heap.size = rb + 1 := by rw [← hrb]; simp
  have HBX : Hid (Box4 (w.alloc (.cells #[.int .i64 0, .string ⟨#[]⟩, .string ⟨#[]⟩, .string ⟨#[]⟩] 49)) rb (.int .i64 0) (.string ⟨#[]⟩) (.string ⟨#[]⟩) (.string ⟨#[]⟩)) := by rw [Hid, ← hrb]; exact Box4.new w _ _ _ _ _
  have ho0 := open_c' _ a n c (h.below hb0)
  rw [hs0] at ho0
  have HO := Lib.hid ho0
  have HB0 := Lib.hid hb0
  have HSZ := Lib.hid hs0
  clear h hs0 hb0 ho0
  go_enter Tryd.func25, Tryd.ntmps25
  go_wp2_with fail
  refine HO.out.mono ?_; rintro e w1 ⟨rfl, hrd, hb⟩
  have HX1 := Lib.hid ((HBX.out.only (Only.of_below (by rw [HSZ.out]; exact hb) : Only (rb + 1) _ w1) (by omega)).alloc (.cells #[] 41))
  have HB1 := Lib.hid (HB0.out.trans (hb.mono (by rw [hrb]; omega)))
  have hlt := hrd.lt
  have hd0 : DrawnT (w1.alloc (.cells #[] 41)) (rb + 1) (some ⟨w1.heap.size, 0, none⟩) 0 [] := ⟨w1.heap.size, 0, rfl, hlt, by simp, fun h => absurd h (by simp), Nat.zero_le _, Nat.zero_le _⟩
  have HL := Lib.hid (l2Op_c le20 le20_good (w1.alloc (.cells #[] 41)) (rb + 1) 0 (hrd.alloc _) (by omega) (some ⟨w1.heap.size, 0, none⟩) 0 [] hd0 (fun _ h => by cases h) (by decide))
  have HO1 := Lib.hid ((Only.refl (rb + 1) w1).alloc (.cells #[] 41))
  clear hrd hb HO HBX HB0 hd0 hlt
  go_wp2_with fail
  refine HL.out.mono ?_; rintro e w4 ⟨k, P, T, D, p4, rfl, hP0, hT, hD, _, _, ho4⟩
  have hP := le20_of hP0
  replace hT := goodT_size hT
  have HO4 := HO1.out.trans ho4
  have HX4 := Lib.hid (HX1.out.only ho4 (by omega))
  have hb4 : Below w.heap.size w w4 := HO4.below HB1.out (by omega) HB1.out.size
  have HB8 := Lib.hid ((((hb4.setCell (p := ⟨rb, 0, none⟩) (Nat.le_of_eq hrb) (.int .i64 k)).setCell (p := ⟨rb, 1, none⟩) (Nat.le_of_eq hrb) (.string P)).setCell (p := ⟨rb, 2, none⟩) (Nat.le_of_eq hrb) (.string T)).setCell (p := ⟨rb, 3, none⟩) (Nat.le_of_eq hrb) (.string D))
  have hR8 := Lib.hid ((((HX4.out.set0 (.int .i64 k)).set1 (.string P)).set2 (.string T)).set3 (.string D))
  obtain ⟨r0, r1, r2, r3, rf⟩ := HX4.out
  have rf0 := rf 0
  have rf1 := rf 1
  have rf2 := rf 2
  have rf3 := rf 3
  clear rf ho4 HO4 hb4 HL
  go_wp2
  obtain ⟨q0, q1, q2, q3, _⟩ := hR8.out
  refine bodyPost_ret (v := opV k P T D) (by simp [results, Tryd.results25, go_sem, q0, q1, q2, q3]) rfl ⟨k, P, T, D, rfl, hP, hT, hD, HB8.out⟩
end Go.Proofs.YtobbodbkdcbflaaDoor
namespace Go.Proofs.YtobbodbkdcbflaaDoor
open Go.RowKit
set_option maxHeartbeats 1000000 in
theorem sTreeSame_c (a a' : Option Addr) (c c' : Nat) (xs ys : List En) (r : Bool) (hr : Hid (r = true ↔ xs = ys)) (w : World) (hs : SlF En.cells w a xs) (hs' : SlF En.cells w a' ys) (hx : xs.length ≤ maxLen) (_hy : ys.length ≤ maxLen) :
    Calls Tryd.prog 27 #[.slice a xs.length c, .slice a' ys.length c'] w fun q w' => q = .returned (.bool r) ∧ ∃ m, w' = w.drewN m := by
  unfold maxLen at hx _hy
  by_cases hl : xs.length = ys.length
  · obtain ⟨n, hn⟩ : ∃ n, xs.length = n := ⟨_, rfl⟩
    have hn' : ys.length = n := by rw [← hl, hn]
    rw [hn] at hx ⊢
    rw [hn']
    have HN := Lib.hid hn
    have HN' := Lib.hid hn'
    have HS := Lib.hid hs
    have HS' := Lib.hid hs'
    have HE := Lib.hid (fun (h : ∀ (k : Nat) (x y : En), xs[k]? = some x → ys[k]? = some y → x = y) => differ hl h)
    clear hl hn hn' hs hs' _hy
    go_enter Tryd.func27, Tryd.ntmps27
    go_wp2
    go_loopw [5] (fun i wr => ∃ k : Nat, k ≤ n ∧ i = .int .i64 k ∧ (∀ (j : Nat) (x y : En), j < k → xs[j]? = some x → ys[j]? = some y → x = y) ∧ ∃ m, wr = w.drewN m) (fun i _ => n - (intOf i).toNat)
    case atStart => exact ⟨0, Nat.zero_le _, rfl, fun j _ _ h => absurd h (by omega), 0, rfl⟩
    case round =>
      obtain ⟨k, hk, rfl, hall, m, rfl⟩ := hrel
      have HA := Lib.hid hall
      clear hall
      by_cases hlt : k < n
      · obtain ⟨e, hee⟩ : ∃ e, xs[k]? = some e := ⟨_, List.getElem?_eq_getElem (by rw [HN.out]; exact hlt)⟩
        obtain ⟨f, hff⟩ : ∃ e, ys[k]? = some e := ⟨_, List.getElem?_eq_getElem (by rw [HN'.out]; exact hlt)⟩
        have h2 := HS.out
        have h3 := HS'.out
        obtain ⟨b, off, rfl, _⟩ := h2.addr (by rw [HN.out]; omega)
        obtain ⟨b', off', rfl, _⟩ := h3.addr (by rw [HN'.out]; omega)
        obtain ⟨c0, c1, c2⟩ := en_at h2 k e hee
        obtain ⟨d0, d1, d2⟩ := en_at h3 k f hff
        have HEE := Lib.hid hee
        have HFF := Lib.hid hff
        have i0 : (0 : Int) ≤ (k : Int) := by omega
        have i1 : (k : Int) < (n : Int) := by omega
        clear h2 h3 hee hff
        by_cases hef : e = f
        · subst hef
          go_wp2_with fail
          go_quiet (fail)
          go_wp2
          go_roundw
          case rel => exact ⟨k + 1, by omega, by go_num, fun j x y hj h1 h2 => by
            by_cases ej : j = k
            · subst ej
              rw [HEE.out] at h1
              rw [HFF.out] at h2
              injection h1 with h1; injection h2 with h2
              rw [← h1, ← h2]
            · exact HA.out j x y (by omega) h1 h2, _, rfl⟩
          case measure => simp [intOf]; omega
        · obtain rfl : r = false := by
            cases r
            · rfl
            · have := hr.out.1 rfl
              rw [this, HFF.out] at HEE
              exact absurd (Option.some.inj HEE.out).symm hef
          obtain ⟨p, d, x⟩ := e
          obtain ⟨p', d', x'⟩ := f
          simp only at c0 c1 c2 d0 d1 d2
          by_cases h1 : p = p'
          · subst h1
            by_cases h2 : d = d'
            · subst h2
              have q := bq_no (s := x) (t := x') (fun h => hef (by rw [h]))
              clear hef HEE HFF
              go_wp2_with fail
              go_quiet (fail)
              go_wp2
              go_ret
              exact ⟨rfl, _, World.drewN_drewN _ _ _⟩
            · have q : (d == d') = false := by rw [beq_eq_false_iff_ne]; exact h2
              clear hef HEE HFF h2
              go_wp2_with fail
              go_quiet (fail)
              go_wp2
              go_ret
              exact ⟨rfl, _, World.drewN_drewN _ _ _⟩
          · have q := bq_no h1
            clear hef HEE HFF h1
            go_wp2_with fail
            go_quiet (fail)
            go_wp2
            go_ret
            exact ⟨rfl, _, World.drewN_drewN _ _ _⟩
      · obtain rfl : r = true := hr.out.2 (HE.out (fun j x y h1 h2 => HA.out j x y (by
          have := (List.getElem?_eq_some_iff.1 h1).1
          rw [HN.out] at this; omega) h1 h2))
        go_wp2
        go_ret
        exact ⟨rfl, _, rfl⟩
  · obtain rfl : r = false := by
      cases r
      · rfl
      · exact absurd (congrArg List.length (hr.out.1 rfl)) hl
    obtain ⟨n, hn⟩ : ∃ n, xs.length = n := ⟨_, rfl⟩
    obtain ⟨n', hn'⟩ : ∃ n, ys.length = n := ⟨_, rfl⟩
    rw [hn, hn'] at hl
    rw [hn] at hx ⊢
    rw [hn'] at _hy ⊢
    have q : ((n : Int) != (n' : Int)) = true := by rw [bne_iff_ne]; omega
    clear hr hs hs' hn hn' hl
    go_enter Tryd.func27, Tryd.ntmps27
    go_wp2
    go_ret
    exact ⟨rfl, 0, rfl⟩
set_option maxHeartbeats 1000000 in
theorem equalEnt_c (a a' : Option Addr) (c c' : Nat) (xs ys : List En) (r : Bool) (hr : Hid (r = true ↔ xs = ys)) (w : World) (hs : SlF En.cells w a xs) (hs' : SlF En.cells w a' ys) (hx : xs.length ≤ maxLen) (_hy : ys.length ≤ maxLen) :
    Calls Tryd.prog 63 #[.slice a xs.length c, .slice a' ys.length c'] w fun q w' => q = .returned (.bool r) ∧ ∃ m, w' = w.drewN m := by
  unfold maxLen at hx _hy
  by_cases hl : xs.length = ys.length
  · obtain ⟨n, hn⟩ : ∃ n, xs.length = n := ⟨_, rfl⟩
    have hn' : ys.length = n := by rw [← hl, hn]
    rw [hn] at hx ⊢
    rw [hn']
    have HN := Lib.hid hn
    have HN' := Lib.hid hn'
    have HS := Lib.hid hs
    have HS' := Lib.hid hs'
    have HE := Lib.hid (fun (h : ∀ (k : Nat) (x y : En), xs[k]? = some x → ys[k]? = some y → x = y) => differ hl h)
    clear hl hn hn' hs hs' _hy
    go_enter Tryd.func63, Tryd.ntmps63
    go_wp2
    go_loopw [5, 13] (fun _ i wr => ∃ k : Nat, k ≤ n ∧ i = .int .i64 k ∧ (∀ (j : Nat) (x y : En), j < k → xs[j]? = some x → ys[j]? = some y → x = y) ∧ ∃ m, wr = w.drewN m) (fun _ i _ => n - (intOf i).toNat)
    case atStart => exact ⟨0, Nat.zero_le _, rfl, fun j _ _ h => absurd h (by omega), 0, rfl⟩
    case round =>
      obtain ⟨k, hk, rfl, hall, m, rfl⟩ := hrel
      have HA := Lib.hid hall
      clear hall
      by_cases hlt : k < n
      · obtain ⟨e, hee⟩ : ∃ e, xs[k]? = some e := ⟨_, List.getElem?_eq_getElem (by rw [HN.out]; exact hlt)⟩
        obtain ⟨f, hff⟩ : ∃ e, ys[k]? = some e := ⟨_, List.getElem?_eq_getElem (by rw [HN'.out]; exact hlt)⟩
        have h2 := HS.out
        have h3 := HS'.out
        obtain ⟨b, off, rfl, _⟩ := h2.addr (by rw [HN.out]; omega)
        obtain ⟨b', off', rfl, _⟩ := h3.addr (by rw [HN'.out]; omega)
        obtain ⟨c0, c1, c2⟩ := en_at h2 k e hee
        obtain ⟨d0, d1, d2⟩ := en_at h3 k f hff
        have HEE := Lib.hid hee
        have HFF := Lib.hid hff
        have i0 : (0 : Int) ≤ (k : Int) := by omega
        have i1 : (k : Int) < (n : Int) := by omega
        clear h2 h3 hee hff
        by_cases hef : e = f
        · subst hef
          go_wp2_with fail
          go_quiet (fail)
          go_wp2
          go_roundw
          case rel => exact ⟨k + 1, by omega, by go_num, fun j x y hj h1 h2 => by
            by_cases ej : j = k
            · subst ej
              rw [HEE.out] at h1
              rw [HFF.out] at h2
              injection h1 with h1; injection h2 with h2
              rw [← h1, ← h2]
            · exact HA.out j x y (by omega) h1 h2, _, rfl⟩
          case measure => simp [intOf]; omega
        · obtain rfl : r = false := by
            cases r
            · rfl
            · have := hr.out.1 rfl
              rw [this, HFF.out] at HEE
              exact absurd (Option.some.inj HEE.out).symm hef
          obtain ⟨p, d, x⟩ := e
          obtain ⟨p', d', x'⟩ := f
          simp only at c0 c1 c2 d0 d1 d2
          by_cases h1 : p = p'
          · subst h1
            by_cases h2 : d = d'
            · subst h2
              have q := bq_no (s := x) (t := x') (fun h => hef (by rw [h]))
              clear hef HEE HFF
              go_wp2_with fail
              go_quiet (fail)
              go_wp2
              go_ret
              exact ⟨rfl, _, World.drewN_drewN _ _ _⟩
            · have q : (d == d') = false := by rw [beq_eq_false_iff_ne]; exact h2
              clear hef HEE HFF h2
              go_wp2_with fail
              go_quiet (fail)
              go_wp2
              go_ret
              exact ⟨rfl, _, World.drewN_drewN _ _ _⟩
          · have q := bq_no h1
            clear hef HEE HFF h1
            go_wp2_with fail
            go_quiet (fail)
            go_wp2
            go_ret
            exact ⟨rfl, _, World.drewN_drewN _ _ _⟩
      · obtain rfl : r = true := hr.out.2 (HE.out (fun j x y h1 h2 => HA.out j x y (by
          have := (List.getElem?_eq_some_iff.1 h1).1
          rw [HN.out] at this; omega) h1 h2))
        go_wp2
        go_ret
        exact ⟨rfl, _, rfl⟩
  · obtain rfl : r = false := by
      cases r
      · rfl
      · exact absurd (congrArg List.length (hr.out.1 rfl)) hl
    obtain ⟨n, hn⟩ : ∃ n, xs.length = n := ⟨_, rfl⟩
    obtain ⟨n', hn'⟩ : ∃ n, ys.length = n := ⟨_, rfl⟩
    rw [hn, hn'] at hl
    rw [hn] at hx ⊢
    rw [hn'] at _hy ⊢
    have q : ((n : Int) != (n' : Int)) = true := by rw [bne_iff_ne]; omega
    clear hr hs hs' hn hn' hl
    go_enter Tryd.func63, Tryd.ntmps63
    go_wp2
    go_ret
    exact ⟨rfl, 0, rfl⟩
set_option maxHeartbeats 1000000 in
theorem sLayerSame_c (a a' : Option Addr) (c c' : Nat) (xs ys : List Mk) (r : Bool) (hr : Hid (r = true ↔ xs = ys)) (w : World) (hs : SlF Mk.cells w a xs) (hs' : SlF Mk.cells w a' ys) (hx : xs.length ≤ maxLen) (_hy : ys.length ≤ maxLen) :
    Calls Tryd.prog 12 #[.slice a xs.length c, .slice a' ys.length c'] w fun q w' => q = .returned (.bool r) ∧ ∃ m, w' = w.drewN m := by
  unfold maxLen at hx _hy
  by_cases hl : xs.length = ys.length
  · obtain ⟨n, hn⟩ : ∃ n, xs.length = n := ⟨_, rfl⟩
    have hn' : ys.length = n := by rw [← hl, hn]
    rw [hn] at hx ⊢
    rw [hn']
    have HN := Lib.hid hn
    have HN' := Lib.hid hn'
    have HS := Lib.hid hs
    have HS' := Lib.hid hs'
    have HE := Lib.hid (fun (h : ∀ (k : Nat) (x y : Mk), xs[k]? = some x → ys[k]? = some y → x = y) => differ hl h)
    clear hl hn hn' hs hs' _hy
    go_enter Tryd.func12, Tryd.ntmps12
    go_wp2
    go_loopw [5] (fun i wr => ∃ k : Nat, k ≤ n ∧ i = .int .i64 k ∧ (∀ (j : Nat) (x y : Mk), j < k → xs[j]? = some x → ys[j]? = some y → x = y) ∧ ∃ m, wr = w.drewN m) (fun i _ => n - (intOf i).toNat)
    case atStart => exact ⟨0, Nat.zero_le _, rfl, fun j _ _ h => absurd h (by omega), 0, rfl⟩
    case round =>
      obtain ⟨k, hk, rfl, hall, m, rfl⟩ := hrel
      have HA := Lib.hid hall
      clear hall
      by_cases hlt : k < n
      · obtain ⟨e, hee⟩ : ∃ e, xs[k]? = some e := ⟨_, List.getElem?_eq_getElem (by rw [HN.out]; exact hlt)⟩
        obtain ⟨f, hff⟩ : ∃ e, ys[k]? = some e := ⟨_, List.getElem?_eq_getElem (by rw [HN'.out]; exact hlt)⟩
        have h2 := HS.out
        have h3 := HS'.out
        obtain ⟨b, off, rfl, _⟩ := h2.addr (by rw [HN.out]; omega)
        obtain ⟨b', off', rfl, _⟩ := h3.addr (by rw [HN'.out]; omega)
        obtain ⟨c0, c1, c2⟩ := mk_at h2 k e hee
        obtain ⟨d0, d1, d2⟩ := mk_at h3 k f hff
        have HEE := Lib.hid hee
        have HFF := Lib.hid hff
        have i0 : (0 : Int) ≤ (k : Int) := by omega
        have i1 : (k : Int) < (n : Int) := by omega
        clear h2 h3 hee hff
        by_cases hef : e = f
        · subst hef
          go_wp2_with fail
          go_quiet (fail)
          go_wp2
          go_roundw
          case rel => exact ⟨k + 1, by omega, by go_num, fun j x y hj h1 h2 => by
            by_cases ej : j = k
            · subst ej
              rw [HEE.out] at h1
              rw [HFF.out] at h2
              injection h1 with h1; injection h2 with h2
              rw [← h1, ← h2]
            · exact HA.out j x y (by omega) h1 h2, _, rfl⟩
          case measure => simp [intOf]; omega
        · obtain rfl : r = false := by
            cases r
            · rfl
            · have := hr.out.1 rfl
              rw [this, HFF.out] at HEE
              exact absurd (Option.some.inj HEE.out).symm hef
          obtain ⟨p, d, x⟩ := e
          obtain ⟨p', d', x'⟩ := f
          simp only at c0 c1 c2 d0 d1 d2
          by_cases h1 : p = p'
          · subst h1
            by_cases h2 : d = d'
            · subst h2
              have q := bq_no (s := x) (t := x') (fun h => hef (by rw [h]))
              clear hef HEE HFF
              go_wp2_with fail
              go_quiet (fail)
              go_wp2
              go_ret
              exact ⟨rfl, _, World.drewN_drewN _ _ _⟩
            · have q : (d == d') = false := by rw [beq_eq_false_iff_ne]; exact h2
              clear hef HEE HFF h2
              go_wp2_with fail
              go_quiet (fail)
              go_wp2
              go_ret
              exact ⟨rfl, _, World.drewN_drewN _ _ _⟩
          · have q := bq_no h1
            clear hef HEE HFF h1
            go_wp2_with fail
            go_quiet (fail)
            go_wp2
            go_ret
            exact ⟨rfl, _, World.drewN_drewN _ _ _⟩
      · obtain rfl : r = true := hr.out.2 (HE.out (fun j x y h1 h2 => HA.out j x y (by
          have := (List.getElem?_eq_some_iff.1 h1).1
          rw [HN.out] at this; omega) h1 h2))
        go_wp2
        go_ret
        exact ⟨rfl, _, rfl⟩
  · obtain rfl : r = false := by
      cases r
      · rfl
      · exact absurd (congrArg List.length (hr.out.1 rfl)) hl
    obtain ⟨n, hn⟩ : ∃ n, xs.length = n := ⟨_, rfl⟩
    obtain ⟨n', hn'⟩ : ∃ n, ys.length = n := ⟨_, rfl⟩
    rw [hn, hn'] at hl
    rw [hn] at hx ⊢
    rw [hn'] at _hy ⊢
    have q : ((n : Int) != (n' : Int)) = true := by rw [bne_iff_ne]; omega
    clear hr hs hs' hn hn' hl
    go_enter Tryd.func12, Tryd.ntmps12
    go_wp2
    go_ret
    exact ⟨rfl, 0, rfl⟩
set_option maxHeartbeats 1000000 in
theorem equalMark_c (a a' : Option Addr) (c c' : Nat) (xs ys : List Mk) (r : Bool) (hr : Hid (r = true ↔ xs = ys)) (w : World) (hs : SlF Mk.cells w a xs) (hs' : SlF Mk.cells w a' ys) (hx : xs.length ≤ maxLen) (_hy : ys.length ≤ maxLen) :
    Calls Tryd.prog 43 #[.slice a xs.length c, .slice a' ys.length c'] w fun q w' => q = .returned (.bool r) ∧ ∃ m, w' = w.drewN m := by
  unfold maxLen at hx _hy
  by_cases hl : xs.length = ys.length
  · obtain ⟨n, hn⟩ : ∃ n, xs.length = n := ⟨_, rfl⟩
    have hn' : ys.length = n := by rw [← hl, hn]
    rw [hn] at hx ⊢
    rw [hn']
    have HN := Lib.hid hn
    have HN' := Lib.hid hn'
    have HS := Lib.hid hs
    have HS' := Lib.hid hs'
    have HE := Lib.hid (fun (h : ∀ (k : Nat) (x y : Mk), xs[k]? = some x → ys[k]? = some y → x = y) => differ hl h)
    clear hl hn hn' hs hs' _hy
    go_enter Tryd.func43, Tryd.ntmps43
    go_wp2
    go_loopw [5, 13] (fun _ i wr => ∃ k : Nat, k ≤ n ∧ i = .int .i64 k ∧ (∀ (j : Nat) (x y : Mk), j < k → xs[j]? = some x → ys[j]? = some y → x = y) ∧ ∃ m, wr = w.drewN m) (fun _ i _ => n - (intOf i).toNat)
    case atStart => exact ⟨0, Nat.zero_le _, rfl, fun j _ _ h => absurd h (by omega), 0, rfl⟩
    case round =>
      obtain ⟨k, hk, rfl, hall, m, rfl⟩ := hrel
      have HA := Lib.hid hall
      clear hall
      by_cases hlt : k < n
      · obtain ⟨e, hee⟩ : ∃ e, xs[k]? = some e := ⟨_, List.getElem?_eq_getElem (by rw [HN.out]; exact hlt)⟩
        obtain ⟨f, hff⟩ : ∃ e, ys[k]? = some e := ⟨_, List.getElem?_eq_getElem (by rw [HN'.out]; exact hlt)⟩
        have h2 := HS.out
        have h3 := HS'.out
        obtain ⟨b, off, rfl, _⟩ := h2.addr (by rw [HN.out]; omega)
        obtain ⟨b', off', rfl, _⟩ := h3.addr (by rw [HN'.out]; omega)
        obtain ⟨c0, c1, c2⟩ := mk_at h2 k e hee
        obtain ⟨d0, d1, d2⟩ := mk_at h3 k f hff
        have HEE := Lib.hid hee
        have HFF := Lib.hid hff
        have i0 : (0 : Int) ≤ (k : Int) := by omega
        have i1 : (k : Int) < (n : Int) := by omega
        clear h2 h3 hee hff
        by_cases hef : e = f
        · subst hef
          go_wp2_with fail
          go_quiet (fail)
          go_wp2
          go_roundw
          case rel => exact ⟨k + 1, by omega, by go_num, fun j x y hj h1 h2 => by
            by_cases ej : j = k
            · subst ej
              rw [HEE.out] at h1
              rw [HFF.out] at h2
              injection h1 with h1; injection h2 with h2
              rw [← h1, ← h2]
            · exact HA.out j x y (by omega) h1 h2, _, rfl⟩
          case measure => simp [intOf]; omega
        · obtain rfl : r = false := by
            cases r
            · rfl
            · have := hr.out.1 rfl
              rw [this, HFF.out] at HEE
              exact absurd (Option.some.inj HEE.out).symm hef
          obtain ⟨p, d, x⟩ := e
          obtain ⟨p', d', x'⟩ := f
          simp only at c0 c1 c2 d0 d1 d2
          by_cases h1 : p = p'
          · subst h1
            by_cases h2 : d = d'
            · subst h2
              have q := bq_no (s := x) (t := x') (fun h => hef (by rw [h]))
              clear hef HEE HFF
              go_wp2_with fail
              go_quiet (fail)
              go_wp2
              go_ret
              exact ⟨rfl, _, World.drewN_drewN _ _ _⟩
            · have q : (d == d') = false := by rw [beq_eq_false_iff_ne]; exact h2
              clear hef HEE HFF h2
              go_wp2_with fail
              go_quiet (fail)
              go_wp2
              go_ret
              exact ⟨rfl, _, World.drewN_drewN _ _ _⟩
          · have q := bq_no h1
            clear hef HEE HFF h1
            go_wp2_with fail
            go_quiet (fail)
            go_wp2
            go_ret
            exact ⟨rfl, _, World.drewN_drewN _ _ _⟩
      · obtain rfl : r = true := hr.out.2 (HE.out (fun j x y h1 h2 => HA.out j x y (by
          have := (List.getElem?_eq_some_iff.1 h1).1
          rw [HN.out] at this; omega) h1 h2))
        go_wp2
        go_ret
        exact ⟨rfl, _, rfl⟩
  · obtain rfl : r = false := by
      cases r
      · rfl
      · exact absurd (congrArg List.length (hr.out.1 rfl)) hl
    obtain ⟨n, hn⟩ : ∃ n, xs.length = n := ⟨_, rfl⟩
    obtain ⟨n', hn'⟩ : ∃ n, ys.length = n := ⟨_, rfl⟩
    rw [hn, hn'] at hl
    rw [hn] at hx ⊢
    rw [hn'] at _hy ⊢
    have q : ((n : Int) != (n' : Int)) = true := by rw [bne_iff_ne]; omega
    clear hr hs hs' hn hn' hl
    go_enter Tryd.func43, Tryd.ntmps43
    go_wp2
    go_ret
    exact ⟨rfl, 0, rfl⟩
set_option maxHeartbeats 1000000 in
theorem treeSame_c (a a' : Option Addr) (c c' : Nat) (xs ys : List En) (r : Bool) (hr : Hid (r = true ↔ xs = ys)) (w : World) (hs : SlF En.cells w a xs) (hs' : SlF En.cells w a' ys) (hx : xs.length ≤ maxLen) (hy : ys.length ≤ maxLen) :
    Calls Tryd.prog 26 #[.slice a xs.length c, .slice a' ys.length c'] w fun q w' => q = .returned (.bool r) ∧ ∃ m, w' = w.drewN m := by
  have H := Lib.hid (equalEnt_c a a' c c' xs ys r hr w hs hs' hx hy)
  obtain ⟨n, hn⟩ : ∃ n, xs.length = n := ⟨_, rfl⟩
  obtain ⟨n', hn'⟩ : ∃ n, ys.length = n := ⟨_, rfl⟩
  rw [hn, hn'] at H
  rw [hn, hn']
  clear hr hs hs' hx hy hn hn'
  go_enter Tryd.func26, Tryd.ntmps26
  go_wp2_with fail
  refine H.out.mono ?_
  rintro q W ⟨rfl, m, rfl⟩
  go_wp2
  go_ret
  exact ⟨rfl, _, rfl⟩
set_option maxHeartbeats 1000000 in
theorem layerSame_c (a a' : Option Addr) (c c' : Nat) (xs ys : List Mk) (r : Bool) (hr : Hid (r = true ↔ xs = ys)) (w : World) (hs : SlF Mk.cells w a xs) (hs' : SlF Mk.cells w a' ys) (hx : xs.length ≤ maxLen) (hy : ys.length ≤ maxLen) :
    Calls Tryd.prog 11 #[.slice a xs.length c, .slice a' ys.length c'] w fun q w' => q = .returned (.bool r) ∧ ∃ m, w' = w.drewN m := by
  have H := Lib.hid (equalMark_c a a' c c' xs ys r hr w hs hs' hx hy)
  obtain ⟨n, hn⟩ : ∃ n, xs.length = n := ⟨_, rfl⟩
  obtain ⟨n', hn'⟩ : ∃ n, ys.length = n := ⟨_, rfl⟩
  rw [hn, hn'] at H
  rw [hn, hn']
  clear hr hs hs' hx hy hn hn'
  go_enter Tryd.func11, Tryd.ntmps11
  go_wp2_with fail
  refine H.out.mono ?_
  rintro q W ⟨rfl, m, rfl⟩
  go_wp2
  go_ret
  exact ⟨rfl, _, rfl⟩
end Go.Proofs.YtobbodbkdcbflaaDoor
namespace Go.Proofs.YtobbodbkdcbflaaDoor
open Go.RowKit
/-- What TreeList tells: the names and the code. -/
def MadeSc (L : List Bs) (m : Nat) (w : World) (e : Ending) (w' : World) : Prop :=
  ∃ (v : Value) (ss : List ByteArray), e = .returned (.tuple #[v, .int .i64 m]) ∧ ss.map (·.data.toList) = L ∧ w'.ownsRow w.heap.size 9 1 v ss.length (ss.map Value.string) ∧ Below w.heap.size w w'
open Classical in
noncomputable def tlistC (t : List PE) (q : Bs) : Nat := if TOk t ∧ (q = [47] ∨ pathOkL q = true) then (if q = [47] then 0 else match getL t q with
  | none => 2
  | some e => if e.d then 0 else 3) else 1
noncomputable def tlistL (t : List PE) (q : Bs) : List Bs := if tlistC t q = 0 then kidsL t q else []
theorem tlist_bad {t : List PE} {q : Bs} (h : ¬ (TOk t ∧ (q = [47] ∨ pathOkL q = true))) : tlistC t q = 1 ∧ tlistL t q = [] := by
  have h1 : tlistC t q = 1 := by unfold tlistC; rw [if_neg h]
  exact ⟨h1, by unfold tlistL; rw [h1]; rfl⟩
theorem tlist_ok {xs : List En} {q : ByteArray} (h : TOk (xs.map En.pl)) (hq : q.data.toList = [47] ∨ pathOkL q.data.toList = true) : tlistC (xs.map En.pl) q.data.toList = upC (lgetE xs q) := by
  unfold tlistC lgetE
  rw [if_pos ⟨h, hq⟩]
  by_cases hr : q.data.toList = [47]
  · rw [if_pos hr, if_pos hr]; rfl
  · rw [if_neg hr, if_neg hr, getE_pl]
    cases getE xs q <;> rfl
theorem tlist_0 {t : List PE} {q : Bs} (h : tlistC t q = 0) : tlistL t q = kidsL t q := by unfold tlistL; rw [if_pos h]
theorem tlist_n {t : List PE} {q : Bs} {m : Nat} (h : tlistC t q = m) (hm : m ≠ 0) : tlistL t q = [] := by unfold tlistL; rw [h, if_neg hm]
set_option maxRecDepth 100000 in
set_option maxHeartbeats 8000000 in
theorem treeList_c (a : Option Addr) (c : Nat) (xs : List En) (q : ByteArray) (w : World) (hs : SlF En.cells w a xs) (hxm : xs.length ≤ maxLen) (hq : q.size ≤ maxLen) (hz : ∀ e ∈ xs, e.p.size ≤ maxLen ∧ e.x.size ≤ maxLen) :
    Calls Tryd.prog 32 #[.slice a xs.length c, .string q] w (MadeSc (tlistL (xs.map En.pl) q.data.toList) (tlistC (xs.map En.pl) q.data.toList) w) := by
  have hb := Below.refl w.heap.size w
  have hx16 : TOk (xs.map En.pl) → xs.length ≤ 16 := fun h => by have := h.most; rw [List.length_map] at this; exact this
  obtain ⟨r, hr⟩ := tok_dec xs
  obtain ⟨m, hm⟩ : ∃ m, tlistC (xs.map En.pl) q.data.toList = m := ⟨_, rfl⟩
  obtain ⟨L, hL⟩ : ∃ L, tlistL (xs.map En.pl) q.data.toList = L := ⟨_, rfl⟩
  obtain ⟨o, ho⟩ : ∃ o, tgetE xs q = o := ⟨_, rfl⟩
  have HT := Lib.hid (treeOk_c a c xs r (Lib.hid hr) w hs hxm hz)
  have HG := fun W (h : SlF En.cells W a xs) => Lib.hid (treeGet_c a c xs q o (Lib.hid ho) W h hxm hz)
  have HM := Lib.hid hm
  have HL := Lib.hid hL
  have HO := Lib.hid ho
  have HS := Lib.hid hs
  have HZ := Lib.hid hz
  have HQ := Lib.hid hq
  have HE := strElt
  rw [hm, hL]
  obtain ⟨n, hn⟩ : ∃ n, xs.length = n := ⟨_, rfl⟩
  have HN := Lib.hid hn
  have HALL : Hid (xs.take n = xs) := by rw [Hid, ← hn, List.take_length]
  rw [hn] at HT HG hx16 ⊢
  have GG := Lib.hid HG
  clear hn hm hL ho hs hz hxm HG hq
  cases r with
  | false =>
    have hbad := tlist_bad (q := q.data.toList) (t := xs.map En.pl) (fun h => by have := hr.2 h.1; cases this)
    obtain rfl : m = 1 := HM.out.symm.trans hbad.1
    have HLL : Hid (L = []) := HL.out.symm.trans hbad.2
    clear hr hbad hx16
    go_enter Tryd.func32, Tryd.ntmps32
    go_wp2_with fail
    refine (HT.out).mono ?_; rintro e W ⟨rfl, hq⟩; replace hb := chn hb hq; clear hq
    go_wp2
    go_ret2
    exact ⟨_, [], rfl, HLL.out.symm, World.ownsRow_nil _ _ _ _, by repeat (first | exact hb | refine Below.alloc ?_ (by have := hb.size; simp; try omega) _)⟩
  | true =>
  by_cases hqr : q.data.toList ≠ [47] ∧ pathOkL q.data.toList = false
  · have hbad := tlist_bad (q := q.data.toList) (t := xs.map En.pl) (fun h => by rcases h.2 with h2 | h2; exact hqr.1 h2; rw [hqr.2] at h2; cases h2)
    obtain rfl : m = 1 := HM.out.symm.trans hbad.1
    have HLL : Hid (L = []) := HL.out.symm.trans hbad.2
    have q1 := beq_no hqr.1
    have HP := Lib.hid hqr.2
    clear hr hbad hqr hx16
    go_enter Tryd.func32, Tryd.ntmps32
    go_wp2_with fail
    refine (HT.out).mono ?_; rintro e W ⟨rfl, hq⟩; replace hb := chn hb hq; clear hq
    go_wp2_with fail
    refine (pathOk_c q false HP _ HQ.out).mono ?_; rintro e W ⟨rfl, hq⟩; replace hb := chn hb hq; clear hq
    go_wp2
    go_ret2
    exact ⟨_, [], rfl, HLL.out.symm, World.ownsRow_nil _ _ _ _, by repeat (first | exact hb | refine Below.alloc ?_ (by have := hb.size; simp; try omega) _)⟩
  have hqo : q.data.toList = [47] ∨ pathOkL q.data.toList = true := by
    by_cases h1 : q.data.toList = [47]
    · exact .inl h1
    · right
      cases h2 : pathOkL q.data.toList with
      | true => rfl
      | false => exact absurd ⟨h1, h2⟩ hqr
  have HMO : Hid (m = upC o) := by rw [Hid, ← HM.out, tlist_ok (hr.1 rfl) hqo, ← tget_ok q (hr.1 rfl), HO.out]
  have HPQ : Hid (q.data.toList = [47] ∨ (q.data.toList ≠ [47] ∧ pathOkL q.data.toList = true)) := by
    by_cases h1 : q.data.toList = [47]
    · exact .inl h1
    · exact .inr ⟨h1, hqo.resolve_left h1⟩
  have hx : n ≤ 16 := hx16 (hr.1 rfl)
  clear hqr hqo hr hx16
  rcases HPQ.out with hqq | ⟨hqq, hpp⟩
  · have q1 := beq_yes hqq
    clear hqq
    go_enter Tryd.func32, Tryd.ntmps32
    go_wp2_with fail
    refine (HT.out).mono ?_; rintro e W ⟨rfl, hq⟩; replace hb := chn hb hq; clear hq
    cases o with
    | none =>
      obtain rfl : m = 2 := HMO.out
      have HLL : Hid (L = []) := HL.out.symm.trans (tlist_n HM.out (by decide))
      go_wp2_with fail
      refine ((GG.out _ (HS.out.below hb)).out).mono ?_; rintro e W ⟨rfl, hq⟩; replace hb := chn hb hq; clear hq
      go_wp2
      go_ret2
      exact ⟨_, [], rfl, HLL.out.symm, World.ownsRow_nil _ _ _ _, by repeat (first | exact hb | refine Below.alloc ?_ (by have := hb.size; simp; try omega) _)⟩
    | some d =>
      obtain ⟨dp, dd, dx⟩ := d
      cases dd with
      | false =>
        obtain rfl : m = 3 := HMO.out
        have HLL : Hid (L = []) := HL.out.symm.trans (tlist_n HM.out (by decide))
        go_wp2_with fail
        refine ((GG.out _ (HS.out.below hb)).out).mono ?_; rintro e W ⟨rfl, hq⟩; replace hb := chn hb hq; clear hq
        go_wp2
        go_ret2
        exact ⟨_, [], rfl, HLL.out.symm, World.ownsRow_nil _ _ _ _, by repeat (first | exact hb | refine Below.alloc ?_ (by have := hb.size; simp; try omega) _)⟩
      | true =>
        obtain rfl : m = 0 := HMO.out
        have HLL : Hid (L = kidsL (xs.map En.pl) q.data.toList) := HL.out.symm.trans (tlist_0 HM.out)
        go_wp2_with fail
        refine ((GG.out _ (HS.out.below hb)).out).mono ?_; rintro e W ⟨rfl, hq⟩; replace hb := chn hb hq; clear hq
        have hb0 := hb.alloc hb.size (.cells #[.string dp, .bool true, .string dx] 41)
        have HB0 := Lib.hid hb0
        clear hb0
        go_wp2
        go_loopw [8, 10, 36] (fun v _ i wr => ∃ (k : Nat) (ss : List ByteArray), k ≤ n ∧ i = .int .i64 k ∧ ss.map (·.data.toList) = kidsL ((xs.take k).map En.pl) q.data.toList ∧ wr.ownsRow w.heap.size 9 1 v ss.length (ss.map Value.string) ∧ Below w.heap.size w wr) (fun _ _ i _ => n - (intOf i).toNat)
        case atStart => exact ⟨0, [], Nat.zero_le _, rfl, rfl, World.ownsRow_nil _ _ _ _, HB0.out⟩
        case round =>
          clear hb
          obtain ⟨k, ss, hk, rfl, hss, hown, hb⟩ := hrel
          have HSS := Lib.hid hss
          clear hss
          by_cases hlt : k < n
          · skip
            obtain ⟨e, hee⟩ : ∃ e, xs[k]? = some e := ⟨_, List.getElem?_eq_getElem (by rw [HN.out]; exact hlt)⟩
            have hzz := HZ.out e (List.mem_of_getElem? hee)
            have h2 := HS.out.below hb
            obtain ⟨b, off, rfl, _⟩ := h2.addr (by rw [HN.out]; omega)
            obtain ⟨d0, d1, d2⟩ := en_at h2 k e hee
            have HSN : Hid (kidsL ((xs.take (k + 1)).map En.pl) q.data.toList = kidsL ((xs.take k).map En.pl) q.data.toList ++ if upL e.p.data.toList = q.data.toList then [nameL e.p.data.toList] else []) := by rw [Hid, take_pl xs k e hee, kids_snoc]; rfl
            have hsl : ss.length ≤ k := by
              have h3 := congrArg List.length HSS.out
              have h4 := kids_len ((xs.take k).map En.pl) q.data.toList
              simp only [List.length_map, List.length_take] at h3 h4
              omega
            obtain ⟨ep, ed, ex⟩ := e
            obtain ⟨u, hu, hus⟩ := up_str20 ep
            obtain ⟨m, hm⟩ := name_str20 ep
            clear h2 hee
            have c0 := new_cell wr #[.string ep, .bool ed, .string ex] 41 0 (.string ep) rfl
            have hown0 := hown.alloc (.cells #[.string ep, .bool ed, .string ex] 41)
            replace hb := hb.alloc hb.size (.cells #[.string ep, .bool ed, .string ex] 41)
            clear hown
            by_cases hq : u.data.toList = q.data.toList
            · have q1 := beqs_yes hq
              have HSM : Hid ((ss ++ [m]).map (·.data.toList) = kidsL ((xs.take (k + 1)).map En.pl) q.data.toList) := by
                rw [Hid, HSN.out, if_pos (by rw [hu.out]; exact hq), List.map_append, HSS.out, hm.out]; rfl
              clear hq
              go_wp2_with fail
              refine (pathUp_c ep u hu _ hzz.1).mono ?_; rintro e W ⟨rfl, hq⟩; replace hb := chn hb hq; replace c0 := keepc hq c0; replace hown0 := own_below hown0 hq; clear hq
              go_wp2_with fail
              refine (pathName_c ep m hm _ hzz.1).mono ?_; rintro e W ⟨rfl, hq⟩; replace hb := chn hb hq; replace hown0 := own_below hown0 hq; clear hq
              go_wp2_with (at_builtin; go_must (refine wp_app1 (by rfl) _ _ 54 (by rfl) HE w.heap.size w.heap.size w _ #[.string m] _ _ _ (by rfl) (by rfl) hown0 (by rfl) (by simp [Value.oneCell']) (by omega) hb.size hb (Nat.le_refl _) ?_); intro v' w1 hown1 hbel1 _ _)
              go_roundw
              case rel => exact ⟨k + 1, ss ++ [m], by omega, by go_num, HSM.out, by simpa using hown1, hbel1⟩
              case measure => simp [intOf]; omega
            · have q1 := beqs_no hq
              have HSM : Hid (ss.map (·.data.toList) = kidsL ((xs.take (k + 1)).map En.pl) q.data.toList) := by
                rw [Hid, HSN.out, if_neg (by rw [hu.out]; exact hq), List.append_nil]; exact HSS.out
              clear hq
              go_wp2_with fail
              refine (pathUp_c ep u hu _ hzz.1).mono ?_; rintro e W ⟨rfl, hq⟩; replace hb := chn hb hq; replace hown0 := own_below hown0 hq; clear hq
              go_wp2
              go_roundw
              case rel => exact ⟨k + 1, ss, by omega, by go_num, HSM.out, hown0, hb⟩
              case measure => simp [intOf]; omega
          · obtain rfl : k = n := by omega
            have HF : Hid (ss.map (·.data.toList) = L) := by rw [Hid, HSS.out, HALL.out, HLL.out]
            go_wp2
            go_ret2
            exact ⟨_, ss, rfl, HF.out, hown, hb⟩
  · have q1 := beq_no hqq
    have HP := Lib.hid hpp
    clear hqq hpp
    go_enter Tryd.func32, Tryd.ntmps32
    go_wp2_with fail
    refine (HT.out).mono ?_; rintro e W ⟨rfl, hq⟩; replace hb := chn hb hq; clear hq
    go_wp2_with fail
    refine (pathOk_c q true HP _ HQ.out).mono ?_; rintro e W ⟨rfl, hq⟩; replace hb := chn hb hq; clear hq
    cases o with
    | none =>
      obtain rfl : m = 2 := HMO.out
      have HLL : Hid (L = []) := HL.out.symm.trans (tlist_n HM.out (by decide))
      go_wp2_with fail
      refine ((GG.out _ (HS.out.below hb)).out).mono ?_; rintro e W ⟨rfl, hq⟩; replace hb := chn hb hq; clear hq
      go_wp2
      go_ret2
      exact ⟨_, [], rfl, HLL.out.symm, World.ownsRow_nil _ _ _ _, by repeat (first | exact hb | refine Below.alloc ?_ (by have := hb.size; simp; try omega) _)⟩
    | some d =>
      obtain ⟨dp, dd, dx⟩ := d
      cases dd with
      | false =>
        obtain rfl : m = 3 := HMO.out
        have HLL : Hid (L = []) := HL.out.symm.trans (tlist_n HM.out (by decide))
        go_wp2_with fail
        refine ((GG.out _ (HS.out.below hb)).out).mono ?_; rintro e W ⟨rfl, hq⟩; replace hb := chn hb hq; clear hq
        go_wp2
        go_ret2
        exact ⟨_, [], rfl, HLL.out.symm, World.ownsRow_nil _ _ _ _, by repeat (first | exact hb | refine Below.alloc ?_ (by have := hb.size; simp; try omega) _)⟩
      | true =>
        obtain rfl : m = 0 := HMO.out
        have HLL : Hid (L = kidsL (xs.map En.pl) q.data.toList) := HL.out.symm.trans (tlist_0 HM.out)
        go_wp2_with fail
        refine ((GG.out _ (HS.out.below hb)).out).mono ?_; rintro e W ⟨rfl, hq⟩; replace hb := chn hb hq; clear hq
        have hb0 := hb.alloc hb.size (.cells #[.string dp, .bool true, .string dx] 41)
        have HB0 := Lib.hid hb0
        clear hb0
        go_wp2
        go_loopw [8, 10, 36] (fun v _ i wr => ∃ (k : Nat) (ss : List ByteArray), k ≤ n ∧ i = .int .i64 k ∧ ss.map (·.data.toList) = kidsL ((xs.take k).map En.pl) q.data.toList ∧ wr.ownsRow w.heap.size 9 1 v ss.length (ss.map Value.string) ∧ Below w.heap.size w wr) (fun _ _ i _ => n - (intOf i).toNat)
        case atStart => exact ⟨0, [], Nat.zero_le _, rfl, rfl, World.ownsRow_nil _ _ _ _, HB0.out⟩
        case round =>
          clear hb
          obtain ⟨k, ss, hk, rfl, hss, hown, hb⟩ := hrel
          have HSS := Lib.hid hss
          clear hss
          by_cases hlt : k < n
          · skip
            obtain ⟨e, hee⟩ : ∃ e, xs[k]? = some e := ⟨_, List.getElem?_eq_getElem (by rw [HN.out]; exact hlt)⟩
            have hzz := HZ.out e (List.mem_of_getElem? hee)
            have h2 := HS.out.below hb
            obtain ⟨b, off, rfl, _⟩ := h2.addr (by rw [HN.out]; omega)
            obtain ⟨d0, d1, d2⟩ := en_at h2 k e hee
            have HSN : Hid (kidsL ((xs.take (k + 1)).map En.pl) q.data.toList = kidsL ((xs.take k).map En.pl) q.data.toList ++ if upL e.p.data.toList = q.data.toList then [nameL e.p.data.toList] else []) := by rw [Hid, take_pl xs k e hee, kids_snoc]; rfl
            have hsl : ss.length ≤ k := by
              have h3 := congrArg List.length HSS.out
              have h4 := kids_len ((xs.take k).map En.pl) q.data.toList
              simp only [List.length_map, List.length_take] at h3 h4
              omega
            obtain ⟨ep, ed, ex⟩ := e
            obtain ⟨u, hu, hus⟩ := up_str20 ep
            obtain ⟨m, hm⟩ := name_str20 ep
            clear h2 hee
            have c0 := new_cell wr #[.string ep, .bool ed, .string ex] 41 0 (.string ep) rfl
            have hown0 := hown.alloc (.cells #[.string ep, .bool ed, .string ex] 41)
            replace hb := hb.alloc hb.size (.cells #[.string ep, .bool ed, .string ex] 41)
            clear hown
            by_cases hq : u.data.toList = q.data.toList
            · have q1 := beqs_yes hq
              have HSM : Hid ((ss ++ [m]).map (·.data.toList) = kidsL ((xs.take (k + 1)).map En.pl) q.data.toList) := by
                rw [Hid, HSN.out, if_pos (by rw [hu.out]; exact hq), List.map_append, HSS.out, hm.out]; rfl
              clear hq
              go_wp2_with fail
              refine (pathUp_c ep u hu _ hzz.1).mono ?_; rintro e W ⟨rfl, hq⟩; replace hb := chn hb hq; replace c0 := keepc hq c0; replace hown0 := own_below hown0 hq; clear hq
              go_wp2_with fail
              refine (pathName_c ep m hm _ hzz.1).mono ?_; rintro e W ⟨rfl, hq⟩; replace hb := chn hb hq; replace hown0 := own_below hown0 hq; clear hq
              go_wp2_with (at_builtin; go_must (refine wp_app1 (by rfl) _ _ 54 (by rfl) HE w.heap.size w.heap.size w _ #[.string m] _ _ _ (by rfl) (by rfl) hown0 (by rfl) (by simp [Value.oneCell']) (by omega) hb.size hb (Nat.le_refl _) ?_); intro v' w1 hown1 hbel1 _ _)
              go_roundw
              case rel => exact ⟨k + 1, ss ++ [m], by omega, by go_num, HSM.out, by simpa using hown1, hbel1⟩
              case measure => simp [intOf]; omega
            · have q1 := beqs_no hq
              have HSM : Hid (ss.map (·.data.toList) = kidsL ((xs.take (k + 1)).map En.pl) q.data.toList) := by
                rw [Hid, HSN.out, if_neg (by rw [hu.out]; exact hq), List.append_nil]; exact HSS.out
              clear hq
              go_wp2_with fail
              refine (pathUp_c ep u hu _ hzz.1).mono ?_; rintro e W ⟨rfl, hq⟩; replace hb := chn hb hq; replace hown0 := own_below hown0 hq; clear hq
              go_wp2
              go_roundw
              case rel => exact ⟨k + 1, ss, by omega, by go_num, HSM.out, hown0, hb⟩
              case measure => simp [intOf]; omega
          · obtain rfl : k = n := by omega
            have HF : Hid (ss.map (·.data.toList) = L) := by rw [Hid, HSS.out, HALL.out, HLL.out]
            go_wp2
            go_ret2
            exact ⟨_, ss, rfl, HF.out, hown, hb⟩
theorem own_lit2 {w : World} {o : Obj} {base size : Nat} {e : TypeId} (h : base ≤ w.heap.size) : ((w.alloc o).alloc (.cells #[] e)).ownsRow base e size (.slice (some ⟨w.heap.size + 1, 0, none⟩) 0 0) 0 [] := by
  have h1 := World.ownsRow_lit (base := base) (e := e) (size := size) (w.alloc o) #[] 0 (by simp; omega) (Nat.zero_le _) (by simp)
  have h2 : (w.alloc o).heap.size = w.heap.size + 1 := by simp
  rw [h2] at h1
  exact h1
set_option maxRecDepth 100000 in
set_option maxHeartbeats 8000000 in
theorem sTreeList_c (a : Option Addr) (c : Nat) (xs : List En) (q : ByteArray) (w : World) (hs : SlF En.cells w a xs) (hxm : xs.length ≤ maxLen) (hc : xs.length ≤ c) (hq : q.size ≤ maxLen) (hz : ∀ e ∈ xs, e.p.size ≤ maxLen ∧ e.x.size ≤ maxLen) :
    Calls Tryd.prog 36 #[.slice a xs.length c, .string q] w (MadeSc (tlistL (xs.map En.pl) q.data.toList) (tlistC (xs.map En.pl) q.data.toList) w) := by
  have hb := Below.refl w.heap.size w
  have hx16 : TOk (xs.map En.pl) → xs.length ≤ 16 := fun h => by have := h.most; rw [List.length_map] at this; exact this
  obtain ⟨r, hr⟩ := tok_dec xs
  obtain ⟨m, hm⟩ : ∃ m, tlistC (xs.map En.pl) q.data.toList = m := ⟨_, rfl⟩
  obtain ⟨L, hL⟩ : ∃ L, tlistL (xs.map En.pl) q.data.toList = L := ⟨_, rfl⟩
  obtain ⟨o, ho⟩ : ∃ o, lgetE xs q = o := ⟨_, rfl⟩
  have HT := Lib.hid (sTreeOk_c a c xs r (Lib.hid hr) w hs hxm hc hz)
  have HG := fun W (h : SlF En.cells W a xs) => Lib.hid (l2Get_c a c xs q o (Lib.hid ho) W h hxm)
  have HK := fun W (h : SlF En.cells W a xs) (hx : xs.length ≤ 1000000) => Lib.hid (l2Kids_c a c xs q W h hx hz)
  have HM := Lib.hid hm
  have HL := Lib.hid hL
  have HO := Lib.hid ho
  have HS := Lib.hid hs
  have HQ := Lib.hid hq
  rw [hm, hL]
  obtain ⟨n, hn⟩ : ∃ n, xs.length = n := ⟨_, rfl⟩
  rw [hn] at HT HG HK hx16 ⊢
  have GG := Lib.hid HG
  have GK := Lib.hid HK
  clear hn hm hL ho hs hz hxm HG HK hq hc
  cases r with
  | false =>
    have hbad := tlist_bad (q := q.data.toList) (t := xs.map En.pl) (fun h => by have := hr.2 h.1; cases this)
    obtain rfl : m = 1 := HM.out.symm.trans hbad.1
    have HLL : Hid (L = []) := HL.out.symm.trans hbad.2
    clear hr hbad hx16
    go_enter Tryd.func36, Tryd.ntmps36
    go_wp2_with fail
    refine (HT.out).mono ?_; rintro e W ⟨rfl, hq⟩; replace hb := chn hb hq; clear hq
    go_wp2
    go_ret2
    exact ⟨_, [], rfl, HLL.out.symm, World.ownsRow_lit _ #[] 0 (by have := hb.size; simp; try omega) (Nat.zero_le _) rfl, by repeat (first | exact hb | refine Below.alloc ?_ (by have := hb.size; simp; try omega) _)⟩
  | true =>
  by_cases hqr : q.data.toList ≠ [47] ∧ pathOkL q.data.toList = false
  · have hbad := tlist_bad (q := q.data.toList) (t := xs.map En.pl) (fun h => by rcases h.2 with h2 | h2; exact hqr.1 h2; rw [hqr.2] at h2; cases h2)
    obtain rfl : m = 1 := HM.out.symm.trans hbad.1
    have HLL : Hid (L = []) := HL.out.symm.trans hbad.2
    have q1 := beq_no hqr.1
    have HP := Lib.hid hqr.2
    clear hr hbad hqr hx16
    go_enter Tryd.func36, Tryd.ntmps36
    go_wp2_with fail
    refine (HT.out).mono ?_; rintro e W ⟨rfl, hq⟩; replace hb := chn hb hq; clear hq
    go_wp2_with fail
    refine (sPathOk_c q false HP _ HQ.out).mono ?_; rintro e W ⟨rfl, hq⟩; replace hb := chn hb hq; clear hq
    go_wp2
    go_ret2
    exact ⟨_, [], rfl, HLL.out.symm, World.ownsRow_lit _ #[] 0 (by have := hb.size; simp; try omega) (Nat.zero_le _) rfl, by repeat (first | exact hb | refine Below.alloc ?_ (by have := hb.size; simp; try omega) _)⟩
  have hqo : q.data.toList = [47] ∨ pathOkL q.data.toList = true := by
    by_cases h1 : q.data.toList = [47]
    · exact .inl h1
    · right
      cases h2 : pathOkL q.data.toList with
      | true => rfl
      | false => exact absurd ⟨h1, h2⟩ hqr
  have HMO : Hid (m = upC o) := by rw [Hid, ← HM.out, tlist_ok (hr.1 rfl) hqo, HO.out]
  have HPQ : Hid (q.data.toList = [47] ∨ (q.data.toList ≠ [47] ∧ pathOkL q.data.toList = true)) := by
    by_cases h1 : q.data.toList = [47]
    · exact .inl h1
    · exact .inr ⟨h1, hqo.resolve_left h1⟩
  have hx : n ≤ 16 := hx16 (hr.1 rfl)
  clear hqr hqo hr hx16
  rcases HPQ.out with hqq | ⟨hqq, hpp⟩
  · have q1 := beq_yes hqq
    clear hqq
    go_enter Tryd.func36, Tryd.ntmps36
    go_wp2_with fail
    refine (HT.out).mono ?_; rintro e W ⟨rfl, hq⟩; replace hb := chn hb hq; clear hq
    cases o with
    | none =>
      obtain rfl : m = 2 := HMO.out
      have HLL : Hid (L = []) := HL.out.symm.trans (tlist_n HM.out (by decide))
      go_wp2_with fail
      refine ((GG.out _ (HS.out.below hb)).out).mono ?_; rintro e W ⟨rfl, hq⟩; replace hb := chn hb hq; clear hq
      go_wp2
      go_ret2
      exact ⟨_, [], rfl, HLL.out.symm, own_lit2 hb.size, by repeat (first | exact hb | refine Below.alloc ?_ (by have := hb.size; simp; try omega) _)⟩
    | some d =>
      obtain ⟨dp, dd, dx⟩ := d
      cases dd with
      | false =>
        obtain rfl : m = 3 := HMO.out
        have HLL : Hid (L = []) := HL.out.symm.trans (tlist_n HM.out (by decide))
        go_wp2_with fail
        refine ((GG.out _ (HS.out.below hb)).out).mono ?_; rintro e W ⟨rfl, hq⟩; replace hb := chn hb hq; clear hq
        go_wp2
        go_ret2
        exact ⟨_, [], rfl, HLL.out.symm, own_lit2 hb.size, by repeat (first | exact hb | refine Below.alloc ?_ (by have := hb.size; simp; try omega) _)⟩
      | true =>
        obtain rfl : m = 0 := HMO.out
        have HLL : Hid (L = kidsL (xs.map En.pl) q.data.toList) := HL.out.symm.trans (tlist_0 HM.out)
        go_wp2_with fail
        refine ((GG.out _ (HS.out.below hb)).out).mono ?_; rintro e W ⟨rfl, hq⟩; replace hb := chn hb hq; clear hq
        have HSZ := Lib.hid hb.size
        replace hb := hb.alloc hb.size (.cells #[.string dp, .bool true, .string dx] 41)
        go_wp2_with fail
        refine (GK.out _ (HS.out.below hb) (by omega)).out.mono ?_; rintro e W' ⟨v, ss, rfl, hss, hown, hq⟩
        have HSS := Lib.hid hss
        clear hss
        replace hb := chn hb hq
        go_wp2
        go_ret2
        exact ⟨_, ss, rfl, HSS.out.trans HLL.out.symm, hown.mono (by simp; have := HSZ.out; omega), hb⟩
  · have q1 := beq_no hqq
    have HP := Lib.hid hpp
    clear hqq hpp
    go_enter Tryd.func36, Tryd.ntmps36
    go_wp2_with fail
    refine (HT.out).mono ?_; rintro e W ⟨rfl, hq⟩; replace hb := chn hb hq; clear hq
    go_wp2_with fail
    refine (sPathOk_c q true HP _ HQ.out).mono ?_; rintro e W ⟨rfl, hq⟩; replace hb := chn hb hq; clear hq
    cases o with
    | none =>
      obtain rfl : m = 2 := HMO.out
      have HLL : Hid (L = []) := HL.out.symm.trans (tlist_n HM.out (by decide))
      go_wp2_with fail
      refine ((GG.out _ (HS.out.below hb)).out).mono ?_; rintro e W ⟨rfl, hq⟩; replace hb := chn hb hq; clear hq
      go_wp2
      go_ret2
      exact ⟨_, [], rfl, HLL.out.symm, own_lit2 hb.size, by repeat (first | exact hb | refine Below.alloc ?_ (by have := hb.size; simp; try omega) _)⟩
    | some d =>
      obtain ⟨dp, dd, dx⟩ := d
      cases dd with
      | false =>
        obtain rfl : m = 3 := HMO.out
        have HLL : Hid (L = []) := HL.out.symm.trans (tlist_n HM.out (by decide))
        go_wp2_with fail
        refine ((GG.out _ (HS.out.below hb)).out).mono ?_; rintro e W ⟨rfl, hq⟩; replace hb := chn hb hq; clear hq
        go_wp2
        go_ret2
        exact ⟨_, [], rfl, HLL.out.symm, own_lit2 hb.size, by repeat (first | exact hb | refine Below.alloc ?_ (by have := hb.size; simp; try omega) _)⟩
      | true =>
        obtain rfl : m = 0 := HMO.out
        have HLL : Hid (L = kidsL (xs.map En.pl) q.data.toList) := HL.out.symm.trans (tlist_0 HM.out)
        go_wp2_with fail
        refine ((GG.out _ (HS.out.below hb)).out).mono ?_; rintro e W ⟨rfl, hq⟩; replace hb := chn hb hq; clear hq
        have HSZ := Lib.hid hb.size
        replace hb := hb.alloc hb.size (.cells #[.string dp, .bool true, .string dx] 41)
        go_wp2_with fail
        refine (GK.out _ (HS.out.below hb) (by omega)).out.mono ?_; rintro e W' ⟨v, ss, rfl, hss, hown, hq⟩
        have HSS := Lib.hid hss
        clear hss
        replace hb := chn hb hq
        go_wp2
        go_ret2
        exact ⟨_, ss, rfl, HSS.out.trans HLL.out.symm, hown.mono (by simp; have := HSZ.out; omega), hb⟩
end Go.Proofs.YtobbodbkdcbflaaDoor
namespace Go.Proofs.YtobbodbkdcbflaaDoor
open Go.RowKit
/-- Two trees held against one another. -/
theorem sameR_c (a a' : Option Addr) (c c' n n' : Nat) (xs ys : List En) (r : Bool) (hr : Hid (r = true ↔ xs = ys)) (w : World) (hn : xs.length = n) (hn' : ys.length = n') (hs : SlF En.cells w a xs) (hs' : SlF En.cells w a' ys) (hx : n ≤ 1000) (hy : n' ≤ 1000) :
    Calls Tryd.prog 26 #[.slice a n c, .slice a' n' c'] w fun e w' => e = .returned (.bool r) ∧ Below w.heap.size w w' := by
  subst hn hn'
  exact (treeSame_c a a' c c' xs ys r hr w hs hs' (by unfold maxLen; omega) (by unfold maxLen; omega)).mono fun _ _ ⟨h1, m, h2⟩ => ⟨h1, h2 ▸ below_dr w m⟩
/-- TreeGet, as the laws meet it. -/
theorem getT_c (a : Option Addr) (c n : Nat) (xs : List En) (q : ByteArray) (o : Option En) (ho : Hid (tgetE xs q = o)) (w : World) (hn : xs.length = n) (hs : SlF En.cells w a xs) (hx : n ≤ 1000) (hz : Small xs) :
    Calls Tryd.prog 20 #[.slice a n c, .string q] w fun e w' => e = .returned (optV o) ∧ Below w.heap.size w w' := by
  subst hn
  exact treeGet_c a c xs q o ho w hs (by unfold maxLen; omega) hz.max
theorem sGetT_c (a : Option Addr) (c n : Nat) (xs : List En) (q : ByteArray) (o : Option En) (ho : Hid (tgetE xs q = o)) (w : World) (hn : xs.length = n) (hs : SlF En.cells w a xs) (hc : n ≤ c) (hx : n ≤ 1000) (hz : Small xs) :
    Calls Tryd.prog 21 #[.slice a n c, .string q] w fun e w' => e = .returned (optV o) ∧ Below w.heap.size w w' := by
  subst hn
  exact sTreeGet_c a c xs q o ho w hs (by unfold maxLen; omega) hc hz.max
theorem okS_c (a : Option Addr) (c n : Nat) (xs : List En) (r : Bool) (hr : Hid (r = true ↔ TOk (xs.map En.pl))) (w : World) (hn : xs.length = n) (hs : SlF En.cells w a xs) (hc : n ≤ c) (hx : n ≤ 1000) (hz : Small xs) :
    Calls Tryd.prog 22 #[.slice a n c] w fun e w' => e = .returned (.bool r) ∧ Below w.heap.size w w' := by
  subst hn
  exact sTreeOk_c a c xs r hr w hs (by unfold maxLen; omega) hc hz.max
theorem okI_c (a : Option Addr) (c n : Nat) (xs : List En) (r : Bool) (hr : Hid (r = true ↔ TOk (xs.map En.pl))) (w : World) (hn : xs.length = n) (hs : SlF En.cells w a xs) (hx : n ≤ 1000) (hz : Small xs) :
    Calls Tryd.prog 28 #[.slice a n c] w fun e w' => e = .returned (.bool r) ∧ Below w.heap.size w w' := by
  subst hn
  exact treeOk_c a c xs r hr w hs (by unfold maxLen; omega) hz.max
theorem tget_right {xs : List En} {q : ByteArray} (h : TOk (xs.map En.pl)) (hq : pathOkL q.data.toList = true) : tgetE xs q = getE xs q := by
  rw [tget_ok q h, lgetE, if_neg (path_ne_root hq)]
/-- What TreeGet tells, in one shape. -/
theorem opt_one (o : Option En) : ∃ (ep ex : ByteArray) (ed th : Bool), optV o = .tuple #[.agg #[.string ep, .bool ed, .string ex], .bool th] ∧ ((o = none ∧ th = false) ∨ (th = true ∧ o = some ⟨ep, ed, ex⟩)) := by
  cases o with
  | none => exact ⟨⟨#[]⟩, ⟨#[]⟩, false, false, rfl, .inl ⟨rfl, rfl⟩⟩
  | some e => exact ⟨e.p, e.x, e.d, true, rfl, .inr ⟨rfl, rfl⟩⟩
theorem ReadEn.cap {w : World} {a : Option Addr} {c : Nat} {xs : List En} (h : ReadEn w a c xs) : xs.length ≤ c := by
  obtain ⟨b, off, _, _, _, h4, _⟩ := h; exact h4
theorem getE_some {xs : List En} {q : ByteArray} {e : En} (h : getE xs q = some e) : e ∈ xs ∧ e.p = q := by
  induction xs with
  | nil => cases h
  | cons a r ih =>
    unfold getE at h
    split at h
    · next hq => injection h with h; subst h; exact ⟨by simp, bytes_eq hq⟩
    · have := ih h; exact ⟨by simp [this.1], this.2⟩
theorem getE_ok {xs : List En} (h : TOk (xs.map En.pl)) {e : En} (he : e ∈ xs) : getE xs e.p = some e := by
  have h1 := getL_mem h.ord (List.mem_map_of_mem he)
  have h2 : getL (xs.map En.pl) e.p.data.toList = some e.pl := h1
  rw [getE_pl] at h2
  cases hx : getE xs e.p with
  | none => rw [hx] at h2; cases h2
  | some f => rw [hx] at h2; injection h2 with h2; rw [En.pl_inj h2]
end Go.Proofs.YtobbodbkdcbflaaDoor
namespace Go.Proofs.YtobbodbkdcbflaaDoor
open Go.RowKit
/-- How many stand at a path. -/
def cntE (xs : List En) (s : ByteArray) : Nat := xs.countP fun e => decide (e.p = s)
theorem cnt_snoc (xs : List En) (s : ByteArray) {j : Nat} {e : En} (he : xs[j]? = some e) : cntE (xs.take (j + 1)) s = cntE (xs.take j) s + if e.p = s then 1 else 0 := by
  unfold cntE
  rw [List.take_add_one, he, List.countP_append]
  by_cases h : e.p = s <;> simp [h]
theorem cnt_le (xs : List En) (s : ByteArray) (j : Nat) : cntE (xs.take j) s ≤ j := by
  unfold cntE
  have := List.countP_le_length (p := fun e : En => decide (e.p = s)) (l := xs.take j)
  rw [List.length_take] at this
  omega
theorem cnt_one {xs : List En} (h : TOk (xs.map En.pl)) (s : ByteArray) : cntE xs s = if (getE xs s).isSome = true then 1 else 0 := by
  have ho := h.ord
  clear h
  unfold cntE
  induction xs with
  | nil => rfl
  | cons a r ih =>
    unfold Ord at ho
    rw [List.map_cons, List.pairwise_cons] at ho
    rw [List.countP_cons, ih ho.2, getE]
    by_cases hq : a.p = s
    · subst hq
      have hn : getE r a.p = none := by
        cases hx : getE r a.p with
        | none => rfl
        | some f =>
          obtain ⟨h1, h2⟩ := getE_some hx
          have := ho.1 f.pl (List.mem_map_of_mem h1)
          exact absurd (show a.pl.p = f.pl.p by show a.p.data.toList = f.p.data.toList; rw [h2]) (less_ne this)
      rw [hn]; simp
    · rw [if_neg (fun e => hq (bytes_eq e))]; simp [hq]
theorem tget_root {xs : List En} (h : TOk (xs.map En.pl)) : tgetE xs ⟨#[47]⟩ = some rootE := by rw [tget_ok _ h, lgetE, if_pos rfl]
theorem tget_entry {xs : List En} (h : TOk (xs.map En.pl)) {e : En} (he : e ∈ xs) : tgetE xs e.p = some e := by
  rw [tget_right h (h.pth (List.mem_map_of_mem he))]; exact getE_ok h he
/-- What is told of a path. -/
theorem tget_law {xs : List En} (h : TOk (xs.map En.pl)) {s : ByteArray} {o : Option En} {ep ex : ByteArray} {ed th : Bool} (ho : tgetE xs s = o) (hs : (o = none ∧ th = false) ∨ (th = true ∧ o = some ⟨ep, ed, ex⟩)) :
    (th = true → ep = s) ∧ (s = ⟨#[47]⟩ → th = true) ∧ (s ≠ ⟨#[47]⟩ → (cntE xs s = 1 ↔ th = true)) := by
  rw [tget_ok s h, lgetE] at ho
  by_cases hr : s.data.toList = [47]
  · obtain rfl : s = ⟨#[47]⟩ := bytes_eq hr
    rw [if_pos rfl] at ho
    subst ho
    rcases hs with ⟨h1, _⟩ | ⟨h1, h2⟩
    · cases h1
    · injection h2 with h2; injection h2 with h3 _ _
      exact ⟨fun _ => h3.symm, fun _ => h1, fun hne => absurd rfl hne⟩
  · rw [if_neg hr] at ho
    refine ⟨?_, fun e => absurd (by rw [e]) hr, fun _ => ?_⟩
    · rintro rfl
      rcases hs with ⟨_, h1⟩ | ⟨_, h1⟩
      · cases h1
      · rw [h1] at ho; exact (getE_some ho).2
    · rw [cnt_one h, ho]
      rcases hs with ⟨rfl, rfl⟩ | ⟨rfl, rfl⟩ <;> simp
set_option maxRecDepth 100000 in
set_option maxHeartbeats 8000000 in
theorem lawTreeGet_w (w : World) (a : Option Addr) (n c : Nat) (h : Code w a n c) : Calls Tryd.prog 5 #[.slice a n c] w (TrueB w) := by
  have hn := h.2.2
  by_cases hbig : 1048576 < n
  · clear h
    go_enter Tryd.func5, Tryd.ntmps5
    go_wp2
    go_ret
    exact ⟨rfl, Below.refl _ _⟩
  have HD := Lib.hid (drawTreeGet_c w a n c h)
  clear h
  go_enter Tryd.func5, Tryd.ntmps5
  go_wp2_with fail
  refine HD.out.mono ?_; rintro e W1 ⟨a1, c1, xs, s, rfl, hR, hz, hx, hs, hb⟩
  have hcn := hR.cap
  obtain ⟨n1, hn1⟩ : ∃ m, xs.length = m := ⟨_, rfl⟩
  rw [hn1] at hx hcn ⊢
  have HN1 := Lib.hid hn1
  have HZ := Lib.hid hz
  obtain ⟨o, ho⟩ : ∃ o, tgetE xs s = o := ⟨_, rfl⟩
  obtain ⟨ep, ex, ed, th, hov, hos⟩ := opt_one o
  have HO := Lib.hid ho
  have HOS := Lib.hid hos
  obtain ⟨rt, hrt⟩ := tok_dec xs
  have HRT := Lib.hid hrt
  have HG := Lib.hid (fun W (h : SlF En.cells W a1 xs) => getT_c a1 c1 n1 xs s o (Lib.hid ho) W HN1.out h (by omega) HZ.out)
  have HSG := Lib.hid (fun W (h : SlF En.cells W a1 xs) => sGetT_c a1 c1 n1 xs s o (Lib.hid ho) W HN1.out h hcn (by omega) HZ.out)
  have HTK := Lib.hid (fun W (h : SlF En.cells W a1 xs) => okS_c a1 c1 n1 xs rt (Lib.hid hrt) W HN1.out h hcn (by omega) HZ.out)
  rw [hov] at HG HSG
  clear hn1 hz HD ho hov hos hrt
  go_wp2_with fail
  refine (HG.out _ hR.sl).mono ?_; rintro e W ⟨rfl, hq⟩; replace hb := chn hb hq; replace hR := hR.below hq; clear hq
  have d0 := new_cell W #[.string ep, .bool ed, .string ex] 41 0 _ rfl
  have d1 := new_cell W #[.string ep, .bool ed, .string ex] 41 1 _ rfl
  have d2 := new_cell W #[.string ep, .bool ed, .string ex] 41 2 _ rfl
  replace hb := hb.alloc hb.size (.cells #[.string ep, .bool ed, .string ex] 41)
  replace hR := hR.below (bellow_alloc W (.cells #[.string ep, .bool ed, .string ex] 41))
  go_wp2_with fail
  refine (HSG.out _ hR.sl).mono ?_; rintro e W ⟨rfl, hq⟩; replace hb := chn hb hq; replace hR := hR.below hq; replace d0 := keepc hq d0; replace d1 := keepc hq d1; replace d2 := keepc hq d2; clear hq
  have y0 := new_cell W #[.string ep, .bool ed, .string ex] 41 0 _ rfl
  have y1 := new_cell W #[.string ep, .bool ed, .string ex] 41 1 _ rfl
  have y2 := new_cell W #[.string ep, .bool ed, .string ex] 41 2 _ rfl
  replace d0 := keepc (bellow_alloc W (.cells #[.string ep, .bool ed, .string ex] 41)) d0
  replace d1 := keepc (bellow_alloc W (.cells #[.string ep, .bool ed, .string ex] 41)) d1
  replace d2 := keepc (bellow_alloc W (.cells #[.string ep, .bool ed, .string ex] 41)) d2
  replace hb := hb.alloc hb.size (.cells #[.string ep, .bool ed, .string ex] 41)
  replace hR := hR.below (bellow_alloc W (.cells #[.string ep, .bool ed, .string ex] 41))
  clear HG HSG
  go_wp2_with fail
  refine (HTK.out _ hR.sl).mono ?_; rintro e W ⟨rfl, hq⟩; replace hb := chn hb hq; replace hR := hR.below hq; replace d0 := keepc hq d0; clear hq HTK y0 y1 y2 d1 d2
  cases rt with
  | false =>
    obtain rfl : th = false := by
      rcases HOS.out with ⟨_, h1⟩ | ⟨_, h1⟩
      · exact h1
      · have h2 := tget_bad (xs := xs) s (fun h => by have := HRT.out.2 h; cases this)
        rw [HO.out, h1] at h2; cases h2
    go_wp2
    go_ret
    exact ⟨rfl, hb⟩
  | true =>
    have htok := HRT.out.1 rfl
    obtain ⟨hl1, hl2, hl3⟩ := tget_law htok HO.out HOS.out
    have HTK := Lib.hid htok
    have HL1 := Lib.hid hl1
    have HL2 := Lib.hid hl2
    have HL3 := Lib.hid hl3
    have HG := Lib.hid (fun W (h : SlF En.cells W a1 xs) => getT_c a1 c1 n1 xs ⟨#[47]⟩ (some rootE) (Lib.hid (tget_root htok)) W HN1.out h (by omega) HZ.out)
    clear htok hl1 hl2 hl3 HRT HO HOS
    go_wp2_with fail
    refine (HG.out _ hR.sl).mono ?_; rintro e W ⟨rfl, hq⟩; replace hb := chn hb hq; replace hR := hR.below hq; replace d0 := keepc hq d0; clear hq HG
    have r0 := new_cell W #[.string ⟨#[47]⟩, .bool true, .string ⟨#[]⟩] 41 0 _ rfl
    have r1 := new_cell W #[.string ⟨#[47]⟩, .bool true, .string ⟨#[]⟩] 41 1 _ rfl
    have r2 := new_cell W #[.string ⟨#[47]⟩, .bool true, .string ⟨#[]⟩] 41 2 _ rfl
    replace d0 := keepc (bellow_alloc W (.cells #[.string ⟨#[47]⟩, .bool true, .string ⟨#[]⟩] 41)) d0
    replace hb := hb.alloc hb.size (.cells #[.string ⟨#[47]⟩, .bool true, .string ⟨#[]⟩] 41)
    replace hR := hR.below (bellow_alloc W (.cells #[.string ⟨#[47]⟩, .bool true, .string ⟨#[]⟩] 41))
    obtain ⟨w0, hw0⟩ : ∃ w0, W.alloc (.cells #[.string ⟨#[47]⟩, .bool true, .string ⟨#[]⟩] 41) = w0 := ⟨_, rfl⟩
    have HW0 := Lib.hid hw0
    rw [hw0] at d0 r0 r1 r2 hb hR
    have HR := Lib.hid hR
    have HB0 := Lib.hid hb
    have D0 := Lib.hid d0
    have R0 := Lib.hid r0
    have R1 := Lib.hid r1
    have R2 := Lib.hid r2
    clear d0 r0 r1 r2 hb hR hw0
    go_wp2
    rw [HW0.out]
    clear HW0
    go_loopw [11, 12] (fun k i wr => ∃ j : Nat, j ≤ n1 ∧ i = .int .i64 j ∧ k = .int .i64 (cntE (xs.take j) s : Nat) ∧ Below w0.heap.size w0 wr) (fun _ i _ => n1 - (intOf i).toNat)
    case atStart => exact ⟨0, Nat.zero_le _, rfl, rfl, Below.refl _ _⟩
    case round =>
      obtain ⟨j, hj, rfl, rfl, hb⟩ := hrel
      by_cases hlt : j < n1
      · obtain ⟨e, hee⟩ : ∃ e, xs[j]? = some e := ⟨_, List.getElem?_eq_getElem (by rw [HN1.out]; exact hlt)⟩
        have hem := List.mem_of_getElem? hee
        have HSN := Lib.hid (cnt_snoc xs s hee)
        have hcl := cnt_le xs s j
        have HRR := Lib.hid (HR.out.below hb)
        have hsl := HRR.out.sl
        obtain ⟨b, off, rfl, _⟩ := hsl.addr (by rw [HN1.out]; omega)
        obtain ⟨d0, d1, d2⟩ := en_at hsl j e hee
        have HG := Lib.hid (getT_c (some ⟨b, off, none⟩) c1 n1 xs e.p (some e) (Lib.hid (tget_entry HTK.out hem)) wr HN1.out hsl (by omega) HZ.out)
        have i0 : (0 : Int) ≤ (j : Int) := by omega
        have i1 : (j : Int) < (n1 : Int) := by omega
        obtain ⟨fp, fd, fx⟩ := e
        clear hee hem hsl HRR
        go_wp2_with fail
        refine HG.out.mono ?_; rintro e W ⟨rfl, hq⟩; replace hb := chn hb hq; replace d0 := keepc hq d0; replace d1 := keepc hq d1; replace d2 := keepc hq d2; clear hq HG
        have y0 := new_cell W #[.string fp, .bool fd, .string fx] 41 0 _ rfl
        have y1 := new_cell W #[.string fp, .bool fd, .string fx] 41 1 _ rfl
        have y2 := new_cell W #[.string fp, .bool fd, .string fx] 41 2 _ rfl
        replace d0 := keepc (bellow_alloc W (.cells #[.string fp, .bool fd, .string fx] 41)) d0
        replace d1 := keepc (bellow_alloc W (.cells #[.string fp, .bool fd, .string fx] 41)) d1
        replace d2 := keepc (bellow_alloc W (.cells #[.string fp, .bool fd, .string fx] 41)) d2
        replace hb := hb.alloc hb.size (.cells #[.string fp, .bool fd, .string fx] 41)
        go_wp2_with fail
        refine wp_region_held_drew (S := fun w' => Below _ _ w') (by kernel_rfl) (below_drew _) (fun hHeld => ?_)
        refine tk (i := 0) (d := (some 69)) (v := ?_) rfl rfl (by kernel_rfl) (by kernel_rfl) (by kernel_rfl) (fun _ _ _ h => h) (Or.inl ⟨by rfl, ?_⟩) hHeld ?_
        rotate_left
        · intro w hSw; have zy0 := keepc hSw y0; have zy1 := keepc hSw y1; have zy2 := keepc hSw y2; have zd0 := keepc hSw d0; have zd1 := keepc hSw d1; have zd2 := keepc hSw d2; clear hSw; go_simp <;> with_reducible rfl
        (try simp only [Act.put, List.setIfInBounds_toArray, List.set_cons_zero, List.set_cons_succ])
        refine tk (i := 1) (d := (some 70)) (v := ?_) rfl rfl (by kernel_rfl) (by kernel_rfl) (by kernel_rfl) (fun _ _ _ h => h) (Or.inl ⟨by rfl, ?_⟩) hHeld ?_
        rotate_left
        · intro w hSw; have zy0 := keepc hSw y0; have zy1 := keepc hSw y1; have zy2 := keepc hSw y2; have zd0 := keepc hSw d0; have zd1 := keepc hSw d1; have zd2 := keepc hSw d2; clear hSw; go_simp <;> with_reducible rfl
        (try simp only [Act.put, List.setIfInBounds_toArray, List.set_cons_zero, List.set_cons_succ])
        refine tk (i := 2) (d := (some 71)) (v := ?_) rfl rfl (by kernel_rfl) (by kernel_rfl) (by kernel_rfl) (fun _ _ _ h => h) (Or.inl ⟨by rfl, ?_⟩) hHeld ?_
        rotate_left
        · intro w hSw; have zy0 := keepc hSw y0; have zy1 := keepc hSw y1; have zy2 := keepc hSw y2; have zd0 := keepc hSw d0; have zd1 := keepc hSw d1; have zd2 := keepc hSw d2; clear hSw; go_simp <;> with_reducible rfl
        (try simp only [Act.put, List.setIfInBounds_toArray, List.set_cons_zero, List.set_cons_succ])
        refine tk (i := 3) (d := (some 72)) (v := ?_) rfl rfl (by kernel_rfl) (by kernel_rfl) (by kernel_rfl) (fun _ _ _ h => h) (Or.inl ⟨by rfl, ?_⟩) hHeld ?_
        rotate_left
        · intro w hSw; have zy0 := keepc hSw y0; have zy1 := keepc hSw y1; have zy2 := keepc hSw y2; have zd0 := keepc hSw d0; have zd1 := keepc hSw d1; have zd2 := keepc hSw d2; clear hSw; go_simp <;> with_reducible rfl
        (try simp only [Act.put, List.setIfInBounds_toArray, List.set_cons_zero, List.set_cons_succ])
        refine tk (i := 4) (d := (some 73)) (v := ?_) rfl rfl (by kernel_rfl) (by kernel_rfl) (by kernel_rfl) (fun _ _ _ h => h) (Or.inl ⟨by rfl, ?_⟩) hHeld ?_
        rotate_left
        · intro w hSw; have zy0 := keepc hSw y0; have zy1 := keepc hSw y1; have zy2 := keepc hSw y2; have zd0 := keepc hSw d0; have zd1 := keepc hSw d1; have zd2 := keepc hSw d2; clear hSw; go_simp <;> with_reducible rfl
        (try simp only [Act.put, List.setIfInBounds_toArray, List.set_cons_zero, List.set_cons_succ])
        refine tk (i := 5) (d := (some 74)) (v := ?_) rfl rfl (by kernel_rfl) (by kernel_rfl) (by kernel_rfl) (fun _ _ _ h => h) (Or.inl ⟨by rfl, ?_⟩) hHeld ?_
        rotate_left
        · intro w hSw; have zy0 := keepc hSw y0; have zy1 := keepc hSw y1; have zy2 := keepc hSw y2; have zd0 := keepc hSw d0; have zd1 := keepc hSw d1; have zd2 := keepc hSw d2; clear hSw; go_simp <;> with_reducible rfl
        (try simp only [Act.put, List.setIfInBounds_toArray, List.set_cons_zero, List.set_cons_succ])
        refine tk (i := 6) (d := (some 75)) (v := ?_) rfl rfl (by kernel_rfl) (by kernel_rfl) (by kernel_rfl) (fun _ _ _ h => h) (Or.inl ⟨by rfl, ?_⟩) hHeld ?_
        rotate_left
        · intro w hSw; have zy0 := keepc hSw y0; have zy1 := keepc hSw y1; have zy2 := keepc hSw y2; have zd0 := keepc hSw d0; have zd1 := keepc hSw d1; have zd2 := keepc hSw d2; clear hSw; go_simp <;> with_reducible rfl
        (try simp only [Act.put, List.setIfInBounds_toArray, List.set_cons_zero, List.set_cons_succ])
        refine tk (i := 7) (d := (some 76)) (v := ?_) rfl rfl (by kernel_rfl) (by kernel_rfl) (by kernel_rfl) (fun _ _ _ h => h) (Or.inl ⟨by rfl, ?_⟩) hHeld ?_
        rotate_left
        · intro w hSw; have zy0 := keepc hSw y0; have zy1 := keepc hSw y1; have zy2 := keepc hSw y2; have zd0 := keepc hSw d0; have zd1 := keepc hSw d1; have zd2 := keepc hSw d2; clear hSw; go_simp <;> with_reducible rfl
        (try simp only [Act.put, List.setIfInBounds_toArray, List.set_cons_zero, List.set_cons_succ])
        refine tk (i := 8) (d := (some 77)) (v := ?_) rfl rfl (by kernel_rfl) (by kernel_rfl) (by kernel_rfl) (fun _ _ _ h => h) (Or.inl ⟨by rfl, ?_⟩) hHeld ?_
        rotate_left
        · intro w hSw; have zy0 := keepc hSw y0; have zy1 := keepc hSw y1; have zy2 := keepc hSw y2; have zd0 := keepc hSw d0; have zd1 := keepc hSw d1; have zd2 := keepc hSw d2; clear hSw; go_simp <;> with_reducible rfl
        (try simp only [Act.put, List.setIfInBounds_toArray, List.set_cons_zero, List.set_cons_succ])
        refine tk (i := 9) (d := (some 78)) (v := ?_) rfl rfl (by kernel_rfl) (by kernel_rfl) (by kernel_rfl) (fun _ _ _ h => h) (Or.inl ⟨by rfl, ?_⟩) hHeld ?_
        rotate_left
        · intro w hSw; have zy0 := keepc hSw y0; have zy1 := keepc hSw y1; have zy2 := keepc hSw y2; have zd0 := keepc hSw d0; have zd1 := keepc hSw d1; have zd2 := keepc hSw d2; clear hSw; go_simp <;> with_reducible rfl
        (try simp only [Act.put, List.setIfInBounds_toArray, List.set_cons_zero, List.set_cons_succ])
        refine wpAnyH_done (by kernel_rfl) ?_ _
        replace hb := chn hb hHeld; replace d0 := keepc hHeld d0; clear hHeld
        by_cases hps : fp = s
        · have hbe := beqs_yes (congrArg (·.data.toList) hps)
          have HS1 := HSN.out
          rw [if_pos hps] at HS1
          clear hps
          go_wp2
          go_roundw
          case rel => exact ⟨j + 1, by omega, by go_num, by rw [HS1]; go_num, by first | exact hb | exact drw hb _⟩
          case measure => simp [intOf]; omega
        · have hbe := beqs_no (fun h => hps (bytes_eq h))
          have HS1 := HSN.out
          rw [if_neg hps] at HS1
          clear hps
          go_wp2
          go_roundw
          case rel => exact ⟨j + 1, by omega, by go_num, by rw [HS1]; rfl, by first | exact hb | exact drw hb _⟩
          case measure => simp [intOf]; omega
      · obtain rfl : j = n1 := by omega
        have hbX := HB0.out.trans (hb.mono HB0.out.size)
        have d0 := keepc hb D0.out
        have r0 := keepc hb R0.out
        have r1 := keepc hb R1.out
        have r2 := keepc hb R2.out
        have hct : cntE (xs.take j) s = cntE xs s := by rw [List.take_of_length_le (by rw [HN1.out]; exact Nat.le_refl _)]
        rw [hct]
        have hl3 := HL3.out
        generalize cntE xs s = m at hl3 ⊢
        clear hb hct
        by_cases hsr : s = ⟨#[47]⟩
        · obtain rfl := HL2.out hsr
          obtain rfl := HL1.out rfl
          subst hsr
          clear hl3
          cases hm1 : ((m : Int) == 1)
          · go_wp2
            go_ret
            exact ⟨rfl, hbX⟩
          · go_wp2
            go_ret
            exact ⟨rfl, hbX⟩
        · have hbe : (s.toList == [47]) = false := by rw [Lib.toList_data]; simpa using fun h => hsr (bytes_eq h)
          have h3 := hl3 hsr
          cases th with
          | true =>
            obtain rfl := HL1.out rfl
            obtain rfl := h3.2 rfl
            clear hl3 h3 hsr
            go_wp2
            go_ret
            exact ⟨rfl, hbX⟩
          | false =>
            have h4 : ((m : Int) == 1) = false := by rw [beq_eq_false_iff_ne]; intro h5; have := h3.1 (by omega); cases this
            clear hl3 h3 hsr
            go_wp2
            go_ret
            exact ⟨rfl, hbX⟩
end Go.Proofs.YtobbodbkdcbflaaDoor
namespace Go.Proofs.YtobbodbkdcbflaaDoor
open Go.RowKit
def mdig (k : Nat) (acc : Bs) : Bs := if k = 0 then acc else mdig (k / 10) (UInt8.ofNat (48 + k % 10) :: acc)
termination_by k
decreasing_by omega
/-- The mark of number k. -/
def mtext (k : Nat) : ByteArray := ⟨(109 :: mdig k []).toArray⟩
def MtRel (k : Nat) (i o : Value) : Prop := ∃ (j : Nat) (acc : ByteArray), acc.size + j ≤ k ∧ i = .int .i64 j ∧ o = .string acc ∧ mdig j acc.data.toList = mdig k []
/-- A slice of texts that can be read. -/
def SlS (w : World) (a : Option Addr) (ss : List ByteArray) : Prop :=
  0 < ss.length → ∃ b off, a = some ⟨b, off, none⟩ ∧ b < w.heap.size ∧ ∀ k s, ss[k]? = some s → w.cell? ⟨b, off + k, none⟩ = some (.string s)
theorem SlS.below {w w' : World} {a : Option Addr} {ss : List ByteArray} (h : SlS w a ss) (hb : Below w.heap.size w w') : SlS w' a ss := fun hn => by
  obtain ⟨b, off, e, hlt, hc⟩ := h hn
  exact ⟨b, off, e, Nat.lt_of_lt_of_le hlt hb.size, fun k s hk => (hb.cell (p := ⟨b, off + k, none⟩) hlt).trans (hc k s hk)⟩
theorem own_sls {w : World} {B : Nat} {t : TypeId} {a : Option Addr} {c n : Nat} {ss : List ByteArray} (h : w.ownsRow B t 1 (.slice a n c) n (ss.map Value.string)) (hn : ss.length = n) : SlS w a ss := fun h0 => by
  rcases h.2 with ⟨_, h1⟩ | ⟨g, cap, cur, e, _, hh, _⟩
  · omega
  · injection e with e1 e2 e3
    subst e1; subst e3
    have hl : g < w.heap.size := by
      rcases Nat.lt_or_ge g w.heap.size with h4 | h4
      · exact h4
      · rw [Array.getElem?_eq_none h4] at hh; cases hh
    refine ⟨g, 0, rfl, hl, fun k s hk => ?_⟩
    have h2 := h.cellAt k (by have := (List.getElem?_eq_some_iff.1 hk).1; omega)
    rw [Nat.zero_add, h2, List.getElem?_map, hk]; rfl
/-- The texts that marking leaves. -/
def MarkedT (k i : Nat) (L : List Value) : Prop := ∀ j, j < i → L[j]? = some (.string (mtext (k + j)))
theorem MarkedT.more {k i : Nat} {L : List Value} (h : MarkedT k i L) (hi : i < L.length) : MarkedT k (i + 1) (L.set i (.string (mtext (k + i)))) := fun j hj => by
  by_cases e : j = i
  · subst e; rw [List.getElem?_set_self hi]
  · rw [List.getElem?_set_ne (Ne.symm e)]; exact h j (by omega)
/-- What marking leaves of entries. -/
def MarkedE (k i : Nat) (L : List Value) : Prop := ∀ j, j < i → L[j * 3]? = some (.string (mtext (k + 3 * j))) ∧ L[j * 3 + 1]? = some (.bool (decide ((k + 3 * j + 1) % 3 = 0))) ∧ L[j * 3 + 2]? = some (.string (mtext (k + 3 * j + 2)))
/-- What marking leaves of marks. -/
def MarkedM (k i : Nat) (L : List Value) : Prop := ∀ j, j < i → L[j * 3]? = some (.string (mtext (k + 3 * j))) ∧ L[j * 3 + 1]? = some (.int .i64 ((k : Int) + 3 * j + 1)) ∧ L[j * 3 + 2]? = some (.string (mtext (k + 3 * j + 2)))
theorem set_three {L : List Value} {i : Nat} (h : i * 3 + 3 ≤ L.length) (a b c : Value) :
    (∀ j, j < i → ∀ q, q < 3 → (((L.set (i * 3) a).set (i * 3 + 1) b).set (i * 3 + 2) c)[j * 3 + q]? = L[j * 3 + q]?) ∧
    (((L.set (i * 3) a).set (i * 3 + 1) b).set (i * 3 + 2) c)[i * 3]? = some a ∧ (((L.set (i * 3) a).set (i * 3 + 1) b).set (i * 3 + 2) c)[i * 3 + 1]? = some b ∧ (((L.set (i * 3) a).set (i * 3 + 1) b).set (i * 3 + 2) c)[i * 3 + 2]? = some c := by
  refine ⟨fun j hj q hq => ?_, ?_, ?_, ?_⟩
  · rw [List.getElem?_set_ne (by omega), List.getElem?_set_ne (by omega), List.getElem?_set_ne (by omega)]
  · rw [List.getElem?_set_ne (by omega), List.getElem?_set_ne (by omega), List.getElem?_set_self (by omega)]
  · rw [List.getElem?_set_ne (by omega), List.getElem?_set_self (by simp; omega)]
  · rw [List.getElem?_set_self (by simp; omega)]
theorem MarkedE.more {k i : Nat} {L : List Value} (h : MarkedE k i L) (hi : i * 3 + 3 ≤ L.length) : MarkedE k (i + 1) (((L.set (i * 3) (.string (mtext (k + 3 * i)))).set (i * 3 + 1) (.bool (decide ((k + 3 * i + 1) % 3 = 0)))).set (i * 3 + 2) (.string (mtext (k + 3 * i + 2)))) := fun j hj => by
  obtain ⟨h0, h1, h2, h3⟩ := set_three hi (.string (mtext (k + 3 * i))) (.bool (decide ((k + 3 * i + 1) % 3 = 0))) (.string (mtext (k + 3 * i + 2)))
  by_cases e : j = i
  · subst e; exact ⟨h1, h2, h3⟩
  · have hji : j < i := by omega
    obtain ⟨g1, g2, g3⟩ := h j hji
    exact ⟨(h0 j hji 0 (by omega)).trans g1, (h0 j hji 1 (by omega)).trans g2, (h0 j hji 2 (by omega)).trans g3⟩
theorem MarkedM.more {k i : Nat} {L : List Value} (h : MarkedM k i L) (hi : i * 3 + 3 ≤ L.length) : MarkedM k (i + 1) (((L.set (i * 3) (.string (mtext (k + 3 * i)))).set (i * 3 + 1) (.int .i64 ((k : Int) + 3 * i + 1))).set (i * 3 + 2) (.string (mtext (k + 3 * i + 2)))) := fun j hj => by
  obtain ⟨h0, h1, h2, h3⟩ := set_three hi (.string (mtext (k + 3 * i))) (.int .i64 ((k : Int) + 3 * i + 1)) (.string (mtext (k + 3 * i + 2)))
  by_cases e : j = i
  · subst e; exact ⟨h1, h2, h3⟩
  · have hji : j < i := by omega
    obtain ⟨g1, g2, g3⟩ := h j hji
    exact ⟨(h0 j hji 0 (by omega)).trans g1, (h0 j hji 1 (by omega)).trans g2, (h0 j hji 2 (by omega)).trans g3⟩
end Go.Proofs.YtobbodbkdcbflaaDoor
namespace Go.Proofs.YtobbodbkdcbflaaDoor
open Go.RowKit
theorem strs_inj : ∀ {a b : List ByteArray}, a.map (·.data.toList) = b.map (·.data.toList) → a = b
  | [], [], _ => rfl
  | [], _ :: _, h => by simp at h
  | _ :: _, [], h => by simp at h
  | x :: a, y :: b, h => by
    simp only [List.map_cons, List.cons.injEq] at h
    rw [bytes_eq h.1, strs_inj h.2]
theorem mem_strs {ss : List ByteArray} {s : ByteArray} : s.data.toList ∈ ss.map (·.data.toList) ↔ s ∈ ss := by
  rw [List.mem_map]
  constructor
  · rintro ⟨x, hx, he⟩; rw [← bytes_eq he]; exact hx
  · exact fun h => ⟨s, h, rfl⟩
set_option maxHeartbeats 2000000 in
theorem wpIn_c (a : Option Addr) (c n : Nat) (ss : List ByteArray) (s : ByteArray) (r : Bool) (hr : Hid (r = true ↔ s ∈ ss)) (w : World) (hn : ss.length = n) (hs : SlS w a ss) (hx : n ≤ 2000000) :
    Calls Tryd.prog 33 #[.slice a n c, .string s] w fun e w' => e = .returned (.bool r) ∧ Below w.heap.size w w' := by
  have HS := Lib.hid hs
  have HN := Lib.hid hn
  clear hs hn
  go_enter Tryd.func33, Tryd.ntmps33
  go_wp2
  go_loopw [5] (fun i wr => ∃ j : Nat, j ≤ n ∧ i = .int .i64 j ∧ s ∉ ss.take j ∧ Below w.heap.size w wr) (fun i _ => n - (intOf i).toNat)
  case atStart => exact ⟨0, Nat.zero_le _, rfl, by simp, Below.refl _ _⟩
  case round =>
    obtain ⟨j, hj, rfl, hno, hb⟩ := hrel
    have HNO := Lib.hid hno
    clear hno
    by_cases hlt : j < n
    · obtain ⟨x, hxx⟩ : ∃ x, ss[j]? = some x := ⟨_, List.getElem?_eq_getElem (by rw [HN.out]; exact hlt)⟩
      obtain ⟨b, off, rfl, _, hcs⟩ := (HS.out.below hb) (by rw [HN.out]; omega)
      have d0 := hcs j x hxx
      have i0 : (0 : Int) ≤ (j : Int) := by omega
      have i1 : (j : Int) < (n : Int) := by omega
      have HM := Lib.hid (List.mem_of_getElem? hxx)
      have HTS : Hid (ss.take (j + 1) = ss.take j ++ [x]) := by rw [Hid, List.take_add_one, hxx]; rfl
      clear hcs hxx
      by_cases he : x = s
      · obtain rfl : r = true := hr.out.2 (he ▸ HM.out)
        have hbe := beqs_yes (congrArg (·.data.toList) he)
        clear he
        go_wp2
        go_ret
        exact ⟨rfl, by first | exact hb | exact drw hb _⟩
      · have hbe := beqs_no (fun h => he (bytes_eq h))
        go_wp2
        go_roundw
        case rel => exact ⟨j + 1, by omega, by go_num, by rw [HTS.out, List.mem_append, List.mem_singleton]; exact fun h => h.elim HNO.out (fun h => he h.symm), by first | exact hb | exact drw hb _⟩
        case measure => simp [intOf]; omega
    · obtain rfl : j = n := by omega
      obtain rfl : r = false := by
        cases r with
        | false => rfl
        | true => have h1 := HNO.out; rw [List.take_of_length_le (by rw [HN.out]; exact Nat.le_refl _)] at h1; exact absurd (hr.out.1 rfl) h1
      go_wp2
      go_ret
      exact ⟨rfl, hb⟩
set_option maxHeartbeats 2000000 in
theorem wpWords_c (a a' : Option Addr) (c c' n n' : Nat) (ss ts : List ByteArray) (r : Bool) (hr : Hid (r = true ↔ ss = ts)) (w : World) (hn : ss.length = n) (hn' : ts.length = n') (hs : SlS w a ss) (hs' : SlS w a' ts) (hx : n ≤ 2000000) :
    Calls Tryd.prog 37 #[.slice a n c, .slice a' n' c'] w fun e w' => e = .returned (.bool r) ∧ Below w.heap.size w w' := by
  have HS := Lib.hid hs
  have HS' := Lib.hid hs'
  have HN := Lib.hid hn
  have HN' := Lib.hid hn'
  by_cases hnn : n = n'
  · subst hnn
    clear hs hs' hn hn'
    go_enter Tryd.func37, Tryd.ntmps37
    go_wp2
    go_loopw [5] (fun i wr => ∃ j : Nat, j ≤ n ∧ i = .int .i64 j ∧ ss.take j = ts.take j ∧ Below w.heap.size w wr) (fun i _ => n - (intOf i).toNat)
    case atStart => exact ⟨0, Nat.zero_le _, rfl, rfl, Below.refl _ _⟩
    case round =>
      obtain ⟨j, hj, rfl, hsm, hb⟩ := hrel
      have HSM := Lib.hid hsm
      clear hsm
      by_cases hlt : j < n
      · obtain ⟨x, hxx⟩ : ∃ x, ss[j]? = some x := ⟨_, List.getElem?_eq_getElem (by rw [HN.out]; exact hlt)⟩
        obtain ⟨y, hyy⟩ : ∃ x, ts[j]? = some x := ⟨_, List.getElem?_eq_getElem (by rw [HN'.out]; exact hlt)⟩
        obtain ⟨b, off, rfl, _, hcs⟩ := (HS.out.below hb) (by rw [HN.out]; omega)
        obtain ⟨b', off', rfl, _, hcs'⟩ := (HS'.out.below hb) (by rw [HN'.out]; omega)
        have d0 := hcs j x hxx
        have d1 := hcs' j y hyy
        have i0 : (0 : Int) ≤ (j : Int) := by omega
        have i1 : (j : Int) < (n : Int) := by omega
        have HX : Hid (ss.take (j + 1) = ss.take j ++ [x]) := by rw [Hid, List.take_add_one, hxx]; rfl
        have HY : Hid (ts.take (j + 1) = ts.take j ++ [y]) := by rw [Hid, List.take_add_one, hyy]; rfl
        have HXX := Lib.hid hxx
        have HYY := Lib.hid hyy
        clear hcs hcs' hxx hyy
        by_cases he : x = y
        · have hbe := beqs_yes (congrArg (·.data.toList) he)
          go_wp2_with fail
          go_quiet (fail)
          go_wp2
          go_roundw
          case rel => exact ⟨j + 1, by omega, by go_num, by rw [HX.out, HY.out, HSM.out, he], by first | exact hb | exact drw hb _⟩
          case measure => simp [intOf]; omega
        · have hbe := beqs_no (fun h => he (bytes_eq h))
          obtain rfl : r = false := by
            cases r with
            | false => rfl
            | true => have h1 := hr.out.1 rfl; rw [h1, HYY.out] at HXX; exact absurd (Option.some.inj HXX.out).symm he
          clear he
          go_wp2_with fail
          go_quiet (fail)
          go_wp2
          go_ret
          exact ⟨rfl, by first | exact hb | exact drw hb _⟩
      · obtain rfl : j = n := by omega
        obtain rfl : r = true := hr.out.2 (by
          have h1 := HSM.out
          rw [List.take_of_length_le (by rw [HN.out]; exact Nat.le_refl _), List.take_of_length_le (by rw [HN'.out]; exact Nat.le_refl _)] at h1
          exact h1)
        go_wp2
        go_ret
        exact ⟨rfl, hb⟩
  · obtain rfl : r = false := by
      cases r with
      | false => rfl
      | true => have h1 := hr.out.1 rfl; exact absurd (by rw [← hn, ← hn', h1]) hnn
    have hne : ((n : Int) != (n' : Int)) = true := by rw [bne_iff_ne]; omega
    clear hs hs' hn hn'
    go_enter Tryd.func37, Tryd.ntmps37
    go_wp2
    go_ret
    exact ⟨rfl, Below.refl _ _⟩
end Go.Proofs.YtobbodbkdcbflaaDoor
namespace Go.Proofs.YtobbodbkdcbflaaDoor
open Go.RowKit
/-- What stands above a path of a tree. -/
def UpIn (xs : List En) (u : ByteArray) : Prop := u.data.toList = [47] ∨ ∃ e ∈ xs, e.p = u ∧ e.d = true
theorem up_in {xs : List En} (h : TOk (xs.map En.pl)) {e : En} (he : e ∈ xs) {u : ByteArray} (hu : upL e.p.data.toList = u.data.toList) : UpIn xs u ∧ (u.data.toList ≠ [47] → u.size < e.p.size) := by
  have hm : e.pl ∈ xs.map En.pl := List.mem_map_of_mem he
  constructor
  · rcases h.par hm with h1 | ⟨f, hf, h1, h2⟩
    · exact .inl (by rw [← hu]; exact h1)
    · obtain ⟨g, hg, rfl⟩ := List.mem_map.1 hf
      exact .inr ⟨g, hg, bytes_eq (by rw [← hu]; exact h1), h2⟩
  · intro hne
    have := up_len (h.pth hm) (by show upL e.p.data.toList ≠ [47]; rw [hu]; exact hne)
    rw [show e.pl.p = e.p.data.toList from rfl, hu] at this
    rw [← size_data, ← size_data]; exact this
theorem ups_last {xs : List En} (h : TOk (xs.map En.pl)) {e : En} (he : e ∈ xs) {u m : ByteArray} (hu : upL e.p.data.toList = u.data.toList) (hm : nameL e.p.data.toList = m.data.toList) :
    tlistC (xs.map En.pl) u.data.toList = 0 ∧ m.data.toList ∈ tlistL (xs.map En.pl) u.data.toList := by
  have h1 : tlistC (xs.map En.pl) u.data.toList = 0 := by
    unfold tlistC
    rcases (up_in h he hu).1 with h2 | ⟨f, hf, rfl, h3⟩
    · rw [if_pos ⟨h, .inl h2⟩, if_pos h2]
    · have hp : pathOkL f.p.data.toList = true := h.pth (List.mem_map_of_mem hf)
      rw [if_pos ⟨h, .inr hp⟩, if_neg (path_ne_root hp), getE_pl, getE_ok h hf]
      simp [En.pl, h3]
  refine ⟨h1, ?_⟩
  rw [tlist_0 h1, ← hm]
  unfold kidsL
  exact List.mem_map.2 ⟨e.pl, List.mem_filter.2 ⟨List.mem_map_of_mem he, beq_iff_eq.2 hu⟩, rfl⟩
set_option maxRecDepth 100000 in
set_option maxHeartbeats 8000000 in
theorem lawTreeUps_w (w : World) (a : Option Addr) (n c : Nat) (h : Code w a n c) : Calls Tryd.prog 7 #[.slice a n c] w (TrueB w) := by
  have hn := h.2.2
  by_cases hbig : 1048576 < n
  · clear h
    go_enter Tryd.func7, Tryd.ntmps7
    go_wp2
    go_ret
    exact ⟨rfl, Below.refl _ _⟩
  have HD := Lib.hid (drawTreeGet_c w a n c h)
  clear h
  go_enter Tryd.func7, Tryd.ntmps7
  go_wp2_with fail
  refine HD.out.mono ?_; rintro e W1 ⟨a1, c1, xs, s, rfl, hR, hz, hx, hs, hb⟩
  have hcn := hR.cap
  obtain ⟨n1, hn1⟩ : ∃ m, xs.length = m := ⟨_, rfl⟩
  rw [hn1] at hx hcn ⊢
  have HN1 := Lib.hid hn1
  have HZ := Lib.hid hz
  obtain ⟨o, ho⟩ : ∃ o, tgetE xs s = o := ⟨_, rfl⟩
  obtain ⟨ep, ex, ed, th, hov, hos⟩ := opt_one o
  have HO := Lib.hid ho
  have HOS := Lib.hid hos
  obtain ⟨rt, hrt⟩ := tok_dec xs
  have HRT := Lib.hid hrt
  have HG := Lib.hid (fun W (h : SlF En.cells W a1 xs) => getT_c a1 c1 n1 xs s o (Lib.hid ho) W HN1.out h (by omega) HZ.out)
  have HSG := Lib.hid (fun W (h : SlF En.cells W a1 xs) => sGetT_c a1 c1 n1 xs s o (Lib.hid ho) W HN1.out h hcn (by omega) HZ.out)
  have HTK := Lib.hid (fun W (h : SlF En.cells W a1 xs) => okS_c a1 c1 n1 xs rt (Lib.hid hrt) W HN1.out h hcn (by omega) HZ.out)
  rw [hov] at HG HSG
  clear hn1 hz HD ho hov hos hrt
  go_wp2_with fail
  refine (HG.out _ hR.sl).mono ?_; rintro e W ⟨rfl, hq⟩; replace hb := chn hb hq; replace hR := hR.below hq; clear hq
  replace hb := hb.alloc hb.size (.cells #[.string ep, .bool ed, .string ex] 41)
  replace hR := hR.below (bellow_alloc W (.cells #[.string ep, .bool ed, .string ex] 41))
  go_wp2_with fail
  refine (HSG.out _ hR.sl).mono ?_; rintro e W ⟨rfl, hq⟩; replace hb := chn hb hq; replace hR := hR.below hq; clear hq
  replace hb := hb.alloc hb.size (.cells #[.string ep, .bool ed, .string ex] 41)
  replace hR := hR.below (bellow_alloc W (.cells #[.string ep, .bool ed, .string ex] 41))
  clear HG HSG HTK
  cases th with
  | false =>
    go_wp2
    go_ret
    exact ⟨rfl, hb⟩
  | true =>
    by_cases hsr : s = ⟨#[47]⟩
    · subst hsr
      go_wp2
      go_ret
      exact ⟨rfl, hb⟩
    · have hbe : (s.toList == [47]) = false := by rw [Lib.toList_data]; simpa using fun h => hsr (bytes_eq h)
      obtain ⟨htok, e0, hem, hep⟩ : TOk (xs.map En.pl) ∧ ∃ e ∈ xs, e.p = s := by
        rcases HOS.out with ⟨_, h1⟩ | ⟨_, h1⟩
        · cases h1
        · have h2 := HO.out
          rw [h1] at h2
          by_cases ht : TOk (xs.map En.pl)
          · rw [tget_ok s ht, lgetE, if_neg (fun h => hsr (bytes_eq h))] at h2
            obtain ⟨h3, h4⟩ := getE_some h2
            exact ⟨ht, _, h3, h4⟩
          · rw [tget_bad s ht] at h2; cases h2
      obtain ⟨u, hu, hus⟩ := up_str20 s
      obtain ⟨m, hm⟩ := name_str20 s
      have hup := (up_in htok hem (by rw [hep]; exact hu.out)).1
      obtain ⟨hlc, hlm⟩ := ups_last htok hem (u := u) (m := m) (by rw [hep]; exact hu.out) (by rw [hep]; exact hm.out)
      have HLC := Lib.hid hlc
      have HLM := Lib.hid hlm
      have HTK := Lib.hid htok
      clear HRT HO HOS hlc hlm hep hem htok
      go_wp2_with fail
      refine (pathUp_c s u hu _ (by unfold maxLen; omega)).mono ?_; rintro e W ⟨rfl, hq⟩; replace hb := chn hb hq; replace hR := hR.below hq; clear hq
      have HR := Lib.hid hR
      have HB := Lib.hid hb
      clear hR hb
      go_wp2
      go_loopw [9] (fun uv wr => ∃ v : ByteArray, uv = .string v ∧ v.size ≤ 20 ∧ UpIn xs v ∧ Below W.heap.size W wr) (fun uv _ => match uv with | .string v => v.size | _ => 0)
      case atStart => exact ⟨u, rfl, hus, hup, Below.refl _ _⟩
      case round =>
        obtain ⟨v, rfl, hvs, hvu, hb⟩ := hrel
        have HRR := Lib.hid (HR.out.below hb)
        by_cases hvr : v = ⟨#[47]⟩
        · subst hvr
          have hbX := HB.out.trans (hb.mono HB.out.size)
          clear hb hvu hup
          go_wp2_with fail
          refine (pathUp_c s u hu _ (by unfold maxLen; omega)).mono ?_; rintro e W2 ⟨rfl, hq⟩; replace hbX := chn hbX hq; replace HRR := Lib.hid (HRR.out.below hq); clear hq
          have HL := Lib.hid (treeList_c a1 c1 xs u W2 HRR.out.sl (by rw [HN1.out]; unfold maxLen; omega) (by unfold maxLen; omega) HZ.out.max)
          rw [HN1.out] at HL
          go_wp2_with fail
          refine HL.out.mono ?_; rintro e W3 ⟨v, ss, rfl, hss, hov, hq⟩; replace hbX := chn hbX hq; clear hq
          obtain ⟨a5, c5, rfl⟩ := own_shape hov
          have hkb : ss.length ≤ 25 := by
            have h1 := congrArg List.length hss
            have h2 : (tlistL (xs.map En.pl) u.data.toList).length ≤ xs.length := by
              unfold tlistL
              split
              · unfold kidsL
                rw [List.length_map]
                have := List.length_filter_le (fun e => upL e.p == u.data.toList) (xs.map En.pl)
                rw [List.length_map] at this; exact this
              · exact Nat.zero_le _
            have h3 := HN1.out
            rw [List.length_map] at h1
            omega
          have hmem : m ∈ ss := by
            have h1 := HLM.out
            rw [← hss] at h1
            obtain ⟨x, h2, h3⟩ := List.mem_map.1 h1
            rw [← bytes_eq h3]; exact h2
          obtain ⟨kn, hkn⟩ : ∃ m, ss.length = m := ⟨_, rfl⟩
          have hsl := own_sls hov rfl
          have HIN := Lib.hid (fun W (h : SlS W a5 ss) => wpIn_c a5 c5 kn ss m true (Lib.hid ⟨fun _ => hmem, fun _ => rfl⟩) W hkn h (by omega))
          rw [hkn] at hov ⊢
          rw [HLC.out]
          clear hss hov hkb hmem hkn HL HRR
          go_wp2_with fail
          refine (pathName_c s m hm _ (by unfold maxLen; omega)).mono ?_; rintro e W4 ⟨rfl, hq⟩; replace hbX := chn hbX hq; replace hsl := hsl.below hq; clear hq
          go_wp2_with fail
          refine (HIN.out _ hsl).mono ?_; rintro e W5 ⟨rfl, hq⟩; replace hbX := chn hbX hq; clear hq
          go_wp2
          go_ret
          exact ⟨rfl, hbX⟩
        · have hvb : (v.toList == [47]) = false := by rw [Lib.toList_data]; simpa using fun h => hvr (bytes_eq h)
          obtain ⟨f, hf, rfl, hfd⟩ := hvu.resolve_left (fun h => hvr (bytes_eq h))
          obtain ⟨v2, hv2, hvs2⟩ := up_str20 f.p
          obtain ⟨hu2, hlt2⟩ := up_in HTK.out hf hv2.out
          have HG := Lib.hid (getT_c a1 c1 n1 xs f.p (some f) (Lib.hid (by rw [tget_right HTK.out (HTK.out.pth (List.mem_map_of_mem hf)), getE_ok HTK.out hf])) wr HN1.out HRR.out.sl (by omega) HZ.out)
          have hfp : pathOkL f.p.data.toList = true := HTK.out.pth (List.mem_map_of_mem hf)
          obtain ⟨fp, fd, fx⟩ := f
          obtain rfl : fd = true := hfd
          clear hf hvu HRR
          go_wp2_with fail
          refine HG.out.mono ?_; rintro e W ⟨rfl, hq⟩; replace hb := chn hb hq; clear hq
          have d1 := new_cell W #[.string fp, .bool true, .string fx] 41 1 _ rfl
          replace hb := hb.alloc hb.size (.cells #[.string fp, .bool true, .string fx] 41)
          go_wp2_with fail
          refine (pathUp_c fp v2 hv2 _ (by unfold maxLen; have h1 : fp.size ≤ 20 := hvs; omega)).mono ?_; rintro e W ⟨rfl, hq⟩; replace hb := chn hb hq; clear hq
          go_wp2
          go_roundw
          case rel => exact ⟨v2, rfl, hvs2, hu2, by first | exact hb | exact drw hb _⟩
          case measure =>
            show v2.size < fp.size
            by_cases h2 : v2.data.toList = [47]
            · have h3 : v2.size = 1 := by rw [← size_data, h2]; rfl
              have h4 := (path_len hfp).1
              rw [size_data] at h4
              omega
            · exact hlt2 h2
end Go.Proofs.YtobbodbkdcbflaaDoor
