/- What draws trees: the walks of l2Bent and DrawTreeDo. What draws trees: the walks of DrawTreeGet, DrawTreeList, DrawTreeOk, DrawTreeSame, DrawOpOk. The walks of TreeSame and LayerSame. The walks of TreeList, of the program and of the reference. What the laws of trees share: shapes, TreeGet, TreeSame, TreeOk as the laws meet them. The walks of what marks memory and looks whether the marks still stand; lists of texts held against one another. The walks of what looks through lists of texts: wpIn, wpWords. The walk of the law that listings partition the tree: FnTreeList. Rows that are laid side by side: what two appends leave. The walk of the law that malformed trees are refused: FnTreeBent. The walk of the program's TreeTurned. Plain laws of what LayerDiff makes, as the walks meet it. Conditions: each theorem's own. -/
import Derived.Test.YtobbodbkdcbflaaDoorB5
import Derived.Test.YtobbodbkdcbflaaDoorB1
import Derived.Test.YtobbodbkdcbflaaDoorB3
import Derived.Deep.Onto
import Derived.Laws.OwnMore
import Derived.Test.YtobbodbkdcbflaaDoorB2
import Derived.Deep.QuietTactic
import Derived.BigQuiet
import Derived.Laws.BytesArg
import Derived.Test.YtobbodbkdcbflaaDoorB4
namespace Go.Proofs.YtobbodbkdcbflaaDoor
open Go.RowKit
/-- One cell of a row of structs stored. -/
theorem flat_set {α : Type} {f : α → List Value} (hf : ∀ x, (f x).length = 3) {j : Nat} (hj : j < 3) {u : Value} {e' : α} : ∀ (xs : List α) (k : Nat) (e : α), xs[k]? = some e → f e' = (f e).set j u → (xs.flatMap f).set (k * 3 + j) u = (xs.set k e').flatMap f := by
  intro xs
  induction xs with
  | nil => intro k e he; simp at he
  | cons x r ih =>
    intro k e he hs
    cases k with
    | zero =>
      simp at he; subst he
      rw [List.flatMap_cons, List.set_cons_zero, List.flatMap_cons, Nat.zero_mul, Nat.zero_add, List.set_append_left _ _ (by rw [hf]; exact hj), hs]
    | succ k =>
      rw [List.flatMap_cons, List.set_cons_succ, List.flatMap_cons, List.set_append_right _ _ (by rw [hf]; omega), show (k + 1) * 3 + j - (f x).length = k * 3 + j by rw [hf]; omega]
      rw [ih k e (by simpa using he) hs]
/-- Entries with short texts, and paths of which F says yes. -/
def SmF (F : ByteArray → Bool) (xs : List En) : Prop := ∀ e ∈ xs, (e.p.size ≤ 20 ∧ e.x.size ≤ 20) ∧ F e.p = true
theorem SmF.small {F : ByteArray → Bool} {xs : List En} (h : SmF F xs) : Small xs := fun e he => (h e he).1
/-- What a bending leaves. -/
def BentPost (F : ByteArray → Bool) (w : World) (g p q N : Nat) (e : Ending) (w' : World) : Prop :=
  ∃ (a : Option Addr) (c : Nat) (xs : List En) (p' : Nat), e = .returned (.slice a xs.length c) ∧ DrawnT w' g a c xs ∧ SmF F xs ∧ xs.length ≤ N ∧ p' ≤ p + q ∧ Rd w' g p' ∧ Only g w w'
theorem small_set {F : ByteArray → Bool} {xs : List En} (h : SmF F xs) (k : Nat) (e : En) (he : (e.p.size ≤ 20 ∧ e.x.size ≤ 20) ∧ F e.p = true) : SmF F (xs.set k e) := fun x hx => by
  rcases List.mem_or_eq_of_mem_set hx with h1 | h1
  · exact h x h1
  · rw [h1]; exact he
theorem ret_len {a : Option Addr} {c n m : Nat} (h : m = n) : Ending.returned (.slice a n c) = .returned (.slice a m c) := by rw [h]
theorem cell_gr' {w w' : World} {own : Option Nat} {a : Addr} {v : Value} (hg : w.grownBy w' own) (h : w.cell? a = some v) (hne : own ≠ some a.block) : w'.cell? a = some v := by
  have hb := hg.block a.block (World.block_lt_of_cell? _ _ h) (Ne.symm hne)
  rw [← h]
  unfold World.cell?
  simp only [hb]
theorem own_only {w w' : World} {B g : Nat} {e : TypeId} {size : Nat} {v : Value} {n : Nat} {xs : List Value} (h : w.ownsRow B e size v n xs) (ho : Only g w w') (hg : g < B) : w'.ownsRow B e size v n xs := by
  refine h.kept ho ?_
  cases hb : v.ownBlock with
  | none => exact .inl rfl
  | some k => exact .inr fun e => by have := (h.lt k hb).1; injection e with e; omega
theorem only_grown {w w1 w2 : World} {g : Nat} {own : Option Nat} (h : Only g w w1) (hg : w1.grownBy w2 own) (ho : ∀ k, own = some k → w.heap.size ≤ k) : Only g w w2 :=
  ⟨hg.os.trans h.os, hg.tape.trans h.tape, hg.output.trans h.output, Nat.le_trans h.size hg.size, fun i hi hne => (hg.block i (Nat.lt_of_lt_of_le hi h.size) (fun e => by have := ho i e.symm; omega)).trans (h.block i hi hne)⟩
theorem Rd.grown {w w' : World} {g p : Nat} {own : Option Nat} (h : Rd w g p) (hg : w.grownBy w' own) (ho : ∀ k, own = some k → g < k) : Rd w' g p := by
  have hlt := h.lt
  obtain ⟨a, n, c, h1, h2, h3, h4⟩ := h
  refine ⟨a, n, c, (hg.block g hlt (fun e => by have := ho g e.symm; omega)).trans h1, h2, h3, fun hn => ?_⟩
  obtain ⟨b, off, e, hb, hc⟩ := h4 hn
  exact ⟨b, off, e, hb, fun k hk => by
    obtain ⟨x, h5, h6, h7⟩ := hc k hk
    exact ⟨x, h5, h6, cell_gr' hg h7 (fun e => by have := ho b e; omega)⟩⟩
theorem bent_own {w : World} {B : Nat} {v : Value} {n : Nat} {xs : List En} {ad : Addr} {cc : Nat} (hn : xs.length = n) (h : w.ownsRow B 41 3 v (0 + xs.length) ([] ++ xs.flatMap En.cells)) (hnil : v = .slice none 0 0 ↔ Value.slice (some ad) 0 cc = .slice none 0 0 ∧ xs.length = 0) :
    ∃ b c, v = .slice (some ⟨b, 0, none⟩) n c ∧ n ≤ c ∧ c ≤ maxLen ∧ w.ownsRow B 41 3 (.slice (some ⟨b, 0, none⟩) n c) n (xs.flatMap En.cells) := by
  rw [Nat.zero_add, List.nil_append, hn] at h
  have h0 := h
  rcases h.2 with ⟨h1, _⟩ | ⟨g, cap, cur, rfl, hg, hh, hnc, hm, h2, h3⟩
  · have := hnil.1 h1; simp at this
  · exact ⟨g, cap, rfl, hnc, hm, h0⟩
theorem drawn_own {w : World} {g B b c : Nat} {xs : List En} (h : w.ownsRow B 41 3 (.slice (some ⟨b, 0, none⟩) xs.length c) xs.length (xs.flatMap En.cells)) (hg : g < B) (hc : xs.length ≤ c) (hm : c ≤ maxLen) : DrawnT w g (some ⟨b, 0, none⟩) c xs :=
  ⟨b, 0, rfl, Nat.lt_of_lt_of_le hg (h.lt b rfl).1, (h.lt b rfl).2, own_slf (fun _ => rfl) h, hc, hm⟩
set_option maxRecDepth 100000 in
set_option maxHeartbeats 8000000 in
theorem l2Bent_c (F : ByteArray → Bool) (hF : ∀ s, goodT s = true → F s = true) (w : World) (g p : Nat) (hr : Rd w g p) (hp : p ≤ 900000) (a : Option Addr) (c : Nat) (xs : List En) (ht : DrawnT w g a c xs) (hz : SmF F xs) (hx : xs.length ≤ 1000) :
    Calls Tryd.prog 56 #[.pointer (some ⟨g, 0, none⟩), .slice a xs.length c] w (BentPost F w g p 4 (xs.length + 1)) := by
  have HE := eltEn
  have hg := hr.lt
  have HZ := Lib.hid hz
  have HR := Lib.hid hr
  have HB0 := bellow_alloc w (.cells #[] 41)
  have HRD := Lib.hid (ht.read.below HB0)
  obtain ⟨b0, off, rfl, _, hsl, _⟩ := HRD.out
  have hsl' := Lib.hid hsl
  have hown0 : Hid ((w.alloc (.cells #[] 41)).ownsRow w.heap.size 41 3 (.slice (some ⟨w.heap.size, 0, none⟩) 0 0) 0 []) := World.ownsRow_lit w #[] 0 (Nat.le_refl _) (Nat.zero_le _) rfl
  obtain ⟨n, hn⟩ : ∃ n, xs.length = n := ⟨_, rfl⟩
  have HN := Lib.hid hn
  rw [hn] at hx ⊢
  clear hsl ht hr hn hz
  by_cases hn0 : n = 0
  · subst hn0
    go_enter Tryd.func56, Tryd.ntmps56
    go_wp2_with (at_builtin; go_must (refine wp_appN (by rfl) _ _ 37 (by rfl) HE w.heap.size w.heap.size w _ _ 0 [] (by rfl) En.cells (fun _ => rfl) en_one xs b0 off 0 c HN.out (by rfl) hsl'.out hown0.out (by rw [HN.out]; omega) HB0.size HB0 (Nat.le_refl _) ?_); intro v2 w2 hown3 hbel3 hnil; obtain ⟨b, c5, rfl, hc5, hcm, how⟩ := bent_own HN.out hown3 hnil; clear hown3 hnil)
    have HRD2 := Lib.hid (HR.out.keep hbel3 hg)
    have HO2 : Hid (Only g w w2) := Only.of_below hbel3
    have hgb : w.heap.size ≤ b := (how.lt b rfl).1
    have HOW := Lib.hid how
    clear hbel3 how HB0 hsl' hown0 HRD
    go_ret
    exact ⟨some ⟨b, 0, none⟩, c5, xs, p, ret_len HN.out, drawn_own (B := w.heap.size) (by rw [HN.out]; exact HOW.out) hg (by rw [HN.out]; omega) hcm, HZ.out, by rw [HN.out]; omega, by omega, HRD2.out, HO2.out⟩
  have n0 : ((n : Int) == 0) = false := by rw [beq_eq_false_iff_ne]; omega
  go_enter Tryd.func56, Tryd.ntmps56
  go_wp2_with (at_builtin; go_must (refine wp_appN (by rfl) _ _ 37 (by rfl) HE w.heap.size w.heap.size w _ _ 0 [] (by rfl) En.cells (fun _ => rfl) en_one xs b0 off n c HN.out (by rfl) hsl'.out hown0.out (by rw [HN.out]; omega) HB0.size HB0 (Nat.le_refl _) ?_); intro v2 w2 hown3 hbel3 hnil; obtain ⟨b, c5, rfl, hc5, hcm, how⟩ := bent_own HN.out hown3 hnil; clear hown3 hnil)
  have HRD2 := Lib.hid (HR.out.keep hbel3 hg)
  have HO2 : Hid (Only g w w2) := Only.of_below hbel3
  have hgb : w.heap.size ≤ b := (how.lt b rfl).1
  have HOW := Lib.hid how
  clear hbel3 how HB0 hsl' hown0 HRD
  have HK := Lib.hid (pick_c w2 g p (n : Int) HRD2.out (by omega) (by omega) (by omega))
  clear HRD2
  refine HK.out.mono ?_; rintro e w3 ⟨k, rfl, _, hkn, hrd3, ho3⟩
  have hk : k < n := by have := hkn (by omega); omega
  have HOW3 := Lib.hid (own_only HOW.out ho3 hg)
  have HO3 := Lib.hid (HO2.out.trans ho3)
  have HK2 := Lib.hid (pick_c w3 g (p + 1) 50 hrd3 (by omega) (by omega) (by omega))
  clear hkn hrd3 ho3 HK HOW HO2
  go_wp2_with fail
  refine HK2.out.mono ?_; rintro e w4 ⟨m, rfl, _, _, hrd, ho4⟩
  have hown := own_only HOW3.out ho4 hg
  have HOX := Lib.hid (HO3.out.trans ho4)
  obtain ⟨⟨ep, ed, ex⟩, hee⟩ : ∃ e, xs[k]? = some e := ⟨_, List.getElem?_eq_getElem (by rw [HN.out]; exact hk)⟩
  have hes := HZ.out ⟨ep, ed, ex⟩ (List.mem_of_getElem? hee)
  have hsx : SlF En.cells w4 (some ⟨b, 0, none⟩) xs := own_slfN (fun _ => rfl) hown HN.out
  obtain ⟨d0, d1, d2⟩ := en_at hsx k ⟨ep, ed, ex⟩ hee
  have i0 : (0 : Int) ≤ (k : Int) := by omega
  have i1 : (k : Int) < (n : Int) := by omega
  rw [Nat.zero_add] at d0 d1 d2
  clear ho4 HK2 HOW3 HO3
  by_cases m0 : m = 0
  · subst m0
    have HRDX := Lib.hid hrd
    have HSM : Hid (SmF F (xs ++ [(⟨ep, ed, ex⟩ : En)])) := fun x hx => by
      rcases List.mem_append.1 hx with h | h
      · exact HZ.out x h
      · rw [List.mem_singleton.1 h]; exact hes
    clear hrd hsx hee
    go_wp2_with (at_builtin; go_must (refine wp_app1H (by rfl) _ _ 37 (by rfl) HE w.heap.size w.heap.size w4 _ #[.string ep, .bool ed, .string ex] _ _ _ (by rfl) w4.heap.size (by simp) (by rfl) hown (by rfl) (by simp [Value.oneCell']) (by omega) HOX.out.size (Below.refl _ _) (Nat.le_refl _) ?_); intro v' w5 hown1 _ _ hgr)
    have hown2 : w5.ownsRow w.heap.size 41 3 v' (xs ++ [(⟨ep, ed, ex⟩ : En)]).length ((xs ++ [(⟨ep, ed, ex⟩ : En)]).flatMap En.cells) := by
      rw [← flat_app, List.length_append, HN.out]; exact hown1
    obtain ⟨b9, c9, rfl, h91, h92, h93⟩ : OwnRe w5 w.heap.size v' (xs ++ [(⟨ep, ed, ex⟩ : En)]) := by
      refine ownRe_of hown2 (own_some hown1 (fun hv => ?_))
      have h2 := hown1
      rw [hv] at h2
      rcases h2.2 with ⟨_, h3⟩ | ⟨_, _, _, h3, _⟩
      · omega
      · cases h3
    have hbk : ∀ k, (Value.slice (some ⟨b, 0, none⟩) n c5).ownBlock = some k → w.heap.size ≤ k := fun k hk => by
      have : b = k := by simpa [Value.ownBlock] using hk
      omega
    have HO9 := Lib.hid (only_grown (HOX.out.alloc _) hgr hbk)
    have HR9 := Lib.hid ((HRDX.out.alloc _).grown hgr (fun k hk => Nat.lt_of_lt_of_le hg (hbk k hk)))
    clear hown1 hown2 hgr
    go_wp2
    go_ret
    exact ⟨_, c9, _, p + 1 + 1, rfl, drawn_own h93 hg h91 h92, HSM.out, by simp [HN.out], by omega, HR9.out, HO9.out⟩
  have n0' : ((m : Int) == 0) = false := by rw [beq_eq_false_iff_ne]; omega
  by_cases m1 : m = 1
  · subst m1
    have HNU := Lib.hid (fun (cs : Array Value) (n : Nat) (hn : Hid (cs.size = n)) h0 h1 hs => ofF_c goodT (w4.alloc (.cells cs 9)) g (p + 1 + 1) w4.heap.size n cs 9 (hrd.alloc _) (by omega) (heap_alloc_new w4 _) (by have := hrd.lt; omega) hn.out h0 h1 hs)
    have HEE := Lib.hid hee
    have HOWN := Lib.hid hown
    clear hrd hsx hee d0 d1 d2 hown
    go_wp2_with fail
    refine (HNU.out _ _ (by exact Lib.hid rfl) (by decide) (by decide) (by kernel_rfl)).mono ?_
    rintro e w5 ⟨s, p6, rfl, hs, hp6, hrd6, ho6⟩
    have hown5 := own_only (own_below HOWN.out (bellow_alloc w4 _)) ho6 hg
    have d0 := hown5.cellAt (k * 3) (by omega)
    obtain ⟨x0, hx0⟩ : ∃ u, (xs.flatMap En.cells)[k * 3]? = some u := ⟨_, List.getElem?_eq_getElem (by rw [flatMap_len (fun _ => rfl), HN.out]; omega)⟩
    rw [hx0] at d0
    have f0 := hown5.frozenAt (k * 3)
    have HST := Lib.hid (hown5.stored (k * 3 + 0) (.string s))
    rw [flat_set (fun _ => rfl) (by decide : 0 < 3) xs k ⟨ep, ed, ex⟩ HEE.out (e' := (⟨s, ed, ex⟩ : En)) rfl] at HST
    have HSM := Lib.hid (small_set HZ.out k (⟨s, ed, ex⟩ : En) ⟨⟨goodT_size hs, hes.1.2⟩, hF s hs⟩)
    have HRD6 := Lib.hid (hrd6.set ⟨b, k * 3 + 0, none⟩ (.string s) (by show g < b; omega))
    have HO6 := Lib.hid (((HOX.out.alloc _).trans ho6).setCell (p := ⟨b, k * 3 + 0, none⟩) (.inr (by show w.heap.size ≤ b; omega)) (.string s))
    clear hown5 hx0 hrd6 ho6 HNU
    go_wp2
    go_ret
    exact ⟨some ⟨b, 0, none⟩, c5, xs.set k (⟨s, ed, ex⟩ : En), p6, ret_len (by rw [List.length_set, HN.out]), drawn_own (B := w.heap.size) (by rw [List.length_set, HN.out]; exact HST.out.1) hg (by rw [List.length_set, HN.out]; exact hc5) hcm, HSM.out, by rw [List.length_set, HN.out]; omega, by omega, HRD6.out, HO6.out⟩
  have n1' : ((m : Int) == 1) = false := by rw [beq_eq_false_iff_ne]; omega
  by_cases m2 : m = 2
  · subst m2
    have HEE := Lib.hid hee
    have hown5 := hown
    have f0 := hown5.frozenAt (k * 3 + 1)
    have hrd6 := hrd
    have ho6 := Only.refl g w4
    have p6 := p + 1 + 1
    have HOX6 := Lib.hid HOX.out
    have HST := Lib.hid (hown.stored (k * 3 + 1) (.bool !ed))
    rw [flat_set (fun _ => rfl) (by decide : 1 < 3) xs k ⟨ep, ed, ex⟩ HEE.out (e' := (⟨ep, !ed, ex⟩ : En)) rfl] at HST
    have HSM := Lib.hid (small_set HZ.out k (⟨ep, !ed, ex⟩ : En) hes)
    have HRD6 := Lib.hid (hrd.set ⟨b, k * 3 + 1, none⟩ (.bool !ed) (by show g < b; omega))
    have HO6 := Lib.hid (HOX.out.setCell (p := ⟨b, k * 3 + 1, none⟩) (.inr (by show w.heap.size ≤ b; omega)) (.bool !ed))
    clear hown5 hown hsx hrd6 ho6 hrd HOX6 p6 hee
    go_wp2
    go_ret
    exact ⟨some ⟨b, 0, none⟩, c5, xs.set k (⟨ep, !ed, ex⟩ : En), p + 1 + 1, ret_len (by rw [List.length_set, HN.out]), drawn_own (B := w.heap.size) (by rw [List.length_set, HN.out]; exact HST.out.1) hg (by rw [List.length_set, HN.out]; exact hc5) hcm, HSM.out, by rw [List.length_set, HN.out]; omega, by omega, HRD6.out, HO6.out⟩
  have n2' : ((m : Int) == 2) = false := by rw [beq_eq_false_iff_ne]; omega
  by_cases m3 : m = 3
  · subst m3
    have HNU := Lib.hid (fun (cs : Array Value) (n : Nat) (hn : Hid (cs.size = n)) h0 h1 hs => of_c (w4.alloc (.cells cs 9)) g (p + 1 + 1) w4.heap.size n cs 9 (hrd.alloc _) (by omega) (heap_alloc_new w4 _) (by have := hrd.lt; omega) hn.out h0 h1 hs)
    have HEE := Lib.hid hee
    have HOWN := Lib.hid hown
    clear hrd hsx hee d0 d1 d2 hown
    go_wp2_with fail
    refine (HNU.out _ _ (by exact Lib.hid rfl) (by decide) (by decide) (by rfl)).mono ?_
    rintro e w5 ⟨s, p6, rfl, hs, hp6, hrd6, ho6⟩
    have hown5 := own_only (own_below HOWN.out (bellow_alloc w4 _)) ho6 hg
    have d0 := hown5.cellAt (k * 3 + 2) (by omega)
    obtain ⟨x0, hx0⟩ : ∃ u, (xs.flatMap En.cells)[k * 3 + 2]? = some u := ⟨_, List.getElem?_eq_getElem (by rw [flatMap_len (fun _ => rfl), HN.out]; omega)⟩
    rw [hx0] at d0
    have f0 := hown5.frozenAt (k * 3 + 2)
    have HST := Lib.hid (hown5.stored (k * 3 + 2) (.string s))
    rw [flat_set (fun _ => rfl) (by decide : 2 < 3) xs k ⟨ep, ed, ex⟩ HEE.out (e' := (⟨ep, ed, s⟩ : En)) rfl] at HST
    have HSM := Lib.hid (small_set HZ.out k (⟨ep, ed, s⟩ : En) ⟨⟨hes.1.1, hs⟩, hes.2⟩)
    have HRD6 := Lib.hid (hrd6.set ⟨b, k * 3 + 2, none⟩ (.string s) (by show g < b; omega))
    have HO6 := Lib.hid (((HOX.out.alloc _).trans ho6).setCell (p := ⟨b, k * 3 + 2, none⟩) (.inr (by show w.heap.size ≤ b; omega)) (.string s))
    clear hown5 hx0 hrd6 ho6 HNU
    go_wp2
    go_ret
    exact ⟨some ⟨b, 0, none⟩, c5, xs.set k (⟨ep, ed, s⟩ : En), p6, ret_len (by rw [List.length_set, HN.out]), drawn_own (B := w.heap.size) (by rw [List.length_set, HN.out]; exact HST.out.1) hg (by rw [List.length_set, HN.out]; exact hc5) hcm, HSM.out, by rw [List.length_set, HN.out]; omega, by omega, HRD6.out, HO6.out⟩
  have n3' : ((m : Int) == 3) = false := by rw [beq_eq_false_iff_ne]; omega
  have HRDX := Lib.hid hrd
  have HOWN := Lib.hid hown
  have HSX := Lib.hid hsx
  clear hrd hown hsx hee d0 d1 d2
  by_cases m4 : m = 4
  · subst m4
    have i2 : (1 : Int) ≤ (n : Int) := by omega
    have i3 : (1 : Int) ≤ (c5 : Int) := by omega
    have HDR := Lib.hid (HSX.out.drop 1)
    have hlt : b < w4.heap.size := (HOWN.out.lt b rfl).2
    by_cases hc1 : c5 = 1
    · subst hc1
      obtain rfl : n = 1 := by omega
      have HFIN : Hid (BentPost F w g p 4 (1 + 1) (.returned (.slice (some ⟨b, 0, none⟩) 0 0)) w4) := ⟨some ⟨b, 0, none⟩, 0, [], p + 1 + 1, rfl, ⟨b, 0, rfl, by omega, hlt, fun h => absurd h (by simp), Nat.zero_le _, Nat.zero_le _⟩, fun x hx => by simp at hx, by simp, by omega, HRDX.out, HOX.out⟩
      go_wp2
      all_goals first | (exfalso; omega) | skip
      all_goals go_ret
      all_goals exact HFIN.out
    · have HFIN : Hid (BentPost F w g p 4 (n + 1) (.returned (.slice (some ⟨b, 3, none⟩) (n - 1) (c5 - 1))) w4) := ⟨some ⟨b, 3, none⟩, c5 - 1, xs.drop 1, p + 1 + 1, ret_len (by rw [List.length_drop, HN.out]), ⟨b, 3, rfl, by omega, hlt, by simpa using HDR.out, by rw [List.length_drop, HN.out]; omega, by omega⟩, fun x hx => HZ.out x (List.mem_of_mem_drop hx), by rw [List.length_drop, HN.out]; omega, by omega, HRDX.out, HOX.out⟩
      go_wp2
      all_goals first | (exfalso; omega) | skip
      all_goals go_ret
      all_goals exact HFIN.out
  · have n4' : ((m : Int) == 4) = false := by rw [beq_eq_false_iff_ne]; omega
    go_wp2
    go_ret
    exact ⟨some ⟨b, 0, none⟩, c5, xs, p + 1 + 1, ret_len HN.out, drawn_own (B := w.heap.size) (by rw [HN.out]; exact HOWN.out) hg (by rw [HN.out]; exact hc5) hcm, HZ.out, by rw [HN.out]; omega, by omega, HRDX.out, HOX.out⟩
/-- A short text. -/
def le20 (s : ByteArray) : Bool := decide (s.size ≤ 20)
theorem le20_good (s : ByteArray) (h : goodT s = true) : le20 s = true := by unfold le20; rw [decide_eq_true_eq]; exact goodT_size h
theorem le20_of {s : ByteArray} (h : le20 s = true) : s.size ≤ 20 := by unfold le20 at h; rwa [decide_eq_true_eq] at h
theorem small_le {xs : List En} (h : Small xs) : SmF le20 xs := fun e he => ⟨h e he, by unfold le20; rw [decide_eq_true_eq]; exact (h e he).1⟩
/-- A short text that is not zz in the root. -/
def nzz (s : ByteArray) : Bool := le20 s && (s.data.toList != [47, 122, 122])
theorem nzz_good (s : ByteArray) (h : goodT s = true) : nzz s = true := by
  unfold nzz
  rw [Bool.and_eq_true, bne_iff_ne]
  refine ⟨le20_good s h, fun hq => ?_⟩
  have h1 := (good_low.1 h).2
  rw [hq] at h1; cases h1
theorem small_nzz {xs : List En} (h : Small xs) (hz : ZL (xs.map En.pl)) : SmF nzz xs := fun e he => ⟨h e he, by
  unfold nzz
  rw [Bool.and_eq_true, bne_iff_ne]
  exact ⟨(small_le h e he).2, hz e.pl (List.mem_map_of_mem he)⟩⟩
theorem nzz_zl {xs : List En} (h : SmF nzz xs) : ZL (xs.map En.pl) := fun e he => by
  obtain ⟨f, hf, rfl⟩ := List.mem_map.1 he
  have h1 := (h f hf).2
  unfold nzz at h1
  rw [Bool.and_eq_true, bne_iff_ne] at h1
  exact h1.2
end Go.Proofs.YtobbodbkdcbflaaDoor
namespace Go.Proofs.YtobbodbkdcbflaaDoor
open Go.RowKit
/-- A tree and a text, drawn. -/
def TreeTextPost (w : World) (e : Ending) (w' : World) : Prop :=
  ∃ (a : Option Addr) (c : Nat) (xs : List En) (s : ByteArray), e = .returned (.tuple #[.slice a xs.length c, .string s]) ∧ ReadEn w' a c xs ∧ Small xs ∧ xs.length ≤ 20 ∧ s.size ≤ 20 ∧ Below w.heap.size w w'
set_option maxRecDepth 100000 in
set_option maxHeartbeats 4000000 in
theorem drawTreeGet_c (w : World) (a : Option Addr) (n c : Nat) (h : Code w a n c) : Calls Tryd.prog 19 #[.slice a n c] w (TreeTextPost w) := by
  obtain ⟨rb, hrb⟩ : ∃ rb, w.heap.size = rb := ⟨_, rfl⟩
  have ho0 := open_c' w a n c h
  rw [hrb] at ho0
  have HO := Lib.hid ho0
  clear h ho0
  go_enter Tryd.func19, Tryd.ntmps19
  go_wp2_with fail
  refine HO.out.mono ?_; rintro e w1 ⟨rfl, hrd, hb⟩
  have HB1 := Lib.hid (hb.mono (by rw [hrb]; exact Nat.le_refl _) : Below w.heap.size w w1)
  have HT := Lib.hid (l2Tree_c w1 rb 0 hrd (by omega))
  clear hrd hb HO
  go_wp2_with fail
  refine HT.out.mono ?_; rintro e w2 ⟨a2, c2, ts, p2, rfl, hd2, htok, hzl, hp2, hrd2, ho2⟩
  have hts : ts.length ≤ 16 := by have := htok.most; rw [List.length_map] at this; exact this
  have HBT := Lib.hid (l2Bent_c le20 le20_good w2 rb p2 hrd2 (by omega) a2 c2 ts hd2 (small_le (tok_small htok)) (by omega))
  have HO2 := Lib.hid ho2
  clear hd2 htok hrd2 ho2 HT
  obtain ⟨n2, hn2⟩ : ∃ n, ts.length = n := ⟨_, rfl⟩
  rw [hn2] at HBT hts ⊢
  clear hn2
  go_wp2_with fail
  refine HBT.out.mono ?_; rintro e w3 ⟨a3, c3, us, p3, rfl, hd3, hsm0, hus, hp3, hrd3, ho3⟩
  have hsm := hsm0.small
  have HL := Lib.hid (l1Text_c w3 rb p3 hrd3 (by omega))
  have HO3 := Lib.hid (HO2.out.trans ho3)
  have HD3 := Lib.hid hd3
  clear hd3 hrd3 ho3 HBT HO2
  obtain ⟨n3, hn3⟩ : ∃ n, us.length = n := ⟨_, rfl⟩
  have HN3 := Lib.hid hn3
  rw [hn3] at hus ⊢
  clear hn3
  go_wp2_with fail
  refine HL.out.mono ?_; rintro e w4 ⟨s, p4, rfl, hs, _, _, ho4⟩
  have HB4 := Lib.hid ((HO3.out.trans ho4).below HB1.out (by omega) HB1.out.size)
  have HR4 := Lib.hid (HD3.out.only ho4).read
  clear ho4 HL
  go_wp2
  go_ret2
  exact ⟨a3, c3, us, s, by rw [HN3.out]; rfl, HR4.out, hsm, by rw [HN3.out]; omega, hs, HB4.out⟩
set_option maxRecDepth 100000 in
theorem drawTreeList_c (w : World) (a : Option Addr) (n c : Nat) (h : Code w a n c) : Calls Tryd.prog 35 #[.slice a n c] w (TreeTextPost w) := by
  have HD := Lib.hid (drawTreeGet_c w a n c h)
  clear h
  go_enter Tryd.func35, Tryd.ntmps35
  go_wp2_with fail
  refine HD.out.mono ?_; rintro e w1 ⟨a1, c1, xs, s, rfl, hrest⟩
  go_wp2
  go_ret2
  exact ⟨a1, c1, xs, s, rfl, hrest⟩
/-- A tree, drawn. -/
def OneTreePost (w : World) (e : Ending) (w' : World) : Prop :=
  ∃ (a : Option Addr) (c : Nat) (xs : List En), e = .returned (.slice a xs.length c) ∧ ReadEn w' a c xs ∧ Small xs ∧ xs.length ≤ 25 ∧ ZL (xs.map En.pl) ∧ Below w.heap.size w w'
/-- Two trees, drawn; the first is right. -/
def TwoTreePost (w : World) (e : Ending) (w' : World) : Prop :=
  ∃ (a : Option Addr) (c : Nat) (xs : List En) (a' : Option Addr) (c' : Nat) (ys : List En), e = .returned (.tuple #[.slice a xs.length c, .slice a' ys.length c']) ∧ ReadEn w' a c xs ∧ Small xs ∧ xs.length ≤ 25 ∧ ReadEn w' a' c' ys ∧ Small ys ∧ ys.length ≤ 25 ∧ Below w.heap.size w w'
set_option maxRecDepth 100000 in
set_option maxHeartbeats 4000000 in
theorem drawTreeOk_c (w : World) (a : Option Addr) (n c : Nat) (h : Code w a n c) : Calls Tryd.prog 24 #[.slice a n c] w (OneTreePost w) := by
  obtain ⟨rb, hrb⟩ : ∃ rb, w.heap.size = rb := ⟨_, rfl⟩
  have ho0 := open_c' w a n c h
  rw [hrb] at ho0
  have HO := Lib.hid ho0
  clear h ho0
  go_enter Tryd.func24, Tryd.ntmps24
  go_wp2_with fail
  refine HO.out.mono ?_; rintro e w1 ⟨rfl, hrd, hb⟩
  have HB1 := Lib.hid (hb.mono (by rw [hrb]; exact Nat.le_refl _) : Below w.heap.size w w1)
  have HT := Lib.hid (l2Tree_c w1 rb 0 hrd (by omega))
  clear hrd hb HO
  go_wp2_with fail
  refine HT.out.mono ?_; rintro e w2 ⟨a2, c2, ts, p2, rfl, hd2, htok, hzl, hp2, hrd2, ho2⟩
  have hts : ts.length ≤ 16 := by have := htok.most; rw [List.length_map] at this; exact this
  have hsa := small_nzz (tok_small htok) hzl
  have HBT := Lib.hid (l2Bent_c nzz nzz_good w2 rb p2 hrd2 (by omega) a2 c2 ts hd2 hsa (by omega))
  clear hd2 hrd2
  obtain ⟨m2, hn2⟩ : ∃ n, ts.length = n := ⟨_, rfl⟩
  have HLB2 := Lib.hid hn2
  rw [hn2] at HBT ⊢
  clear hn2
  go_wp2_with fail
  refine HBT.out.mono ?_; rintro e w3 ⟨a3, c3, us, p3, rfl, hd3, hs3, hl3, hp3, hrd3, ho3⟩
  have hm2 := HLB2.out
  clear HBT
  have HBT := Lib.hid (l2Bent_c nzz nzz_good w3 rb p3 hrd3 (by omega) a3 c3 us hd3 hs3 (by omega))
  clear hd3 hrd3
  obtain ⟨m3, hn2⟩ : ∃ n, us.length = n := ⟨_, rfl⟩
  have HLB3 := Lib.hid hn2
  rw [hn2] at HBT ⊢
  clear hn2
  go_wp2_with fail
  refine HBT.out.mono ?_; rintro e w4 ⟨a4, c4, vs, p4, rfl, hd4, hs4, hl4, hp4, hrd4, ho4⟩
  have hm3 := HLB3.out
  clear HBT
  have HB4 := Lib.hid (((ho2.trans ho3).trans ho4).below HB1.out (by omega) HB1.out.size)
  have HR4 := Lib.hid hd4.read
  clear ho2 ho3 ho4 hd4 hrd4 HT
  obtain ⟨m4, hn4⟩ : ∃ n, vs.length = n := ⟨_, rfl⟩
  have HN4 := Lib.hid hn4
  rw [hn4] at hl4 ⊢
  clear hn4
  go_wp2
  go_ret
  exact ⟨a4, c4, vs, by rw [HN4.out]; rfl, HR4.out, hs4.small, by rw [HN4.out]; omega, nzz_zl hs4, HB4.out⟩
set_option maxRecDepth 100000 in
set_option maxHeartbeats 4000000 in
theorem drawTreeSame_c (w : World) (a : Option Addr) (n c : Nat) (h : Code w a n c) : Calls Tryd.prog 23 #[.slice a n c] w (TwoTreePost w) := by
  obtain ⟨rb, hrb⟩ : ∃ rb, w.heap.size = rb := ⟨_, rfl⟩
  have ho0 := open_c' w a n c h
  rw [hrb] at ho0
  have HO := Lib.hid ho0
  clear h ho0
  go_enter Tryd.func23, Tryd.ntmps23
  go_wp2_with fail
  refine HO.out.mono ?_; rintro e w1 ⟨rfl, hrd, hb⟩
  have HB1 := Lib.hid (hb.mono (by rw [hrb]; exact Nat.le_refl _) : Below w.heap.size w w1)
  have HT := Lib.hid (l2Tree_c w1 rb 0 hrd (by omega))
  clear hrd hb HO
  go_wp2_with fail
  refine HT.out.mono ?_; rintro e w2 ⟨a2, c2, ts, p2, rfl, hd2, htok, hzl, hp2, hrd2, ho2⟩
  have hts : ts.length ≤ 16 := by have := htok.most; rw [List.length_map] at this; exact this
  have hsa := small_le (tok_small htok)
  have HDT := Lib.hid hd2
  have HBT := Lib.hid (l2Bent_c le20 le20_good w2 rb p2 hrd2 (by omega) a2 c2 ts hd2 hsa (by omega))
  clear hd2 hrd2
  obtain ⟨m2, hn2⟩ : ∃ n, ts.length = n := ⟨_, rfl⟩
  have HLB2 := Lib.hid hn2
  rw [hn2] at HBT ⊢
  clear hn2
  go_wp2_with fail
  refine HBT.out.mono ?_; rintro e w3 ⟨a3, c3, us, p3, rfl, hd3, hs3, hl3, hp3, hrd3, ho3⟩
  have hm2 := HLB2.out
  clear HBT
  have HBT := Lib.hid (l2Bent_c le20 le20_good w3 rb p3 hrd3 (by omega) a3 c3 us hd3 hs3 (by omega))
  clear hd3 hrd3
  obtain ⟨m3, hn2⟩ : ∃ n, us.length = n := ⟨_, rfl⟩
  have HLB3 := Lib.hid hn2
  rw [hn2] at HBT ⊢
  clear hn2
  go_wp2_with fail
  refine HBT.out.mono ?_; rintro e w4 ⟨a4, c4, vs, p4, rfl, hd4, hs4, hl4, hp4, hrd4, ho4⟩
  have hm3 := HLB3.out
  clear HBT
  have HBT := Lib.hid (l2Bent_c le20 le20_good w4 rb p4 hrd4 (by omega) a4 c4 vs hd4 hs4 (by omega))
  clear hd4 hrd4
  obtain ⟨m4, hn2⟩ : ∃ n, vs.length = n := ⟨_, rfl⟩
  have HLB4 := Lib.hid hn2
  rw [hn2] at HBT ⊢
  clear hn2
  go_wp2_with fail
  refine HBT.out.mono ?_; rintro e w5 ⟨a5, c5, ys, p5, rfl, hd5, hs5, hl5, hp5, hrd5, ho5⟩
  have hm4 := HLB4.out
  clear HBT
  have HBT := Lib.hid (l2Bent_c le20 le20_good w5 rb p5 hrd5 (by omega) a5 c5 ys hd5 hs5 (by omega))
  clear hd5 hrd5
  obtain ⟨m5, hn2⟩ : ∃ n, ys.length = n := ⟨_, rfl⟩
  have HLB5 := Lib.hid hn2
  rw [hn2] at HBT ⊢
  clear hn2
  go_wp2_with fail
  refine HBT.out.mono ?_; rintro e w6 ⟨a6, c6, zs, p6, rfl, hd6, hs6, hl6, hp6, hrd6, ho6⟩
  have hm5 := HLB5.out
  clear HBT
  have HO6 := ((ho3.trans ho4).trans ho5).trans ho6
  have HB6 := Lib.hid ((ho2.trans HO6).below HB1.out (by omega) HB1.out.size)
  have HR2 := Lib.hid (HDT.out.only HO6).read
  have HR6 := Lib.hid hd6.read
  clear ho2 ho3 ho4 ho5 ho6 HO6 hd6 hrd6 HT
  obtain ⟨m6, hn6⟩ : ∃ n, zs.length = n := ⟨_, rfl⟩
  have HN6 := Lib.hid hn6
  rw [hn6] at hl6 ⊢
  clear hn6
  go_wp2
  go_ret2
  exact ⟨a2, c2, ts, a6, c6, zs, by rw [HN6.out, HLB2.out]; rfl, HR2.out, hsa.small, by rw [HLB2.out]; omega, HR6.out, hs6.small, by rw [HN6.out]; omega, HB6.out⟩
/-- What is done, drawn. -/
def OneOpPost (w : World) (e : Ending) (w' : World) : Prop :=
  ∃ (k : Int) (P T D : ByteArray), e = .returned (opV k P T D) ∧ P.size ≤ 20 ∧ T.size ≤ 20 ∧ D.size ≤ 20 ∧ Below w.heap.size w w'
set_option maxRecDepth 100000 in
set_option maxHeartbeats 4000000 in
theorem drawOpOk_c (w : World) (a : Option Addr) (n c : Nat) (h : Code w a n c) : Calls Tryd.prog 25 #[.slice a n c] w (OneOpPost w) := by
  obtain ⟨rb, hrb⟩ : ∃ rb, w.heap.size = rb := ⟨_, rfl⟩
  have hb0 := bellow_alloc w (.cells #[.int .i64 0, .string ⟨#[]⟩, .string ⟨#[]⟩, .string ⟨#[]⟩] 49)
  have hs0 : (w.alloc (.cells #[.int .i64 0, .string ⟨#[]⟩, .string ⟨#[]⟩, .string ⟨#[]⟩] 49)).heap.size = rb + 1 := by rw [← hrb]; simp
  have HBX : Hid (Box4 (w.alloc (.cells #[.int .i64 0, .string ⟨#[]⟩, .string ⟨#[]⟩, .string ⟨#[]⟩] 49)) rb (.int .i64 0) (.string ⟨#[]⟩) (.string ⟨#[]⟩) (.string ⟨#[]⟩)) := by rw [Hid, ← hrb]; exact Box4.new w _ _ _ _ _
  have ho0 := open_c' _ a n c (h.below hb0)
  rw [hs0] at ho0
  have HO := Lib.hid ho0
  have HB0 := Lib.hid hb0
  have HSZ := Lib.hid hs0
  clear h hs0 hb0 ho0
  go_enter Tryd.func25, Tryd.ntmps25
  go_wp2_with fail
  refine HO.out.mono ?_; rintro e w1 ⟨rfl, hrd, hb⟩
  have HX1 := Lib.hid ((HBX.out.only (Only.of_below (by rw [HSZ.out]; exact hb) : Only (rb + 1) _ w1) (by omega)).alloc (.cells #[] 41))
  have HB1 := Lib.hid (HB0.out.trans (hb.mono (by rw [hrb]; omega)))
  have hlt := hrd.lt
  have hd0 : DrawnT (w1.alloc (.cells #[] 41)) (rb + 1) (some ⟨w1.heap.size, 0, none⟩) 0 [] := ⟨w1.heap.size, 0, rfl, hlt, by simp, fun h => absurd h (by simp), Nat.zero_le _, Nat.zero_le _⟩
  have HL := Lib.hid (l2Op_c le20 le20_good (w1.alloc (.cells #[] 41)) (rb + 1) 0 (hrd.alloc _) (by omega) (some ⟨w1.heap.size, 0, none⟩) 0 [] hd0 (fun _ h => by cases h) (by decide))
  have HO1 := Lib.hid ((Only.refl (rb + 1) w1).alloc (.cells #[] 41))
  clear hrd hb HO HBX HB0 hd0 hlt
  go_wp2_with fail
  refine HL.out.mono ?_; rintro e w4 ⟨k, P, T, D, p4, rfl, hP0, hT, hD, _, _, ho4⟩
  have hP := le20_of hP0
  replace hT := goodT_size hT
  have HO4 := HO1.out.trans ho4
  have HX4 := Lib.hid (HX1.out.only ho4 (by omega))
  have hb4 : Below w.heap.size w w4 := HO4.below HB1.out (by omega) HB1.out.size
  have HB8 := Lib.hid ((((hb4.setCell (p := ⟨rb, 0, none⟩) (Nat.le_of_eq hrb) (.int .i64 k)).setCell (p := ⟨rb, 1, none⟩) (Nat.le_of_eq hrb) (.string P)).setCell (p := ⟨rb, 2, none⟩) (Nat.le_of_eq hrb) (.string T)).setCell (p := ⟨rb, 3, none⟩) (Nat.le_of_eq hrb) (.string D))
  have hR8 := Lib.hid ((((HX4.out.set0 (.int .i64 k)).set1 (.string P)).set2 (.string T)).set3 (.string D))
  obtain ⟨r0, r1, r2, r3, rf⟩ := HX4.out
  have rf0 := rf 0
  have rf1 := rf 1
  have rf2 := rf 2
  have rf3 := rf 3
  clear rf ho4 HO4 hb4 HL
  go_wp2
  obtain ⟨q0, q1, q2, q3, _⟩ := hR8.out
  refine bodyPost_ret (v := opV k P T D) (by simp [results, Tryd.results25, go_sem, q0, q1, q2, q3]) rfl ⟨k, P, T, D, rfl, hP, hT, hD, HB8.out⟩
end Go.Proofs.YtobbodbkdcbflaaDoor
namespace Go.Proofs.YtobbodbkdcbflaaDoor
open Go.RowKit
set_option maxHeartbeats 1000000 in
theorem sTreeSame_c (a a' : Option Addr) (c c' : Nat) (xs ys : List En) (r : Bool) (hr : Hid (r = true ↔ xs = ys)) (w : World) (hs : SlF En.cells w a xs) (hs' : SlF En.cells w a' ys) (hx : xs.length ≤ maxLen) (_hy : ys.length ≤ maxLen) :
    Calls Tryd.prog 27 #[.slice a xs.length c, .slice a' ys.length c'] w fun q w' => q = .returned (.bool r) ∧ ∃ m, w' = w.drewN m := by
  unfold maxLen at hx _hy
  by_cases hl : xs.length = ys.length
  · obtain ⟨n, hn⟩ : ∃ n, xs.length = n := ⟨_, rfl⟩
    have hn' : ys.length = n := by rw [← hl, hn]
    rw [hn] at hx ⊢
    rw [hn']
    have HN := Lib.hid hn
    have HN' := Lib.hid hn'
    have HS := Lib.hid hs
    have HS' := Lib.hid hs'
    have HE := Lib.hid (fun (h : ∀ (k : Nat) (x y : En), xs[k]? = some x → ys[k]? = some y → x = y) => differ hl h)
    clear hl hn hn' hs hs' _hy
    go_enter Tryd.func27, Tryd.ntmps27
    go_wp2
    go_loopw [5] (fun i wr => ∃ k : Nat, k ≤ n ∧ i = .int .i64 k ∧ (∀ (j : Nat) (x y : En), j < k → xs[j]? = some x → ys[j]? = some y → x = y) ∧ ∃ m, wr = w.drewN m) (fun i _ => n - (intOf i).toNat)
    case atStart => exact ⟨0, Nat.zero_le _, rfl, fun j _ _ h => absurd h (by omega), 0, rfl⟩
    case round =>
      obtain ⟨k, hk, rfl, hall, m, rfl⟩ := hrel
      have HA := Lib.hid hall
      clear hall
      by_cases hlt : k < n
      · obtain ⟨e, hee⟩ : ∃ e, xs[k]? = some e := ⟨_, List.getElem?_eq_getElem (by rw [HN.out]; exact hlt)⟩
        obtain ⟨f, hff⟩ : ∃ e, ys[k]? = some e := ⟨_, List.getElem?_eq_getElem (by rw [HN'.out]; exact hlt)⟩
        have h2 := HS.out
        have h3 := HS'.out
        obtain ⟨b, off, rfl, _⟩ := h2.addr (by rw [HN.out]; omega)
        obtain ⟨b', off', rfl, _⟩ := h3.addr (by rw [HN'.out]; omega)
        obtain ⟨c0, c1, c2⟩ := en_at h2 k e hee
        obtain ⟨d0, d1, d2⟩ := en_at h3 k f hff
        have HEE := Lib.hid hee
        have HFF := Lib.hid hff
        have i0 : (0 : Int) ≤ (k : Int) := by omega
        have i1 : (k : Int) < (n : Int) := by omega
        clear h2 h3 hee hff
        by_cases hef : e = f
        · subst hef
          go_wp2_with fail
          go_quiet (fail)
          go_wp2
          go_roundw
          case rel => exact ⟨k + 1, by omega, by go_num, fun j x y hj h1 h2 => by
            by_cases ej : j = k
            · subst ej
              rw [HEE.out] at h1
              rw [HFF.out] at h2
              injection h1 with h1; injection h2 with h2
              rw [← h1, ← h2]
            · exact HA.out j x y (by omega) h1 h2, _, rfl⟩
          case measure => simp [intOf]; omega
        · obtain rfl : r = false := by
            cases r
            · rfl
            · have := hr.out.1 rfl
              rw [this, HFF.out] at HEE
              exact absurd (Option.some.inj HEE.out).symm hef
          obtain ⟨p, d, x⟩ := e
          obtain ⟨p', d', x'⟩ := f
          simp only at c0 c1 c2 d0 d1 d2
          by_cases h1 : p = p'
          · subst h1
            by_cases h2 : d = d'
            · subst h2
              have q := bq_no (s := x) (t := x') (fun h => hef (by rw [h]))
              clear hef HEE HFF
              go_wp2_with fail
              go_quiet (fail)
              go_wp2
              go_ret
              exact ⟨rfl, _, World.drewN_drewN _ _ _⟩
            · have q : (d == d') = false := by rw [beq_eq_false_iff_ne]; exact h2
              clear hef HEE HFF h2
              go_wp2_with fail
              go_quiet (fail)
              go_wp2
              go_ret
              exact ⟨rfl, _, World.drewN_drewN _ _ _⟩
          · have q := bq_no h1
            clear hef HEE HFF h1
            go_wp2_with fail
            go_quiet (fail)
            go_wp2
            go_ret
            exact ⟨rfl, _, World.drewN_drewN _ _ _⟩
      · obtain rfl : r = true := hr.out.2 (HE.out (fun j x y h1 h2 => HA.out j x y (by
          have := (List.getElem?_eq_some_iff.1 h1).1
          rw [HN.out] at this; omega) h1 h2))
        go_wp2
        go_ret
        exact ⟨rfl, _, rfl⟩
  · obtain rfl : r = false := by
      cases r
      · rfl
      · exact absurd (congrArg List.length (hr.out.1 rfl)) hl
    obtain ⟨n, hn⟩ : ∃ n, xs.length = n := ⟨_, rfl⟩
    obtain ⟨n', hn'⟩ : ∃ n, ys.length = n := ⟨_, rfl⟩
    rw [hn, hn'] at hl
    rw [hn] at hx ⊢
    rw [hn'] at _hy ⊢
    have q : ((n : Int) != (n' : Int)) = true := by rw [bne_iff_ne]; omega
    clear hr hs hs' hn hn' hl
    go_enter Tryd.func27, Tryd.ntmps27
    go_wp2
    go_ret
    exact ⟨rfl, 0, rfl⟩
set_option maxHeartbeats 1000000 in
theorem equalEnt_c (a a' : Option Addr) (c c' : Nat) (xs ys : List En) (r : Bool) (hr : Hid (r = true ↔ xs = ys)) (w : World) (hs : SlF En.cells w a xs) (hs' : SlF En.cells w a' ys) (hx : xs.length ≤ maxLen) (_hy : ys.length ≤ maxLen) :
    Calls Tryd.prog 63 #[.slice a xs.length c, .slice a' ys.length c'] w fun q w' => q = .returned (.bool r) ∧ ∃ m, w' = w.drewN m := by
  unfold maxLen at hx _hy
  by_cases hl : xs.length = ys.length
  · obtain ⟨n, hn⟩ : ∃ n, xs.length = n := ⟨_, rfl⟩
    have hn' : ys.length = n := by rw [← hl, hn]
    rw [hn] at hx ⊢
    rw [hn']
    have HN := Lib.hid hn
    have HN' := Lib.hid hn'
    have HS := Lib.hid hs
    have HS' := Lib.hid hs'
    have HE := Lib.hid (fun (h : ∀ (k : Nat) (x y : En), xs[k]? = some x → ys[k]? = some y → x = y) => differ hl h)
    clear hl hn hn' hs hs' _hy
    go_enter Tryd.func63, Tryd.ntmps63
    go_wp2
    go_loopw [5, 13] (fun _ i wr => ∃ k : Nat, k ≤ n ∧ i = .int .i64 k ∧ (∀ (j : Nat) (x y : En), j < k → xs[j]? = some x → ys[j]? = some y → x = y) ∧ ∃ m, wr = w.drewN m) (fun _ i _ => n - (intOf i).toNat)
    case atStart => exact ⟨0, Nat.zero_le _, rfl, fun j _ _ h => absurd h (by omega), 0, rfl⟩
    case round =>
      obtain ⟨k, hk, rfl, hall, m, rfl⟩ := hrel
      have HA := Lib.hid hall
      clear hall
      by_cases hlt : k < n
      · obtain ⟨e, hee⟩ : ∃ e, xs[k]? = some e := ⟨_, List.getElem?_eq_getElem (by rw [HN.out]; exact hlt)⟩
        obtain ⟨f, hff⟩ : ∃ e, ys[k]? = some e := ⟨_, List.getElem?_eq_getElem (by rw [HN'.out]; exact hlt)⟩
        have h2 := HS.out
        have h3 := HS'.out
        obtain ⟨b, off, rfl, _⟩ := h2.addr (by rw [HN.out]; omega)
        obtain ⟨b', off', rfl, _⟩ := h3.addr (by rw [HN'.out]; omega)
        obtain ⟨c0, c1, c2⟩ := en_at h2 k e hee
        obtain ⟨d0, d1, d2⟩ := en_at h3 k f hff
        have HEE := Lib.hid hee
        have HFF := Lib.hid hff
        have i0 : (0 : Int) ≤ (k : Int) := by omega
        have i1 : (k : Int) < (n : Int) := by omega
        clear h2 h3 hee hff
        by_cases hef : e = f
        · subst hef
          go_wp2_with fail
          go_quiet (fail)
          go_wp2
          go_roundw
          case rel => exact ⟨k + 1, by omega, by go_num, fun j x y hj h1 h2 => by
            by_cases ej : j = k
            · subst ej
              rw [HEE.out] at h1
              rw [HFF.out] at h2
              injection h1 with h1; injection h2 with h2
              rw [← h1, ← h2]
            · exact HA.out j x y (by omega) h1 h2, _, rfl⟩
          case measure => simp [intOf]; omega
        · obtain rfl : r = false := by
            cases r
            · rfl
            · have := hr.out.1 rfl
              rw [this, HFF.out] at HEE
              exact absurd (Option.some.inj HEE.out).symm hef
          obtain ⟨p, d, x⟩ := e
          obtain ⟨p', d', x'⟩ := f
          simp only at c0 c1 c2 d0 d1 d2
          by_cases h1 : p = p'
          · subst h1
            by_cases h2 : d = d'
            · subst h2
              have q := bq_no (s := x) (t := x') (fun h => hef (by rw [h]))
              clear hef HEE HFF
              go_wp2_with fail
              go_quiet (fail)
              go_wp2
              go_ret
              exact ⟨rfl, _, World.drewN_drewN _ _ _⟩
            · have q : (d == d') = false := by rw [beq_eq_false_iff_ne]; exact h2
              clear hef HEE HFF h2
              go_wp2_with fail
              go_quiet (fail)
              go_wp2
              go_ret
              exact ⟨rfl, _, World.drewN_drewN _ _ _⟩
          · have q := bq_no h1
            clear hef HEE HFF h1
            go_wp2_with fail
            go_quiet (fail)
            go_wp2
            go_ret
            exact ⟨rfl, _, World.drewN_drewN _ _ _⟩
      · obtain rfl : r = true := hr.out.2 (HE.out (fun j x y h1 h2 => HA.out j x y (by
          have := (List.getElem?_eq_some_iff.1 h1).1
          rw [HN.out] at this; omega) h1 h2))
        go_wp2
        go_ret
        exact ⟨rfl, _, rfl⟩
  · obtain rfl : r = false := by
      cases r
      · rfl
      · exact absurd (congrArg List.length (hr.out.1 rfl)) hl
    obtain ⟨n, hn⟩ : ∃ n, xs.length = n := ⟨_, rfl⟩
    obtain ⟨n', hn'⟩ : ∃ n, ys.length = n := ⟨_, rfl⟩
    rw [hn, hn'] at hl
    rw [hn] at hx ⊢
    rw [hn'] at _hy ⊢
    have q : ((n : Int) != (n' : Int)) = true := by rw [bne_iff_ne]; omega
    clear hr hs hs' hn hn' hl
    go_enter Tryd.func63, Tryd.ntmps63
    go_wp2
    go_ret
    exact ⟨rfl, 0, rfl⟩
set_option maxHeartbeats 1000000 in
theorem sLayerSame_c (a a' : Option Addr) (c c' : Nat) (xs ys : List Mk) (r : Bool) (hr : Hid (r = true ↔ xs = ys)) (w : World) (hs : SlF Mk.cells w a xs) (hs' : SlF Mk.cells w a' ys) (hx : xs.length ≤ maxLen) (_hy : ys.length ≤ maxLen) :
    Calls Tryd.prog 12 #[.slice a xs.length c, .slice a' ys.length c'] w fun q w' => q = .returned (.bool r) ∧ ∃ m, w' = w.drewN m := by
  unfold maxLen at hx _hy
  by_cases hl : xs.length = ys.length
  · obtain ⟨n, hn⟩ : ∃ n, xs.length = n := ⟨_, rfl⟩
    have hn' : ys.length = n := by rw [← hl, hn]
    rw [hn] at hx ⊢
    rw [hn']
    have HN := Lib.hid hn
    have HN' := Lib.hid hn'
    have HS := Lib.hid hs
    have HS' := Lib.hid hs'
    have HE := Lib.hid (fun (h : ∀ (k : Nat) (x y : Mk), xs[k]? = some x → ys[k]? = some y → x = y) => differ hl h)
    clear hl hn hn' hs hs' _hy
    go_enter Tryd.func12, Tryd.ntmps12
    go_wp2
    go_loopw [5] (fun i wr => ∃ k : Nat, k ≤ n ∧ i = .int .i64 k ∧ (∀ (j : Nat) (x y : Mk), j < k → xs[j]? = some x → ys[j]? = some y → x = y) ∧ ∃ m, wr = w.drewN m) (fun i _ => n - (intOf i).toNat)
    case atStart => exact ⟨0, Nat.zero_le _, rfl, fun j _ _ h => absurd h (by omega), 0, rfl⟩
    case round =>
      obtain ⟨k, hk, rfl, hall, m, rfl⟩ := hrel
      have HA := Lib.hid hall
      clear hall
      by_cases hlt : k < n
      · obtain ⟨e, hee⟩ : ∃ e, xs[k]? = some e := ⟨_, List.getElem?_eq_getElem (by rw [HN.out]; exact hlt)⟩
        obtain ⟨f, hff⟩ : ∃ e, ys[k]? = some e := ⟨_, List.getElem?_eq_getElem (by rw [HN'.out]; exact hlt)⟩
        have h2 := HS.out
        have h3 := HS'.out
        obtain ⟨b, off, rfl, _⟩ := h2.addr (by rw [HN.out]; omega)
        obtain ⟨b', off', rfl, _⟩ := h3.addr (by rw [HN'.out]; omega)
        obtain ⟨c0, c1, c2⟩ := mk_at h2 k e hee
        obtain ⟨d0, d1, d2⟩ := mk_at h3 k f hff
        have HEE := Lib.hid hee
        have HFF := Lib.hid hff
        have i0 : (0 : Int) ≤ (k : Int) := by omega
        have i1 : (k : Int) < (n : Int) := by omega
        clear h2 h3 hee hff
        by_cases hef : e = f
        · subst hef
          go_wp2_with fail
          go_quiet (fail)
          go_wp2
          go_roundw
          case rel => exact ⟨k + 1, by omega, by go_num, fun j x y hj h1 h2 => by
            by_cases ej : j = k
            · subst ej
              rw [HEE.out] at h1
              rw [HFF.out] at h2
              injection h1 with h1; injection h2 with h2
              rw [← h1, ← h2]
            · exact HA.out j x y (by omega) h1 h2, _, rfl⟩
          case measure => simp [intOf]; omega
        · obtain rfl : r = false := by
            cases r
            · rfl
            · have := hr.out.1 rfl
              rw [this, HFF.out] at HEE
              exact absurd (Option.some.inj HEE.out).symm hef
          obtain ⟨p, d, x⟩ := e
          obtain ⟨p', d', x'⟩ := f
          simp only at c0 c1 c2 d0 d1 d2
          by_cases h1 : p = p'
          · subst h1
            by_cases h2 : d = d'
            · subst h2
              have q := bq_no (s := x) (t := x') (fun h => hef (by rw [h]))
              clear hef HEE HFF
              go_wp2_with fail
              go_quiet (fail)
              go_wp2
              go_ret
              exact ⟨rfl, _, World.drewN_drewN _ _ _⟩
            · have q : (d == d') = false := by rw [beq_eq_false_iff_ne]; exact h2
              clear hef HEE HFF h2
              go_wp2_with fail
              go_quiet (fail)
              go_wp2
              go_ret
              exact ⟨rfl, _, World.drewN_drewN _ _ _⟩
          · have q := bq_no h1
            clear hef HEE HFF h1
            go_wp2_with fail
            go_quiet (fail)
            go_wp2
            go_ret
            exact ⟨rfl, _, World.drewN_drewN _ _ _⟩
      · obtain rfl : r = true := hr.out.2 (HE.out (fun j x y h1 h2 => HA.out j x y (by
          have := (List.getElem?_eq_some_iff.1 h1).1
          rw [HN.out] at this; omega) h1 h2))
        go_wp2
        go_ret
        exact ⟨rfl, _, rfl⟩
  · obtain rfl : r = false := by
      cases r
      · rfl
      · exact absurd (congrArg List.length (hr.out.1 rfl)) hl
    obtain ⟨n, hn⟩ : ∃ n, xs.length = n := ⟨_, rfl⟩
    obtain ⟨n', hn'⟩ : ∃ n, ys.length = n := ⟨_, rfl⟩
    rw [hn, hn'] at hl
    rw [hn] at hx ⊢
    rw [hn'] at _hy ⊢
    have q : ((n : Int) != (n' : Int)) = true := by rw [bne_iff_ne]; omega
    clear hr hs hs' hn hn' hl
    go_enter Tryd.func12, Tryd.ntmps12
    go_wp2
    go_ret
    exact ⟨rfl, 0, rfl⟩
set_option maxHeartbeats 1000000 in
theorem equalMark_c (a a' : Option Addr) (c c' : Nat) (xs ys : List Mk) (r : Bool) (hr : Hid (r = true ↔ xs = ys)) (w : World) (hs : SlF Mk.cells w a xs) (hs' : SlF Mk.cells w a' ys) (hx : xs.length ≤ maxLen) (_hy : ys.length ≤ maxLen) :
    Calls Tryd.prog 43 #[.slice a xs.length c, .slice a' ys.length c'] w fun q w' => q = .returned (.bool r) ∧ ∃ m, w' = w.drewN m := by
  unfold maxLen at hx _hy
  by_cases hl : xs.length = ys.length
  · obtain ⟨n, hn⟩ : ∃ n, xs.length = n := ⟨_, rfl⟩
    have hn' : ys.length = n := by rw [← hl, hn]
    rw [hn] at hx ⊢
    rw [hn']
    have HN := Lib.hid hn
    have HN' := Lib.hid hn'
    have HS := Lib.hid hs
    have HS' := Lib.hid hs'
    have HE := Lib.hid (fun (h : ∀ (k : Nat) (x y : Mk), xs[k]? = some x → ys[k]? = some y → x = y) => differ hl h)
    clear hl hn hn' hs hs' _hy
    go_enter Tryd.func43, Tryd.ntmps43
    go_wp2
    go_loopw [5, 13] (fun _ i wr => ∃ k : Nat, k ≤ n ∧ i = .int .i64 k ∧ (∀ (j : Nat) (x y : Mk), j < k → xs[j]? = some x → ys[j]? = some y → x = y) ∧ ∃ m, wr = w.drewN m) (fun _ i _ => n - (intOf i).toNat)
    case atStart => exact ⟨0, Nat.zero_le _, rfl, fun j _ _ h => absurd h (by omega), 0, rfl⟩
    case round =>
      obtain ⟨k, hk, rfl, hall, m, rfl⟩ := hrel
      have HA := Lib.hid hall
      clear hall
      by_cases hlt : k < n
      · obtain ⟨e, hee⟩ : ∃ e, xs[k]? = some e := ⟨_, List.getElem?_eq_getElem (by rw [HN.out]; exact hlt)⟩
        obtain ⟨f, hff⟩ : ∃ e, ys[k]? = some e := ⟨_, List.getElem?_eq_getElem (by rw [HN'.out]; exact hlt)⟩
        have h2 := HS.out
        have h3 := HS'.out
        obtain ⟨b, off, rfl, _⟩ := h2.addr (by rw [HN.out]; omega)
        obtain ⟨b', off', rfl, _⟩ := h3.addr (by rw [HN'.out]; omega)
        obtain ⟨c0, c1, c2⟩ := mk_at h2 k e hee
        obtain ⟨d0, d1, d2⟩ := mk_at h3 k f hff
        have HEE := Lib.hid hee
        have HFF := Lib.hid hff
        have i0 : (0 : Int) ≤ (k : Int) := by omega
        have i1 : (k : Int) < (n : Int) := by omega
        clear h2 h3 hee hff
        by_cases hef : e = f
        · subst hef
          go_wp2_with fail
          go_quiet (fail)
          go_wp2
          go_roundw
          case rel => exact ⟨k + 1, by omega, by go_num, fun j x y hj h1 h2 => by
            by_cases ej : j = k
            · subst ej
              rw [HEE.out] at h1
              rw [HFF.out] at h2
              injection h1 with h1; injection h2 with h2
              rw [← h1, ← h2]
            · exact HA.out j x y (by omega) h1 h2, _, rfl⟩
          case measure => simp [intOf]; omega
        · obtain rfl : r = false := by
            cases r
            · rfl
            · have := hr.out.1 rfl
              rw [this, HFF.out] at HEE
              exact absurd (Option.some.inj HEE.out).symm hef
          obtain ⟨p, d, x⟩ := e
          obtain ⟨p', d', x'⟩ := f
          simp only at c0 c1 c2 d0 d1 d2
          by_cases h1 : p = p'
          · subst h1
            by_cases h2 : d = d'
            · subst h2
              have q := bq_no (s := x) (t := x') (fun h => hef (by rw [h]))
              clear hef HEE HFF
              go_wp2_with fail
              go_quiet (fail)
              go_wp2
              go_ret
              exact ⟨rfl, _, World.drewN_drewN _ _ _⟩
            · have q : (d == d') = false := by rw [beq_eq_false_iff_ne]; exact h2
              clear hef HEE HFF h2
              go_wp2_with fail
              go_quiet (fail)
              go_wp2
              go_ret
              exact ⟨rfl, _, World.drewN_drewN _ _ _⟩
          · have q := bq_no h1
            clear hef HEE HFF h1
            go_wp2_with fail
            go_quiet (fail)
            go_wp2
            go_ret
            exact ⟨rfl, _, World.drewN_drewN _ _ _⟩
      · obtain rfl : r = true := hr.out.2 (HE.out (fun j x y h1 h2 => HA.out j x y (by
          have := (List.getElem?_eq_some_iff.1 h1).1
          rw [HN.out] at this; omega) h1 h2))
        go_wp2
        go_ret
        exact ⟨rfl, _, rfl⟩
  · obtain rfl : r = false := by
      cases r
      · rfl
      · exact absurd (congrArg List.length (hr.out.1 rfl)) hl
    obtain ⟨n, hn⟩ : ∃ n, xs.length = n := ⟨_, rfl⟩
    obtain ⟨n', hn'⟩ : ∃ n, ys.length = n := ⟨_, rfl⟩
    rw [hn, hn'] at hl
    rw [hn] at hx ⊢
    rw [hn'] at _hy ⊢
    have q : ((n : Int) != (n' : Int)) = true := by rw [bne_iff_ne]; omega
    clear hr hs hs' hn hn' hl
    go_enter Tryd.func43, Tryd.ntmps43
    go_wp2
    go_ret
    exact ⟨rfl, 0, rfl⟩
set_option maxHeartbeats 1000000 in
theorem treeSame_c (a a' : Option Addr) (c c' : Nat) (xs ys : List En) (r : Bool) (hr : Hid (r = true ↔ xs = ys)) (w : World) (hs : SlF En.cells w a xs) (hs' : SlF En.cells w a' ys) (hx : xs.length ≤ maxLen) (hy : ys.length ≤ maxLen) :
    Calls Tryd.prog 26 #[.slice a xs.length c, .slice a' ys.length c'] w fun q w' => q = .returned (.bool r) ∧ ∃ m, w' = w.drewN m := by
  have H := Lib.hid (equalEnt_c a a' c c' xs ys r hr w hs hs' hx hy)
  obtain ⟨n, hn⟩ : ∃ n, xs.length = n := ⟨_, rfl⟩
  obtain ⟨n', hn'⟩ : ∃ n, ys.length = n := ⟨_, rfl⟩
  rw [hn, hn'] at H
  rw [hn, hn']
  clear hr hs hs' hx hy hn hn'
  go_enter Tryd.func26, Tryd.ntmps26
  go_wp2_with fail
  refine H.out.mono ?_
  rintro q W ⟨rfl, m, rfl⟩
  go_wp2
  go_ret
  exact ⟨rfl, _, rfl⟩
set_option maxHeartbeats 1000000 in
theorem layerSame_c (a a' : Option Addr) (c c' : Nat) (xs ys : List Mk) (r : Bool) (hr : Hid (r = true ↔ xs = ys)) (w : World) (hs : SlF Mk.cells w a xs) (hs' : SlF Mk.cells w a' ys) (hx : xs.length ≤ maxLen) (hy : ys.length ≤ maxLen) :
    Calls Tryd.prog 11 #[.slice a xs.length c, .slice a' ys.length c'] w fun q w' => q = .returned (.bool r) ∧ ∃ m, w' = w.drewN m := by
  have H := Lib.hid (equalMark_c a a' c c' xs ys r hr w hs hs' hx hy)
  obtain ⟨n, hn⟩ : ∃ n, xs.length = n := ⟨_, rfl⟩
  obtain ⟨n', hn'⟩ : ∃ n, ys.length = n := ⟨_, rfl⟩
  rw [hn, hn'] at H
  rw [hn, hn']
  clear hr hs hs' hx hy hn hn'
  go_enter Tryd.func11, Tryd.ntmps11
  go_wp2_with fail
  refine H.out.mono ?_
  rintro q W ⟨rfl, m, rfl⟩
  go_wp2
  go_ret
  exact ⟨rfl, _, rfl⟩
end Go.Proofs.YtobbodbkdcbflaaDoor
namespace Go.Proofs.YtobbodbkdcbflaaDoor
open Go.RowKit
/-- What TreeList tells: the names and the code. -/
def MadeSc (L : List Bs) (m : Nat) (w : World) (e : Ending) (w' : World) : Prop :=
  ∃ (v : Value) (ss : List ByteArray), e = .returned (.tuple #[v, .int .i64 m]) ∧ ss.map (·.data.toList) = L ∧ w'.ownsRow w.heap.size 9 1 v ss.length (ss.map Value.string) ∧ Below w.heap.size w w'
open Classical in
noncomputable def tlistC (t : List PE) (q : Bs) : Nat := if TOk t ∧ (q = [47] ∨ pathOkL q = true) then (if q = [47] then 0 else match getL t q with
  | none => 2
  | some e => if e.d then 0 else 3) else 1
noncomputable def tlistL (t : List PE) (q : Bs) : List Bs := if tlistC t q = 0 then kidsL t q else []
theorem tlist_bad {t : List PE} {q : Bs} (h : ¬ (TOk t ∧ (q = [47] ∨ pathOkL q = true))) : tlistC t q = 1 ∧ tlistL t q = [] := by
  have h1 : tlistC t q = 1 := by unfold tlistC; rw [if_neg h]
  exact ⟨h1, by unfold tlistL; rw [h1]; rfl⟩
theorem tlist_ok {xs : List En} {q : ByteArray} (h : TOk (xs.map En.pl)) (hq : q.data.toList = [47] ∨ pathOkL q.data.toList = true) : tlistC (xs.map En.pl) q.data.toList = upC (lgetE xs q) := by
  unfold tlistC lgetE
  rw [if_pos ⟨h, hq⟩]
  by_cases hr : q.data.toList = [47]
  · rw [if_pos hr, if_pos hr]; rfl
  · rw [if_neg hr, if_neg hr, getE_pl]
    cases getE xs q <;> rfl
theorem tlist_0 {t : List PE} {q : Bs} (h : tlistC t q = 0) : tlistL t q = kidsL t q := by unfold tlistL; rw [if_pos h]
theorem tlist_n {t : List PE} {q : Bs} {m : Nat} (h : tlistC t q = m) (hm : m ≠ 0) : tlistL t q = [] := by unfold tlistL; rw [h, if_neg hm]
set_option maxRecDepth 100000 in
set_option maxHeartbeats 8000000 in
theorem treeList_c (a : Option Addr) (c : Nat) (xs : List En) (q : ByteArray) (w : World) (hs : SlF En.cells w a xs) (hxm : xs.length ≤ maxLen) (hq : q.size ≤ maxLen) (hz : ∀ e ∈ xs, e.p.size ≤ maxLen ∧ e.x.size ≤ maxLen) :
    Calls Tryd.prog 32 #[.slice a xs.length c, .string q] w (MadeSc (tlistL (xs.map En.pl) q.data.toList) (tlistC (xs.map En.pl) q.data.toList) w) := by
  have hb := Below.refl w.heap.size w
  have hx16 : TOk (xs.map En.pl) → xs.length ≤ 16 := fun h => by have := h.most; rw [List.length_map] at this; exact this
  obtain ⟨r, hr⟩ := tok_dec xs
  obtain ⟨m, hm⟩ : ∃ m, tlistC (xs.map En.pl) q.data.toList = m := ⟨_, rfl⟩
  obtain ⟨L, hL⟩ : ∃ L, tlistL (xs.map En.pl) q.data.toList = L := ⟨_, rfl⟩
  obtain ⟨o, ho⟩ : ∃ o, tgetE xs q = o := ⟨_, rfl⟩
  have HT := Lib.hid (treeOk_c a c xs r (Lib.hid hr) w hs hxm hz)
  have HG := fun W (h : SlF En.cells W a xs) => Lib.hid (treeGet_c a c xs q o (Lib.hid ho) W h hxm hz)
  have HM := Lib.hid hm
  have HL := Lib.hid hL
  have HO := Lib.hid ho
  have HS := Lib.hid hs
  have HZ := Lib.hid hz
  have HQ := Lib.hid hq
  have HE := strElt
  rw [hm, hL]
  obtain ⟨n, hn⟩ : ∃ n, xs.length = n := ⟨_, rfl⟩
  have HN := Lib.hid hn
  have HALL : Hid (xs.take n = xs) := by rw [Hid, ← hn, List.take_length]
  rw [hn] at HT HG hx16 ⊢
  have GG := Lib.hid HG
  clear hn hm hL ho hs hz hxm HG hq
  cases r with
  | false =>
    have hbad := tlist_bad (q := q.data.toList) (t := xs.map En.pl) (fun h => by have := hr.2 h.1; cases this)
    obtain rfl : m = 1 := HM.out.symm.trans hbad.1
    have HLL : Hid (L = []) := HL.out.symm.trans hbad.2
    clear hr hbad hx16
    go_enter Tryd.func32, Tryd.ntmps32
    go_wp2_with fail
    refine (HT.out).mono ?_; rintro e W ⟨rfl, hq⟩; replace hb := chn hb hq; clear hq
    go_wp2
    go_ret2
    exact ⟨_, [], rfl, HLL.out.symm, World.ownsRow_nil _ _ _ _, by repeat (first | exact hb | refine Below.alloc ?_ (by have := hb.size; simp; try omega) _)⟩
  | true =>
  by_cases hqr : q.data.toList ≠ [47] ∧ pathOkL q.data.toList = false
  · have hbad := tlist_bad (q := q.data.toList) (t := xs.map En.pl) (fun h => by rcases h.2 with h2 | h2; exact hqr.1 h2; rw [hqr.2] at h2; cases h2)
    obtain rfl : m = 1 := HM.out.symm.trans hbad.1
    have HLL : Hid (L = []) := HL.out.symm.trans hbad.2
    have q1 := beq_no hqr.1
    have HP := Lib.hid hqr.2
    clear hr hbad hqr hx16
    go_enter Tryd.func32, Tryd.ntmps32
    go_wp2_with fail
    refine (HT.out).mono ?_; rintro e W ⟨rfl, hq⟩; replace hb := chn hb hq; clear hq
    go_wp2_with fail
    refine (pathOk_c q false HP _ HQ.out).mono ?_; rintro e W ⟨rfl, hq⟩; replace hb := chn hb hq; clear hq
    go_wp2
    go_ret2
    exact ⟨_, [], rfl, HLL.out.symm, World.ownsRow_nil _ _ _ _, by repeat (first | exact hb | refine Below.alloc ?_ (by have := hb.size; simp; try omega) _)⟩
  have hqo : q.data.toList = [47] ∨ pathOkL q.data.toList = true := by
    by_cases h1 : q.data.toList = [47]
    · exact .inl h1
    · right
      cases h2 : pathOkL q.data.toList with
      | true => rfl
      | false => exact absurd ⟨h1, h2⟩ hqr
  have HMO : Hid (m = upC o) := by rw [Hid, ← HM.out, tlist_ok (hr.1 rfl) hqo, ← tget_ok q (hr.1 rfl), HO.out]
  have HPQ : Hid (q.data.toList = [47] ∨ (q.data.toList ≠ [47] ∧ pathOkL q.data.toList = true)) := by
    by_cases h1 : q.data.toList = [47]
    · exact .inl h1
    · exact .inr ⟨h1, hqo.resolve_left h1⟩
  have hx : n ≤ 16 := hx16 (hr.1 rfl)
  clear hqr hqo hr hx16
  rcases HPQ.out with hqq | ⟨hqq, hpp⟩
  · have q1 := beq_yes hqq
    clear hqq
    go_enter Tryd.func32, Tryd.ntmps32
    go_wp2_with fail
    refine (HT.out).mono ?_; rintro e W ⟨rfl, hq⟩; replace hb := chn hb hq; clear hq
    cases o with
    | none =>
      obtain rfl : m = 2 := HMO.out
      have HLL : Hid (L = []) := HL.out.symm.trans (tlist_n HM.out (by decide))
      go_wp2_with fail
      refine ((GG.out _ (HS.out.below hb)).out).mono ?_; rintro e W ⟨rfl, hq⟩; replace hb := chn hb hq; clear hq
      go_wp2
      go_ret2
      exact ⟨_, [], rfl, HLL.out.symm, World.ownsRow_nil _ _ _ _, by repeat (first | exact hb | refine Below.alloc ?_ (by have := hb.size; simp; try omega) _)⟩
    | some d =>
      obtain ⟨dp, dd, dx⟩ := d
      cases dd with
      | false =>
        obtain rfl : m = 3 := HMO.out
        have HLL : Hid (L = []) := HL.out.symm.trans (tlist_n HM.out (by decide))
        go_wp2_with fail
        refine ((GG.out _ (HS.out.below hb)).out).mono ?_; rintro e W ⟨rfl, hq⟩; replace hb := chn hb hq; clear hq
        go_wp2
        go_ret2
        exact ⟨_, [], rfl, HLL.out.symm, World.ownsRow_nil _ _ _ _, by repeat (first | exact hb | refine Below.alloc ?_ (by have := hb.size; simp; try omega) _)⟩
      | true =>
        obtain rfl : m = 0 := HMO.out
        have HLL : Hid (L = kidsL (xs.map En.pl) q.data.toList) := HL.out.symm.trans (tlist_0 HM.out)
        go_wp2_with fail
        refine ((GG.out _ (HS.out.below hb)).out).mono ?_; rintro e W ⟨rfl, hq⟩; replace hb := chn hb hq; clear hq
        have hb0 := hb.alloc hb.size (.cells #[.string dp, .bool true, .string dx] 41)
        have HB0 := Lib.hid hb0
        clear hb0
        go_wp2
        go_loopw [8, 10, 36] (fun v _ i wr => ∃ (k : Nat) (ss : List ByteArray), k ≤ n ∧ i = .int .i64 k ∧ ss.map (·.data.toList) = kidsL ((xs.take k).map En.pl) q.data.toList ∧ wr.ownsRow w.heap.size 9 1 v ss.length (ss.map Value.string) ∧ Below w.heap.size w wr) (fun _ _ i _ => n - (intOf i).toNat)
        case atStart => exact ⟨0, [], Nat.zero_le _, rfl, rfl, World.ownsRow_nil _ _ _ _, HB0.out⟩
        case round =>
          clear hb
          obtain ⟨k, ss, hk, rfl, hss, hown, hb⟩ := hrel
          have HSS := Lib.hid hss
          clear hss
          by_cases hlt : k < n
          · skip
            obtain ⟨e, hee⟩ : ∃ e, xs[k]? = some e := ⟨_, List.getElem?_eq_getElem (by rw [HN.out]; exact hlt)⟩
            have hzz := HZ.out e (List.mem_of_getElem? hee)
            have h2 := HS.out.below hb
            obtain ⟨b, off, rfl, _⟩ := h2.addr (by rw [HN.out]; omega)
            obtain ⟨d0, d1, d2⟩ := en_at h2 k e hee
            have HSN : Hid (kidsL ((xs.take (k + 1)).map En.pl) q.data.toList = kidsL ((xs.take k).map En.pl) q.data.toList ++ if upL e.p.data.toList = q.data.toList then [nameL e.p.data.toList] else []) := by rw [Hid, take_pl xs k e hee, kids_snoc]; rfl
            have hsl : ss.length ≤ k := by
              have h3 := congrArg List.length HSS.out
              have h4 := kids_len ((xs.take k).map En.pl) q.data.toList
              simp only [List.length_map, List.length_take] at h3 h4
              omega
            obtain ⟨ep, ed, ex⟩ := e
            obtain ⟨u, hu, hus⟩ := up_str20 ep
            obtain ⟨m, hm⟩ := name_str20 ep
            clear h2 hee
            have c0 := new_cell wr #[.string ep, .bool ed, .string ex] 41 0 (.string ep) rfl
            have hown0 := hown.alloc (.cells #[.string ep, .bool ed, .string ex] 41)
            replace hb := hb.alloc hb.size (.cells #[.string ep, .bool ed, .string ex] 41)
            clear hown
            by_cases hq : u.data.toList = q.data.toList
            · have q1 := beqs_yes hq
              have HSM : Hid ((ss ++ [m]).map (·.data.toList) = kidsL ((xs.take (k + 1)).map En.pl) q.data.toList) := by
                rw [Hid, HSN.out, if_pos (by rw [hu.out]; exact hq), List.map_append, HSS.out, hm.out]; rfl
              clear hq
              go_wp2_with fail
              refine (pathUp_c ep u hu _ hzz.1).mono ?_; rintro e W ⟨rfl, hq⟩; replace hb := chn hb hq; replace c0 := keepc hq c0; replace hown0 := own_below hown0 hq; clear hq
              go_wp2_with fail
              refine (pathName_c ep m hm _ hzz.1).mono ?_; rintro e W ⟨rfl, hq⟩; replace hb := chn hb hq; replace hown0 := own_below hown0 hq; clear hq
              go_wp2_with (at_builtin; go_must (refine wp_app1 (by rfl) _ _ 54 (by rfl) HE w.heap.size w.heap.size w _ #[.string m] _ _ _ (by rfl) (by rfl) hown0 (by rfl) (by simp [Value.oneCell']) (by omega) hb.size hb (Nat.le_refl _) ?_); intro v' w1 hown1 hbel1 _ _)
              go_roundw
              case rel => exact ⟨k + 1, ss ++ [m], by omega, by go_num, HSM.out, by simpa using hown1, hbel1⟩
              case measure => simp [intOf]; omega
            · have q1 := beqs_no hq
              have HSM : Hid (ss.map (·.data.toList) = kidsL ((xs.take (k + 1)).map En.pl) q.data.toList) := by
                rw [Hid, HSN.out, if_neg (by rw [hu.out]; exact hq), List.append_nil]; exact HSS.out
              clear hq
              go_wp2_with fail
              refine (pathUp_c ep u hu _ hzz.1).mono ?_; rintro e W ⟨rfl, hq⟩; replace hb := chn hb hq; replace hown0 := own_below hown0 hq; clear hq
              go_wp2
              go_roundw
              case rel => exact ⟨k + 1, ss, by omega, by go_num, HSM.out, hown0, hb⟩
              case measure => simp [intOf]; omega
          · obtain rfl : k = n := by omega
            have HF : Hid (ss.map (·.data.toList) = L) := by rw [Hid, HSS.out, HALL.out, HLL.out]
            go_wp2
            go_ret2
            exact ⟨_, ss, rfl, HF.out, hown, hb⟩
  · have q1 := beq_no hqq
    have HP := Lib.hid hpp
    clear hqq hpp
    go_enter Tryd.func32, Tryd.ntmps32
    go_wp2_with fail
    refine (HT.out).mono ?_; rintro e W ⟨rfl, hq⟩; replace hb := chn hb hq; clear hq
    go_wp2_with fail
    refine (pathOk_c q true HP _ HQ.out).mono ?_; rintro e W ⟨rfl, hq⟩; replace hb := chn hb hq; clear hq
    cases o with
    | none =>
      obtain rfl : m = 2 := HMO.out
      have HLL : Hid (L = []) := HL.out.symm.trans (tlist_n HM.out (by decide))
      go_wp2_with fail
      refine ((GG.out _ (HS.out.below hb)).out).mono ?_; rintro e W ⟨rfl, hq⟩; replace hb := chn hb hq; clear hq
      go_wp2
      go_ret2
      exact ⟨_, [], rfl, HLL.out.symm, World.ownsRow_nil _ _ _ _, by repeat (first | exact hb | refine Below.alloc ?_ (by have := hb.size; simp; try omega) _)⟩
    | some d =>
      obtain ⟨dp, dd, dx⟩ := d
      cases dd with
      | false =>
        obtain rfl : m = 3 := HMO.out
        have HLL : Hid (L = []) := HL.out.symm.trans (tlist_n HM.out (by decide))
        go_wp2_with fail
        refine ((GG.out _ (HS.out.below hb)).out).mono ?_; rintro e W ⟨rfl, hq⟩; replace hb := chn hb hq; clear hq
        go_wp2
        go_ret2
        exact ⟨_, [], rfl, HLL.out.symm, World.ownsRow_nil _ _ _ _, by repeat (first | exact hb | refine Below.alloc ?_ (by have := hb.size; simp; try omega) _)⟩
      | true =>
        obtain rfl : m = 0 := HMO.out
        have HLL : Hid (L = kidsL (xs.map En.pl) q.data.toList) := HL.out.symm.trans (tlist_0 HM.out)
        go_wp2_with fail
        refine ((GG.out _ (HS.out.below hb)).out).mono ?_; rintro e W ⟨rfl, hq⟩; replace hb := chn hb hq; clear hq
        have hb0 := hb.alloc hb.size (.cells #[.string dp, .bool true, .string dx] 41)
        have HB0 := Lib.hid hb0
        clear hb0
        go_wp2
        go_loopw [8, 10, 36] (fun v _ i wr => ∃ (k : Nat) (ss : List ByteArray), k ≤ n ∧ i = .int .i64 k ∧ ss.map (·.data.toList) = kidsL ((xs.take k).map En.pl) q.data.toList ∧ wr.ownsRow w.heap.size 9 1 v ss.length (ss.map Value.string) ∧ Below w.heap.size w wr) (fun _ _ i _ => n - (intOf i).toNat)
        case atStart => exact ⟨0, [], Nat.zero_le _, rfl, rfl, World.ownsRow_nil _ _ _ _, HB0.out⟩
        case round =>
          clear hb
          obtain ⟨k, ss, hk, rfl, hss, hown, hb⟩ := hrel
          have HSS := Lib.hid hss
          clear hss
          by_cases hlt : k < n
          · skip
            obtain ⟨e, hee⟩ : ∃ e, xs[k]? = some e := ⟨_, List.getElem?_eq_getElem (by rw [HN.out]; exact hlt)⟩
            have hzz := HZ.out e (List.mem_of_getElem? hee)
            have h2 := HS.out.below hb
            obtain ⟨b, off, rfl, _⟩ := h2.addr (by rw [HN.out]; omega)
            obtain ⟨d0, d1, d2⟩ := en_at h2 k e hee
            have HSN : Hid (kidsL ((xs.take (k + 1)).map En.pl) q.data.toList = kidsL ((xs.take k).map En.pl) q.data.toList ++ if upL e.p.data.toList = q.data.toList then [nameL e.p.data.toList] else []) := by rw [Hid, take_pl xs k e hee, kids_snoc]; rfl
            have hsl : ss.length ≤ k := by
              have h3 := congrArg List.length HSS.out
              have h4 := kids_len ((xs.take k).map En.pl) q.data.toList
              simp only [List.length_map, List.length_take] at h3 h4
              omega
            obtain ⟨ep, ed, ex⟩ := e
            obtain ⟨u, hu, hus⟩ := up_str20 ep
            obtain ⟨m, hm⟩ := name_str20 ep
            clear h2 hee
            have c0 := new_cell wr #[.string ep, .bool ed, .string ex] 41 0 (.string ep) rfl
            have hown0 := hown.alloc (.cells #[.string ep, .bool ed, .string ex] 41)
            replace hb := hb.alloc hb.size (.cells #[.string ep, .bool ed, .string ex] 41)
            clear hown
            by_cases hq : u.data.toList = q.data.toList
            · have q1 := beqs_yes hq
              have HSM : Hid ((ss ++ [m]).map (·.data.toList) = kidsL ((xs.take (k + 1)).map En.pl) q.data.toList) := by
                rw [Hid, HSN.out, if_pos (by rw [hu.out]; exact hq), List.map_append, HSS.out, hm.out]; rfl
              clear hq
              go_wp2_with fail
              refine (pathUp_c ep u hu _ hzz.1).mono ?_; rintro e W ⟨rfl, hq⟩; replace hb := chn hb hq; replace c0 := keepc hq c0; replace hown0 := own_below hown0 hq; clear hq
              go_wp2_with fail
              refine (pathName_c ep m hm _ hzz.1).mono ?_; rintro e W ⟨rfl, hq⟩; replace hb := chn hb hq; replace hown0 := own_below hown0 hq; clear hq
              go_wp2_with (at_builtin; go_must (refine wp_app1 (by rfl) _ _ 54 (by rfl) HE w.heap.size w.heap.size w _ #[.string m] _ _ _ (by rfl) (by rfl) hown0 (by rfl) (by simp [Value.oneCell']) (by omega) hb.size hb (Nat.le_refl _) ?_); intro v' w1 hown1 hbel1 _ _)
              go_roundw
              case rel => exact ⟨k + 1, ss ++ [m], by omega, by go_num, HSM.out, by simpa using hown1, hbel1⟩
              case measure => simp [intOf]; omega
            · have q1 := beqs_no hq
              have HSM : Hid (ss.map (·.data.toList) = kidsL ((xs.take (k + 1)).map En.pl) q.data.toList) := by
                rw [Hid, HSN.out, if_neg (by rw [hu.out]; exact hq), List.append_nil]; exact HSS.out
              clear hq
              go_wp2_with fail
              refine (pathUp_c ep u hu _ hzz.1).mono ?_; rintro e W ⟨rfl, hq⟩; replace hb := chn hb hq; replace hown0 := own_below hown0 hq; clear hq
              go_wp2
              go_roundw
              case rel => exact ⟨k + 1, ss, by omega, by go_num, HSM.out, hown0, hb⟩
              case measure => simp [intOf]; omega
          · obtain rfl : k = n := by omega
            have HF : Hid (ss.map (·.data.toList) = L) := by rw [Hid, HSS.out, HALL.out, HLL.out]
            go_wp2
            go_ret2
            exact ⟨_, ss, rfl, HF.out, hown, hb⟩
theorem own_lit2 {w : World} {o : Obj} {base size : Nat} {e : TypeId} (h : base ≤ w.heap.size) : ((w.alloc o).alloc (.cells #[] e)).ownsRow base e size (.slice (some ⟨w.heap.size + 1, 0, none⟩) 0 0) 0 [] := by
  have h1 := World.ownsRow_lit (base := base) (e := e) (size := size) (w.alloc o) #[] 0 (by simp; omega) (Nat.zero_le _) (by simp)
  have h2 : (w.alloc o).heap.size = w.heap.size + 1 := by simp
  rw [h2] at h1
  exact h1
set_option maxRecDepth 100000 in
set_option maxHeartbeats 8000000 in
theorem sTreeList_c (a : Option Addr) (c : Nat) (xs : List En) (q : ByteArray) (w : World) (hs : SlF En.cells w a xs) (hxm : xs.length ≤ maxLen) (hc : xs.length ≤ c) (hq : q.size ≤ maxLen) (hz : ∀ e ∈ xs, e.p.size ≤ maxLen ∧ e.x.size ≤ maxLen) :
    Calls Tryd.prog 36 #[.slice a xs.length c, .string q] w (MadeSc (tlistL (xs.map En.pl) q.data.toList) (tlistC (xs.map En.pl) q.data.toList) w) := by
  have hb := Below.refl w.heap.size w
  have hx16 : TOk (xs.map En.pl) → xs.length ≤ 16 := fun h => by have := h.most; rw [List.length_map] at this; exact this
  obtain ⟨r, hr⟩ := tok_dec xs
  obtain ⟨m, hm⟩ : ∃ m, tlistC (xs.map En.pl) q.data.toList = m := ⟨_, rfl⟩
  obtain ⟨L, hL⟩ : ∃ L, tlistL (xs.map En.pl) q.data.toList = L := ⟨_, rfl⟩
  obtain ⟨o, ho⟩ : ∃ o, lgetE xs q = o := ⟨_, rfl⟩
  have HT := Lib.hid (sTreeOk_c a c xs r (Lib.hid hr) w hs hxm hc hz)
  have HG := fun W (h : SlF En.cells W a xs) => Lib.hid (l2Get_c a c xs q o (Lib.hid ho) W h hxm)
  have HK := fun W (h : SlF En.cells W a xs) (hx : xs.length ≤ 1000000) => Lib.hid (l2Kids_c a c xs q W h hx hz)
  have HM := Lib.hid hm
  have HL := Lib.hid hL
  have HO := Lib.hid ho
  have HS := Lib.hid hs
  have HQ := Lib.hid hq
  rw [hm, hL]
  obtain ⟨n, hn⟩ : ∃ n, xs.length = n := ⟨_, rfl⟩
  rw [hn] at HT HG HK hx16 ⊢
  have GG := Lib.hid HG
  have GK := Lib.hid HK
  clear hn hm hL ho hs hz hxm HG HK hq hc
  cases r with
  | false =>
    have hbad := tlist_bad (q := q.data.toList) (t := xs.map En.pl) (fun h => by have := hr.2 h.1; cases this)
    obtain rfl : m = 1 := HM.out.symm.trans hbad.1
    have HLL : Hid (L = []) := HL.out.symm.trans hbad.2
    clear hr hbad hx16
    go_enter Tryd.func36, Tryd.ntmps36
    go_wp2_with fail
    refine (HT.out).mono ?_; rintro e W ⟨rfl, hq⟩; replace hb := chn hb hq; clear hq
    go_wp2
    go_ret2
    exact ⟨_, [], rfl, HLL.out.symm, World.ownsRow_lit _ #[] 0 (by have := hb.size; simp; try omega) (Nat.zero_le _) rfl, by repeat (first | exact hb | refine Below.alloc ?_ (by have := hb.size; simp; try omega) _)⟩
  | true =>
  by_cases hqr : q.data.toList ≠ [47] ∧ pathOkL q.data.toList = false
  · have hbad := tlist_bad (q := q.data.toList) (t := xs.map En.pl) (fun h => by rcases h.2 with h2 | h2; exact hqr.1 h2; rw [hqr.2] at h2; cases h2)
    obtain rfl : m = 1 := HM.out.symm.trans hbad.1
    have HLL : Hid (L = []) := HL.out.symm.trans hbad.2
    have q1 := beq_no hqr.1
    have HP := Lib.hid hqr.2
    clear hr hbad hqr hx16
    go_enter Tryd.func36, Tryd.ntmps36
    go_wp2_with fail
    refine (HT.out).mono ?_; rintro e W ⟨rfl, hq⟩; replace hb := chn hb hq; clear hq
    go_wp2_with fail
    refine (sPathOk_c q false HP _ HQ.out).mono ?_; rintro e W ⟨rfl, hq⟩; replace hb := chn hb hq; clear hq
    go_wp2
    go_ret2
    exact ⟨_, [], rfl, HLL.out.symm, World.ownsRow_lit _ #[] 0 (by have := hb.size; simp; try omega) (Nat.zero_le _) rfl, by repeat (first | exact hb | refine Below.alloc ?_ (by have := hb.size; simp; try omega) _)⟩
  have hqo : q.data.toList = [47] ∨ pathOkL q.data.toList = true := by
    by_cases h1 : q.data.toList = [47]
    · exact .inl h1
    · right
      cases h2 : pathOkL q.data.toList with
      | true => rfl
      | false => exact absurd ⟨h1, h2⟩ hqr
  have HMO : Hid (m = upC o) := by rw [Hid, ← HM.out, tlist_ok (hr.1 rfl) hqo, HO.out]
  have HPQ : Hid (q.data.toList = [47] ∨ (q.data.toList ≠ [47] ∧ pathOkL q.data.toList = true)) := by
    by_cases h1 : q.data.toList = [47]
    · exact .inl h1
    · exact .inr ⟨h1, hqo.resolve_left h1⟩
  have hx : n ≤ 16 := hx16 (hr.1 rfl)
  clear hqr hqo hr hx16
  rcases HPQ.out with hqq | ⟨hqq, hpp⟩
  · have q1 := beq_yes hqq
    clear hqq
    go_enter Tryd.func36, Tryd.ntmps36
    go_wp2_with fail
    refine (HT.out).mono ?_; rintro e W ⟨rfl, hq⟩; replace hb := chn hb hq; clear hq
    cases o with
    | none =>
      obtain rfl : m = 2 := HMO.out
      have HLL : Hid (L = []) := HL.out.symm.trans (tlist_n HM.out (by decide))
      go_wp2_with fail
      refine ((GG.out _ (HS.out.below hb)).out).mono ?_; rintro e W ⟨rfl, hq⟩; replace hb := chn hb hq; clear hq
      go_wp2
      go_ret2
      exact ⟨_, [], rfl, HLL.out.symm, own_lit2 hb.size, by repeat (first | exact hb | refine Below.alloc ?_ (by have := hb.size; simp; try omega) _)⟩
    | some d =>
      obtain ⟨dp, dd, dx⟩ := d
      cases dd with
      | false =>
        obtain rfl : m = 3 := HMO.out
        have HLL : Hid (L = []) := HL.out.symm.trans (tlist_n HM.out (by decide))
        go_wp2_with fail
        refine ((GG.out _ (HS.out.below hb)).out).mono ?_; rintro e W ⟨rfl, hq⟩; replace hb := chn hb hq; clear hq
        go_wp2
        go_ret2
        exact ⟨_, [], rfl, HLL.out.symm, own_lit2 hb.size, by repeat (first | exact hb | refine Below.alloc ?_ (by have := hb.size; simp; try omega) _)⟩
      | true =>
        obtain rfl : m = 0 := HMO.out
        have HLL : Hid (L = kidsL (xs.map En.pl) q.data.toList) := HL.out.symm.trans (tlist_0 HM.out)
        go_wp2_with fail
        refine ((GG.out _ (HS.out.below hb)).out).mono ?_; rintro e W ⟨rfl, hq⟩; replace hb := chn hb hq; clear hq
        have HSZ := Lib.hid hb.size
        replace hb := hb.alloc hb.size (.cells #[.string dp, .bool true, .string dx] 41)
        go_wp2_with fail
        refine (GK.out _ (HS.out.below hb) (by omega)).out.mono ?_; rintro e W' ⟨v, ss, rfl, hss, hown, hq⟩
        have HSS := Lib.hid hss
        clear hss
        replace hb := chn hb hq
        go_wp2
        go_ret2
        exact ⟨_, ss, rfl, HSS.out.trans HLL.out.symm, hown.mono (by simp; have := HSZ.out; omega), hb⟩
  · have q1 := beq_no hqq
    have HP := Lib.hid hpp
    clear hqq hpp
    go_enter Tryd.func36, Tryd.ntmps36
    go_wp2_with fail
    refine (HT.out).mono ?_; rintro e W ⟨rfl, hq⟩; replace hb := chn hb hq; clear hq
    go_wp2_with fail
    refine (sPathOk_c q true HP _ HQ.out).mono ?_; rintro e W ⟨rfl, hq⟩; replace hb := chn hb hq; clear hq
    cases o with
    | none =>
      obtain rfl : m = 2 := HMO.out
      have HLL : Hid (L = []) := HL.out.symm.trans (tlist_n HM.out (by decide))
      go_wp2_with fail
      refine ((GG.out _ (HS.out.below hb)).out).mono ?_; rintro e W ⟨rfl, hq⟩; replace hb := chn hb hq; clear hq
      go_wp2
      go_ret2
      exact ⟨_, [], rfl, HLL.out.symm, own_lit2 hb.size, by repeat (first | exact hb | refine Below.alloc ?_ (by have := hb.size; simp; try omega) _)⟩
    | some d =>
      obtain ⟨dp, dd, dx⟩ := d
      cases dd with
      | false =>
        obtain rfl : m = 3 := HMO.out
        have HLL : Hid (L = []) := HL.out.symm.trans (tlist_n HM.out (by decide))
        go_wp2_with fail
        refine ((GG.out _ (HS.out.below hb)).out).mono ?_; rintro e W ⟨rfl, hq⟩; replace hb := chn hb hq; clear hq
        go_wp2
        go_ret2
        exact ⟨_, [], rfl, HLL.out.symm, own_lit2 hb.size, by repeat (first | exact hb | refine Below.alloc ?_ (by have := hb.size; simp; try omega) _)⟩
      | true =>
        obtain rfl : m = 0 := HMO.out
        have HLL : Hid (L = kidsL (xs.map En.pl) q.data.toList) := HL.out.symm.trans (tlist_0 HM.out)
        go_wp2_with fail
        refine ((GG.out _ (HS.out.below hb)).out).mono ?_; rintro e W ⟨rfl, hq⟩; replace hb := chn hb hq; clear hq
        have HSZ := Lib.hid hb.size
        replace hb := hb.alloc hb.size (.cells #[.string dp, .bool true, .string dx] 41)
        go_wp2_with fail
        refine (GK.out _ (HS.out.below hb) (by omega)).out.mono ?_; rintro e W' ⟨v, ss, rfl, hss, hown, hq⟩
        have HSS := Lib.hid hss
        clear hss
        replace hb := chn hb hq
        go_wp2
        go_ret2
        exact ⟨_, ss, rfl, HSS.out.trans HLL.out.symm, hown.mono (by simp; have := HSZ.out; omega), hb⟩
end Go.Proofs.YtobbodbkdcbflaaDoor
namespace Go.Proofs.YtobbodbkdcbflaaDoor
open Go.RowKit
/-- Two trees held against one another. -/
theorem sameR_c (a a' : Option Addr) (c c' n n' : Nat) (xs ys : List En) (r : Bool) (hr : Hid (r = true ↔ xs = ys)) (w : World) (hn : xs.length = n) (hn' : ys.length = n') (hs : SlF En.cells w a xs) (hs' : SlF En.cells w a' ys) (hx : n ≤ 1000) (hy : n' ≤ 1000) :
    Calls Tryd.prog 26 #[.slice a n c, .slice a' n' c'] w fun e w' => e = .returned (.bool r) ∧ Below w.heap.size w w' := by
  subst hn hn'
  exact (treeSame_c a a' c c' xs ys r hr w hs hs' (by unfold maxLen; omega) (by unfold maxLen; omega)).mono fun _ _ ⟨h1, m, h2⟩ => ⟨h1, h2 ▸ below_dr w m⟩
/-- TreeGet, as the laws meet it. -/
theorem getT_c (a : Option Addr) (c n : Nat) (xs : List En) (q : ByteArray) (o : Option En) (ho : Hid (tgetE xs q = o)) (w : World) (hn : xs.length = n) (hs : SlF En.cells w a xs) (hx : n ≤ 1000) (hz : Small xs) :
    Calls Tryd.prog 20 #[.slice a n c, .string q] w fun e w' => e = .returned (optV o) ∧ Below w.heap.size w w' := by
  subst hn
  exact treeGet_c a c xs q o ho w hs (by unfold maxLen; omega) hz.max
theorem sGetT_c (a : Option Addr) (c n : Nat) (xs : List En) (q : ByteArray) (o : Option En) (ho : Hid (tgetE xs q = o)) (w : World) (hn : xs.length = n) (hs : SlF En.cells w a xs) (hc : n ≤ c) (hx : n ≤ 1000) (hz : Small xs) :
    Calls Tryd.prog 21 #[.slice a n c, .string q] w fun e w' => e = .returned (optV o) ∧ Below w.heap.size w w' := by
  subst hn
  exact sTreeGet_c a c xs q o ho w hs (by unfold maxLen; omega) hc hz.max
theorem okS_c (a : Option Addr) (c n : Nat) (xs : List En) (r : Bool) (hr : Hid (r = true ↔ TOk (xs.map En.pl))) (w : World) (hn : xs.length = n) (hs : SlF En.cells w a xs) (hc : n ≤ c) (hx : n ≤ 1000) (hz : Small xs) :
    Calls Tryd.prog 22 #[.slice a n c] w fun e w' => e = .returned (.bool r) ∧ Below w.heap.size w w' := by
  subst hn
  exact sTreeOk_c a c xs r hr w hs (by unfold maxLen; omega) hc hz.max
theorem okI_c (a : Option Addr) (c n : Nat) (xs : List En) (r : Bool) (hr : Hid (r = true ↔ TOk (xs.map En.pl))) (w : World) (hn : xs.length = n) (hs : SlF En.cells w a xs) (hx : n ≤ 1000) (hz : Small xs) :
    Calls Tryd.prog 28 #[.slice a n c] w fun e w' => e = .returned (.bool r) ∧ Below w.heap.size w w' := by
  subst hn
  exact treeOk_c a c xs r hr w hs (by unfold maxLen; omega) hz.max
theorem tget_right {xs : List En} {q : ByteArray} (h : TOk (xs.map En.pl)) (hq : pathOkL q.data.toList = true) : tgetE xs q = getE xs q := by
  rw [tget_ok q h, lgetE, if_neg (path_ne_root hq)]
/-- What TreeGet tells, in one shape. -/
theorem opt_one (o : Option En) : ∃ (ep ex : ByteArray) (ed th : Bool), optV o = .tuple #[.agg #[.string ep, .bool ed, .string ex], .bool th] ∧ ((o = none ∧ th = false) ∨ (th = true ∧ o = some ⟨ep, ed, ex⟩)) := by
  cases o with
  | none => exact ⟨⟨#[]⟩, ⟨#[]⟩, false, false, rfl, .inl ⟨rfl, rfl⟩⟩
  | some e => exact ⟨e.p, e.x, e.d, true, rfl, .inr ⟨rfl, rfl⟩⟩
theorem ReadEn.cap {w : World} {a : Option Addr} {c : Nat} {xs : List En} (h : ReadEn w a c xs) : xs.length ≤ c := by
  obtain ⟨b, off, _, _, _, h4, _⟩ := h; exact h4
theorem getE_some {xs : List En} {q : ByteArray} {e : En} (h : getE xs q = some e) : e ∈ xs ∧ e.p = q := by
  induction xs with
  | nil => cases h
  | cons a r ih =>
    unfold getE at h
    split at h
    · next hq => injection h with h; subst h; exact ⟨by simp, bytes_eq hq⟩
    · have := ih h; exact ⟨by simp [this.1], this.2⟩
theorem getE_ok {xs : List En} (h : TOk (xs.map En.pl)) {e : En} (he : e ∈ xs) : getE xs e.p = some e := by
  have h1 := getL_mem h.ord (List.mem_map_of_mem he)
  have h2 : getL (xs.map En.pl) e.p.data.toList = some e.pl := h1
  rw [getE_pl] at h2
  cases hx : getE xs e.p with
  | none => rw [hx] at h2; cases h2
  | some f => rw [hx] at h2; injection h2 with h2; rw [En.pl_inj h2]
end Go.Proofs.YtobbodbkdcbflaaDoor
namespace Go.Proofs.YtobbodbkdcbflaaDoor
open Go.RowKit
def mdig (k : Nat) (acc : Bs) : Bs := if k = 0 then acc else mdig (k / 10) (UInt8.ofNat (48 + k % 10) :: acc)
termination_by k
decreasing_by omega
/-- The mark of number k. -/
def mtext (k : Nat) : ByteArray := ⟨(109 :: mdig k []).toArray⟩
def MtRel (k : Nat) (i o : Value) : Prop := ∃ (j : Nat) (acc : ByteArray), acc.size + j ≤ k ∧ i = .int .i64 j ∧ o = .string acc ∧ mdig j acc.data.toList = mdig k []
/-- A slice of texts that can be read. -/
def SlS (w : World) (a : Option Addr) (ss : List ByteArray) : Prop :=
  0 < ss.length → ∃ b off, a = some ⟨b, off, none⟩ ∧ b < w.heap.size ∧ ∀ k s, ss[k]? = some s → w.cell? ⟨b, off + k, none⟩ = some (.string s)
theorem SlS.below {w w' : World} {a : Option Addr} {ss : List ByteArray} (h : SlS w a ss) (hb : Below w.heap.size w w') : SlS w' a ss := fun hn => by
  obtain ⟨b, off, e, hlt, hc⟩ := h hn
  exact ⟨b, off, e, Nat.lt_of_lt_of_le hlt hb.size, fun k s hk => (hb.cell (p := ⟨b, off + k, none⟩) hlt).trans (hc k s hk)⟩
theorem own_sls {w : World} {B : Nat} {t : TypeId} {a : Option Addr} {c n : Nat} {ss : List ByteArray} (h : w.ownsRow B t 1 (.slice a n c) n (ss.map Value.string)) (hn : ss.length = n) : SlS w a ss := fun h0 => by
  rcases h.2 with ⟨_, h1⟩ | ⟨g, cap, cur, e, _, hh, _⟩
  · omega
  · injection e with e1 e2 e3
    subst e1; subst e3
    have hl : g < w.heap.size := by
      rcases Nat.lt_or_ge g w.heap.size with h4 | h4
      · exact h4
      · rw [Array.getElem?_eq_none h4] at hh; cases hh
    refine ⟨g, 0, rfl, hl, fun k s hk => ?_⟩
    have h2 := h.cellAt k (by have := (List.getElem?_eq_some_iff.1 hk).1; omega)
    rw [Nat.zero_add, h2, List.getElem?_map, hk]; rfl
/-- The texts that marking leaves. -/
def MarkedT (k i : Nat) (L : List Value) : Prop := ∀ j, j < i → L[j]? = some (.string (mtext (k + j)))
theorem MarkedT.more {k i : Nat} {L : List Value} (h : MarkedT k i L) (hi : i < L.length) : MarkedT k (i + 1) (L.set i (.string (mtext (k + i)))) := fun j hj => by
  by_cases e : j = i
  · subst e; rw [List.getElem?_set_self hi]
  · rw [List.getElem?_set_ne (Ne.symm e)]; exact h j (by omega)
/-- What marking leaves of entries. -/
def MarkedE (k i : Nat) (L : List Value) : Prop := ∀ j, j < i → L[j * 3]? = some (.string (mtext (k + 3 * j))) ∧ L[j * 3 + 1]? = some (.bool (decide ((k + 3 * j + 1) % 3 = 0))) ∧ L[j * 3 + 2]? = some (.string (mtext (k + 3 * j + 2)))
/-- What marking leaves of marks. -/
def MarkedM (k i : Nat) (L : List Value) : Prop := ∀ j, j < i → L[j * 3]? = some (.string (mtext (k + 3 * j))) ∧ L[j * 3 + 1]? = some (.int .i64 ((k : Int) + 3 * j + 1)) ∧ L[j * 3 + 2]? = some (.string (mtext (k + 3 * j + 2)))
theorem set_three {L : List Value} {i : Nat} (h : i * 3 + 3 ≤ L.length) (a b c : Value) :
    (∀ j, j < i → ∀ q, q < 3 → (((L.set (i * 3) a).set (i * 3 + 1) b).set (i * 3 + 2) c)[j * 3 + q]? = L[j * 3 + q]?) ∧
    (((L.set (i * 3) a).set (i * 3 + 1) b).set (i * 3 + 2) c)[i * 3]? = some a ∧ (((L.set (i * 3) a).set (i * 3 + 1) b).set (i * 3 + 2) c)[i * 3 + 1]? = some b ∧ (((L.set (i * 3) a).set (i * 3 + 1) b).set (i * 3 + 2) c)[i * 3 + 2]? = some c := by
  refine ⟨fun j hj q hq => ?_, ?_, ?_, ?_⟩
  · rw [List.getElem?_set_ne (by omega), List.getElem?_set_ne (by omega), List.getElem?_set_ne (by omega)]
  · rw [List.getElem?_set_ne (by omega), List.getElem?_set_ne (by omega), List.getElem?_set_self (by omega)]
  · rw [List.getElem?_set_ne (by omega), List.getElem?_set_self (by simp; omega)]
  · rw [List.getElem?_set_self (by simp; omega)]
theorem MarkedE.more {k i : Nat} {L : List Value} (h : MarkedE k i L) (hi : i * 3 + 3 ≤ L.length) : MarkedE k (i + 1) (((L.set (i * 3) (.string (mtext (k + 3 * i)))).set (i * 3 + 1) (.bool (decide ((k + 3 * i + 1) % 3 = 0)))).set (i * 3 + 2) (.string (mtext (k + 3 * i + 2)))) := fun j hj => by
  obtain ⟨h0, h1, h2, h3⟩ := set_three hi (.string (mtext (k + 3 * i))) (.bool (decide ((k + 3 * i + 1) % 3 = 0))) (.string (mtext (k + 3 * i + 2)))
  by_cases e : j = i
  · subst e; exact ⟨h1, h2, h3⟩
  · have hji : j < i := by omega
    obtain ⟨g1, g2, g3⟩ := h j hji
    exact ⟨(h0 j hji 0 (by omega)).trans g1, (h0 j hji 1 (by omega)).trans g2, (h0 j hji 2 (by omega)).trans g3⟩
theorem MarkedM.more {k i : Nat} {L : List Value} (h : MarkedM k i L) (hi : i * 3 + 3 ≤ L.length) : MarkedM k (i + 1) (((L.set (i * 3) (.string (mtext (k + 3 * i)))).set (i * 3 + 1) (.int .i64 ((k : Int) + 3 * i + 1))).set (i * 3 + 2) (.string (mtext (k + 3 * i + 2)))) := fun j hj => by
  obtain ⟨h0, h1, h2, h3⟩ := set_three hi (.string (mtext (k + 3 * i))) (.int .i64 ((k : Int) + 3 * i + 1)) (.string (mtext (k + 3 * i + 2)))
  by_cases e : j = i
  · subst e; exact ⟨h1, h2, h3⟩
  · have hji : j < i := by omega
    obtain ⟨g1, g2, g3⟩ := h j hji
    exact ⟨(h0 j hji 0 (by omega)).trans g1, (h0 j hji 1 (by omega)).trans g2, (h0 j hji 2 (by omega)).trans g3⟩
end Go.Proofs.YtobbodbkdcbflaaDoor
namespace Go.Proofs.YtobbodbkdcbflaaDoor
open Go.RowKit
theorem strs_inj : ∀ {a b : List ByteArray}, a.map (·.data.toList) = b.map (·.data.toList) → a = b
  | [], [], _ => rfl
  | [], _ :: _, h => by simp at h
  | _ :: _, [], h => by simp at h
  | x :: a, y :: b, h => by
    simp only [List.map_cons, List.cons.injEq] at h
    rw [bytes_eq h.1, strs_inj h.2]
theorem mem_strs {ss : List ByteArray} {s : ByteArray} : s.data.toList ∈ ss.map (·.data.toList) ↔ s ∈ ss := by
  rw [List.mem_map]
  constructor
  · rintro ⟨x, hx, he⟩; rw [← bytes_eq he]; exact hx
  · exact fun h => ⟨s, h, rfl⟩
set_option maxHeartbeats 2000000 in
theorem wpIn_c (a : Option Addr) (c n : Nat) (ss : List ByteArray) (s : ByteArray) (r : Bool) (hr : Hid (r = true ↔ s ∈ ss)) (w : World) (hn : ss.length = n) (hs : SlS w a ss) (hx : n ≤ 2000000) :
    Calls Tryd.prog 33 #[.slice a n c, .string s] w fun e w' => e = .returned (.bool r) ∧ Below w.heap.size w w' := by
  have HS := Lib.hid hs
  have HN := Lib.hid hn
  clear hs hn
  go_enter Tryd.func33, Tryd.ntmps33
  go_wp2
  go_loopw [5] (fun i wr => ∃ j : Nat, j ≤ n ∧ i = .int .i64 j ∧ s ∉ ss.take j ∧ Below w.heap.size w wr) (fun i _ => n - (intOf i).toNat)
  case atStart => exact ⟨0, Nat.zero_le _, rfl, by simp, Below.refl _ _⟩
  case round =>
    obtain ⟨j, hj, rfl, hno, hb⟩ := hrel
    have HNO := Lib.hid hno
    clear hno
    by_cases hlt : j < n
    · obtain ⟨x, hxx⟩ : ∃ x, ss[j]? = some x := ⟨_, List.getElem?_eq_getElem (by rw [HN.out]; exact hlt)⟩
      obtain ⟨b, off, rfl, _, hcs⟩ := (HS.out.below hb) (by rw [HN.out]; omega)
      have d0 := hcs j x hxx
      have i0 : (0 : Int) ≤ (j : Int) := by omega
      have i1 : (j : Int) < (n : Int) := by omega
      have HM := Lib.hid (List.mem_of_getElem? hxx)
      have HTS : Hid (ss.take (j + 1) = ss.take j ++ [x]) := by rw [Hid, List.take_add_one, hxx]; rfl
      clear hcs hxx
      by_cases he : x = s
      · obtain rfl : r = true := hr.out.2 (he ▸ HM.out)
        have hbe := beqs_yes (congrArg (·.data.toList) he)
        clear he
        go_wp2
        go_ret
        exact ⟨rfl, by first | exact hb | exact drw hb _⟩
      · have hbe := beqs_no (fun h => he (bytes_eq h))
        go_wp2
        go_roundw
        case rel => exact ⟨j + 1, by omega, by go_num, by rw [HTS.out, List.mem_append, List.mem_singleton]; exact fun h => h.elim HNO.out (fun h => he h.symm), by first | exact hb | exact drw hb _⟩
        case measure => simp [intOf]; omega
    · obtain rfl : j = n := by omega
      obtain rfl : r = false := by
        cases r with
        | false => rfl
        | true => have h1 := HNO.out; rw [List.take_of_length_le (by rw [HN.out]; exact Nat.le_refl _)] at h1; exact absurd (hr.out.1 rfl) h1
      go_wp2
      go_ret
      exact ⟨rfl, hb⟩
set_option maxHeartbeats 2000000 in
theorem wpWords_c (a a' : Option Addr) (c c' n n' : Nat) (ss ts : List ByteArray) (r : Bool) (hr : Hid (r = true ↔ ss = ts)) (w : World) (hn : ss.length = n) (hn' : ts.length = n') (hs : SlS w a ss) (hs' : SlS w a' ts) (hx : n ≤ 2000000) :
    Calls Tryd.prog 37 #[.slice a n c, .slice a' n' c'] w fun e w' => e = .returned (.bool r) ∧ Below w.heap.size w w' := by
  have HS := Lib.hid hs
  have HS' := Lib.hid hs'
  have HN := Lib.hid hn
  have HN' := Lib.hid hn'
  by_cases hnn : n = n'
  · subst hnn
    clear hs hs' hn hn'
    go_enter Tryd.func37, Tryd.ntmps37
    go_wp2
    go_loopw [5] (fun i wr => ∃ j : Nat, j ≤ n ∧ i = .int .i64 j ∧ ss.take j = ts.take j ∧ Below w.heap.size w wr) (fun i _ => n - (intOf i).toNat)
    case atStart => exact ⟨0, Nat.zero_le _, rfl, rfl, Below.refl _ _⟩
    case round =>
      obtain ⟨j, hj, rfl, hsm, hb⟩ := hrel
      have HSM := Lib.hid hsm
      clear hsm
      by_cases hlt : j < n
      · obtain ⟨x, hxx⟩ : ∃ x, ss[j]? = some x := ⟨_, List.getElem?_eq_getElem (by rw [HN.out]; exact hlt)⟩
        obtain ⟨y, hyy⟩ : ∃ x, ts[j]? = some x := ⟨_, List.getElem?_eq_getElem (by rw [HN'.out]; exact hlt)⟩
        obtain ⟨b, off, rfl, _, hcs⟩ := (HS.out.below hb) (by rw [HN.out]; omega)
        obtain ⟨b', off', rfl, _, hcs'⟩ := (HS'.out.below hb) (by rw [HN'.out]; omega)
        have d0 := hcs j x hxx
        have d1 := hcs' j y hyy
        have i0 : (0 : Int) ≤ (j : Int) := by omega
        have i1 : (j : Int) < (n : Int) := by omega
        have HX : Hid (ss.take (j + 1) = ss.take j ++ [x]) := by rw [Hid, List.take_add_one, hxx]; rfl
        have HY : Hid (ts.take (j + 1) = ts.take j ++ [y]) := by rw [Hid, List.take_add_one, hyy]; rfl
        have HXX := Lib.hid hxx
        have HYY := Lib.hid hyy
        clear hcs hcs' hxx hyy
        by_cases he : x = y
        · have hbe := beqs_yes (congrArg (·.data.toList) he)
          go_wp2_with fail
          go_quiet (fail)
          go_wp2
          go_roundw
          case rel => exact ⟨j + 1, by omega, by go_num, by rw [HX.out, HY.out, HSM.out, he], by first | exact hb | exact drw hb _⟩
          case measure => simp [intOf]; omega
        · have hbe := beqs_no (fun h => he (bytes_eq h))
          obtain rfl : r = false := by
            cases r with
            | false => rfl
            | true => have h1 := hr.out.1 rfl; rw [h1, HYY.out] at HXX; exact absurd (Option.some.inj HXX.out).symm he
          clear he
          go_wp2_with fail
          go_quiet (fail)
          go_wp2
          go_ret
          exact ⟨rfl, by first | exact hb | exact drw hb _⟩
      · obtain rfl : j = n := by omega
        obtain rfl : r = true := hr.out.2 (by
          have h1 := HSM.out
          rw [List.take_of_length_le (by rw [HN.out]; exact Nat.le_refl _), List.take_of_length_le (by rw [HN'.out]; exact Nat.le_refl _)] at h1
          exact h1)
        go_wp2
        go_ret
        exact ⟨rfl, hb⟩
  · obtain rfl : r = false := by
      cases r with
      | false => rfl
      | true => have h1 := hr.out.1 rfl; exact absurd (by rw [← hn, ← hn', h1]) hnn
    have hne : ((n : Int) != (n' : Int)) = true := by rw [bne_iff_ne]; omega
    clear hs hs' hn hn'
    go_enter Tryd.func37, Tryd.ntmps37
    go_wp2
    go_ret
    exact ⟨rfl, Below.refl _ _⟩
end Go.Proofs.YtobbodbkdcbflaaDoor
namespace Go.Proofs.YtobbodbkdcbflaaDoor
open Go.RowKit
theorem less_pre (c a b : Bs) : Op.bytesLess (c ++ a) (c ++ b) = Op.bytesLess a b := by
  induction c with
  | nil => rfl
  | cons x r ih =>
    rw [List.cons_append, List.cons_append, less_cons, ih]
    simp
theorem name_less {p q : Bs} (hp : pathOkL p = true) (hq : pathOkL q = true) (hu : upL p = upL q) (h : Op.bytesLess p q = true) : Op.bytesLess (nameL p) (nameL q) = true := by
  obtain ⟨h1, h2, _⟩ := law_path hp
  obtain ⟨k1, k2, _⟩ := law_path hq
  rw [← h2, ← k2] at h
  unfold joinL at h
  rw [if_pos h1, if_pos k1, hu] at h
  split at h
  · have := less_pre [47] (nameL p) (nameL q); rw [← this]; exact h
  · have := less_pre (upL q ++ [47]) (nameL p) (nameL q)
    rw [List.append_assoc, List.append_assoc] at this
    rw [← this]; exact h
theorem kids_in {t : List PE} (h : TOk t) {q n : Bs} (hn : n ∈ kidsL t q) : joinOkL q n = true ∧ ∃ e ∈ t, e.p = joinL q n := by
  unfold kidsL at hn
  obtain ⟨e, he, rfl⟩ := List.mem_map.1 hn
  obtain ⟨h1, h2⟩ := List.mem_filter.1 he
  rw [beq_iff_eq] at h2
  obtain ⟨h3, h4, _⟩ := law_path (h.pth h1)
  rw [h2] at h3 h4
  exact ⟨h3, e, h1, h4.symm⟩
theorem kids_ord {t : List PE} (h : TOk t) (q : Bs) : (kidsL t q).Pairwise fun a b => Op.bytesLess a b = true := by
  unfold kidsL
  rw [List.pairwise_map]
  have h1 : (t.filter fun e => upL e.p == q).Pairwise fun a b => Op.bytesLess a.p b.p = true := List.Pairwise.filter _ h.ordP
  refine List.Pairwise.imp_of_mem ?_ h1
  intro a b ha hb hl
  obtain ⟨ha1, ha2⟩ := List.mem_filter.1 ha
  obtain ⟨hb1, hb2⟩ := List.mem_filter.1 hb
  rw [beq_iff_eq] at ha2 hb2
  exact name_less (h.pth ha1) (h.pth hb1) (ha2.trans hb2.symm) hl
theorem kids_cons (e : PE) (s : List PE) (q : Bs) : (kidsL (e :: s) q).length = (if upL e.p = q then 1 else 0) + (kidsL s q).length := by
  unfold kidsL
  rw [List.filter_cons]
  by_cases h : upL e.p = q
  · rw [if_pos (by simpa using h), if_pos h, List.map_cons, List.length_cons]; omega
  · rw [if_neg (by simpa using h), if_neg h]; omega
theorem sum_add {α : Type} (f g : α → Nat) (t : List α) : (t.map fun x => f x + g x).sum = (t.map f).sum + (t.map g).sum := by
  induction t with
  | nil => rfl
  | cons a r ih => simp only [List.map_cons, List.sum_cons, ih]; omega
theorem sum_zero {α : Type} (f : α → Nat) (t : List α) (h : ∀ x ∈ t, f x = 0) : (t.map f).sum = 0 := by
  induction t with
  | nil => rfl
  | cons a r ih => rw [List.map_cons, List.sum_cons, h a (by simp), ih (fun x hx => h x (by simp [hx]))]
theorem sum_one {t : List PE} (h : OrdP PE.p t) (q : Bs) : (t.map fun f => if q = f.p then 1 else 0).sum = if (∃ f ∈ t, f.p = q) then 1 else 0 := by
  induction t with
  | nil => simp
  | cons a r ih =>
    obtain ⟨h1, h2⟩ := ordP_cons.1 h
    rw [List.map_cons, List.sum_cons, ih h2]
    have hx : (∃ f ∈ a :: r, f.p = q) ↔ a.p = q ∨ ∃ f ∈ r, f.p = q := by
      constructor
      · rintro ⟨f, hf, hp⟩
        rcases List.mem_cons.1 hf with rfl | hf
        · exact .inl hp
        · exact .inr ⟨f, hf, hp⟩
      · rintro (hp | ⟨f, hf, hp⟩)
        · exact ⟨a, List.mem_cons_self, hp⟩
        · exact ⟨f, List.mem_cons_of_mem _ hf, hp⟩
    by_cases hq : q = a.p
    · have hn : ¬ ∃ f ∈ r, f.p = q := fun ⟨f, hf, hp⟩ => less_ne (h1 f hf) (by rw [hp, hq])
      simp only [hq.symm, hx, hn, if_true, or_false, if_false]
    · have hq' : ¬ a.p = q := fun e => hq e.symm
      simp only [hq, hx, hq', false_or, if_false, Nat.zero_add]
theorem kids_total {t : List PE} (h : OrdP PE.p t) (hr : ∀ f ∈ t, f.p ≠ [47]) : ∀ s : List PE, (∀ e ∈ s, upL e.p = [47] ∨ ∃ f ∈ t, f.p = upL e.p) → (kidsL s [47]).length + (t.map fun f => (kidsL s f.p).length).sum = s.length
  | [], _ => by
    have := sum_zero (fun f : PE => (kidsL [] f.p).length) t (fun _ _ => rfl)
    rw [this]; rfl
  | e :: s, hs => by
    have ih := kids_total h hr s (fun x hx => hs x (by simp [hx]))
    have h1 : (t.map fun f => (kidsL (e :: s) f.p).length) = t.map fun f => (if upL e.p = f.p then 1 else 0) + (kidsL s f.p).length := List.map_congr_left fun f _ => kids_cons e s f.p
    rw [h1, sum_add, kids_cons, sum_one h, List.length_cons]
    rcases hs e (by simp) with h2 | ⟨f, hf, h2⟩
    · rw [if_pos h2, if_neg (by rintro ⟨f, hf, hp⟩; exact hr f hf (hp.trans h2))]; omega
    · rw [if_neg (fun h3 => hr f hf (h2.trans h3)), if_pos ⟨f, hf, h2⟩]; omega
/-- How many stand in the root and in the first directories. -/
def sumT (t : List PE) (j : Nat) : Nat := (kidsL t [47]).length + ((t.take j).map fun f => (kidsL t f.p).length).sum
theorem sumT_all {t : List PE} (h : TOk t) {n : Nat} (hn : t.length = n) : sumT t n = n := by
  have h1 := kids_total h.ordP (fun f hf => path_ne_root (h.pth hf)) t (fun e he => (h.par he).imp id (fun ⟨f, hf, h2, _⟩ => ⟨f, hf, h2⟩))
  unfold sumT
  rw [List.take_of_length_le (by omega), h1, hn]
theorem sumT_snoc {t : List PE} {j : Nat} {e : PE} (he : t[j]? = some e) : sumT t (j + 1) = sumT t j + (kidsL t e.p).length := by
  unfold sumT
  rw [List.take_add_one, he]
  simp; omega
theorem sumT_le {t : List PE} (h : TOk t) (j : Nat) : sumT t j ≤ t.length := by
  have h1 := sumT_all h rfl
  have h2 : sumT t t.length = sumT t j + ((t.drop j).map fun f => (kidsL t f.p).length).sum := by
    unfold sumT
    rw [List.take_of_length_le (Nat.le_refl _)]
    have h3 : (t.map fun f => (kidsL t f.p).length).sum = ((t.take j ++ t.drop j).map fun f => (kidsL t f.p).length).sum := by rw [List.take_append_drop]
    rw [h3, List.map_append, List.sum_append]; omega
  omega
theorem tlist_entry {t : List PE} (h : TOk t) {e : PE} (he : e ∈ t) : tlistC t e.p = (if e.d = true then 0 else 3) ∧ tlistL t e.p = kidsL t e.p := by
  have hp := h.pth he
  have hg : getL t e.p = some e := h.get.2 ⟨he, rfl⟩
  have hc : tlistC t e.p = if e.d = true then 0 else 3 := by
    unfold tlistC
    rw [if_pos ⟨h, .inr hp⟩, if_neg (path_ne_root hp), hg]
  refine ⟨hc, ?_⟩
  by_cases hd : e.d = true
  · exact tlist_0 (by rw [hc, if_pos hd])
  · rw [kids_file h hp hg (by simpa using hd)]
    unfold tlistL
    rw [if_neg (by rw [hc, if_neg hd]; decide)]
theorem tlist_root {t : List PE} (h : TOk t) : tlistC t [47] = 0 ∧ tlistL t [47] = kidsL t [47] := by
  have hc : tlistC t [47] = 0 := by unfold tlistC; rw [if_pos ⟨h, .inl rfl⟩, if_pos rfl]
  exact ⟨hc, tlist_0 hc⟩
theorem name_len {q n : Bs} (h : joinOkL q n = true) : n.length ≤ 3 := by
  obtain ⟨_, _, _, h1, _⟩ := (joinOk_iff q n).1 h
  exact ((nameOkL_iff n).1 h1).2.1
theorem pair_at {α : Type} {R : α → α → Prop} {l : List α} (h : l.Pairwise R) {j : Nat} {x y : α} (hx : l[j]? = some x) (hy : l[j + 1]? = some y) : R x y := by
  obtain ⟨h1, h2⟩ := List.getElem?_eq_some_iff.1 hx
  obtain ⟨h3, h4⟩ := List.getElem?_eq_some_iff.1 hy
  rw [← h2, ← h4]
  exact List.pairwise_iff_getElem.1 h j (j + 1) h1 h3 (by omega)
set_option maxRecDepth 100000 in
set_option maxHeartbeats 8000000 in
theorem lawTreeList_w (w : World) (a : Option Addr) (n c : Nat) (h : Code w a n c) : Calls Tryd.prog 8 #[.slice a n c] w (TrueB w) := by
  have hn := h.2.2
  by_cases hbig : 1048576 < n
  · clear h
    go_enter Tryd.func8, Tryd.ntmps8
    go_wp2
    go_ret
    exact ⟨rfl, Below.refl _ _⟩
  have HD := Lib.hid (drawTreeList_c w a n c h)
  clear h
  go_enter Tryd.func8, Tryd.ntmps8
  go_wp2_with fail
  refine HD.out.mono ?_; rintro e W1 ⟨a1, c1, xs, s, rfl, hR, hz, hx, hs, hb⟩
  have hcn := hR.cap
  obtain ⟨n1, hn1⟩ : ∃ m, xs.length = m := ⟨_, rfl⟩
  rw [hn1] at hx hcn ⊢
  have HN1 := Lib.hid hn1
  have HZ := Lib.hid hz
  obtain ⟨o, ho⟩ : ∃ o, tgetE xs s = o := ⟨_, rfl⟩
  obtain ⟨ep, ex, ed, th, hov, hos⟩ := opt_one o
  have HO := Lib.hid ho
  have HOS := Lib.hid hos
  obtain ⟨rt, hrt⟩ := tok_dec xs
  have HRT := Lib.hid hrt
  have HG := Lib.hid (fun W (h : SlF En.cells W a1 xs) => getT_c a1 c1 n1 xs s o (Lib.hid ho) W HN1.out h (by omega) HZ.out)
  have HSG := Lib.hid (fun W (h : SlF En.cells W a1 xs) => sGetT_c a1 c1 n1 xs s o (Lib.hid ho) W HN1.out h hcn (by omega) HZ.out)
  have HTK := Lib.hid (fun W (h : SlF En.cells W a1 xs) => okS_c a1 c1 n1 xs rt (Lib.hid hrt) W HN1.out h hcn (by omega) HZ.out)
  rw [hov] at HG HSG
  clear hn1 hz HD ho hov hos hrt
  have hsm : s.size ≤ maxLen := by unfold maxLen; omega
  have HTL := Lib.hid (fun (q : ByteArray) (hq : q.size ≤ maxLen) W (h : SlF En.cells W a1 xs) => treeList_c a1 c1 xs q W h (by rw [HN1.out]; unfold maxLen; omega) hq HZ.out.max)
  have HTS := Lib.hid (fun W (h : SlF En.cells W a1 xs) => sTreeList_c a1 c1 xs s W h (by rw [HN1.out]; unfold maxLen; omega) (by rw [HN1.out]; exact hcn) hsm HZ.out.max)
  rw [HN1.out] at HTL HTS
  obtain ⟨C, hC⟩ : ∃ C, tlistC (xs.map En.pl) s.data.toList = C := ⟨_, rfl⟩
  obtain ⟨L, hL⟩ : ∃ L, tlistL (xs.map En.pl) s.data.toList = L := ⟨_, rfl⟩
  have HC := Lib.hid hC
  have HL := Lib.hid hL
  have HT1 := Lib.hid (fun W h => HTL.out s hsm W h)
  rw [hC, hL] at HTS HT1
  clear hC hL
  go_wp2_with fail
  refine (HT1.out _ hR.sl).mono ?_; rintro e W2 ⟨v2, ss, rfl, hss, hov, hq⟩; replace hb := chn hb hq; replace hR := hR.below hq; clear hq HT1
  obtain ⟨a2, c2, rfl⟩ := own_shape hov
  have hsl := own_sls hov rfl
  have HSS := Lib.hid hss
  have hkb : ss.length ≤ 25 := by
    have h1 := congrArg List.length (hss.trans HL.out.symm)
    have h2 : (tlistL (xs.map En.pl) s.data.toList).length ≤ xs.length := by
      unfold tlistL
      split
      · have := kids_len (xs.map En.pl) s.data.toList; rwa [List.length_map] at this
      · exact Nat.zero_le _
    have h3 := HN1.out
    rw [List.length_map] at h1
    omega
  obtain ⟨m, hm⟩ : ∃ m, ss.length = m := ⟨_, rfl⟩
  have HM := Lib.hid hm
  rw [hm] at hkb ⊢
  clear hss hov hm
  go_wp2_with fail
  refine (HTS.out _ hR.sl).mono ?_; rintro e W3 ⟨v3, ss3, rfl, hss3, hov3, hq⟩; replace hb := chn hb hq; replace hR := hR.below hq; replace hsl := hsl.below hq; clear hq HTS
  obtain ⟨a3, c3, rfl⟩ := own_shape hov3
  have hsl3 := own_sls hov3 rfl
  obtain rfl : ss3 = ss := strs_inj (hss3.trans HSS.out.symm)
  rw [HM.out]
  clear hss3 hov3
  have hcc : ((C : Int) != (C : Int)) = false := by rw [bne_eq_false_iff_eq]
  go_wp2_with fail
  refine (wpWords_c a2 a3 c2 c3 m m ss3 ss3 true (Lib.hid ⟨fun _ => rfl, fun _ => rfl⟩) _ HM.out HM.out hsl hsl3 (by omega)).mono ?_; rintro e W4 ⟨rfl, hq⟩; replace hb := chn hb hq; replace hR := hR.below hq; replace hsl := hsl.below hq; clear hq hsl3
  go_wp2_with fail
  refine (HG.out _ hR.sl).mono ?_; rintro e W5 ⟨rfl, hq⟩; replace hb := chn hb hq; replace hR := hR.below hq; replace hsl := hsl.below hq; clear hq HG HSG
  have y0 := new_cell W5 #[.string ep, .bool ed, .string ex] 41 0 _ rfl
  have y1 := new_cell W5 #[.string ep, .bool ed, .string ex] 41 1 _ rfl
  have y2 := new_cell W5 #[.string ep, .bool ed, .string ex] 41 2 _ rfl
  replace hb := hb.alloc hb.size (.cells #[.string ep, .bool ed, .string ex] 41)
  replace hR := hR.below (bellow_alloc W5 (.cells #[.string ep, .bool ed, .string ex] 41))
  replace hsl := hsl.below (bellow_alloc W5 (.cells #[.string ep, .bool ed, .string ex] 41))
  go_wp2_with fail
  refine (HTK.out _ hR.sl).mono ?_; rintro e W6 ⟨rfl, hq⟩; replace hb := chn hb hq; replace hR := hR.below hq; replace hsl := hsl.below hq; replace y1 := keepc hq y1; clear hq HTK y0 y2
  by_cases hgood : TOk (xs.map En.pl) ∧ (s.data.toList = [47] ∨ pathOkL s.data.toList = true)
  · obtain ⟨htok, hsp⟩ := hgood
    obtain rfl : rt = true := HRT.out.2 htok
    have hCU := tlist_ok htok hsp
    rw [HC.out, ← tget_ok s htok, HO.out] at hCU
    have HTOK := Lib.hid htok
    have HCU := Lib.hid hCU
    have HSP := Lib.hid hsp
    clear HRT hCU htok hsp
    have HPK : Hid (pathOkL s.data.toList = true → Calls Tryd.prog 38 #[.string s] W6 fun e w' => e = .returned (.bool true) ∧ Below W6.heap.size W6 w') := fun h => pathOk_c s true (Lib.hid h) W6 hsm
    by_cases hroot : s = ⟨#[47]⟩
    · have hbe := beq_yes (s := s) (t := [47]) (by rw [hroot])
      clear hroot
      have hCU := HCU.out
      have htok := HTOK.out
      have hsp := HSP.out
      clear HCU HSP
      rcases HOS.out with ⟨h1, h2⟩ | ⟨h1, h2⟩
      · subst h2
        rw [h1] at hCU
        obtain rfl : C = 2 := hCU
        obtain rfl : m = 0 := by
          have h3 := HSS.out
          rw [← HL.out, tlist_n HC.out (by decide)] at h3
          rw [← HM.out, List.map_eq_nil_iff.1 h3]; rfl
        clear h1 hsp htok
        go_wp2
        go_ret
        exact ⟨rfl, hb⟩
      · subst h1
        rw [h2] at hCU
        cases ed with
        | false =>
          obtain rfl : C = 3 := hCU
          obtain rfl : m = 0 := by
            have h3 := HSS.out
            rw [← HL.out, tlist_n HC.out (by decide)] at h3
            rw [← HM.out, List.map_eq_nil_iff.1 h3]; rfl
          clear h2 hsp htok
          go_wp2
          go_ret
          exact ⟨rfl, hb⟩
        | true =>
          obtain rfl : C = 0 := hCU
          have hkl := HSS.out
          rw [← HL.out, tlist_0 HC.out] at hkl
          have HKI : Hid (∀ x ∈ ss3, joinOkL s.data.toList x.data.toList = true ∧ ∃ e ∈ xs, joinL s.data.toList x.data.toList = e.p.data.toList) := fun x hx => by
            have h3 : x.data.toList ∈ kidsL (xs.map En.pl) s.data.toList := by rw [← hkl]; exact List.mem_map_of_mem hx
            obtain ⟨h4, f, hf, h5⟩ := kids_in htok h3
            obtain ⟨e, he, rfl⟩ := List.mem_map.1 hf
            exact ⟨h4, e, he, h5.symm⟩
          have HKO : Hid (∀ (j : Nat) (x y : ByteArray), ss3[j]? = some x → ss3[j + 1]? = some y → Op.bytesLess x.toList y.toList = true) := fun j x y hx hy => by
            rw [less_of']
            have h3 := kids_ord htok s.data.toList
            rw [← hkl, List.pairwise_map] at h3
            exact pair_at h3 hx hy
          have HTR := Lib.hid (HTL.out ⟨#[47]⟩ (by decide))
          have hroot := tlist_root htok
          rw [show (⟨#[47]⟩ : ByteArray).data.toList = [47] from rfl, hroot.1, hroot.2] at HTR
          have HR0 := Lib.hid hR
          have HB0 := Lib.hid hb
          have HSL := Lib.hid hsl
          clear h2 hsp htok hkl hroot hR hb hsl HPK
          go_wp2
          go_loopw [11] (fun i wr => ∃ j : Nat, j ≤ m ∧ i = .int .i64 j ∧ Below W6.heap.size W6 wr) (fun i _ => m - (intOf i).toNat)
          case atStart => exact ⟨0, Nat.zero_le _, rfl, Below.refl _ _⟩
          case round =>
            obtain ⟨j, hj, rfl, hb⟩ := hrel
            by_cases hlt : j < m
            · obtain ⟨x, hxx⟩ : ∃ x, ss3[j]? = some x := ⟨_, List.getElem?_eq_getElem (by rw [HM.out]; exact hlt)⟩
              obtain ⟨hjo, e, hee, hej⟩ := HKI.out x (List.mem_of_getElem? hxx)
              have hxl : x.size ≤ 3 := by have := name_len hjo; rwa [size_data] at this
              have hHS := HSL.out.below hb
              obtain ⟨b, off, rfl, _, hcs⟩ := hHS (by rw [HM.out]; omega)
              have d0 := hcs j x hxx
              have HPJ := Lib.hid (fun W => pathJoin_c s x e.p true (Lib.hid hej) (Lib.hid hjo) W (by omega) (by omega))
              have HGE := Lib.hid (fun W (h : SlF En.cells W a1 xs) => getT_c a1 c1 n1 xs e.p (some e) (Lib.hid (by rw [tget_right HTOK.out (HTOK.out.pth (List.mem_map_of_mem hee)), getE_ok HTOK.out hee])) W HN1.out h (by omega) HZ.out)
              obtain ⟨fp, fd, fx⟩ := e
              have HXX := Lib.hid hxx
              have hRR := HR0.out.below hb
              have i0 : (0 : Int) ≤ (j : Int) := by omega
              have i1 : (j : Int) < (m : Int) := by omega
              clear hee hej hjo hxx hHS
              cases j with
              | zero =>
                rw [Nat.add_zero] at d0
                clear hcs
                go_wp2_with fail
                refine (HPJ.out _).mono ?_; rintro e V1 ⟨rfl, hq⟩; replace hb := chn hb hq; replace hRR := hRR.below hq; replace d0 := keepc hq d0; clear hq HPJ
                go_wp2_with fail
                refine (HGE.out _ hRR.sl).mono ?_; rintro e V2 ⟨rfl, hq⟩; replace hb := chn hb hq; replace d0 := keepc hq d0; clear hq HGE hRR
                have hq := bellow_alloc V2 (.cells #[.string fp, .bool fd, .string fx] 41)
                replace hb := hb.alloc hb.size (.cells #[.string fp, .bool fd, .string fx] 41); replace d0 := keepc hq d0; clear hq
                go_wp2_with fail
                go_quiet (fail)
                go_wp2
                go_roundw
                case rel => exact ⟨1, by omega, by go_num, by first | exact hb | exact drw hb _⟩
                case measure => simp [intOf]; omega
              | succ k =>
                obtain ⟨y, hyy⟩ : ∃ y, ss3[k]? = some y := ⟨_, List.getElem?_eq_getElem (by rw [HM.out]; omega)⟩
                have d1 := hcs k y hyy
                have hle := HKO.out k y x hyy HXX.out
                have i2 : ((k + 1 : Nat) : Int) - 1 = (k : Int) := by omega
                have i3 : (0 : Int) ≤ (k : Int) := by omega
                have i4 : (k : Int) < (m : Int) := by omega
                have i5 : (0 : Int) < ((k + 1 : Nat) : Int) := by omega
                clear hcs hyy
                go_wp2_with fail
                refine (HPJ.out _).mono ?_; rintro e V1 ⟨rfl, hq⟩; replace hb := chn hb hq; replace hRR := hRR.below hq; replace d0 := keepc hq d0; replace d1 := keepc hq d1; clear hq HPJ
                go_wp2_with fail
                refine (HGE.out _ hRR.sl).mono ?_; rintro e V2 ⟨rfl, hq⟩; replace hb := chn hb hq; replace d0 := keepc hq d0; replace d1 := keepc hq d1; clear hq HGE hRR
                have hq := bellow_alloc V2 (.cells #[.string fp, .bool fd, .string fx] 41)
                replace hb := hb.alloc hb.size (.cells #[.string fp, .bool fd, .string fx] 41); replace d0 := keepc hq d0; replace d1 := keepc hq d1; clear hq
                go_wp2_with fail
                go_quiet (fail)
                go_wp2
                go_roundw
                case rel => exact ⟨k + 1 + 1, by omega, by go_num, by first | exact hb | exact drw hb _⟩
                case measure => simp [intOf]; omega
            · obtain rfl : j = m := by omega
              have hbX := chn HB0.out hb
              have hRR := HR0.out.below hb
              clear hb
              go_wp2_with fail
              refine (HTR.out _ hRR.sl).mono ?_; rintro e V1 ⟨v7, ss7, rfl, hss7, hov7, hq⟩; replace hbX := chn hbX hq; replace hRR := hRR.below hq; clear hq HTR
              obtain ⟨a7, c7, rfl⟩ := own_shape hov7
              have h0 : ss7.length = sumT (xs.map En.pl) 0 := by
                have := congrArg List.length hss7
                rw [List.length_map] at this
                rw [this]; rfl
              rw [h0]
              have HR7 := Lib.hid hRR
              have HB7 := Lib.hid hbX
              clear hss7 hov7 h0 hRR hbX
              go_wp2
              go_loopw [18, 19] (fun k i wr => ∃ j : Nat, j ≤ n1 ∧ i = .int .i64 j ∧ k = .int .i64 (sumT (xs.map En.pl) j : Nat) ∧ Below V1.heap.size V1 wr) (fun _ i _ => n1 - (intOf i).toNat)
              case atStart => exact ⟨0, Nat.zero_le _, rfl, rfl, Below.refl _ _⟩
              case round =>
                obtain ⟨j, hj, rfl, rfl, hb⟩ := hrel
                by_cases hlt : j < n1
                · obtain ⟨e, hee⟩ : ∃ e, xs[j]? = some e := ⟨_, List.getElem?_eq_getElem (by rw [HN1.out]; exact hlt)⟩
                  have hem := List.mem_of_getElem? hee
                  have hemp : e.pl ∈ xs.map En.pl := List.mem_map_of_mem hem
                  obtain ⟨hc1, hl1⟩ := tlist_entry HTOK.out hemp
                  have hep : e.p.size ≤ maxLen := (HZ.out.max e hem).1
                  have HTE := Lib.hid (HTL.out e.p hep)
                  rw [show e.p.data.toList = e.pl.p from rfl, hc1, hl1] at HTE
                  have hS1 := sumT_snoc (t := xs.map En.pl) (j := j) (e := e.pl) (by rw [List.getElem?_map, hee]; rfl)
                  have hS2 := sumT_le HTOK.out (j + 1)
                  rw [List.length_map, HN1.out] at hS2
                  have hRR := HR7.out.below hb
                  have hslx := hRR.sl
                  obtain ⟨b, off, rfl, _⟩ := hslx.addr (by rw [HN1.out]; omega)
                  obtain ⟨d0, d1, d2⟩ := en_at hslx j e hee
                  have i0 : (0 : Int) ≤ (j : Int) := by omega
                  have i1 : (j : Int) < (n1 : Int) := by omega
                  have hpd : e.pl.d = e.d := rfl
                  rw [hpd] at HTE
                  obtain ⟨fp, fd, fx⟩ := e
                  clear hee hem hemp hc1 hl1 hslx hpd d2
                  go_wp2_with fail
                  refine (HTE.out _ hRR.sl).mono ?_; rintro e V2 ⟨v8, ss8, rfl, hss8, hov8, hq⟩; replace hb := chn hb hq; replace d0 := keepc hq d0; replace d1 := keepc hq d1; clear hq HTE hRR
                  obtain ⟨a8, c8, rfl⟩ := own_shape hov8
                  obtain ⟨l8, hl8⟩ : ∃ l, ss8.length = l := ⟨_, rfl⟩
                  have h8 : (kidsL (xs.map En.pl) (En.pl ⟨fp, fd, fx⟩).p).length = l8 := by rw [← hss8, List.length_map, hl8]
                  rw [h8] at hS1
                  rw [hl8]
                  rw [hS1] at hS2
                  have HS1 := Lib.hid hS1
                  obtain ⟨S, hS⟩ : ∃ S, sumT (xs.map En.pl) j = S := ⟨_, rfl⟩
                  rw [hS] at HS1 hS2 ⊢
                  clear hss8 hov8 h8 hl8 hS1 hS
                  cases fd with
                  | true =>
                    go_wp2
                    go_roundw
                    case rel => exact ⟨j + 1, by omega, by go_num, by rw [HS1.out]; go_num, by first | exact hb | exact drw hb _⟩
                    case measure => simp [intOf]; omega
                  | false =>
                    go_wp2
                    go_roundw
                    case rel => exact ⟨j + 1, by omega, by go_num, by rw [HS1.out]; go_num, by first | exact hb | exact drw hb _⟩
                    case measure => simp [intOf]; omega
                · obtain rfl : j = n1 := by omega
                  have hbX := chn HB7.out hb
                  have hfin := sumT_all HTOK.out (show (xs.map En.pl).length = j by rw [List.length_map]; exact HN1.out)
                  rw [hfin]
                  clear hb hfin
                  go_wp2
                  go_ret
                  exact ⟨rfl, hbX⟩
    · have hbe : (s.toList == [47]) = false := by rw [Lib.toList_data]; simpa using fun h => hroot (bytes_eq h)
      have hpk := HPK.out (HSP.out.resolve_left (fun h => hroot (bytes_eq h)))
      have HPK2 := Lib.hid hpk
      clear hpk
      go_wp2_with fail
      refine HPK2.out.mono ?_; rintro e W7 ⟨rfl, hq⟩; replace hb := chn hb hq; replace hR := hR.below hq; replace hsl := hsl.below hq; replace y1 := keepc hq y1; clear hq HPK2
      have hCU := HCU.out
      have htok := HTOK.out
      have hsp := HSP.out
      clear HCU HSP
      rcases HOS.out with ⟨h1, h2⟩ | ⟨h1, h2⟩
      · subst h2
        rw [h1] at hCU
        obtain rfl : C = 2 := hCU
        obtain rfl : m = 0 := by
          have h3 := HSS.out
          rw [← HL.out, tlist_n HC.out (by decide)] at h3
          rw [← HM.out, List.map_eq_nil_iff.1 h3]; rfl
        clear h1 hsp htok
        go_wp2
        go_ret
        exact ⟨rfl, hb⟩
      · subst h1
        rw [h2] at hCU
        cases ed with
        | false =>
          obtain rfl : C = 3 := hCU
          obtain rfl : m = 0 := by
            have h3 := HSS.out
            rw [← HL.out, tlist_n HC.out (by decide)] at h3
            rw [← HM.out, List.map_eq_nil_iff.1 h3]; rfl
          clear h2 hsp htok
          go_wp2
          go_ret
          exact ⟨rfl, hb⟩
        | true =>
          obtain rfl : C = 0 := hCU
          have hkl := HSS.out
          rw [← HL.out, tlist_0 HC.out] at hkl
          have HKI : Hid (∀ x ∈ ss3, joinOkL s.data.toList x.data.toList = true ∧ ∃ e ∈ xs, joinL s.data.toList x.data.toList = e.p.data.toList) := fun x hx => by
            have h3 : x.data.toList ∈ kidsL (xs.map En.pl) s.data.toList := by rw [← hkl]; exact List.mem_map_of_mem hx
            obtain ⟨h4, f, hf, h5⟩ := kids_in htok h3
            obtain ⟨e, he, rfl⟩ := List.mem_map.1 hf
            exact ⟨h4, e, he, h5.symm⟩
          have HKO : Hid (∀ (j : Nat) (x y : ByteArray), ss3[j]? = some x → ss3[j + 1]? = some y → Op.bytesLess x.toList y.toList = true) := fun j x y hx hy => by
            rw [less_of']
            have h3 := kids_ord htok s.data.toList
            rw [← hkl, List.pairwise_map] at h3
            exact pair_at h3 hx hy
          have HTR := Lib.hid (HTL.out ⟨#[47]⟩ (by decide))
          have hroot := tlist_root htok
          rw [show (⟨#[47]⟩ : ByteArray).data.toList = [47] from rfl, hroot.1, hroot.2] at HTR
          have HR0 := Lib.hid hR
          have HB0 := Lib.hid hb
          have HSL := Lib.hid hsl
          clear h2 hsp htok hkl hroot hR hb hsl HPK
          go_wp2
          go_loopw [11] (fun i wr => ∃ j : Nat, j ≤ m ∧ i = .int .i64 j ∧ Below W7.heap.size W7 wr) (fun i _ => m - (intOf i).toNat)
          case atStart => exact ⟨0, Nat.zero_le _, rfl, Below.refl _ _⟩
          case round =>
            obtain ⟨j, hj, rfl, hb⟩ := hrel
            by_cases hlt : j < m
            · obtain ⟨x, hxx⟩ : ∃ x, ss3[j]? = some x := ⟨_, List.getElem?_eq_getElem (by rw [HM.out]; exact hlt)⟩
              obtain ⟨hjo, e, hee, hej⟩ := HKI.out x (List.mem_of_getElem? hxx)
              have hxl : x.size ≤ 3 := by have := name_len hjo; rwa [size_data] at this
              have hHS := HSL.out.below hb
              obtain ⟨b, off, rfl, _, hcs⟩ := hHS (by rw [HM.out]; omega)
              have d0 := hcs j x hxx
              have HPJ := Lib.hid (fun W => pathJoin_c s x e.p true (Lib.hid hej) (Lib.hid hjo) W (by omega) (by omega))
              have HGE := Lib.hid (fun W (h : SlF En.cells W a1 xs) => getT_c a1 c1 n1 xs e.p (some e) (Lib.hid (by rw [tget_right HTOK.out (HTOK.out.pth (List.mem_map_of_mem hee)), getE_ok HTOK.out hee])) W HN1.out h (by omega) HZ.out)
              obtain ⟨fp, fd, fx⟩ := e
              have HXX := Lib.hid hxx
              have hRR := HR0.out.below hb
              have i0 : (0 : Int) ≤ (j : Int) := by omega
              have i1 : (j : Int) < (m : Int) := by omega
              clear hee hej hjo hxx hHS
              cases j with
              | zero =>
                rw [Nat.add_zero] at d0
                clear hcs
                go_wp2_with fail
                refine (HPJ.out _).mono ?_; rintro e V1 ⟨rfl, hq⟩; replace hb := chn hb hq; replace hRR := hRR.below hq; replace d0 := keepc hq d0; clear hq HPJ
                go_wp2_with fail
                refine (HGE.out _ hRR.sl).mono ?_; rintro e V2 ⟨rfl, hq⟩; replace hb := chn hb hq; replace d0 := keepc hq d0; clear hq HGE hRR
                have hq := bellow_alloc V2 (.cells #[.string fp, .bool fd, .string fx] 41)
                replace hb := hb.alloc hb.size (.cells #[.string fp, .bool fd, .string fx] 41); replace d0 := keepc hq d0; clear hq
                go_wp2_with fail
                go_quiet (fail)
                go_wp2
                go_roundw
                case rel => exact ⟨1, by omega, by go_num, by first | exact hb | exact drw hb _⟩
                case measure => simp [intOf]; omega
              | succ k =>
                obtain ⟨y, hyy⟩ : ∃ y, ss3[k]? = some y := ⟨_, List.getElem?_eq_getElem (by rw [HM.out]; omega)⟩
                have d1 := hcs k y hyy
                have hle := HKO.out k y x hyy HXX.out
                have i2 : ((k + 1 : Nat) : Int) - 1 = (k : Int) := by omega
                have i3 : (0 : Int) ≤ (k : Int) := by omega
                have i4 : (k : Int) < (m : Int) := by omega
                have i5 : (0 : Int) < ((k + 1 : Nat) : Int) := by omega
                clear hcs hyy
                go_wp2_with fail
                refine (HPJ.out _).mono ?_; rintro e V1 ⟨rfl, hq⟩; replace hb := chn hb hq; replace hRR := hRR.below hq; replace d0 := keepc hq d0; replace d1 := keepc hq d1; clear hq HPJ
                go_wp2_with fail
                refine (HGE.out _ hRR.sl).mono ?_; rintro e V2 ⟨rfl, hq⟩; replace hb := chn hb hq; replace d0 := keepc hq d0; replace d1 := keepc hq d1; clear hq HGE hRR
                have hq := bellow_alloc V2 (.cells #[.string fp, .bool fd, .string fx] 41)
                replace hb := hb.alloc hb.size (.cells #[.string fp, .bool fd, .string fx] 41); replace d0 := keepc hq d0; replace d1 := keepc hq d1; clear hq
                go_wp2_with fail
                go_quiet (fail)
                go_wp2
                go_roundw
                case rel => exact ⟨k + 1 + 1, by omega, by go_num, by first | exact hb | exact drw hb _⟩
                case measure => simp [intOf]; omega
            · obtain rfl : j = m := by omega
              have hbX := chn HB0.out hb
              have hRR := HR0.out.below hb
              clear hb
              go_wp2_with fail
              refine (HTR.out _ hRR.sl).mono ?_; rintro e V1 ⟨v7, ss7, rfl, hss7, hov7, hq⟩; replace hbX := chn hbX hq; replace hRR := hRR.below hq; clear hq HTR
              obtain ⟨a7, c7, rfl⟩ := own_shape hov7
              have h0 : ss7.length = sumT (xs.map En.pl) 0 := by
                have := congrArg List.length hss7
                rw [List.length_map] at this
                rw [this]; rfl
              rw [h0]
              have HR7 := Lib.hid hRR
              have HB7 := Lib.hid hbX
              clear hss7 hov7 h0 hRR hbX
              go_wp2
              go_loopw [18, 19] (fun k i wr => ∃ j : Nat, j ≤ n1 ∧ i = .int .i64 j ∧ k = .int .i64 (sumT (xs.map En.pl) j : Nat) ∧ Below V1.heap.size V1 wr) (fun _ i _ => n1 - (intOf i).toNat)
              case atStart => exact ⟨0, Nat.zero_le _, rfl, rfl, Below.refl _ _⟩
              case round =>
                obtain ⟨j, hj, rfl, rfl, hb⟩ := hrel
                by_cases hlt : j < n1
                · obtain ⟨e, hee⟩ : ∃ e, xs[j]? = some e := ⟨_, List.getElem?_eq_getElem (by rw [HN1.out]; exact hlt)⟩
                  have hem := List.mem_of_getElem? hee
                  have hemp : e.pl ∈ xs.map En.pl := List.mem_map_of_mem hem
                  obtain ⟨hc1, hl1⟩ := tlist_entry HTOK.out hemp
                  have hep : e.p.size ≤ maxLen := (HZ.out.max e hem).1
                  have HTE := Lib.hid (HTL.out e.p hep)
                  rw [show e.p.data.toList = e.pl.p from rfl, hc1, hl1] at HTE
                  have hS1 := sumT_snoc (t := xs.map En.pl) (j := j) (e := e.pl) (by rw [List.getElem?_map, hee]; rfl)
                  have hS2 := sumT_le HTOK.out (j + 1)
                  rw [List.length_map, HN1.out] at hS2
                  have hRR := HR7.out.below hb
                  have hslx := hRR.sl
                  obtain ⟨b, off, rfl, _⟩ := hslx.addr (by rw [HN1.out]; omega)
                  obtain ⟨d0, d1, d2⟩ := en_at hslx j e hee
                  have i0 : (0 : Int) ≤ (j : Int) := by omega
                  have i1 : (j : Int) < (n1 : Int) := by omega
                  have hpd : e.pl.d = e.d := rfl
                  rw [hpd] at HTE
                  obtain ⟨fp, fd, fx⟩ := e
                  clear hee hem hemp hc1 hl1 hslx hpd d2
                  go_wp2_with fail
                  refine (HTE.out _ hRR.sl).mono ?_; rintro e V2 ⟨v8, ss8, rfl, hss8, hov8, hq⟩; replace hb := chn hb hq; replace d0 := keepc hq d0; replace d1 := keepc hq d1; clear hq HTE hRR
                  obtain ⟨a8, c8, rfl⟩ := own_shape hov8
                  obtain ⟨l8, hl8⟩ : ∃ l, ss8.length = l := ⟨_, rfl⟩
                  have h8 : (kidsL (xs.map En.pl) (En.pl ⟨fp, fd, fx⟩).p).length = l8 := by rw [← hss8, List.length_map, hl8]
                  rw [h8] at hS1
                  rw [hl8]
                  rw [hS1] at hS2
                  have HS1 := Lib.hid hS1
                  obtain ⟨S, hS⟩ : ∃ S, sumT (xs.map En.pl) j = S := ⟨_, rfl⟩
                  rw [hS] at HS1 hS2 ⊢
                  clear hss8 hov8 h8 hl8 hS1 hS
                  cases fd with
                  | true =>
                    go_wp2
                    go_roundw
                    case rel => exact ⟨j + 1, by omega, by go_num, by rw [HS1.out]; go_num, by first | exact hb | exact drw hb _⟩
                    case measure => simp [intOf]; omega
                  | false =>
                    go_wp2
                    go_roundw
                    case rel => exact ⟨j + 1, by omega, by go_num, by rw [HS1.out]; go_num, by first | exact hb | exact drw hb _⟩
                    case measure => simp [intOf]; omega
                · obtain rfl : j = n1 := by omega
                  have hbX := chn HB7.out hb
                  have hfin := sumT_all HTOK.out (show (xs.map En.pl).length = j by rw [List.length_map]; exact HN1.out)
                  rw [hfin]
                  clear hb hfin
                  go_wp2
                  go_ret
                  exact ⟨rfl, hbX⟩
  · have HBAD := hgood
    cases rt with
    | false =>
      clear hgood
      obtain ⟨h1, h2⟩ := tlist_bad HBAD
      obtain rfl : C = 1 := HC.out.symm.trans h1
      obtain rfl : m = 0 := by
        have h3 := HSS.out
        rw [← HL.out, h2] at h3
        rw [← HM.out, List.map_eq_nil_iff.1 h3]; rfl
      clear h1 h2
      go_wp2
      go_ret
      exact ⟨rfl, hb⟩
    | true =>
      have htok := HRT.out.1 rfl
      have hsr : ¬ s.data.toList = [47] := fun h => hgood ⟨htok, .inl h⟩
      have hbe := beq_no hsr
      have hpk : pathOkL s.data.toList = false := by
        cases hp : pathOkL s.data.toList with
        | false => rfl
        | true => exact absurd ⟨htok, .inr hp⟩ hgood
      have HPK := Lib.hid (pathOk_c s false (Lib.hid hpk) W6 hsm)
      clear hgood htok hsr hpk
      go_wp2_with fail
      refine HPK.out.mono ?_; rintro e W7 ⟨rfl, hq⟩; replace hb := chn hb hq; clear hq HPK hR hsl y1
      obtain ⟨h1, h2⟩ := tlist_bad HBAD
      obtain rfl : C = 1 := HC.out.symm.trans h1
      obtain rfl : m = 0 := by
        have h3 := HSS.out
        rw [← HL.out, h2] at h3
        rw [← HM.out, List.map_eq_nil_iff.1 h3]; rfl
      clear h1 h2
      go_wp2
      go_ret
      exact ⟨rfl, hb⟩
end Go.Proofs.YtobbodbkdcbflaaDoor
namespace Go.Proofs.YtobbodbkdcbflaaDoor
open Go.RowKit
theorem slf_lit {α : Type} {f : α → List Value} (hf : ∀ x, (f x).length = 3) (w : World) (cs : Array Value) (t : TypeId) (ys : List α) (h : cs.toList = ys.flatMap f) : SlF f (w.alloc (.cells cs t)) (some ⟨w.heap.size, 0, none⟩) ys := fun _ =>
  ⟨w.heap.size, 0, rfl, by simp, fun k x hx j u hu => by
    rw [Nat.zero_add]
    have hj : j < 3 := by have := (List.getElem?_eq_some_iff.1 hu).1; rw [hf] at this; exact this
    exact new_cell w cs t (k * 3 + j) u (by rw [← Array.getElem?_toList, h, flat_of hf hj ys k x hx]; exact hu)⟩
theorem row_of {α : Type} {f : α → List Value} (hf : ∀ x, (f x).length = 3) {w : World} {B m N : Nat} {t : TypeId} {v : Value} {xs ys : List α} (h : w.ownsRow B t 3 v m ([] ++ xs.flatMap f ++ ys.flatMap f)) (hm : m = N) (hN : (xs ++ ys).length = N) :
    ∃ a c, v = .slice a N c ∧ SlF f w a (xs ++ ys) := by
  subst hm
  obtain ⟨a, c, rfl⟩ := own_shape h
  refine ⟨a, c, rfl, ?_⟩
  rw [List.nil_append, ← List.flatMap_append] at h
  exact own_slfN hf h hN
/-- An append of many structs, inside a region. -/
theorem op_appN {P : Program} {o : Oper} {a : Act} {K : Act → World → Prop} {Q : Exit → Act → World → Prop} (s x : Operand) (t : TypeId)
    (ho : o.op = .call { callee := .builtin .append, args := #[s, x], argTypes := #[t, t] }) {e : TypeId} {bytes : Nat} (E : Elt P t e 3 bytes)
    (base B : Nat) (w0 w : World) (v : Value) (n : Nat) (xs : List Value) (hs : a.eval s = v) {α : Type} (f : α → List Value) (hf : ∀ x, (f x).length = 3) (h1 : ∀ x, ∀ u ∈ f x, u.oneCell' = true) (ys : List α) (b off m c : Nat) (hm : ys.length = m) (hx : a.eval x = .slice (some ⟨b, off, none⟩) m c)
    (hsl : SlF f w (some ⟨b, off, none⟩) ys) (hown : w.ownsRow base e 3 v n xs) (hn : n + ys.length ≤ 2000000) (hbase : base ≤ w.heap.size) (hB : Below B w0 w) (hBb : B ≤ base)
    (h : ∀ v' w', w'.ownsRow base e 3 v' (n + ys.length) (xs ++ ys.flatMap f) → Below B w0 w' → K (a.put o.dst v') w') : o.wp P a w K Q := by
  subst hm
  obtain ⟨i, z, hi, hz, hsz, hby, hzs⟩ := E.info
  have hsm := E.small
  refine wp_append_own _ s x t ho base e i z 3 bytes E.und hi hz hsz hby hzs E.pos v n xs hs hown ⟨b, off, none⟩ ys.length c (ys.flatMap f) hx (flatMap_len hf ys) (hsl.cells_at hf) (fun u hu => ?_) (by unfold maxLen; omega) ?_ hbase ?_
  · obtain ⟨y, hy, hu⟩ := List.mem_flatMap.1 hu
    exact h1 y u hu
  · have : (n + ys.length) * bytes ≤ 2000000 * 64 := Nat.mul_le_mul hn hsm
    omega
  · intro v' w' h2 h3 _
    refine h v' w' h2 (hB.grown h3 (Nat.le_trans hBb hbase) ?_)
    intro k hk
    rcases hown.2 with ⟨rfl, _⟩ | ⟨g, cap, cur, rfl, hg, _⟩
    · simp [Value.ownBlock] at hk
    · simp [Value.ownBlock] at hk; omega
end Go.Proofs.YtobbodbkdcbflaaDoor
namespace Go.Proofs.YtobbodbkdcbflaaDoor
open Go.RowKit
theorem zz_up : upL [47, 122, 122, 47, 122] = [47, 122, 122] := by decide
theorem bent_x {t : List PE} (hz : ZL t) : ¬ TOk (t ++ [⟨[47, 122, 122, 47, 122], false, []⟩]) := fun h => by
  rcases h.par (e := ⟨[47, 122, 122, 47, 122], false, []⟩) (by simp) with h1 | ⟨f, hf, h1, _⟩
  · rw [zz_up] at h1; simp at h1
  · rw [zz_up] at h1
    rcases List.mem_append.1 hf with h2 | h2
    · exact hz f h2 h1
    · rw [List.mem_singleton.1 h2] at h1; simp at h1
theorem bent_y {t : List PE} : ¬ TOk (t ++ [⟨[47, 122, 122, 122], true, [120]⟩]) := fun h => by
  have h1 := h.ent ⟨[47, 122, 122, 122], true, [120]⟩ (by simp)
  unfold entOkL at h1
  simp at h1
theorem bent_z {t : List PE} (hz : ZL t) : ¬ TOk (t ++ [⟨[47, 122, 122], false, []⟩, ⟨[47, 122, 122, 47, 122], false, []⟩]) := fun h => by
  rcases h.par (e := ⟨[47, 122, 122, 47, 122], false, []⟩) (by simp) with h1 | ⟨f, hf, h1, h3⟩
  · rw [zz_up] at h1; simp at h1
  · rw [zz_up] at h1
    rcases List.mem_append.1 hf with h2 | h2
    · exact hz f h2 h1
    · simp only [List.mem_cons, List.not_mem_nil, or_false] at h2
      rcases h2 with rfl | rfl
      · simp at h3
      · simp at h1
theorem bent_w {t : List PE} (hne : t ≠ []) : ¬ TOk (t ++ t) := fun h => by
  obtain ⟨e, r, rfl⟩ := List.exists_cons_of_ne_nil hne
  have h1 := (List.pairwise_append.1 h.ordP).2.2 e (by simp) e (by simp)
  rw [less_irrefl] at h1; cases h1
/-- TreeOk of a list that is not right. -/
theorem okNo_c (a : Option Addr) (c n : Nat) (xs : List En) (hno : ¬ TOk (xs.map En.pl)) (w : World) (hn : xs.length = n) (hs : SlF En.cells w a xs) (hx : n ≤ 1000) (hz : Small xs) :
    Calls Tryd.prog 28 #[.slice a n c] w fun e w' => e = .returned (.bool false) ∧ Below w.heap.size w w' :=
  okI_c a c n xs false (Lib.hid ⟨fun h => (by cases h), fun h => absurd h hno⟩) w hn hs hx hz
theorem sameS_c (a a' : Option Addr) (c c' n n' : Nat) (xs ys : List En) (r : Bool) (hr : Hid (r = true ↔ xs = ys)) (w : World) (hn : xs.length = n) (hn' : ys.length = n') (hs : SlF En.cells w a xs) (hs' : SlF En.cells w a' ys) (hx : n ≤ 1000) (hy : n' ≤ 1000) :
    Calls Tryd.prog 27 #[.slice a n c, .slice a' n' c'] w fun e w' => e = .returned (.bool r) ∧ Below w.heap.size w w' := by
  subst hn hn'
  exact (sTreeSame_c a a' c c' xs ys r hr w hs hs' (by unfold maxLen; omega) (by unfold maxLen; omega)).mono fun _ _ ⟨h1, m, h2⟩ => ⟨h1, h2 ▸ below_dr w m⟩
theorem tok_nil : TOk [] := ⟨by simp, fun e h => (by cases h), List.Pairwise.nil, fun e h => (by cases h)⟩
set_option maxRecDepth 100000 in
set_option maxHeartbeats 8000000 in
theorem lawTreeBent_w (w : World) (a : Option Addr) (n c : Nat) (h : Code w a n c) : Calls Tryd.prog 6 #[.slice a n c] w (TrueB w) := by
  have hn := h.2.2
  by_cases hbig : 1048576 < n
  · clear h
    go_enter Tryd.func6, Tryd.ntmps6
    go_wp2
    go_ret
    exact ⟨rfl, Below.refl _ _⟩
  have HE := eltEn
  have HD := Lib.hid (drawTreeSame_c w a n c h)
  have HC := Lib.hid h
  clear h
  go_enter Tryd.func6, Tryd.ntmps6
  go_wp2_with fail
  refine HD.out.mono ?_; rintro e W1 ⟨a3, c3, ps, a4, c4, qs, rfl, hP, hzp, hlp, hQ, hzq, hlq, hb⟩
  have HD2 := Lib.hid (drawTreeOk_c W1 a n c (HC.out.below hb))
  obtain ⟨n3, hn3⟩ : ∃ m, ps.length = m := ⟨_, rfl⟩
  obtain ⟨n4, hn4⟩ : ∃ m, qs.length = m := ⟨_, rfl⟩
  have HN3 := Lib.hid hn3
  have HN4 := Lib.hid hn4
  rw [hn3] at hlp ⊢
  rw [hn4] at hlq ⊢
  clear hn3 hn4 HD
  go_wp2_with fail
  refine HD2.out.mono ?_; rintro e W2 ⟨a1, c1, xs, rfl, hR, hz, hx, hzl, hq⟩; replace hb := chn hb hq; replace hP := hP.below hq; replace hQ := hQ.below hq; clear hq HD2
  have HD3 := Lib.hid (drawOpOk_c W2 a n c (HC.out.below hb))
  have hcn := hR.cap
  obtain ⟨n1, hn1⟩ : ∃ m, xs.length = m := ⟨_, rfl⟩
  rw [hn1] at hx hcn ⊢
  have HN1 := Lib.hid hn1
  have HZ := Lib.hid hz
  have HZL := Lib.hid hzl
  clear hn1 hz hzl HC
  go_wp2_with fail
  refine HD3.out.mono ?_; rintro e W3 ⟨k, P, T, D, rfl, hPs, hTs, hDs, hq⟩; replace hb := chn hb hq; replace hP := hP.below hq; replace hQ := hQ.below hq; replace hR := hR.below hq; clear hq HD3
  have o0 := new_cell W3 (opBox k P T D) 49 0 _ rfl
  have o1 := new_cell W3 (opBox k P T D) 49 1 _ rfl
  have o2 := new_cell W3 (opBox k P T D) 49 2 _ rfl
  have o3 := new_cell W3 (opBox k P T D) 49 3 _ rfl
  replace hb := hb.alloc hb.size (.cells (opBox k P T D) 49)
  have HP := Lib.hid (hP.below (bellow_alloc W3 (.cells (opBox k P T D) 49)))
  have HQ := Lib.hid (hQ.below (bellow_alloc W3 (.cells (opBox k P T D) 49)))
  have HR := Lib.hid (hR.below (bellow_alloc W3 (.cells (opBox k P T D) 49)))
  obtain ⟨rs, hrs⟩ : ∃ r : Bool, r = true ↔ ps = qs := ⟨by classical exact decide (ps = qs), by simp⟩
  have HRS := Lib.hid hrs
  have HRS' : Hid (rs = true ↔ qs = ps) := hrs.trans ⟨Eq.symm, Eq.symm⟩
  obtain ⟨r, hr⟩ := tok_dec xs
  have HRR := Lib.hid hr
  obtain ⟨ok, hok⟩ : ∃ r, opOkL k P.data.toList T.data.toList D.data.toList = r := ⟨_, rfl⟩
  have HOK := Lib.hid hok
  have hpm : P.size ≤ maxLen := by unfold maxLen; omega
  have htm : T.size ≤ maxLen := by unfold maxLen; omega
  have hdm : D.size ≤ maxLen := by unfold maxLen; omega
  have h1 : (rs != rs) = false := by cases rs <;> rfl
  have h2 : (r != r) = false := by cases r <;> rfl
  have h3 : (ok != ok) = false := by cases ok <;> rfl
  clear hrs hr hok hP hQ hR
  go_wp2_with fail
  refine wp_region_held_drew (S := fun w' => Below _ _ w') (by kernel_rfl) (below_drew _) (fun hHeld => ?_)
  refine tk (i := 0) (d := (some 23)) (v := ?_) rfl rfl (by kernel_rfl) (by kernel_rfl) (by kernel_rfl) (fun _ _ _ h => h) (Or.inl ⟨by rfl, ?_⟩) hHeld ?_
  rotate_left
  · intro w hSw; have zo0 := keepc hSw o0; have zo1 := keepc hSw o1; have zo2 := keepc hSw o2; have zo3 := keepc hSw o3; clear hSw; go_simp <;> with_reducible rfl
  (try simp only [Act.put, List.setIfInBounds_toArray, List.set_cons_zero, List.set_cons_succ])
  refine tk (i := 1) (d := (some 24)) (v := ?_) rfl rfl (by kernel_rfl) (by kernel_rfl) (by kernel_rfl) (fun _ _ _ h => h) (Or.inl ⟨by rfl, ?_⟩) hHeld ?_
  rotate_left
  · intro w hSw; have zo0 := keepc hSw o0; have zo1 := keepc hSw o1; have zo2 := keepc hSw o2; have zo3 := keepc hSw o3; clear hSw; go_simp <;> with_reducible rfl
  (try simp only [Act.put, List.setIfInBounds_toArray, List.set_cons_zero, List.set_cons_succ])
  refine tk (i := 3) (d := (some 26)) (v := ?_) rfl rfl (by kernel_rfl) (by kernel_rfl) (by kernel_rfl) (fun _ _ _ h => h) (Or.inl ⟨by rfl, ?_⟩) hHeld ?_
  rotate_left
  · intro w hSw; have zo0 := keepc hSw o0; have zo1 := keepc hSw o1; have zo2 := keepc hSw o2; have zo3 := keepc hSw o3; clear hSw; go_simp <;> with_reducible rfl
  (try simp only [Act.put, List.setIfInBounds_toArray, List.set_cons_zero, List.set_cons_succ])
  refine tk (i := 4) (d := (some 27)) (v := ?_) rfl rfl (by kernel_rfl) (by kernel_rfl) (by kernel_rfl) (fun _ _ _ h => h) (Or.inl ⟨by rfl, ?_⟩) hHeld ?_
  rotate_left
  · intro w hSw; have zo0 := keepc hSw o0; have zo1 := keepc hSw o1; have zo2 := keepc hSw o2; have zo3 := keepc hSw o3; clear hSw; go_simp <;> with_reducible rfl
  (try simp only [Act.put, List.setIfInBounds_toArray, List.set_cons_zero, List.set_cons_succ])
  refine wpAnyH_ready (rs := [2]) (by kernel_rfl) (by simp) ?_
  refine AllReadyH.cons rfl (fun K hK => ?_) AllReadyH.nil
  go_simp
  refine (sameR_c a3 a4 c3 c4 n3 n4 ps qs rs HRS _ HN3.out HN4.out (HP.out.below hHeld).sl (HQ.out.below hHeld).sl (by omega) (by omega)).mono ?_; rintro e W ⟨rfl, hq⟩
  go_simp
  refine hK.out _ _ (chn hHeld hq) (fun h => ?_)
  clear hK K; replace hHeld := h; clear h hq
  (try simp only [Act.put, List.setIfInBounds_toArray, List.set_cons_zero, List.set_cons_succ])
  refine wpAnyH_ready (rs := [5]) (by kernel_rfl) (by simp) ?_
  refine AllReadyH.cons rfl (fun K hK => ?_) AllReadyH.nil
  go_simp
  refine (sameS_c a3 a4 c3 c4 n3 n4 ps qs rs HRS _ HN3.out HN4.out (HP.out.below hHeld).sl (HQ.out.below hHeld).sl (by omega) (by omega)).mono ?_; rintro e W ⟨rfl, hq⟩
  go_simp
  refine hK.out _ _ (chn hHeld hq) (fun h => ?_)
  clear hK K; replace hHeld := h; clear h hq
  (try simp only [Act.put, List.setIfInBounds_toArray, List.set_cons_zero, List.set_cons_succ])
  refine tk (i := 6) (d := (some 29)) (v := ?_) rfl rfl (by kernel_rfl) (by kernel_rfl) (by kernel_rfl) (fun _ _ _ h => h) (Or.inl ⟨by rfl, ?_⟩) hHeld ?_
  rotate_left
  · intro w hSw; have zo0 := keepc hSw o0; have zo1 := keepc hSw o1; have zo2 := keepc hSw o2; have zo3 := keepc hSw o3; clear hSw; go_simp <;> with_reducible rfl
  (try simp only [Act.put, List.setIfInBounds_toArray, List.set_cons_zero, List.set_cons_succ])
  refine tk (i := 7) (d := (some 30)) (v := ?_) rfl rfl (by kernel_rfl) (by kernel_rfl) (by kernel_rfl) (fun _ _ _ h => h) (Or.inl ⟨by rfl, ?_⟩) hHeld ?_
  rotate_left
  · intro w hSw; have zo0 := keepc hSw o0; have zo1 := keepc hSw o1; have zo2 := keepc hSw o2; have zo3 := keepc hSw o3; clear hSw; go_simp <;> with_reducible rfl
  (try simp only [Act.put, List.setIfInBounds_toArray, List.set_cons_zero, List.set_cons_succ])
  refine tk (i := 8) (d := (some 31)) (v := ?_) rfl rfl (by kernel_rfl) (by kernel_rfl) (by kernel_rfl) (fun _ _ _ h => h) (Or.inl ⟨by rfl, ?_⟩) hHeld ?_
  rotate_left
  · intro w hSw; have zo0 := keepc hSw o0; have zo1 := keepc hSw o1; have zo2 := keepc hSw o2; have zo3 := keepc hSw o3; clear hSw; go_simp <;> with_reducible rfl
  (try simp only [Act.put, List.setIfInBounds_toArray, List.set_cons_zero, List.set_cons_succ])
  refine tk (i := 9) (d := (some 32)) (v := ?_) rfl rfl (by kernel_rfl) (by kernel_rfl) (by kernel_rfl) (fun _ _ _ h => h) (Or.inl ⟨by rfl, ?_⟩) hHeld ?_
  rotate_left
  · intro w hSw; have zo0 := keepc hSw o0; have zo1 := keepc hSw o1; have zo2 := keepc hSw o2; have zo3 := keepc hSw o3; clear hSw; go_simp <;> with_reducible rfl
  (try simp only [Act.put, List.setIfInBounds_toArray, List.set_cons_zero, List.set_cons_succ])
  refine tk (i := 11) (d := (some 34)) (v := ?_) rfl rfl (by kernel_rfl) (by kernel_rfl) (by kernel_rfl) (fun _ _ _ h => h) (Or.inl ⟨by rfl, ?_⟩) hHeld ?_
  rotate_left
  · intro w hSw; have zo0 := keepc hSw o0; have zo1 := keepc hSw o1; have zo2 := keepc hSw o2; have zo3 := keepc hSw o3; clear hSw; go_simp <;> with_reducible rfl
  (try simp only [Act.put, List.setIfInBounds_toArray, List.set_cons_zero, List.set_cons_succ])
  refine tk (i := 12) (d := (some 35)) (v := ?_) rfl rfl (by kernel_rfl) (by kernel_rfl) (by kernel_rfl) (fun _ _ _ h => h) (Or.inl ⟨by rfl, ?_⟩) hHeld ?_
  rotate_left
  · intro w hSw; have zo0 := keepc hSw o0; have zo1 := keepc hSw o1; have zo2 := keepc hSw o2; have zo3 := keepc hSw o3; clear hSw; go_simp <;> with_reducible rfl
  (try simp only [Act.put, List.setIfInBounds_toArray, List.set_cons_zero, List.set_cons_succ])
  refine wpAnyH_ready (rs := [10]) (by kernel_rfl) (by simp) ?_
  refine AllReadyH.cons rfl (fun K hK => ?_) AllReadyH.nil
  go_simp
  refine (sameR_c a3 a4 c3 c4 n3 n4 ps qs rs HRS _ HN3.out HN4.out (HP.out.below hHeld).sl (HQ.out.below hHeld).sl (by omega) (by omega)).mono ?_; rintro e W ⟨rfl, hq⟩
  go_simp
  refine hK.out _ _ (chn hHeld hq) (fun h => ?_)
  clear hK K; replace hHeld := h; clear h hq
  (try simp only [Act.put, List.setIfInBounds_toArray, List.set_cons_zero, List.set_cons_succ])
  refine wpAnyH_ready (rs := [13]) (by kernel_rfl) (by simp) ?_
  refine AllReadyH.cons rfl (fun K hK => ?_) AllReadyH.nil
  go_simp
  refine (sameR_c a4 a3 c4 c3 n4 n3 qs ps rs HRS' _ HN4.out HN3.out (HQ.out.below hHeld).sl (HP.out.below hHeld).sl (by omega) (by omega)).mono ?_; rintro e W ⟨rfl, hq⟩
  go_simp
  refine hK.out _ _ (chn hHeld hq) (fun h => ?_)
  clear hK K; replace hHeld := h; clear h hq
  (try simp only [Act.put, List.setIfInBounds_toArray, List.set_cons_zero, List.set_cons_succ])
  refine tk (i := 14) (d := (some 37)) (v := ?_) rfl rfl (by kernel_rfl) (by kernel_rfl) (by kernel_rfl) (fun _ _ _ h => h) (Or.inl ⟨by rfl, ?_⟩) hHeld ?_
  rotate_left
  · intro w hSw; have zo0 := keepc hSw o0; have zo1 := keepc hSw o1; have zo2 := keepc hSw o2; have zo3 := keepc hSw o3; clear hSw; go_simp <;> with_reducible rfl
  (try simp only [Act.put, List.setIfInBounds_toArray, List.set_cons_zero, List.set_cons_succ])
  refine tk (i := 15) (d := (some 38)) (v := ?_) rfl rfl (by kernel_rfl) (by kernel_rfl) (by kernel_rfl) (fun _ _ _ h => h) (Or.inl ⟨by rfl, ?_⟩) hHeld ?_
  rotate_left
  · intro w hSw; have zo0 := keepc hSw o0; have zo1 := keepc hSw o1; have zo2 := keepc hSw o2; have zo3 := keepc hSw o3; clear hSw; go_simp <;> with_reducible rfl
  (try simp only [Act.put, List.setIfInBounds_toArray, List.set_cons_zero, List.set_cons_succ])
  refine tk (i := 16) (d := (some 39)) (v := ?_) rfl rfl (by kernel_rfl) (by kernel_rfl) (by kernel_rfl) (fun _ _ _ h => h) (Or.inl ⟨by rfl, ?_⟩) hHeld ?_
  rotate_left
  · intro w hSw; have zo0 := keepc hSw o0; have zo1 := keepc hSw o1; have zo2 := keepc hSw o2; have zo3 := keepc hSw o3; clear hSw; go_simp <;> with_reducible rfl
  (try simp only [Act.put, List.setIfInBounds_toArray, List.set_cons_zero, List.set_cons_succ])
  refine tk (i := 17) (d := (some 40)) (v := ?_) rfl rfl (by kernel_rfl) (by kernel_rfl) (by kernel_rfl) (fun _ _ _ h => h) (Or.inl ⟨by rfl, ?_⟩) hHeld ?_
  rotate_left
  · intro w hSw; have zo0 := keepc hSw o0; have zo1 := keepc hSw o1; have zo2 := keepc hSw o2; have zo3 := keepc hSw o3; clear hSw; go_simp <;> with_reducible rfl
  (try simp only [Act.put, List.setIfInBounds_toArray, List.set_cons_zero, List.set_cons_succ])
  refine tk (i := 18) (d := (some 41)) (v := ?_) rfl rfl (by kernel_rfl) (by kernel_rfl) (by kernel_rfl) (fun _ _ _ h => h) (Or.inl ⟨by rfl, ?_⟩) hHeld ?_
  rotate_left
  · intro w hSw; have zo0 := keepc hSw o0; have zo1 := keepc hSw o1; have zo2 := keepc hSw o2; have zo3 := keepc hSw o3; clear hSw; go_simp <;> with_reducible rfl
  (try simp only [Act.put, List.setIfInBounds_toArray, List.set_cons_zero, List.set_cons_succ])
  refine wpAnyH_ready (rs := [19]) (by kernel_rfl) (by simp) ?_
  refine AllReadyH.cons rfl (fun K hK => ?_) AllReadyH.nil
  go_simp
  refine (sameR_c a1 a1 c1 c1 n1 n1 xs xs true (Lib.hid ⟨fun _ => rfl, fun _ => rfl⟩) _ HN1.out HN1.out (HR.out.below hHeld).sl (HR.out.below hHeld).sl (by omega) (by omega)).mono ?_; rintro e W ⟨rfl, hq⟩
  go_simp
  refine hK.out _ _ (chn hHeld hq) (fun h => ?_)
  clear hK K; replace hHeld := h; clear h hq
  (try simp only [Act.put, List.setIfInBounds_toArray, List.set_cons_zero, List.set_cons_succ])
  refine tk (i := 20) (d := (some 43)) (v := ?_) rfl rfl (by kernel_rfl) (by kernel_rfl) (by kernel_rfl) (fun _ _ _ h => h) (Or.inl ⟨by rfl, ?_⟩) hHeld ?_
  rotate_left
  · intro w hSw; have zo0 := keepc hSw o0; have zo1 := keepc hSw o1; have zo2 := keepc hSw o2; have zo3 := keepc hSw o3; clear hSw; go_simp <;> with_reducible rfl
  (try simp only [Act.put, List.setIfInBounds_toArray, List.set_cons_zero, List.set_cons_succ])
  refine tk (i := 21) (d := (some 44)) (v := ?_) rfl rfl (by kernel_rfl) (by kernel_rfl) (by kernel_rfl) (fun _ _ _ h => h) (Or.inl ⟨by rfl, ?_⟩) hHeld ?_
  rotate_left
  · intro w hSw; have zo0 := keepc hSw o0; have zo1 := keepc hSw o1; have zo2 := keepc hSw o2; have zo3 := keepc hSw o3; clear hSw; go_simp <;> with_reducible rfl
  (try simp only [Act.put, List.setIfInBounds_toArray, List.set_cons_zero, List.set_cons_succ])
  refine tk (i := 22) (d := (some 45)) (v := ?_) rfl rfl (by kernel_rfl) (by kernel_rfl) (by kernel_rfl) (fun _ _ _ h => h) (Or.inl ⟨by rfl, ?_⟩) hHeld ?_
  rotate_left
  · intro w hSw; have zo0 := keepc hSw o0; have zo1 := keepc hSw o1; have zo2 := keepc hSw o2; have zo3 := keepc hSw o3; clear hSw; go_simp <;> with_reducible rfl
  (try simp only [Act.put, List.setIfInBounds_toArray, List.set_cons_zero, List.set_cons_succ])
  refine tk (i := 23) (d := (some 46)) (v := ?_) rfl rfl (by kernel_rfl) (by kernel_rfl) (by kernel_rfl) (fun _ _ _ h => h) (Or.inl ⟨by rfl, ?_⟩) hHeld ?_
  rotate_left
  · intro w hSw; have zo0 := keepc hSw o0; have zo1 := keepc hSw o1; have zo2 := keepc hSw o2; have zo3 := keepc hSw o3; clear hSw; go_simp <;> with_reducible rfl
  (try simp only [Act.put, List.setIfInBounds_toArray, List.set_cons_zero, List.set_cons_succ])
  refine tk (i := 25) (d := (some 48)) (v := ?_) rfl rfl (by kernel_rfl) (by kernel_rfl) (by kernel_rfl) (fun _ _ _ h => h) (Or.inl ⟨by rfl, ?_⟩) hHeld ?_
  rotate_left
  · intro w hSw; have zo0 := keepc hSw o0; have zo1 := keepc hSw o1; have zo2 := keepc hSw o2; have zo3 := keepc hSw o3; clear hSw; go_simp <;> with_reducible rfl
  (try simp only [Act.put, List.setIfInBounds_toArray, List.set_cons_zero, List.set_cons_succ])
  refine wpAnyH_ready (rs := [24]) (by kernel_rfl) (by simp) ?_
  refine AllReadyH.cons rfl (fun K hK => ?_) AllReadyH.nil
  go_simp
  refine (okI_c a1 c1 n1 xs r HRR _ HN1.out (HR.out.below hHeld).sl (by omega) HZ.out).mono ?_; rintro e W ⟨rfl, hq⟩
  go_simp
  refine hK.out _ _ (chn hHeld hq) (fun h => ?_)
  clear hK K; replace hHeld := h; clear h hq
  (try simp only [Act.put, List.setIfInBounds_toArray, List.set_cons_zero, List.set_cons_succ])
  refine wpAnyH_ready (rs := [26]) (by kernel_rfl) (by simp) ?_
  refine AllReadyH.cons rfl (fun K hK => ?_) AllReadyH.nil
  go_simp
  refine (okS_c a1 c1 n1 xs r HRR _ HN1.out (HR.out.below hHeld).sl hcn (by omega) HZ.out).mono ?_; rintro e W ⟨rfl, hq⟩
  go_simp
  refine hK.out _ _ (chn hHeld hq) (fun h => ?_)
  clear hK K; replace hHeld := h; clear h hq
  (try simp only [Act.put, List.setIfInBounds_toArray, List.set_cons_zero, List.set_cons_succ])
  refine tk (i := 27) (d := (some 50)) (v := ?_) rfl rfl (by kernel_rfl) (by kernel_rfl) (by kernel_rfl) (fun _ _ _ h => h) (Or.inl ⟨by rfl, ?_⟩) hHeld ?_
  rotate_left
  · intro w hSw; have zo0 := keepc hSw o0; have zo1 := keepc hSw o1; have zo2 := keepc hSw o2; have zo3 := keepc hSw o3; clear hSw; go_simp <;> with_reducible rfl
  (try simp only [Act.put, List.setIfInBounds_toArray, List.set_cons_zero, List.set_cons_succ])
  refine tk (i := 28) (d := (some 51)) (v := ?_) rfl rfl (by kernel_rfl) (by kernel_rfl) (by kernel_rfl) (fun _ _ _ h => h) (Or.inl ⟨by rfl, ?_⟩) hHeld ?_
  rotate_left
  · intro w hSw; have zo0 := keepc hSw o0; have zo1 := keepc hSw o1; have zo2 := keepc hSw o2; have zo3 := keepc hSw o3; clear hSw; go_simp <;> with_reducible rfl
  (try simp only [Act.put, List.setIfInBounds_toArray, List.set_cons_zero, List.set_cons_succ])
  refine tk (i := 29) (d := (some 52)) (v := ?_) rfl rfl (by kernel_rfl) (by kernel_rfl) (by kernel_rfl) (fun _ _ _ h => h) (Or.inl ⟨by rfl, ?_⟩) hHeld ?_
  rotate_left
  · intro w hSw; have zo0 := keepc hSw o0; have zo1 := keepc hSw o1; have zo2 := keepc hSw o2; have zo3 := keepc hSw o3; clear hSw; go_simp <;> with_reducible rfl
  (try simp only [Act.put, List.setIfInBounds_toArray, List.set_cons_zero, List.set_cons_succ])
  refine tk (i := 30) (d := (some 53)) (v := ?_) rfl rfl (by kernel_rfl) (by kernel_rfl) (by kernel_rfl) (fun _ _ _ h => h) (Or.inl ⟨by rfl, ?_⟩) hHeld ?_
  rotate_left
  · intro w hSw; have zo0 := keepc hSw o0; have zo1 := keepc hSw o1; have zo2 := keepc hSw o2; have zo3 := keepc hSw o3; clear hSw; go_simp <;> with_reducible rfl
  (try simp only [Act.put, List.setIfInBounds_toArray, List.set_cons_zero, List.set_cons_succ])
  refine tk (i := 32) (d := (some 55)) (v := ?_) rfl rfl (by kernel_rfl) (by kernel_rfl) (by kernel_rfl) (fun _ _ _ h => h) (Or.inl ⟨by rfl, ?_⟩) hHeld ?_
  rotate_left
  · intro w hSw; have zo0 := keepc hSw o0; have zo1 := keepc hSw o1; have zo2 := keepc hSw o2; have zo3 := keepc hSw o3; clear hSw; go_simp <;> with_reducible rfl
  (try simp only [Act.put, List.setIfInBounds_toArray, List.set_cons_zero, List.set_cons_succ])
  refine wpAnyH_ready (rs := [31]) (by kernel_rfl) (by simp) ?_
  refine AllReadyH.cons rfl (fun K hK => ?_) AllReadyH.nil
  go_simp
  refine (opOk_c k P T D ok HOK _ hpm htm hdm).mono ?_; rintro e W ⟨rfl, hq⟩
  go_simp
  refine hK.out _ _ (chn hHeld hq) (fun h => ?_)
  clear hK K; replace hHeld := h; clear h hq
  (try simp only [Act.put, List.setIfInBounds_toArray, List.set_cons_zero, List.set_cons_succ])
  refine wpAnyH_ready (rs := [33]) (by kernel_rfl) (by simp) ?_
  refine AllReadyH.cons rfl (fun K hK => ?_) AllReadyH.nil
  go_simp
  refine (sOpOk_c k P T D ok HOK _ hpm htm hdm).mono ?_; rintro e W ⟨rfl, hq⟩
  go_simp
  refine hK.out _ _ (chn hHeld hq) (fun h => ?_)
  clear hK K; replace hHeld := h; clear h hq
  (try simp only [Act.put, List.setIfInBounds_toArray, List.set_cons_zero, List.set_cons_succ])
  refine tk (i := 34) (d := (some 57)) (v := ?_) rfl rfl (by kernel_rfl) (by kernel_rfl) (by kernel_rfl) (fun _ _ _ h => h) (Or.inl ⟨by rfl, ?_⟩) hHeld ?_
  rotate_left
  · intro w hSw; have zo0 := keepc hSw o0; have zo1 := keepc hSw o1; have zo2 := keepc hSw o2; have zo3 := keepc hSw o3; clear hSw; go_simp <;> with_reducible rfl
  (try simp only [Act.put, List.setIfInBounds_toArray, List.set_cons_zero, List.set_cons_succ])
  refine tk (i := 35) (d := (some 58)) (v := ?_) rfl rfl (by kernel_rfl) (by kernel_rfl) (by kernel_rfl) (fun _ _ _ h => h) (Or.inl ⟨by rfl, ?_⟩) hHeld ?_
  rotate_left
  · intro w hSw; have zo0 := keepc hSw o0; have zo1 := keepc hSw o1; have zo2 := keepc hSw o2; have zo3 := keepc hSw o3; clear hSw; go_simp <;> with_reducible rfl
  (try simp only [Act.put, List.setIfInBounds_toArray, List.set_cons_zero, List.set_cons_succ])
  refine wpAnyH_done (by kernel_rfl) ?_ _
  replace hb := chn hb hHeld
  have hR := HR.out.below hHeld
  clear hHeld HP HQ HR o0 o1 o2 o3 h1 h2 h3
  go_wp2_with fail
  refine (okS_c a1 c1 n1 xs r HRR _ HN1.out hR.sl hcn (by omega) HZ.out).mono ?_; rintro e W8 ⟨rfl, hq⟩; replace hb := chn hb hq; replace hR := hR.below hq; clear hq
  have HNIL := Lib.hid (fun W => okI_c none 0 0 [] true (Lib.hid ⟨fun _ => tok_nil, fun _ => rfl⟩) W rfl (fun h => by simp at h) (by decide) (fun e he => by cases he))
  cases r with
  | false =>
    clear hR
    go_wp2_with fail
    refine (HNIL.out _).mono ?_; rintro e W9 ⟨rfl, hq⟩; replace hb := chn hb hq; clear hq
    go_wp2
    go_ret
    exact ⟨rfl, hb⟩
  | true =>
    have htok := HRR.out.1 rfl
    go_wp2_with fail
    refine (HNIL.out _).mono ?_; rintro e W9 ⟨rfl, hq⟩; replace hb := chn hb hq; replace hR := hR.below hq; clear hq HNIL
    obtain ⟨b, off, rfl, _, hsl, _⟩ := hR
    have HSX := Lib.hid hsl
    have hx16 : n1 ≤ 16 := by have := htok.most; rw [List.length_map, HN1.out] at this; exact this
    have HSM := Lib.hid (tok_small htok)
    have smallA : Hid (∀ ys : List En, Small ys → Small (xs ++ ys)) := fun ys hy e he => (List.mem_append.1 he).elim (HSM.out e) (hy e)
    have HBX : Hid (¬ TOk ((xs ++ [(⟨⟨#[47, 122, 122, 47, 122]⟩, false, ⟨#[]⟩⟩ : En)]).map En.pl)) := by rw [Hid, List.map_append]; exact bent_x HZL.out
    have HBY : Hid (¬ TOk ((xs ++ [(⟨⟨#[47, 122, 122, 122]⟩, true, ⟨#[120]⟩⟩ : En)]).map En.pl)) := by rw [Hid, List.map_append]; exact bent_y
    have HBZ : Hid (¬ TOk ((xs ++ [(⟨⟨#[47, 122, 122]⟩, false, ⟨#[]⟩⟩ : En), (⟨⟨#[47, 122, 122, 47, 122]⟩, false, ⟨#[]⟩⟩ : En)]).map En.pl)) := by rw [Hid, List.map_append]; exact bent_z HZL.out
    have HBW : Hid (n1 ≠ 0 → ¬ TOk ((xs ++ xs).map En.pl)) := fun h0 => by
      rw [List.map_append]
      refine bent_w (fun h => h0 ?_)
      rw [← HN1.out, List.map_eq_nil_iff.1 h]; rfl
    clear hsl htok HRR
    go_upto_region 11 with (at_builtin; first
      | (refine wp_appN (by rfl) _ _ 37 (by rfl) HE W9.heap.size W9.heap.size W9 _ _ 0 [] (by rfl) En.cells (fun _ => rfl) en_one xs b off n1 c1 HN1.out (by rfl) ((HSX.out).below (bellow_alloc _ _)) (World.ownsRow_lit W9 #[] 0 (Nat.le_refl _) (Nat.zero_le _) rfl) (by rw [HN1.out]; omega) (bellow_alloc W9 _).size (bellow_alloc W9 _) (Nat.le_refl _) ?_; intro v2 w2 hown2 hbel2 _)
      | (refine wp_appN (by rfl) _ _ 37 (by rfl) HE W9.heap.size W9.heap.size W9 _ _ _ _ (by rfl) En.cells (fun _ => rfl) en_one [(⟨⟨#[47, 122, 122, 47, 122]⟩, false, ⟨#[]⟩⟩ : En)] _ 0 _ _ (by rfl) (by rfl) (slf_lit (fun _ => rfl) w2 #[.string ⟨#[47, 122, 122, 47, 122]⟩, .bool false, .string ⟨#[]⟩] _ _ (by rfl)) (own_below hown2 (bellow_alloc w2 _)) (by rw [HN1.out]; simp; omega) (Nat.le_trans hbel2.size (bellow_alloc w2 _).size) (hbel2.alloc hbel2.size _) (Nat.le_refl _) ?_; intro v3 w3 hown3 hbel3 _))
    obtain ⟨a5, c5, rfl, hslx⟩ := row_of (N := n1 + 1) (fun _ => rfl) hown3 (by rw [HN1.out]; simp) (by rw [List.length_append, HN1.out]; rfl)
    replace hb := chn hb hbel3
    replace HSX := Lib.hid (HSX.out.below hbel3)
    skip
    have HROW := Lib.hid hslx
    clear hown2 hbel2 hown3 hbel3 hslx
    have HX1 := HROW
    clear HROW
    go_upto_region 12 with (at_builtin; first
      | (refine wp_appN (by rfl) _ _ 37 (by rfl) HE w3.heap.size w3.heap.size w3 _ _ 0 [] (by rfl) En.cells (fun _ => rfl) en_one xs b off n1 c1 HN1.out (by rfl) ((HSX.out).below (bellow_alloc _ _)) (World.ownsRow_lit w3 #[] 0 (Nat.le_refl _) (Nat.zero_le _) rfl) (by rw [HN1.out]; omega) (bellow_alloc w3 _).size (bellow_alloc w3 _) (Nat.le_refl _) ?_; intro v2 w2 hown2 hbel2 _)
      | (refine wp_appN (by rfl) _ _ 37 (by rfl) HE w3.heap.size w3.heap.size w3 _ _ _ _ (by rfl) En.cells (fun _ => rfl) en_one [(⟨⟨#[47, 122, 122, 122]⟩, true, ⟨#[120]⟩⟩ : En)] _ 0 _ _ (by rfl) (by rfl) (slf_lit (fun _ => rfl) w2 #[.string ⟨#[47, 122, 122, 122]⟩, .bool true, .string ⟨#[120]⟩] _ _ (by rfl)) (own_below hown2 (bellow_alloc w2 _)) (by rw [HN1.out]; simp; omega) (Nat.le_trans hbel2.size (bellow_alloc w2 _).size) (hbel2.alloc hbel2.size _) (Nat.le_refl _) ?_; intro v3 w3 hown3 hbel3 _))
    obtain ⟨a6, c6, rfl, hslx⟩ := row_of (N := n1 + 1) (fun _ => rfl) hown3 (by rw [HN1.out]; simp) (by rw [List.length_append, HN1.out]; rfl)
    replace hb := chn hb hbel3
    replace HSX := Lib.hid (HSX.out.below hbel3)
    replace HX1 := Lib.hid (HX1.out.below hbel3)
    have HROW := Lib.hid hslx
    clear hown2 hbel2 hown3 hbel3 hslx
    have HX2 := HROW
    clear HROW
    go_upto_region 13 with (at_builtin; first
      | (refine wp_appN (by rfl) _ _ 37 (by rfl) HE w3.heap.size w3.heap.size w3 _ _ 0 [] (by rfl) En.cells (fun _ => rfl) en_one xs b off n1 c1 HN1.out (by rfl) ((HSX.out).below (bellow_alloc _ _)) (World.ownsRow_lit w3 #[] 0 (Nat.le_refl _) (Nat.zero_le _) rfl) (by rw [HN1.out]; omega) (bellow_alloc w3 _).size (bellow_alloc w3 _) (Nat.le_refl _) ?_; intro v2 w2 hown2 hbel2 _)
      | (refine wp_appN (by rfl) _ _ 37 (by rfl) HE w3.heap.size w3.heap.size w3 _ _ _ _ (by rfl) En.cells (fun _ => rfl) en_one [(⟨⟨#[47, 122, 122]⟩, false, ⟨#[]⟩⟩ : En), (⟨⟨#[47, 122, 122, 47, 122]⟩, false, ⟨#[]⟩⟩ : En)] _ 0 _ _ (by rfl) (by rfl) (slf_lit (fun _ => rfl) w2 #[.string ⟨#[47, 122, 122]⟩, .bool false, .string ⟨#[]⟩, .string ⟨#[47, 122, 122, 47, 122]⟩, .bool false, .string ⟨#[]⟩] _ _ (by rfl)) (own_below hown2 (bellow_alloc w2 _)) (by rw [HN1.out]; simp; omega) (Nat.le_trans hbel2.size (bellow_alloc w2 _).size) (hbel2.alloc hbel2.size _) (Nat.le_refl _) ?_; intro v3 w3 hown3 hbel3 _))
    obtain ⟨a7, c7, rfl, hslx⟩ := row_of (N := n1 + 2) (fun _ => rfl) hown3 (by rw [HN1.out]; simp) (by rw [List.length_append, HN1.out]; rfl)
    replace hb := chn hb hbel3
    replace HSX := Lib.hid (HSX.out.below hbel3)
    replace HX1 := Lib.hid (HX1.out.below hbel3); replace HX2 := Lib.hid (HX2.out.below hbel3)
    have HROW := Lib.hid hslx
    clear hown2 hbel2 hown3 hbel3 hslx
    have HX3 := HROW
    clear HROW
    go_upto_region 14 with (at_builtin; first
      | (refine wp_appN (by rfl) _ _ 37 (by rfl) HE w3.heap.size w3.heap.size w3 _ _ 0 [] (by rfl) En.cells (fun _ => rfl) en_one xs b off n1 c1 HN1.out (by rfl) ((HSX.out).below (bellow_alloc _ _)) (World.ownsRow_lit w3 #[] 0 (Nat.le_refl _) (Nat.zero_le _) rfl) (by rw [HN1.out]; omega) (bellow_alloc w3 _).size (bellow_alloc w3 _) (Nat.le_refl _) ?_; intro v2 w2 hown2 hbel2 _)
      | (refine wp_appN (by rfl) _ _ 37 (by rfl) HE w3.heap.size w3.heap.size w3 _ _ _ _ (by rfl) En.cells (fun _ => rfl) en_one xs b off n1 c1 HN1.out (by rfl) ((HSX.out).below hbel2) hown2 (by rw [HN1.out]; omega) hbel2.size hbel2 (Nat.le_refl _) ?_; intro v3 w3 hown3 hbel3 _))
    obtain ⟨a8, c8, rfl, hslx⟩ := row_of (N := n1 + n1) (fun _ => rfl) hown3 (by rw [HN1.out]; omega) (by rw [List.length_append, HN1.out])
    replace hb := chn hb hbel3
    replace HSX := Lib.hid (HSX.out.below hbel3)
    replace HX1 := Lib.hid (HX1.out.below hbel3); replace HX2 := Lib.hid (HX2.out.below hbel3); replace HX3 := Lib.hid (HX3.out.below hbel3)
    have HROW := Lib.hid hslx
    clear hown2 hbel2 hown3 hbel3 hslx
    have HX4 := HROW
    clear HROW HSX
    have m1 : Small [(⟨⟨#[47, 122, 122, 47, 122]⟩, false, ⟨#[]⟩⟩ : En)] := fun e he => by rw [List.mem_singleton.1 he]; decide
    have m2 : Small [(⟨⟨#[47, 122, 122, 122]⟩, true, ⟨#[120]⟩⟩ : En)] := fun e he => by rw [List.mem_singleton.1 he]; decide
    have m3 : Small [(⟨⟨#[47, 122, 122]⟩, false, ⟨#[]⟩⟩ : En), (⟨⟨#[47, 122, 122, 47, 122]⟩, false, ⟨#[]⟩⟩ : En)] := fun e he => by
      simp only [List.mem_cons, List.not_mem_nil, or_false] at he
      rcases he with rfl | rfl <;> decide
    have HK1 := Lib.hid (fun W h => okNo_c a5 c5 (n1 + 1) _ HBX.out W (by rw [List.length_append, HN1.out]; rfl) h (by omega) (smallA.out _ m1))
    have HK2 := Lib.hid (fun W h => okNo_c a6 c6 (n1 + 1) _ HBY.out W (by rw [List.length_append, HN1.out]; rfl) h (by omega) (smallA.out _ m2))
    have HK3 := Lib.hid (fun W h => okNo_c a7 c7 (n1 + 2) _ HBZ.out W (by rw [List.length_append, HN1.out]; rfl) h (by omega) (smallA.out _ m3))
    have HK4 := Lib.hid (fun (h0 : n1 ≠ 0) W h => okNo_c a8 c8 (n1 + n1) _ (HBW.out h0) W (by rw [List.length_append, HN1.out]) h (by omega) (smallA.out _ HSM.out))
    clear m1 m2 m3 HBX HBY HBZ HBW smallA
    go_wp2_with fail
    refine (HK1.out _ HX1.out).mono ?_; rintro e V1 ⟨rfl, hq⟩; replace hb := chn hb hq; replace HX2 := Lib.hid (HX2.out.below hq); replace HX3 := Lib.hid (HX3.out.below hq); replace HX4 := Lib.hid (HX4.out.below hq); clear hq HK1 HX1
    go_wp2_with fail
    refine (HK2.out _ HX2.out).mono ?_; rintro e V2 ⟨rfl, hq⟩; replace hb := chn hb hq; replace HX3 := Lib.hid (HX3.out.below hq); replace HX4 := Lib.hid (HX4.out.below hq); clear hq HK2 HX2
    go_wp2_with fail
    refine (HK3.out _ HX3.out).mono ?_; rintro e V3 ⟨rfl, hq⟩; replace hb := chn hb hq; replace HX4 := Lib.hid (HX4.out.below hq); clear hq HK3 HX3
    by_cases h0 : n1 = 0
    · have h0' : ((n1 : Int) == 0) = true := by rw [beq_iff_eq]; omega
      clear HK4
      go_wp2
      go_ret
      exact ⟨rfl, hb⟩
    · have h0' : ((n1 : Int) == 0) = false := by rw [beq_eq_false_iff_ne]; omega
      have HK5 := Lib.hid (HK4.out h0)
      clear HK4
      go_wp2_with fail
      refine (HK5.out _ HX4.out).mono ?_; rintro e V4 ⟨rfl, hq⟩; replace hb := chn hb hq; clear hq
      go_wp2
      go_ret
      exact ⟨rfl, hb⟩
end Go.Proofs.YtobbodbkdcbflaaDoor
namespace Go.Proofs.YtobbodbkdcbflaaDoor
open Go.RowKit
open Classical in
/-- What TreeTurned tells. -/
noncomputable def tturn (a b : List PE) : List Bs := if TOk a ∧ TOk b then turnedL a b else []
theorem tturn_bad {a b : List PE} (h : ¬ (TOk a ∧ TOk b)) : tturn a b = [] := by unfold tturn; rw [if_neg h]
theorem tturn_ok {a b : List PE} (h : TOk a) (h' : TOk b) : tturn a b = turnedL a b := by unfold tturn; rw [if_pos ⟨h, h'⟩]
theorem drop_cons {α : Type} {xs : List α} {k : Nat} {e : α} (h : xs[k]? = some e) : xs.drop k = e :: xs.drop (k + 1) := by
  obtain ⟨h1, h2⟩ := List.getElem?_eq_some_iff.1 h
  rw [List.drop_eq_getElem_cons h1, h2]
/-- What is left to merge at places i, j. -/
def restL (xs ys : List En) (i j : Nat) : List Bs := mergeL ((xs.drop i).map En.pl) ((ys.drop j).map En.pl)
theorem rest_a {xs ys : List En} {i j : Nat} {e : En} (he : xs[i]? = some e) (h : ys[j]? = none ∨ ∃ f, ys[j]? = some f ∧ Op.bytesLess e.p.toList f.p.toList = true) : restL xs ys i j = e.p.data.toList :: restL xs ys (i + 1) j := by
  unfold restL
  rw [drop_cons he]
  rcases h with h | ⟨f, hf, hl⟩
  · have : ys.drop j = [] := List.drop_eq_nil_of_le (by simpa using h)
    rw [this, List.map_cons]
    cases hx : (xs.drop (i + 1)).map En.pl with
    | nil => simp [mergeL, En.pl]
    | cons _ _ => simp [mergeL, En.pl]
  · rw [drop_cons hf, List.map_cons, List.map_cons, mergeL, if_pos (by show Op.bytesLess e.p.data.toList f.p.data.toList = true; rw [← less_of']; exact hl)]
    rfl
theorem rest_b {xs ys : List En} {i j : Nat} {f : En} (hf : ys[j]? = some f) (h : xs[i]? = none ∨ ∃ e, xs[i]? = some e ∧ Op.bytesLess e.p.toList f.p.toList = false ∧ Op.bytesLess f.p.toList e.p.toList = true) : restL xs ys i j = f.p.data.toList :: restL xs ys i (j + 1) := by
  unfold restL
  rw [drop_cons hf]
  rcases h with h | ⟨e, he, hl, hl2⟩
  · have : xs.drop i = [] := List.drop_eq_nil_of_le (by simpa using h)
    rw [this, List.map_cons]
    cases hx : (ys.drop (j + 1)).map En.pl with
    | nil => simp [mergeL, En.pl]
    | cons _ _ => simp [mergeL, En.pl]
  · rw [drop_cons he, List.map_cons, List.map_cons, mergeL, if_neg (by show ¬ Op.bytesLess e.p.data.toList f.p.data.toList = true; rw [← less_of', hl]; simp), if_pos (by show Op.bytesLess f.p.data.toList e.p.data.toList = true; rw [← less_of']; exact hl2)]
    rfl
theorem rest_c1 {xs ys : List En} {i j : Nat} {e : En} (he : xs[i]? = some e) (hf : ys[j]? = some e) : restL xs ys i j = restL xs ys (i + 1) (j + 1) := by
  unfold restL
  have hl : Op.bytesLess e.p.data.toList e.p.data.toList = false := less_irrefl _
  rw [drop_cons he, drop_cons hf, List.map_cons, List.map_cons, mergeL, if_neg (by show ¬ Op.bytesLess e.p.data.toList e.p.data.toList = true; rw [hl]; simp), if_neg (by show ¬ Op.bytesLess e.p.data.toList e.p.data.toList = true; rw [hl]; simp), if_pos rfl]
theorem rest_c2 {xs ys : List En} {i j : Nat} {e f : En} (he : xs[i]? = some e) (hf : ys[j]? = some f) (hp : e.p = f.p) (h : e ≠ f) : restL xs ys i j = e.p.data.toList :: restL xs ys (i + 1) (j + 1) := by
  unfold restL
  have hl : Op.bytesLess e.p.data.toList e.p.data.toList = false := less_irrefl _
  rw [drop_cons he, drop_cons hf, List.map_cons, List.map_cons, mergeL, if_neg (by show ¬ Op.bytesLess e.p.data.toList f.p.data.toList = true; rw [← hp, hl]; simp), if_neg (by show ¬ Op.bytesLess f.p.data.toList e.p.data.toList = true; rw [← hp, hl]; simp), if_neg (fun h' => h (En.pl_inj h'))]
  rfl
theorem same_p {e f : En} (h : Op.bytesLess e.p.toList f.p.toList = false) (h' : Op.bytesLess f.p.toList e.p.toList = false) : e.p = f.p := by
  rw [less_of'] at h h'
  rcases less_total e.p.data.toList f.p.data.toList with h1 | h1 | h1
  · rw [h] at h1; cases h1
  · exact bytes_eq h1
  · rw [h'] at h1; cases h1
theorem rest_end {xs ys : List En} {i j : Nat} (hi : xs.length ≤ i) (hj : ys.length ≤ j) : restL xs ys i j = [] := by
  unfold restL
  rw [List.drop_eq_nil_of_le hi, List.drop_eq_nil_of_le hj]; simp [mergeL]
end Go.Proofs.YtobbodbkdcbflaaDoor
namespace Go.Proofs.YtobbodbkdcbflaaDoor
open Go.Op
open Classical in
/-- What LayerDiff tells. -/
noncomputable def tdiffL (a b : List PE) : List PM := if TOk a ∧ TOk b then diffL a b else []
/-- What the program has before it sorts. -/
def rawQ (b : List PE) (Q : List Bs) : List PM := (Q.filterMap (dmark b)).foldl (fun out m => upsR 3 out m.p) (Q.filterMap (dmark b))
theorem tdiff_of_raw {a b : List PE} {s : List PM} (hp : s.Perm (rawQ b (tturn a b))) (hs : s.Pairwise fun a b => bytesLess b.p a.p = false) : s = tdiffL a b := by
  by_cases h : TOk a ∧ TOk b
  · rw [tturn_ok h.1 h.2] at hp
    unfold tdiffL
    rw [if_pos h]
    exact diff_of_raw h.1 h.2 hp hs
  · rw [tturn_bad h] at hp
    unfold tdiffL
    rw [if_neg h]
    exact List.Perm.eq_nil hp
theorem upsL_len (n : Nat) : ∀ (l : List PM) (q : Bs), (upsL n l q).length ≤ l.length + n := by
  induction n with
  | zero => intro l q; exact Nat.le_refl _
  | succ n ih =>
    intro l q
    unfold upsL
    split
    · omega
    · split
      · have h1 := ih (putP PM.p l (updm (upL q))) (upL q)
        have h2 := put_len_le (f := PM.p) l (updm (upL q))
        omega
      · have h1 := ih l (upL q); omega
theorem upsR_len (n : Nat) : ∀ (l : List PM) (q : Bs), (upsR n l q).length ≤ l.length + n := by
  induction n with
  | zero => intro l q; exact Nat.le_refl _
  | succ n ih =>
    intro l q
    unfold upsR
    split
    · omega
    · split
      · have h1 := ih (l ++ [updm (upL q)]) (upL q)
        rw [List.length_append] at h1
        simp only [List.length_singleton] at h1
        omega
      · have h1 := ih l (upL q); omega
theorem tdiff_len (a b : List PE) : (tdiffL a b).length ≤ 200 := by
  unfold tdiffL
  split
  · next h =>
    have key : ∀ (Q : List Bs) (out : List PM), (Q.foldl (fun out q => match dmark b q with | some m => upsL 3 (putP PM.p out m) q | none => out) out).length ≤ out.length + 4 * Q.length := by
      intro Q
      induction Q with
      | nil => intro out; simp
      | cons q r ih =>
        intro out
        rw [List.foldl_cons, List.length_cons]
        refine Nat.le_trans (ih _) ?_
        cases dmark b q with
        | none => simp only; omega
        | some m =>
          have h1 := upsL_len 3 (putP PM.p out m) q
          have h2 := put_len_le (f := PM.p) out m
          simp only
          omega
    have h1 := key (turnedL a b) []
    have h2 := turned_len (a := a) (b := b)
    have h3 := h.1.most
    have h4 := h.2.most
    have h5 : (diffL a b).length ≤ 0 + 4 * (turnedL a b).length := h1
    omega
  · simp
/-- The mark at a path at which the trees differ, as it lies. -/
def dmk (ys : List En) (q : ByteArray) : Option Mk := match getE ys q with
  | some e => some (if e.d then ⟨q, 2, ⟨#[]⟩⟩ else ⟨q, 1, e.x⟩)
  | none => if upCodeL (ys.map En.pl) q.data.toList = 0 then some ⟨q, 3, ⟨#[]⟩⟩ else none
theorem dmk_pl (ys : List En) (q : ByteArray) : dmark (ys.map En.pl) q.data.toList = (dmk ys q).map Mk.pl := by
  unfold dmark dmk
  rw [getE_pl]
  cases getE ys q with
  | none => simp only [Option.map_none]; split <;> rfl
  | some e =>
    obtain ⟨p, d, x⟩ := e
    cases d <;> rfl
theorem take_sl (ss : List ByteArray) (k : Nat) (s : ByteArray) (h : ss[k]? = some s) : (ss.take (k + 1)).map (·.data.toList) = (ss.take k).map (·.data.toList) ++ [s.data.toList] := by
  have hk : k < ss.length := (List.getElem?_eq_some_iff.1 h).1
  have he : ss[k] = s := (List.getElem?_eq_some_iff.1 h).2
  rw [List.take_succ_eq_append_getElem hk, he]
  simp
theorem dmk_snoc (ys : List En) (ss : List ByteArray) (k : Nat) (s : ByteArray) (h : ss[k]? = some s) (ms : List Mk) (hm : ms.map Mk.pl = ((ss.take k).map (·.data.toList)).filterMap (dmark (ys.map En.pl))) :
    (ms ++ (dmk ys s).toList).map Mk.pl = ((ss.take (k + 1)).map (·.data.toList)).filterMap (dmark (ys.map En.pl)) := by
  rw [take_sl ss k s h, List.filterMap_append, List.map_append, hm]
  congr 1
  rw [List.filterMap_cons, dmk_pl]
  cases dmk ys s <;> rfl
theorem dmk_p {ys : List En} {q : ByteArray} {m : Mk} (h : dmk ys q = some m) : m.p = q := by
  unfold dmk at h
  split at h
  · injection h with h; subst h; split <;> rfl
  · split at h
    · injection h with h; subst h; rfl
    · cases h
/-- A text of bytes. -/
theorem str_of20 (l : Bs) : ∃ b : ByteArray, l = b.data.toList := ⟨⟨l.toArray⟩, by simp⟩
theorem up_nil {q : Bs} (h : pathOkL q = false) : upL q = [] := by simp [upL, h]
/-- One step up, while there is one. -/
theorem upsR_step {r : Nat} {l : List PM} {q : Bs} (hq : pathOkL q = true) (hl : levelsL q ≤ r) (hu : upL q ≠ [47]) :
    ∃ r', r = r' + 1 ∧ pathOkL (upL q) = true ∧ levelsL (upL q) ≤ r' ∧ upsR r l q = upsR r' (if atP PM.p l (upL q) = none then l ++ [updm (upL q)] else l) (upL q) := by
  have h1 := levels_up hq
  cases r with
  | zero => omega
  | succ r' => exact ⟨r', rfl, up_path hq hu, by omega, by conv => lhs; unfold upsR; rw [if_neg hu]⟩
theorem upsR_end {r : Nat} {l : List PM} {q : Bs} (hu : upL q = [47]) : upsR r l q = l := by
  cases r with
  | zero => rfl
  | succ r' => unfold upsR; rw [if_pos hu]
end Go.Proofs.YtobbodbkdcbflaaDoor
