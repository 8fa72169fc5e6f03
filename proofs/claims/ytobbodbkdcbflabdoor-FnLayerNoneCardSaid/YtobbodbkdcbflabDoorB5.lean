/- What draws trees: the walks of l2Bent and DrawTreeDo. What draws trees: the walks of DrawTreeGet, DrawTreeList, DrawTreeOk, DrawTreeSame, DrawOpOk. The walks of TreeSame and LayerSame. The walks of TreeList, of the program and of the reference. What the laws of trees share: shapes, TreeGet, TreeSame, TreeOk as the laws meet them. What draws two trees: the walks of DrawTreeTurned and DrawLayerDiff. The walks of what marks memory and looks whether the marks still stand; lists of texts held against one another. The walks of what looks through lists of texts: wpIn, wpWords. The walk of the program's TreeTurned. The walks of the reference's l2Turned and TreeTurned. The walks of the reference's TreeTurned and of the exact law of TreeTurned. The walk of the law that differences are told exactly: FnTreeDiffer. Plain laws of what LayerDiff makes, as the walks meet it. The walks of markAt and LayerOk, of the program and of the reference. The walk of the program's joinMarks. What LayerJoin tells, in plain words. Conditions: each theorem's own. -/
import Derived.Test.YtobbodbkdcbflabDoorB4
import Derived.Test.YtobbodbkdcbflabDoorB1
import Derived.Test.YtobbodbkdcbflabDoorB2
import Derived.Deep.Onto
import Derived.Laws.OwnMore
import Derived.Deep.QuietTactic
import Derived.BigQuiet
import Derived.Laws.BytesArg
import Derived.Test.YtobbodbkdcbflabDoorB3
namespace Go.Proofs.YtobbodbkdcbflabDoor
open Go.RowKit
/-- One cell of a row of structs stored. -/
theorem flat_set {α : Type} {f : α → List Value} (hf : ∀ x, (f x).length = 3) {j : Nat} (hj : j < 3) {u : Value} {e' : α} : ∀ (xs : List α) (k : Nat) (e : α), xs[k]? = some e → f e' = (f e).set j u → (xs.flatMap f).set (k * 3 + j) u = (xs.set k e').flatMap f := by
  intro xs
  induction xs with
  | nil => intro k e he; simp at he
  | cons x r ih =>
    intro k e he hs
    cases k with
    | zero =>
      simp at he; subst he
      rw [List.flatMap_cons, List.set_cons_zero, List.flatMap_cons, Nat.zero_mul, Nat.zero_add, List.set_append_left _ _ (by rw [hf]; exact hj), hs]
    | succ k =>
      rw [List.flatMap_cons, List.set_cons_succ, List.flatMap_cons, List.set_append_right _ _ (by rw [hf]; omega), show (k + 1) * 3 + j - (f x).length = k * 3 + j by rw [hf]; omega]
      rw [ih k e (by simpa using he) hs]
/-- Entries with short texts, and paths of which F says yes. -/
def SmF (F : ByteArray → Bool) (xs : List En) : Prop := ∀ e ∈ xs, (e.p.size ≤ 20 ∧ e.x.size ≤ 20) ∧ F e.p = true
theorem SmF.small {F : ByteArray → Bool} {xs : List En} (h : SmF F xs) : Small xs := fun e he => (h e he).1
/-- What a bending leaves. -/
def BentPost (F : ByteArray → Bool) (w : World) (g p q N : Nat) (e : Ending) (w' : World) : Prop :=
  ∃ (a : Option Addr) (c : Nat) (xs : List En) (p' : Nat), e = .returned (.slice a xs.length c) ∧ DrawnT w' g a c xs ∧ SmF F xs ∧ xs.length ≤ N ∧ p' ≤ p + q ∧ Rd w' g p' ∧ Only g w w'
theorem small_set {F : ByteArray → Bool} {xs : List En} (h : SmF F xs) (k : Nat) (e : En) (he : (e.p.size ≤ 20 ∧ e.x.size ≤ 20) ∧ F e.p = true) : SmF F (xs.set k e) := fun x hx => by
  rcases List.mem_or_eq_of_mem_set hx with h1 | h1
  · exact h x h1
  · rw [h1]; exact he
theorem ret_len {a : Option Addr} {c n m : Nat} (h : m = n) : Ending.returned (.slice a n c) = .returned (.slice a m c) := by rw [h]
theorem cell_gr' {w w' : World} {own : Option Nat} {a : Addr} {v : Value} (hg : w.grownBy w' own) (h : w.cell? a = some v) (hne : own ≠ some a.block) : w'.cell? a = some v := by
  have hb := hg.block a.block (World.block_lt_of_cell? _ _ h) (Ne.symm hne)
  rw [← h]
  unfold World.cell?
  simp only [hb]
theorem own_only {w w' : World} {B g : Nat} {e : TypeId} {size : Nat} {v : Value} {n : Nat} {xs : List Value} (h : w.ownsRow B e size v n xs) (ho : Only g w w') (hg : g < B) : w'.ownsRow B e size v n xs := by
  refine h.kept ho ?_
  cases hb : v.ownBlock with
  | none => exact .inl rfl
  | some k => exact .inr fun e => by have := (h.lt k hb).1; injection e with e; omega
theorem only_grown {w w1 w2 : World} {g : Nat} {own : Option Nat} (h : Only g w w1) (hg : w1.grownBy w2 own) (ho : ∀ k, own = some k → w.heap.size ≤ k) : Only g w w2 :=
  ⟨hg.os.trans h.os, hg.tape.trans h.tape, hg.output.trans h.output, Nat.le_trans h.size hg.size, fun i hi hne => (hg.block i (Nat.lt_of_lt_of_le hi h.size) (fun e => by have := ho i e.symm; omega)).trans (h.block i hi hne)⟩
theorem Rd.grown {w w' : World} {g p : Nat} {own : Option Nat} (h : Rd w g p) (hg : w.grownBy w' own) (ho : ∀ k, own = some k → g < k) : Rd w' g p := by
  have hlt := h.lt
  obtain ⟨a, n, c, h1, h2, h3, h4⟩ := h
  refine ⟨a, n, c, (hg.block g hlt (fun e => by have := ho g e.symm; omega)).trans h1, h2, h3, fun hn => ?_⟩
  obtain ⟨b, off, e, hb, hc⟩ := h4 hn
  exact ⟨b, off, e, hb, fun k hk => by
    obtain ⟨x, h5, h6, h7⟩ := hc k hk
    exact ⟨x, h5, h6, cell_gr' hg h7 (fun e => by have := ho b e; omega)⟩⟩
theorem bent_own {w : World} {B : Nat} {v : Value} {n : Nat} {xs : List En} {ad : Addr} {cc : Nat} (hn : xs.length = n) (h : w.ownsRow B 31 3 v (0 + xs.length) ([] ++ xs.flatMap En.cells)) (hnil : v = .slice none 0 0 ↔ Value.slice (some ad) 0 cc = .slice none 0 0 ∧ xs.length = 0) :
    ∃ b c, v = .slice (some ⟨b, 0, none⟩) n c ∧ n ≤ c ∧ c ≤ maxLen ∧ w.ownsRow B 31 3 (.slice (some ⟨b, 0, none⟩) n c) n (xs.flatMap En.cells) := by
  rw [Nat.zero_add, List.nil_append, hn] at h
  have h0 := h
  rcases h.2 with ⟨h1, _⟩ | ⟨g, cap, cur, rfl, hg, hh, hnc, hm, h2, h3⟩
  · have := hnil.1 h1; simp at this
  · exact ⟨g, cap, rfl, hnc, hm, h0⟩
theorem drawn_own {w : World} {g B b c : Nat} {xs : List En} (h : w.ownsRow B 31 3 (.slice (some ⟨b, 0, none⟩) xs.length c) xs.length (xs.flatMap En.cells)) (hg : g < B) (hc : xs.length ≤ c) (hm : c ≤ maxLen) : DrawnT w g (some ⟨b, 0, none⟩) c xs :=
  ⟨b, 0, rfl, Nat.lt_of_lt_of_le hg (h.lt b rfl).1, (h.lt b rfl).2, own_slf (fun _ => rfl) h, hc, hm⟩
set_option maxRecDepth 100000 in
set_option maxHeartbeats 8000000 in
theorem l2Bent_c (F : ByteArray → Bool) (hF : ∀ s, goodT s = true → F s = true) (w : World) (g p : Nat) (hr : Rd w g p) (hp : p ≤ 900000) (a : Option Addr) (c : Nat) (xs : List En) (ht : DrawnT w g a c xs) (hz : SmF F xs) (hx : xs.length ≤ 1000) :
    Calls Tryd.prog 22 #[.pointer (some ⟨g, 0, none⟩), .slice a xs.length c] w (BentPost F w g p 4 (xs.length + 1)) := by
  have HE := eltEn
  have hg := hr.lt
  have HZ := Lib.hid hz
  have HR := Lib.hid hr
  have HB0 := bellow_alloc w (.cells #[] 31)
  have HRD := Lib.hid (ht.read.below HB0)
  obtain ⟨b0, off, rfl, _, hsl, _⟩ := HRD.out
  have hsl' := Lib.hid hsl
  have hown0 : Hid ((w.alloc (.cells #[] 31)).ownsRow w.heap.size 31 3 (.slice (some ⟨w.heap.size, 0, none⟩) 0 0) 0 []) := World.ownsRow_lit w #[] 0 (Nat.le_refl _) (Nat.zero_le _) rfl
  obtain ⟨n, hn⟩ : ∃ n, xs.length = n := ⟨_, rfl⟩
  have HN := Lib.hid hn
  rw [hn] at hx ⊢
  clear hsl ht hr hn hz
  by_cases hn0 : n = 0
  · subst hn0
    go_enter Tryd.func22, Tryd.ntmps22
    go_wp2_with (at_builtin; go_must (refine wp_appN (by rfl) _ _ 23 (by rfl) HE w.heap.size w.heap.size w _ _ 0 [] (by rfl) En.cells (fun _ => rfl) en_one xs b0 off 0 c HN.out (by rfl) hsl'.out hown0.out (by rw [HN.out]; omega) HB0.size HB0 (Nat.le_refl _) ?_); intro v2 w2 hown3 hbel3 hnil; obtain ⟨b, c5, rfl, hc5, hcm, how⟩ := bent_own HN.out hown3 hnil; clear hown3 hnil)
    have HRD2 := Lib.hid (HR.out.keep hbel3 hg)
    have HO2 : Hid (Only g w w2) := Only.of_below hbel3
    have hgb : w.heap.size ≤ b := (how.lt b rfl).1
    have HOW := Lib.hid how
    clear hbel3 how HB0 hsl' hown0 HRD
    go_ret
    exact ⟨some ⟨b, 0, none⟩, c5, xs, p, ret_len HN.out, drawn_own (B := w.heap.size) (by rw [HN.out]; exact HOW.out) hg (by rw [HN.out]; omega) hcm, HZ.out, by rw [HN.out]; omega, by omega, HRD2.out, HO2.out⟩
  have n0 : ((n : Int) == 0) = false := by rw [beq_eq_false_iff_ne]; omega
  go_enter Tryd.func22, Tryd.ntmps22
  go_wp2_with (at_builtin; go_must (refine wp_appN (by rfl) _ _ 23 (by rfl) HE w.heap.size w.heap.size w _ _ 0 [] (by rfl) En.cells (fun _ => rfl) en_one xs b0 off n c HN.out (by rfl) hsl'.out hown0.out (by rw [HN.out]; omega) HB0.size HB0 (Nat.le_refl _) ?_); intro v2 w2 hown3 hbel3 hnil; obtain ⟨b, c5, rfl, hc5, hcm, how⟩ := bent_own HN.out hown3 hnil; clear hown3 hnil)
  have HRD2 := Lib.hid (HR.out.keep hbel3 hg)
  have HO2 : Hid (Only g w w2) := Only.of_below hbel3
  have hgb : w.heap.size ≤ b := (how.lt b rfl).1
  have HOW := Lib.hid how
  clear hbel3 how HB0 hsl' hown0 HRD
  have HK := Lib.hid (pick_c w2 g p (n : Int) HRD2.out (by omega) (by omega) (by omega))
  clear HRD2
  refine HK.out.mono ?_; rintro e w3 ⟨k, rfl, _, hkn, hrd3, ho3⟩
  have hk : k < n := by have := hkn (by omega); omega
  have HOW3 := Lib.hid (own_only HOW.out ho3 hg)
  have HO3 := Lib.hid (HO2.out.trans ho3)
  have HK2 := Lib.hid (pick_c w3 g (p + 1) 50 hrd3 (by omega) (by omega) (by omega))
  clear hkn hrd3 ho3 HK HOW HO2
  go_wp2_with fail
  refine HK2.out.mono ?_; rintro e w4 ⟨m, rfl, _, _, hrd, ho4⟩
  have hown := own_only HOW3.out ho4 hg
  have HOX := Lib.hid (HO3.out.trans ho4)
  obtain ⟨⟨ep, ed, ex⟩, hee⟩ : ∃ e, xs[k]? = some e := ⟨_, List.getElem?_eq_getElem (by rw [HN.out]; exact hk)⟩
  have hes := HZ.out ⟨ep, ed, ex⟩ (List.mem_of_getElem? hee)
  have hsx : SlF En.cells w4 (some ⟨b, 0, none⟩) xs := own_slfN (fun _ => rfl) hown HN.out
  obtain ⟨d0, d1, d2⟩ := en_at hsx k ⟨ep, ed, ex⟩ hee
  have i0 : (0 : Int) ≤ (k : Int) := by omega
  have i1 : (k : Int) < (n : Int) := by omega
  rw [Nat.zero_add] at d0 d1 d2
  clear ho4 HK2 HOW3 HO3
  by_cases m0 : m = 0
  · subst m0
    have HRDX := Lib.hid hrd
    have HSM : Hid (SmF F (xs ++ [(⟨ep, ed, ex⟩ : En)])) := fun x hx => by
      rcases List.mem_append.1 hx with h | h
      · exact HZ.out x h
      · rw [List.mem_singleton.1 h]; exact hes
    clear hrd hsx hee
    go_wp2_with (at_builtin; go_must (refine wp_app1H (by rfl) _ _ 23 (by rfl) HE w.heap.size w.heap.size w4 _ #[.string ep, .bool ed, .string ex] _ _ _ (by rfl) w4.heap.size (by simp) (by rfl) hown (by rfl) (by simp [Value.oneCell']) (by omega) HOX.out.size (Below.refl _ _) (Nat.le_refl _) ?_); intro v' w5 hown1 _ _ hgr)
    have hown2 : w5.ownsRow w.heap.size 31 3 v' (xs ++ [(⟨ep, ed, ex⟩ : En)]).length ((xs ++ [(⟨ep, ed, ex⟩ : En)]).flatMap En.cells) := by
      rw [← flat_app, List.length_append, HN.out]; exact hown1
    obtain ⟨b9, c9, rfl, h91, h92, h93⟩ : OwnRe w5 w.heap.size v' (xs ++ [(⟨ep, ed, ex⟩ : En)]) := by
      refine ownRe_of hown2 (own_some hown1 (fun hv => ?_))
      have h2 := hown1
      rw [hv] at h2
      rcases h2.2 with ⟨_, h3⟩ | ⟨_, _, _, h3, _⟩
      · omega
      · cases h3
    have hbk : ∀ k, (Value.slice (some ⟨b, 0, none⟩) n c5).ownBlock = some k → w.heap.size ≤ k := fun k hk => by
      have : b = k := by simpa [Value.ownBlock] using hk
      omega
    have HO9 := Lib.hid (only_grown (HOX.out.alloc _) hgr hbk)
    have HR9 := Lib.hid ((HRDX.out.alloc _).grown hgr (fun k hk => Nat.lt_of_lt_of_le hg (hbk k hk)))
    clear hown1 hown2 hgr
    go_wp2
    go_ret
    exact ⟨_, c9, _, p + 1 + 1, rfl, drawn_own h93 hg h91 h92, HSM.out, by simp [HN.out], by omega, HR9.out, HO9.out⟩
  have n0' : ((m : Int) == 0) = false := by rw [beq_eq_false_iff_ne]; omega
  by_cases m1 : m = 1
  · subst m1
    have HNU := Lib.hid (fun (cs : Array Value) (n : Nat) (hn : Hid (cs.size = n)) h0 h1 hs => ofF_c goodT (w4.alloc (.cells cs 9)) g (p + 1 + 1) w4.heap.size n cs 9 (hrd.alloc _) (by omega) (heap_alloc_new w4 _) (by have := hrd.lt; omega) hn.out h0 h1 hs)
    have HEE := Lib.hid hee
    have HOWN := Lib.hid hown
    clear hrd hsx hee d0 d1 d2 hown
    go_wp2_with fail
    refine (HNU.out _ _ (by exact Lib.hid rfl) (by decide) (by decide) (by kernel_rfl)).mono ?_
    rintro e w5 ⟨s, p6, rfl, hs, hp6, hrd6, ho6⟩
    have hown5 := own_only (own_below HOWN.out (bellow_alloc w4 _)) ho6 hg
    have d0 := hown5.cellAt (k * 3) (by omega)
    obtain ⟨x0, hx0⟩ : ∃ u, (xs.flatMap En.cells)[k * 3]? = some u := ⟨_, List.getElem?_eq_getElem (by rw [flatMap_len (fun _ => rfl), HN.out]; omega)⟩
    rw [hx0] at d0
    have f0 := hown5.frozenAt (k * 3)
    have HST := Lib.hid (hown5.stored (k * 3 + 0) (.string s))
    rw [flat_set (fun _ => rfl) (by decide : 0 < 3) xs k ⟨ep, ed, ex⟩ HEE.out (e' := (⟨s, ed, ex⟩ : En)) rfl] at HST
    have HSM := Lib.hid (small_set HZ.out k (⟨s, ed, ex⟩ : En) ⟨⟨goodT_size hs, hes.1.2⟩, hF s hs⟩)
    have HRD6 := Lib.hid (hrd6.set ⟨b, k * 3 + 0, none⟩ (.string s) (by show g < b; omega))
    have HO6 := Lib.hid (((HOX.out.alloc _).trans ho6).setCell (p := ⟨b, k * 3 + 0, none⟩) (.inr (by show w.heap.size ≤ b; omega)) (.string s))
    clear hown5 hx0 hrd6 ho6 HNU
    go_wp2
    go_ret
    exact ⟨some ⟨b, 0, none⟩, c5, xs.set k (⟨s, ed, ex⟩ : En), p6, ret_len (by rw [List.length_set, HN.out]), drawn_own (B := w.heap.size) (by rw [List.length_set, HN.out]; exact HST.out.1) hg (by rw [List.length_set, HN.out]; exact hc5) hcm, HSM.out, by rw [List.length_set, HN.out]; omega, by omega, HRD6.out, HO6.out⟩
  have n1' : ((m : Int) == 1) = false := by rw [beq_eq_false_iff_ne]; omega
  by_cases m2 : m = 2
  · subst m2
    have HEE := Lib.hid hee
    have hown5 := hown
    have f0 := hown5.frozenAt (k * 3 + 1)
    have hrd6 := hrd
    have ho6 := Only.refl g w4
    have p6 := p + 1 + 1
    have HOX6 := Lib.hid HOX.out
    have HST := Lib.hid (hown.stored (k * 3 + 1) (.bool !ed))
    rw [flat_set (fun _ => rfl) (by decide : 1 < 3) xs k ⟨ep, ed, ex⟩ HEE.out (e' := (⟨ep, !ed, ex⟩ : En)) rfl] at HST
    have HSM := Lib.hid (small_set HZ.out k (⟨ep, !ed, ex⟩ : En) hes)
    have HRD6 := Lib.hid (hrd.set ⟨b, k * 3 + 1, none⟩ (.bool !ed) (by show g < b; omega))
    have HO6 := Lib.hid (HOX.out.setCell (p := ⟨b, k * 3 + 1, none⟩) (.inr (by show w.heap.size ≤ b; omega)) (.bool !ed))
    clear hown5 hown hsx hrd6 ho6 hrd HOX6 p6 hee
    go_wp2
    go_ret
    exact ⟨some ⟨b, 0, none⟩, c5, xs.set k (⟨ep, !ed, ex⟩ : En), p + 1 + 1, ret_len (by rw [List.length_set, HN.out]), drawn_own (B := w.heap.size) (by rw [List.length_set, HN.out]; exact HST.out.1) hg (by rw [List.length_set, HN.out]; exact hc5) hcm, HSM.out, by rw [List.length_set, HN.out]; omega, by omega, HRD6.out, HO6.out⟩
  have n2' : ((m : Int) == 2) = false := by rw [beq_eq_false_iff_ne]; omega
  by_cases m3 : m = 3
  · subst m3
    have HNU := Lib.hid (fun (cs : Array Value) (n : Nat) (hn : Hid (cs.size = n)) h0 h1 hs => of_c (w4.alloc (.cells cs 9)) g (p + 1 + 1) w4.heap.size n cs 9 (hrd.alloc _) (by omega) (heap_alloc_new w4 _) (by have := hrd.lt; omega) hn.out h0 h1 hs)
    have HEE := Lib.hid hee
    have HOWN := Lib.hid hown
    clear hrd hsx hee d0 d1 d2 hown
    go_wp2_with fail
    refine (HNU.out _ _ (by exact Lib.hid rfl) (by decide) (by decide) (by rfl)).mono ?_
    rintro e w5 ⟨s, p6, rfl, hs, hp6, hrd6, ho6⟩
    have hown5 := own_only (own_below HOWN.out (bellow_alloc w4 _)) ho6 hg
    have d0 := hown5.cellAt (k * 3 + 2) (by omega)
    obtain ⟨x0, hx0⟩ : ∃ u, (xs.flatMap En.cells)[k * 3 + 2]? = some u := ⟨_, List.getElem?_eq_getElem (by rw [flatMap_len (fun _ => rfl), HN.out]; omega)⟩
    rw [hx0] at d0
    have f0 := hown5.frozenAt (k * 3 + 2)
    have HST := Lib.hid (hown5.stored (k * 3 + 2) (.string s))
    rw [flat_set (fun _ => rfl) (by decide : 2 < 3) xs k ⟨ep, ed, ex⟩ HEE.out (e' := (⟨ep, ed, s⟩ : En)) rfl] at HST
    have HSM := Lib.hid (small_set HZ.out k (⟨ep, ed, s⟩ : En) ⟨⟨hes.1.1, hs⟩, hes.2⟩)
    have HRD6 := Lib.hid (hrd6.set ⟨b, k * 3 + 2, none⟩ (.string s) (by show g < b; omega))
    have HO6 := Lib.hid (((HOX.out.alloc _).trans ho6).setCell (p := ⟨b, k * 3 + 2, none⟩) (.inr (by show w.heap.size ≤ b; omega)) (.string s))
    clear hown5 hx0 hrd6 ho6 HNU
    go_wp2
    go_ret
    exact ⟨some ⟨b, 0, none⟩, c5, xs.set k (⟨ep, ed, s⟩ : En), p6, ret_len (by rw [List.length_set, HN.out]), drawn_own (B := w.heap.size) (by rw [List.length_set, HN.out]; exact HST.out.1) hg (by rw [List.length_set, HN.out]; exact hc5) hcm, HSM.out, by rw [List.length_set, HN.out]; omega, by omega, HRD6.out, HO6.out⟩
  have n3' : ((m : Int) == 3) = false := by rw [beq_eq_false_iff_ne]; omega
  have HRDX := Lib.hid hrd
  have HOWN := Lib.hid hown
  have HSX := Lib.hid hsx
  clear hrd hown hsx hee d0 d1 d2
  by_cases m4 : m = 4
  · subst m4
    have i2 : (1 : Int) ≤ (n : Int) := by omega
    have i3 : (1 : Int) ≤ (c5 : Int) := by omega
    have HDR := Lib.hid (HSX.out.drop 1)
    have hlt : b < w4.heap.size := (HOWN.out.lt b rfl).2
    by_cases hc1 : c5 = 1
    · subst hc1
      obtain rfl : n = 1 := by omega
      have HFIN : Hid (BentPost F w g p 4 (1 + 1) (.returned (.slice (some ⟨b, 0, none⟩) 0 0)) w4) := ⟨some ⟨b, 0, none⟩, 0, [], p + 1 + 1, rfl, ⟨b, 0, rfl, by omega, hlt, fun h => absurd h (by simp), Nat.zero_le _, Nat.zero_le _⟩, fun x hx => by simp at hx, by simp, by omega, HRDX.out, HOX.out⟩
      go_wp2
      all_goals first | (exfalso; omega) | skip
      all_goals go_ret
      all_goals exact HFIN.out
    · have HFIN : Hid (BentPost F w g p 4 (n + 1) (.returned (.slice (some ⟨b, 3, none⟩) (n - 1) (c5 - 1))) w4) := ⟨some ⟨b, 3, none⟩, c5 - 1, xs.drop 1, p + 1 + 1, ret_len (by rw [List.length_drop, HN.out]), ⟨b, 3, rfl, by omega, hlt, by simpa using HDR.out, by rw [List.length_drop, HN.out]; omega, by omega⟩, fun x hx => HZ.out x (List.mem_of_mem_drop hx), by rw [List.length_drop, HN.out]; omega, by omega, HRDX.out, HOX.out⟩
      go_wp2
      all_goals first | (exfalso; omega) | skip
      all_goals go_ret
      all_goals exact HFIN.out
  · have n4' : ((m : Int) == 4) = false := by rw [beq_eq_false_iff_ne]; omega
    go_wp2
    go_ret
    exact ⟨some ⟨b, 0, none⟩, c5, xs, p + 1 + 1, ret_len HN.out, drawn_own (B := w.heap.size) (by rw [HN.out]; exact HOWN.out) hg (by rw [HN.out]; exact hc5) hcm, HZ.out, by rw [HN.out]; omega, by omega, HRDX.out, HOX.out⟩
/-- A short text. -/
def le20 (s : ByteArray) : Bool := decide (s.size ≤ 20)
theorem le20_good (s : ByteArray) (h : goodT s = true) : le20 s = true := by unfold le20; rw [decide_eq_true_eq]; exact goodT_size h
theorem le20_of {s : ByteArray} (h : le20 s = true) : s.size ≤ 20 := by unfold le20 at h; rwa [decide_eq_true_eq] at h
theorem small_le {xs : List En} (h : Small xs) : SmF le20 xs := fun e he => ⟨h e he, by unfold le20; rw [decide_eq_true_eq]; exact (h e he).1⟩
/-- A short text that is not zz in the root. -/
def nzz (s : ByteArray) : Bool := le20 s && (s.data.toList != [47, 122, 122])
theorem nzz_good (s : ByteArray) (h : goodT s = true) : nzz s = true := by
  unfold nzz
  rw [Bool.and_eq_true, bne_iff_ne]
  refine ⟨le20_good s h, fun hq => ?_⟩
  have h1 := (good_low.1 h).2
  rw [hq] at h1; cases h1
theorem small_nzz {xs : List En} (h : Small xs) (hz : ZL (xs.map En.pl)) : SmF nzz xs := fun e he => ⟨h e he, by
  unfold nzz
  rw [Bool.and_eq_true, bne_iff_ne]
  exact ⟨(small_le h e he).2, hz e.pl (List.mem_map_of_mem he)⟩⟩
theorem nzz_zl {xs : List En} (h : SmF nzz xs) : ZL (xs.map En.pl) := fun e he => by
  obtain ⟨f, hf, rfl⟩ := List.mem_map.1 he
  have h1 := (h f hf).2
  unfold nzz at h1
  rw [Bool.and_eq_true, bne_iff_ne] at h1
  exact h1.2
end Go.Proofs.YtobbodbkdcbflabDoor
namespace Go.Proofs.YtobbodbkdcbflabDoor
open Go.RowKit
/-- A tree and a text, drawn. -/
def TreeTextPost (w : World) (e : Ending) (w' : World) : Prop :=
  ∃ (a : Option Addr) (c : Nat) (xs : List En) (s : ByteArray), e = .returned (.tuple #[.slice a xs.length c, .string s]) ∧ ReadEn w' a c xs ∧ Small xs ∧ xs.length ≤ 20 ∧ s.size ≤ 20 ∧ Below w.heap.size w w'
/-- A tree, drawn. -/
def OneTreePost (w : World) (e : Ending) (w' : World) : Prop :=
  ∃ (a : Option Addr) (c : Nat) (xs : List En), e = .returned (.slice a xs.length c) ∧ ReadEn w' a c xs ∧ Small xs ∧ xs.length ≤ 25 ∧ ZL (xs.map En.pl) ∧ Below w.heap.size w w'
/-- Two trees, drawn; the first is right. -/
def TwoTreePost (w : World) (e : Ending) (w' : World) : Prop :=
  ∃ (a : Option Addr) (c : Nat) (xs : List En) (a' : Option Addr) (c' : Nat) (ys : List En), e = .returned (.tuple #[.slice a xs.length c, .slice a' ys.length c']) ∧ ReadEn w' a c xs ∧ Small xs ∧ xs.length ≤ 25 ∧ ReadEn w' a' c' ys ∧ Small ys ∧ ys.length ≤ 25 ∧ Below w.heap.size w w'
/-- What is done, drawn. -/
def OneOpPost (w : World) (e : Ending) (w' : World) : Prop :=
  ∃ (k : Int) (P T D : ByteArray), e = .returned (opV k P T D) ∧ P.size ≤ 20 ∧ T.size ≤ 20 ∧ D.size ≤ 20 ∧ Below w.heap.size w w'
end Go.Proofs.YtobbodbkdcbflabDoor
namespace Go.Proofs.YtobbodbkdcbflabDoor
open Go.RowKit
set_option maxHeartbeats 1000000 in
theorem equalEnt_c (a a' : Option Addr) (c c' : Nat) (xs ys : List En) (r : Bool) (hr : Hid (r = true ↔ xs = ys)) (w : World) (hs : SlF En.cells w a xs) (hs' : SlF En.cells w a' ys) (hx : xs.length ≤ maxLen) (_hy : ys.length ≤ maxLen) :
    Calls Tryd.prog 30 #[.slice a xs.length c, .slice a' ys.length c'] w fun q w' => q = .returned (.bool r) ∧ ∃ m, w' = w.drewN m := by
  unfold maxLen at hx _hy
  by_cases hl : xs.length = ys.length
  · obtain ⟨n, hn⟩ : ∃ n, xs.length = n := ⟨_, rfl⟩
    have hn' : ys.length = n := by rw [← hl, hn]
    rw [hn] at hx ⊢
    rw [hn']
    have HN := Lib.hid hn
    have HN' := Lib.hid hn'
    have HS := Lib.hid hs
    have HS' := Lib.hid hs'
    have HE := Lib.hid (fun (h : ∀ (k : Nat) (x y : En), xs[k]? = some x → ys[k]? = some y → x = y) => differ hl h)
    clear hl hn hn' hs hs' _hy
    go_enter Tryd.func30, Tryd.ntmps30
    go_wp2
    go_loopw [5, 13] (fun _ i wr => ∃ k : Nat, k ≤ n ∧ i = .int .i64 k ∧ (∀ (j : Nat) (x y : En), j < k → xs[j]? = some x → ys[j]? = some y → x = y) ∧ ∃ m, wr = w.drewN m) (fun _ i _ => n - (intOf i).toNat)
    case atStart => exact ⟨0, Nat.zero_le _, rfl, fun j _ _ h => absurd h (by omega), 0, rfl⟩
    case round =>
      obtain ⟨k, hk, rfl, hall, m, rfl⟩ := hrel
      have HA := Lib.hid hall
      clear hall
      by_cases hlt : k < n
      · obtain ⟨e, hee⟩ : ∃ e, xs[k]? = some e := ⟨_, List.getElem?_eq_getElem (by rw [HN.out]; exact hlt)⟩
        obtain ⟨f, hff⟩ : ∃ e, ys[k]? = some e := ⟨_, List.getElem?_eq_getElem (by rw [HN'.out]; exact hlt)⟩
        have h2 := HS.out
        have h3 := HS'.out
        obtain ⟨b, off, rfl, _⟩ := h2.addr (by rw [HN.out]; omega)
        obtain ⟨b', off', rfl, _⟩ := h3.addr (by rw [HN'.out]; omega)
        obtain ⟨c0, c1, c2⟩ := en_at h2 k e hee
        obtain ⟨d0, d1, d2⟩ := en_at h3 k f hff
        have HEE := Lib.hid hee
        have HFF := Lib.hid hff
        have i0 : (0 : Int) ≤ (k : Int) := by omega
        have i1 : (k : Int) < (n : Int) := by omega
        clear h2 h3 hee hff
        by_cases hef : e = f
        · subst hef
          go_wp2_with fail
          go_quiet (fail)
          go_wp2
          go_roundw
          case rel => exact ⟨k + 1, by omega, by go_num, fun j x y hj h1 h2 => by
            by_cases ej : j = k
            · subst ej
              rw [HEE.out] at h1
              rw [HFF.out] at h2
              injection h1 with h1; injection h2 with h2
              rw [← h1, ← h2]
            · exact HA.out j x y (by omega) h1 h2, _, rfl⟩
          case measure => simp [intOf]; omega
        · obtain rfl : r = false := by
            cases r
            · rfl
            · have := hr.out.1 rfl
              rw [this, HFF.out] at HEE
              exact absurd (Option.some.inj HEE.out).symm hef
          obtain ⟨p, d, x⟩ := e
          obtain ⟨p', d', x'⟩ := f
          simp only at c0 c1 c2 d0 d1 d2
          by_cases h1 : p = p'
          · subst h1
            by_cases h2 : d = d'
            · subst h2
              have q := bq_no (s := x) (t := x') (fun h => hef (by rw [h]))
              clear hef HEE HFF
              go_wp2_with fail
              go_quiet (fail)
              go_wp2
              go_ret
              exact ⟨rfl, _, World.drewN_drewN _ _ _⟩
            · have q : (d == d') = false := by rw [beq_eq_false_iff_ne]; exact h2
              clear hef HEE HFF h2
              go_wp2_with fail
              go_quiet (fail)
              go_wp2
              go_ret
              exact ⟨rfl, _, World.drewN_drewN _ _ _⟩
          · have q := bq_no h1
            clear hef HEE HFF h1
            go_wp2_with fail
            go_quiet (fail)
            go_wp2
            go_ret
            exact ⟨rfl, _, World.drewN_drewN _ _ _⟩
      · obtain rfl : r = true := hr.out.2 (HE.out (fun j x y h1 h2 => HA.out j x y (by
          have := (List.getElem?_eq_some_iff.1 h1).1
          rw [HN.out] at this; omega) h1 h2))
        go_wp2
        go_ret
        exact ⟨rfl, _, rfl⟩
  · obtain rfl : r = false := by
      cases r
      · rfl
      · exact absurd (congrArg List.length (hr.out.1 rfl)) hl
    obtain ⟨n, hn⟩ : ∃ n, xs.length = n := ⟨_, rfl⟩
    obtain ⟨n', hn'⟩ : ∃ n, ys.length = n := ⟨_, rfl⟩
    rw [hn, hn'] at hl
    rw [hn] at hx ⊢
    rw [hn'] at _hy ⊢
    have q : ((n : Int) != (n' : Int)) = true := by rw [bne_iff_ne]; omega
    clear hr hs hs' hn hn' hl
    go_enter Tryd.func30, Tryd.ntmps30
    go_wp2
    go_ret
    exact ⟨rfl, 0, rfl⟩
set_option maxHeartbeats 1000000 in
theorem equalMark_c (a a' : Option Addr) (c c' : Nat) (xs ys : List Mk) (r : Bool) (hr : Hid (r = true ↔ xs = ys)) (w : World) (hs : SlF Mk.cells w a xs) (hs' : SlF Mk.cells w a' ys) (hx : xs.length ≤ maxLen) (_hy : ys.length ≤ maxLen) :
    Calls Tryd.prog 41 #[.slice a xs.length c, .slice a' ys.length c'] w fun q w' => q = .returned (.bool r) ∧ ∃ m, w' = w.drewN m := by
  unfold maxLen at hx _hy
  by_cases hl : xs.length = ys.length
  · obtain ⟨n, hn⟩ : ∃ n, xs.length = n := ⟨_, rfl⟩
    have hn' : ys.length = n := by rw [← hl, hn]
    rw [hn] at hx ⊢
    rw [hn']
    have HN := Lib.hid hn
    have HN' := Lib.hid hn'
    have HS := Lib.hid hs
    have HS' := Lib.hid hs'
    have HE := Lib.hid (fun (h : ∀ (k : Nat) (x y : Mk), xs[k]? = some x → ys[k]? = some y → x = y) => differ hl h)
    clear hl hn hn' hs hs' _hy
    go_enter Tryd.func41, Tryd.ntmps41
    go_wp2
    go_loopw [5, 13] (fun _ i wr => ∃ k : Nat, k ≤ n ∧ i = .int .i64 k ∧ (∀ (j : Nat) (x y : Mk), j < k → xs[j]? = some x → ys[j]? = some y → x = y) ∧ ∃ m, wr = w.drewN m) (fun _ i _ => n - (intOf i).toNat)
    case atStart => exact ⟨0, Nat.zero_le _, rfl, fun j _ _ h => absurd h (by omega), 0, rfl⟩
    case round =>
      obtain ⟨k, hk, rfl, hall, m, rfl⟩ := hrel
      have HA := Lib.hid hall
      clear hall
      by_cases hlt : k < n
      · obtain ⟨e, hee⟩ : ∃ e, xs[k]? = some e := ⟨_, List.getElem?_eq_getElem (by rw [HN.out]; exact hlt)⟩
        obtain ⟨f, hff⟩ : ∃ e, ys[k]? = some e := ⟨_, List.getElem?_eq_getElem (by rw [HN'.out]; exact hlt)⟩
        have h2 := HS.out
        have h3 := HS'.out
        obtain ⟨b, off, rfl, _⟩ := h2.addr (by rw [HN.out]; omega)
        obtain ⟨b', off', rfl, _⟩ := h3.addr (by rw [HN'.out]; omega)
        obtain ⟨c0, c1, c2⟩ := mk_at h2 k e hee
        obtain ⟨d0, d1, d2⟩ := mk_at h3 k f hff
        have HEE := Lib.hid hee
        have HFF := Lib.hid hff
        have i0 : (0 : Int) ≤ (k : Int) := by omega
        have i1 : (k : Int) < (n : Int) := by omega
        clear h2 h3 hee hff
        by_cases hef : e = f
        · subst hef
          go_wp2_with fail
          go_quiet (fail)
          go_wp2
          go_roundw
          case rel => exact ⟨k + 1, by omega, by go_num, fun j x y hj h1 h2 => by
            by_cases ej : j = k
            · subst ej
              rw [HEE.out] at h1
              rw [HFF.out] at h2
              injection h1 with h1; injection h2 with h2
              rw [← h1, ← h2]
            · exact HA.out j x y (by omega) h1 h2, _, rfl⟩
          case measure => simp [intOf]; omega
        · obtain rfl : r = false := by
            cases r
            · rfl
            · have := hr.out.1 rfl
              rw [this, HFF.out] at HEE
              exact absurd (Option.some.inj HEE.out).symm hef
          obtain ⟨p, d, x⟩ := e
          obtain ⟨p', d', x'⟩ := f
          simp only at c0 c1 c2 d0 d1 d2
          by_cases h1 : p = p'
          · subst h1
            by_cases h2 : d = d'
            · subst h2
              have q := bq_no (s := x) (t := x') (fun h => hef (by rw [h]))
              clear hef HEE HFF
              go_wp2_with fail
              go_quiet (fail)
              go_wp2
              go_ret
              exact ⟨rfl, _, World.drewN_drewN _ _ _⟩
            · have q : (d == d') = false := by rw [beq_eq_false_iff_ne]; exact h2
              clear hef HEE HFF h2
              go_wp2_with fail
              go_quiet (fail)
              go_wp2
              go_ret
              exact ⟨rfl, _, World.drewN_drewN _ _ _⟩
          · have q := bq_no h1
            clear hef HEE HFF h1
            go_wp2_with fail
            go_quiet (fail)
            go_wp2
            go_ret
            exact ⟨rfl, _, World.drewN_drewN _ _ _⟩
      · obtain rfl : r = true := hr.out.2 (HE.out (fun j x y h1 h2 => HA.out j x y (by
          have := (List.getElem?_eq_some_iff.1 h1).1
          rw [HN.out] at this; omega) h1 h2))
        go_wp2
        go_ret
        exact ⟨rfl, _, rfl⟩
  · obtain rfl : r = false := by
      cases r
      · rfl
      · exact absurd (congrArg List.length (hr.out.1 rfl)) hl
    obtain ⟨n, hn⟩ : ∃ n, xs.length = n := ⟨_, rfl⟩
    obtain ⟨n', hn'⟩ : ∃ n, ys.length = n := ⟨_, rfl⟩
    rw [hn, hn'] at hl
    rw [hn] at hx ⊢
    rw [hn'] at _hy ⊢
    have q : ((n : Int) != (n' : Int)) = true := by rw [bne_iff_ne]; omega
    clear hr hs hs' hn hn' hl
    go_enter Tryd.func41, Tryd.ntmps41
    go_wp2
    go_ret
    exact ⟨rfl, 0, rfl⟩
set_option maxHeartbeats 1000000 in
theorem treeSame_c (a a' : Option Addr) (c c' : Nat) (xs ys : List En) (r : Bool) (hr : Hid (r = true ↔ xs = ys)) (w : World) (hs : SlF En.cells w a xs) (hs' : SlF En.cells w a' ys) (hx : xs.length ≤ maxLen) (hy : ys.length ≤ maxLen) :
    Calls Tryd.prog 11 #[.slice a xs.length c, .slice a' ys.length c'] w fun q w' => q = .returned (.bool r) ∧ ∃ m, w' = w.drewN m := by
  have H := Lib.hid (equalEnt_c a a' c c' xs ys r hr w hs hs' hx hy)
  obtain ⟨n, hn⟩ : ∃ n, xs.length = n := ⟨_, rfl⟩
  obtain ⟨n', hn'⟩ : ∃ n, ys.length = n := ⟨_, rfl⟩
  rw [hn, hn'] at H
  rw [hn, hn']
  clear hr hs hs' hx hy hn hn'
  go_enter Tryd.func11, Tryd.ntmps11
  go_wp2_with fail
  refine H.out.mono ?_
  rintro q W ⟨rfl, m, rfl⟩
  go_wp2
  go_ret
  exact ⟨rfl, _, rfl⟩
set_option maxHeartbeats 1000000 in
theorem layerSame_c (a a' : Option Addr) (c c' : Nat) (xs ys : List Mk) (r : Bool) (hr : Hid (r = true ↔ xs = ys)) (w : World) (hs : SlF Mk.cells w a xs) (hs' : SlF Mk.cells w a' ys) (hx : xs.length ≤ maxLen) (hy : ys.length ≤ maxLen) :
    Calls Tryd.prog 16 #[.slice a xs.length c, .slice a' ys.length c'] w fun q w' => q = .returned (.bool r) ∧ ∃ m, w' = w.drewN m := by
  have H := Lib.hid (equalMark_c a a' c c' xs ys r hr w hs hs' hx hy)
  obtain ⟨n, hn⟩ : ∃ n, xs.length = n := ⟨_, rfl⟩
  obtain ⟨n', hn'⟩ : ∃ n, ys.length = n := ⟨_, rfl⟩
  rw [hn, hn'] at H
  rw [hn, hn']
  clear hr hs hs' hx hy hn hn'
  go_enter Tryd.func16, Tryd.ntmps16
  go_wp2_with fail
  refine H.out.mono ?_
  rintro q W ⟨rfl, m, rfl⟩
  go_wp2
  go_ret
  exact ⟨rfl, _, rfl⟩
end Go.Proofs.YtobbodbkdcbflabDoor
namespace Go.Proofs.YtobbodbkdcbflabDoor
open Go.RowKit
/-- What TreeList tells: the names and the code. -/
def MadeSc (L : List Bs) (m : Nat) (w : World) (e : Ending) (w' : World) : Prop :=
  ∃ (v : Value) (ss : List ByteArray), e = .returned (.tuple #[v, .int .i64 m]) ∧ ss.map (·.data.toList) = L ∧ w'.ownsRow w.heap.size 9 1 v ss.length (ss.map Value.string) ∧ Below w.heap.size w w'
open Classical in
noncomputable def tlistC (t : List PE) (q : Bs) : Nat := if TOk t ∧ (q = [47] ∨ pathOkL q = true) then (if q = [47] then 0 else match getL t q with
  | none => 2
  | some e => if e.d then 0 else 3) else 1
noncomputable def tlistL (t : List PE) (q : Bs) : List Bs := if tlistC t q = 0 then kidsL t q else []
theorem tlist_bad {t : List PE} {q : Bs} (h : ¬ (TOk t ∧ (q = [47] ∨ pathOkL q = true))) : tlistC t q = 1 ∧ tlistL t q = [] := by
  have h1 : tlistC t q = 1 := by unfold tlistC; rw [if_neg h]
  exact ⟨h1, by unfold tlistL; rw [h1]; rfl⟩
theorem tlist_ok {xs : List En} {q : ByteArray} (h : TOk (xs.map En.pl)) (hq : q.data.toList = [47] ∨ pathOkL q.data.toList = true) : tlistC (xs.map En.pl) q.data.toList = upC (lgetE xs q) := by
  unfold tlistC lgetE
  rw [if_pos ⟨h, hq⟩]
  by_cases hr : q.data.toList = [47]
  · rw [if_pos hr, if_pos hr]; rfl
  · rw [if_neg hr, if_neg hr, getE_pl]
    cases getE xs q <;> rfl
theorem tlist_0 {t : List PE} {q : Bs} (h : tlistC t q = 0) : tlistL t q = kidsL t q := by unfold tlistL; rw [if_pos h]
theorem tlist_n {t : List PE} {q : Bs} {m : Nat} (h : tlistC t q = m) (hm : m ≠ 0) : tlistL t q = [] := by unfold tlistL; rw [h, if_neg hm]
theorem own_lit2 {w : World} {o : Obj} {base size : Nat} {e : TypeId} (h : base ≤ w.heap.size) : ((w.alloc o).alloc (.cells #[] e)).ownsRow base e size (.slice (some ⟨w.heap.size + 1, 0, none⟩) 0 0) 0 [] := by
  have h1 := World.ownsRow_lit (base := base) (e := e) (size := size) (w.alloc o) #[] 0 (by simp; omega) (Nat.zero_le _) (by simp)
  have h2 : (w.alloc o).heap.size = w.heap.size + 1 := by simp
  rw [h2] at h1
  exact h1
end Go.Proofs.YtobbodbkdcbflabDoor
namespace Go.Proofs.YtobbodbkdcbflabDoor
open Go.RowKit
/-- Two trees held against one another. -/
theorem sameR_c (a a' : Option Addr) (c c' n n' : Nat) (xs ys : List En) (r : Bool) (hr : Hid (r = true ↔ xs = ys)) (w : World) (hn : xs.length = n) (hn' : ys.length = n') (hs : SlF En.cells w a xs) (hs' : SlF En.cells w a' ys) (hx : n ≤ 1000) (hy : n' ≤ 1000) :
    Calls Tryd.prog 11 #[.slice a n c, .slice a' n' c'] w fun e w' => e = .returned (.bool r) ∧ Below w.heap.size w w' := by
  subst hn hn'
  exact (treeSame_c a a' c c' xs ys r hr w hs hs' (by unfold maxLen; omega) (by unfold maxLen; omega)).mono fun _ _ ⟨h1, m, h2⟩ => ⟨h1, h2 ▸ below_dr w m⟩
/-- TreeGet, as the laws meet it. -/
theorem getT_c (a : Option Addr) (c n : Nat) (xs : List En) (q : ByteArray) (o : Option En) (ho : Hid (tgetE xs q = o)) (w : World) (hn : xs.length = n) (hs : SlF En.cells w a xs) (hx : n ≤ 1000) (hz : Small xs) :
    Calls Tryd.prog 10 #[.slice a n c, .string q] w fun e w' => e = .returned (optV o) ∧ Below w.heap.size w w' := by
  subst hn
  exact treeGet_c a c xs q o ho w hs (by unfold maxLen; omega) hz.max
theorem okS_c (a : Option Addr) (c n : Nat) (xs : List En) (r : Bool) (hr : Hid (r = true ↔ TOk (xs.map En.pl))) (w : World) (hn : xs.length = n) (hs : SlF En.cells w a xs) (hc : n ≤ c) (hx : n ≤ 1000) (hz : Small xs) :
    Calls Tryd.prog 9 #[.slice a n c] w fun e w' => e = .returned (.bool r) ∧ Below w.heap.size w w' := by
  subst hn
  exact sTreeOk_c a c xs r hr w hs (by unfold maxLen; omega) hc hz.max
theorem okI_c (a : Option Addr) (c n : Nat) (xs : List En) (r : Bool) (hr : Hid (r = true ↔ TOk (xs.map En.pl))) (w : World) (hn : xs.length = n) (hs : SlF En.cells w a xs) (hx : n ≤ 1000) (hz : Small xs) :
    Calls Tryd.prog 23 #[.slice a n c] w fun e w' => e = .returned (.bool r) ∧ Below w.heap.size w w' := by
  subst hn
  exact treeOk_c a c xs r hr w hs (by unfold maxLen; omega) hz.max
theorem tget_right {xs : List En} {q : ByteArray} (h : TOk (xs.map En.pl)) (hq : pathOkL q.data.toList = true) : tgetE xs q = getE xs q := by
  rw [tget_ok q h, lgetE, if_neg (path_ne_root hq)]
/-- What TreeGet tells, in one shape. -/
theorem opt_one (o : Option En) : ∃ (ep ex : ByteArray) (ed th : Bool), optV o = .tuple #[.agg #[.string ep, .bool ed, .string ex], .bool th] ∧ ((o = none ∧ th = false) ∨ (th = true ∧ o = some ⟨ep, ed, ex⟩)) := by
  cases o with
  | none => exact ⟨⟨#[]⟩, ⟨#[]⟩, false, false, rfl, .inl ⟨rfl, rfl⟩⟩
  | some e => exact ⟨e.p, e.x, e.d, true, rfl, .inr ⟨rfl, rfl⟩⟩
theorem ReadEn.cap {w : World} {a : Option Addr} {c : Nat} {xs : List En} (h : ReadEn w a c xs) : xs.length ≤ c := by
  obtain ⟨b, off, _, _, _, h4, _⟩ := h; exact h4
theorem getE_some {xs : List En} {q : ByteArray} {e : En} (h : getE xs q = some e) : e ∈ xs ∧ e.p = q := by
  induction xs with
  | nil => cases h
  | cons a r ih =>
    unfold getE at h
    split at h
    · next hq => injection h with h; subst h; exact ⟨by simp, bytes_eq hq⟩
    · have := ih h; exact ⟨by simp [this.1], this.2⟩
theorem getE_ok {xs : List En} (h : TOk (xs.map En.pl)) {e : En} (he : e ∈ xs) : getE xs e.p = some e := by
  have h1 := getL_mem h.ord (List.mem_map_of_mem he)
  have h2 : getL (xs.map En.pl) e.p.data.toList = some e.pl := h1
  rw [getE_pl] at h2
  cases hx : getE xs e.p with
  | none => rw [hx] at h2; cases h2
  | some f => rw [hx] at h2; injection h2 with h2; rw [En.pl_inj h2]
end Go.Proofs.YtobbodbkdcbflabDoor
namespace Go.Proofs.YtobbodbkdcbflabDoor
open Go.RowKit
/-- Two trees, drawn; the first is right. -/
def TurnedPost (w : World) (e : Ending) (w' : World) : Prop :=
  ∃ (a : Option Addr) (c : Nat) (xs : List En) (a' : Option Addr) (c' : Nat) (ys : List En), e = .returned (.tuple #[.slice a xs.length c, .slice a' ys.length c']) ∧ ReadEn w' a c xs ∧ TOk (xs.map En.pl) ∧ ReadEn w' a' c' ys ∧ Small ys ∧ ys.length ≤ 25 ∧ Below w.heap.size w w'
set_option maxRecDepth 100000 in
set_option maxHeartbeats 4000000 in
theorem drawTreeTurned_c (w : World) (a : Option Addr) (n c : Nat) (h : Code w a n c) : Calls Tryd.prog 5 #[.slice a n c] w (TurnedPost w) := by
  obtain ⟨rb, hrb⟩ : ∃ rb, w.heap.size = rb := ⟨_, rfl⟩
  have ho0 := open_c' w a n c h
  rw [hrb] at ho0
  have HO := Lib.hid ho0
  clear h ho0
  go_enter Tryd.func5, Tryd.ntmps5
  go_wp2_with fail
  refine HO.out.mono ?_; rintro e w1 ⟨rfl, hrd, hb⟩
  have HB1 := Lib.hid (hb.mono (by rw [hrb]; exact Nat.le_refl _) : Below w.heap.size w w1)
  have HT := Lib.hid (l2Tree_c w1 rb 0 hrd (by omega))
  clear hrd hb HO
  go_wp2_with fail
  refine HT.out.mono ?_; rintro e w2 ⟨a2, c2, ts, p2, rfl, hd2, htok, hzl, hp2, hrd2, ho2⟩
  have hts : ts.length ≤ 16 := by have := htok.most; rw [List.length_map] at this; exact this
  have HDA := Lib.hid hd2
  have HTA := Lib.hid htok
  have HO2 := Lib.hid ho2
  have HP := Lib.hid (pick_c w2 rb p2 5 hrd2 (by omega) (by omega) (by omega))
  clear hd2 htok hzl hrd2 ho2 HT
  obtain ⟨na, hna⟩ : ∃ n, ts.length = n := ⟨_, rfl⟩
  have HNA := Lib.hid hna
  rw [hna] at hts ⊢
  clear hna
  go_wp2_with fail
  refine HP.out.mono ?_; rintro e w3 ⟨z, rfl, _, hz5, hrd3, ho3⟩
  have hz5' : z < 5 := by have := hz5 (by omega); omega
  have HT3 : Hid (TreeIn (fun _ => True) w2 w3 rb (p2 + 1) (.slice a2 na c2)) := ⟨a2, c2, ts, by rw [HNA.out], HDA.out.only ho3, HTA.out, trivial, hrd3, ho3⟩
  clear hz5 hrd3 ho3 HP
  go_wp2
  go_loopw [6, 7] (fun v i wr => ∃ (j : Nat) (p' : Nat), i = .int .i64 j ∧ j ≤ 5 ∧ p' + 10 * j ≤ p2 + 60 ∧ TreeIn (fun _ => True) w2 wr rb p' v) (fun _ i _ => (intOf i).toNat)
  case atStart => exact ⟨z, p2 + 1, rfl, by omega, by omega, HT3.out⟩
  case round =>
    obtain ⟨j, p', rfl, hj, hpj, a', c', us, rfl, hdt, hut, _, hrd, ho⟩ := hrel
    have hus : us.length ≤ 16 := by have := hut.most; rw [List.length_map] at this; exact this
    have HTK := Lib.hid hut
    have HO := Lib.hid ho
    clear hut ho
    by_cases hpos : 0 < j
    · have HL := Lib.hid (l2Op_c le20 le20_good wr rb p' hrd (by omega) a' c' us hdt (fun e he => (small_le (tok_small HTK.out) e he).2) (by omega))
      have HDT := Lib.hid hdt
      have hjp : (0 : Int) < (j : Int) := by omega
      obtain ⟨n, hn⟩ : ∃ n, us.length = n := ⟨_, rfl⟩
      have HN := Lib.hid hn
      rw [hn] at HL hus ⊢
      clear hrd hdt hn
      go_wp2_with fail
      refine HL.out.mono ?_; rintro e w4 ⟨k, P, T, D, p4, rfl, hP0, hT, hD, hp4, hrd4, ho4⟩; replace hT := goodT_size hT; have hP := le20_of hP0
      have HD4 := Lib.hid (HDT.out.only ho4)
      have HS := Lib.hid (sTreeDo_c a' c' us k P T D w4 HD4.out.read (by have := HN.out; omega) (by omega) (by omega) (by omega) (tok_small HTK.out).mil)
      have hg4 := hrd4.lt
      have HRD4 := Lib.hid hrd4
      have HO4 := Lib.hid (HO.out.trans ho4)
      rw [HN.out] at HS
      clear hrd4 ho4 HL hP0
      go_wp2_with fail
      refine HS.out.mono ?_; rintro e w5 ⟨v5, ms, rfl, hms, how, hq5⟩
      obtain ⟨a5, c5, rfl, hd5⟩ := how.drawn hg4
      have HX : Hid (TreeIn (fun _ => True) w2 w5 rb p4 (.slice a5 ms.length c5)) := ⟨a5, c5, ms, rfl, hd5, by rw [hms]; exact tdo_tok HTK.out, trivial, HRD4.out.keep hq5 hg4, HO4.out.trans (Only.of_below hq5)⟩
      clear hms how hd5 hq5 HS
      go_wp2
      go_roundw
      case rel => exact ⟨j - 1, p4, by go_num, by omega, by omega, HX.out⟩
      case measure => simp [intOf]; omega
    · obtain rfl : j = 0 := by omega
      have HK := Lib.hid (pick_c wr rb p' 4 hrd (by omega) (by omega) (by omega))
      have HDT := Lib.hid hdt
      clear hrd hdt
      obtain ⟨nb, hnb⟩ : ∃ n, us.length = n := ⟨_, rfl⟩
      have HNB := Lib.hid hnb
      rw [hnb] at hus ⊢
      clear hnb
      go_wp2_with fail
      refine HK.out.mono ?_; rintro e w4 ⟨m, rfl, _, _, hrd4, ho4⟩
      by_cases hm : m = 0
      · subst hm
        have HTR := Lib.hid (l2Tree_c w4 rb (p' + 1) hrd4 (by omega))
        have HO4 := Lib.hid (HO.out.trans ho4)
        clear hrd4 ho4 HK
        go_wp2_with fail
        refine HTR.out.mono ?_; rintro e w5 ⟨a5, c5, vs, p5, rfl, hd5, hvt, _, hp5, hrd5, ho5⟩
        have hvs : vs.length ≤ 16 := by have := hvt.most; rw [List.length_map] at this; exact this
        have HBT := Lib.hid (l2Bent_c le20 le20_good w5 rb p5 hrd5 (by omega) a5 c5 vs hd5 (small_le (tok_small hvt)) (by omega))
        have HO5 := Lib.hid (HO4.out.trans ho5)
        obtain ⟨n5, hn5⟩ : ∃ n, vs.length = n := ⟨_, rfl⟩
        rw [hn5] at HBT hvs ⊢
        clear hd5 hvt hrd5 ho5 HTR hn5
        go_wp2_with fail
        refine HBT.out.mono ?_; rintro e w6 ⟨a6, c6, zs, p6, rfl, hd6, hs6, hl6, _, _, ho6⟩
        have HB6 := Lib.hid ((HO2.out.trans (HO5.out.trans ho6)).below HB1.out (by omega) HB1.out.size)
        have HR2 := Lib.hid (HDA.out.only (HO5.out.trans ho6)).read
        have HR6 := Lib.hid hd6.read
        clear ho6 hd6 HBT
        obtain ⟨n6, hn6⟩ : ∃ n, zs.length = n := ⟨_, rfl⟩
        have HN6 := Lib.hid hn6
        rw [hn6] at hl6 ⊢
        clear hn6
        go_wp2
        go_ret2
        exact ⟨a2, c2, ts, a6, c6, zs, by rw [HN6.out, HNA.out]; rfl, HR2.out, HTA.out, HR6.out, hs6.small, by rw [HN6.out]; omega, HB6.out⟩
      · have hmz : ((m : Int) == 0) = false := by rw [beq_eq_false_iff_ne]; omega
        have HBT := Lib.hid (l2Bent_c le20 le20_good w4 rb (p' + 1) hrd4 (by omega) a' c' us (HDT.out.only ho4) (small_le (tok_small HTK.out)) (by have := HNB.out; omega))
        have HO5 := Lib.hid (HO.out.trans ho4)
        rw [HNB.out] at HBT
        clear hrd4 ho4 HK
        go_wp2_with fail
        refine HBT.out.mono ?_; rintro e w6 ⟨a6, c6, zs, p6, rfl, hd6, hs6, hl6, _, _, ho6⟩
        have HB6 := Lib.hid ((HO2.out.trans (HO5.out.trans ho6)).below HB1.out (by omega) HB1.out.size)
        have HR2 := Lib.hid (HDA.out.only (HO5.out.trans ho6)).read
        have HR6 := Lib.hid hd6.read
        clear ho6 hd6 HBT
        obtain ⟨n6, hn6⟩ : ∃ n, zs.length = n := ⟨_, rfl⟩
        have HN6 := Lib.hid hn6
        rw [hn6] at hl6 ⊢
        clear hn6
        go_wp2
        go_ret2
        exact ⟨a2, c2, ts, a6, c6, zs, by rw [HN6.out, HNA.out]; rfl, HR2.out, HTA.out, HR6.out, hs6.small, by rw [HN6.out]; omega, HB6.out⟩
end Go.Proofs.YtobbodbkdcbflabDoor
namespace Go.Proofs.YtobbodbkdcbflabDoor
open Go.RowKit
def mdig (k : Nat) (acc : Bs) : Bs := if k = 0 then acc else mdig (k / 10) (UInt8.ofNat (48 + k % 10) :: acc)
termination_by k
decreasing_by omega
/-- The mark of number k. -/
def mtext (k : Nat) : ByteArray := ⟨(109 :: mdig k []).toArray⟩
def MtRel (k : Nat) (i o : Value) : Prop := ∃ (j : Nat) (acc : ByteArray), acc.size + j ≤ k ∧ i = .int .i64 j ∧ o = .string acc ∧ mdig j acc.data.toList = mdig k []
/-- A slice of texts that can be read. -/
def SlS (w : World) (a : Option Addr) (ss : List ByteArray) : Prop :=
  0 < ss.length → ∃ b off, a = some ⟨b, off, none⟩ ∧ b < w.heap.size ∧ ∀ k s, ss[k]? = some s → w.cell? ⟨b, off + k, none⟩ = some (.string s)
theorem SlS.below {w w' : World} {a : Option Addr} {ss : List ByteArray} (h : SlS w a ss) (hb : Below w.heap.size w w') : SlS w' a ss := fun hn => by
  obtain ⟨b, off, e, hlt, hc⟩ := h hn
  exact ⟨b, off, e, Nat.lt_of_lt_of_le hlt hb.size, fun k s hk => (hb.cell (p := ⟨b, off + k, none⟩) hlt).trans (hc k s hk)⟩
theorem own_sls {w : World} {B : Nat} {t : TypeId} {a : Option Addr} {c n : Nat} {ss : List ByteArray} (h : w.ownsRow B t 1 (.slice a n c) n (ss.map Value.string)) (hn : ss.length = n) : SlS w a ss := fun h0 => by
  rcases h.2 with ⟨_, h1⟩ | ⟨g, cap, cur, e, _, hh, _⟩
  · omega
  · injection e with e1 e2 e3
    subst e1; subst e3
    have hl : g < w.heap.size := by
      rcases Nat.lt_or_ge g w.heap.size with h4 | h4
      · exact h4
      · rw [Array.getElem?_eq_none h4] at hh; cases hh
    refine ⟨g, 0, rfl, hl, fun k s hk => ?_⟩
    have h2 := h.cellAt k (by have := (List.getElem?_eq_some_iff.1 hk).1; omega)
    rw [Nat.zero_add, h2, List.getElem?_map, hk]; rfl
/-- The texts that marking leaves. -/
def MarkedT (k i : Nat) (L : List Value) : Prop := ∀ j, j < i → L[j]? = some (.string (mtext (k + j)))
theorem MarkedT.more {k i : Nat} {L : List Value} (h : MarkedT k i L) (hi : i < L.length) : MarkedT k (i + 1) (L.set i (.string (mtext (k + i)))) := fun j hj => by
  by_cases e : j = i
  · subst e; rw [List.getElem?_set_self hi]
  · rw [List.getElem?_set_ne (Ne.symm e)]; exact h j (by omega)
/-- What marking leaves of entries. -/
def MarkedE (k i : Nat) (L : List Value) : Prop := ∀ j, j < i → L[j * 3]? = some (.string (mtext (k + 3 * j))) ∧ L[j * 3 + 1]? = some (.bool (decide ((k + 3 * j + 1) % 3 = 0))) ∧ L[j * 3 + 2]? = some (.string (mtext (k + 3 * j + 2)))
/-- What marking leaves of marks. -/
def MarkedM (k i : Nat) (L : List Value) : Prop := ∀ j, j < i → L[j * 3]? = some (.string (mtext (k + 3 * j))) ∧ L[j * 3 + 1]? = some (.int .i64 ((k : Int) + 3 * j + 1)) ∧ L[j * 3 + 2]? = some (.string (mtext (k + 3 * j + 2)))
theorem set_three {L : List Value} {i : Nat} (h : i * 3 + 3 ≤ L.length) (a b c : Value) :
    (∀ j, j < i → ∀ q, q < 3 → (((L.set (i * 3) a).set (i * 3 + 1) b).set (i * 3 + 2) c)[j * 3 + q]? = L[j * 3 + q]?) ∧
    (((L.set (i * 3) a).set (i * 3 + 1) b).set (i * 3 + 2) c)[i * 3]? = some a ∧ (((L.set (i * 3) a).set (i * 3 + 1) b).set (i * 3 + 2) c)[i * 3 + 1]? = some b ∧ (((L.set (i * 3) a).set (i * 3 + 1) b).set (i * 3 + 2) c)[i * 3 + 2]? = some c := by
  refine ⟨fun j hj q hq => ?_, ?_, ?_, ?_⟩
  · rw [List.getElem?_set_ne (by omega), List.getElem?_set_ne (by omega), List.getElem?_set_ne (by omega)]
  · rw [List.getElem?_set_ne (by omega), List.getElem?_set_ne (by omega), List.getElem?_set_self (by omega)]
  · rw [List.getElem?_set_ne (by omega), List.getElem?_set_self (by simp; omega)]
  · rw [List.getElem?_set_self (by simp; omega)]
theorem MarkedE.more {k i : Nat} {L : List Value} (h : MarkedE k i L) (hi : i * 3 + 3 ≤ L.length) : MarkedE k (i + 1) (((L.set (i * 3) (.string (mtext (k + 3 * i)))).set (i * 3 + 1) (.bool (decide ((k + 3 * i + 1) % 3 = 0)))).set (i * 3 + 2) (.string (mtext (k + 3 * i + 2)))) := fun j hj => by
  obtain ⟨h0, h1, h2, h3⟩ := set_three hi (.string (mtext (k + 3 * i))) (.bool (decide ((k + 3 * i + 1) % 3 = 0))) (.string (mtext (k + 3 * i + 2)))
  by_cases e : j = i
  · subst e; exact ⟨h1, h2, h3⟩
  · have hji : j < i := by omega
    obtain ⟨g1, g2, g3⟩ := h j hji
    exact ⟨(h0 j hji 0 (by omega)).trans g1, (h0 j hji 1 (by omega)).trans g2, (h0 j hji 2 (by omega)).trans g3⟩
theorem MarkedM.more {k i : Nat} {L : List Value} (h : MarkedM k i L) (hi : i * 3 + 3 ≤ L.length) : MarkedM k (i + 1) (((L.set (i * 3) (.string (mtext (k + 3 * i)))).set (i * 3 + 1) (.int .i64 ((k : Int) + 3 * i + 1))).set (i * 3 + 2) (.string (mtext (k + 3 * i + 2)))) := fun j hj => by
  obtain ⟨h0, h1, h2, h3⟩ := set_three hi (.string (mtext (k + 3 * i))) (.int .i64 ((k : Int) + 3 * i + 1)) (.string (mtext (k + 3 * i + 2)))
  by_cases e : j = i
  · subst e; exact ⟨h1, h2, h3⟩
  · have hji : j < i := by omega
    obtain ⟨g1, g2, g3⟩ := h j hji
    exact ⟨(h0 j hji 0 (by omega)).trans g1, (h0 j hji 1 (by omega)).trans g2, (h0 j hji 2 (by omega)).trans g3⟩
end Go.Proofs.YtobbodbkdcbflabDoor
namespace Go.Proofs.YtobbodbkdcbflabDoor
open Go.RowKit
theorem strs_inj : ∀ {a b : List ByteArray}, a.map (·.data.toList) = b.map (·.data.toList) → a = b
  | [], [], _ => rfl
  | [], _ :: _, h => by simp at h
  | _ :: _, [], h => by simp at h
  | x :: a, y :: b, h => by
    simp only [List.map_cons, List.cons.injEq] at h
    rw [bytes_eq h.1, strs_inj h.2]
theorem mem_strs {ss : List ByteArray} {s : ByteArray} : s.data.toList ∈ ss.map (·.data.toList) ↔ s ∈ ss := by
  rw [List.mem_map]
  constructor
  · rintro ⟨x, hx, he⟩; rw [← bytes_eq he]; exact hx
  · exact fun h => ⟨s, h, rfl⟩
set_option maxHeartbeats 2000000 in
theorem wpWords_c (a a' : Option Addr) (c c' n n' : Nat) (ss ts : List ByteArray) (r : Bool) (hr : Hid (r = true ↔ ss = ts)) (w : World) (hn : ss.length = n) (hn' : ts.length = n') (hs : SlS w a ss) (hs' : SlS w a' ts) (hx : n ≤ 2000000) :
    Calls Tryd.prog 7 #[.slice a n c, .slice a' n' c'] w fun e w' => e = .returned (.bool r) ∧ Below w.heap.size w w' := by
  have HS := Lib.hid hs
  have HS' := Lib.hid hs'
  have HN := Lib.hid hn
  have HN' := Lib.hid hn'
  by_cases hnn : n = n'
  · subst hnn
    clear hs hs' hn hn'
    go_enter Tryd.func7, Tryd.ntmps7
    go_wp2
    go_loopw [5] (fun i wr => ∃ j : Nat, j ≤ n ∧ i = .int .i64 j ∧ ss.take j = ts.take j ∧ Below w.heap.size w wr) (fun i _ => n - (intOf i).toNat)
    case atStart => exact ⟨0, Nat.zero_le _, rfl, rfl, Below.refl _ _⟩
    case round =>
      obtain ⟨j, hj, rfl, hsm, hb⟩ := hrel
      have HSM := Lib.hid hsm
      clear hsm
      by_cases hlt : j < n
      · obtain ⟨x, hxx⟩ : ∃ x, ss[j]? = some x := ⟨_, List.getElem?_eq_getElem (by rw [HN.out]; exact hlt)⟩
        obtain ⟨y, hyy⟩ : ∃ x, ts[j]? = some x := ⟨_, List.getElem?_eq_getElem (by rw [HN'.out]; exact hlt)⟩
        obtain ⟨b, off, rfl, _, hcs⟩ := (HS.out.below hb) (by rw [HN.out]; omega)
        obtain ⟨b', off', rfl, _, hcs'⟩ := (HS'.out.below hb) (by rw [HN'.out]; omega)
        have d0 := hcs j x hxx
        have d1 := hcs' j y hyy
        have i0 : (0 : Int) ≤ (j : Int) := by omega
        have i1 : (j : Int) < (n : Int) := by omega
        have HX : Hid (ss.take (j + 1) = ss.take j ++ [x]) := by rw [Hid, List.take_add_one, hxx]; rfl
        have HY : Hid (ts.take (j + 1) = ts.take j ++ [y]) := by rw [Hid, List.take_add_one, hyy]; rfl
        have HXX := Lib.hid hxx
        have HYY := Lib.hid hyy
        clear hcs hcs' hxx hyy
        by_cases he : x = y
        · have hbe := beqs_yes (congrArg (·.data.toList) he)
          go_wp2_with fail
          go_quiet (fail)
          go_wp2
          go_roundw
          case rel => exact ⟨j + 1, by omega, by go_num, by rw [HX.out, HY.out, HSM.out, he], by first | exact hb | exact drw hb _⟩
          case measure => simp [intOf]; omega
        · have hbe := beqs_no (fun h => he (bytes_eq h))
          obtain rfl : r = false := by
            cases r with
            | false => rfl
            | true => have h1 := hr.out.1 rfl; rw [h1, HYY.out] at HXX; exact absurd (Option.some.inj HXX.out).symm he
          clear he
          go_wp2_with fail
          go_quiet (fail)
          go_wp2
          go_ret
          exact ⟨rfl, by first | exact hb | exact drw hb _⟩
      · obtain rfl : j = n := by omega
        obtain rfl : r = true := hr.out.2 (by
          have h1 := HSM.out
          rw [List.take_of_length_le (by rw [HN.out]; exact Nat.le_refl _), List.take_of_length_le (by rw [HN'.out]; exact Nat.le_refl _)] at h1
          exact h1)
        go_wp2
        go_ret
        exact ⟨rfl, hb⟩
  · obtain rfl : r = false := by
      cases r with
      | false => rfl
      | true => have h1 := hr.out.1 rfl; exact absurd (by rw [← hn, ← hn', h1]) hnn
    have hne : ((n : Int) != (n' : Int)) = true := by rw [bne_iff_ne]; omega
    clear hs hs' hn hn'
    go_enter Tryd.func7, Tryd.ntmps7
    go_wp2
    go_ret
    exact ⟨rfl, Below.refl _ _⟩
end Go.Proofs.YtobbodbkdcbflabDoor
namespace Go.Proofs.YtobbodbkdcbflabDoor
open Go.RowKit
open Classical in
/-- What TreeTurned tells. -/
noncomputable def tturn (a b : List PE) : List Bs := if TOk a ∧ TOk b then turnedL a b else []
theorem tturn_bad {a b : List PE} (h : ¬ (TOk a ∧ TOk b)) : tturn a b = [] := by unfold tturn; rw [if_neg h]
theorem tturn_ok {a b : List PE} (h : TOk a) (h' : TOk b) : tturn a b = turnedL a b := by unfold tturn; rw [if_pos ⟨h, h'⟩]
theorem drop_cons {α : Type} {xs : List α} {k : Nat} {e : α} (h : xs[k]? = some e) : xs.drop k = e :: xs.drop (k + 1) := by
  obtain ⟨h1, h2⟩ := List.getElem?_eq_some_iff.1 h
  rw [List.drop_eq_getElem_cons h1, h2]
/-- What is left to merge at places i, j. -/
def restL (xs ys : List En) (i j : Nat) : List Bs := mergeL ((xs.drop i).map En.pl) ((ys.drop j).map En.pl)
theorem rest_a {xs ys : List En} {i j : Nat} {e : En} (he : xs[i]? = some e) (h : ys[j]? = none ∨ ∃ f, ys[j]? = some f ∧ Op.bytesLess e.p.toList f.p.toList = true) : restL xs ys i j = e.p.data.toList :: restL xs ys (i + 1) j := by
  unfold restL
  rw [drop_cons he]
  rcases h with h | ⟨f, hf, hl⟩
  · have : ys.drop j = [] := List.drop_eq_nil_of_le (by simpa using h)
    rw [this, List.map_cons]
    cases hx : (xs.drop (i + 1)).map En.pl with
    | nil => simp [mergeL, En.pl]
    | cons _ _ => simp [mergeL, En.pl]
  · rw [drop_cons hf, List.map_cons, List.map_cons, mergeL, if_pos (by show Op.bytesLess e.p.data.toList f.p.data.toList = true; rw [← less_of']; exact hl)]
    rfl
theorem rest_b {xs ys : List En} {i j : Nat} {f : En} (hf : ys[j]? = some f) (h : xs[i]? = none ∨ ∃ e, xs[i]? = some e ∧ Op.bytesLess e.p.toList f.p.toList = false ∧ Op.bytesLess f.p.toList e.p.toList = true) : restL xs ys i j = f.p.data.toList :: restL xs ys i (j + 1) := by
  unfold restL
  rw [drop_cons hf]
  rcases h with h | ⟨e, he, hl, hl2⟩
  · have : xs.drop i = [] := List.drop_eq_nil_of_le (by simpa using h)
    rw [this, List.map_cons]
    cases hx : (ys.drop (j + 1)).map En.pl with
    | nil => simp [mergeL, En.pl]
    | cons _ _ => simp [mergeL, En.pl]
  · rw [drop_cons he, List.map_cons, List.map_cons, mergeL, if_neg (by show ¬ Op.bytesLess e.p.data.toList f.p.data.toList = true; rw [← less_of', hl]; simp), if_pos (by show Op.bytesLess f.p.data.toList e.p.data.toList = true; rw [← less_of']; exact hl2)]
    rfl
theorem rest_c1 {xs ys : List En} {i j : Nat} {e : En} (he : xs[i]? = some e) (hf : ys[j]? = some e) : restL xs ys i j = restL xs ys (i + 1) (j + 1) := by
  unfold restL
  have hl : Op.bytesLess e.p.data.toList e.p.data.toList = false := less_irrefl _
  rw [drop_cons he, drop_cons hf, List.map_cons, List.map_cons, mergeL, if_neg (by show ¬ Op.bytesLess e.p.data.toList e.p.data.toList = true; rw [hl]; simp), if_neg (by show ¬ Op.bytesLess e.p.data.toList e.p.data.toList = true; rw [hl]; simp), if_pos rfl]
theorem rest_c2 {xs ys : List En} {i j : Nat} {e f : En} (he : xs[i]? = some e) (hf : ys[j]? = some f) (hp : e.p = f.p) (h : e ≠ f) : restL xs ys i j = e.p.data.toList :: restL xs ys (i + 1) (j + 1) := by
  unfold restL
  have hl : Op.bytesLess e.p.data.toList e.p.data.toList = false := less_irrefl _
  rw [drop_cons he, drop_cons hf, List.map_cons, List.map_cons, mergeL, if_neg (by show ¬ Op.bytesLess e.p.data.toList f.p.data.toList = true; rw [← hp, hl]; simp), if_neg (by show ¬ Op.bytesLess f.p.data.toList e.p.data.toList = true; rw [← hp, hl]; simp), if_neg (fun h' => h (En.pl_inj h'))]
  rfl
theorem same_p {e f : En} (h : Op.bytesLess e.p.toList f.p.toList = false) (h' : Op.bytesLess f.p.toList e.p.toList = false) : e.p = f.p := by
  rw [less_of'] at h h'
  rcases less_total e.p.data.toList f.p.data.toList with h1 | h1 | h1
  · rw [h] at h1; cases h1
  · exact bytes_eq h1
  · rw [h'] at h1; cases h1
theorem rest_end {xs ys : List En} {i j : Nat} (hi : xs.length ≤ i) (hj : ys.length ≤ j) : restL xs ys i j = [] := by
  unfold restL
  rw [List.drop_eq_nil_of_le hi, List.drop_eq_nil_of_le hj]; simp [mergeL]
set_option maxRecDepth 100000 in
set_option maxHeartbeats 8000000 in
theorem treeTurned_c (a a' : Option Addr) (c c' : Nat) (xs ys : List En) (w : World) (hs : SlF En.cells w a xs) (hs' : SlF En.cells w a' ys) (hx : xs.length ≤ maxLen) (hy : ys.length ≤ maxLen) (hz : ∀ e ∈ xs, e.p.size ≤ maxLen ∧ e.x.size ≤ maxLen) (hz' : ∀ e ∈ ys, e.p.size ≤ maxLen ∧ e.x.size ≤ maxLen) :
    Calls Tryd.prog 6 #[.slice a xs.length c, .slice a' ys.length c'] w (MadeSt (tturn (xs.map En.pl) (ys.map En.pl)) w) := by
  have hb := Below.refl w.heap.size w
  have HE := strElt
  obtain ⟨r, hr⟩ := tok_dec xs
  obtain ⟨r', hr'⟩ := tok_dec ys
  have HT := Lib.hid (treeOk_c a c xs r (Lib.hid hr) w hs hx hz)
  have HT' := fun W (h : SlF En.cells W a' ys) => Lib.hid (treeOk_c a' c' ys r' (Lib.hid hr') W h hy hz')
  obtain ⟨L, hL⟩ : ∃ L, tturn (xs.map En.pl) (ys.map En.pl) = L := ⟨_, rfl⟩
  have hx16 : TOk (xs.map En.pl) → xs.length ≤ 16 := fun h => by have := h.most; rw [List.length_map] at this; exact this
  have hy16 : TOk (ys.map En.pl) → ys.length ≤ 16 := fun h => by have := h.most; rw [List.length_map] at this; exact this
  have HLE : Hid (L = [] ∨ (TOk (xs.map En.pl) ∧ TOk (ys.map En.pl) ∧ L = restL xs ys 0 0)) := by
    by_cases h : TOk (xs.map En.pl) ∧ TOk (ys.map En.pl)
    · exact .inr ⟨h.1, h.2, by rw [← hL, tturn_ok h.1 h.2, ← merge_turned h.1.ordP h.2.ordP]; rfl⟩
    · exact .inl (by rw [← hL]; exact tturn_bad h)
  have HLB : Hid (¬ (r = true ∧ r' = true) → L = []) := fun h => by rw [← hL]; exact tturn_bad (fun h' => h ⟨hr.2 h'.1, hr'.2 h'.2⟩)
  have HLO : Hid (r = true → r' = true → L = restL xs ys 0 0) := fun h h' => by rw [← hL, tturn_ok (hr.1 h) (hr'.1 h'), ← merge_turned (hr.1 h).ordP (hr'.1 h').ordP]; rfl
  have HS := Lib.hid hs
  have HS' := Lib.hid hs'
  rw [hL]
  have HB16 : Hid (r = true → r' = true → xs.length ≤ 16 ∧ ys.length ≤ 16) := fun h h' => ⟨hx16 (hr.1 h), hy16 (hr'.1 h')⟩
  obtain ⟨n, hn⟩ : ∃ n, xs.length = n := ⟨_, rfl⟩
  obtain ⟨n', hn'⟩ : ∃ n, ys.length = n := ⟨_, rfl⟩
  have HN := Lib.hid hn
  have HN' := Lib.hid hn'
  rw [hn] at HT HB16 ⊢
  rw [hn'] at HT' HB16 ⊢
  have GT' := Lib.hid HT'
  clear hn hn' hL hs hs' hz hz' hx hy hr hr' HT' hx16 hy16 HLE
  cases r with
  | false =>
    obtain rfl : L = [] := HLB.out (by simp)
    go_enter Tryd.func6, Tryd.ntmps6
    go_wp2_with fail
    refine (HT.out).mono ?_; rintro e W ⟨rfl, hq⟩; replace hb := chn hb hq; clear hq
    go_wp2
    go_ret
    exact ⟨_, [], rfl, rfl, World.ownsRow_nil _ _ _ _, hb⟩
  | true =>
  cases r' with
  | false =>
    obtain rfl : L = [] := HLB.out (by simp)
    go_enter Tryd.func6, Tryd.ntmps6
    go_wp2_with fail
    refine (HT.out).mono ?_; rintro e W ⟨rfl, hq⟩; replace hb := chn hb hq; clear hq
    go_wp2_with fail
    refine ((GT'.out _ (HS'.out.below hb)).out).mono ?_; rintro e W ⟨rfl, hq⟩; replace hb := chn hb hq; clear hq
    go_wp2
    go_ret
    exact ⟨_, [], rfl, rfl, World.ownsRow_nil _ _ _ _, hb⟩
  | true =>
    have HLR := Lib.hid (HLO.out rfl rfl)
    obtain ⟨hn16, hn16'⟩ := HB16.out rfl rfl
    clear HLB HLO HB16
    go_enter Tryd.func6, Tryd.ntmps6
    go_wp2_with fail
    refine (HT.out).mono ?_; rintro e W ⟨rfl, hq⟩; replace hb := chn hb hq; clear hq
    go_wp2_with fail
    refine ((GT'.out _ (HS'.out.below hb)).out).mono ?_; rintro e W ⟨rfl, hq⟩; replace hb := chn hb hq; clear hq
    have HB0 := Lib.hid hb
    clear hb
    go_wp2
    go_loopw [5, 6, 7] (fun v i j wr => ∃ (k k' : Nat) (ss : List ByteArray), k ≤ n ∧ k' ≤ n' ∧ ss.length ≤ k + k' ∧ i = .int .i64 k ∧ j = .int .i64 k' ∧ L = ss.map (·.data.toList) ++ restL xs ys k k' ∧ wr.ownsRow w.heap.size 9 1 v ss.length (ss.map Value.string) ∧ Below w.heap.size w wr) (fun _ i j _ => n + n' - (intOf i).toNat - (intOf j).toNat)
    case atStart => exact ⟨0, 0, [], Nat.zero_le _, Nat.zero_le _, Nat.zero_le _, rfl, rfl, HLR.out, World.ownsRow_nil _ _ _ _, HB0.out⟩
    case round =>
      obtain ⟨k, k', ss, hk, hk', hsl, rfl, rfl, hss, hown, hb⟩ := hrel
      have HSS := Lib.hid hss
      clear hss
      have hsw := HS.out.below hb
      have hsw' := HS'.out.below hb
      have i0 : (0 : Int) ≤ (k : Int) := by omega
      have j0 : (0 : Int) ≤ (k' : Int) := by omega
      by_cases hlt : k < n
      · obtain ⟨e, hee⟩ : ∃ e, xs[k]? = some e := ⟨_, List.getElem?_eq_getElem (by rw [HN.out]; exact hlt)⟩
        obtain ⟨b, off, rfl, _⟩ := hsw.addr (by rw [HN.out]; omega)
        obtain ⟨d0, d1, d2⟩ := en_at hsw k e hee
        have i1 : (k : Int) < (n : Int) := by omega
        have i2 : ((k : Int) == (n : Int)) = false := by rw [beq_eq_false_iff_ne]; omega
        by_cases hlt' : k' < n'
        · obtain ⟨f, hff⟩ : ∃ f, ys[k']? = some f := ⟨_, List.getElem?_eq_getElem (by rw [HN'.out]; exact hlt')⟩
          obtain ⟨b', off', rfl, _⟩ := hsw'.addr (by rw [HN'.out]; omega)
          obtain ⟨g0, g1, g2⟩ := en_at hsw' k' f hff
          have j1 : (k' : Int) < (n' : Int) := by omega
          have j2 : ((k' : Int) == (n' : Int)) = false := by rw [beq_eq_false_iff_ne]; omega
          rcases Bool.eq_false_or_eq_true (Op.bytesLess e.p.toList f.p.toList) with hle | hle
          · have HR := Lib.hid (rest_a hee (.inr ⟨f, hff, hle⟩))
            clear hee hff
            go_wp2_with fail
            go_quiet (fail)
            go_wp2_with (at_builtin; go_must (refine wp_app1 (by rfl) _ _ 26 (by rfl) HE w.heap.size w.heap.size w _ #[.string e.p] _ _ _ (by rfl) (by rfl) hown (by rfl) (by simp [Value.oneCell']) (by omega) hb.size (drw hb _) (Nat.le_refl _) ?_); intro v' w1 hown1 hbel1 _ _)
            go_roundw
            case rel => exact ⟨(k+1), k', ss ++ [e.p], by omega, by omega, by simp; omega, by go_num, by go_num, by rw [List.map_append, List.append_assoc, HSS.out, HR.out]; rfl, by simpa using hown1, hbel1⟩
            case measure => simp [intOf]; omega
          · rcases Bool.eq_false_or_eq_true (Op.bytesLess f.p.toList e.p.toList) with hlf | hlf
            · have HR := Lib.hid (rest_b hff (.inr ⟨e, hee, hle, hlf⟩))
              clear hee hff
              go_wp2_with fail
              go_quiet (fail)
              go_wp2_with fail
              go_quiet (fail)
              go_wp2_with (at_builtin; go_must (refine wp_app1 (by rfl) _ _ 26 (by rfl) HE w.heap.size w.heap.size w _ #[.string f.p] _ _ _ (by rfl) (by rfl) hown (by rfl) (by simp [Value.oneCell']) (by omega) hb.size (drw hb _) (Nat.le_refl _) ?_); intro v' w1 hown1 hbel1 _ _)
              go_roundw
              case rel => exact ⟨k, (k'+1), ss ++ [f.p], by omega, by omega, by simp; omega, by go_num, by go_num, by rw [List.map_append, List.append_assoc, HSS.out, HR.out]; rfl, by simpa using hown1, hbel1⟩
              case measure => simp [intOf]; omega
            · have hpp := same_p hle hlf
              by_cases hef : e = f
              · subst hef
                have HR := Lib.hid (rest_c1 hee hff)
                clear hee hff hpp
                go_wp2_with fail
                go_quiet (fail)
                go_wp2_with fail
                go_quiet (fail)
                go_wp2_with fail
                go_quiet (fail)
                go_wp2
                go_roundw
                case rel => exact ⟨k + 1, k' + 1, ss, by omega, by omega, by omega, by go_num, by go_num, by rw [HSS.out, HR.out], hown, drw hb _⟩
                case measure => simp [intOf]; omega
              · have HR := Lib.hid (rest_c2 hee hff hpp hef)
                obtain ⟨p, d, x⟩ := e
                obtain ⟨p', d', x'⟩ := f
                obtain rfl : p = p' := hpp
                simp only at d0 d1 d2 g0 g1 g2 hle hlf
                clear hee hff
                by_cases h2 : d = d'
                · subst h2
                  have q := bq_no (s := x) (t := x') (fun h => hef (by rw [h]))
                  clear hef
                  go_wp2_with fail
                  go_quiet (fail)
                  go_wp2_with fail
                  go_quiet (fail)
                  go_wp2_with fail
                  go_quiet (fail)
                  go_wp2_with (at_builtin; go_must (refine wp_app1 (by rfl) _ _ 26 (by rfl) HE w.heap.size w.heap.size w _ #[.string p] _ _ _ (by rfl) (by rfl) hown (by rfl) (by simp [Value.oneCell']) (by omega) hb.size (drw hb _) (Nat.le_refl _) ?_); intro v' w1 hown1 hbel1 _ _)
                  go_roundw
                  case rel => exact ⟨(k+1), (k'+1), ss ++ [p], by omega, by omega, by simp; omega, by go_num, by go_num, by rw [List.map_append, List.append_assoc, HSS.out, HR.out]; rfl, by simpa using hown1, hbel1⟩
                  case measure => simp [intOf]; omega
                · have q : (d == d') = false := by rw [beq_eq_false_iff_ne]; exact h2
                  clear hef h2
                  go_wp2_with fail
                  go_quiet (fail)
                  go_wp2_with fail
                  go_quiet (fail)
                  go_wp2_with fail
                  go_quiet (fail)
                  go_wp2_with (at_builtin; go_must (refine wp_app1 (by rfl) _ _ 26 (by rfl) HE w.heap.size w.heap.size w _ #[.string p] _ _ _ (by rfl) (by rfl) hown (by rfl) (by simp [Value.oneCell']) (by omega) hb.size (drw hb _) (Nat.le_refl _) ?_); intro v' w1 hown1 hbel1 _ _)
                  go_roundw
                  case rel => exact ⟨(k+1), (k'+1), ss ++ [p], by omega, by omega, by simp; omega, by go_num, by go_num, by rw [List.map_append, List.append_assoc, HSS.out, HR.out]; rfl, by simpa using hown1, hbel1⟩
                  case measure => simp [intOf]; omega
        · obtain rfl : k' = n' := by omega
          have HR := Lib.hid (rest_a (ys := ys) (j := k') hee (.inl (List.getElem?_eq_none (by rw [HN'.out]; omega))))
          clear hee
          go_wp2_with fail
          go_quiet (fail)
          go_wp2_with (at_builtin; go_must (refine wp_app1 (by rfl) _ _ 26 (by rfl) HE w.heap.size w.heap.size w _ #[.string e.p] _ _ _ (by rfl) (by rfl) hown (by rfl) (by simp [Value.oneCell']) (by omega) hb.size (drw hb _) (Nat.le_refl _) ?_); intro v' w1 hown1 hbel1 _ _)
          go_roundw
          case rel => exact ⟨(k+1), k', ss ++ [e.p], by omega, by omega, by simp; omega, by go_num, by go_num, by rw [List.map_append, List.append_assoc, HSS.out, HR.out]; rfl, by simpa using hown1, hbel1⟩
          case measure => simp [intOf]; omega
      · obtain rfl : k = n := by omega
        by_cases hlt' : k' < n'
        · obtain ⟨f, hff⟩ : ∃ f, ys[k']? = some f := ⟨_, List.getElem?_eq_getElem (by rw [HN'.out]; exact hlt')⟩
          obtain ⟨b', off', rfl, _⟩ := hsw'.addr (by rw [HN'.out]; omega)
          obtain ⟨g0, g1, g2⟩ := en_at hsw' k' f hff
          have j1 : (k' : Int) < (n' : Int) := by omega
          have j2 : ((k' : Int) == (n' : Int)) = false := by rw [beq_eq_false_iff_ne]; omega
          have HR := Lib.hid (rest_b (xs := xs) (i := k) hff (.inl (List.getElem?_eq_none (by rw [HN.out]; omega))))
          clear hff
          have dk : decide ((k : Int) < (k : Int)) = false := by simp
          go_wp2_with fail
          go_quiet (fail)
          go_wp2_with fail
          go_quiet (fail)
          go_wp2_with (at_builtin; go_must (refine wp_app1 (by rfl) _ _ 26 (by rfl) HE w.heap.size w.heap.size w _ #[.string f.p] _ _ _ (by rfl) (by rfl) hown (by rfl) (by simp [Value.oneCell']) (by omega) hb.size (drw hb _) (Nat.le_refl _) ?_); intro v' w1 hown1 hbel1 _ _)
          go_roundw
          case rel => exact ⟨k, (k'+1), ss ++ [f.p], by omega, by omega, by simp; omega, by go_num, by go_num, by rw [List.map_append, List.append_assoc, HSS.out, HR.out]; rfl, by simpa using hown1, hbel1⟩
          case measure => simp [intOf]; omega
        · obtain rfl : k' = n' := by omega
          have HF : Hid (ss.map (·.data.toList) = L) := by rw [Hid, HSS.out, rest_end (by rw [HN.out]; omega) (by rw [HN'.out]; omega), List.append_nil]
          go_wp2
          go_ret
          exact ⟨_, ss, rfl, HF.out, hown, hb⟩
end Go.Proofs.YtobbodbkdcbflabDoor
namespace Go.Proofs.YtobbodbkdcbflabDoor
open Go.RowKit
abbrev zeroE : En := ⟨⟨#[]⟩, false, ⟨#[]⟩⟩
def optE : Option En → En
  | some e => e
  | none => zeroE
theorem optV_eq (o : Option En) : optV o = .tuple #[(optE o).val, .bool o.isSome] := by cases o <;> rfl
theorem fold_pl (xs ys : List En) : (ys.foldl (putP En.bs) xs).map En.pl = (ys.map En.pl).foldl (putP PE.p) (xs.map En.pl) := by
  induction ys generalizing xs with
  | nil => rfl
  | cons y r ih => rw [List.foldl_cons, ih, List.map_cons, List.foldl_cons, putP_map En.pl (f := En.bs) (g := PE.p) (fun _ => rfl)]
theorem fold_len2 (xs ys : List En) : (ys.foldl (putP En.bs) xs).length ≤ xs.length + ys.length := by
  induction ys generalizing xs with
  | nil => simp
  | cons y r ih =>
    rw [List.foldl_cons]
    have h1 := ih (putP En.bs xs y)
    have h2 : (putP En.bs xs y).length ≤ xs.length + 1 := by
      clear ih h1
      induction xs with
      | nil => simp [putP]
      | cons x a ih =>
        unfold putP
        split
        · simp only [List.length_cons]; omega
        · split <;> simp
    simp only [List.length_cons]; omega
/-- What is told of the first entries. -/
def diffs (xs ys : List En) (zs : List En) : List Bs := ((zs.map En.pl).filter fun e => decide (atP PE.p (xs.map En.pl) e.p ≠ atP PE.p (ys.map En.pl) e.p)).map PE.p
theorem getE_at (xs : List En) (q : ByteArray) : atP PE.p (xs.map En.pl) q.data.toList = (getE xs q).map En.pl := by rw [← getL_at]; exact getE_pl xs q
theorem pl_opt_inj {a b : Option En} (h : a.map En.pl = b.map En.pl) : a = b := by
  cases a with
  | none =>
    cases b with
    | none => rfl
    | some _ => cases h
  | some e =>
    cases b with
    | none => cases h
    | some f => rw [En.pl_inj (Option.some.inj h)]
theorem diffs_eq {xs ys zs : List En} {z : En} (h : getE xs z.p = getE ys z.p) : diffs xs ys (zs ++ [z]) = diffs xs ys zs := by
  unfold diffs
  rw [List.map_append, List.filter_append, List.map_append]
  have h1 : atP PE.p (xs.map En.pl) z.pl.p = atP PE.p (ys.map En.pl) z.pl.p := by
    show atP PE.p (xs.map En.pl) z.p.data.toList = atP PE.p (ys.map En.pl) z.p.data.toList
    rw [getE_at, getE_at, h]
  simp [h1]
theorem diffs_ne {xs ys zs : List En} {z : En} (h : getE xs z.p ≠ getE ys z.p) : diffs xs ys (zs ++ [z]) = diffs xs ys zs ++ [z.p.data.toList] := by
  unfold diffs
  rw [List.map_append, List.filter_append, List.map_append]
  have h1 : atP PE.p (xs.map En.pl) z.pl.p ≠ atP PE.p (ys.map En.pl) z.pl.p := by
    show atP PE.p (xs.map En.pl) z.p.data.toList ≠ atP PE.p (ys.map En.pl) z.p.data.toList
    rw [getE_at, getE_at]
    exact fun h2 => h (pl_opt_inj h2)
  simp [h1]; rfl
theorem take_snoc' {α : Type} {xs : List α} {k : Nat} {e : α} (he : xs[k]? = some e) : xs.take (k + 1) = xs.take k ++ [e] := by
  have h1 := List.take_succ_eq_append_getElem (l := xs) (i := k) (List.getElem?_eq_some_iff.1 he).1
  rw [(List.getElem?_eq_some_iff.1 he).2] at h1
  exact h1
/-- A slice of entries under way. -/
def ReadEv (w : World) (v : Value) (zs : List En) : Prop := ∃ b off c, v = .slice (some ⟨b, off, none⟩) zs.length c ∧ zs.length ≤ c ∧ c ≤ maxLen ∧ b < w.heap.size ∧ SlF En.cells w (some ⟨b, off, none⟩) zs
theorem made_read {ys : List En} {w : World} {e : Ending} {w' : World} (h : MadeEn ys w e w') : ∃ v, e = .returned v ∧ ReadEv w' v ys ∧ Below w.heap.size w w' := by
  obtain ⟨g, c, rfl, h1, h2, h3, h4⟩ := h
  exact ⟨_, rfl, ⟨g, 0, c, rfl, h1, h2, (h3.lt g rfl).2, own_slfEn' h3⟩, h4⟩
set_option maxRecDepth 100000 in
set_option maxHeartbeats 8000000 in
theorem l2Turned_c (b0 off0 c : Nat) (a' : Option Addr) (c' : Nat) (xs ys : List En) (w : World) (hs : SlF En.cells w (some ⟨b0, off0, none⟩) xs) (hs' : SlF En.cells w a' ys) (hb0 : b0 < w.heap.size) (hc : xs.length ≤ c) (hcm : c ≤ maxLen) (hx : TOk (xs.map En.pl)) (hy : TOk (ys.map En.pl)) :
    Calls Tryd.prog 24 #[.slice (some ⟨b0, off0, none⟩) xs.length c, .slice a' ys.length c'] w (MadeSt (turnedL (xs.map En.pl) (ys.map En.pl)) w) := by
  have HE := strElt
  have hx16 : xs.length ≤ 16 := by have := hx.most; rw [List.length_map] at this; exact this
  have hy16 : ys.length ≤ 16 := by have := hy.most; rw [List.length_map] at this; exact this
  have hx63 : xs.length ≤ maxLen := by unfold maxLen; omega
  have hy63 : ys.length ≤ maxLen := by unfold maxLen; omega
  have HL := Lib.hid (show turnedL (xs.map En.pl) (ys.map En.pl) = diffs xs ys (ys.foldl (putP En.bs) xs) by unfold turnedL diffs; rw [fold_pl])
  obtain ⟨L, hL⟩ : ∃ L, turnedL (xs.map En.pl) (ys.map En.pl) = L := ⟨_, rfl⟩
  have HLL := Lib.hid (hL.symm.trans HL.out)
  have HG := fun (q : ByteArray) (o : Option En) (ho : Hid (lgetE xs q = o)) W (h : SlF En.cells W (some ⟨b0, off0, none⟩) xs) => Lib.hid ((l2Get_c (some ⟨b0, off0, none⟩) c xs q o ho W h hx63).mono fun _ _ ⟨h1, h2⟩ => (⟨h1.trans (by rw [optV_eq]), h2⟩ : _ = Ending.returned (.tuple #[(optE o).val, .bool o.isSome]) ∧ _))
  have HG' := fun (q : ByteArray) (o : Option En) (ho : Hid (lgetE ys q = o)) W (h : SlF En.cells W a' ys) => Lib.hid ((l2Get_c a' c' ys q o ho W h hy63).mono fun _ _ ⟨h1, h2⟩ => (⟨h1.trans (by rw [optV_eq]), h2⟩ : _ = Ending.returned (.tuple #[(optE o).val, .bool o.isSome]) ∧ _))
  have HZP : Hid (∀ z ∈ ys.foldl (putP En.bs) xs, z.p.data.toList ≠ [47]) := fun z hz hr => by
    have h1 : z.pl ∈ (ys.map En.pl).foldl (putP PE.p) (xs.map En.pl) := by rw [← fold_pl]; exact List.mem_map.2 ⟨z, hz, rfl⟩
    rcases (mem_fold hy.ordP.dis hx.ordP z.pl).1 h1 with h2 | ⟨h2, _⟩
    · have := hy.pth h2; rw [show z.pl.p = [47] from hr, root_no] at this; cases this
    · have := hx.pth h2; rw [show z.pl.p = [47] from hr, root_no] at this; cases this
  have HS := Lib.hid hs
  have HS' := Lib.hid hs'
  have HR0 : Hid (ReadEv w (.slice (some ⟨b0, off0, none⟩) xs.length c) xs) := ⟨b0, off0, c, rfl, hc, hcm, hb0, hs⟩
  rw [hL]
  obtain ⟨n, hn⟩ : ∃ n, xs.length = n := ⟨_, rfl⟩
  obtain ⟨n', hn'⟩ : ∃ n, ys.length = n := ⟨_, rfl⟩
  have HN := Lib.hid hn
  have HN' := Lib.hid hn'
  rw [hn] at HG HR0 hx16 ⊢
  rw [hn'] at HG' hy16 ⊢
  have GG := Lib.hid HG
  have GG' := Lib.hid HG'
  clear hn hn' hL hs hs' HG HG' hx hy hx63 hy63 hc hcm HL
  go_enter Tryd.func24, Tryd.ntmps24
  go_wp2
  go_loopw [5, 6] (fun v i wr => ∃ k : Nat, k ≤ n' ∧ i = .int .i64 k ∧ ReadEv wr v ((ys.take k).foldl (putP En.bs) xs) ∧ Below w.heap.size w wr) (fun _ i _ => n' - (intOf i).toNat)
  case atStart => exact ⟨0, Nat.zero_le _, rfl, HR0.out, Below.refl _ _⟩
  case round =>
    obtain ⟨k, hk, rfl, hrd, hb⟩ := hrel
    by_cases hlt : k < n'
    · obtain ⟨f, hff⟩ : ∃ f, ys[k]? = some f := ⟨_, List.getElem?_eq_getElem (by rw [HN'.out]; exact hlt)⟩
      have hsw' := HS'.out.below hb
      obtain ⟨b', off', rfl, _⟩ := hsw'.addr (by rw [HN'.out]; omega)
      obtain ⟨g0, g1, g2⟩ := en_at hsw' k f hff
      obtain ⟨b, off, cz, rfl, hz1, hz2, hz3, hsz⟩ := hrd
      obtain ⟨zs, hzs⟩ : ∃ zs, (ys.take k).foldl (putP En.bs) xs = zs := ⟨_, rfl⟩
      rw [hzs] at hz1 hsz ⊢
      have HZN : Hid ((ys.take (k + 1)).foldl (putP En.bs) xs = putP En.bs zs f) := by rw [Hid, take_snoc' hff, List.foldl_append, hzs]; rfl
      have hzl : zs.length ≤ 1000000 := by
        have h1 := fold_len2 xs (ys.take k)
        rw [hzs, HN.out, List.length_take, HN'.out] at h1
        omega
      have HP := Lib.hid (l2Put_c b off cz zs f _ (Lib.hid rfl) wr hsz hz3 hzl hz1 hz2)
      obtain ⟨m, hm⟩ : ∃ m, zs.length = m := ⟨_, rfl⟩
      rw [hm] at HP ⊢
      clear hzs hz1 hz2 hz3 hzl hsz hm hff hsw'
      go_wp2_with fail
      refine HP.out.mono ?_
      intro e W hmade
      obtain ⟨v, rfl, hrd, hq⟩ := made_read hmade
      rw [← HZN.out] at hrd
      replace hb := chn hb hq
      clear hmade hq
      go_wp2
      go_roundw
      case rel => exact ⟨k + 1, by omega, by go_num, hrd, hb⟩
      case measure => simp [intOf]; omega
    · obtain rfl : k = n' := by omega
      obtain ⟨b, off, cz, rfl, hz1, hz2, hz3, hsz⟩ := hrd
      have hall : ys.take k = ys := by rw [← HN'.out, List.take_length]
      rw [hall] at hz1 hsz ⊢
      obtain ⟨zs, hzs⟩ : ∃ zs, ys.foldl (putP En.bs) xs = zs := ⟨_, rfl⟩
      have HZS := Lib.hid hzs
      rw [hzs] at hz1 hsz HLL HZP ⊢
      have hzl : zs.length ≤ 32 := by
        have h1 := fold_len2 xs ys
        rw [hzs, HN.out, HN'.out] at h1
        omega
      obtain ⟨m, hm⟩ : ∃ m, zs.length = m := ⟨_, rfl⟩
      have HM := Lib.hid hm
      rw [hm] at hz1 hzl ⊢
      have HSZ := Lib.hid hsz
      have HB0 := Lib.hid hb
      have HALLZ : Hid (zs.take m = zs) := by rw [Hid, ← hm, List.take_length]
      clear hzs hm hsz hall hb
      obtain ⟨wo, hwo⟩ : ∃ wo : World, wo = wr := ⟨_, rfl⟩
      subst hwo
      go_wp2
      go_loopw [7, 8, 9, 10, 11, 12] (fun v i _ _ _ _ wr => ∃ (k : Nat) (ss : List ByteArray), k ≤ m ∧ ss.length ≤ k ∧ i = .int .i64 k ∧ ss.map (·.data.toList) = diffs xs ys (zs.take k) ∧ wr.ownsRow wo.heap.size 9 1 v ss.length (ss.map Value.string) ∧ Below wo.heap.size wo wr) (fun _ i _ _ _ _ _ => m - (intOf i).toNat)
      case atStart => exact ⟨0, [], Nat.zero_le _, Nat.zero_le _, rfl, rfl, World.ownsRow_lit _ #[] 0 (Nat.le_refl _) (Nat.zero_le _) rfl, bellow_alloc _ _⟩
      case round =>
        clear hb0
        obtain ⟨k, ss, hk, hsl, rfl, hss, hown, hbo⟩ := hrel
        have hb := HB0.out.trans (hbo.mono HB0.out.size)
        have HSS := Lib.hid hss
        clear hss
        by_cases hlt : k < m
        · obtain ⟨z, hzz⟩ : ∃ z, zs[k]? = some z := ⟨_, List.getElem?_eq_getElem (by rw [HM.out]; exact hlt)⟩
          have hsz := HSZ.out.below hbo
          obtain ⟨d0, _, _⟩ := en_at hsz k z hzz
          have hzr := HZP.out z (List.mem_of_getElem? hzz)
          have HTK := Lib.hid (take_snoc' hzz)
          obtain ⟨zp, zd, zx⟩ := z
          obtain ⟨o1, ho1⟩ : ∃ o, getE xs zp = o := ⟨_, rfl⟩
          obtain ⟨o2, ho2⟩ : ∃ o, getE ys zp = o := ⟨_, rfl⟩
          have HQ1 : Hid (lgetE xs zp = o1) := by rw [Hid, lgetE, if_neg hzr]; exact ho1
          have HQ2 : Hid (lgetE ys zp = o2) := by rw [Hid, lgetE, if_neg hzr]; exact ho2
          have HH1 := Lib.hid ho1
          have HH2 := Lib.hid ho2
          have HA1 := GG.out zp o1 HQ1
          have HA2 := GG'.out zp o2 HQ2
          obtain ⟨⟨p1, dd1, x1⟩, hE1⟩ : ∃ e, optE o1 = e := ⟨_, rfl⟩
          obtain ⟨⟨p2, dd2, x2⟩, hE2⟩ : ∃ e, optE o2 = e := ⟨_, rfl⟩
          obtain ⟨s1, hs1⟩ : ∃ s, o1.isSome = s := ⟨_, rfl⟩
          obtain ⟨s2, hs2⟩ : ∃ s, o2.isSome = s := ⟨_, rfl⟩
          rw [hE1, hs1] at HA1
          rw [hE2, hs2] at HA2
          have GA1 := Lib.hid HA1
          have GA2 := Lib.hid HA2
          have HEQ : Hid ((s1 = s2 ∧ p1 = p2 ∧ dd1 = dd2 ∧ x1 = x2) ↔ o1 = o2) := by
            rw [Hid, ← hs1, ← hs2]
            constructor
            · rintro ⟨h1, h2, h3, h4⟩
              cases o1 with
              | none =>
                cases o2 with
                | none => rfl
                | some _ => cases h1
              | some e =>
                cases o2 with
                | none => cases h1
                | some f =>
                  have e1 : e = ⟨p1, dd1, x1⟩ := hE1
                  have e2 : f = ⟨p2, dd2, x2⟩ := hE2
                  rw [e1, e2, h2, h3, h4]
            · rintro rfl
              have := hE1.symm.trans hE2
              injection this with h1 h2 h3
              exact ⟨rfl, h1, h2, h3⟩
          clear hzr hzz ho1 ho2 hE1 hE2 hs1 hs2 HA1 HA2 hsz
          by_cases heq : o1 = o2
          · obtain ⟨rfl, rfl, rfl, rfl⟩ := HEQ.out.2 heq
            have HSN : Hid (diffs xs ys (zs.take (k + 1)) = diffs xs ys (zs.take k)) := by rw [Hid, HTK.out]; exact diffs_eq (HH1.out.trans (heq.trans HH2.out.symm))
            clear heq HEQ
            go_wp2_with fail
            refine (GA1.out _ (HS.out.below hb)).out.mono ?_; rintro e W ⟨rfl, hq⟩; replace hb := chn hb hq; replace hbo := chn hbo hq; replace hown := own_below hown hq; replace d0 := keepc hq d0; clear hq
            have a0 := new_cell W #[.string p1, .bool dd1, .string x1] 31 0 (.string p1) rfl
            have a1 := new_cell W #[.string p1, .bool dd1, .string x1] 31 1 (.bool dd1) rfl
            have a2 := new_cell W #[.string p1, .bool dd1, .string x1] 31 2 (.string x1) rfl
            replace hown := own_below hown (bellow_alloc _ (.cells #[.string p1, .bool dd1, .string x1] 31)); replace hbo := chn hbo (bellow_alloc _ (.cells #[.string p1, .bool dd1, .string x1] 31))
            replace hb := hb.alloc hb.size (.cells #[.string p1, .bool dd1, .string x1] 31); replace d0 := keepc (bellow_alloc _ (.cells #[.string p1, .bool dd1, .string x1] 31)) d0; 
            go_wp2_with fail
            refine (GA2.out _ (HS'.out.below hb)).out.mono ?_; rintro e W2 ⟨rfl, hq⟩; replace hb := chn hb hq; replace hbo := chn hbo hq; replace hown := own_below hown hq; replace d0 := keepc hq d0; replace a0 := keepc hq a0; replace a1 := keepc hq a1; replace a2 := keepc hq a2; clear hq
            replace hown := own_below hown (bellow_alloc _ (.cells #[.string p1, .bool dd1, .string x1] 31)); replace hbo := chn hbo (bellow_alloc _ (.cells #[.string p1, .bool dd1, .string x1] 31))
            replace hb := hb.alloc hb.size (.cells #[.string p1, .bool dd1, .string x1] 31); replace d0 := keepc (bellow_alloc _ (.cells #[.string p1, .bool dd1, .string x1] 31)) d0; replace a0 := keepc (bellow_alloc _ (.cells #[.string p1, .bool dd1, .string x1] 31)) a0; replace a1 := keepc (bellow_alloc _ (.cells #[.string p1, .bool dd1, .string x1] 31)) a1; replace a2 := keepc (bellow_alloc _ (.cells #[.string p1, .bool dd1, .string x1] 31)) a2; 
            go_wp2
            go_roundw
            case rel => exact ⟨k + 1, ss, by omega, by omega, by go_num, by rw [HSN.out]; exact HSS.out, hown, hbo⟩
            case measure => simp [intOf]; omega
          · have HSN : Hid (diffs xs ys (zs.take (k + 1)) = diffs xs ys (zs.take k) ++ [zp.data.toList]) := by rw [Hid, HTK.out]; exact diffs_ne (fun h => heq (HH1.out.symm.trans (h.trans HH2.out)))
            have HNE := Lib.hid (fun h => heq (HEQ.out.1 h))
            clear heq HEQ
            by_cases e1 : s1 = s2
            · subst e1
              by_cases e2 : p1 = p2
              · subst e2
                by_cases e3 : dd1 = dd2
                · subst e3
                  have q := bq_no (s := x1) (t := x2) (fun h => HNE.out ⟨rfl, rfl, rfl, h⟩)
                  go_wp2_with fail
                  refine (GA1.out _ (HS.out.below hb)).out.mono ?_; rintro e W ⟨rfl, hq⟩; replace hb := chn hb hq; replace hbo := chn hbo hq; replace hown := own_below hown hq; replace d0 := keepc hq d0; clear hq
                  have a0 := new_cell W #[.string p1, .bool dd1, .string x1] 31 0 (.string p1) rfl
                  have a1 := new_cell W #[.string p1, .bool dd1, .string x1] 31 1 (.bool dd1) rfl
                  have a2 := new_cell W #[.string p1, .bool dd1, .string x1] 31 2 (.string x1) rfl
                  replace hown := own_below hown (bellow_alloc _ (.cells #[.string p1, .bool dd1, .string x1] 31)); replace hbo := chn hbo (bellow_alloc _ (.cells #[.string p1, .bool dd1, .string x1] 31))
                  replace hb := hb.alloc hb.size (.cells #[.string p1, .bool dd1, .string x1] 31); replace d0 := keepc (bellow_alloc _ (.cells #[.string p1, .bool dd1, .string x1] 31)) d0; 
                  go_wp2_with fail
                  refine (GA2.out _ (HS'.out.below hb)).out.mono ?_; rintro e W2 ⟨rfl, hq⟩; replace hb := chn hb hq; replace hbo := chn hbo hq; replace hown := own_below hown hq; replace d0 := keepc hq d0; replace a0 := keepc hq a0; replace a1 := keepc hq a1; replace a2 := keepc hq a2; clear hq
                  replace hown := own_below hown (bellow_alloc _ (.cells #[.string p1, .bool dd1, .string x2] 31)); replace hbo := chn hbo (bellow_alloc _ (.cells #[.string p1, .bool dd1, .string x2] 31))
                  replace hb := hb.alloc hb.size (.cells #[.string p1, .bool dd1, .string x2] 31); replace d0 := keepc (bellow_alloc _ (.cells #[.string p1, .bool dd1, .string x2] 31)) d0; replace a0 := keepc (bellow_alloc _ (.cells #[.string p1, .bool dd1, .string x2] 31)) a0; replace a1 := keepc (bellow_alloc _ (.cells #[.string p1, .bool dd1, .string x2] 31)) a1; replace a2 := keepc (bellow_alloc _ (.cells #[.string p1, .bool dd1, .string x2] 31)) a2; 
                  go_wp2_with (at_builtin; go_must (refine wp_app1H (by rfl) _ _ 26 (by rfl) HE wo.heap.size wo.heap.size wo _ #[.string zp] _ _ _ (by rfl) (W2.heap.size + 1) (by simp) (by rfl) hown (by rfl) (by simp [Value.oneCell']) (by omega) hbo.size hbo (Nat.le_refl _) ?_); intro v' w1 hown1 hbel1 _ _)
                  go_roundw
                  case rel => exact ⟨k + 1, ss ++ [zp], by omega, by simp; omega, by go_num, by rw [List.map_append, HSS.out, HSN.out]; rfl, by simpa using hown1, hbel1⟩
                  case measure => simp [intOf]; omega
                · have q : (dd1 == dd2) = false := by rw [beq_eq_false_iff_ne]; exact e3
                  clear e3
                  go_wp2_with fail
                  refine (GA1.out _ (HS.out.below hb)).out.mono ?_; rintro e W ⟨rfl, hq⟩; replace hb := chn hb hq; replace hbo := chn hbo hq; replace hown := own_below hown hq; replace d0 := keepc hq d0; clear hq
                  have a0 := new_cell W #[.string p1, .bool dd1, .string x1] 31 0 (.string p1) rfl
                  have a1 := new_cell W #[.string p1, .bool dd1, .string x1] 31 1 (.bool dd1) rfl
                  have a2 := new_cell W #[.string p1, .bool dd1, .string x1] 31 2 (.string x1) rfl
                  replace hown := own_below hown (bellow_alloc _ (.cells #[.string p1, .bool dd1, .string x1] 31)); replace hbo := chn hbo (bellow_alloc _ (.cells #[.string p1, .bool dd1, .string x1] 31))
                  replace hb := hb.alloc hb.size (.cells #[.string p1, .bool dd1, .string x1] 31); replace d0 := keepc (bellow_alloc _ (.cells #[.string p1, .bool dd1, .string x1] 31)) d0; 
                  go_wp2_with fail
                  refine (GA2.out _ (HS'.out.below hb)).out.mono ?_; rintro e W2 ⟨rfl, hq⟩; replace hb := chn hb hq; replace hbo := chn hbo hq; replace hown := own_below hown hq; replace d0 := keepc hq d0; replace a0 := keepc hq a0; replace a1 := keepc hq a1; replace a2 := keepc hq a2; clear hq
                  replace hown := own_below hown (bellow_alloc _ (.cells #[.string p1, .bool dd2, .string x2] 31)); replace hbo := chn hbo (bellow_alloc _ (.cells #[.string p1, .bool dd2, .string x2] 31))
                  replace hb := hb.alloc hb.size (.cells #[.string p1, .bool dd2, .string x2] 31); replace d0 := keepc (bellow_alloc _ (.cells #[.string p1, .bool dd2, .string x2] 31)) d0; replace a0 := keepc (bellow_alloc _ (.cells #[.string p1, .bool dd2, .string x2] 31)) a0; replace a1 := keepc (bellow_alloc _ (.cells #[.string p1, .bool dd2, .string x2] 31)) a1; replace a2 := keepc (bellow_alloc _ (.cells #[.string p1, .bool dd2, .string x2] 31)) a2; 
                  go_wp2_with (at_builtin; go_must (refine wp_app1H (by rfl) _ _ 26 (by rfl) HE wo.heap.size wo.heap.size wo _ #[.string zp] _ _ _ (by rfl) (W2.heap.size + 1) (by simp) (by rfl) hown (by rfl) (by simp [Value.oneCell']) (by omega) hbo.size hbo (Nat.le_refl _) ?_); intro v' w1 hown1 hbel1 _ _)
                  go_roundw
                  case rel => exact ⟨k + 1, ss ++ [zp], by omega, by simp; omega, by go_num, by rw [List.map_append, HSS.out, HSN.out]; rfl, by simpa using hown1, hbel1⟩
                  case measure => simp [intOf]; omega
              · have q := bq_no e2
                clear e2
                go_wp2_with fail
                refine (GA1.out _ (HS.out.below hb)).out.mono ?_; rintro e W ⟨rfl, hq⟩; replace hb := chn hb hq; replace hbo := chn hbo hq; replace hown := own_below hown hq; replace d0 := keepc hq d0; clear hq
                have a0 := new_cell W #[.string p1, .bool dd1, .string x1] 31 0 (.string p1) rfl
                have a1 := new_cell W #[.string p1, .bool dd1, .string x1] 31 1 (.bool dd1) rfl
                have a2 := new_cell W #[.string p1, .bool dd1, .string x1] 31 2 (.string x1) rfl
                replace hown := own_below hown (bellow_alloc _ (.cells #[.string p1, .bool dd1, .string x1] 31)); replace hbo := chn hbo (bellow_alloc _ (.cells #[.string p1, .bool dd1, .string x1] 31))
                replace hb := hb.alloc hb.size (.cells #[.string p1, .bool dd1, .string x1] 31); replace d0 := keepc (bellow_alloc _ (.cells #[.string p1, .bool dd1, .string x1] 31)) d0; 
                go_wp2_with fail
                refine (GA2.out _ (HS'.out.below hb)).out.mono ?_; rintro e W2 ⟨rfl, hq⟩; replace hb := chn hb hq; replace hbo := chn hbo hq; replace hown := own_below hown hq; replace d0 := keepc hq d0; replace a0 := keepc hq a0; replace a1 := keepc hq a1; replace a2 := keepc hq a2; clear hq
                replace hown := own_below hown (bellow_alloc _ (.cells #[.string p2, .bool dd2, .string x2] 31)); replace hbo := chn hbo (bellow_alloc _ (.cells #[.string p2, .bool dd2, .string x2] 31))
                replace hb := hb.alloc hb.size (.cells #[.string p2, .bool dd2, .string x2] 31); replace d0 := keepc (bellow_alloc _ (.cells #[.string p2, .bool dd2, .string x2] 31)) d0; replace a0 := keepc (bellow_alloc _ (.cells #[.string p2, .bool dd2, .string x2] 31)) a0; replace a1 := keepc (bellow_alloc _ (.cells #[.string p2, .bool dd2, .string x2] 31)) a1; replace a2 := keepc (bellow_alloc _ (.cells #[.string p2, .bool dd2, .string x2] 31)) a2; 
                go_wp2_with (at_builtin; go_must (refine wp_app1H (by rfl) _ _ 26 (by rfl) HE wo.heap.size wo.heap.size wo _ #[.string zp] _ _ _ (by rfl) (W2.heap.size + 1) (by simp) (by rfl) hown (by rfl) (by simp [Value.oneCell']) (by omega) hbo.size hbo (Nat.le_refl _) ?_); intro v' w1 hown1 hbel1 _ _)
                go_roundw
                case rel => exact ⟨k + 1, ss ++ [zp], by omega, by simp; omega, by go_num, by rw [List.map_append, HSS.out, HSN.out]; rfl, by simpa using hown1, hbel1⟩
                case measure => simp [intOf]; omega
            · cases s1
              · cases s2
                · exact absurd rfl e1
                · clear e1
                  go_wp2_with fail
                  refine (GA1.out _ (HS.out.below hb)).out.mono ?_; rintro e W ⟨rfl, hq⟩; replace hb := chn hb hq; replace hbo := chn hbo hq; replace hown := own_below hown hq; replace d0 := keepc hq d0; clear hq
                  have a0 := new_cell W #[.string p1, .bool dd1, .string x1] 31 0 (.string p1) rfl
                  have a1 := new_cell W #[.string p1, .bool dd1, .string x1] 31 1 (.bool dd1) rfl
                  have a2 := new_cell W #[.string p1, .bool dd1, .string x1] 31 2 (.string x1) rfl
                  replace hown := own_below hown (bellow_alloc _ (.cells #[.string p1, .bool dd1, .string x1] 31)); replace hbo := chn hbo (bellow_alloc _ (.cells #[.string p1, .bool dd1, .string x1] 31))
                  replace hb := hb.alloc hb.size (.cells #[.string p1, .bool dd1, .string x1] 31); replace d0 := keepc (bellow_alloc _ (.cells #[.string p1, .bool dd1, .string x1] 31)) d0; 
                  go_wp2_with fail
                  refine (GA2.out _ (HS'.out.below hb)).out.mono ?_; rintro e W2 ⟨rfl, hq⟩; replace hb := chn hb hq; replace hbo := chn hbo hq; replace hown := own_below hown hq; replace d0 := keepc hq d0; replace a0 := keepc hq a0; replace a1 := keepc hq a1; replace a2 := keepc hq a2; clear hq
                  replace hown := own_below hown (bellow_alloc _ (.cells #[.string p2, .bool dd2, .string x2] 31)); replace hbo := chn hbo (bellow_alloc _ (.cells #[.string p2, .bool dd2, .string x2] 31))
                  replace hb := hb.alloc hb.size (.cells #[.string p2, .bool dd2, .string x2] 31); replace d0 := keepc (bellow_alloc _ (.cells #[.string p2, .bool dd2, .string x2] 31)) d0; replace a0 := keepc (bellow_alloc _ (.cells #[.string p2, .bool dd2, .string x2] 31)) a0; replace a1 := keepc (bellow_alloc _ (.cells #[.string p2, .bool dd2, .string x2] 31)) a1; replace a2 := keepc (bellow_alloc _ (.cells #[.string p2, .bool dd2, .string x2] 31)) a2; 
                  go_wp2_with (at_builtin; go_must (refine wp_app1H (by rfl) _ _ 26 (by rfl) HE wo.heap.size wo.heap.size wo _ #[.string zp] _ _ _ (by rfl) (W2.heap.size + 1) (by simp) (by rfl) hown (by rfl) (by simp [Value.oneCell']) (by omega) hbo.size hbo (Nat.le_refl _) ?_); intro v' w1 hown1 hbel1 _ _)
                  go_roundw
                  case rel => exact ⟨k + 1, ss ++ [zp], by omega, by simp; omega, by go_num, by rw [List.map_append, HSS.out, HSN.out]; rfl, by simpa using hown1, hbel1⟩
                  case measure => simp [intOf]; omega
              · cases s2
                · clear e1
                  go_wp2_with fail
                  refine (GA1.out _ (HS.out.below hb)).out.mono ?_; rintro e W ⟨rfl, hq⟩; replace hb := chn hb hq; replace hbo := chn hbo hq; replace hown := own_below hown hq; replace d0 := keepc hq d0; clear hq
                  have a0 := new_cell W #[.string p1, .bool dd1, .string x1] 31 0 (.string p1) rfl
                  have a1 := new_cell W #[.string p1, .bool dd1, .string x1] 31 1 (.bool dd1) rfl
                  have a2 := new_cell W #[.string p1, .bool dd1, .string x1] 31 2 (.string x1) rfl
                  replace hown := own_below hown (bellow_alloc _ (.cells #[.string p1, .bool dd1, .string x1] 31)); replace hbo := chn hbo (bellow_alloc _ (.cells #[.string p1, .bool dd1, .string x1] 31))
                  replace hb := hb.alloc hb.size (.cells #[.string p1, .bool dd1, .string x1] 31); replace d0 := keepc (bellow_alloc _ (.cells #[.string p1, .bool dd1, .string x1] 31)) d0; 
                  go_wp2_with fail
                  refine (GA2.out _ (HS'.out.below hb)).out.mono ?_; rintro e W2 ⟨rfl, hq⟩; replace hb := chn hb hq; replace hbo := chn hbo hq; replace hown := own_below hown hq; replace d0 := keepc hq d0; replace a0 := keepc hq a0; replace a1 := keepc hq a1; replace a2 := keepc hq a2; clear hq
                  replace hown := own_below hown (bellow_alloc _ (.cells #[.string p2, .bool dd2, .string x2] 31)); replace hbo := chn hbo (bellow_alloc _ (.cells #[.string p2, .bool dd2, .string x2] 31))
                  replace hb := hb.alloc hb.size (.cells #[.string p2, .bool dd2, .string x2] 31); replace d0 := keepc (bellow_alloc _ (.cells #[.string p2, .bool dd2, .string x2] 31)) d0; replace a0 := keepc (bellow_alloc _ (.cells #[.string p2, .bool dd2, .string x2] 31)) a0; replace a1 := keepc (bellow_alloc _ (.cells #[.string p2, .bool dd2, .string x2] 31)) a1; replace a2 := keepc (bellow_alloc _ (.cells #[.string p2, .bool dd2, .string x2] 31)) a2; 
                  go_wp2_with (at_builtin; go_must (refine wp_app1H (by rfl) _ _ 26 (by rfl) HE wo.heap.size wo.heap.size wo _ #[.string zp] _ _ _ (by rfl) (W2.heap.size + 1) (by simp) (by rfl) hown (by rfl) (by simp [Value.oneCell']) (by omega) hbo.size hbo (Nat.le_refl _) ?_); intro v' w1 hown1 hbel1 _ _)
                  go_roundw
                  case rel => exact ⟨k + 1, ss ++ [zp], by omega, by simp; omega, by go_num, by rw [List.map_append, HSS.out, HSN.out]; rfl, by simpa using hown1, hbel1⟩
                  case measure => simp [intOf]; omega
                · exact absurd rfl e1
        · obtain rfl : k = m := by omega
          have HF : Hid (ss.map (·.data.toList) = L) := by rw [Hid, HSS.out, HALLZ.out, HLL.out]
          go_wp2
          go_ret
          exact ⟨_, ss, rfl, HF.out, hown.mono HB0.out.size, hb⟩
end Go.Proofs.YtobbodbkdcbflabDoor
namespace Go.Proofs.YtobbodbkdcbflabDoor
open Go.RowKit
set_option maxRecDepth 100000 in
set_option maxHeartbeats 4000000 in
theorem sTreeTurned_c (b0 off0 c : Nat) (b1 off1 c' : Nat) (xs ys : List En) (w : World) (hs : SlF En.cells w (some ⟨b0, off0, none⟩) xs) (hs' : SlF En.cells w (some ⟨b1, off1, none⟩) ys) (hb0 : b0 < w.heap.size) (hc : xs.length ≤ c) (hcm : c ≤ maxLen) (hc' : ys.length ≤ c') (hx : xs.length ≤ maxLen) (hy : ys.length ≤ maxLen) (hz : ∀ e ∈ xs, e.p.size ≤ maxLen ∧ e.x.size ≤ maxLen) (hz' : ∀ e ∈ ys, e.p.size ≤ maxLen ∧ e.x.size ≤ maxLen) :
    Calls Tryd.prog 8 #[.slice (some ⟨b0, off0, none⟩) xs.length c, .slice (some ⟨b1, off1, none⟩) ys.length c'] w (MadeSt (tturn (xs.map En.pl) (ys.map En.pl)) w) := by
  have hb := Below.refl w.heap.size w
  obtain ⟨r, hr⟩ := tok_dec xs
  obtain ⟨r', hr'⟩ := tok_dec ys
  have HT := Lib.hid (sTreeOk_c _ c xs r (Lib.hid hr) w hs hx hc hz)
  have HT' := fun W (h : SlF En.cells W (some ⟨b1, off1, none⟩) ys) => Lib.hid (sTreeOk_c _ c' ys r' (Lib.hid hr') W h hy hc' hz')
  obtain ⟨L, hL⟩ : ∃ L, tturn (xs.map En.pl) (ys.map En.pl) = L := ⟨_, rfl⟩
  have HLB : Hid (¬ (r = true ∧ r' = true) → L = []) := fun h => by rw [← hL]; exact tturn_bad (fun h' => h ⟨hr.2 h'.1, hr'.2 h'.2⟩)
  have HLO : Hid (r = true → r' = true → ∀ W, SlF En.cells W (some ⟨b0, off0, none⟩) xs → SlF En.cells W (some ⟨b1, off1, none⟩) ys → b0 < W.heap.size → Hid (Calls Tryd.prog 24 #[.slice (some ⟨b0, off0, none⟩) xs.length c, .slice (some ⟨b1, off1, none⟩) ys.length c'] W (MadeSt L W))) := fun h h' W g1 g2 g3 => by
    rw [← hL, tturn_ok (hr.1 h) (hr'.1 h')]
    exact l2Turned_c b0 off0 c _ c' xs ys W g1 g2 g3 hc hcm (hr.1 h) (hr'.1 h')
  have HS := Lib.hid hs
  have HS' := Lib.hid hs'
  rw [hL]
  obtain ⟨n, hn⟩ : ∃ n, xs.length = n := ⟨_, rfl⟩
  obtain ⟨n', hn'⟩ : ∃ n, ys.length = n := ⟨_, rfl⟩
  rw [hn] at HT HLO ⊢
  rw [hn'] at HT' HLO ⊢
  have GT' := Lib.hid HT'
  clear hn hn' hL hs hs' hz hz' hx hy hr hr' HT' hc hcm hc'
  cases r with
  | false =>
    obtain rfl : L = [] := HLB.out (by simp)
    go_enter Tryd.func8, Tryd.ntmps8
    go_wp2_with fail
    refine (HT.out).mono ?_; rintro e W ⟨rfl, hq⟩; replace hb := chn hb hq; clear hq
    go_wp2
    go_ret
    exact ⟨_, [], rfl, rfl, World.ownsRow_lit _ #[] 0 hb.size (Nat.zero_le _) rfl, hb.alloc hb.size _⟩
  | true =>
  cases r' with
  | false =>
    obtain rfl : L = [] := HLB.out (by simp)
    go_enter Tryd.func8, Tryd.ntmps8
    go_wp2_with fail
    refine (HT.out).mono ?_; rintro e W ⟨rfl, hq⟩; replace hb := chn hb hq; clear hq
    go_wp2_with fail
    refine ((GT'.out _ (HS'.out.below hb)).out).mono ?_; rintro e W ⟨rfl, hq⟩; replace hb := chn hb hq; clear hq
    go_wp2
    go_ret
    exact ⟨_, [], rfl, rfl, World.ownsRow_lit _ #[] 0 hb.size (Nat.zero_le _) rfl, hb.alloc hb.size _⟩
  | true =>
    have HLR := Lib.hid (HLO.out rfl rfl)
    clear HLO HLB
    go_enter Tryd.func8, Tryd.ntmps8
    go_wp2_with fail
    refine (HT.out).mono ?_; rintro e W ⟨rfl, hq⟩; replace hb := chn hb hq; clear hq
    go_wp2_with fail
    refine ((GT'.out _ (HS'.out.below hb)).out).mono ?_; rintro e W ⟨rfl, hq⟩; replace hb := chn hb hq; clear hq
    go_wp2_with fail
    refine (HLR.out _ (HS.out.below hb) (HS'.out.below hb) (Nat.lt_of_lt_of_le hb0 hb.size)).out.mono ?_
    rintro e W' ⟨v, ss, rfl, hss, hown, hq⟩
    have HSS := Lib.hid hss
    have HSZ := Lib.hid hb.size
    clear hss
    replace hb := chn hb hq
    go_wp2
    go_ret
    exact ⟨_, ss, rfl, HSS.out, hown.mono HSZ.out, hb⟩
end Go.Proofs.YtobbodbkdcbflabDoor
namespace Go.Proofs.YtobbodbkdcbflabDoor
open Go.RowKit
theorem tturn_comm (a b : List PE) : tturn b a = tturn a b := by
  by_cases h : TOk a ∧ TOk b
  · rw [tturn_ok h.2 h.1, tturn_ok h.1 h.2, turned_comm h.2.ordP h.1.ordP]
  · rw [tturn_bad h, tturn_bad (fun h' => h h'.symm)]
theorem tturn_self (a : List PE) : tturn a a = [] := by
  by_cases h : TOk a
  · rw [tturn_ok h h, turned_self h.ordP]
  · exact tturn_bad (fun h' => h h'.1)
/-- TreeTurned, as the laws meet it. -/
theorem turnI_c (a a' : Option Addr) (c c' n n' : Nat) (xs ys : List En) (L : List Bs) (hL : Hid (tturn (xs.map En.pl) (ys.map En.pl) = L)) (w : World) (hn : xs.length = n) (hn' : ys.length = n') (hs : SlF En.cells w a xs) (hs' : SlF En.cells w a' ys) (hx : n ≤ 1000) (hy : n' ≤ 1000) (hz : Small xs) (hz' : Small ys) :
    Calls Tryd.prog 6 #[.slice a n c, .slice a' n' c'] w (MadeSt L w) := by
  subst hn hn'
  rw [← hL.out]
  exact treeTurned_c a a' c c' xs ys w hs hs' (by unfold maxLen; omega) (by unfold maxLen; omega) hz.max hz'.max
theorem turnS_c (a a' : Option Addr) (c c' n n' : Nat) (xs ys : List En) (L : List Bs) (hL : Hid (tturn (xs.map En.pl) (ys.map En.pl) = L)) (w : World) (hn : xs.length = n) (hn' : ys.length = n') (hs : ReadEn w a c xs) (hs' : ReadEn w a' c' ys) (hx : n ≤ 1000) (hy : n' ≤ 1000) (hz : Small xs) (hz' : Small ys) :
    Calls Tryd.prog 8 #[.slice a n c, .slice a' n' c'] w (MadeSt L w) := by
  subst hn hn'
  rw [← hL.out]
  obtain ⟨b0, o0, rfl, h1, h2, h3, h4⟩ := hs
  obtain ⟨b1, o1, rfl, _, k2, k3, _⟩ := hs'
  exact sTreeTurned_c b0 o0 c b1 o1 c' xs ys w h2 k2 h1 h3 h4 k3 (by unfold maxLen; omega) (by unfold maxLen; omega) hz.max hz'.max
theorem opt_two (o : Option En) : ∃ (ep ex : ByteArray) (ed th : Bool), optV o = .tuple #[.agg #[.string ep, .bool ed, .string ex], .bool th] ∧ (o = if th = true then some ⟨ep, ed, ex⟩ else none) ∧ (th = false → ep = ⟨#[]⟩ ∧ ed = false ∧ ex = ⟨#[]⟩) := by
  cases o with
  | none => exact ⟨⟨#[]⟩, ⟨#[]⟩, false, false, rfl, rfl, fun _ => ⟨rfl, rfl, rfl⟩⟩
  | some e => exact ⟨e.p, e.x, e.d, true, rfl, rfl, fun h => by cases h⟩
theorem opt_same {o1 o2 : Option En} {p1 x1 p2 x2 : ByteArray} {d1 t1 d2 t2 : Bool} (h1 : o1 = if t1 = true then some ⟨p1, d1, x1⟩ else none) (k1 : t1 = false → p1 = ⟨#[]⟩ ∧ d1 = false ∧ x1 = ⟨#[]⟩) (h2 : o2 = if t2 = true then some ⟨p2, d2, x2⟩ else none) (k2 : t2 = false → p2 = ⟨#[]⟩ ∧ d2 = false ∧ x2 = ⟨#[]⟩) :
    (t1 = t2 ∧ p1 = p2 ∧ d1 = d2 ∧ x1 = x2) ↔ o1 = o2 := by
  subst h1 h2
  constructor
  · rintro ⟨rfl, rfl, rfl, rfl⟩; rfl
  · intro h
    cases t1 with
    | false =>
      cases t2 with
      | false =>
        obtain ⟨rfl, rfl, rfl⟩ := k1 rfl
        obtain ⟨rfl, rfl, rfl⟩ := k2 rfl
        exact ⟨rfl, rfl, rfl, rfl⟩
      | true => simp at h
    | true =>
      cases t2 with
      | false => simp at h
      | true => simpa using h
theorem differ_at {xs ys : List En} (h : TOk (xs.map En.pl)) (h' : TOk (ys.map En.pl)) {s : ByteArray} (hs : pathOkL s.data.toList = true) : s.data.toList ∈ turnedL (xs.map En.pl) (ys.map En.pl) ↔ tgetE xs s ≠ tgetE ys s := by
  rw [mem_turned h.ordP h'.ordP, tget_right h hs, tget_right h' hs, ← getL_at, ← getL_at, getE_pl, getE_pl]
  have hi : ∀ o o' : Option En, o.map En.pl = o'.map En.pl ↔ o = o' := fun o o' => by
    constructor
    · intro h
      cases o with
      | none => cases o' with
        | none => rfl
        | some f => simp at h
      | some e => cases o' with
        | none => simp at h
        | some f => simp at h; rw [En.pl_inj h]
    · rintro rfl; rfl
  exact not_congr (hi _ _)
set_option maxRecDepth 100000 in
set_option maxHeartbeats 8000000 in
theorem lawTreeDiffer_w (w : World) (a : Option Addr) (n c : Nat) (h : Code w a n c) : Calls Tryd.prog 3 #[.slice a n c] w (TrueB w) := by
  have hn := h.2.2
  by_cases hbig : 1048576 < n
  · clear h
    go_enter Tryd.func3, Tryd.ntmps3
    go_wp2
    go_ret
    exact ⟨rfl, Below.refl _ _⟩
  have HD := Lib.hid (drawTreeTurned_c w a n c h)
  clear h
  go_enter Tryd.func3, Tryd.ntmps3
  go_wp2_with fail
  refine HD.out.mono ?_; rintro e W1 ⟨a1, c1, xs, a2, c2, ys, rfl, hR, htk, hR2, hz2, hy, hb⟩
  have hx : xs.length ≤ 16 := by have := htk.most; rw [List.length_map] at this; exact this
  have HTK := Lib.hid htk
  have HZ := Lib.hid (tok_small htk)
  have HZ2 := Lib.hid hz2
  have hcn := hR.cap
  have hcn2 := hR2.cap
  obtain ⟨n1, hn1⟩ : ∃ m, xs.length = m := ⟨_, rfl⟩
  obtain ⟨n2, hn2⟩ : ∃ m, ys.length = m := ⟨_, rfl⟩
  rw [hn1] at hx hcn ⊢
  rw [hn2] at hy hcn2 ⊢
  have HN1 := Lib.hid hn1
  have HN2 := Lib.hid hn2
  obtain ⟨L, hL⟩ : ∃ L, tturn (xs.map En.pl) (ys.map En.pl) = L := ⟨_, rfl⟩
  have HL := Lib.hid hL
  have HTI := Lib.hid (fun W (h : SlF En.cells W a1 xs) (h' : SlF En.cells W a2 ys) => turnI_c a1 a2 c1 c2 n1 n2 xs ys L (Lib.hid hL) W HN1.out HN2.out h h' (by omega) (by omega) HZ.out HZ2.out)
  have HTS := Lib.hid (fun W (h : ReadEn W a1 c1 xs) (h' : ReadEn W a2 c2 ys) => turnS_c a1 a2 c1 c2 n1 n2 xs ys L (Lib.hid hL) W HN1.out HN2.out h h' (by omega) (by omega) HZ.out HZ2.out)
  have HTB := Lib.hid (fun W (h : SlF En.cells W a1 xs) (h' : SlF En.cells W a2 ys) => turnI_c a2 a1 c2 c1 n2 n1 ys xs L (Lib.hid (by rw [tturn_comm]; exact hL)) W HN2.out HN1.out h' h (by omega) (by omega) HZ2.out HZ.out)
  have HTA := Lib.hid (fun W (h : SlF En.cells W a1 xs) => turnI_c a1 a1 c1 c1 n1 n1 xs xs [] (Lib.hid (tturn_self _)) W HN1.out HN1.out h h (by omega) (by omega) HZ.out HZ.out)
  have HOA := Lib.hid (fun W (h : SlF En.cells W a1 xs) => okS_c a1 c1 n1 xs true (Lib.hid ⟨fun _ => HTK.out, fun _ => rfl⟩) W HN1.out h hcn (by omega) HZ.out)
  obtain ⟨r2, hr2⟩ := tok_dec ys
  have HR2 := Lib.hid hr2
  have HOB := Lib.hid (fun W (h : SlF En.cells W a2 ys) => okS_c a2 c2 n2 ys r2 (Lib.hid hr2) W HN2.out h hcn2 (by omega) HZ2.out)
  clear hn1 hn2 hz2 htk HD hL hr2
  go_wp2_with fail
  refine (HTI.out _ hR.sl hR2.sl).mono ?_; rintro e W2 ⟨v3, ss, rfl, hss, hov, hq⟩; replace hb := chn hb hq; replace hR := hR.below hq; replace hR2 := hR2.below hq; clear hq HTI
  obtain ⟨a3, c3, rfl⟩ := own_shape hov
  have hsl := own_sls hov rfl
  have hsl25 : ss.length ≤ 2000 := by
    have h1 := congrArg List.length (hss.trans HL.out.symm)
    rw [List.length_map] at h1
    by_cases h : TOk (xs.map En.pl) ∧ TOk (ys.map En.pl)
    · rw [tturn_ok h.1 h.2] at h1
      have h2 := turned_len (a := xs.map En.pl) (b := ys.map En.pl)
      rw [List.length_map, List.length_map, HN1.out, HN2.out] at h2
      omega
    · rw [tturn_bad h, List.length_nil] at h1; omega
  have HSS := Lib.hid hss
  have HWW := Lib.hid (fun a4 c4 W (h : SlS W a3 ss) (h' : SlS W a4 ss) => wpWords_c a3 a4 c3 c4 ss.length ss.length ss ss true (Lib.hid ⟨fun _ => rfl, fun _ => rfl⟩) W rfl rfl h h' (by omega))
  obtain ⟨n3, hn3⟩ : ∃ m, ss.length = m := ⟨_, rfl⟩
  have HN3 := Lib.hid hn3
  rw [hn3] at hsl25 HWW ⊢
  clear hss hov hn3
  go_wp2_with fail
  refine (HTS.out _ hR hR2).mono ?_; rintro e W3 ⟨v4, ss4, rfl, hss4, hov4, hq⟩; replace hb := chn hb hq; replace hR := hR.below hq; replace hR2 := hR2.below hq; replace hsl := hsl.below hq; clear hq HTS
  obtain ⟨a4, c4, rfl⟩ := own_shape hov4
  have hsl4 := own_sls hov4 rfl
  obtain rfl : ss4 = ss := strs_inj (hss4.trans HSS.out.symm)
  rw [HN3.out]
  clear hss4 hov4
  go_wp2_with fail
  refine (HWW.out a4 c4 _ hsl hsl4).mono ?_; rintro e W4 ⟨rfl, hq⟩; replace hb := chn hb hq; replace hR := hR.below hq; replace hR2 := hR2.below hq; replace hsl := hsl.below hq; clear hq hsl4
  go_wp2_with fail
  refine (HTB.out _ hR.sl hR2.sl).mono ?_; rintro e W5 ⟨v5, ss5, rfl, hss5, hov5, hq⟩; replace hb := chn hb hq; replace hR := hR.below hq; replace hR2 := hR2.below hq; replace hsl := hsl.below hq; clear hq HTB
  obtain ⟨a5, c5, rfl⟩ := own_shape hov5
  have hsl5 := own_sls hov5 rfl
  obtain rfl : ss5 = ss4 := strs_inj (hss5.trans HSS.out.symm)
  rw [HN3.out]
  clear hss5 hov5
  go_wp2_with fail
  refine (HWW.out a5 c5 _ hsl hsl5).mono ?_; rintro e W6 ⟨rfl, hq⟩; replace hb := chn hb hq; replace hR := hR.below hq; replace hR2 := hR2.below hq; replace hsl := hsl.below hq; clear hq hsl5 HWW
  go_wp2_with fail
  refine (HTA.out _ hR.sl).mono ?_; rintro e W7 ⟨v6, ss6, rfl, hss6, hov6, hq⟩; replace hb := chn hb hq; replace hR := hR.below hq; replace hR2 := hR2.below hq; replace hsl := hsl.below hq; clear hq HTA
  obtain ⟨a6, c6, rfl⟩ := own_shape hov6
  obtain rfl : ss6 = [] := List.map_eq_nil_iff.1 hss6
  rw [show ([] : List ByteArray).length = 0 from rfl]
  clear hss6 hov6
  go_wp2_with fail
  refine (HOA.out _ hR.sl).mono ?_; rintro e W8 ⟨rfl, hq⟩; replace hb := chn hb hq; replace hR := hR.below hq; replace hR2 := hR2.below hq; replace hsl := hsl.below hq; clear hq HOA
  go_wp2_with fail
  refine (HOB.out _ hR2.sl).mono ?_; rintro e W9 ⟨rfl, hq⟩; replace hb := chn hb hq; replace hR := hR.below hq; replace hR2 := hR2.below hq; replace hsl := hsl.below hq; clear hq HOB
  cases r2 with
  | false =>
    obtain rfl : n3 = 0 := by
      have h1 := HSS.out
      rw [← HL.out, tturn_bad (fun h => by have := HR2.out.2 h.2; cases this)] at h1
      rw [← HN3.out, List.map_eq_nil_iff.1 h1]; rfl
    go_wp2
    go_ret
    exact ⟨rfl, hb⟩
  | true =>
    have htk2 := HR2.out.1 rfl
    have HTK2 := Lib.hid htk2
    have HML : Hid (∀ s : ByteArray, pathOkL s.data.toList = true → (s ∈ ss5 ↔ tgetE xs s ≠ tgetE ys s)) := fun s hs => by
      rw [← differ_at HTK.out htk2 hs, ← mem_strs, HSS.out, ← HL.out, tturn_ok HTK.out htk2]
    have HNL : Hid (n3 = 0 ↔ xs = ys) := by
      rw [Hid, ← HN3.out, List.length_eq_zero_iff, ← List.map_eq_nil_iff (f := fun s : ByteArray => s.data.toList), HSS.out, ← HL.out, tturn_ok HTK.out htk2, turned_nil HTK.out.ordP htk2.ordP]
      exact ⟨fun h => map_inj_ En.pl_inj h, fun h => by rw [h]⟩
    obtain ⟨rs, hrs⟩ : ∃ r : Bool, r = true ↔ xs = ys := ⟨decide (n3 = 0), by rw [decide_eq_true_eq]; exact HNL.out⟩
    have HSA := Lib.hid (fun W (h : SlF En.cells W a1 xs) (h' : SlF En.cells W a2 ys) => sameR_c a1 a2 c1 c2 n1 n2 xs ys rs (Lib.hid hrs) W HN1.out HN2.out h h' (by omega) (by omega))
    have HRS : Hid (((n3 : Int) == 0) = rs) := by
      rw [Hid]
      cases rs with
      | true => rw [beq_iff_eq]; have := HNL.out.2 (hrs.1 rfl); omega
      | false => rw [beq_eq_false_iff_ne]; intro h0; have := hrs.2 (HNL.out.1 (by omega)); cases this
    have HR0 := Lib.hid hR
    have HR1 := Lib.hid hR2
    have HB0 := Lib.hid hb
    have HSL := Lib.hid hsl
    have HGA := Lib.hid (fun (s : ByteArray) (o : Option En) (ho : Hid (tgetE xs s = o)) W (h : SlF En.cells W a1 xs) => getT_c a1 c1 n1 xs s o ho W HN1.out h (by omega) HZ.out)
    have HGB := Lib.hid (fun (s : ByteArray) (o : Option En) (ho : Hid (tgetE ys s = o)) W (h : SlF En.cells W a2 ys) => getT_c a2 c2 n2 ys s o ho W HN2.out h (by omega) HZ2.out)
    clear htk2 HSS HL HR2 HNL hrs hR hR2 hb hsl
    go_wp2
    go_loopw [6, 7] (fun k i wr => ∃ j : Nat, j ≤ n1 + n2 ∧ i = .int .i64 j ∧ k = .int .i64 j ∧ Below W9.heap.size W9 wr) (fun _ i _ => n1 + n2 - (intOf i).toNat)
    case atStart => exact ⟨0, Nat.zero_le _, rfl, rfl, Below.refl _ _⟩
    case round =>
      obtain ⟨j, hj, rfl, rfl, hb⟩ := hrel
      have hjl : (j : Int) ≤ 100 := by omega
      by_cases hlt : j < n1 + n2
      · have hjn : (j : Int) < (n1 : Int) + (n2 : Int) := by omega
        go_upto_if 70 with fail
        go_cut [8] (fun s8 wx => ∃ s : ByteArray, s8 = .string s ∧ pathOkL s.data.toList = true ∧ Below W9.heap.size W9 wx)
        case first =>
          by_cases hj1 : j < n1
          · obtain ⟨e, hee⟩ : ∃ e, xs[j]? = some e := ⟨_, List.getElem?_eq_getElem (by rw [HN1.out]; exact hj1)⟩
            have hsl := (HR0.out.below hb).sl
            obtain ⟨b, off, rfl, _⟩ := hsl.addr (by rw [HN1.out]; omega)
            obtain ⟨d0, d1, d2⟩ := en_at hsl j e hee
            have hep := HTK.out.pth (List.mem_map_of_mem (List.mem_of_getElem? hee))
            have i0 : (0 : Int) ≤ (j : Int) := by omega
            have i1 : (j : Int) < (n1 : Int) := by omega
            clear hee
            go_wp2_with fail
            go_meet
            exact ⟨e.p, rfl, hep, by first | exact hb | exact drw hb _⟩
          · obtain ⟨k, rfl⟩ : ∃ k, j = n1 + k := ⟨j - n1, by omega⟩
            obtain ⟨e, hee⟩ : ∃ e, ys[k]? = some e := ⟨_, List.getElem?_eq_getElem (by rw [HN2.out]; omega)⟩
            have hsl := (HR1.out.below hb).sl
            obtain ⟨b, off, rfl, _⟩ := hsl.addr (by rw [HN2.out]; omega)
            obtain ⟨d0, d1, d2⟩ := en_at hsl k e hee
            have hep := HTK2.out.pth (List.mem_map_of_mem (List.mem_of_getElem? hee))
            have i0 : (0 : Int) ≤ (k : Int) := by omega
            have i1 : (k : Int) < (n2 : Int) := by omega
            have hj2 : decide (((n1 + k : Nat) : Int) < (n1 : Int)) = false := by rw [decide_eq_false_iff_not]; omega
            have hsub : ((n1 + k : Nat) : Int) - (n1 : Int) = (k : Int) := by omega
            clear hee
            go_wp2_with fail
            go_meet
            exact ⟨e.p, rfl, hep, by first | exact hb | exact drw hb _⟩
        case rest =>
        obtain ⟨s, rfl, hsp, hbc⟩ := hcut
        clear hb
        have hb := hbc
        clear hbc
        obtain ⟨o1, ho1⟩ : ∃ o, tgetE xs s = o := ⟨_, rfl⟩
        obtain ⟨o2, ho2⟩ : ∃ o, tgetE ys s = o := ⟨_, rfl⟩
        have HA := Lib.hid (HGA.out s o1 (Lib.hid ho1))
        have HB := Lib.hid (HGB.out s o2 (Lib.hid ho2))
        have hml := HML.out s hsp
        rw [ho1, ho2] at hml
        obtain ⟨p1, x1, e1, t1, hv1, hw1, hu1⟩ := opt_two o1
        obtain ⟨p2, x2, e2, t2, hv2, hw2, hu2⟩ := opt_two o2
        have heq := opt_same hw1 hu1 hw2 hu2
        rw [hv1] at HA
        rw [hv2] at HB
        obtain ⟨mb, hmb⟩ : ∃ b : Bool, b = true ↔ s ∈ ss5 := ⟨by classical exact decide (s ∈ ss5), by simp⟩
        have HMB : Hid (mb = true ↔ ¬ (t1 = t2 ∧ p1 = p2 ∧ e1 = e2 ∧ x1 = x2)) := by rw [Hid, hmb, hml, heq]
        have HMM := Lib.hid hmb
        clear ho1 ho2 hml hv1 hv2 hw1 hu1 hw2 hu2 heq hmb hsp
        go_wp2_with fail
        refine (HA.out _ (HR0.out.below hb).sl).mono ?_; rintro e V1 ⟨rfl, hq⟩; replace hb := chn hb hq; clear hq HA
        have y0 := new_cell V1 #[.string p1, .bool e1, .string x1] 31 0 _ rfl
        have y1 := new_cell V1 #[.string p1, .bool e1, .string x1] 31 1 _ rfl
        have y2 := new_cell V1 #[.string p1, .bool e1, .string x1] 31 2 _ rfl
        replace hb := hb.alloc hb.size (.cells #[.string p1, .bool e1, .string x1] 31)
        go_wp2_with fail
        refine (HB.out _ (HR1.out.below hb).sl).mono ?_; rintro e V2 ⟨rfl, hq⟩; replace hb := chn hb hq; replace y0 := keepc hq y0; replace y1 := keepc hq y1; replace y2 := keepc hq y2; clear hq HB
        have z0 := new_cell V2 #[.string p2, .bool e2, .string x2] 31 0 _ rfl
        have z1 := new_cell V2 #[.string p2, .bool e2, .string x2] 31 1 _ rfl
        have z2 := new_cell V2 #[.string p2, .bool e2, .string x2] 31 2 _ rfl
        replace y0 := keepc (bellow_alloc V2 (.cells #[.string p2, .bool e2, .string x2] 31)) y0
        replace y1 := keepc (bellow_alloc V2 (.cells #[.string p2, .bool e2, .string x2] 31)) y1
        replace y2 := keepc (bellow_alloc V2 (.cells #[.string p2, .bool e2, .string x2] 31)) y2
        replace hb := hb.alloc hb.size (.cells #[.string p2, .bool e2, .string x2] 31)
        obtain ⟨g1, hg1⟩ : ∃ g, V1.heap.size = g := ⟨_, rfl⟩
        obtain ⟨g2, hg2⟩ : ∃ g, V2.heap.size = g := ⟨_, rfl⟩
        rw [hg1] at y0 y1 y2
        rw [hg2] at z0 z1 z2
        go_upto_region 19 with fail
        (try rw [hg1])
        (try rw [hg2])
        generalize V2.alloc (.cells #[.string p2, .bool e2, .string x2] 31) = V3 at y0 y1 y2 z0 z1 z2 hb ⊢
        clear hg1 hg2
        have HB3 := Lib.hid hb
        have Y0 := Lib.hid y0
        have Y1 := Lib.hid y1
        have Y2 := Lib.hid y2
        have Z0 := Lib.hid z0
        have Z1 := Lib.hid z1
        have Z2 := Lib.hid z2
        clear y0 y1 y2 z0 z1 z2 hb
        go_wp2
        go_loopw [13, 14] (fun hv iv wr => ∃ (l : Nat) (m : Bool), l ≤ n3 ∧ iv = .int .i64 l ∧ hv = .bool m ∧ (m = true ↔ s ∈ ss5.take l) ∧ Below V3.heap.size V3 wr) (fun _ iv _ => n3 - (intOf iv).toNat)
        case atStart => exact ⟨0, false, Nat.zero_le _, rfl, rfl, by simp, Below.refl _ _⟩
        case round =>
          obtain ⟨l, m, hl, rfl, rfl, hm, hb⟩ := hrel
          by_cases hlt3 : l < n3
          · obtain ⟨x, hxx⟩ : ∃ x, ss5[l]? = some x := ⟨_, List.getElem?_eq_getElem (by rw [HN3.out]; exact hlt3)⟩
            have hHS := HSL.out.below (chn HB3.out hb)
            obtain ⟨b, off, rfl, _, hcs⟩ := hHS (by rw [HN3.out]; omega)
            have d0 := hcs l x hxx
            have i0 : (0 : Int) ≤ (l : Int) := by omega
            have i1 : (l : Int) < (n3 : Int) := by omega
            have HTS : Hid (ss5.take (l + 1) = ss5.take l ++ [x]) := by rw [Hid, List.take_add_one, hxx]; rfl
            have HM := Lib.hid hm
            clear hcs hxx hHS hm
            cases m with
            | true =>
              go_wp2
              go_roundw
              case rel => exact ⟨l + 1, true, by omega, by go_num, rfl, by rw [HTS.out, List.mem_append]; simp [HM.out.1 rfl], by first | exact hb | exact drw hb _⟩
              case measure => simp [intOf]; omega
            | false =>
              by_cases he : x = s
              · have hbe := beqs_yes (congrArg (·.data.toList) he)
                clear he
                go_wp2
                go_roundw
                case rel => exact ⟨l + 1, true, by omega, by go_num, rfl, by rw [HTS.out, List.mem_append]; exact ⟨fun _ => .inr (by simp; exact (bytes_eq (by rw [Lib.toList_data, Lib.toList_data] at hbe; simpa using hbe)).symm), fun _ => rfl⟩, by first | exact hb | exact drw hb _⟩
                case measure => simp [intOf]; omega
              · have hbe := beqs_no (fun h => he (bytes_eq h))
                go_wp2
                go_roundw
                case rel => exact ⟨l + 1, false, by omega, by go_num, rfl, by rw [HTS.out, List.mem_append, ← HM.out]; simp; exact fun h => he h.symm, by first | exact hb | exact drw hb _⟩
                case measure => simp [intOf]; omega
          · obtain rfl : l = n3 := by omega
            obtain rfl : m = mb := by
              rw [List.take_of_length_le (by rw [HN3.out]; exact Nat.le_refl _), ← HMM.out] at hm
              cases m <;> cases mb <;> simp_all
            have y0 := keepc hb Y0.out
            have y1 := keepc hb Y1.out
            have y2 := keepc hb Y2.out
            have z0 := keepc hb Z0.out
            have z1 := keepc hb Z1.out
            have z2 := keepc hb Z2.out
            have hbX := chn HB3.out hb
            clear hm hb HMM
            cases m with
            | false =>
              have h4 : t1 = t2 ∧ p1 = p2 ∧ e1 = e2 ∧ x1 = x2 := Classical.byContradiction fun h => by have := HMB.out.2 h; cases this
              obtain ⟨rfl, rfl, rfl, rfl⟩ := h4
              clear HMB
              go_wp2
              go_roundw
              case rel => exact ⟨j + 1, by omega, by go_num, by go_num, by first | exact hbX | exact drw hbX _⟩
              case measure => simp [intOf]; omega
            | true =>
              have HNE := Lib.hid (HMB.out.1 rfl)
              clear HMB
              by_cases f1 : t1 = t2
              · subst f1
                by_cases f2 : p1 = p2
                · subst f2
                  by_cases f3 : e1 = e2
                  · subst f3
                    have q := bq_no (s := x1) (t := x2) (fun h => HNE.out ⟨rfl, rfl, rfl, h⟩)
                    go_wp2
                    go_roundw
                    case rel => exact ⟨j + 1, by omega, by go_num, by go_num, by first | exact hbX | exact drw hbX _⟩
                    case measure => simp [intOf]; omega
                  · have q : (e1 == e2) = false := by rw [beq_eq_false_iff_ne]; exact f3
                    clear f3
                    go_wp2
                    go_roundw
                    case rel => exact ⟨j + 1, by omega, by go_num, by go_num, by first | exact hbX | exact drw hbX _⟩
                    case measure => simp [intOf]; omega
                · have q := bq_no f2
                  clear f2
                  go_wp2
                  go_roundw
                  case rel => exact ⟨j + 1, by omega, by go_num, by go_num, by first | exact hbX | exact drw hbX _⟩
                  case measure => simp [intOf]; omega
              · cases t1
                · cases t2
                  · exact absurd rfl f1
                  · clear f1
                    go_wp2
                    go_roundw
                    case rel => exact ⟨j + 1, by omega, by go_num, by go_num, by first | exact hbX | exact drw hbX _⟩
                    case measure => simp [intOf]; omega
                · cases t2
                  · clear f1
                    go_wp2
                    go_roundw
                    case rel => exact ⟨j + 1, by omega, by go_num, by go_num, by first | exact hbX | exact drw hbX _⟩
                    case measure => simp [intOf]; omega
                  · exact absurd rfl f1
      · obtain rfl : j = n1 + n2 := by omega
        have hbX := HB0.out.trans (hb.mono HB0.out.size)
        have HRX := Lib.hid (HR0.out.below hb)
        have HRY := Lib.hid (HR1.out.below hb)
        have hrr : (rs == rs) = true := by cases rs <;> rfl
        clear hb
        go_wp2_with fail
        refine (HSA.out _ HRX.out.sl HRY.out.sl).mono ?_; rintro e V ⟨rfl, hq⟩; replace hbX := chn hbX hq; clear hq
        have hrs := HRS.out
        go_wp2
        go_ret
        exact ⟨rfl, hbX⟩
end Go.Proofs.YtobbodbkdcbflabDoor
namespace Go.Proofs.YtobbodbkdcbflabDoor
open Go.Op
open Classical in
/-- What LayerDiff tells. -/
noncomputable def tdiffL (a b : List PE) : List PM := if TOk a ∧ TOk b then diffL a b else []
/-- What the program has before it sorts. -/
def rawQ (b : List PE) (Q : List Bs) : List PM := (Q.filterMap (dmark b)).foldl (fun out m => upsR 3 out m.p) (Q.filterMap (dmark b))
theorem tdiff_of_raw {a b : List PE} {s : List PM} (hp : s.Perm (rawQ b (tturn a b))) (hs : s.Pairwise fun a b => bytesLess b.p a.p = false) : s = tdiffL a b := by
  by_cases h : TOk a ∧ TOk b
  · rw [tturn_ok h.1 h.2] at hp
    unfold tdiffL
    rw [if_pos h]
    exact diff_of_raw h.1 h.2 hp hs
  · rw [tturn_bad h] at hp
    unfold tdiffL
    rw [if_neg h]
    exact List.Perm.eq_nil hp
theorem upsL_len (n : Nat) : ∀ (l : List PM) (q : Bs), (upsL n l q).length ≤ l.length + n := by
  induction n with
  | zero => intro l q; exact Nat.le_refl _
  | succ n ih =>
    intro l q
    unfold upsL
    split
    · omega
    · split
      · have h1 := ih (putP PM.p l (updm (upL q))) (upL q)
        have h2 := put_len_le (f := PM.p) l (updm (upL q))
        omega
      · have h1 := ih l (upL q); omega
theorem upsR_len (n : Nat) : ∀ (l : List PM) (q : Bs), (upsR n l q).length ≤ l.length + n := by
  induction n with
  | zero => intro l q; exact Nat.le_refl _
  | succ n ih =>
    intro l q
    unfold upsR
    split
    · omega
    · split
      · have h1 := ih (l ++ [updm (upL q)]) (upL q)
        rw [List.length_append] at h1
        simp only [List.length_singleton] at h1
        omega
      · have h1 := ih l (upL q); omega
theorem tdiff_len (a b : List PE) : (tdiffL a b).length ≤ 200 := by
  unfold tdiffL
  split
  · next h =>
    have key : ∀ (Q : List Bs) (out : List PM), (Q.foldl (fun out q => match dmark b q with | some m => upsL 3 (putP PM.p out m) q | none => out) out).length ≤ out.length + 4 * Q.length := by
      intro Q
      induction Q with
      | nil => intro out; simp
      | cons q r ih =>
        intro out
        rw [List.foldl_cons, List.length_cons]
        refine Nat.le_trans (ih _) ?_
        cases dmark b q with
        | none => simp only; omega
        | some m =>
          have h1 := upsL_len 3 (putP PM.p out m) q
          have h2 := put_len_le (f := PM.p) out m
          simp only
          omega
    have h1 := key (turnedL a b) []
    have h2 := turned_len (a := a) (b := b)
    have h3 := h.1.most
    have h4 := h.2.most
    have h5 : (diffL a b).length ≤ 0 + 4 * (turnedL a b).length := h1
    omega
  · simp
/-- The mark at a path at which the trees differ, as it lies. -/
def dmk (ys : List En) (q : ByteArray) : Option Mk := match getE ys q with
  | some e => some (if e.d then ⟨q, 2, ⟨#[]⟩⟩ else ⟨q, 1, e.x⟩)
  | none => if upCodeL (ys.map En.pl) q.data.toList = 0 then some ⟨q, 3, ⟨#[]⟩⟩ else none
theorem dmk_pl (ys : List En) (q : ByteArray) : dmark (ys.map En.pl) q.data.toList = (dmk ys q).map Mk.pl := by
  unfold dmark dmk
  rw [getE_pl]
  cases getE ys q with
  | none => simp only [Option.map_none]; split <;> rfl
  | some e =>
    obtain ⟨p, d, x⟩ := e
    cases d <;> rfl
theorem take_sl (ss : List ByteArray) (k : Nat) (s : ByteArray) (h : ss[k]? = some s) : (ss.take (k + 1)).map (·.data.toList) = (ss.take k).map (·.data.toList) ++ [s.data.toList] := by
  have hk : k < ss.length := (List.getElem?_eq_some_iff.1 h).1
  have he : ss[k] = s := (List.getElem?_eq_some_iff.1 h).2
  rw [List.take_succ_eq_append_getElem hk, he]
  simp
theorem dmk_snoc (ys : List En) (ss : List ByteArray) (k : Nat) (s : ByteArray) (h : ss[k]? = some s) (ms : List Mk) (hm : ms.map Mk.pl = ((ss.take k).map (·.data.toList)).filterMap (dmark (ys.map En.pl))) :
    (ms ++ (dmk ys s).toList).map Mk.pl = ((ss.take (k + 1)).map (·.data.toList)).filterMap (dmark (ys.map En.pl)) := by
  rw [take_sl ss k s h, List.filterMap_append, List.map_append, hm]
  congr 1
  rw [List.filterMap_cons, dmk_pl]
  cases dmk ys s <;> rfl
theorem dmk_p {ys : List En} {q : ByteArray} {m : Mk} (h : dmk ys q = some m) : m.p = q := by
  unfold dmk at h
  split at h
  · injection h with h; subst h; split <;> rfl
  · split at h
    · injection h with h; subst h; rfl
    · cases h
/-- A text of bytes. -/
theorem str_of20 (l : Bs) : ∃ b : ByteArray, l = b.data.toList := ⟨⟨l.toArray⟩, by simp⟩
theorem up_nil {q : Bs} (h : pathOkL q = false) : upL q = [] := by simp [upL, h]
/-- One step up, while there is one. -/
theorem upsR_step {r : Nat} {l : List PM} {q : Bs} (hq : pathOkL q = true) (hl : levelsL q ≤ r) (hu : upL q ≠ [47]) :
    ∃ r', r = r' + 1 ∧ pathOkL (upL q) = true ∧ levelsL (upL q) ≤ r' ∧ upsR r l q = upsR r' (if atP PM.p l (upL q) = none then l ++ [updm (upL q)] else l) (upL q) := by
  have h1 := levels_up hq
  cases r with
  | zero => omega
  | succ r' => exact ⟨r', rfl, up_path hq hu, by omega, by conv => lhs; unfold upsR; rw [if_neg hu]⟩
theorem upsR_end {r : Nat} {l : List PM} {q : Bs} (hu : upL q = [47]) : upsR r l q = l := by
  cases r with
  | zero => rfl
  | succ r' => unfold upsR; rw [if_pos hu]
end Go.Proofs.YtobbodbkdcbflabDoor
namespace Go.Proofs.YtobbodbkdcbflabDoor
open Go.RowKit
abbrev optM (o : Option Mk) : Value := match o with
  | some e => .tuple #[e.val, .bool true]
  | none => .tuple #[.agg #[.string ⟨#[]⟩, .int .i64 0, .string ⟨#[]⟩], .bool false]
set_option maxHeartbeats 2000000 in
theorem markAt_c (a : Option Addr) (c : Nat) (xs : List Mk) (q : ByteArray) (o : Option Mk) (ho : Hid (getM xs q = o)) (w : World) (hs : SlF Mk.cells w a xs) (hx : xs.length ≤ maxLen) :
    Calls Tryd.prog 62 #[.slice a xs.length c, .string q] w fun r w' => r = .returned (optM o) ∧ Below w.heap.size w w' := by
  obtain ⟨n, hn⟩ : ∃ n, xs.length = n := ⟨_, rfl⟩
  rw [hn] at hx ⊢
  unfold maxLen at hx
  have HN := Lib.hid hn
  obtain ⟨z, hz⟩ : ∃ z, w.alloc (.cells #[.string ⟨#[]⟩, .int .i64 0, .string ⟨#[]⟩] 60) = z := ⟨_, rfl⟩
  have HS := Lib.hid (hs.below (hz ▸ bellow_alloc w _ : Below w.heap.size w z))
  have hzs : z.heap.size = w.heap.size + 1 := by rw [← hz]; simp
  have c0 : z.cell? ⟨w.heap.size, 0, none⟩ = some (.string ⟨#[]⟩) := by rw [← hz]; exact new_cell _ _ _ 0 _ rfl
  have c1 : z.cell? ⟨w.heap.size, 1, none⟩ = some (.int .i64 0) := by rw [← hz]; exact new_cell _ _ _ 1 _ rfl
  have c2 : z.cell? ⟨w.heap.size, 2, none⟩ = some (.string ⟨#[]⟩) := by rw [← hz]; exact new_cell _ _ _ 2 _ rfl
  have hfz : ∀ j, z.frozen? ⟨w.heap.size, j, none⟩ = false := fun j => by rw [← hz]; exact new_free w _ _ j
  have HW := Lib.hid (hz ▸ bellow_alloc w _ : Below w.heap.size w z)
  have HF := Lib.hid hfz
  have HC0 := Lib.hid c0
  have HC1 := Lib.hid c1
  have HC2 := Lib.hid c2
  have HZ := Lib.hid hzs
  clear hn hs hzs c0 c1 c2 hfz
  go_enter Tryd.func62, Tryd.ntmps62
  go_wp2
  clear hz
  go_loopw [7, 10] (fun _ i wr => ∃ k : Nat, k ≤ n ∧ i = .int .i64 k ∧ (∀ (j : Nat) (f : Mk), j < k → xs[j]? = some f → f.p.data.toList ≠ q.data.toList) ∧ Below z.heap.size z wr) (fun _ i _ => n - (intOf i).toNat)
  case atStart => exact ⟨0, Nat.zero_le _, rfl, fun j _ h => absurd h (by omega), Below.refl _ _⟩
  case round =>
    obtain ⟨k, hk, rfl, hall, hb⟩ := hrel
    have HA := Lib.hid hall
    clear hall
    have hlt0 : w.heap.size < wr.heap.size := by have := hb.size; rw [HZ.out] at this; omega
    have g0 := keepc hb HC0.out
    have g1 := keepc hb HC1.out
    have g2 := keepc hb HC2.out
    have f0 := (hb.frozen (p := ⟨w.heap.size, 0, none⟩) (by rw [HZ.out]; simp)).trans (HF.out 0)
    have f1 := (hb.frozen (p := ⟨w.heap.size, 1, none⟩) (by rw [HZ.out]; simp)).trans (HF.out 1)
    have f2 := (hb.frozen (p := ⟨w.heap.size, 2, none⟩) (by rw [HZ.out]; simp)).trans (HF.out 2)
    by_cases hlt : k < n
    · obtain ⟨e, hee⟩ : ∃ e, xs[k]? = some e := ⟨_, List.getElem?_eq_getElem (by rw [HN.out]; exact hlt)⟩
      have h2 := (HS.out.below hb)
      obtain ⟨b, off, rfl, _⟩ := h2.addr (by rw [HN.out]; omega)
      obtain ⟨c0, c1, c2⟩ := mk_at h2 k e hee
      have hg := getM_skip xs q k e hee HA.out
      have HG := Lib.hid hg
      have HEE := Lib.hid hee
      clear h2 hg hee
      by_cases heq : e.p.data.toList = q.data.toList
      · have hq := beqs_yes heq
        obtain rfl : o = some e := by rw [← ho.out, HG.out, if_pos heq]
        clear heq
        go_wp2
        obtain ⟨q0, q1, q2⟩ := three_set wr w.heap.size _ _ _ (.string e.p) (.int .i64 e.k) (.string e.x) g0 g1 g2 (.cells #[.string e.p, .int .i64 e.k, .string e.x] 60)
        refine bodyPost_ret (v := optM (some e)) (by simp [results, Tryd.results62, go_sem, q0, q1, q2]) rfl ⟨rfl, ?_⟩
        have HB := HW.out.trans (hb.mono (by rw [HZ.out]; omega))
        repeat (first | exact HB | refine Below.alloc ?_ (by simp; try omega) _ | refine Below.setCell ?_ (by simp; try omega) _)
      · have hq := beqs_no heq
        have HQ := Lib.hid heq
        clear heq
        go_wp2
        go_roundw
        case rel => exact ⟨k + 1, by omega, by go_num, fun j f hj hf => by
          by_cases ej : j = k
          · subst ej
            rw [HEE.out] at hf
            injection hf with hf
            exact hf ▸ HQ.out
          · exact HA.out j f (by omega) hf, hb.alloc hb.size _⟩
        case measure => simp [intOf]; omega
    · obtain rfl : o = none := by
        rw [← ho.out]
        exact getM_none xs q (fun j f hf => HA.out j f (by have := (List.getElem?_eq_some_iff.1 hf).1; rw [HN.out] at this; omega) hf)
      go_wp2
      refine bodyPost_ret (v := optM none) (by simp [results, Tryd.results62, go_sem, g0, g1, g2]) rfl ⟨rfl, ?_⟩
      have HB := HW.out.trans (hb.mono (by rw [HZ.out]; omega))
      repeat (first | exact HB | refine Below.alloc ?_ (by simp; try omega) _ | refine Below.setCell ?_ (by simp; try omega) _)
/-- What the program asks of the mark at place k. -/
def MAskM (xs : List Mk) (k : Nat) (e : Mk) : Prop := MAskI (xs.map Mk.pl) k e.pl
def MAskR (xs : List Mk) (k : Nat) (e : Mk) : Prop := MAskS (xs.map Mk.pl) k e.pl
theorem lok_M (xs : List Mk) : LOk (xs.map Mk.pl) ↔ xs.length ≤ 32 ∧ ∀ (k : Nat) (e : Mk), xs[k]? = some e → MAskM xs k e := by
  rw [lok_iff, List.length_map]
  constructor
  · rintro ⟨h1, h2⟩
    exact ⟨h1, fun k e he => h2 k e.pl (by simp [he])⟩
  · rintro ⟨h1, h2⟩
    refine ⟨h1, fun k e he => ?_⟩
    rw [List.getElem?_map, Option.map_eq_some_iff] at he
    obtain ⟨f, hf, rfl⟩ := he
    exact h2 k f hf
theorem lok_R (xs : List Mk) : LOk (xs.map Mk.pl) ↔ xs.length ≤ 32 ∧ ∀ (k : Nat) (e : Mk), xs[k]? = some e → MAskR xs k e := by
  rw [lok_iffS, List.length_map]
  constructor
  · rintro ⟨h1, h2⟩
    exact ⟨h1, fun k e he => h2 k e.pl (by simp [he])⟩
  · rintro ⟨h1, h2⟩
    refine ⟨h1, fun k e he => ?_⟩
    rw [List.getElem?_map, Option.map_eq_some_iff] at he
    obtain ⟨f, hf, rfl⟩ := he
    exact h2 k f hf
theorem lok_dec (xs : List Mk) : ∃ r : Bool, r = true ↔ LOk (xs.map Mk.pl) := ⟨by classical exact decide (LOk (xs.map Mk.pl)), by simp⟩
theorem mless_of (xs : List Mk) (k : Nat) (f e : Mk) (hf : xs[k]? = some f) (h2 : Op.bytesLess f.p.toList e.p.toList = true) : ∀ g, 0 < k + 1 → (xs.map Mk.pl)[k + 1 - 1]? = some g → Op.bytesLess g.p e.pl.p = true := by
  intro g _ hg
  rw [Nat.add_sub_cancel, List.getElem?_map, hf] at hg
  injection hg with hg
  rw [← hg]
  rw [less_of'] at h2
  exact h2
theorem mless_at (xs : List Mk) (k : Nat) (f e : Mk) (hf : xs[k]? = some f) (h : ∀ g, 0 < k + 1 → (xs.map Mk.pl)[k + 1 - 1]? = some g → Op.bytesLess g.p e.pl.p = true) : Op.bytesLess f.p.toList e.p.toList = true := by
  have := h f.pl (by omega) (by rw [Nat.add_sub_cancel, List.getElem?_map, hf]; rfl)
  rw [less_of']
  exact this
theorem upM_G (xs : List Mk) (q u : ByteArray) (hu : upL q.data.toList = u.data.toList) (hr : u.data.toList ≠ [47]) : upM (xs.map Mk.pl) q.data.toList = match getM xs u with
    | some m => dirM m.pl
    | none => false := by
  unfold upM
  rw [hu, getM_pl]
  have : (u.data.toList == [47]) = false := by simpa using hr
  rw [this, Bool.false_or]
  cases getM xs u <;> rfl
theorem upM_root (l : List PM) (q : Bs) (hu : upL q = [47]) : upM l q = true := by unfold upM; rw [hu]; rfl
set_option maxRecDepth 100000 in
set_option maxHeartbeats 8000000 in
theorem layerOk_c (a : Option Addr) (c : Nat) (xs : List Mk) (r : Bool) (hr : Hid (r = true ↔ LOk (xs.map Mk.pl))) (w : World) (hs : SlF Mk.cells w a xs) (hx : xs.length ≤ maxLen) (hz : ∀ e ∈ xs, e.p.size ≤ 2000000 ∧ e.x.size ≤ 2000000) :
    Calls Tryd.prog 33 #[.slice a xs.length c] w fun q w' => q = .returned (.bool r) ∧ Below w.heap.size w w' := by
  have hR : Hid (r = true ↔ xs.length ≤ 32 ∧ ∀ (k : Nat) (e : Mk), xs[k]? = some e → MAskM xs k e) := by rw [Hid, hr.out, lok_M]
  have HM := fun (q : ByteArray) (o : Option Mk) (ho : Hid (getM xs q = o)) (W : World) (h : SlF Mk.cells W a xs) => Lib.hid (markAt_c a c xs q o ho W h hx)
  have HB := fun (q : ByteArray) (hq : q.size ≤ 2000000) (v : Bool) (hv : Hid (bareL (xs.map Mk.pl) q.data.toList = v)) => Lib.hid (fun (W : World) (h : SlF Mk.cells W a xs) => Lib.hid (belowBare_c a c xs q v hv W h hx hq hz))
  have HZ := Lib.hid hz
  have HS := Lib.hid hs
  obtain ⟨n, hn⟩ : ∃ n, xs.length = n := ⟨_, rfl⟩
  have HN := Lib.hid hn
  rw [hn] at hR hx HM HB ⊢
  unfold maxLen at hx
  have GM := Lib.hid HM
  have GB0 := Lib.hid HB
  clear hn hz hs hr HM HB
  by_cases h16 : 32 < n
  · obtain rfl : r = false := by
      cases r
      · rfl
      · have := hR.out.1 rfl; omega
    go_enter Tryd.func33, Tryd.ntmps33
    go_wp2
    go_ret
    exact ⟨rfl, Below.refl _ _⟩
  have hno : Hid (∀ (k : Nat) (e : Mk), xs[k]? = some e → ¬ MAskM xs k e → r = false) := fun k e he hne => by
    cases r
    · rfl
    · exact absurd ((hR.out.1 rfl).2 k e he) hne
  go_enter Tryd.func33, Tryd.ntmps33
  go_wp2
  go_loopw [3, 4, 5, 6, 7, 13] (fun _ _ _ _ _ i wr => ∃ k : Nat, k ≤ n ∧ i = .int .i64 k ∧ (∀ (j : Nat) (e : Mk), j < k → xs[j]? = some e → MAskM xs j e) ∧ Below w.heap.size w wr) (fun _ _ _ _ _ i _ => n - (intOf i).toNat)
  case atStart => exact ⟨0, Nat.zero_le _, rfl, fun j _ h => absurd h (by omega), Below.refl _ _⟩
  case round =>
    obtain ⟨k, hk, rfl, hall, hb⟩ := hrel
    have HA := Lib.hid hall
    clear hall
    by_cases hlt : k < n
    · obtain ⟨e, hee⟩ : ∃ e, xs[k]? = some e := ⟨_, List.getElem?_eq_getElem (by rw [HN.out]; exact hlt)⟩
      have h2 := (HS.out.below hb)
      obtain ⟨b, off, rfl, _⟩ := h2.addr (by rw [HN.out]; omega)
      obtain ⟨d0, d1, d2⟩ := mk_at h2 k e hee
      have hzz := HZ.out e (List.mem_of_getElem? hee)
      have HNO := Lib.hid (fun h => hno.out k e hee h)
      have HEE := Lib.hid hee
      have h3 := h2
      clear h2 hee
      obtain ⟨ep, ek, ex⟩ := e
      have hz1 : ep.size ≤ maxLen := Nat.le_trans hzz.1 (by unfold maxLen; omega)
      have hz2 : ex.size ≤ maxLen := Nat.le_trans hzz.2 (by unfold maxLen; omega)
      have HZ1 := Lib.hid hz1
      have HZ2 := Lib.hid hz2
      have GB := Lib.hid (fun v hv => GB0.out ep hzz.1 v hv)
      obtain ⟨u, hu, hus⟩ := up_str20 ep
      clear hzz hz1 hz2
      have c0 := new_cell wr #[.string ep, .int .i64 ek, .string ex] 60 0 _ rfl
      have c1 := new_cell wr #[.string ep, .int .i64 ek, .string ex] 60 1 _ rfl
      have c2 := new_cell wr #[.string ep, .int .i64 ek, .string ex] 60 2 _ rfl
      replace hb := hb.alloc hb.size (.cells #[.string ep, .int .i64 ek, .string ex] 60)
      obtain ⟨p1, hp1⟩ : ∃ x, markOkL (Mk.pl ⟨ep, ek, ex⟩) = x := ⟨_, rfl⟩
      have H1 := Lib.hid hp1
      clear hp1
      cases p1 with
      | false =>
        obtain rfl : r = false := HNO.out (fun h => by have := h.1; rw [H1.out] at this; cases this)
        go_wp2_with fail
        refine (markOk_c ⟨ep, ek, ex⟩ false H1 _ HZ1.out HZ2.out).mono ?_; rintro e W ⟨rfl, hq⟩; replace hb := chn hb hq; clear hq
        go_wp2
        go_ret
        exact ⟨rfl, hb⟩
      | true =>
      have hkk : 1 ≤ ek ∧ ek ≤ 4 := markOk_kind H1.out
      have HKK := Lib.hid hkk
      clear hkk
      cases k with
      | zero =>
        rw [Nat.zero_mul, Nat.add_zero] at d0 d1 d2
        have ASK := Lib.hid (fun (h3 : upM (xs.map Mk.pl) ep.data.toList = true) (h4 : 2 < ek → bareL (xs.map Mk.pl) ep.data.toList = false) (j : Nat) (g : Mk) (hj : j < 0 + 1) (hg : xs[j]? = some g) => (by
          have ej : j = 0 := by omega
          subst ej
          rw [HEE.out] at hg
          injection hg with hg
          rw [← hg]
          exact ⟨H1.out, fun _ h _ => absurd h (by omega), h3, h4⟩ : MAskM xs j g))
        clear h3
        go_wp2_with fail
        refine (markOk_c ⟨ep, ek, ex⟩ true H1 _ HZ1.out HZ2.out).mono ?_; rintro e W ⟨rfl, hq⟩; replace hb := chn hb hq; replace c0 := keepc hq c0; replace c1 := keepc hq c1; replace c2 := keepc hq c2; clear hq
        go_wp2_with fail
        go_quiet (fail)
        go_wp2_with fail
        refine (pathUp_c ep u hu _ HZ1.out).mono ?_; rintro e W ⟨rfl, hq⟩; replace hb := chn (drw hb _) hq; replace c0 := keepc hq c0; replace c1 := keepc hq c1; replace c2 := keepc hq c2; clear hq
        by_cases hrt : u.data.toList = [47]
        · have q2 := beq_yes hrt
          have HUP := Lib.hid (upM_root (xs.map Mk.pl) ep.data.toList (hu.out.trans hrt))
          clear hrt
          by_cases k3 : 2 < ek
          · obtain ⟨v, hv⟩ : ∃ v, bareL (xs.map Mk.pl) ep.data.toList = v := ⟨_, rfl⟩
            have HV := Lib.hid hv
            clear hv
            have HBB := GB.out v HV
            rcases (by have := HKK.out; omega : ek = 3 ∨ ek = 4) with hek | hek <;> subst hek
            all_goals
              go_wp2_with fail
              refine (HBB.out _ (HS.out.below hb)).out.mono ?_; rintro e' W' ⟨rfl, hq⟩; replace hb := chn hb hq; clear hq
              cases v with
              | true =>
                obtain rfl : r = false := HNO.out (fun h => by have := h.2.2.2 k3; rw [show (Mk.pl ⟨ep, _, ex⟩).p = ep.data.toList from rfl, HV.out] at this; cases this)
                go_wp2
                go_ret
                exact ⟨rfl, by repeat (first | exact hb | refine Below.alloc ?_ (by have := hb.size; simp; try omega) _)⟩
              | false =>
                go_wp2
                go_roundw
                case rel => exact ⟨(0+1), by omega, by go_num, ASK.out HUP.out (fun _ => HV.out), by repeat (first | exact hb | refine Below.alloc ?_ (by have := hb.size; simp; try omega) _)⟩
                case measure => simp [intOf]; omega
          · have n3 : (ek == 3) = false := by rw [beq_eq_false_iff_ne]; omega
            have n4 : (ek == 4) = false := by rw [beq_eq_false_iff_ne]; omega
            go_wp2
            go_roundw
            case rel => exact ⟨(0+1), by omega, by go_num, ASK.out HUP.out (fun h => (by exfalso; omega)), by repeat (first | exact hb | refine Below.alloc ?_ (by have := hb.size; simp; try omega) _)⟩
            case measure => simp [intOf]; omega
        · have q2 := beq_no hrt
          have HUP := Lib.hid (upM_G xs ep u hu.out hrt)
          clear hrt
          obtain ⟨o, ho⟩ : ∃ o, getM xs u = o := ⟨_, rfl⟩
          have HO := Lib.hid ho
          clear ho
          go_wp2_with fail
          refine ((GM.out u o HO _ (HS.out.below hb)).out).mono ?_; rintro e W ⟨rfl, hq⟩; replace hb := chn hb hq; replace c0 := keepc hq c0; replace c1 := keepc hq c1; replace c2 := keepc hq c2; clear hq
          cases o with
          | none =>
            obtain rfl : r = false := HNO.out (fun h => by have h := h.2.2.1; rw [show (Mk.pl ⟨ep, ek, ex⟩).p = ep.data.toList from rfl, HUP.out, HO.out] at h; cases h)
            go_wp2
            go_ret
            exact ⟨rfl, by repeat (first | exact hb | refine Below.alloc ?_ (by have := hb.size; simp; try omega) _)⟩
          | some f =>
            obtain ⟨v, hv⟩ : ∃ v, dirM f.pl = v := ⟨_, rfl⟩
            have HV := Lib.hid hv
            clear hv
            obtain ⟨fp, fk, fx⟩ := f
            replace hb := hb.alloc hb.size (.cells #[.string fp, .int .i64 fk, .string fx] 60); replace c0 := keepc (bellow_alloc _ (.cells #[.string fp, .int .i64 fk, .string fx] 60)) c0; replace c1 := keepc (bellow_alloc _ (.cells #[.string fp, .int .i64 fk, .string fx] 60)) c1; replace c2 := keepc (bellow_alloc _ (.cells #[.string fp, .int .i64 fk, .string fx] 60)) c2; 
            go_wp2_with fail
            refine (isDir_c ⟨fp, fk, fx⟩ v HV _).mono ?_; rintro e W ⟨rfl, hq⟩; replace hb := chn hb hq; replace c0 := keepc hq c0; replace c1 := keepc hq c1; replace c2 := keepc hq c2; clear hq
            cases v with
            | false =>
              obtain rfl : r = false := HNO.out (fun h => by have h := h.2.2.1; rw [show (Mk.pl ⟨ep, ek, ex⟩).p = ep.data.toList from rfl, HUP.out, HO.out] at h; exact absurd (h.symm.trans HV.out) (by simp))
              go_wp2
              go_ret
              exact ⟨rfl, by repeat (first | exact hb | refine Below.alloc ?_ (by have := hb.size; simp; try omega) _)⟩
            | true =>
              have HUQ : Hid (upM (xs.map Mk.pl) ep.data.toList = true) := by rw [Hid, HUP.out, HO.out]; exact HV.out
              clear HV HO HUP
              by_cases k3 : 2 < ek
              · obtain ⟨v, hv⟩ : ∃ v, bareL (xs.map Mk.pl) ep.data.toList = v := ⟨_, rfl⟩
                have HV := Lib.hid hv
                clear hv
                have HBB := GB.out v HV
                rcases (by have := HKK.out; omega : ek = 3 ∨ ek = 4) with hek | hek <;> subst hek
                all_goals
                  go_wp2_with fail
                  refine (HBB.out _ (HS.out.below hb)).out.mono ?_; rintro e' W' ⟨rfl, hq⟩; replace hb := chn hb hq; clear hq
                  cases v with
                  | true =>
                    obtain rfl : r = false := HNO.out (fun h => by have := h.2.2.2 k3; rw [show (Mk.pl ⟨ep, _, ex⟩).p = ep.data.toList from rfl, HV.out] at this; cases this)
                    go_wp2
                    go_ret
                    exact ⟨rfl, by repeat (first | exact hb | refine Below.alloc ?_ (by have := hb.size; simp; try omega) _)⟩
                  | false =>
                    go_wp2
                    go_roundw
                    case rel => exact ⟨(0+1), by omega, by go_num, ASK.out HUQ.out (fun _ => HV.out), by repeat (first | exact hb | refine Below.alloc ?_ (by have := hb.size; simp; try omega) _)⟩
                    case measure => simp [intOf]; omega
              · have n3 : (ek == 3) = false := by rw [beq_eq_false_iff_ne]; omega
                have n4 : (ek == 4) = false := by rw [beq_eq_false_iff_ne]; omega
                go_wp2
                go_roundw
                case rel => exact ⟨(0+1), by omega, by go_num, ASK.out HUQ.out (fun h => (by exfalso; omega)), by repeat (first | exact hb | refine Below.alloc ?_ (by have := hb.size; simp; try omega) _)⟩
                case measure => simp [intOf]; omega
      | succ k =>
        obtain ⟨f, hff⟩ : ∃ f, xs[k]? = some f := ⟨_, List.getElem?_eq_getElem (by rw [HN.out]; omega)⟩
        obtain ⟨c3, _, _⟩ := mk_at h3 k f hff
        replace c3 := keepc (bellow_alloc wr (.cells #[.string ep, .int .i64 ek, .string ex] 60)) c3
        have HFF := Lib.hid hff
        clear hff h3
        rcases Bool.eq_false_or_eq_true (Op.bytesLess f.p.toList ep.toList) with hle | hle
        · have HLE := Lib.hid hle
          have ASK := Lib.hid (fun (h3 : upM (xs.map Mk.pl) ep.data.toList = true) (h4 : 2 < ek → bareL (xs.map Mk.pl) ep.data.toList = false) (j : Nat) (g : Mk) (hj : j < k + 1 + 1) (hg : xs[j]? = some g) => (by
            by_cases ej : j = k + 1
            · subst ej
              rw [HEE.out] at hg
              injection hg with hg
              rw [← hg]
              exact ⟨H1.out, mless_of xs k f ⟨ep, ek, ex⟩ HFF.out HLE.out, h3, h4⟩
            · exact HA.out j g (by omega) hg : MAskM xs j g))
          go_wp2_with fail
          refine (markOk_c ⟨ep, ek, ex⟩ true H1 _ HZ1.out HZ2.out).mono ?_; rintro e W ⟨rfl, hq⟩; replace hb := chn hb hq; replace c0 := keepc hq c0; replace c1 := keepc hq c1; replace c2 := keepc hq c2; replace c3 := keepc hq c3; clear hq
          go_wp2_with fail
          go_quiet (fail)
          clear hle c3
          go_wp2_with fail
          refine (pathUp_c ep u hu _ HZ1.out).mono ?_; rintro e W ⟨rfl, hq⟩; replace hb := chn (drw hb _) hq; replace c0 := keepc hq c0; replace c1 := keepc hq c1; replace c2 := keepc hq c2; clear hq
          by_cases hrt : u.data.toList = [47]
          · have q2 := beq_yes hrt
            have HUP := Lib.hid (upM_root (xs.map Mk.pl) ep.data.toList (hu.out.trans hrt))
            clear hrt
            by_cases k3 : 2 < ek
            · obtain ⟨v, hv⟩ : ∃ v, bareL (xs.map Mk.pl) ep.data.toList = v := ⟨_, rfl⟩
              have HV := Lib.hid hv
              clear hv
              have HBB := GB.out v HV
              rcases (by have := HKK.out; omega : ek = 3 ∨ ek = 4) with hek | hek <;> subst hek
              all_goals
                go_wp2_with fail
                refine (HBB.out _ (HS.out.below hb)).out.mono ?_; rintro e' W' ⟨rfl, hq⟩; replace hb := chn hb hq; clear hq
                cases v with
                | true =>
                  obtain rfl : r = false := HNO.out (fun h => by have := h.2.2.2 k3; rw [show (Mk.pl ⟨ep, _, ex⟩).p = ep.data.toList from rfl, HV.out] at this; cases this)
                  go_wp2
                  go_ret
                  exact ⟨rfl, by repeat (first | exact hb | refine Below.alloc ?_ (by have := hb.size; simp; try omega) _)⟩
                | false =>
                  go_wp2
                  go_roundw
                  case rel => exact ⟨(k+1+1), by omega, by go_num, ASK.out HUP.out (fun _ => HV.out), by repeat (first | exact hb | refine Below.alloc ?_ (by have := hb.size; simp; try omega) _)⟩
                  case measure => simp [intOf]; omega
            · have n3 : (ek == 3) = false := by rw [beq_eq_false_iff_ne]; omega
              have n4 : (ek == 4) = false := by rw [beq_eq_false_iff_ne]; omega
              go_wp2
              go_roundw
              case rel => exact ⟨(k+1+1), by omega, by go_num, ASK.out HUP.out (fun h => (by exfalso; omega)), by repeat (first | exact hb | refine Below.alloc ?_ (by have := hb.size; simp; try omega) _)⟩
              case measure => simp [intOf]; omega
          · have q2 := beq_no hrt
            have HUP := Lib.hid (upM_G xs ep u hu.out hrt)
            clear hrt
            obtain ⟨o, ho⟩ : ∃ o, getM xs u = o := ⟨_, rfl⟩
            have HO := Lib.hid ho
            clear ho
            go_wp2_with fail
            refine ((GM.out u o HO _ (HS.out.below hb)).out).mono ?_; rintro e W ⟨rfl, hq⟩; replace hb := chn hb hq; replace c0 := keepc hq c0; replace c1 := keepc hq c1; replace c2 := keepc hq c2; clear hq
            cases o with
            | none =>
              obtain rfl : r = false := HNO.out (fun h => by have h := h.2.2.1; rw [show (Mk.pl ⟨ep, ek, ex⟩).p = ep.data.toList from rfl, HUP.out, HO.out] at h; cases h)
              go_wp2
              go_ret
              exact ⟨rfl, by repeat (first | exact hb | refine Below.alloc ?_ (by have := hb.size; simp; try omega) _)⟩
            | some f =>
              obtain ⟨v, hv⟩ : ∃ v, dirM f.pl = v := ⟨_, rfl⟩
              have HV := Lib.hid hv
              clear hv
              obtain ⟨fp, fk, fx⟩ := f
              replace hb := hb.alloc hb.size (.cells #[.string fp, .int .i64 fk, .string fx] 60); replace c0 := keepc (bellow_alloc _ (.cells #[.string fp, .int .i64 fk, .string fx] 60)) c0; replace c1 := keepc (bellow_alloc _ (.cells #[.string fp, .int .i64 fk, .string fx] 60)) c1; replace c2 := keepc (bellow_alloc _ (.cells #[.string fp, .int .i64 fk, .string fx] 60)) c2; 
              go_wp2_with fail
              refine (isDir_c ⟨fp, fk, fx⟩ v HV _).mono ?_; rintro e W ⟨rfl, hq⟩; replace hb := chn hb hq; replace c0 := keepc hq c0; replace c1 := keepc hq c1; replace c2 := keepc hq c2; clear hq
              cases v with
              | false =>
                obtain rfl : r = false := HNO.out (fun h => by have h := h.2.2.1; rw [show (Mk.pl ⟨ep, ek, ex⟩).p = ep.data.toList from rfl, HUP.out, HO.out] at h; exact absurd (h.symm.trans HV.out) (by simp))
                go_wp2
                go_ret
                exact ⟨rfl, by repeat (first | exact hb | refine Below.alloc ?_ (by have := hb.size; simp; try omega) _)⟩
              | true =>
                have HUQ : Hid (upM (xs.map Mk.pl) ep.data.toList = true) := by rw [Hid, HUP.out, HO.out]; exact HV.out
                clear HV HO HUP
                by_cases k3 : 2 < ek
                · obtain ⟨v, hv⟩ : ∃ v, bareL (xs.map Mk.pl) ep.data.toList = v := ⟨_, rfl⟩
                  have HV := Lib.hid hv
                  clear hv
                  have HBB := GB.out v HV
                  rcases (by have := HKK.out; omega : ek = 3 ∨ ek = 4) with hek | hek <;> subst hek
                  all_goals
                    go_wp2_with fail
                    refine (HBB.out _ (HS.out.below hb)).out.mono ?_; rintro e' W' ⟨rfl, hq⟩; replace hb := chn hb hq; clear hq
                    cases v with
                    | true =>
                      obtain rfl : r = false := HNO.out (fun h => by have := h.2.2.2 k3; rw [show (Mk.pl ⟨ep, _, ex⟩).p = ep.data.toList from rfl, HV.out] at this; cases this)
                      go_wp2
                      go_ret
                      exact ⟨rfl, by repeat (first | exact hb | refine Below.alloc ?_ (by have := hb.size; simp; try omega) _)⟩
                    | false =>
                      go_wp2
                      go_roundw
                      case rel => exact ⟨(k+1+1), by omega, by go_num, ASK.out HUQ.out (fun _ => HV.out), by repeat (first | exact hb | refine Below.alloc ?_ (by have := hb.size; simp; try omega) _)⟩
                      case measure => simp [intOf]; omega
                · have n3 : (ek == 3) = false := by rw [beq_eq_false_iff_ne]; omega
                  have n4 : (ek == 4) = false := by rw [beq_eq_false_iff_ne]; omega
                  go_wp2
                  go_roundw
                  case rel => exact ⟨(k+1+1), by omega, by go_num, ASK.out HUQ.out (fun h => (by exfalso; omega)), by repeat (first | exact hb | refine Below.alloc ?_ (by have := hb.size; simp; try omega) _)⟩
                  case measure => simp [intOf]; omega
        · obtain rfl : r = false := HNO.out (fun h => by have := mless_at xs k f ⟨ep, ek, ex⟩ HFF.out h.2.1; rw [hle] at this; cases this)
          go_wp2_with fail
          refine (markOk_c ⟨ep, ek, ex⟩ true H1 _ HZ1.out HZ2.out).mono ?_; rintro e W ⟨rfl, hq⟩; replace hb := chn hb hq; replace c0 := keepc hq c0; replace c1 := keepc hq c1; replace c2 := keepc hq c2; replace c3 := keepc hq c3; clear hq
          go_wp2_with fail
          go_quiet (fail)
          go_wp2
          go_ret
          exact ⟨rfl, drw hb _⟩
    · obtain rfl : r = true := hR.out.2 ⟨by omega, fun j e he => HA.out j e (by have := (List.getElem?_eq_some_iff.1 he).1; rw [HN.out] at this; omega) he⟩
      go_wp2
      go_ret
      exact ⟨rfl, hb⟩
end Go.Proofs.YtobbodbkdcbflabDoor
namespace Go.Proofs.YtobbodbkdcbflabDoor
open Go.RowKit
/-- A row of marks of the call's own that reads as l. -/
def MadeMs (l : List PM) (w : World) (e : Ending) (w' : World) : Prop :=
  ∃ (a : Option Addr) (c : Nat) (ms : List Mk), e = .returned (.slice a ms.length c) ∧ ms.map Mk.pl = l ∧ OwnMk w' w.heap.size (.slice a ms.length c) ms ∧ Below w.heap.size w w'
theorem madeMs_of {w0 w : World} {B : Nat} {v : Value} {ms : List Mk} {l : List PM} (hl : ms.map Mk.pl = l) (h : w.ownsRow B 60 3 v ms.length (ms.flatMap Mk.cells)) (hB : w0.heap.size ≤ B) (hb : Below w0.heap.size w0 w) : MadeMs l w0 (.returned v) w := by
  rcases h.2 with ⟨rfl, h1⟩ | ⟨g, cap, cur, rfl, hg, hh, hnc, hm, h2, h3⟩
  · refine ⟨none, 0, ms, by rw [h1], hl, ?_, hb⟩
    refine ⟨h.1, .inl ⟨by rw [h1], h1⟩⟩
  · exact ⟨_, cap, ms, rfl, hl, ⟨h.1, .inr ⟨g, cap, cur, rfl, Nat.le_trans hB hg, hh, hnc, hm, h2, h3⟩⟩, hb⟩
theorem take_ml (xs : List Mk) (k : Nat) (e : Mk) (he : xs[k]? = some e) : (xs.take (k + 1)).map Mk.pl = (xs.take k).map Mk.pl ++ [e.pl] := by
  have h1 := List.take_succ_eq_append_getElem (l := xs) (i := k) (List.getElem?_eq_some_iff.1 he).1
  rw [(List.getElem?_eq_some_iff.1 he).2] at h1
  rw [h1, List.map_append]; rfl
theorem flat_mk (xs : List Mk) (e : Mk) : xs.flatMap Mk.cells ++ (#[.string e.p, .int .i64 e.k, .string e.x] : Array Value).toList = (xs ++ [e]).flatMap Mk.cells := by simp [Mk.cells]
/-- What is kept of the lower layer. -/
def keptM (a b : List PM) : List PM := b.filter fun m => (atP PM.p a m.p).isNone && !hidesL a m.p
theorem kept_snoc (a b : List PM) (m : PM) : keptM a (b ++ [m]) = keptM a b ++ if (atP PM.p a m.p).isNone && !hidesL a m.p then [m] else [] := by
  unfold keptM
  rw [List.filter_append]
  congr 1
  rw [List.filter_cons]
  split <;> simp_all
theorem kept_len (a b : List PM) : (keptM a b).length ≤ b.length := by unfold keptM; exact List.length_filter_le _ _
theorem joinRaw_eq (a b : List PM) : joinRaw a b = keptM a b ++ a.map (bothM b) := rfl
/-- A mark of the upper layer on what the lower one has there. -/
def bothK (o : Option Mk) (e : Mk) : Mk := if e.k = 2 then (match o with
  | some u => if u.k = 2 then e else ⟨e.p, 4, e.x⟩
  | none => e) else e
theorem both_pl (ys : List Mk) (e : Mk) : bothM (ys.map Mk.pl) e.pl = (bothK (getM ys e.p) e).pl := by
  unfold bothM bothK
  rw [show atP PM.p (ys.map Mk.pl) e.pl.p = (getM ys e.p).map Mk.pl from getM_pl ys e.p]
  by_cases h : e.k = 2
  · rw [if_pos (show e.pl.k = 2 from h), if_pos h]
    cases getM ys e.p with
    | none => rfl
    | some u =>
      show (if u.k = 2 then e.pl else _) = _
      show _ = (if u.k = 2 then e else (⟨e.p, 4, e.x⟩ : Mk)).pl
      by_cases h2 : u.k = 2
      · rw [if_pos h2, if_pos h2]
      · rw [if_neg h2, if_neg h2]; rfl
  · rw [if_neg (show ¬ e.pl.k = 2 from h), if_neg h]
set_option maxRecDepth 100000 in
set_option maxHeartbeats 8000000 in
theorem joinMarks_c (a a' : Option Addr) (c c' : Nat) (xs ys : List Mk) (w : World) (hs : SlF Mk.cells w a xs) (hs' : SlF Mk.cells w a' ys) (hx : xs.length ≤ 32) (hy : ys.length ≤ 32) (hz : ∀ e ∈ xs, e.p.size ≤ 2000000 ∧ e.x.size ≤ 2000000) (hz' : ∀ e ∈ ys, e.p.size ≤ 2000000 ∧ e.x.size ≤ 2000000) :
    Calls Tryd.prog 34 #[.slice a xs.length c, .slice a' ys.length c'] w (MadeMs (joinRaw (xs.map Mk.pl) (ys.map Mk.pl)) w) := by
  have HE := eltMk
  have HB0 := Lib.hid (Below.refl w.heap.size w)
  have hm32 : (32 : Nat) ≤ maxLen := by unfold maxLen; omega
  have GA := fun (q : ByteArray) (o : Option Mk) (ho : Hid (getM xs q = o)) W (h : SlF Mk.cells W a xs) => Lib.hid (markAt_c a c xs q o ho W h (Nat.le_trans hx hm32))
  have GH := fun (q : ByteArray) (hq : q.size ≤ 2000000) (r : Bool) (hr : Hid (hidesL (xs.map Mk.pl) q.data.toList = r)) W (h : SlF Mk.cells W a xs) => Lib.hid (hides_c a c xs q r hr W h (Nat.le_trans hx hm32) hq hz)
  have GB := fun (q : ByteArray) (o : Option Mk) (ho : Hid (getM ys q = o)) W (h : SlF Mk.cells W a' ys) => Lib.hid (markAt_c a' c' ys q o ho W h (Nat.le_trans hy hm32))
  obtain ⟨n, hn⟩ : ∃ n, xs.length = n := ⟨_, rfl⟩
  obtain ⟨n', hn'⟩ : ∃ n, ys.length = n := ⟨_, rfl⟩
  have HN := Lib.hid hn
  have HN' := Lib.hid hn'
  have HZ := Lib.hid hz
  have HZ' := Lib.hid hz'
  have HS := Lib.hid hs
  have HS' := Lib.hid hs'
  have HALL : Hid (xs.take n = xs) := by rw [Hid, ← hn, List.take_length]
  have HALL' : Hid (ys.take n' = ys) := by rw [Hid, ← hn', List.take_length]
  rw [hn] at hx GA GH ⊢
  rw [hn'] at hy GB ⊢
  have HGA := Lib.hid GA
  have HGH := Lib.hid GH
  have HGB := Lib.hid GB
  clear hn hn' hs hs' hz hz' GA GH GB hm32
  go_enter Tryd.func34, Tryd.ntmps34
  go_wp2
  go_loopw [5, 16] (fun v i wr => ∃ (k : Nat) (ms : List Mk), k ≤ n' ∧ ms.length ≤ k ∧ i = .int .i64 k ∧ ms.map Mk.pl = keptM (xs.map Mk.pl) ((ys.take k).map Mk.pl) ∧ wr.ownsRow w.heap.size 60 3 v ms.length (ms.flatMap Mk.cells) ∧ Below w.heap.size w wr) (fun _ i _ => n' - (intOf i).toNat)
  case atStart => exact ⟨0, [], Nat.zero_le _, Nat.zero_le _, rfl, rfl, World.ownsRow_nil _ _ _ _, HB0.out⟩
  case round =>
    obtain ⟨k, ms, hk, hml, rfl, hms, hown, hb⟩ := hrel
    have HMS := Lib.hid hms
    clear hms
    by_cases hlt : k < n'
    · obtain ⟨e, hee⟩ : ∃ e, ys[k]? = some e := ⟨_, List.getElem?_eq_getElem (by rw [HN'.out]; exact hlt)⟩
      have hzz := HZ'.out e (List.mem_of_getElem? hee)
      have hsx := HS.out.below hb
      have hsy := HS'.out.below hb
      obtain ⟨b', off', rfl, _⟩ := hsy.addr (by rw [HN'.out]; omega)
      obtain ⟨d0, d1, d2⟩ := mk_at hsy k e hee
      have HSN : Hid (keptM (xs.map Mk.pl) ((ys.take (k + 1)).map Mk.pl) = keptM (xs.map Mk.pl) ((ys.take k).map Mk.pl) ++ if ((getM xs e.p).map Mk.pl).isNone && !hidesL (xs.map Mk.pl) e.p.data.toList then [e.pl] else []) := by
        rw [Hid, take_ml ys k e hee, kept_snoc]; show _ ++ (if (atP PM.p (xs.map Mk.pl) e.p.data.toList).isNone && _ then _ else _) = _; rw [getM_pl]; rfl
      obtain ⟨o, ho⟩ : ∃ o, Hid (getM xs e.p = o) := ⟨_, rfl⟩
      obtain ⟨r, hr⟩ : ∃ r, Hid (hidesL (xs.map Mk.pl) e.p.data.toList = r) := ⟨_, rfl⟩
      rw [ho.out, hr.out] at HSN
      obtain ⟨ep, ek, ex⟩ := e
      clear hee
      have i0 : (0 : Int) ≤ (k : Int) := by omega
      have i1 : (k : Int) < (n' : Int) := by omega
      cases o with
      | some u =>
        have HSM : Hid (ms.map Mk.pl = keptM (xs.map Mk.pl) ((ys.take (k + 1)).map Mk.pl)) := by rw [Hid, HSN.out, HMS.out]; simp
        have q0 := new_cell wr #[.string ep, .int .i64 ek, .string ex] 60 0 (.string ep) rfl
        have q1 := new_cell wr #[.string ep, .int .i64 ek, .string ex] 60 1 (.int .i64 ek) rfl
        have q2 := new_cell wr #[.string ep, .int .i64 ek, .string ex] 60 2 (.string ex) rfl
        replace hown := own_below hown (bellow_alloc wr (.cells #[.string ep, .int .i64 ek, .string ex] 60))
        replace hb := hb.alloc hb.size (.cells #[.string ep, .int .i64 ek, .string ex] 60); replace hsx := SlF.below hsx (bellow_alloc _ (.cells #[.string ep, .int .i64 ek, .string ex] 60)); replace hsy := SlF.below hsy (bellow_alloc _ (.cells #[.string ep, .int .i64 ek, .string ex] 60)); 
        go_wp2_with fail
        refine ((HGA.out ep (some u) ho _ hsx).out).mono ?_; rintro e W ⟨rfl, hq⟩; replace hb := chn hb hq; replace hsx := SlF.below hsx hq; replace hsy := SlF.below hsy hq; replace hown := own_below hown hq; clear hq
        go_wp2
        go_roundw
        case rel => exact ⟨k + 1, ms, by omega, by omega, by go_num, HSM.out, own_below hown (bellow_alloc _ _), hb.alloc hb.size _⟩
        case measure => simp [intOf]; omega
      | none =>
        have q0 := new_cell wr #[.string ep, .int .i64 ek, .string ex] 60 0 (.string ep) rfl
        have q1 := new_cell wr #[.string ep, .int .i64 ek, .string ex] 60 1 (.int .i64 ek) rfl
        have q2 := new_cell wr #[.string ep, .int .i64 ek, .string ex] 60 2 (.string ex) rfl
        replace hown := own_below hown (bellow_alloc wr (.cells #[.string ep, .int .i64 ek, .string ex] 60))
        replace hb := hb.alloc hb.size (.cells #[.string ep, .int .i64 ek, .string ex] 60); replace hsx := SlF.below hsx (bellow_alloc _ (.cells #[.string ep, .int .i64 ek, .string ex] 60)); replace hsy := SlF.below hsy (bellow_alloc _ (.cells #[.string ep, .int .i64 ek, .string ex] 60)); 
        go_wp2_with fail
        refine ((HGA.out ep none ho _ hsx).out).mono ?_; rintro e W ⟨rfl, hq⟩; replace hb := chn hb hq; replace hsx := SlF.below hsx hq; replace hsy := SlF.below hsy hq; replace hown := own_below hown hq; replace q0 := keepc hq q0; replace q1 := keepc hq q1; replace q2 := keepc hq q2; clear hq
        replace hown := own_below hown (bellow_alloc W (.cells #[.string ⟨#[]⟩, .int .i64 0, .string ⟨#[]⟩] 60))
        replace hb := hb.alloc hb.size (.cells #[.string ⟨#[]⟩, .int .i64 0, .string ⟨#[]⟩] 60); replace hsx := SlF.below hsx (bellow_alloc _ (.cells #[.string ⟨#[]⟩, .int .i64 0, .string ⟨#[]⟩] 60)); replace hsy := SlF.below hsy (bellow_alloc _ (.cells #[.string ⟨#[]⟩, .int .i64 0, .string ⟨#[]⟩] 60)); replace q0 := keepc (bellow_alloc _ (.cells #[.string ⟨#[]⟩, .int .i64 0, .string ⟨#[]⟩] 60)) q0; replace q1 := keepc (bellow_alloc _ (.cells #[.string ⟨#[]⟩, .int .i64 0, .string ⟨#[]⟩] 60)) q1; replace q2 := keepc (bellow_alloc _ (.cells #[.string ⟨#[]⟩, .int .i64 0, .string ⟨#[]⟩] 60)) q2; 
        go_wp2_with fail
        refine ((HGH.out ep hzz.1 r hr _ hsx).out).mono ?_; rintro e W ⟨rfl, hq⟩; replace hb := chn hb hq; replace hsx := SlF.below hsx hq; replace hsy := SlF.below hsy hq; replace hown := own_below hown hq; replace q0 := keepc hq q0; replace q1 := keepc hq q1; replace q2 := keepc hq q2; clear hq
        cases r with
        | true =>
          have HSM : Hid (ms.map Mk.pl = keptM (xs.map Mk.pl) ((ys.take (k + 1)).map Mk.pl)) := by rw [Hid, HSN.out, HMS.out]; simp
          go_wp2
          go_roundw
          case rel => exact ⟨k + 1, ms, by omega, by omega, by go_num, HSM.out, hown, hb⟩
          case measure => simp [intOf]; omega
        | false =>
          have HSM : Hid ((ms ++ [(⟨ep, ek, ex⟩ : Mk)]).map Mk.pl = keptM (xs.map Mk.pl) ((ys.take (k + 1)).map Mk.pl)) := by rw [Hid, HSN.out, List.map_append, HMS.out]; simp
          go_wp2_with (at_builtin; go_must (refine wp_app1 (by rfl) _ _ 36 (by rfl) HE w.heap.size w.heap.size w _ #[.string ep, .int .i64 ek, .string ex] _ _ _ (by rfl) (by rfl) hown (by rfl) (by simp [Value.oneCell']) (by omega) hb.size hb (Nat.le_refl _) ?_); intro v' w1 hown1 hbel1 _ _)
          go_roundw
          case rel => exact ⟨k + 1, ms ++ [⟨ep, ek, ex⟩], by omega, by simp; omega, by go_num, HSM.out, by rw [← flat_mk]; simpa using hown1, hbel1⟩
          case measure => simp [intOf]; omega
    · obtain rfl : k = n' := by omega
      have HMK : Hid (ms.map Mk.pl = keptM (xs.map Mk.pl) (ys.map Mk.pl)) := by rw [Hid, HMS.out, HALL'.out]
      have HOWN := Lib.hid hown
      have HBB := Lib.hid hb
      have HML := Lib.hid hml
      clear hown hb hml HMS
      go_wp2
      go_loopw [5, 43] (fun v i wr => ∃ (j : Nat) (ns : List Mk), j ≤ n ∧ ns.length ≤ 32 + j ∧ i = .int .i64 j ∧ ns.map Mk.pl = keptM (xs.map Mk.pl) (ys.map Mk.pl) ++ ((xs.take j).map Mk.pl).map (bothM (ys.map Mk.pl)) ∧ wr.ownsRow w.heap.size 60 3 v ns.length (ns.flatMap Mk.cells) ∧ Below w.heap.size w wr) (fun _ i _ => n - (intOf i).toNat)
      case atStart => exact ⟨0, ms, Nat.zero_le _, by have := HML.out; omega, rfl, by rw [HMK.out]; simp, HOWN.out, HBB.out⟩
      case round =>
        obtain ⟨j, ns, hj, hnl, rfl, hns, hown, hb⟩ := hrel
        have HNS := Lib.hid hns
        clear hns
        by_cases hlt2 : j < n
        · obtain ⟨e, hee⟩ : ∃ e, xs[j]? = some e := ⟨_, List.getElem?_eq_getElem (by rw [HN.out]; exact hlt2)⟩
          have hsx := HS.out.below hb
          have hsy := HS'.out.below hb
          obtain ⟨b, off, rfl, _⟩ := hsx.addr (by rw [HN.out]; omega)
          obtain ⟨d0, d1, d2⟩ := mk_at hsx j e hee
          obtain ⟨o, ho⟩ : ∃ o, Hid (getM ys e.p = o) := ⟨_, rfl⟩
          have HSN : Hid ((ns ++ [bothK o e]).map Mk.pl = keptM (xs.map Mk.pl) (ys.map Mk.pl) ++ ((xs.take (j + 1)).map Mk.pl).map (bothM (ys.map Mk.pl))) := by
            rw [Hid, take_ml xs j e hee, List.map_append, List.map_append, HNS.out, ← List.append_assoc, List.map_cons, List.map_cons, both_pl, ho.out]; rfl
          obtain ⟨ep, ek, ex⟩ := e
          clear hee
          have i0 : (0 : Int) ≤ (j : Int) := by omega
          have i1 : (j : Int) < (n : Int) := by omega
          have HOW := Lib.hid hown
          have HLW := Lib.hid hb.size
          have f1 := new_free wr #[.string ep, .int .i64 ek, .string ex] 60 1
          have hbw := bellow_alloc wr (.cells #[.string ep, .int .i64 ek, .string ex] 60)
          have q0 := new_cell wr #[.string ep, .int .i64 ek, .string ex] 60 0 (.string ep) rfl
          have q1 := new_cell wr #[.string ep, .int .i64 ek, .string ex] 60 1 (.int .i64 ek) rfl
          have q2 := new_cell wr #[.string ep, .int .i64 ek, .string ex] 60 2 (.string ex) rfl
          replace hown := own_below hown (bellow_alloc wr (.cells #[.string ep, .int .i64 ek, .string ex] 60))
          replace hb := hb.alloc hb.size (.cells #[.string ep, .int .i64 ek, .string ex] 60); replace hsx := SlF.below hsx (bellow_alloc _ (.cells #[.string ep, .int .i64 ek, .string ex] 60)); replace hsy := SlF.below hsy (bellow_alloc _ (.cells #[.string ep, .int .i64 ek, .string ex] 60)); 
          by_cases hek : ek = 2
          · subst hek
            cases o with
            | none =>
              have HSM : Hid ((ns ++ [(⟨ep, 2, ex⟩ : Mk)]).map Mk.pl = keptM (xs.map Mk.pl) (ys.map Mk.pl) ++ ((xs.take (j + 1)).map Mk.pl).map (bothM (ys.map Mk.pl))) := HSN
              go_wp2_with fail
              refine ((HGB.out ep none ho _ hsy).out).mono ?_; rintro e W ⟨rfl, hq⟩; replace hb := chn hb hq; replace hsx := SlF.below hsx hq; replace hsy := SlF.below hsy hq; replace hown := own_below hown hq; replace q0 := keepc hq q0; replace q1 := keepc hq q1; replace q2 := keepc hq q2; clear hq
              have v0 := new_cell W #[.string ⟨#[]⟩, .int .i64 0, .string ⟨#[]⟩] 60 1 (.int .i64 0) rfl
              replace hown := own_below hown (bellow_alloc W (.cells #[.string ⟨#[]⟩, .int .i64 0, .string ⟨#[]⟩] 60))
              replace hb := hb.alloc hb.size (.cells #[.string ⟨#[]⟩, .int .i64 0, .string ⟨#[]⟩] 60); replace hsx := SlF.below hsx (bellow_alloc _ (.cells #[.string ⟨#[]⟩, .int .i64 0, .string ⟨#[]⟩] 60)); replace hsy := SlF.below hsy (bellow_alloc _ (.cells #[.string ⟨#[]⟩, .int .i64 0, .string ⟨#[]⟩] 60)); replace q0 := keepc (bellow_alloc _ (.cells #[.string ⟨#[]⟩, .int .i64 0, .string ⟨#[]⟩] 60)) q0; replace q1 := keepc (bellow_alloc _ (.cells #[.string ⟨#[]⟩, .int .i64 0, .string ⟨#[]⟩] 60)) q1; replace q2 := keepc (bellow_alloc _ (.cells #[.string ⟨#[]⟩, .int .i64 0, .string ⟨#[]⟩] 60)) q2; 
              go_wp2_with (at_builtin; go_must (refine wp_app1H (by rfl) _ _ 36 (by rfl) HE w.heap.size w.heap.size w _ #[.string ep, .int .i64 2, .string ex] _ _ _ (by rfl) (W.heap.size + 1) (by simp) (by rfl) hown (by rfl) (by simp [Value.oneCell']) (by omega) hb.size hb (Nat.le_refl _) ?_); intro v' w1 hown1 hbel1 _ _)
              go_roundw
              case rel => exact ⟨j + 1, ns ++ [⟨ep, 2, ex⟩], by omega, by simp; omega, by go_num, HSM.out, by rw [← flat_mk]; simpa using hown1, hbel1⟩
              case measure => simp [intOf]; omega
            | some u =>
              obtain ⟨up, uk, ux⟩ := u
              go_wp2_with fail
              refine ((HGB.out ep (some ⟨up, uk, ux⟩) ho _ hsy).out).mono ?_; rintro e W ⟨rfl, hq⟩; replace hb := chn hb hq; replace hbw := chn hbw hq; replace f1 := (hq.frozen (p := ⟨wr.heap.size, 1, none⟩) (by simp)).trans f1; replace hsx := SlF.below hsx hq; replace hsy := SlF.below hsy hq; replace hown := own_below hown hq; replace q0 := keepc hq q0; replace q1 := keepc hq q1; replace q2 := keepc hq q2; clear hq
              replace f1 := ((bellow_alloc W (.cells #[.string up, .int .i64 uk, .string ux] 60)).frozen (p := ⟨wr.heap.size, 1, none⟩) (World.block_lt_of_cell? _ _ q1)).trans f1
              replace hbw := chn hbw (bellow_alloc W (.cells #[.string up, .int .i64 uk, .string ux] 60))
              have v0 := new_cell W #[.string up, .int .i64 uk, .string ux] 60 1 (.int .i64 uk) rfl
              replace hown := own_below hown (bellow_alloc W (.cells #[.string up, .int .i64 uk, .string ux] 60))
              replace hb := hb.alloc hb.size (.cells #[.string up, .int .i64 uk, .string ux] 60); replace hsx := SlF.below hsx (bellow_alloc _ (.cells #[.string up, .int .i64 uk, .string ux] 60)); replace hsy := SlF.below hsy (bellow_alloc _ (.cells #[.string up, .int .i64 uk, .string ux] 60)); replace q0 := keepc (bellow_alloc _ (.cells #[.string up, .int .i64 uk, .string ux] 60)) q0; replace q1 := keepc (bellow_alloc _ (.cells #[.string up, .int .i64 uk, .string ux] 60)) q1; replace q2 := keepc (bellow_alloc _ (.cells #[.string up, .int .i64 uk, .string ux] 60)) q2; 
              by_cases huk : uk = 2
              · subst huk
                have HSM : Hid ((ns ++ [(⟨ep, 2, ex⟩ : Mk)]).map Mk.pl = keptM (xs.map Mk.pl) (ys.map Mk.pl) ++ ((xs.take (j + 1)).map Mk.pl).map (bothM (ys.map Mk.pl))) := HSN
                go_wp2_with (at_builtin; go_must (refine wp_app1H (by rfl) _ _ 36 (by rfl) HE w.heap.size w.heap.size w _ #[.string ep, .int .i64 2, .string ex] _ _ _ (by rfl) (W.heap.size + 1) (by simp) (by rfl) hown (by rfl) (by simp [Value.oneCell']) (by omega) hb.size hb (Nat.le_refl _) ?_); intro v' w1 hown1 hbel1 _ _)
                go_roundw
                case rel => exact ⟨j + 1, ns ++ [⟨ep, 2, ex⟩], by omega, by simp; omega, by go_num, HSM.out, by rw [← flat_mk]; simpa using hown1, hbel1⟩
                case measure => simp [intOf]; omega
              · have HSM : Hid ((ns ++ [(⟨ep, 4, ex⟩ : Mk)]).map Mk.pl = keptM (xs.map Mk.pl) (ys.map Mk.pl) ++ ((xs.take (j + 1)).map Mk.pl).map (bothM (ys.map Mk.pl))) := by
                  have h := HSN.out
                  unfold bothK at h
                  rw [if_pos rfl] at h
                  dsimp only at h
                  rw [if_neg huk] at h
                  exact h
                have hne : (uk != 2) = true := by simpa using huk
                clear huk
                have hown1 := own_below HOW.out (hbw.setCell (p := ⟨wr.heap.size, 1, none⟩) (Nat.le_refl _) (.int .i64 4))
                replace hown := hown1
                clear hown1
                have hb1 := hb.setCell (p := ⟨wr.heap.size, 1, none⟩) HLW.out (.int .i64 4)
                replace hb := hb1
                clear hb1
                go_wp2_with (at_builtin; go_must (refine wp_app1H (by rfl) _ _ 36 (by rfl) HE w.heap.size w.heap.size w _ #[.string ep, .int .i64 4, .string ex] _ _ _ (by rfl) (W.heap.size + 1) (by simp) (by rfl) hown (by rfl) (by simp [Value.oneCell']) (by omega) hb.size hb (Nat.le_refl _) ?_); intro v' w1 hown1 hbel1 _ _)
                go_roundw
                case rel => exact ⟨j + 1, ns ++ [⟨ep, 4, ex⟩], by omega, by simp; omega, by go_num, HSM.out, by rw [← flat_mk]; simpa using hown1, hbel1⟩
                case measure => simp [intOf]; omega
          · have HSM : Hid ((ns ++ [(⟨ep, ek, ex⟩ : Mk)]).map Mk.pl = keptM (xs.map Mk.pl) (ys.map Mk.pl) ++ ((xs.take (j + 1)).map Mk.pl).map (bothM (ys.map Mk.pl))) := by
              have h := HSN.out
              unfold bothK at h
              rw [if_neg hek] at h; exact h
            have hne : (ek == 2) = false := by simpa using hek
            clear hek
            cases o with
            | none =>
              go_wp2_with fail
              refine ((HGB.out ep none ho _ hsy).out).mono ?_; rintro e W ⟨rfl, hq⟩; replace hb := chn hb hq; replace hsx := SlF.below hsx hq; replace hsy := SlF.below hsy hq; replace hown := own_below hown hq; replace q0 := keepc hq q0; replace q1 := keepc hq q1; replace q2 := keepc hq q2; clear hq
              replace hown := own_below hown (bellow_alloc W (.cells #[.string ⟨#[]⟩, .int .i64 0, .string ⟨#[]⟩] 60))
              replace hb := hb.alloc hb.size (.cells #[.string ⟨#[]⟩, .int .i64 0, .string ⟨#[]⟩] 60); replace hsx := SlF.below hsx (bellow_alloc _ (.cells #[.string ⟨#[]⟩, .int .i64 0, .string ⟨#[]⟩] 60)); replace hsy := SlF.below hsy (bellow_alloc _ (.cells #[.string ⟨#[]⟩, .int .i64 0, .string ⟨#[]⟩] 60)); replace q0 := keepc (bellow_alloc _ (.cells #[.string ⟨#[]⟩, .int .i64 0, .string ⟨#[]⟩] 60)) q0; replace q1 := keepc (bellow_alloc _ (.cells #[.string ⟨#[]⟩, .int .i64 0, .string ⟨#[]⟩] 60)) q1; replace q2 := keepc (bellow_alloc _ (.cells #[.string ⟨#[]⟩, .int .i64 0, .string ⟨#[]⟩] 60)) q2; 
              go_wp2_with (at_builtin; go_must (refine wp_app1H (by rfl) _ _ 36 (by rfl) HE w.heap.size w.heap.size w _ #[.string ep, .int .i64 ek, .string ex] _ _ _ (by rfl) (W.heap.size + 1) (by simp) (by rfl) hown (by rfl) (by simp [Value.oneCell']) (by omega) hb.size hb (Nat.le_refl _) ?_); intro v' w1 hown1 hbel1 _ _)
              go_roundw
              case rel => exact ⟨j + 1, ns ++ [⟨ep, ek, ex⟩], by omega, by simp; omega, by go_num, HSM.out, by rw [← flat_mk]; simpa using hown1, hbel1⟩
              case measure => simp [intOf]; omega
            | some u =>
              obtain ⟨up, uk, ux⟩ := u
              go_wp2_with fail
              refine ((HGB.out ep (some ⟨up, uk, ux⟩) ho _ hsy).out).mono ?_; rintro e W ⟨rfl, hq⟩; replace hb := chn hb hq; replace hsx := SlF.below hsx hq; replace hsy := SlF.below hsy hq; replace hown := own_below hown hq; replace q0 := keepc hq q0; replace q1 := keepc hq q1; replace q2 := keepc hq q2; clear hq
              replace hown := own_below hown (bellow_alloc W (.cells #[.string up, .int .i64 uk, .string ux] 60))
              replace hb := hb.alloc hb.size (.cells #[.string up, .int .i64 uk, .string ux] 60); replace hsx := SlF.below hsx (bellow_alloc _ (.cells #[.string up, .int .i64 uk, .string ux] 60)); replace hsy := SlF.below hsy (bellow_alloc _ (.cells #[.string up, .int .i64 uk, .string ux] 60)); replace q0 := keepc (bellow_alloc _ (.cells #[.string up, .int .i64 uk, .string ux] 60)) q0; replace q1 := keepc (bellow_alloc _ (.cells #[.string up, .int .i64 uk, .string ux] 60)) q1; replace q2 := keepc (bellow_alloc _ (.cells #[.string up, .int .i64 uk, .string ux] 60)) q2; 
              go_wp2_with (at_builtin; go_must (refine wp_app1H (by rfl) _ _ 36 (by rfl) HE w.heap.size w.heap.size w _ #[.string ep, .int .i64 ek, .string ex] _ _ _ (by rfl) (W.heap.size + 1) (by simp) (by rfl) hown (by rfl) (by simp [Value.oneCell']) (by omega) hb.size hb (Nat.le_refl _) ?_); intro v' w1 hown1 hbel1 _ _)
              go_roundw
              case rel => exact ⟨j + 1, ns ++ [⟨ep, ek, ex⟩], by omega, by simp; omega, by go_num, HSM.out, by rw [← flat_mk]; simpa using hown1, hbel1⟩
              case measure => simp [intOf]; omega
        · obtain rfl : j = n := by omega
          go_wp2
          go_ret
          exact madeMs_of (by rw [HNS.out, HALL.out, joinRaw_eq]) hown (Nat.le_refl _) hb
end Go.Proofs.YtobbodbkdcbflabDoor
namespace Go.Proofs.YtobbodbkdcbflabDoor
open Go.RowKit
open Classical in
/-- What LayerJoin tells. -/
noncomputable def ljoinB (a b : List PM) : Bool := decide (LOk a ∧ LOk b ∧ (joinLy a b).length ≤ 32)
noncomputable def ljoinL (a b : List PM) : List PM := if ljoinB a b then joinLy a b else []
theorem ljoin_bad {a b : List PM} (h : ¬ (LOk a ∧ LOk b)) : ljoinB a b = false := by
  unfold ljoinB; rw [decide_eq_false_iff_not]; exact fun h' => h ⟨h'.1, h'.2.1⟩
theorem ljoin_ok {a b : List PM} (h : LOk a) (h' : LOk b) : ljoinB a b = decide ((joinLy a b).length ≤ 32) := by
  unfold ljoinB; simp [h, h']
theorem bound_of {xs : List Mk} {l : List PM} (h : xs.map Mk.pl = l) (hl : ∀ m ∈ l, m.p.length ≤ 2000000 ∧ m.x.length ≤ 2000000) : ∀ e ∈ xs, e.p.size ≤ 2000000 ∧ e.x.size ≤ 2000000 := fun e he => by
  have := hl e.pl (by rw [← h]; exact List.mem_map_of_mem he)
  have h1 : e.pl.p.length = e.p.size := size_data e.p
  have h2 : e.pl.x.length = e.x.size := size_data e.x
  omega
theorem bound_pl {xs : List Mk} (hz : ∀ e ∈ xs, e.p.size ≤ 2000000 ∧ e.x.size ≤ 2000000) : ∀ m ∈ xs.map Mk.pl, m.p.length ≤ 2000000 ∧ m.x.length ≤ 2000000 := fun m hm => by
  obtain ⟨e, he, rfl⟩ := List.mem_map.1 hm
  have := hz e he
  have h1 : e.pl.p.length = e.p.size := size_data e.p
  have h2 : e.pl.x.length = e.x.size := size_data e.x
  omega
theorem both_x (b : List PM) (m : PM) : (bothM b m).x = m.x := by
  unfold bothM
  split
  · split
    · split <;> rfl
    · rfl
  · rfl
theorem bound_join {a b : List PM} (ha : ∀ m ∈ a, m.p.length ≤ 2000000 ∧ m.x.length ≤ 2000000) (hb : ∀ m ∈ b, m.p.length ≤ 2000000 ∧ m.x.length ≤ 2000000) : ∀ m ∈ joinRaw a b, m.p.length ≤ 2000000 ∧ m.x.length ≤ 2000000 := fun m hm => by
  unfold joinRaw at hm
  rcases List.mem_append.1 hm with h | h
  · exact hb m (List.mem_filter.1 h).1
  · obtain ⟨n, hn, rfl⟩ := List.mem_map.1 h
    rw [bothM_p, both_x]; exact ha n hn
theorem len_join (a b : List PM) : (joinRaw a b).length ≤ a.length + b.length := by
  unfold joinRaw
  have := List.length_filter_le (fun m => (atP PM.p a m.p).isNone && !hidesL a m.p) b
  rw [List.length_append, List.length_map]; omega
/-- What becomes of a mark as it lies. -/
def tidyK (r : Bool) (m : Mk) : Option Mk := if r = true then (if m.k = 3 then none else if m.k = 4 then some ⟨m.p, 2, m.x⟩ else some m) else some m
theorem tidy_pl (u : List PM) (m : Mk) : tidyM u m.pl = (tidyK (bareL u m.p.data.toList) m).map Mk.pl := by
  unfold tidyM tidyK
  show (if bareL u m.p.data.toList = true then (if m.k = 3 then none else if m.k = 4 then some _ else some m.pl) else some m.pl) = _
  split
  · split
    · rfl
    · split <;> rfl
  · rfl
theorem tidy_snoc (u : List PM) (ms : List Mk) (k : Nat) (e : Mk) (he : ms[k]? = some e) (ns : List Mk) (h : ns.map Mk.pl = ((ms.take k).map Mk.pl).filterMap (tidyM u)) :
    (ns ++ (tidyK (bareL u e.p.data.toList) e).toList).map Mk.pl = ((ms.take (k + 1)).map Mk.pl).filterMap (tidyM u) := by
  rw [take_ml ms k e he, List.filterMap_append, List.map_append, h]
  congr 1
  rw [List.filterMap_cons, tidy_pl]
  cases tidyK (bareL u e.p.data.toList) e <;> rfl
end Go.Proofs.YtobbodbkdcbflabDoor
