/- What draws what is done to a tree: the walk of l2Op. What draws trees: the walks of l2Tree and l2Bent. What draws trees: the walks of l2Bent and DrawTreeDo. What draws trees: the walks of DrawTreeGet, DrawTreeList, DrawTreeOk, DrawTreeSame, DrawOpOk. The walks of TreeSame and LayerSame. The walks of TreeList, of the program and of the reference. What the laws of trees share: shapes, TreeGet, TreeSame, TreeOk as the laws meet them. The walk of the program's TreeTurned. Plain laws of what LayerDiff makes, as the walks meet it. The walks of markAt and LayerOk, of the program and of the reference. The walk of the program's joinMarks. What LayerJoin tells, in plain words. The walk of the reference's l3Tidy. The walk of the reference's l3Put. The walks of the reference's l3Both, l3Join. The walks of the reference's l3Ups. Conditions: each theorem's own. -/
import Derived.Test.YtdhbdcmnbhjjaaaGreatDoorB5
import Derived.Deep.DeepCutAuto
import Derived.Laws.BytesArg
import Derived.Test.YtdhbdcmnbhjjaaaGreatDoorB1
import Derived.Test.YtdhbdcmnbhjjaaaGreatDoorB3
import Derived.Deep.Onto
import Derived.Test.YtdhbdcmnbhjjaaaGreatDoorB4
import Derived.Test.YtdhbdcmnbhjjaaaGreatDoorB2
import Derived.StillTailTactics
namespace Go.Proofs.YtdhbdcmnbhjjaaaGreatDoor
open Go.RowKit
/-- Four cells of a block that may be written. -/
def Box4 (w : World) (b : Nat) (v0 v1 v2 v3 : Value) : Prop :=
  w.cell? ⟨b, 0, none⟩ = some v0 ∧ w.cell? ⟨b, 1, none⟩ = some v1 ∧ w.cell? ⟨b, 2, none⟩ = some v2 ∧ w.cell? ⟨b, 3, none⟩ = some v3 ∧ ∀ j, w.frozen? ⟨b, j, none⟩ = false
theorem cell_only {w w' : World} {g : Nat} {a : Addr} {v : Value} (ho : Only g w w') (h : w.cell? a = some v) (hne : a.block ≠ g) : w'.cell? a = some v := by
  have hb := ho.block a.block (World.block_lt_of_cell? _ _ h) (fun e => hne (by simpa using e))
  rw [← h]
  unfold World.cell?
  simp only [hb]
theorem frozen_only {w w' : World} {g : Nat} {a : Addr} (ho : Only g w w') (hlt : a.block < w.heap.size) (hne : a.block ≠ g) : w'.frozen? a = w.frozen? a := by
  have hb := ho.block a.block hlt (fun e => hne (by simpa using e))
  unfold World.frozen?
  simp only [hb]
section
variable {w w' : World} {b g : Nat} {v0 v1 v2 v3 : Value}
theorem Box4.lt (h : Box4 w b v0 v1 v2 v3) : b < w.heap.size := World.block_lt_of_cell? _ _ h.1
theorem Box4.only (h : Box4 w b v0 v1 v2 v3) (ho : Only g w w') (hne : b ≠ g) : Box4 w' b v0 v1 v2 v3 :=
  ⟨cell_only ho h.1 hne, cell_only ho h.2.1 hne, cell_only ho h.2.2.1 hne, cell_only ho h.2.2.2.1 hne, fun j => (frozen_only (a := ⟨b, j, none⟩) ho h.lt hne).trans (h.2.2.2.2 j)⟩
theorem Box4.new (w : World) (v0 v1 v2 v3 : Value) (t : TypeId) : Box4 (w.alloc (.cells #[v0, v1, v2, v3] t)) w.heap.size v0 v1 v2 v3 :=
  ⟨new_cell w _ t 0 _ rfl, new_cell w _ t 1 _ rfl, new_cell w _ t 2 _ rfl, new_cell w _ t 3 _ rfl, fun j => new_free w _ t j⟩
theorem Box4.alloc (h : Box4 w b v0 v1 v2 v3) (o : Obj) : Box4 (w.alloc o) b v0 v1 v2 v3 := h.only (Only.of_below (bellow_alloc w o) : Only (b + 1) w (w.alloc o)) (by omega)
theorem Box4.set0 (h : Box4 w b v0 v1 v2 v3) (u : Value) : Box4 (w.setCell ⟨b, 0, none⟩ u) b u v1 v2 v3 :=
  ⟨World.cell?_setCell_same _ _ _ h.1, (World.cell?_setCell_other _ _ _ _ (by simp)).trans h.2.1, (World.cell?_setCell_other _ _ _ _ (by simp)).trans h.2.2.1, (World.cell?_setCell_other _ _ _ _ (by simp)).trans h.2.2.2.1, fun j => (World.frozen?_setCell _ _ _ _).trans (h.2.2.2.2 j)⟩
theorem Box4.set1 (h : Box4 w b v0 v1 v2 v3) (u : Value) : Box4 (w.setCell ⟨b, 1, none⟩ u) b v0 u v2 v3 :=
  ⟨(World.cell?_setCell_other _ _ _ _ (by simp)).trans h.1, World.cell?_setCell_same _ _ _ h.2.1, (World.cell?_setCell_other _ _ _ _ (by simp)).trans h.2.2.1, (World.cell?_setCell_other _ _ _ _ (by simp)).trans h.2.2.2.1, fun j => (World.frozen?_setCell _ _ _ _).trans (h.2.2.2.2 j)⟩
theorem Box4.set2 (h : Box4 w b v0 v1 v2 v3) (u : Value) : Box4 (w.setCell ⟨b, 2, none⟩ u) b v0 v1 u v3 :=
  ⟨(World.cell?_setCell_other _ _ _ _ (by simp)).trans h.1, (World.cell?_setCell_other _ _ _ _ (by simp)).trans h.2.1, World.cell?_setCell_same _ _ _ h.2.2.1, (World.cell?_setCell_other _ _ _ _ (by simp)).trans h.2.2.2.1, fun j => (World.frozen?_setCell _ _ _ _).trans (h.2.2.2.2 j)⟩
theorem Box4.set3 (h : Box4 w b v0 v1 v2 v3) (u : Value) : Box4 (w.setCell ⟨b, 3, none⟩ u) b v0 v1 v2 u :=
  ⟨(World.cell?_setCell_other _ _ _ _ (by simp)).trans h.1, (World.cell?_setCell_other _ _ _ _ (by simp)).trans h.2.1, (World.cell?_setCell_other _ _ _ _ (by simp)).trans h.2.2.1, World.cell?_setCell_same _ _ _ h.2.2.2.1, fun j => (World.frozen?_setCell _ _ _ _).trans (h.2.2.2.2 j)⟩
theorem Box4.other (h : Box4 w b v0 v1 v2 v3) (p : Addr) (u : Value) (hne : p.block ≠ b) : Box4 (w.setCell p u) b v0 v1 v2 v3 :=
  ⟨(World.cell?_setCell_other _ _ _ _ (fun e => hne (by rw [e]))).trans h.1, (World.cell?_setCell_other _ _ _ _ (fun e => hne (by rw [e]))).trans h.2.1, (World.cell?_setCell_other _ _ _ _ (fun e => hne (by rw [e]))).trans h.2.2.1, (World.cell?_setCell_other _ _ _ _ (fun e => hne (by rw [e]))).trans h.2.2.2.1, fun j => (World.frozen?_setCell _ _ _ _).trans (h.2.2.2.2 j)⟩
end
theorem Rd.set {w : World} {g p : Nat} (h : Rd w g p) (q : Addr) (u : Value) (hq : g < q.block) : Rd (w.setCell q u) g p := by
  obtain ⟨a, n, c, h1, h2, h3, h4⟩ := h
  refine ⟨a, n, c, ?_, h2, h3, fun hn => ?_⟩
  · rw [Below.heap_setCell w q u g (by omega)]; exact h1
  · obtain ⟨b, off, e, hlt, hc⟩ := h4 hn
    exact ⟨b, off, e, hlt, fun k hk => by
      obtain ⟨x, h5, h6, h7⟩ := hc k hk
      exact ⟨x, h5, h6, (World.cell?_setCell_other w _ _ _ (fun e => by rw [e] at hq; simp at hq; omega)).trans h7⟩⟩
/-- What is done, while it is drawn: in block ob; the result's block is rb. -/
def OpIn (F : ByteArray → Bool) (w0 w : World) (g rb ob p q : Nat) : Prop :=
  ∃ (k : Int) (P T D : ByteArray) (p' : Nat) (u0 u1 u2 u3 : Value), Box4 w ob (.int .i64 k) (.string P) (.string T) (.string D) ∧ Box4 w rb u0 u1 u2 u3 ∧ F P = true ∧ goodT T = true ∧ D.size ≤ 20 ∧ p' ≤ p + q ∧ Rd w g p' ∧ Only g w0 w
theorem OpIn.more {F : ByteArray → Bool} {w0 w : World} {g rb ob p q q' : Nat} (h : OpIn F w0 w g rb ob p q) (hq : q ≤ q') : OpIn F w0 w g rb ob p q' := by
  obtain ⟨k, P, T, D, p', u0, u1, u2, u3, h1, h2, h3, h4, h5, h6, h7⟩ := h
  exact ⟨k, P, T, D, p', u0, u1, u2, u3, h1, h2, h3, h4, h5, by omega, h7⟩
set_option maxRecDepth 100000 in
set_option maxHeartbeats 8000000 in
theorem l2Op_c (F : ByteArray → Bool) (hF : ∀ s, goodT s = true → F s = true) (w : World) (g p : Nat) (hr : Rd w g p) (hp : p ≤ 900000) (a : Option Addr) (c : Nat) (xs : List En) (ht : DrawnT w g a c xs) (hz : ∀ e ∈ xs, F e.p = true) (hx : xs.length ≤ 1000) :
    Calls Tryz.prog 33 #[.pointer (some ⟨g, 0, none⟩), .slice a xs.length c] w (OpPost F w g p 10) := by
  have hg := hr.lt
  obtain ⟨rb, hrb⟩ : ∃ rb, w.heap.size = rb := ⟨_, rfl⟩
  have hgr : g < rb := by rw [← hrb]; exact hg
  have HT := Lib.hid ht
  have HZ := Lib.hid hz
  obtain ⟨n, hn⟩ : ∃ n, xs.length = n := ⟨_, rfl⟩
  have HN := Lib.hid hn
  rw [hn] at hx ⊢
  clear hn ht hz
  obtain ⟨w1, hw1⟩ : ∃ w1, w.alloc (.cells #[.int .i64 0, .string ⟨#[]⟩, .string ⟨#[]⟩, .string ⟨#[]⟩] 25) = w1 := ⟨_, rfl⟩
  have HR1 : Hid (Box4 w1 rb (.int .i64 0) (.string ⟨#[]⟩) (.string ⟨#[]⟩) (.string ⟨#[]⟩)) := by rw [Hid, ← hw1, ← hrb]; exact Box4.new w _ _ _ _ _
  have hO1 : Only g w w1 := by rw [← hw1]; exact (Only.refl g w).alloc _
  have hrd1 : Rd w1 g p := by rw [← hw1]; exact hr.alloc _
  have hs1' : w1.heap.size = w.heap.size + 1 := by rw [← hw1]; simp
  have hs1 : w1.heap.size = rb + 1 := by rw [hs1', hrb]
  have HNUM := Lib.hid (fun (cs : Array Value) (n : Nat) (hn : Hid (cs.size = n)) h0 h1 hs => num_c (w1.alloc (.cells cs 3)) g p (rb + 1) n cs 3 (hrd1.alloc _) (by omega) (by rw [← hs1]; exact heap_alloc_new w1 _) (by omega) hn.out h0 h1 hs)
  have HO1 := Lib.hid hO1
  clear hr hO1 hrd1
  subst hw1
  go_enter Tryz.func33, Tryz.ntmps33
  go_wp2_with fail
  refine (HNUM.out _ _ (by exact Lib.hid rfl) (by decide) (by decide) (by rfl)).mono ?_
  rintro e w2 ⟨z, p1, rfl, hz1, hz2, hp1, hrd2, ho2⟩
  have hs2 : rb < w2.heap.size := Nat.lt_of_lt_of_le (by simp; omega) ho2.size
  have HO2 := Lib.hid ((HO1.out.alloc _).trans ho2)
  have HR2 := Lib.hid ((HR1.out.alloc _).only ho2 (by omega))
  have HL := Lib.hid (l1PathT_c w2 g p1 hrd2 (by omega))
  clear hrd2 ho2 HNUM HR1 HO1
  go_wp2_with fail
  refine HL.out.mono ?_; rintro e w3 ⟨s, p2, rfl, hs0, hp2, hrd3, ho3⟩
  have hs := hF s (pathT_good hs0)
  obtain ⟨ob, hob⟩ : ∃ ob, w3.heap.size = ob := ⟨_, rfl⟩
  have hrob : rb < ob := by rw [← hob]; exact Nat.lt_of_lt_of_le hs2 ho3.size
  have HO3 := Lib.hid ((HO2.out.trans ho3).alloc (.cells #[.int .i64 z, .string s, .string ⟨#[]⟩, .string ⟨#[]⟩] 25))
  have HB3 : Hid (Box4 (w3.alloc (.cells #[.int .i64 z, .string s, .string ⟨#[]⟩, .string ⟨#[]⟩] 25)) ob (.int .i64 z) (.string s) (.string ⟨#[]⟩) (.string ⟨#[]⟩)) := by rw [Hid, ← hob]; exact Box4.new _ _ _ _ _ _
  have HR3 := Lib.hid ((HR2.out.only ho3 (by omega)).alloc (.cells #[.int .i64 z, .string s, .string ⟨#[]⟩, .string ⟨#[]⟩] 25))
  have HRD3 := Lib.hid (hrd3.alloc (.cells #[.int .i64 z, .string s, .string ⟨#[]⟩, .string ⟨#[]⟩] 25))
  have HSZ : Hid (w.heap.size ≤ ob) := by rw [Hid, hrb]; omega
  clear hrd3 ho3 HL HO2 HR2
  go_upto_region 2 with fail
  generalize hW : w3.alloc (.cells #[.int .i64 z, .string s, .string ⟨#[]⟩, .string ⟨#[]⟩] 25) = W at HO3 HB3 HR3 HRD3 ⊢
  clear hW
  go_cut [24] (fun s24 wx => ∃ b : Bool, s24 = .bool b ∧ (b = true → 0 < n) ∧ OpIn F w wx g rb ob p 3)
  case first =>
    have c0 := HB3.out.1
    by_cases hn0 : 0 < n
    · have g0 : (0 : Int) < (n : Int) := by omega
      by_cases hk2 : 2 < z
      · have HP := Lib.hid (pick_c W g p2 4 HRD3.out (by omega) (by omega) (by omega))
        go_wp2_with fail
        refine HP.out.mono ?_; rintro e w4 ⟨m, rfl, _, _, hrd4, ho4⟩
        have HX : Hid (OpIn F w w4 g rb ob p 3) := ⟨z, s, ⟨#[]⟩, ⟨#[]⟩, p2 + 1, _, _, _, _, HB3.out.only ho4 (by omega), HR3.out.only ho4 (by omega), hs, by decide, by decide, by omega, hrd4, HO3.out.trans ho4⟩
        clear hrd4 ho4 HP c0
        by_cases hm : 0 < m
        · have gm : (0 : Int) < (m : Int) := by omega
          go_wp2_with fail
          go_meet
          exact ⟨true, rfl, fun _ => hn0, HX.out⟩
        · have gm : decide ((0 : Int) < (m : Int)) = false := by rw [decide_eq_false_iff_not]; omega
          go_wp2_with fail
          go_meet
          exact ⟨false, rfl, fun _ => hn0, HX.out⟩
      · have gk : decide ((2 : Int) < z) = false := by rw [decide_eq_false_iff_not]; omega
        have HX : Hid (OpIn F w W g rb ob p 3) := ⟨z, s, ⟨#[]⟩, ⟨#[]⟩, p2, _, _, _, _, HB3.out, HR3.out, hs, by decide, by decide, by omega, HRD3.out, HO3.out⟩
        go_wp2_with fail
        go_meet
        exact ⟨false, rfl, fun _ => hn0, HX.out⟩
    · have g0 : decide ((0 : Int) < (n : Int)) = false := by rw [decide_eq_false_iff_not]; omega
      have HX : Hid (OpIn F w W g rb ob p 3) := ⟨z, s, ⟨#[]⟩, ⟨#[]⟩, p2, _, _, _, _, HB3.out, HR3.out, hs, by decide, by decide, by omega, HRD3.out, HO3.out⟩
      go_wp2_with fail
      go_meet
      exact ⟨false, rfl, (fun h => by cases h), HX.out⟩
  case rest =>
  obtain ⟨bq, rfl, hbn, hcut⟩ := hcut
  clear HO3 HB3 HR3 HRD3
  go_upto_if 24 with fail
  go_cut [] (fun wx => OpIn F w wx g rb ob p 4)
  case first =>
    cases bq with
    | false =>
      have HX := Lib.hid (OpIn.more hcut (show 3 ≤ 4 by omega))
      clear hcut
      go_wp2_with fail
      go_meet
      exact HX.out
    | true =>
      have hn0 := hbn rfl
      obtain ⟨k, P, T, D, p', u0, u1, u2, u3, hbx, hrb, hP, hT, hD, hp', hrd, ho⟩ := hcut
      obtain ⟨b0, b1, b2, b3, bf⟩ := hbx
      have f0 := bf 0
      have f1 := bf 1
      have f2 := bf 2
      have f3 := bf 3
      have HBX : Hid (Box4 wc ob (.int .i64 k) (.string P) (.string T) (.string D)) := ⟨b0, b1, b2, b3, bf⟩
      have HRB := Lib.hid hrb
      have HRD := Lib.hid hrd
      have HO := Lib.hid ho
      clear bf hrb hrd ho
      have HP := Lib.hid (pick_c wc g p' (n : Int) HRD.out (by omega) (by omega) (by omega))
      go_wp2_with fail
      refine HP.out.mono ?_; rintro e w4 ⟨m, rfl, _, hm, hrd4, ho4⟩
      have hmn : m < n := by have := hm (by omega); omega
      obtain ⟨e0, hee⟩ : ∃ e, xs[m]? = some e := ⟨_, List.getElem?_eq_getElem (by rw [HN.out]; exact hmn)⟩
      have hes := HZ.out e0 (List.mem_of_getElem? hee)
      have hsl := (HT.out.only (HO.out.trans ho4)).sl
      obtain ⟨b, off, rfl, _⟩ := hsl.addr (by rw [HN.out]; omega)
      obtain ⟨d0, _, _⟩ := en_at hsl m e0 hee
      have hB4 := HBX.out.only ho4 (by omega)
      have h1c := hB4.2.1
      have h1f := hB4.2.2.2.2 1
      have i0 : (0 : Int) ≤ (m : Int) := by omega
      have i1 : (m : Int) < (n : Int) := by omega
      have HX : Hid (OpIn F w (w4.setCell ⟨ob, 1, none⟩ (.string e0.p)) g rb ob p 4) := ⟨k, e0.p, T, D, p' + 1, _, _, _, _, hB4.set1 _, (HRB.out.only ho4 (by omega)).other _ _ (by show ob ≠ rb; omega), hes, hT, hD, by omega, hrd4.set _ _ (by show g < ob; omega), (HO.out.trans ho4).setCell (.inr HSZ.out) _⟩
      clear hm hrd4 ho4 hsl hB4 hee HP b0 b1 b2 b3 f0 f1 f2 f3
      go_wp2_with fail
      go_meet
      exact HX.out
  case rest =>
  obtain ⟨k, P, T, D, p', u0, u1, u2, u3, hbx, hrb, hP, hT, hD, hp', hrd, ho⟩ := hcut
  obtain ⟨b0, b1, b2, b3, bf⟩ := hbx
  have f0 := bf 0
  have f1 := bf 1
  have f2 := bf 2
  have f3 := bf 3
  have HBX : Hid (Box4 wc ob (.int .i64 k) (.string P) (.string T) (.string D)) := ⟨b0, b1, b2, b3, bf⟩
  have HRB := Lib.hid hrb
  have HRD := Lib.hid hrd
  have HO := Lib.hid ho
  clear bf hrb hrd ho
  go_upto_if 36 with fail
  go_cut [] (fun wx => OpIn F w wx g rb ob p 5)
  case first =>
    by_cases k2 : k = 2
    · subst k2
      have HP := Lib.hid (l2Some_c wc g p' HRD.out (by omega))
      go_wp2_with fail
      refine HP.out.mono ?_; rintro e w4 ⟨s, p4, rfl, hs, hp4, hrd4, ho4⟩
      have hB4 := HBX.out.only ho4 (by omega)
      have h1c := hB4.2.2.2.1
      have h1f := hB4.2.2.2.2 3
      have HX : Hid (OpIn F w (w4.setCell ⟨ob, 3, none⟩ (.string s)) g rb ob p 5) := ⟨2, P, T, s, p4, _, _, _, _, hB4.set3 _, (HRB.out.only ho4 (by omega)).other _ _ (by show ob ≠ rb; omega), hP, hT, hs, by omega, hrd4.set _ _ (by show g < ob; omega), (HO.out.trans ho4).setCell (.inr HSZ.out) _⟩
      clear hrd4 ho4 hB4 HP b0 b1 b2 b3 f0 f1 f2 f3
      go_wp2_with fail
      go_meet
      exact HX.out
    · have n2 : (k == 2) = false := by rw [beq_eq_false_iff_ne]; exact k2
      have HX : Hid (OpIn F w wc g rb ob p 5) := ⟨k, P, T, D, p', _, _, _, _, HBX.out, HRB.out, hP, hT, hD, by omega, HRD.out, HO.out⟩
      clear k2
      go_wp2_with fail
      go_meet
      exact HX.out
  case rest =>
  clear HBX HRB HRD HO b0 b1 b2 b3 f0 f1 f2 f3 hP hT hD hp'
  clear k P T D p' u0 u1 u2 u3
  obtain ⟨k, P, T, D, p', u0, u1, u2, u3, hbx, hrb, hP, hT, hD, hp', hrd, ho⟩ := hcut
  obtain ⟨b0, b1, b2, b3, bf⟩ := hbx
  have f0 := bf 0
  have f1 := bf 1
  have f2 := bf 2
  have f3 := bf 3
  have HBX : Hid (Box4 wc ob (.int .i64 k) (.string P) (.string T) (.string D)) := ⟨b0, b1, b2, b3, bf⟩
  have HRB := Lib.hid hrb
  have HRD := Lib.hid hrd
  have HO := Lib.hid ho
  clear bf hrb hrd ho
  go_upto_if 42 with fail
  go_cut [] (fun wx => OpIn F w wx g rb ob p 6)
  case first =>
    by_cases k5 : k = 5
    · subst k5
      have HP := Lib.hid (l1PathT_c wc g p' HRD.out (by omega))
      go_wp2_with fail
      refine HP.out.mono ?_; rintro e w4 ⟨s, p4, rfl, hs, hp4, hrd4, ho4⟩
      have hB4 := HBX.out.only ho4 (by omega)
      have h1c := hB4.2.2.1
      have h1f := hB4.2.2.2.2 2
      have HX : Hid (OpIn F w (w4.setCell ⟨ob, 2, none⟩ (.string s)) g rb ob p 6) := ⟨5, P, s, D, p4, _, _, _, _, hB4.set2 _, (HRB.out.only ho4 (by omega)).other _ _ (by show ob ≠ rb; omega), hP, pathT_good hs, hD, by omega, hrd4.set _ _ (by show g < ob; omega), (HO.out.trans ho4).setCell (.inr HSZ.out) _⟩
      clear hrd4 ho4 hB4 HP b0 b1 b2 b3 f0 f1 f2 f3
      go_wp2_with fail
      go_meet
      exact HX.out
    · have n5 : (k == 5) = false := by rw [beq_eq_false_iff_ne]; exact k5
      have HX : Hid (OpIn F w wc g rb ob p 6) := ⟨k, P, T, D, p', _, _, _, _, HBX.out, HRB.out, hP, hT, hD, by omega, HRD.out, HO.out⟩
      clear k5
      go_wp2_with fail
      go_meet
      exact HX.out
  case rest =>
  clear HBX HRB HRD HO b0 b1 b2 b3 f0 f1 f2 f3 hP hT hD hp'
  clear k P T D p' u0 u1 u2 u3
  obtain ⟨k, P, T, D, p', u0, u1, u2, u3, hbx, hrb, hP, hT, hD, hp', hrd, ho⟩ := hcut
  obtain ⟨b0, b1, b2, b3, bf⟩ := hbx
  have f0 := bf 0
  have f1 := bf 1
  have f2 := bf 2
  have f3 := bf 3
  have HBX : Hid (Box4 wc ob (.int .i64 k) (.string P) (.string T) (.string D)) := ⟨b0, b1, b2, b3, bf⟩
  have HRB := Lib.hid hrb
  have HRD := Lib.hid hrd
  have HO := Lib.hid ho
  clear bf hrb hrd ho
  have HP := Lib.hid (pick_c wc g p' 50 HRD.out (by omega) (by omega) (by omega))
  clear b0 b1 b2 b3 f0 f1 f2 f3
  go_wp2_with fail
  refine HP.out.mono ?_; rintro e w5 ⟨m, rfl, _, hm, hrd5, ho5⟩
  have hm50 : m < 50 := by have := hm (by omega); omega
  have HB5 := Lib.hid (HBX.out.only ho5 (by omega))
  have HR5 := Lib.hid (HRB.out.only ho5 (by omega))
  have HO5 := Lib.hid (HO.out.trans ho5)
  have HRD5 := Lib.hid hrd5
  have hb5 : ob < w5.heap.size := HB5.out.lt
  clear HP hm hrd5 ho5 HBX HRB HRD HO
  by_cases m0 : m = 0
  · subst m0
    have HNU := Lib.hid (fun (cs : Array Value) (n : Nat) (hn : Hid (cs.size = n)) h0 h1 hs => num_c (w5.alloc (.cells cs 3)) g (p' + 1) w5.heap.size n cs 3 (HRD5.out.alloc _) (by omega) (heap_alloc_new w5 _) (by omega) hn.out h0 h1 hs)
    go_wp2_with fail
    refine (HNU.out _ _ (by exact Lib.hid rfl) (by decide) (by decide) (by rfl)).mono ?_
    rintro e w6 ⟨z, p6, rfl, _, _, hp6, hrd6, ho6⟩
    have hB6 := (HB5.out.alloc _).only ho6 (by omega)
    have hR6 := (HR5.out.alloc _).only ho6 (by omega)
    have hO6 := (HO5.out.alloc _).trans ho6
    have HB6 := Lib.hid hB6
    obtain ⟨cc0, cc1, cc2, cc3, ccf⟩ := hB6
    have fx := ccf 0
    have HB7 := Lib.hid (HB6.out.set0 (.int .i64 z))
    have HR7 := Lib.hid (hR6.other ⟨ob, 0, none⟩ (.int .i64 z) (by show ob ≠ rb; omega))
    have HO7 := Lib.hid (hO6.setCell (p := ⟨ob, 0, none⟩) (.inr HSZ.out) (.int .i64 z))
    have HRD7 := Lib.hid (hrd6.set ⟨ob, 0, none⟩ (.int .i64 z) (by show g < ob; omega))
    obtain ⟨c0, c1, c2, c3, _⟩ := HB7.out
    obtain ⟨r0, r1, r2, r3, rf⟩ := HR7.out
    have rf0 := rf 0
    have rf1 := rf 1
    have rf2 := rf 2
    have rf3 := rf 3
    have hR8 := Lib.hid ((((HR7.out.set0 (.int .i64 z)).set1 (.string P)).set2 (.string T)).set3 (.string D))
    have hD8 := Lib.hid ((((HRD7.out.set ⟨rb, 0, none⟩ (.int .i64 z) hgr).set ⟨rb, 1, none⟩ (.string P) hgr).set ⟨rb, 2, none⟩ (.string T) hgr).set ⟨rb, 3, none⟩ (.string D) hgr)
    have hO8 := Lib.hid ((((HO7.out.setCell (p := ⟨rb, 0, none⟩) (.inr (Nat.le_of_eq hrb)) (.int .i64 z)).setCell (p := ⟨rb, 1, none⟩) (.inr (Nat.le_of_eq hrb)) (.string P)).setCell (p := ⟨rb, 2, none⟩) (.inr (Nat.le_of_eq hrb)) (.string T)).setCell (p := ⟨rb, 3, none⟩) (.inr (Nat.le_of_eq hrb)) (.string D))
    clear rf ccf hR6 hO6 hrd6 ho6 HNU
    go_wp2
    obtain ⟨q0, q1, q2, q3, _⟩ := hR8.out
    refine bodyPost_ret (v := opV z P T D) (by simp [results, Tryz.results33, go_sem, q0, q1, q2, q3]) rfl ⟨z, P, T, D, p6, rfl, hP, hT, hD, by omega, hD8.out, hO8.out⟩
  by_cases m1 : m = 1
  · subst m1
    have HNU := Lib.hid (fun (cs : Array Value) (n : Nat) (hn : Hid (cs.size = n)) h0 h1 hs => ofF_c goodT (w5.alloc (.cells cs 9)) g (p' + 1) w5.heap.size n cs 9 (HRD5.out.alloc _) (by omega) (heap_alloc_new w5 _) (by omega) hn.out h0 h1 hs)
    go_wp2_with fail
    refine (HNU.out _ _ (by exact Lib.hid rfl) (by decide) (by decide) (by kernel_rfl)).mono ?_
    rintro e w6 ⟨s, p6, rfl, hs0, hp6, hrd6, ho6⟩
    have hs := hF s hs0
    have hB6 := (HB5.out.alloc _).only ho6 (by omega)
    have hR6 := (HR5.out.alloc _).only ho6 (by omega)
    have hO6 := (HO5.out.alloc _).trans ho6
    have HB6 := Lib.hid hB6
    obtain ⟨cc0, cc1, cc2, cc3, ccf⟩ := hB6
    have fx := ccf 1
    have HB7 := Lib.hid (HB6.out.set1 (.string s))
    have HR7 := Lib.hid (hR6.other ⟨ob, 1, none⟩ (.string s) (by show ob ≠ rb; omega))
    have HO7 := Lib.hid (hO6.setCell (p := ⟨ob, 1, none⟩) (.inr HSZ.out) (.string s))
    have HRD7 := Lib.hid (hrd6.set ⟨ob, 1, none⟩ (.string s) (by show g < ob; omega))
    obtain ⟨c0, c1, c2, c3, _⟩ := HB7.out
    obtain ⟨r0, r1, r2, r3, rf⟩ := HR7.out
    have rf0 := rf 0
    have rf1 := rf 1
    have rf2 := rf 2
    have rf3 := rf 3
    have hR8 := Lib.hid ((((HR7.out.set0 (.int .i64 k)).set1 (.string s)).set2 (.string T)).set3 (.string D))
    have hD8 := Lib.hid ((((HRD7.out.set ⟨rb, 0, none⟩ (.int .i64 k) hgr).set ⟨rb, 1, none⟩ (.string s) hgr).set ⟨rb, 2, none⟩ (.string T) hgr).set ⟨rb, 3, none⟩ (.string D) hgr)
    have hO8 := Lib.hid ((((HO7.out.setCell (p := ⟨rb, 0, none⟩) (.inr (Nat.le_of_eq hrb)) (.int .i64 k)).setCell (p := ⟨rb, 1, none⟩) (.inr (Nat.le_of_eq hrb)) (.string s)).setCell (p := ⟨rb, 2, none⟩) (.inr (Nat.le_of_eq hrb)) (.string T)).setCell (p := ⟨rb, 3, none⟩) (.inr (Nat.le_of_eq hrb)) (.string D))
    clear rf ccf hR6 hO6 hrd6 ho6 HNU
    go_wp2
    obtain ⟨q0, q1, q2, q3, _⟩ := hR8.out
    refine bodyPost_ret (v := opV k s T D) (by simp [results, Tryz.results33, go_sem, q0, q1, q2, q3]) rfl ⟨k, s, T, D, p6, rfl, hs, hT, hD, by omega, hD8.out, hO8.out⟩
  by_cases m2 : m = 2
  · subst m2
    have HNU := Lib.hid (fun (cs : Array Value) (n : Nat) (hn : Hid (cs.size = n)) h0 h1 hs => ofF_c goodT (w5.alloc (.cells cs 9)) g (p' + 1) w5.heap.size n cs 9 (HRD5.out.alloc _) (by omega) (heap_alloc_new w5 _) (by omega) hn.out h0 h1 hs)
    go_wp2_with fail
    refine (HNU.out _ _ (by exact Lib.hid rfl) (by decide) (by decide) (by kernel_rfl)).mono ?_
    rintro e w6 ⟨s, p6, rfl, hs, hp6, hrd6, ho6⟩
    have hB6 := (HB5.out.alloc _).only ho6 (by omega)
    have hR6 := (HR5.out.alloc _).only ho6 (by omega)
    have hO6 := (HO5.out.alloc _).trans ho6
    have HB6 := Lib.hid hB6
    obtain ⟨cc0, cc1, cc2, cc3, ccf⟩ := hB6
    have fx := ccf 2
    have HB7 := Lib.hid (HB6.out.set2 (.string s))
    have HR7 := Lib.hid (hR6.other ⟨ob, 2, none⟩ (.string s) (by show ob ≠ rb; omega))
    have HO7 := Lib.hid (hO6.setCell (p := ⟨ob, 2, none⟩) (.inr HSZ.out) (.string s))
    have HRD7 := Lib.hid (hrd6.set ⟨ob, 2, none⟩ (.string s) (by show g < ob; omega))
    obtain ⟨c0, c1, c2, c3, _⟩ := HB7.out
    obtain ⟨r0, r1, r2, r3, rf⟩ := HR7.out
    have rf0 := rf 0
    have rf1 := rf 1
    have rf2 := rf 2
    have rf3 := rf 3
    have hR8 := Lib.hid ((((HR7.out.set0 (.int .i64 k)).set1 (.string P)).set2 (.string s)).set3 (.string D))
    have hD8 := Lib.hid ((((HRD7.out.set ⟨rb, 0, none⟩ (.int .i64 k) hgr).set ⟨rb, 1, none⟩ (.string P) hgr).set ⟨rb, 2, none⟩ (.string s) hgr).set ⟨rb, 3, none⟩ (.string D) hgr)
    have hO8 := Lib.hid ((((HO7.out.setCell (p := ⟨rb, 0, none⟩) (.inr (Nat.le_of_eq hrb)) (.int .i64 k)).setCell (p := ⟨rb, 1, none⟩) (.inr (Nat.le_of_eq hrb)) (.string P)).setCell (p := ⟨rb, 2, none⟩) (.inr (Nat.le_of_eq hrb)) (.string s)).setCell (p := ⟨rb, 3, none⟩) (.inr (Nat.le_of_eq hrb)) (.string D))
    clear rf ccf hR6 hO6 hrd6 ho6 HNU
    go_wp2
    obtain ⟨q0, q1, q2, q3, _⟩ := hR8.out
    refine bodyPost_ret (v := opV k P s D) (by simp [results, Tryz.results33, go_sem, q0, q1, q2, q3]) rfl ⟨k, P, s, D, p6, rfl, hP, hs, hD, by omega, hD8.out, hO8.out⟩
  by_cases m3 : m = 3
  · subst m3
    have HNU := Lib.hid (fun (cs : Array Value) (n : Nat) (hn : Hid (cs.size = n)) h0 h1 hs => of_c (w5.alloc (.cells cs 9)) g (p' + 1) w5.heap.size n cs 9 (HRD5.out.alloc _) (by omega) (heap_alloc_new w5 _) (by omega) hn.out h0 h1 hs)
    go_wp2_with fail
    refine (HNU.out _ _ (by exact Lib.hid rfl) (by decide) (by decide) (by rfl)).mono ?_
    rintro e w6 ⟨s, p6, rfl, hs, hp6, hrd6, ho6⟩
    have hB6 := (HB5.out.alloc _).only ho6 (by omega)
    have hR6 := (HR5.out.alloc _).only ho6 (by omega)
    have hO6 := (HO5.out.alloc _).trans ho6
    have HB6 := Lib.hid hB6
    obtain ⟨cc0, cc1, cc2, cc3, ccf⟩ := hB6
    have fx := ccf 3
    have HB7 := Lib.hid (HB6.out.set3 (.string s))
    have HR7 := Lib.hid (hR6.other ⟨ob, 3, none⟩ (.string s) (by show ob ≠ rb; omega))
    have HO7 := Lib.hid (hO6.setCell (p := ⟨ob, 3, none⟩) (.inr HSZ.out) (.string s))
    have HRD7 := Lib.hid (hrd6.set ⟨ob, 3, none⟩ (.string s) (by show g < ob; omega))
    obtain ⟨c0, c1, c2, c3, _⟩ := HB7.out
    obtain ⟨r0, r1, r2, r3, rf⟩ := HR7.out
    have rf0 := rf 0
    have rf1 := rf 1
    have rf2 := rf 2
    have rf3 := rf 3
    have hR8 := Lib.hid ((((HR7.out.set0 (.int .i64 k)).set1 (.string P)).set2 (.string T)).set3 (.string s))
    have hD8 := Lib.hid ((((HRD7.out.set ⟨rb, 0, none⟩ (.int .i64 k) hgr).set ⟨rb, 1, none⟩ (.string P) hgr).set ⟨rb, 2, none⟩ (.string T) hgr).set ⟨rb, 3, none⟩ (.string s) hgr)
    have hO8 := Lib.hid ((((HO7.out.setCell (p := ⟨rb, 0, none⟩) (.inr (Nat.le_of_eq hrb)) (.int .i64 k)).setCell (p := ⟨rb, 1, none⟩) (.inr (Nat.le_of_eq hrb)) (.string P)).setCell (p := ⟨rb, 2, none⟩) (.inr (Nat.le_of_eq hrb)) (.string T)).setCell (p := ⟨rb, 3, none⟩) (.inr (Nat.le_of_eq hrb)) (.string s))
    clear rf ccf hR6 hO6 hrd6 ho6 HNU
    go_wp2
    obtain ⟨q0, q1, q2, q3, _⟩ := hR8.out
    refine bodyPost_ret (v := opV k P T s) (by simp [results, Tryz.results33, go_sem, q0, q1, q2, q3]) rfl ⟨k, P, T, s, p6, rfl, hP, hT, hs, by omega, hD8.out, hO8.out⟩
  have n0 : ((m : Int) == 0) = false := by rw [beq_eq_false_iff_ne]; omega
  have n1 : ((m : Int) == 1) = false := by rw [beq_eq_false_iff_ne]; omega
  have n2 : ((m : Int) == 2) = false := by rw [beq_eq_false_iff_ne]; omega
  have n3 : ((m : Int) == 3) = false := by rw [beq_eq_false_iff_ne]; omega
  have hB7 := HB5.out
  have hR7 := HR5.out
  obtain ⟨c0, c1, c2, c3, _⟩ := hB7
  obtain ⟨r0, r1, r2, r3, rf⟩ := hR7
  have rf0 := rf 0
  have rf1 := rf 1
  have rf2 := rf 2
  have rf3 := rf 3
  have hR8 := Lib.hid ((((HR5.out.set0 (.int .i64 k)).set1 (.string P)).set2 (.string T)).set3 (.string D))
  have hD8 := Lib.hid ((((HRD5.out.set ⟨rb, 0, none⟩ (.int .i64 k) hgr).set ⟨rb, 1, none⟩ (.string P) hgr).set ⟨rb, 2, none⟩ (.string T) hgr).set ⟨rb, 3, none⟩ (.string D) hgr)
  have hO8 := Lib.hid ((((HO5.out.setCell (p := ⟨rb, 0, none⟩) (.inr (Nat.le_of_eq hrb)) (.int .i64 k)).setCell (p := ⟨rb, 1, none⟩) (.inr (Nat.le_of_eq hrb)) (.string P)).setCell (p := ⟨rb, 2, none⟩) (.inr (Nat.le_of_eq hrb)) (.string T)).setCell (p := ⟨rb, 3, none⟩) (.inr (Nat.le_of_eq hrb)) (.string D))
  clear rf m0 m1 m2 m3
  go_wp2
  obtain ⟨q0, q1, q2, q3, _⟩ := hR8.out
  refine bodyPost_ret (v := opV k P T D) (by simp [results, Tryz.results33, go_sem, q0, q1, q2, q3]) rfl ⟨k, P, T, D, p' + 1, rfl, hP, hT, hD, by omega, hD8.out, hO8.out⟩
end Go.Proofs.YtdhbdcmnbhjjaaaGreatDoor
namespace Go.Proofs.YtdhbdcmnbhjjaaaGreatDoor
open Go.RowKit
theorem sub_i64 (z : Int) (h : -100 ≤ z) (h' : z ≤ 1000) : IntKind.i64.wrap (z - 1) = z - 1 := IntWalk.i64_in _ (by omega)
/-- A path whose second byte is ahead of k. -/
def lowL (l : Bs) : Bool := decide ((l.getD 1 0).toNat < 107)
theorem good_low {s : ByteArray} : goodT s = true ↔ s.size ≤ 20 ∧ lowL s.data.toList = true := by
  unfold goodT lowL
  simp [Array.getD_eq_getD_getElem?, List.getD_eq_getElem?_getD]
theorem low_app {a b : Bs} (h : 2 ≤ a.length) : lowL (a ++ b) = lowL a := by
  unfold lowL
  rw [List.getD_eq_getElem?_getD, List.getD_eq_getElem?_getD, List.getElem?_append_left (by omega)]
theorem low_move {s f t : Bs} (hs : lowL s = true) (ht : lowL t = true) : lowL (moveL s f t) = true := by
  unfold moveL
  split
  · next h =>
    have h3 := (path_len (moveOk_paths h).2.2.1).1
    unfold moved
    split
    · rw [low_app h3]; exact ht
    · exact hs
  · rfl
/-- All that stands in a list is low. -/
def LowT (t : List PE) : Prop := ∀ e ∈ t, lowL e.p = true
theorem low_do {t : List PE} (h : TOk t) {k : Int} {p r x : Bs} (ht : LowT t) (hp : lowL p = true) (hr : lowL r = true) : LowT (tdo t k p r x) := by
  intro e he
  by_cases hc : tcode t k p r x = 0
  · rw [tdo_do hc] at he
    obtain ⟨_, ho, hcd⟩ := tcode_0 hc
    rcases opOk_k ho with rfl | rfl | rfl | rfl | rfl
    · rw [doL_1] at he
      rcases (mem_putP h.ordP).1 he with rfl | h1
      · exact hp
      · exact ht e h1.1
    · rw [doL_2] at he
      rcases (mem_putP h.ordP).1 he with rfl | h1
      · exact hp
      · exact ht e h1.1
    · rw [doL_3] at he; exact ht e (List.mem_filter.1 he).1
    · rw [doL_4] at he; exact ht e (List.mem_filter.1 he).1
    · rw [doL_5] at he
      rw [code_5] at hcd
      rw [opOk_5] at ho
      simp only [Bool.and_eq_true] at ho
      obtain ⟨f, hf, rfl⟩ := (mv_of h ho.1 ho.2.1 hcd).mem.1 he
      exact low_move (ht f hf) hr
  · rw [tdo_same h hc] at he; exact ht e he
/-- The path of z and the j-th letter. -/
def zP (j : Nat) : Bs := [47, 122, UInt8.ofNat (97 + j)]
theorem zP_ok {j : Nat} (hj : j < 26) : pathOkL (zP j) = true ∧ upL (zP j) = [47] := by
  have hn : nameOkL [122, UInt8.ofNat (97 + j)] = true := by
    have h1 : (UInt8.ofNat (97 + j)).toNat = 97 + j := by rw [UInt8.toNat_ofNat']; omega
    simp [nameOkL, isLo]; omega
  have hs : NS [[122, UInt8.ofNat (97 + j)]] := ⟨by simp, fun n h => by rw [List.mem_singleton.1 h]; exact hn⟩
  have e : zP j = flat [[122, UInt8.ofNat (97 + j)]] := rfl
  rw [e]
  exact ⟨pathOk_flat hs (by simp), by rw [up_flat hs (by simp)]; rfl⟩
theorem zP_low (j : Nat) : lowL (zP j) = false := rfl
theorem zP_inj {i j : Nat} (hi : i < 26) (hj : j < 26) (h : zP i = zP j) : i = j := by
  unfold zP at h
  injection h with _ h; injection h with _ h; injection h with h _
  have h1 := congrArg UInt8.toNat h
  rw [UInt8.toNat_ofNat', UInt8.toNat_ofNat'] at h1
  omega
/-- A tree that is filled up: j have come. -/
def FillT (j : Nat) (t : List PE) : Prop := (∀ e ∈ t, lowL e.p = true ∨ ∃ i, i < j ∧ i < 26 ∧ e.p = zP i) ∧ j ≤ t.length
theorem fill_0 {t : List PE} (h : LowT t) : FillT 0 t := ⟨fun e he => .inl (h e he), Nat.zero_le _⟩
theorem fill_do {t : List PE} (h : TOk t) {j : Nat} (hj : j < 26) (hf : FillT j t) (hl : t.length < 16) : FillT (j + 1) (tdo t 2 (zP j) [] []) := by
  obtain ⟨hp, hu⟩ := zP_ok hj
  have hn : getL t (zP j) = none := get_none.2 fun e he hq => by
    rcases hf.1 e he with h1 | ⟨i, h1, h2, h3⟩
    · rw [hq, zP_low] at h1; cases h1
    · rw [hq] at h3
      have := zP_inj hj h2 h3
      omega
  have ho : opOkL 2 (zP j) [] [] = true := by rw [opOk_2, hp]; rfl
  have hc : tcode t 2 (zP j) [] [] = 0 := by
    rw [tcode_op h ho, code_2]
    unfold putC
    rw [if_neg (by rw [(upCode_iff h.ordP).2 (.inl hu)]; simp), hn]
    simp; omega
  rw [tdo_do hc, doL_2]
  constructor
  · intro e he
    rcases (mem_putP h.ordP).1 he with rfl | h1
    · exact .inr ⟨j, by omega, hj, rfl⟩
    · rcases hf.1 e h1.1 with h2 | ⟨i, h2, h3⟩
      · exact .inl h2
      · exact .inr ⟨i, by omega, h3⟩
  · rw [len_putP h.ordP, show PE.p ⟨zP j, false, []⟩ = zP j from rfl, ← getL_at, hn, if_neg (by simp)]
    have := hf.2
    omega
theorem fill_zl {t : List PE} (h : TOk t) {j : Nat} (hf : FillT j t) : ZL t := fun e he hq => by
  have hm := h.most
  rcases hf.1 e he with h1 | ⟨i, h1, h2, h3⟩
  · rw [hq] at h1; cases h1
  · rw [hq] at h3
    have h4 := zP_inj (i := 25) (by omega) h2 h3
    have := hf.2
    omega
theorem low_zl {t : List PE} (h : LowT t) : ZL t := fun e he hq => by have h1 := h e he; rw [hq] at h1; cases h1
theorem low_good {xs : List En} (h : LowT (xs.map En.pl)) (hz : Small xs) : ∀ e ∈ xs, goodT e.p = true := fun e he => good_low.2 ⟨(hz e he).1, h e.pl (List.mem_map_of_mem he)⟩
theorem strz_at (j : Nat) : ((⟨#[47, 122]⟩ : ByteArray) ++ strOfNums [97 + (j : Int)]).data.toList = zP j := by
  have h : (97 + (j : Int)).toNat = 97 + j := by omega
  simp [strOfNums, zP, h]
/-- The state of a tree that is drawn. -/
def TreeIn (Q : List PE → Prop) (w0 w : World) (g p : Nat) (v : Value) : Prop :=
  ∃ (a : Option Addr) (c : Nat) (xs : List En), v = .slice a xs.length c ∧ DrawnT w g a c xs ∧ TOk (xs.map En.pl) ∧ Q (xs.map En.pl) ∧ Rd w g p ∧ Only g w0 w
set_option maxRecDepth 100000 in
set_option maxHeartbeats 8000000 in
theorem l2Tree_c (w : World) (g p : Nat) (hr : Rd w g p) (hp : p ≤ 500000) :
    Calls Tryz.prog 32 #[.pointer (some ⟨g, 0, none⟩)] w (TreePost w g p 2000) := by
  have hg := hr.lt
  have HR := Lib.hid hr
  clear hr
  have HB0 := bellow_alloc w (.cells #[] 39)
  have hd0 : DrawnT (w.alloc (.cells #[] 39)) g (some ⟨w.heap.size, 0, none⟩) 0 [] := ⟨w.heap.size, 0, rfl, hg, by simp, fun h => absurd h (by simp), Nat.zero_le _, Nat.zero_le _⟩
  have HD0 := Lib.hid hd0
  have HRD0 := Lib.hid (HR.out.alloc (.cells #[] 39))
  have HO0 := Lib.hid ((Only.refl g w).alloc (.cells #[] 39))
  have hs0 : (w.alloc (.cells #[] 39)).heap.size = w.heap.size + 1 := by simp
  have HNUM := Lib.hid (fun (cs : Array Value) (n : Nat) (hn : Hid (cs.size = n)) h0 h1 hs => num_c ((w.alloc (.cells #[] 39)).alloc (.cells cs 3)) g p (w.heap.size + 1) n cs 3 (HRD0.out.alloc _) (by omega) (by rw [← hs0]; exact heap_alloc_new _ _) (by omega) hn.out h0 h1 hs)
  clear hd0 HB0 hs0
  go_enter Tryz.func32, Tryz.ntmps32
  go_wp2_with fail
  refine (HNUM.out _ _ (by exact Lib.hid rfl) (by decide) (by decide) (by rfl)).mono ?_
  rintro e w1 ⟨z, p1, rfl, hz1, hz2, hp1, hrd1, ho1⟩
  have HT1 : Hid (TreeIn LowT w w1 g p1 (.slice (some ⟨w.heap.size, 0, none⟩) 0 0)) := ⟨_, 0, [], rfl, (HD0.out.only ((Only.refl _ _).alloc _)).only ho1, ⟨by simp, fun e h => by simp at h, by unfold Ord; simp, fun e h => by simp at h⟩, fun e h => by simp at h, hrd1, (HO0.out.alloc _).trans ho1⟩
  clear hrd1 ho1 HNUM HD0 HRD0 HO0
  go_wp2
  go_loopw [3, 4] (fun v i wr => ∃ (z' : Int) (p' : Nat), i = .int .i64 z' ∧ -10 ≤ z' ∧ z' ≤ 100 ∧ p' + 10 * z'.toNat ≤ p + 1001 ∧ TreeIn LowT w wr g p' v) (fun _ i _ => (intOf i).toNat)
  case atStart => exact ⟨z, p1, rfl, hz1, hz2, by omega, HT1.out⟩
  case round =>
    obtain ⟨z', p', rfl, hz1', hz2', hpz, a', c', ts, rfl, hdt, htok, hlow, hrd, ho⟩ := hrel
    have hts : ts.length ≤ 16 := by have := htok.most; rw [List.length_map] at this; exact this
    have HTK := Lib.hid htok
    have HO := Lib.hid ho
    have HLOW := Lib.hid hlow
    clear htok ho hlow
    by_cases hpos : 0 < z'
    · have HL := Lib.hid (l2Op_c goodT (fun _ h => h) wr g p' hrd (by omega) a' c' ts hdt (low_good HLOW.out (tok_small HTK.out)) (by omega))
      have HDT := Lib.hid hdt
      obtain ⟨n, hn⟩ : ∃ n, ts.length = n := ⟨_, rfl⟩
      have HN := Lib.hid hn
      rw [hn] at HL ⊢
      clear hrd hdt hn
      go_wp2_with fail
      refine HL.out.mono ?_; rintro e w2 ⟨k, P, T, D, p2, rfl, hgP, hgT, hD, hp2, hrd2, ho2⟩; have hP := goodT_size hgP; have hT := goodT_size hgT; have HLD := Lib.hid (low_do (k := k) (x := D.data.toList) HTK.out HLOW.out (good_low.1 hgP).2 (good_low.1 hgT).2); clear hgP hgT
      have HD2 := Lib.hid (HDT.out.only ho2)
      have HS := Lib.hid (sTreeDo_c a' c' ts k P T D w2 HD2.out.read (by omega) (by omega) (by omega) (by omega) (tok_small HTK.out).mil)
      have hg2 := hrd2.lt
      have HRD2 := Lib.hid hrd2
      have HO2 := Lib.hid (HO.out.trans ho2)
      rw [HN.out] at HS
      clear hrd2 ho2 HL
      go_wp2_with fail
      refine HS.out.mono ?_; rintro e w3 ⟨v3, ms, rfl, hms, how, hq3⟩
      obtain ⟨a3, c3, rfl, hd3⟩ := how.drawn hg2
      have HX : Hid (TreeIn LowT w w3 g p2 (.slice a3 ms.length c3)) := ⟨a3, c3, ms, rfl, hd3, by rw [hms]; exact tdo_tok HTK.out, by rw [hms]; exact HLD.out, HRD2.out.keep hq3 hg2, HO2.out.trans (Only.of_below hq3)⟩
      clear hms how hd3 hq3 HS
      go_wp2
      go_roundw
      case rel => exact ⟨z' - 1, p2, by go_num, by omega, by omega, by omega, HX.out⟩
      case measure => simp [intOf]; omega
    · have HK := Lib.hid (pick_c wr g p' 20 hrd (by omega) (by omega) (by omega))
      have hgz : decide ((0 : Int) < z') = false := by rw [decide_eq_false_iff_not]; exact hpos
      have HDT := Lib.hid hdt
      clear hrd hdt
      go_wp2_with fail
      refine HK.out.mono ?_; rintro e w2 ⟨m, rfl, _, _, hrd2, ho2⟩
      have HT2 : Hid (TreeIn (FillT 0) w w2 g (p' + 1) (.slice a' ts.length c')) := ⟨a', c', ts, rfl, HDT.out.only ho2, HTK.out, fill_0 HLOW.out, hrd2, HO.out.trans ho2⟩
      clear hrd2 ho2 HK
      by_cases hm : m = 0
      · subst hm
        go_wp2
        go_loopw [3, 5] (fun v i wr => ∃ (j : Nat), i = .int .i64 j ∧ j ≤ 26 ∧ TreeIn (FillT j) w wr g (p' + 1) v) (fun _ i _ => 26 - (intOf i).toNat)
        case atStart => exact ⟨0, rfl, by omega, HT2.out⟩
        case round =>
          obtain ⟨j, rfl, hj, a4, c4, us, rfl, hdt, htok, hfill, hrd, ho⟩ := hrel
          have hus : us.length ≤ 16 := by have := htok.most; rw [List.length_map] at this; exact this
          have HTK4 := Lib.hid htok
          have HO4 := Lib.hid ho
          have HD4 := Lib.hid hdt
          have HR4 := Lib.hid hrd
          have HFL := Lib.hid hfill
          clear htok ho hdt hrd hfill
          by_cases hj26 : j < 26
          · by_cases hfull : us.length < 16
            · have hb4 := bellow_alloc wr (.cells #[.int .u8 (97 + (j : Int))] 5)
              have hcv := run_convert_bytes_arg (P := Tryz.prog) (wr.alloc (.cells #[.int .u8 (97 + (j : Int))] 5)) 22 5 Tryz.underlying22 Tryz.underlying5 wr.heap.size 0 1 1 [97 + (j : Int)] rfl (fun i hi => by
                obtain rfl : i = 0 := by omega
                exact new_cell wr _ _ 0 _ rfl) 9 Tryz.underlying9
              have hs1 : (strOfNums [97 + (j : Int)]).size = 1 := strOfNums_size _
              have hsz : ((⟨#[47, 122]⟩ : ByteArray) ++ strOfNums [97 + (j : Int)]).size ≤ 2000000 := by rw [ByteArray.size_append, hs1]; decide
              have HS := Lib.hid (sTreeDo_c a4 c4 us 2 ((⟨#[47, 122]⟩ : ByteArray) ++ strOfNums [97 + (j : Int)]) ⟨#[]⟩ ⟨#[]⟩ (wr.alloc (.cells #[.int .u8 (97 + (j : Int))] 5)) (HD4.out.read.below hb4) (by omega) hsz (by decide) (by decide) (tok_small HTK4.out).mil)
              have HFD := Lib.hid (fill_do HTK4.out hj26 HFL.out (by rw [List.length_map]; exact hfull))
              have hg4 := HR4.out.lt
              have hl1 : ((us.length : Nat) : Int) < 16 := by omega
              obtain ⟨n4, hn4⟩ : ∃ n, us.length = n := ⟨_, rfl⟩
              rw [hn4] at HS hl1 ⊢
              clear hs1 hsz hn4
              go_wp2_with fail
              refine HS.out.mono ?_; rintro e w5 ⟨v5, ms, rfl, hms, how, hq5⟩
              obtain ⟨a5, c5, rfl, hd5⟩ := how.drawn (g := g) (by simp; omega)
              have HX : Hid (TreeIn (FillT (j + 1)) w w5 g (p' + 1) (.slice a5 ms.length c5)) := ⟨a5, c5, ms, rfl, hd5, by rw [hms]; exact tdo_tok HTK4.out, by rw [hms, strz_at]; exact HFD.out, (HR4.out.alloc _).keep hq5 (by simp; omega), (HO4.out.alloc _).trans (Only.of_below hq5)⟩
              clear hms how hd5 hq5 HS hcv
              go_wp2
              go_roundw
              case rel => exact ⟨j + 1, by go_num, by omega, HX.out⟩
              case measure => simp [intOf]; omega
            · have hl1 : decide (((us.length : Nat) : Int) < 16) = false := by rw [decide_eq_false_iff_not]; omega
              go_wp2
              go_ret
              exact ⟨a4, c4, us, p' + 1, rfl, HD4.out, HTK4.out, fill_zl HTK4.out HFL.out, by omega, HR4.out, HO4.out⟩
          · obtain rfl : j = 26 := by omega
            go_wp2
            go_ret
            exact ⟨a4, c4, us, p' + 1, rfl, HD4.out, HTK4.out, fill_zl HTK4.out HFL.out, by omega, HR4.out, HO4.out⟩
      · have hmz : ((m : Int) == 0) = false := by rw [beq_eq_false_iff_ne]; omega
        obtain ⟨a4, c4, us, he, hdt, htok, hfl, hrd, ho⟩ := HT2.out
        injection he with he1 he2 he3
        have HFIN : Hid (TreePost w g p 2000 (.returned (.slice a' ts.length c')) w2) := by
          obtain ⟨a4, c4, us, he, h1, h2, h5, h3, h4⟩ := HT2.out
          exact ⟨a4, c4, us, p' + 1, by rw [he], h1, h2, fill_zl h2 h5, by omega, h3, h4⟩
        clear he1 he2 he3 hdt htok hrd ho hfl
        go_wp2
        go_ret
        exact HFIN.out
end Go.Proofs.YtdhbdcmnbhjjaaaGreatDoor
namespace Go.Proofs.YtdhbdcmnbhjjaaaGreatDoor
open Go.RowKit
/-- One cell of a row of structs stored. -/
theorem flat_set {α : Type} {f : α → List Value} (hf : ∀ x, (f x).length = 3) {j : Nat} (hj : j < 3) {u : Value} {e' : α} : ∀ (xs : List α) (k : Nat) (e : α), xs[k]? = some e → f e' = (f e).set j u → (xs.flatMap f).set (k * 3 + j) u = (xs.set k e').flatMap f := by
  intro xs
  induction xs with
  | nil => intro k e he; simp at he
  | cons x r ih =>
    intro k e he hs
    cases k with
    | zero =>
      simp at he; subst he
      rw [List.flatMap_cons, List.set_cons_zero, List.flatMap_cons, Nat.zero_mul, Nat.zero_add, List.set_append_left _ _ (by rw [hf]; exact hj), hs]
    | succ k =>
      rw [List.flatMap_cons, List.set_cons_succ, List.flatMap_cons, List.set_append_right _ _ (by rw [hf]; omega), show (k + 1) * 3 + j - (f x).length = k * 3 + j by rw [hf]; omega]
      rw [ih k e (by simpa using he) hs]
/-- Entries with short texts, and paths of which F says yes. -/
def SmF (F : ByteArray → Bool) (xs : List En) : Prop := ∀ e ∈ xs, (e.p.size ≤ 20 ∧ e.x.size ≤ 20) ∧ F e.p = true
theorem SmF.small {F : ByteArray → Bool} {xs : List En} (h : SmF F xs) : Small xs := fun e he => (h e he).1
/-- What a bending leaves. -/
def BentPost (F : ByteArray → Bool) (w : World) (g p q N : Nat) (e : Ending) (w' : World) : Prop :=
  ∃ (a : Option Addr) (c : Nat) (xs : List En) (p' : Nat), e = .returned (.slice a xs.length c) ∧ DrawnT w' g a c xs ∧ SmF F xs ∧ xs.length ≤ N ∧ p' ≤ p + q ∧ Rd w' g p' ∧ Only g w w'
theorem small_set {F : ByteArray → Bool} {xs : List En} (h : SmF F xs) (k : Nat) (e : En) (he : (e.p.size ≤ 20 ∧ e.x.size ≤ 20) ∧ F e.p = true) : SmF F (xs.set k e) := fun x hx => by
  rcases List.mem_or_eq_of_mem_set hx with h1 | h1
  · exact h x h1
  · rw [h1]; exact he
theorem ret_len {a : Option Addr} {c n m : Nat} (h : m = n) : Ending.returned (.slice a n c) = .returned (.slice a m c) := by rw [h]
theorem cell_gr' {w w' : World} {own : Option Nat} {a : Addr} {v : Value} (hg : w.grownBy w' own) (h : w.cell? a = some v) (hne : own ≠ some a.block) : w'.cell? a = some v := by
  have hb := hg.block a.block (World.block_lt_of_cell? _ _ h) (Ne.symm hne)
  rw [← h]
  unfold World.cell?
  simp only [hb]
theorem own_only {w w' : World} {B g : Nat} {e : TypeId} {size : Nat} {v : Value} {n : Nat} {xs : List Value} (h : w.ownsRow B e size v n xs) (ho : Only g w w') (hg : g < B) : w'.ownsRow B e size v n xs := by
  refine h.kept ho ?_
  cases hb : v.ownBlock with
  | none => exact .inl rfl
  | some k => exact .inr fun e => by have := (h.lt k hb).1; injection e with e; omega
theorem only_grown {w w1 w2 : World} {g : Nat} {own : Option Nat} (h : Only g w w1) (hg : w1.grownBy w2 own) (ho : ∀ k, own = some k → w.heap.size ≤ k) : Only g w w2 :=
  ⟨hg.os.trans h.os, hg.tape.trans h.tape, hg.output.trans h.output, Nat.le_trans h.size hg.size, fun i hi hne => (hg.block i (Nat.lt_of_lt_of_le hi h.size) (fun e => by have := ho i e.symm; omega)).trans (h.block i hi hne)⟩
theorem Rd.grown {w w' : World} {g p : Nat} {own : Option Nat} (h : Rd w g p) (hg : w.grownBy w' own) (ho : ∀ k, own = some k → g < k) : Rd w' g p := by
  have hlt := h.lt
  obtain ⟨a, n, c, h1, h2, h3, h4⟩ := h
  refine ⟨a, n, c, (hg.block g hlt (fun e => by have := ho g e.symm; omega)).trans h1, h2, h3, fun hn => ?_⟩
  obtain ⟨b, off, e, hb, hc⟩ := h4 hn
  exact ⟨b, off, e, hb, fun k hk => by
    obtain ⟨x, h5, h6, h7⟩ := hc k hk
    exact ⟨x, h5, h6, cell_gr' hg h7 (fun e => by have := ho b e; omega)⟩⟩
theorem bent_own {w : World} {B : Nat} {v : Value} {n : Nat} {xs : List En} {ad : Addr} {cc : Nat} (hn : xs.length = n) (h : w.ownsRow B 39 3 v (0 + xs.length) ([] ++ xs.flatMap En.cells)) (hnil : v = .slice none 0 0 ↔ Value.slice (some ad) 0 cc = .slice none 0 0 ∧ xs.length = 0) :
    ∃ b c, v = .slice (some ⟨b, 0, none⟩) n c ∧ n ≤ c ∧ c ≤ maxLen ∧ w.ownsRow B 39 3 (.slice (some ⟨b, 0, none⟩) n c) n (xs.flatMap En.cells) := by
  rw [Nat.zero_add, List.nil_append, hn] at h
  have h0 := h
  rcases h.2 with ⟨h1, _⟩ | ⟨g, cap, cur, rfl, hg, hh, hnc, hm, h2, h3⟩
  · have := hnil.1 h1; simp at this
  · exact ⟨g, cap, rfl, hnc, hm, h0⟩
theorem drawn_own {w : World} {g B b c : Nat} {xs : List En} (h : w.ownsRow B 39 3 (.slice (some ⟨b, 0, none⟩) xs.length c) xs.length (xs.flatMap En.cells)) (hg : g < B) (hc : xs.length ≤ c) (hm : c ≤ maxLen) : DrawnT w g (some ⟨b, 0, none⟩) c xs :=
  ⟨b, 0, rfl, Nat.lt_of_lt_of_le hg (h.lt b rfl).1, (h.lt b rfl).2, own_slf (fun _ => rfl) h, hc, hm⟩
set_option maxRecDepth 100000 in
set_option maxHeartbeats 8000000 in
theorem l2Bent_c (F : ByteArray → Bool) (hF : ∀ s, goodT s = true → F s = true) (w : World) (g p : Nat) (hr : Rd w g p) (hp : p ≤ 900000) (a : Option Addr) (c : Nat) (xs : List En) (ht : DrawnT w g a c xs) (hz : SmF F xs) (hx : xs.length ≤ 1000) :
    Calls Tryz.prog 31 #[.pointer (some ⟨g, 0, none⟩), .slice a xs.length c] w (BentPost F w g p 4 (xs.length + 1)) := by
  have HE := eltEn
  have hg := hr.lt
  have HZ := Lib.hid hz
  have HR := Lib.hid hr
  have HB0 := bellow_alloc w (.cells #[] 39)
  have HRD := Lib.hid (ht.read.below HB0)
  obtain ⟨b0, off, rfl, _, hsl, _⟩ := HRD.out
  have hsl' := Lib.hid hsl
  have hown0 : Hid ((w.alloc (.cells #[] 39)).ownsRow w.heap.size 39 3 (.slice (some ⟨w.heap.size, 0, none⟩) 0 0) 0 []) := World.ownsRow_lit w #[] 0 (Nat.le_refl _) (Nat.zero_le _) rfl
  obtain ⟨n, hn⟩ : ∃ n, xs.length = n := ⟨_, rfl⟩
  have HN := Lib.hid hn
  rw [hn] at hx ⊢
  clear hsl ht hr hn hz
  by_cases hn0 : n = 0
  · subst hn0
    go_enter Tryz.func31, Tryz.ntmps31
    go_wp2_with (at_builtin; go_must (refine wp_appN (by rfl) _ _ 23 (by rfl) HE w.heap.size w.heap.size w _ _ 0 [] (by rfl) En.cells (fun _ => rfl) en_one xs b0 off 0 c HN.out (by rfl) hsl'.out hown0.out (by rw [HN.out]; omega) HB0.size HB0 (Nat.le_refl _) ?_); intro v2 w2 hown3 hbel3 hnil; obtain ⟨b, c5, rfl, hc5, hcm, how⟩ := bent_own HN.out hown3 hnil; clear hown3 hnil)
    have HRD2 := Lib.hid (HR.out.keep hbel3 hg)
    have HO2 : Hid (Only g w w2) := Only.of_below hbel3
    have hgb : w.heap.size ≤ b := (how.lt b rfl).1
    have HOW := Lib.hid how
    clear hbel3 how HB0 hsl' hown0 HRD
    go_ret
    exact ⟨some ⟨b, 0, none⟩, c5, xs, p, ret_len HN.out, drawn_own (B := w.heap.size) (by rw [HN.out]; exact HOW.out) hg (by rw [HN.out]; omega) hcm, HZ.out, by rw [HN.out]; omega, by omega, HRD2.out, HO2.out⟩
  have n0 : ((n : Int) == 0) = false := by rw [beq_eq_false_iff_ne]; omega
  go_enter Tryz.func31, Tryz.ntmps31
  go_wp2_with (at_builtin; go_must (refine wp_appN (by rfl) _ _ 23 (by rfl) HE w.heap.size w.heap.size w _ _ 0 [] (by rfl) En.cells (fun _ => rfl) en_one xs b0 off n c HN.out (by rfl) hsl'.out hown0.out (by rw [HN.out]; omega) HB0.size HB0 (Nat.le_refl _) ?_); intro v2 w2 hown3 hbel3 hnil; obtain ⟨b, c5, rfl, hc5, hcm, how⟩ := bent_own HN.out hown3 hnil; clear hown3 hnil)
  have HRD2 := Lib.hid (HR.out.keep hbel3 hg)
  have HO2 : Hid (Only g w w2) := Only.of_below hbel3
  have hgb : w.heap.size ≤ b := (how.lt b rfl).1
  have HOW := Lib.hid how
  clear hbel3 how HB0 hsl' hown0 HRD
  have HK := Lib.hid (pick_c w2 g p (n : Int) HRD2.out (by omega) (by omega) (by omega))
  clear HRD2
  refine HK.out.mono ?_; rintro e w3 ⟨k, rfl, _, hkn, hrd3, ho3⟩
  have hk : k < n := by have := hkn (by omega); omega
  have HOW3 := Lib.hid (own_only HOW.out ho3 hg)
  have HO3 := Lib.hid (HO2.out.trans ho3)
  have HK2 := Lib.hid (pick_c w3 g (p + 1) 50 hrd3 (by omega) (by omega) (by omega))
  clear hkn hrd3 ho3 HK HOW HO2
  go_wp2_with fail
  refine HK2.out.mono ?_; rintro e w4 ⟨m, rfl, _, _, hrd, ho4⟩
  have hown := own_only HOW3.out ho4 hg
  have HOX := Lib.hid (HO3.out.trans ho4)
  obtain ⟨⟨ep, ed, ex⟩, hee⟩ : ∃ e, xs[k]? = some e := ⟨_, List.getElem?_eq_getElem (by rw [HN.out]; exact hk)⟩
  have hes := HZ.out ⟨ep, ed, ex⟩ (List.mem_of_getElem? hee)
  have hsx : SlF En.cells w4 (some ⟨b, 0, none⟩) xs := own_slfN (fun _ => rfl) hown HN.out
  obtain ⟨d0, d1, d2⟩ := en_at hsx k ⟨ep, ed, ex⟩ hee
  have i0 : (0 : Int) ≤ (k : Int) := by omega
  have i1 : (k : Int) < (n : Int) := by omega
  rw [Nat.zero_add] at d0 d1 d2
  clear ho4 HK2 HOW3 HO3
  by_cases m0 : m = 0
  · subst m0
    have HRDX := Lib.hid hrd
    have HSM : Hid (SmF F (xs ++ [(⟨ep, ed, ex⟩ : En)])) := fun x hx => by
      rcases List.mem_append.1 hx with h | h
      · exact HZ.out x h
      · rw [List.mem_singleton.1 h]; exact hes
    clear hrd hsx hee
    go_wp2_with (at_builtin; go_must (refine wp_app1H (by rfl) _ _ 23 (by rfl) HE w.heap.size w.heap.size w4 _ #[.string ep, .bool ed, .string ex] _ _ _ (by rfl) w4.heap.size (by simp) (by rfl) hown (by rfl) (by simp [Value.oneCell']) (by omega) HOX.out.size (Below.refl _ _) (Nat.le_refl _) ?_); intro v' w5 hown1 _ _ hgr)
    have hown2 : w5.ownsRow w.heap.size 39 3 v' (xs ++ [(⟨ep, ed, ex⟩ : En)]).length ((xs ++ [(⟨ep, ed, ex⟩ : En)]).flatMap En.cells) := by
      rw [← flat_app, List.length_append, HN.out]; exact hown1
    obtain ⟨b9, c9, rfl, h91, h92, h93⟩ : OwnRe w5 w.heap.size v' (xs ++ [(⟨ep, ed, ex⟩ : En)]) := by
      refine ownRe_of hown2 (own_some hown1 (fun hv => ?_))
      have h2 := hown1
      rw [hv] at h2
      rcases h2.2 with ⟨_, h3⟩ | ⟨_, _, _, h3, _⟩
      · omega
      · cases h3
    have hbk : ∀ k, (Value.slice (some ⟨b, 0, none⟩) n c5).ownBlock = some k → w.heap.size ≤ k := fun k hk => by
      have : b = k := by simpa [Value.ownBlock] using hk
      omega
    have HO9 := Lib.hid (only_grown (HOX.out.alloc _) hgr hbk)
    have HR9 := Lib.hid ((HRDX.out.alloc _).grown hgr (fun k hk => Nat.lt_of_lt_of_le hg (hbk k hk)))
    clear hown1 hown2 hgr
    go_wp2
    go_ret
    exact ⟨_, c9, _, p + 1 + 1, rfl, drawn_own h93 hg h91 h92, HSM.out, by simp [HN.out], by omega, HR9.out, HO9.out⟩
  have n0' : ((m : Int) == 0) = false := by rw [beq_eq_false_iff_ne]; omega
  by_cases m1 : m = 1
  · subst m1
    have HNU := Lib.hid (fun (cs : Array Value) (n : Nat) (hn : Hid (cs.size = n)) h0 h1 hs => ofF_c goodT (w4.alloc (.cells cs 9)) g (p + 1 + 1) w4.heap.size n cs 9 (hrd.alloc _) (by omega) (heap_alloc_new w4 _) (by have := hrd.lt; omega) hn.out h0 h1 hs)
    have HEE := Lib.hid hee
    have HOWN := Lib.hid hown
    clear hrd hsx hee d0 d1 d2 hown
    go_wp2_with fail
    refine (HNU.out _ _ (by exact Lib.hid rfl) (by decide) (by decide) (by kernel_rfl)).mono ?_
    rintro e w5 ⟨s, p6, rfl, hs, hp6, hrd6, ho6⟩
    have hown5 := own_only (own_below HOWN.out (bellow_alloc w4 _)) ho6 hg
    have d0 := hown5.cellAt (k * 3) (by omega)
    obtain ⟨x0, hx0⟩ : ∃ u, (xs.flatMap En.cells)[k * 3]? = some u := ⟨_, List.getElem?_eq_getElem (by rw [flatMap_len (fun _ => rfl), HN.out]; omega)⟩
    rw [hx0] at d0
    have f0 := hown5.frozenAt (k * 3)
    have HST := Lib.hid (hown5.stored (k * 3 + 0) (.string s))
    rw [flat_set (fun _ => rfl) (by decide : 0 < 3) xs k ⟨ep, ed, ex⟩ HEE.out (e' := (⟨s, ed, ex⟩ : En)) rfl] at HST
    have HSM := Lib.hid (small_set HZ.out k (⟨s, ed, ex⟩ : En) ⟨⟨goodT_size hs, hes.1.2⟩, hF s hs⟩)
    have HRD6 := Lib.hid (hrd6.set ⟨b, k * 3 + 0, none⟩ (.string s) (by show g < b; omega))
    have HO6 := Lib.hid (((HOX.out.alloc _).trans ho6).setCell (p := ⟨b, k * 3 + 0, none⟩) (.inr (by show w.heap.size ≤ b; omega)) (.string s))
    clear hown5 hx0 hrd6 ho6 HNU
    go_wp2
    go_ret
    exact ⟨some ⟨b, 0, none⟩, c5, xs.set k (⟨s, ed, ex⟩ : En), p6, ret_len (by rw [List.length_set, HN.out]), drawn_own (B := w.heap.size) (by rw [List.length_set, HN.out]; exact HST.out.1) hg (by rw [List.length_set, HN.out]; exact hc5) hcm, HSM.out, by rw [List.length_set, HN.out]; omega, by omega, HRD6.out, HO6.out⟩
  have n1' : ((m : Int) == 1) = false := by rw [beq_eq_false_iff_ne]; omega
  by_cases m2 : m = 2
  · subst m2
    have HEE := Lib.hid hee
    have hown5 := hown
    have f0 := hown5.frozenAt (k * 3 + 1)
    have hrd6 := hrd
    have ho6 := Only.refl g w4
    have p6 := p + 1 + 1
    have HOX6 := Lib.hid HOX.out
    have HST := Lib.hid (hown.stored (k * 3 + 1) (.bool !ed))
    rw [flat_set (fun _ => rfl) (by decide : 1 < 3) xs k ⟨ep, ed, ex⟩ HEE.out (e' := (⟨ep, !ed, ex⟩ : En)) rfl] at HST
    have HSM := Lib.hid (small_set HZ.out k (⟨ep, !ed, ex⟩ : En) hes)
    have HRD6 := Lib.hid (hrd.set ⟨b, k * 3 + 1, none⟩ (.bool !ed) (by show g < b; omega))
    have HO6 := Lib.hid (HOX.out.setCell (p := ⟨b, k * 3 + 1, none⟩) (.inr (by show w.heap.size ≤ b; omega)) (.bool !ed))
    clear hown5 hown hsx hrd6 ho6 hrd HOX6 p6 hee
    go_wp2
    go_ret
    exact ⟨some ⟨b, 0, none⟩, c5, xs.set k (⟨ep, !ed, ex⟩ : En), p + 1 + 1, ret_len (by rw [List.length_set, HN.out]), drawn_own (B := w.heap.size) (by rw [List.length_set, HN.out]; exact HST.out.1) hg (by rw [List.length_set, HN.out]; exact hc5) hcm, HSM.out, by rw [List.length_set, HN.out]; omega, by omega, HRD6.out, HO6.out⟩
  have n2' : ((m : Int) == 2) = false := by rw [beq_eq_false_iff_ne]; omega
  by_cases m3 : m = 3
  · subst m3
    have HNU := Lib.hid (fun (cs : Array Value) (n : Nat) (hn : Hid (cs.size = n)) h0 h1 hs => of_c (w4.alloc (.cells cs 9)) g (p + 1 + 1) w4.heap.size n cs 9 (hrd.alloc _) (by omega) (heap_alloc_new w4 _) (by have := hrd.lt; omega) hn.out h0 h1 hs)
    have HEE := Lib.hid hee
    have HOWN := Lib.hid hown
    clear hrd hsx hee d0 d1 d2 hown
    go_wp2_with fail
    refine (HNU.out _ _ (by exact Lib.hid rfl) (by decide) (by decide) (by rfl)).mono ?_
    rintro e w5 ⟨s, p6, rfl, hs, hp6, hrd6, ho6⟩
    have hown5 := own_only (own_below HOWN.out (bellow_alloc w4 _)) ho6 hg
    have d0 := hown5.cellAt (k * 3 + 2) (by omega)
    obtain ⟨x0, hx0⟩ : ∃ u, (xs.flatMap En.cells)[k * 3 + 2]? = some u := ⟨_, List.getElem?_eq_getElem (by rw [flatMap_len (fun _ => rfl), HN.out]; omega)⟩
    rw [hx0] at d0
    have f0 := hown5.frozenAt (k * 3 + 2)
    have HST := Lib.hid (hown5.stored (k * 3 + 2) (.string s))
    rw [flat_set (fun _ => rfl) (by decide : 2 < 3) xs k ⟨ep, ed, ex⟩ HEE.out (e' := (⟨ep, ed, s⟩ : En)) rfl] at HST
    have HSM := Lib.hid (small_set HZ.out k (⟨ep, ed, s⟩ : En) ⟨⟨hes.1.1, hs⟩, hes.2⟩)
    have HRD6 := Lib.hid (hrd6.set ⟨b, k * 3 + 2, none⟩ (.string s) (by show g < b; omega))
    have HO6 := Lib.hid (((HOX.out.alloc _).trans ho6).setCell (p := ⟨b, k * 3 + 2, none⟩) (.inr (by show w.heap.size ≤ b; omega)) (.string s))
    clear hown5 hx0 hrd6 ho6 HNU
    go_wp2
    go_ret
    exact ⟨some ⟨b, 0, none⟩, c5, xs.set k (⟨ep, ed, s⟩ : En), p6, ret_len (by rw [List.length_set, HN.out]), drawn_own (B := w.heap.size) (by rw [List.length_set, HN.out]; exact HST.out.1) hg (by rw [List.length_set, HN.out]; exact hc5) hcm, HSM.out, by rw [List.length_set, HN.out]; omega, by omega, HRD6.out, HO6.out⟩
  have n3' : ((m : Int) == 3) = false := by rw [beq_eq_false_iff_ne]; omega
  have HRDX := Lib.hid hrd
  have HOWN := Lib.hid hown
  have HSX := Lib.hid hsx
  clear hrd hown hsx hee d0 d1 d2
  by_cases m4 : m = 4
  · subst m4
    have i2 : (1 : Int) ≤ (n : Int) := by omega
    have i3 : (1 : Int) ≤ (c5 : Int) := by omega
    have HDR := Lib.hid (HSX.out.drop 1)
    have hlt : b < w4.heap.size := (HOWN.out.lt b rfl).2
    by_cases hc1 : c5 = 1
    · subst hc1
      obtain rfl : n = 1 := by omega
      have HFIN : Hid (BentPost F w g p 4 (1 + 1) (.returned (.slice (some ⟨b, 0, none⟩) 0 0)) w4) := ⟨some ⟨b, 0, none⟩, 0, [], p + 1 + 1, rfl, ⟨b, 0, rfl, by omega, hlt, fun h => absurd h (by simp), Nat.zero_le _, Nat.zero_le _⟩, fun x hx => by simp at hx, by simp, by omega, HRDX.out, HOX.out⟩
      go_wp2
      all_goals first | (exfalso; omega) | skip
      all_goals go_ret
      all_goals exact HFIN.out
    · have HFIN : Hid (BentPost F w g p 4 (n + 1) (.returned (.slice (some ⟨b, 3, none⟩) (n - 1) (c5 - 1))) w4) := ⟨some ⟨b, 3, none⟩, c5 - 1, xs.drop 1, p + 1 + 1, ret_len (by rw [List.length_drop, HN.out]), ⟨b, 3, rfl, by omega, hlt, by simpa using HDR.out, by rw [List.length_drop, HN.out]; omega, by omega⟩, fun x hx => HZ.out x (List.mem_of_mem_drop hx), by rw [List.length_drop, HN.out]; omega, by omega, HRDX.out, HOX.out⟩
      go_wp2
      all_goals first | (exfalso; omega) | skip
      all_goals go_ret
      all_goals exact HFIN.out
  · have n4' : ((m : Int) == 4) = false := by rw [beq_eq_false_iff_ne]; omega
    go_wp2
    go_ret
    exact ⟨some ⟨b, 0, none⟩, c5, xs, p + 1 + 1, ret_len HN.out, drawn_own (B := w.heap.size) (by rw [HN.out]; exact HOWN.out) hg (by rw [HN.out]; exact hc5) hcm, HZ.out, by rw [HN.out]; omega, by omega, HRDX.out, HOX.out⟩
/-- A short text. -/
def le20 (s : ByteArray) : Bool := decide (s.size ≤ 20)
theorem le20_good (s : ByteArray) (h : goodT s = true) : le20 s = true := by unfold le20; rw [decide_eq_true_eq]; exact goodT_size h
theorem le20_of {s : ByteArray} (h : le20 s = true) : s.size ≤ 20 := by unfold le20 at h; rwa [decide_eq_true_eq] at h
theorem small_le {xs : List En} (h : Small xs) : SmF le20 xs := fun e he => ⟨h e he, by unfold le20; rw [decide_eq_true_eq]; exact (h e he).1⟩
/-- A short text that is not zz in the root. -/
def nzz (s : ByteArray) : Bool := le20 s && (s.data.toList != [47, 122, 122])
theorem nzz_good (s : ByteArray) (h : goodT s = true) : nzz s = true := by
  unfold nzz
  rw [Bool.and_eq_true, bne_iff_ne]
  refine ⟨le20_good s h, fun hq => ?_⟩
  have h1 := (good_low.1 h).2
  rw [hq] at h1; cases h1
theorem small_nzz {xs : List En} (h : Small xs) (hz : ZL (xs.map En.pl)) : SmF nzz xs := fun e he => ⟨h e he, by
  unfold nzz
  rw [Bool.and_eq_true, bne_iff_ne]
  exact ⟨(small_le h e he).2, hz e.pl (List.mem_map_of_mem he)⟩⟩
theorem nzz_zl {xs : List En} (h : SmF nzz xs) : ZL (xs.map En.pl) := fun e he => by
  obtain ⟨f, hf, rfl⟩ := List.mem_map.1 he
  have h1 := (h f hf).2
  unfold nzz at h1
  rw [Bool.and_eq_true, bne_iff_ne] at h1
  exact h1.2
end Go.Proofs.YtdhbdcmnbhjjaaaGreatDoor
namespace Go.Proofs.YtdhbdcmnbhjjaaaGreatDoor
open Go.RowKit
/-- A tree and a text, drawn. -/
def TreeTextPost (w : World) (e : Ending) (w' : World) : Prop :=
  ∃ (a : Option Addr) (c : Nat) (xs : List En) (s : ByteArray), e = .returned (.tuple #[.slice a xs.length c, .string s]) ∧ ReadEn w' a c xs ∧ Small xs ∧ xs.length ≤ 20 ∧ s.size ≤ 20 ∧ Below w.heap.size w w'
/-- A tree, drawn. -/
def OneTreePost (w : World) (e : Ending) (w' : World) : Prop :=
  ∃ (a : Option Addr) (c : Nat) (xs : List En), e = .returned (.slice a xs.length c) ∧ ReadEn w' a c xs ∧ Small xs ∧ xs.length ≤ 25 ∧ ZL (xs.map En.pl) ∧ Below w.heap.size w w'
/-- Two trees, drawn; the first is right. -/
def TwoTreePost (w : World) (e : Ending) (w' : World) : Prop :=
  ∃ (a : Option Addr) (c : Nat) (xs : List En) (a' : Option Addr) (c' : Nat) (ys : List En), e = .returned (.tuple #[.slice a xs.length c, .slice a' ys.length c']) ∧ ReadEn w' a c xs ∧ Small xs ∧ xs.length ≤ 25 ∧ ReadEn w' a' c' ys ∧ Small ys ∧ ys.length ≤ 25 ∧ Below w.heap.size w w'
/-- What is done, drawn. -/
def OneOpPost (w : World) (e : Ending) (w' : World) : Prop :=
  ∃ (k : Int) (P T D : ByteArray), e = .returned (opV k P T D) ∧ P.size ≤ 20 ∧ T.size ≤ 20 ∧ D.size ≤ 20 ∧ Below w.heap.size w w'
end Go.Proofs.YtdhbdcmnbhjjaaaGreatDoor
namespace Go.Proofs.YtdhbdcmnbhjjaaaGreatDoor
open Go.RowKit
set_option maxHeartbeats 1000000 in
theorem equalEnt_c (a a' : Option Addr) (c c' : Nat) (xs ys : List En) (r : Bool) (hr : Hid (r = true ↔ xs = ys)) (w : World) (hs : SlF En.cells w a xs) (hs' : SlF En.cells w a' ys) (hx : xs.length ≤ maxLen) (_hy : ys.length ≤ maxLen) :
    Calls Tryz.prog 41 #[.slice a xs.length c, .slice a' ys.length c'] w fun q w' => q = .returned (.bool r) ∧ ∃ m, w' = w.drewN m := by
  unfold maxLen at hx _hy
  by_cases hl : xs.length = ys.length
  · obtain ⟨n, hn⟩ : ∃ n, xs.length = n := ⟨_, rfl⟩
    have hn' : ys.length = n := by rw [← hl, hn]
    rw [hn] at hx ⊢
    rw [hn']
    have HN := Lib.hid hn
    have HN' := Lib.hid hn'
    have HS := Lib.hid hs
    have HS' := Lib.hid hs'
    have HE := Lib.hid (fun (h : ∀ (k : Nat) (x y : En), xs[k]? = some x → ys[k]? = some y → x = y) => differ hl h)
    clear hl hn hn' hs hs' _hy
    go_enter Tryz.func41, Tryz.ntmps41
    go_wp2
    go_loopw [5, 13] (fun _ i wr => ∃ k : Nat, k ≤ n ∧ i = .int .i64 k ∧ (∀ (j : Nat) (x y : En), j < k → xs[j]? = some x → ys[j]? = some y → x = y) ∧ ∃ m, wr = w.drewN m) (fun _ i _ => n - (intOf i).toNat)
    case atStart => exact ⟨0, Nat.zero_le _, rfl, fun j _ _ h => absurd h (by omega), 0, rfl⟩
    case round =>
      obtain ⟨k, hk, rfl, hall, m, rfl⟩ := hrel
      have HA := Lib.hid hall
      clear hall
      by_cases hlt : k < n
      · obtain ⟨e, hee⟩ : ∃ e, xs[k]? = some e := ⟨_, List.getElem?_eq_getElem (by rw [HN.out]; exact hlt)⟩
        obtain ⟨f, hff⟩ : ∃ e, ys[k]? = some e := ⟨_, List.getElem?_eq_getElem (by rw [HN'.out]; exact hlt)⟩
        have h2 := HS.out
        have h3 := HS'.out
        obtain ⟨b, off, rfl, _⟩ := h2.addr (by rw [HN.out]; omega)
        obtain ⟨b', off', rfl, _⟩ := h3.addr (by rw [HN'.out]; omega)
        obtain ⟨c0, c1, c2⟩ := en_at h2 k e hee
        obtain ⟨d0, d1, d2⟩ := en_at h3 k f hff
        have HEE := Lib.hid hee
        have HFF := Lib.hid hff
        have i0 : (0 : Int) ≤ (k : Int) := by omega
        have i1 : (k : Int) < (n : Int) := by omega
        clear h2 h3 hee hff
        by_cases hef : e = f
        · subst hef
          go_wp2_with fail
          go_quiet (fail)
          go_wp2
          go_roundw
          case rel => exact ⟨k + 1, by omega, by go_num, fun j x y hj h1 h2 => by
            by_cases ej : j = k
            · subst ej
              rw [HEE.out] at h1
              rw [HFF.out] at h2
              injection h1 with h1; injection h2 with h2
              rw [← h1, ← h2]
            · exact HA.out j x y (by omega) h1 h2, _, rfl⟩
          case measure => simp [intOf]; omega
        · obtain rfl : r = false := by
            cases r
            · rfl
            · have := hr.out.1 rfl
              rw [this, HFF.out] at HEE
              exact absurd (Option.some.inj HEE.out).symm hef
          obtain ⟨p, d, x⟩ := e
          obtain ⟨p', d', x'⟩ := f
          simp only at c0 c1 c2 d0 d1 d2
          by_cases h1 : p = p'
          · subst h1
            by_cases h2 : d = d'
            · subst h2
              have q := bq_no (s := x) (t := x') (fun h => hef (by rw [h]))
              clear hef HEE HFF
              go_wp2_with fail
              go_quiet (fail)
              go_wp2
              go_ret
              exact ⟨rfl, _, World.drewN_drewN _ _ _⟩
            · have q : (d == d') = false := by rw [beq_eq_false_iff_ne]; exact h2
              clear hef HEE HFF h2
              go_wp2_with fail
              go_quiet (fail)
              go_wp2
              go_ret
              exact ⟨rfl, _, World.drewN_drewN _ _ _⟩
          · have q := bq_no h1
            clear hef HEE HFF h1
            go_wp2_with fail
            go_quiet (fail)
            go_wp2
            go_ret
            exact ⟨rfl, _, World.drewN_drewN _ _ _⟩
      · obtain rfl : r = true := hr.out.2 (HE.out (fun j x y h1 h2 => HA.out j x y (by
          have := (List.getElem?_eq_some_iff.1 h1).1
          rw [HN.out] at this; omega) h1 h2))
        go_wp2
        go_ret
        exact ⟨rfl, _, rfl⟩
  · obtain rfl : r = false := by
      cases r
      · rfl
      · exact absurd (congrArg List.length (hr.out.1 rfl)) hl
    obtain ⟨n, hn⟩ : ∃ n, xs.length = n := ⟨_, rfl⟩
    obtain ⟨n', hn'⟩ : ∃ n, ys.length = n := ⟨_, rfl⟩
    rw [hn, hn'] at hl
    rw [hn] at hx ⊢
    rw [hn'] at _hy ⊢
    have q : ((n : Int) != (n' : Int)) = true := by rw [bne_iff_ne]; omega
    clear hr hs hs' hn hn' hl
    go_enter Tryz.func41, Tryz.ntmps41
    go_wp2
    go_ret
    exact ⟨rfl, 0, rfl⟩
set_option maxHeartbeats 1000000 in
theorem equalMark_c (a a' : Option Addr) (c c' : Nat) (xs ys : List Mk) (r : Bool) (hr : Hid (r = true ↔ xs = ys)) (w : World) (hs : SlF Mk.cells w a xs) (hs' : SlF Mk.cells w a' ys) (hx : xs.length ≤ maxLen) (_hy : ys.length ≤ maxLen) :
    Calls Tryz.prog 60 #[.slice a xs.length c, .slice a' ys.length c'] w fun q w' => q = .returned (.bool r) ∧ ∃ m, w' = w.drewN m := by
  unfold maxLen at hx _hy
  by_cases hl : xs.length = ys.length
  · obtain ⟨n, hn⟩ : ∃ n, xs.length = n := ⟨_, rfl⟩
    have hn' : ys.length = n := by rw [← hl, hn]
    rw [hn] at hx ⊢
    rw [hn']
    have HN := Lib.hid hn
    have HN' := Lib.hid hn'
    have HS := Lib.hid hs
    have HS' := Lib.hid hs'
    have HE := Lib.hid (fun (h : ∀ (k : Nat) (x y : Mk), xs[k]? = some x → ys[k]? = some y → x = y) => differ hl h)
    clear hl hn hn' hs hs' _hy
    go_enter Tryz.func60, Tryz.ntmps60
    go_wp2
    go_loopw [5, 13] (fun _ i wr => ∃ k : Nat, k ≤ n ∧ i = .int .i64 k ∧ (∀ (j : Nat) (x y : Mk), j < k → xs[j]? = some x → ys[j]? = some y → x = y) ∧ ∃ m, wr = w.drewN m) (fun _ i _ => n - (intOf i).toNat)
    case atStart => exact ⟨0, Nat.zero_le _, rfl, fun j _ _ h => absurd h (by omega), 0, rfl⟩
    case round =>
      obtain ⟨k, hk, rfl, hall, m, rfl⟩ := hrel
      have HA := Lib.hid hall
      clear hall
      by_cases hlt : k < n
      · obtain ⟨e, hee⟩ : ∃ e, xs[k]? = some e := ⟨_, List.getElem?_eq_getElem (by rw [HN.out]; exact hlt)⟩
        obtain ⟨f, hff⟩ : ∃ e, ys[k]? = some e := ⟨_, List.getElem?_eq_getElem (by rw [HN'.out]; exact hlt)⟩
        have h2 := HS.out
        have h3 := HS'.out
        obtain ⟨b, off, rfl, _⟩ := h2.addr (by rw [HN.out]; omega)
        obtain ⟨b', off', rfl, _⟩ := h3.addr (by rw [HN'.out]; omega)
        obtain ⟨c0, c1, c2⟩ := mk_at h2 k e hee
        obtain ⟨d0, d1, d2⟩ := mk_at h3 k f hff
        have HEE := Lib.hid hee
        have HFF := Lib.hid hff
        have i0 : (0 : Int) ≤ (k : Int) := by omega
        have i1 : (k : Int) < (n : Int) := by omega
        clear h2 h3 hee hff
        by_cases hef : e = f
        · subst hef
          go_wp2_with fail
          go_quiet (fail)
          go_wp2
          go_roundw
          case rel => exact ⟨k + 1, by omega, by go_num, fun j x y hj h1 h2 => by
            by_cases ej : j = k
            · subst ej
              rw [HEE.out] at h1
              rw [HFF.out] at h2
              injection h1 with h1; injection h2 with h2
              rw [← h1, ← h2]
            · exact HA.out j x y (by omega) h1 h2, _, rfl⟩
          case measure => simp [intOf]; omega
        · obtain rfl : r = false := by
            cases r
            · rfl
            · have := hr.out.1 rfl
              rw [this, HFF.out] at HEE
              exact absurd (Option.some.inj HEE.out).symm hef
          obtain ⟨p, d, x⟩ := e
          obtain ⟨p', d', x'⟩ := f
          simp only at c0 c1 c2 d0 d1 d2
          by_cases h1 : p = p'
          · subst h1
            by_cases h2 : d = d'
            · subst h2
              have q := bq_no (s := x) (t := x') (fun h => hef (by rw [h]))
              clear hef HEE HFF
              go_wp2_with fail
              go_quiet (fail)
              go_wp2
              go_ret
              exact ⟨rfl, _, World.drewN_drewN _ _ _⟩
            · have q : (d == d') = false := by rw [beq_eq_false_iff_ne]; exact h2
              clear hef HEE HFF h2
              go_wp2_with fail
              go_quiet (fail)
              go_wp2
              go_ret
              exact ⟨rfl, _, World.drewN_drewN _ _ _⟩
          · have q := bq_no h1
            clear hef HEE HFF h1
            go_wp2_with fail
            go_quiet (fail)
            go_wp2
            go_ret
            exact ⟨rfl, _, World.drewN_drewN _ _ _⟩
      · obtain rfl : r = true := hr.out.2 (HE.out (fun j x y h1 h2 => HA.out j x y (by
          have := (List.getElem?_eq_some_iff.1 h1).1
          rw [HN.out] at this; omega) h1 h2))
        go_wp2
        go_ret
        exact ⟨rfl, _, rfl⟩
  · obtain rfl : r = false := by
      cases r
      · rfl
      · exact absurd (congrArg List.length (hr.out.1 rfl)) hl
    obtain ⟨n, hn⟩ : ∃ n, xs.length = n := ⟨_, rfl⟩
    obtain ⟨n', hn'⟩ : ∃ n, ys.length = n := ⟨_, rfl⟩
    rw [hn, hn'] at hl
    rw [hn] at hx ⊢
    rw [hn'] at _hy ⊢
    have q : ((n : Int) != (n' : Int)) = true := by rw [bne_iff_ne]; omega
    clear hr hs hs' hn hn' hl
    go_enter Tryz.func60, Tryz.ntmps60
    go_wp2
    go_ret
    exact ⟨rfl, 0, rfl⟩
set_option maxHeartbeats 1000000 in
theorem treeSame_c (a a' : Option Addr) (c c' : Nat) (xs ys : List En) (r : Bool) (hr : Hid (r = true ↔ xs = ys)) (w : World) (hs : SlF En.cells w a xs) (hs' : SlF En.cells w a' ys) (hx : xs.length ≤ maxLen) (hy : ys.length ≤ maxLen) :
    Calls Tryz.prog 12 #[.slice a xs.length c, .slice a' ys.length c'] w fun q w' => q = .returned (.bool r) ∧ ∃ m, w' = w.drewN m := by
  have H := Lib.hid (equalEnt_c a a' c c' xs ys r hr w hs hs' hx hy)
  obtain ⟨n, hn⟩ : ∃ n, xs.length = n := ⟨_, rfl⟩
  obtain ⟨n', hn'⟩ : ∃ n, ys.length = n := ⟨_, rfl⟩
  rw [hn, hn'] at H
  rw [hn, hn']
  clear hr hs hs' hx hy hn hn'
  go_enter Tryz.func12, Tryz.ntmps12
  go_wp2_with fail
  refine H.out.mono ?_
  rintro q W ⟨rfl, m, rfl⟩
  go_wp2
  go_ret
  exact ⟨rfl, _, rfl⟩
set_option maxHeartbeats 1000000 in
theorem layerSame_c (a a' : Option Addr) (c c' : Nat) (xs ys : List Mk) (r : Bool) (hr : Hid (r = true ↔ xs = ys)) (w : World) (hs : SlF Mk.cells w a xs) (hs' : SlF Mk.cells w a' ys) (hx : xs.length ≤ maxLen) (hy : ys.length ≤ maxLen) :
    Calls Tryz.prog 23 #[.slice a xs.length c, .slice a' ys.length c'] w fun q w' => q = .returned (.bool r) ∧ ∃ m, w' = w.drewN m := by
  have H := Lib.hid (equalMark_c a a' c c' xs ys r hr w hs hs' hx hy)
  obtain ⟨n, hn⟩ : ∃ n, xs.length = n := ⟨_, rfl⟩
  obtain ⟨n', hn'⟩ : ∃ n, ys.length = n := ⟨_, rfl⟩
  rw [hn, hn'] at H
  rw [hn, hn']
  clear hr hs hs' hx hy hn hn'
  go_enter Tryz.func23, Tryz.ntmps23
  go_wp2_with fail
  refine H.out.mono ?_
  rintro q W ⟨rfl, m, rfl⟩
  go_wp2
  go_ret
  exact ⟨rfl, _, rfl⟩
end Go.Proofs.YtdhbdcmnbhjjaaaGreatDoor
namespace Go.Proofs.YtdhbdcmnbhjjaaaGreatDoor
open Go.RowKit
/-- What TreeList tells: the names and the code. -/
def MadeSc (L : List Bs) (m : Nat) (w : World) (e : Ending) (w' : World) : Prop :=
  ∃ (v : Value) (ss : List ByteArray), e = .returned (.tuple #[v, .int .i64 m]) ∧ ss.map (·.data.toList) = L ∧ w'.ownsRow w.heap.size 9 1 v ss.length (ss.map Value.string) ∧ Below w.heap.size w w'
open Classical in
noncomputable def tlistC (t : List PE) (q : Bs) : Nat := if TOk t ∧ (q = [47] ∨ pathOkL q = true) then (if q = [47] then 0 else match getL t q with
  | none => 2
  | some e => if e.d then 0 else 3) else 1
noncomputable def tlistL (t : List PE) (q : Bs) : List Bs := if tlistC t q = 0 then kidsL t q else []
theorem tlist_bad {t : List PE} {q : Bs} (h : ¬ (TOk t ∧ (q = [47] ∨ pathOkL q = true))) : tlistC t q = 1 ∧ tlistL t q = [] := by
  have h1 : tlistC t q = 1 := by unfold tlistC; rw [if_neg h]
  exact ⟨h1, by unfold tlistL; rw [h1]; rfl⟩
theorem tlist_ok {xs : List En} {q : ByteArray} (h : TOk (xs.map En.pl)) (hq : q.data.toList = [47] ∨ pathOkL q.data.toList = true) : tlistC (xs.map En.pl) q.data.toList = upC (lgetE xs q) := by
  unfold tlistC lgetE
  rw [if_pos ⟨h, hq⟩]
  by_cases hr : q.data.toList = [47]
  · rw [if_pos hr, if_pos hr]; rfl
  · rw [if_neg hr, if_neg hr, getE_pl]
    cases getE xs q <;> rfl
theorem tlist_0 {t : List PE} {q : Bs} (h : tlistC t q = 0) : tlistL t q = kidsL t q := by unfold tlistL; rw [if_pos h]
theorem tlist_n {t : List PE} {q : Bs} {m : Nat} (h : tlistC t q = m) (hm : m ≠ 0) : tlistL t q = [] := by unfold tlistL; rw [h, if_neg hm]
theorem own_lit2 {w : World} {o : Obj} {base size : Nat} {e : TypeId} (h : base ≤ w.heap.size) : ((w.alloc o).alloc (.cells #[] e)).ownsRow base e size (.slice (some ⟨w.heap.size + 1, 0, none⟩) 0 0) 0 [] := by
  have h1 := World.ownsRow_lit (base := base) (e := e) (size := size) (w.alloc o) #[] 0 (by simp; omega) (Nat.zero_le _) (by simp)
  have h2 : (w.alloc o).heap.size = w.heap.size + 1 := by simp
  rw [h2] at h1
  exact h1
end Go.Proofs.YtdhbdcmnbhjjaaaGreatDoor
namespace Go.Proofs.YtdhbdcmnbhjjaaaGreatDoor
open Go.RowKit
/-- Two trees held against one another. -/
theorem sameR_c (a a' : Option Addr) (c c' n n' : Nat) (xs ys : List En) (r : Bool) (hr : Hid (r = true ↔ xs = ys)) (w : World) (hn : xs.length = n) (hn' : ys.length = n') (hs : SlF En.cells w a xs) (hs' : SlF En.cells w a' ys) (hx : n ≤ 1000) (hy : n' ≤ 1000) :
    Calls Tryz.prog 12 #[.slice a n c, .slice a' n' c'] w fun e w' => e = .returned (.bool r) ∧ Below w.heap.size w w' := by
  subst hn hn'
  exact (treeSame_c a a' c c' xs ys r hr w hs hs' (by unfold maxLen; omega) (by unfold maxLen; omega)).mono fun _ _ ⟨h1, m, h2⟩ => ⟨h1, h2 ▸ below_dr w m⟩
/-- TreeGet, as the laws meet it. -/
theorem getT_c (a : Option Addr) (c n : Nat) (xs : List En) (q : ByteArray) (o : Option En) (ho : Hid (tgetE xs q = o)) (w : World) (hn : xs.length = n) (hs : SlF En.cells w a xs) (hx : n ≤ 1000) (hz : Small xs) :
    Calls Tryz.prog 18 #[.slice a n c, .string q] w fun e w' => e = .returned (optV o) ∧ Below w.heap.size w w' := by
  subst hn
  exact treeGet_c a c xs q o ho w hs (by unfold maxLen; omega) hz.max
theorem okS_c (a : Option Addr) (c n : Nat) (xs : List En) (r : Bool) (hr : Hid (r = true ↔ TOk (xs.map En.pl))) (w : World) (hn : xs.length = n) (hs : SlF En.cells w a xs) (hc : n ≤ c) (hx : n ≤ 1000) (hz : Small xs) :
    Calls Tryz.prog 25 #[.slice a n c] w fun e w' => e = .returned (.bool r) ∧ Below w.heap.size w w' := by
  subst hn
  exact sTreeOk_c a c xs r hr w hs (by unfold maxLen; omega) hc hz.max
theorem okI_c (a : Option Addr) (c n : Nat) (xs : List En) (r : Bool) (hr : Hid (r = true ↔ TOk (xs.map En.pl))) (w : World) (hn : xs.length = n) (hs : SlF En.cells w a xs) (hx : n ≤ 1000) (hz : Small xs) :
    Calls Tryz.prog 20 #[.slice a n c] w fun e w' => e = .returned (.bool r) ∧ Below w.heap.size w w' := by
  subst hn
  exact treeOk_c a c xs r hr w hs (by unfold maxLen; omega) hz.max
theorem tget_right {xs : List En} {q : ByteArray} (h : TOk (xs.map En.pl)) (hq : pathOkL q.data.toList = true) : tgetE xs q = getE xs q := by
  rw [tget_ok q h, lgetE, if_neg (path_ne_root hq)]
/-- What TreeGet tells, in one shape. -/
theorem opt_one (o : Option En) : ∃ (ep ex : ByteArray) (ed th : Bool), optV o = .tuple #[.agg #[.string ep, .bool ed, .string ex], .bool th] ∧ ((o = none ∧ th = false) ∨ (th = true ∧ o = some ⟨ep, ed, ex⟩)) := by
  cases o with
  | none => exact ⟨⟨#[]⟩, ⟨#[]⟩, false, false, rfl, .inl ⟨rfl, rfl⟩⟩
  | some e => exact ⟨e.p, e.x, e.d, true, rfl, .inr ⟨rfl, rfl⟩⟩
theorem ReadEn.cap {w : World} {a : Option Addr} {c : Nat} {xs : List En} (h : ReadEn w a c xs) : xs.length ≤ c := by
  obtain ⟨b, off, _, _, _, h4, _⟩ := h; exact h4
theorem getE_some {xs : List En} {q : ByteArray} {e : En} (h : getE xs q = some e) : e ∈ xs ∧ e.p = q := by
  induction xs with
  | nil => cases h
  | cons a r ih =>
    unfold getE at h
    split at h
    · next hq => injection h with h; subst h; exact ⟨by simp, bytes_eq hq⟩
    · have := ih h; exact ⟨by simp [this.1], this.2⟩
theorem getE_ok {xs : List En} (h : TOk (xs.map En.pl)) {e : En} (he : e ∈ xs) : getE xs e.p = some e := by
  have h1 := getL_mem h.ord (List.mem_map_of_mem he)
  have h2 : getL (xs.map En.pl) e.p.data.toList = some e.pl := h1
  rw [getE_pl] at h2
  cases hx : getE xs e.p with
  | none => rw [hx] at h2; cases h2
  | some f => rw [hx] at h2; injection h2 with h2; rw [En.pl_inj h2]
end Go.Proofs.YtdhbdcmnbhjjaaaGreatDoor
namespace Go.Proofs.YtdhbdcmnbhjjaaaGreatDoor
open Go.RowKit
open Classical in
/-- What TreeTurned tells. -/
noncomputable def tturn (a b : List PE) : List Bs := if TOk a ∧ TOk b then turnedL a b else []
theorem tturn_bad {a b : List PE} (h : ¬ (TOk a ∧ TOk b)) : tturn a b = [] := by unfold tturn; rw [if_neg h]
theorem tturn_ok {a b : List PE} (h : TOk a) (h' : TOk b) : tturn a b = turnedL a b := by unfold tturn; rw [if_pos ⟨h, h'⟩]
theorem drop_cons {α : Type} {xs : List α} {k : Nat} {e : α} (h : xs[k]? = some e) : xs.drop k = e :: xs.drop (k + 1) := by
  obtain ⟨h1, h2⟩ := List.getElem?_eq_some_iff.1 h
  rw [List.drop_eq_getElem_cons h1, h2]
/-- What is left to merge at places i, j. -/
def restL (xs ys : List En) (i j : Nat) : List Bs := mergeL ((xs.drop i).map En.pl) ((ys.drop j).map En.pl)
theorem rest_a {xs ys : List En} {i j : Nat} {e : En} (he : xs[i]? = some e) (h : ys[j]? = none ∨ ∃ f, ys[j]? = some f ∧ Op.bytesLess e.p.toList f.p.toList = true) : restL xs ys i j = e.p.data.toList :: restL xs ys (i + 1) j := by
  unfold restL
  rw [drop_cons he]
  rcases h with h | ⟨f, hf, hl⟩
  · have : ys.drop j = [] := List.drop_eq_nil_of_le (by simpa using h)
    rw [this, List.map_cons]
    cases hx : (xs.drop (i + 1)).map En.pl with
    | nil => simp [mergeL, En.pl]
    | cons _ _ => simp [mergeL, En.pl]
  · rw [drop_cons hf, List.map_cons, List.map_cons, mergeL, if_pos (by show Op.bytesLess e.p.data.toList f.p.data.toList = true; rw [← less_of']; exact hl)]
    rfl
theorem rest_b {xs ys : List En} {i j : Nat} {f : En} (hf : ys[j]? = some f) (h : xs[i]? = none ∨ ∃ e, xs[i]? = some e ∧ Op.bytesLess e.p.toList f.p.toList = false ∧ Op.bytesLess f.p.toList e.p.toList = true) : restL xs ys i j = f.p.data.toList :: restL xs ys i (j + 1) := by
  unfold restL
  rw [drop_cons hf]
  rcases h with h | ⟨e, he, hl, hl2⟩
  · have : xs.drop i = [] := List.drop_eq_nil_of_le (by simpa using h)
    rw [this, List.map_cons]
    cases hx : (ys.drop (j + 1)).map En.pl with
    | nil => simp [mergeL, En.pl]
    | cons _ _ => simp [mergeL, En.pl]
  · rw [drop_cons he, List.map_cons, List.map_cons, mergeL, if_neg (by show ¬ Op.bytesLess e.p.data.toList f.p.data.toList = true; rw [← less_of', hl]; simp), if_pos (by show Op.bytesLess f.p.data.toList e.p.data.toList = true; rw [← less_of']; exact hl2)]
    rfl
theorem rest_c1 {xs ys : List En} {i j : Nat} {e : En} (he : xs[i]? = some e) (hf : ys[j]? = some e) : restL xs ys i j = restL xs ys (i + 1) (j + 1) := by
  unfold restL
  have hl : Op.bytesLess e.p.data.toList e.p.data.toList = false := less_irrefl _
  rw [drop_cons he, drop_cons hf, List.map_cons, List.map_cons, mergeL, if_neg (by show ¬ Op.bytesLess e.p.data.toList e.p.data.toList = true; rw [hl]; simp), if_neg (by show ¬ Op.bytesLess e.p.data.toList e.p.data.toList = true; rw [hl]; simp), if_pos rfl]
theorem rest_c2 {xs ys : List En} {i j : Nat} {e f : En} (he : xs[i]? = some e) (hf : ys[j]? = some f) (hp : e.p = f.p) (h : e ≠ f) : restL xs ys i j = e.p.data.toList :: restL xs ys (i + 1) (j + 1) := by
  unfold restL
  have hl : Op.bytesLess e.p.data.toList e.p.data.toList = false := less_irrefl _
  rw [drop_cons he, drop_cons hf, List.map_cons, List.map_cons, mergeL, if_neg (by show ¬ Op.bytesLess e.p.data.toList f.p.data.toList = true; rw [← hp, hl]; simp), if_neg (by show ¬ Op.bytesLess f.p.data.toList e.p.data.toList = true; rw [← hp, hl]; simp), if_neg (fun h' => h (En.pl_inj h'))]
  rfl
theorem same_p {e f : En} (h : Op.bytesLess e.p.toList f.p.toList = false) (h' : Op.bytesLess f.p.toList e.p.toList = false) : e.p = f.p := by
  rw [less_of'] at h h'
  rcases less_total e.p.data.toList f.p.data.toList with h1 | h1 | h1
  · rw [h] at h1; cases h1
  · exact bytes_eq h1
  · rw [h'] at h1; cases h1
theorem rest_end {xs ys : List En} {i j : Nat} (hi : xs.length ≤ i) (hj : ys.length ≤ j) : restL xs ys i j = [] := by
  unfold restL
  rw [List.drop_eq_nil_of_le hi, List.drop_eq_nil_of_le hj]; simp [mergeL]
set_option maxRecDepth 100000 in
set_option maxHeartbeats 8000000 in
theorem treeTurned_c (a a' : Option Addr) (c c' : Nat) (xs ys : List En) (w : World) (hs : SlF En.cells w a xs) (hs' : SlF En.cells w a' ys) (hx : xs.length ≤ maxLen) (hy : ys.length ≤ maxLen) (hz : ∀ e ∈ xs, e.p.size ≤ maxLen ∧ e.x.size ≤ maxLen) (hz' : ∀ e ∈ ys, e.p.size ≤ maxLen ∧ e.x.size ≤ maxLen) :
    Calls Tryz.prog 27 #[.slice a xs.length c, .slice a' ys.length c'] w (MadeSt (tturn (xs.map En.pl) (ys.map En.pl)) w) := by
  have hb := Below.refl w.heap.size w
  have HE := strElt
  obtain ⟨r, hr⟩ := tok_dec xs
  obtain ⟨r', hr'⟩ := tok_dec ys
  have HT := Lib.hid (treeOk_c a c xs r (Lib.hid hr) w hs hx hz)
  have HT' := fun W (h : SlF En.cells W a' ys) => Lib.hid (treeOk_c a' c' ys r' (Lib.hid hr') W h hy hz')
  obtain ⟨L, hL⟩ : ∃ L, tturn (xs.map En.pl) (ys.map En.pl) = L := ⟨_, rfl⟩
  have hx16 : TOk (xs.map En.pl) → xs.length ≤ 16 := fun h => by have := h.most; rw [List.length_map] at this; exact this
  have hy16 : TOk (ys.map En.pl) → ys.length ≤ 16 := fun h => by have := h.most; rw [List.length_map] at this; exact this
  have HLE : Hid (L = [] ∨ (TOk (xs.map En.pl) ∧ TOk (ys.map En.pl) ∧ L = restL xs ys 0 0)) := by
    by_cases h : TOk (xs.map En.pl) ∧ TOk (ys.map En.pl)
    · exact .inr ⟨h.1, h.2, by rw [← hL, tturn_ok h.1 h.2, ← merge_turned h.1.ordP h.2.ordP]; rfl⟩
    · exact .inl (by rw [← hL]; exact tturn_bad h)
  have HLB : Hid (¬ (r = true ∧ r' = true) → L = []) := fun h => by rw [← hL]; exact tturn_bad (fun h' => h ⟨hr.2 h'.1, hr'.2 h'.2⟩)
  have HLO : Hid (r = true → r' = true → L = restL xs ys 0 0) := fun h h' => by rw [← hL, tturn_ok (hr.1 h) (hr'.1 h'), ← merge_turned (hr.1 h).ordP (hr'.1 h').ordP]; rfl
  have HS := Lib.hid hs
  have HS' := Lib.hid hs'
  rw [hL]
  have HB16 : Hid (r = true → r' = true → xs.length ≤ 16 ∧ ys.length ≤ 16) := fun h h' => ⟨hx16 (hr.1 h), hy16 (hr'.1 h')⟩
  obtain ⟨n, hn⟩ : ∃ n, xs.length = n := ⟨_, rfl⟩
  obtain ⟨n', hn'⟩ : ∃ n, ys.length = n := ⟨_, rfl⟩
  have HN := Lib.hid hn
  have HN' := Lib.hid hn'
  rw [hn] at HT HB16 ⊢
  rw [hn'] at HT' HB16 ⊢
  have GT' := Lib.hid HT'
  clear hn hn' hL hs hs' hz hz' hx hy hr hr' HT' hx16 hy16 HLE
  cases r with
  | false =>
    obtain rfl : L = [] := HLB.out (by simp)
    go_enter Tryz.func27, Tryz.ntmps27
    go_wp2_with fail
    refine (HT.out).mono ?_; rintro e W ⟨rfl, hq⟩; replace hb := chn hb hq; clear hq
    go_wp2
    go_ret
    exact ⟨_, [], rfl, rfl, World.ownsRow_nil _ _ _ _, hb⟩
  | true =>
  cases r' with
  | false =>
    obtain rfl : L = [] := HLB.out (by simp)
    go_enter Tryz.func27, Tryz.ntmps27
    go_wp2_with fail
    refine (HT.out).mono ?_; rintro e W ⟨rfl, hq⟩; replace hb := chn hb hq; clear hq
    go_wp2_with fail
    refine ((GT'.out _ (HS'.out.below hb)).out).mono ?_; rintro e W ⟨rfl, hq⟩; replace hb := chn hb hq; clear hq
    go_wp2
    go_ret
    exact ⟨_, [], rfl, rfl, World.ownsRow_nil _ _ _ _, hb⟩
  | true =>
    have HLR := Lib.hid (HLO.out rfl rfl)
    obtain ⟨hn16, hn16'⟩ := HB16.out rfl rfl
    clear HLB HLO HB16
    go_enter Tryz.func27, Tryz.ntmps27
    go_wp2_with fail
    refine (HT.out).mono ?_; rintro e W ⟨rfl, hq⟩; replace hb := chn hb hq; clear hq
    go_wp2_with fail
    refine ((GT'.out _ (HS'.out.below hb)).out).mono ?_; rintro e W ⟨rfl, hq⟩; replace hb := chn hb hq; clear hq
    have HB0 := Lib.hid hb
    clear hb
    go_wp2
    go_loopw [5, 6, 7] (fun v i j wr => ∃ (k k' : Nat) (ss : List ByteArray), k ≤ n ∧ k' ≤ n' ∧ ss.length ≤ k + k' ∧ i = .int .i64 k ∧ j = .int .i64 k' ∧ L = ss.map (·.data.toList) ++ restL xs ys k k' ∧ wr.ownsRow w.heap.size 9 1 v ss.length (ss.map Value.string) ∧ Below w.heap.size w wr) (fun _ i j _ => n + n' - (intOf i).toNat - (intOf j).toNat)
    case atStart => exact ⟨0, 0, [], Nat.zero_le _, Nat.zero_le _, Nat.zero_le _, rfl, rfl, HLR.out, World.ownsRow_nil _ _ _ _, HB0.out⟩
    case round =>
      obtain ⟨k, k', ss, hk, hk', hsl, rfl, rfl, hss, hown, hb⟩ := hrel
      have HSS := Lib.hid hss
      clear hss
      have hsw := HS.out.below hb
      have hsw' := HS'.out.below hb
      have i0 : (0 : Int) ≤ (k : Int) := by omega
      have j0 : (0 : Int) ≤ (k' : Int) := by omega
      by_cases hlt : k < n
      · obtain ⟨e, hee⟩ : ∃ e, xs[k]? = some e := ⟨_, List.getElem?_eq_getElem (by rw [HN.out]; exact hlt)⟩
        obtain ⟨b, off, rfl, _⟩ := hsw.addr (by rw [HN.out]; omega)
        obtain ⟨d0, d1, d2⟩ := en_at hsw k e hee
        have i1 : (k : Int) < (n : Int) := by omega
        have i2 : ((k : Int) == (n : Int)) = false := by rw [beq_eq_false_iff_ne]; omega
        by_cases hlt' : k' < n'
        · obtain ⟨f, hff⟩ : ∃ f, ys[k']? = some f := ⟨_, List.getElem?_eq_getElem (by rw [HN'.out]; exact hlt')⟩
          obtain ⟨b', off', rfl, _⟩ := hsw'.addr (by rw [HN'.out]; omega)
          obtain ⟨g0, g1, g2⟩ := en_at hsw' k' f hff
          have j1 : (k' : Int) < (n' : Int) := by omega
          have j2 : ((k' : Int) == (n' : Int)) = false := by rw [beq_eq_false_iff_ne]; omega
          rcases Bool.eq_false_or_eq_true (Op.bytesLess e.p.toList f.p.toList) with hle | hle
          · have HR := Lib.hid (rest_a hee (.inr ⟨f, hff, hle⟩))
            clear hee hff
            go_wp2_with fail
            go_quiet (fail)
            go_wp2_with (at_builtin; go_must (refine wp_app1 (by rfl) _ _ 52 (by rfl) HE w.heap.size w.heap.size w _ #[.string e.p] _ _ _ (by rfl) (by rfl) hown (by rfl) (by simp [Value.oneCell']) (by omega) hb.size (drw hb _) (Nat.le_refl _) ?_); intro v' w1 hown1 hbel1 _ _)
            go_roundw
            case rel => exact ⟨(k+1), k', ss ++ [e.p], by omega, by omega, by simp; omega, by go_num, by go_num, by rw [List.map_append, List.append_assoc, HSS.out, HR.out]; rfl, by simpa using hown1, hbel1⟩
            case measure => simp [intOf]; omega
          · rcases Bool.eq_false_or_eq_true (Op.bytesLess f.p.toList e.p.toList) with hlf | hlf
            · have HR := Lib.hid (rest_b hff (.inr ⟨e, hee, hle, hlf⟩))
              clear hee hff
              go_wp2_with fail
              go_quiet (fail)
              go_wp2_with fail
              go_quiet (fail)
              go_wp2_with (at_builtin; go_must (refine wp_app1 (by rfl) _ _ 52 (by rfl) HE w.heap.size w.heap.size w _ #[.string f.p] _ _ _ (by rfl) (by rfl) hown (by rfl) (by simp [Value.oneCell']) (by omega) hb.size (drw hb _) (Nat.le_refl _) ?_); intro v' w1 hown1 hbel1 _ _)
              go_roundw
              case rel => exact ⟨k, (k'+1), ss ++ [f.p], by omega, by omega, by simp; omega, by go_num, by go_num, by rw [List.map_append, List.append_assoc, HSS.out, HR.out]; rfl, by simpa using hown1, hbel1⟩
              case measure => simp [intOf]; omega
            · have hpp := same_p hle hlf
              by_cases hef : e = f
              · subst hef
                have HR := Lib.hid (rest_c1 hee hff)
                clear hee hff hpp
                go_wp2_with fail
                go_quiet (fail)
                go_wp2_with fail
                go_quiet (fail)
                go_wp2_with fail
                go_quiet (fail)
                go_wp2
                go_roundw
                case rel => exact ⟨k + 1, k' + 1, ss, by omega, by omega, by omega, by go_num, by go_num, by rw [HSS.out, HR.out], hown, drw hb _⟩
                case measure => simp [intOf]; omega
              · have HR := Lib.hid (rest_c2 hee hff hpp hef)
                obtain ⟨p, d, x⟩ := e
                obtain ⟨p', d', x'⟩ := f
                obtain rfl : p = p' := hpp
                simp only at d0 d1 d2 g0 g1 g2 hle hlf
                clear hee hff
                by_cases h2 : d = d'
                · subst h2
                  have q := bq_no (s := x) (t := x') (fun h => hef (by rw [h]))
                  clear hef
                  go_wp2_with fail
                  go_quiet (fail)
                  go_wp2_with fail
                  go_quiet (fail)
                  go_wp2_with fail
                  go_quiet (fail)
                  go_wp2_with (at_builtin; go_must (refine wp_app1 (by rfl) _ _ 52 (by rfl) HE w.heap.size w.heap.size w _ #[.string p] _ _ _ (by rfl) (by rfl) hown (by rfl) (by simp [Value.oneCell']) (by omega) hb.size (drw hb _) (Nat.le_refl _) ?_); intro v' w1 hown1 hbel1 _ _)
                  go_roundw
                  case rel => exact ⟨(k+1), (k'+1), ss ++ [p], by omega, by omega, by simp; omega, by go_num, by go_num, by rw [List.map_append, List.append_assoc, HSS.out, HR.out]; rfl, by simpa using hown1, hbel1⟩
                  case measure => simp [intOf]; omega
                · have q : (d == d') = false := by rw [beq_eq_false_iff_ne]; exact h2
                  clear hef h2
                  go_wp2_with fail
                  go_quiet (fail)
                  go_wp2_with fail
                  go_quiet (fail)
                  go_wp2_with fail
                  go_quiet (fail)
                  go_wp2_with (at_builtin; go_must (refine wp_app1 (by rfl) _ _ 52 (by rfl) HE w.heap.size w.heap.size w _ #[.string p] _ _ _ (by rfl) (by rfl) hown (by rfl) (by simp [Value.oneCell']) (by omega) hb.size (drw hb _) (Nat.le_refl _) ?_); intro v' w1 hown1 hbel1 _ _)
                  go_roundw
                  case rel => exact ⟨(k+1), (k'+1), ss ++ [p], by omega, by omega, by simp; omega, by go_num, by go_num, by rw [List.map_append, List.append_assoc, HSS.out, HR.out]; rfl, by simpa using hown1, hbel1⟩
                  case measure => simp [intOf]; omega
        · obtain rfl : k' = n' := by omega
          have HR := Lib.hid (rest_a (ys := ys) (j := k') hee (.inl (List.getElem?_eq_none (by rw [HN'.out]; omega))))
          clear hee
          go_wp2_with fail
          go_quiet (fail)
          go_wp2_with (at_builtin; go_must (refine wp_app1 (by rfl) _ _ 52 (by rfl) HE w.heap.size w.heap.size w _ #[.string e.p] _ _ _ (by rfl) (by rfl) hown (by rfl) (by simp [Value.oneCell']) (by omega) hb.size (drw hb _) (Nat.le_refl _) ?_); intro v' w1 hown1 hbel1 _ _)
          go_roundw
          case rel => exact ⟨(k+1), k', ss ++ [e.p], by omega, by omega, by simp; omega, by go_num, by go_num, by rw [List.map_append, List.append_assoc, HSS.out, HR.out]; rfl, by simpa using hown1, hbel1⟩
          case measure => simp [intOf]; omega
      · obtain rfl : k = n := by omega
        by_cases hlt' : k' < n'
        · obtain ⟨f, hff⟩ : ∃ f, ys[k']? = some f := ⟨_, List.getElem?_eq_getElem (by rw [HN'.out]; exact hlt')⟩
          obtain ⟨b', off', rfl, _⟩ := hsw'.addr (by rw [HN'.out]; omega)
          obtain ⟨g0, g1, g2⟩ := en_at hsw' k' f hff
          have j1 : (k' : Int) < (n' : Int) := by omega
          have j2 : ((k' : Int) == (n' : Int)) = false := by rw [beq_eq_false_iff_ne]; omega
          have HR := Lib.hid (rest_b (xs := xs) (i := k) hff (.inl (List.getElem?_eq_none (by rw [HN.out]; omega))))
          clear hff
          have dk : decide ((k : Int) < (k : Int)) = false := by simp
          go_wp2_with fail
          go_quiet (fail)
          go_wp2_with fail
          go_quiet (fail)
          go_wp2_with (at_builtin; go_must (refine wp_app1 (by rfl) _ _ 52 (by rfl) HE w.heap.size w.heap.size w _ #[.string f.p] _ _ _ (by rfl) (by rfl) hown (by rfl) (by simp [Value.oneCell']) (by omega) hb.size (drw hb _) (Nat.le_refl _) ?_); intro v' w1 hown1 hbel1 _ _)
          go_roundw
          case rel => exact ⟨k, (k'+1), ss ++ [f.p], by omega, by omega, by simp; omega, by go_num, by go_num, by rw [List.map_append, List.append_assoc, HSS.out, HR.out]; rfl, by simpa using hown1, hbel1⟩
          case measure => simp [intOf]; omega
        · obtain rfl : k' = n' := by omega
          have HF : Hid (ss.map (·.data.toList) = L) := by rw [Hid, HSS.out, rest_end (by rw [HN.out]; omega) (by rw [HN'.out]; omega), List.append_nil]
          go_wp2
          go_ret
          exact ⟨_, ss, rfl, HF.out, hown, hb⟩
end Go.Proofs.YtdhbdcmnbhjjaaaGreatDoor
namespace Go.Proofs.YtdhbdcmnbhjjaaaGreatDoor
open Go.Op
open Classical in
/-- What LayerDiff tells. -/
noncomputable def tdiffL (a b : List PE) : List PM := if TOk a ∧ TOk b then diffL a b else []
/-- What the program has before it sorts. -/
def rawQ (b : List PE) (Q : List Bs) : List PM := (Q.filterMap (dmark b)).foldl (fun out m => upsR 3 out m.p) (Q.filterMap (dmark b))
theorem tdiff_of_raw {a b : List PE} {s : List PM} (hp : s.Perm (rawQ b (tturn a b))) (hs : s.Pairwise fun a b => bytesLess b.p a.p = false) : s = tdiffL a b := by
  by_cases h : TOk a ∧ TOk b
  · rw [tturn_ok h.1 h.2] at hp
    unfold tdiffL
    rw [if_pos h]
    exact diff_of_raw h.1 h.2 hp hs
  · rw [tturn_bad h] at hp
    unfold tdiffL
    rw [if_neg h]
    exact List.Perm.eq_nil hp
theorem upsL_len (n : Nat) : ∀ (l : List PM) (q : Bs), (upsL n l q).length ≤ l.length + n := by
  induction n with
  | zero => intro l q; exact Nat.le_refl _
  | succ n ih =>
    intro l q
    unfold upsL
    split
    · omega
    · split
      · have h1 := ih (putP PM.p l (updm (upL q))) (upL q)
        have h2 := put_len_le (f := PM.p) l (updm (upL q))
        omega
      · have h1 := ih l (upL q); omega
theorem upsR_len (n : Nat) : ∀ (l : List PM) (q : Bs), (upsR n l q).length ≤ l.length + n := by
  induction n with
  | zero => intro l q; exact Nat.le_refl _
  | succ n ih =>
    intro l q
    unfold upsR
    split
    · omega
    · split
      · have h1 := ih (l ++ [updm (upL q)]) (upL q)
        rw [List.length_append] at h1
        simp only [List.length_singleton] at h1
        omega
      · have h1 := ih l (upL q); omega
theorem tdiff_len (a b : List PE) : (tdiffL a b).length ≤ 200 := by
  unfold tdiffL
  split
  · next h =>
    have key : ∀ (Q : List Bs) (out : List PM), (Q.foldl (fun out q => match dmark b q with | some m => upsL 3 (putP PM.p out m) q | none => out) out).length ≤ out.length + 4 * Q.length := by
      intro Q
      induction Q with
      | nil => intro out; simp
      | cons q r ih =>
        intro out
        rw [List.foldl_cons, List.length_cons]
        refine Nat.le_trans (ih _) ?_
        cases dmark b q with
        | none => simp only; omega
        | some m =>
          have h1 := upsL_len 3 (putP PM.p out m) q
          have h2 := put_len_le (f := PM.p) out m
          simp only
          omega
    have h1 := key (turnedL a b) []
    have h2 := turned_len (a := a) (b := b)
    have h3 := h.1.most
    have h4 := h.2.most
    have h5 : (diffL a b).length ≤ 0 + 4 * (turnedL a b).length := h1
    omega
  · simp
/-- The mark at a path at which the trees differ, as it lies. -/
def dmk (ys : List En) (q : ByteArray) : Option Mk := match getE ys q with
  | some e => some (if e.d then ⟨q, 2, ⟨#[]⟩⟩ else ⟨q, 1, e.x⟩)
  | none => if upCodeL (ys.map En.pl) q.data.toList = 0 then some ⟨q, 3, ⟨#[]⟩⟩ else none
theorem dmk_pl (ys : List En) (q : ByteArray) : dmark (ys.map En.pl) q.data.toList = (dmk ys q).map Mk.pl := by
  unfold dmark dmk
  rw [getE_pl]
  cases getE ys q with
  | none => simp only [Option.map_none]; split <;> rfl
  | some e =>
    obtain ⟨p, d, x⟩ := e
    cases d <;> rfl
theorem take_sl (ss : List ByteArray) (k : Nat) (s : ByteArray) (h : ss[k]? = some s) : (ss.take (k + 1)).map (·.data.toList) = (ss.take k).map (·.data.toList) ++ [s.data.toList] := by
  have hk : k < ss.length := (List.getElem?_eq_some_iff.1 h).1
  have he : ss[k] = s := (List.getElem?_eq_some_iff.1 h).2
  rw [List.take_succ_eq_append_getElem hk, he]
  simp
theorem dmk_snoc (ys : List En) (ss : List ByteArray) (k : Nat) (s : ByteArray) (h : ss[k]? = some s) (ms : List Mk) (hm : ms.map Mk.pl = ((ss.take k).map (·.data.toList)).filterMap (dmark (ys.map En.pl))) :
    (ms ++ (dmk ys s).toList).map Mk.pl = ((ss.take (k + 1)).map (·.data.toList)).filterMap (dmark (ys.map En.pl)) := by
  rw [take_sl ss k s h, List.filterMap_append, List.map_append, hm]
  congr 1
  rw [List.filterMap_cons, dmk_pl]
  cases dmk ys s <;> rfl
theorem dmk_p {ys : List En} {q : ByteArray} {m : Mk} (h : dmk ys q = some m) : m.p = q := by
  unfold dmk at h
  split at h
  · injection h with h; subst h; split <;> rfl
  · split at h
    · injection h with h; subst h; rfl
    · cases h
/-- A text of bytes. -/
theorem str_of20 (l : Bs) : ∃ b : ByteArray, l = b.data.toList := ⟨⟨l.toArray⟩, by simp⟩
theorem up_nil {q : Bs} (h : pathOkL q = false) : upL q = [] := by simp [upL, h]
/-- One step up, while there is one. -/
theorem upsR_step {r : Nat} {l : List PM} {q : Bs} (hq : pathOkL q = true) (hl : levelsL q ≤ r) (hu : upL q ≠ [47]) :
    ∃ r', r = r' + 1 ∧ pathOkL (upL q) = true ∧ levelsL (upL q) ≤ r' ∧ upsR r l q = upsR r' (if atP PM.p l (upL q) = none then l ++ [updm (upL q)] else l) (upL q) := by
  have h1 := levels_up hq
  cases r with
  | zero => omega
  | succ r' => exact ⟨r', rfl, up_path hq hu, by omega, by conv => lhs; unfold upsR; rw [if_neg hu]⟩
theorem upsR_end {r : Nat} {l : List PM} {q : Bs} (hu : upL q = [47]) : upsR r l q = l := by
  cases r with
  | zero => rfl
  | succ r' => unfold upsR; rw [if_pos hu]
end Go.Proofs.YtdhbdcmnbhjjaaaGreatDoor
namespace Go.Proofs.YtdhbdcmnbhjjaaaGreatDoor
open Go.RowKit
abbrev optM (o : Option Mk) : Value := match o with
  | some e => .tuple #[e.val, .bool true]
  | none => .tuple #[.agg #[.string ⟨#[]⟩, .int .i64 0, .string ⟨#[]⟩], .bool false]
set_option maxHeartbeats 2000000 in
theorem markAt_c (a : Option Addr) (c : Nat) (xs : List Mk) (q : ByteArray) (o : Option Mk) (ho : Hid (getM xs q = o)) (w : World) (hs : SlF Mk.cells w a xs) (hx : xs.length ≤ maxLen) :
    Calls Tryz.prog 44 #[.slice a xs.length c, .string q] w fun r w' => r = .returned (optM o) ∧ Below w.heap.size w w' := by
  obtain ⟨n, hn⟩ : ∃ n, xs.length = n := ⟨_, rfl⟩
  rw [hn] at hx ⊢
  unfold maxLen at hx
  have HN := Lib.hid hn
  obtain ⟨z, hz⟩ : ∃ z, w.alloc (.cells #[.string ⟨#[]⟩, .int .i64 0, .string ⟨#[]⟩] 43) = z := ⟨_, rfl⟩
  have HS := Lib.hid (hs.below (hz ▸ bellow_alloc w _ : Below w.heap.size w z))
  have hzs : z.heap.size = w.heap.size + 1 := by rw [← hz]; simp
  have c0 : z.cell? ⟨w.heap.size, 0, none⟩ = some (.string ⟨#[]⟩) := by rw [← hz]; exact new_cell _ _ _ 0 _ rfl
  have c1 : z.cell? ⟨w.heap.size, 1, none⟩ = some (.int .i64 0) := by rw [← hz]; exact new_cell _ _ _ 1 _ rfl
  have c2 : z.cell? ⟨w.heap.size, 2, none⟩ = some (.string ⟨#[]⟩) := by rw [← hz]; exact new_cell _ _ _ 2 _ rfl
  have hfz : ∀ j, z.frozen? ⟨w.heap.size, j, none⟩ = false := fun j => by rw [← hz]; exact new_free w _ _ j
  have HW := Lib.hid (hz ▸ bellow_alloc w _ : Below w.heap.size w z)
  have HF := Lib.hid hfz
  have HC0 := Lib.hid c0
  have HC1 := Lib.hid c1
  have HC2 := Lib.hid c2
  have HZ := Lib.hid hzs
  clear hn hs hzs c0 c1 c2 hfz
  go_enter Tryz.func44, Tryz.ntmps44
  go_wp2
  clear hz
  go_loopw [7, 10] (fun _ i wr => ∃ k : Nat, k ≤ n ∧ i = .int .i64 k ∧ (∀ (j : Nat) (f : Mk), j < k → xs[j]? = some f → f.p.data.toList ≠ q.data.toList) ∧ Below z.heap.size z wr) (fun _ i _ => n - (intOf i).toNat)
  case atStart => exact ⟨0, Nat.zero_le _, rfl, fun j _ h => absurd h (by omega), Below.refl _ _⟩
  case round =>
    obtain ⟨k, hk, rfl, hall, hb⟩ := hrel
    have HA := Lib.hid hall
    clear hall
    have hlt0 : w.heap.size < wr.heap.size := by have := hb.size; rw [HZ.out] at this; omega
    have g0 := keepc hb HC0.out
    have g1 := keepc hb HC1.out
    have g2 := keepc hb HC2.out
    have f0 := (hb.frozen (p := ⟨w.heap.size, 0, none⟩) (by rw [HZ.out]; simp)).trans (HF.out 0)
    have f1 := (hb.frozen (p := ⟨w.heap.size, 1, none⟩) (by rw [HZ.out]; simp)).trans (HF.out 1)
    have f2 := (hb.frozen (p := ⟨w.heap.size, 2, none⟩) (by rw [HZ.out]; simp)).trans (HF.out 2)
    by_cases hlt : k < n
    · obtain ⟨e, hee⟩ : ∃ e, xs[k]? = some e := ⟨_, List.getElem?_eq_getElem (by rw [HN.out]; exact hlt)⟩
      have h2 := (HS.out.below hb)
      obtain ⟨b, off, rfl, _⟩ := h2.addr (by rw [HN.out]; omega)
      obtain ⟨c0, c1, c2⟩ := mk_at h2 k e hee
      have hg := getM_skip xs q k e hee HA.out
      have HG := Lib.hid hg
      have HEE := Lib.hid hee
      clear h2 hg hee
      by_cases heq : e.p.data.toList = q.data.toList
      · have hq := beqs_yes heq
        obtain rfl : o = some e := by rw [← ho.out, HG.out, if_pos heq]
        clear heq
        go_wp2
        obtain ⟨q0, q1, q2⟩ := three_set wr w.heap.size _ _ _ (.string e.p) (.int .i64 e.k) (.string e.x) g0 g1 g2 (.cells #[.string e.p, .int .i64 e.k, .string e.x] 43)
        refine bodyPost_ret (v := optM (some e)) (by simp [results, Tryz.results44, go_sem, q0, q1, q2]) rfl ⟨rfl, ?_⟩
        have HB := HW.out.trans (hb.mono (by rw [HZ.out]; omega))
        repeat (first | exact HB | refine Below.alloc ?_ (by simp; try omega) _ | refine Below.setCell ?_ (by simp; try omega) _)
      · have hq := beqs_no heq
        have HQ := Lib.hid heq
        clear heq
        go_wp2
        go_roundw
        case rel => exact ⟨k + 1, by omega, by go_num, fun j f hj hf => by
          by_cases ej : j = k
          · subst ej
            rw [HEE.out] at hf
            injection hf with hf
            exact hf ▸ HQ.out
          · exact HA.out j f (by omega) hf, hb.alloc hb.size _⟩
        case measure => simp [intOf]; omega
    · obtain rfl : o = none := by
        rw [← ho.out]
        exact getM_none xs q (fun j f hf => HA.out j f (by have := (List.getElem?_eq_some_iff.1 hf).1; rw [HN.out] at this; omega) hf)
      go_wp2
      refine bodyPost_ret (v := optM none) (by simp [results, Tryz.results44, go_sem, g0, g1, g2]) rfl ⟨rfl, ?_⟩
      have HB := HW.out.trans (hb.mono (by rw [HZ.out]; omega))
      repeat (first | exact HB | refine Below.alloc ?_ (by simp; try omega) _ | refine Below.setCell ?_ (by simp; try omega) _)
/-- What the program asks of the mark at place k. -/
def MAskM (xs : List Mk) (k : Nat) (e : Mk) : Prop := MAskI (xs.map Mk.pl) k e.pl
def MAskR (xs : List Mk) (k : Nat) (e : Mk) : Prop := MAskS (xs.map Mk.pl) k e.pl
theorem lok_M (xs : List Mk) : LOk (xs.map Mk.pl) ↔ xs.length ≤ 32 ∧ ∀ (k : Nat) (e : Mk), xs[k]? = some e → MAskM xs k e := by
  rw [lok_iff, List.length_map]
  constructor
  · rintro ⟨h1, h2⟩
    exact ⟨h1, fun k e he => h2 k e.pl (by simp [he])⟩
  · rintro ⟨h1, h2⟩
    refine ⟨h1, fun k e he => ?_⟩
    rw [List.getElem?_map, Option.map_eq_some_iff] at he
    obtain ⟨f, hf, rfl⟩ := he
    exact h2 k f hf
theorem lok_R (xs : List Mk) : LOk (xs.map Mk.pl) ↔ xs.length ≤ 32 ∧ ∀ (k : Nat) (e : Mk), xs[k]? = some e → MAskR xs k e := by
  rw [lok_iffS, List.length_map]
  constructor
  · rintro ⟨h1, h2⟩
    exact ⟨h1, fun k e he => h2 k e.pl (by simp [he])⟩
  · rintro ⟨h1, h2⟩
    refine ⟨h1, fun k e he => ?_⟩
    rw [List.getElem?_map, Option.map_eq_some_iff] at he
    obtain ⟨f, hf, rfl⟩ := he
    exact h2 k f hf
theorem lok_dec (xs : List Mk) : ∃ r : Bool, r = true ↔ LOk (xs.map Mk.pl) := ⟨by classical exact decide (LOk (xs.map Mk.pl)), by simp⟩
theorem mless_of (xs : List Mk) (k : Nat) (f e : Mk) (hf : xs[k]? = some f) (h2 : Op.bytesLess f.p.toList e.p.toList = true) : ∀ g, 0 < k + 1 → (xs.map Mk.pl)[k + 1 - 1]? = some g → Op.bytesLess g.p e.pl.p = true := by
  intro g _ hg
  rw [Nat.add_sub_cancel, List.getElem?_map, hf] at hg
  injection hg with hg
  rw [← hg]
  rw [less_of'] at h2
  exact h2
theorem mless_at (xs : List Mk) (k : Nat) (f e : Mk) (hf : xs[k]? = some f) (h : ∀ g, 0 < k + 1 → (xs.map Mk.pl)[k + 1 - 1]? = some g → Op.bytesLess g.p e.pl.p = true) : Op.bytesLess f.p.toList e.p.toList = true := by
  have := h f.pl (by omega) (by rw [Nat.add_sub_cancel, List.getElem?_map, hf]; rfl)
  rw [less_of']
  exact this
theorem upM_G (xs : List Mk) (q u : ByteArray) (hu : upL q.data.toList = u.data.toList) (hr : u.data.toList ≠ [47]) : upM (xs.map Mk.pl) q.data.toList = match getM xs u with
    | some m => dirM m.pl
    | none => false := by
  unfold upM
  rw [hu, getM_pl]
  have : (u.data.toList == [47]) = false := by simpa using hr
  rw [this, Bool.false_or]
  cases getM xs u <;> rfl
theorem upM_root (l : List PM) (q : Bs) (hu : upL q = [47]) : upM l q = true := by unfold upM; rw [hu]; rfl
set_option maxRecDepth 100000 in
set_option maxHeartbeats 8000000 in
theorem layerOk_c (a : Option Addr) (c : Nat) (xs : List Mk) (r : Bool) (hr : Hid (r = true ↔ LOk (xs.map Mk.pl))) (w : World) (hs : SlF Mk.cells w a xs) (hx : xs.length ≤ maxLen) (hz : ∀ e ∈ xs, e.p.size ≤ 2000000 ∧ e.x.size ≤ 2000000) :
    Calls Tryz.prog 16 #[.slice a xs.length c] w fun q w' => q = .returned (.bool r) ∧ Below w.heap.size w w' := by
  have hR : Hid (r = true ↔ xs.length ≤ 32 ∧ ∀ (k : Nat) (e : Mk), xs[k]? = some e → MAskM xs k e) := by rw [Hid, hr.out, lok_M]
  have HM := fun (q : ByteArray) (o : Option Mk) (ho : Hid (getM xs q = o)) (W : World) (h : SlF Mk.cells W a xs) => Lib.hid (markAt_c a c xs q o ho W h hx)
  have HB := fun (q : ByteArray) (hq : q.size ≤ 2000000) (v : Bool) (hv : Hid (bareL (xs.map Mk.pl) q.data.toList = v)) => Lib.hid (fun (W : World) (h : SlF Mk.cells W a xs) => Lib.hid (belowBare_c a c xs q v hv W h hx hq hz))
  have HZ := Lib.hid hz
  have HS := Lib.hid hs
  obtain ⟨n, hn⟩ : ∃ n, xs.length = n := ⟨_, rfl⟩
  have HN := Lib.hid hn
  rw [hn] at hR hx HM HB ⊢
  unfold maxLen at hx
  have GM := Lib.hid HM
  have GB0 := Lib.hid HB
  clear hn hz hs hr HM HB
  by_cases h16 : 32 < n
  · obtain rfl : r = false := by
      cases r
      · rfl
      · have := hR.out.1 rfl; omega
    go_enter Tryz.func16, Tryz.ntmps16
    go_wp2
    go_ret
    exact ⟨rfl, Below.refl _ _⟩
  have hno : Hid (∀ (k : Nat) (e : Mk), xs[k]? = some e → ¬ MAskM xs k e → r = false) := fun k e he hne => by
    cases r
    · rfl
    · exact absurd ((hR.out.1 rfl).2 k e he) hne
  go_enter Tryz.func16, Tryz.ntmps16
  go_wp2
  go_loopw [3, 4, 5, 6, 7, 13] (fun _ _ _ _ _ i wr => ∃ k : Nat, k ≤ n ∧ i = .int .i64 k ∧ (∀ (j : Nat) (e : Mk), j < k → xs[j]? = some e → MAskM xs j e) ∧ Below w.heap.size w wr) (fun _ _ _ _ _ i _ => n - (intOf i).toNat)
  case atStart => exact ⟨0, Nat.zero_le _, rfl, fun j _ h => absurd h (by omega), Below.refl _ _⟩
  case round =>
    obtain ⟨k, hk, rfl, hall, hb⟩ := hrel
    have HA := Lib.hid hall
    clear hall
    by_cases hlt : k < n
    · obtain ⟨e, hee⟩ : ∃ e, xs[k]? = some e := ⟨_, List.getElem?_eq_getElem (by rw [HN.out]; exact hlt)⟩
      have h2 := (HS.out.below hb)
      obtain ⟨b, off, rfl, _⟩ := h2.addr (by rw [HN.out]; omega)
      obtain ⟨d0, d1, d2⟩ := mk_at h2 k e hee
      have hzz := HZ.out e (List.mem_of_getElem? hee)
      have HNO := Lib.hid (fun h => hno.out k e hee h)
      have HEE := Lib.hid hee
      have h3 := h2
      clear h2 hee
      obtain ⟨ep, ek, ex⟩ := e
      have hz1 : ep.size ≤ maxLen := Nat.le_trans hzz.1 (by unfold maxLen; omega)
      have hz2 : ex.size ≤ maxLen := Nat.le_trans hzz.2 (by unfold maxLen; omega)
      have HZ1 := Lib.hid hz1
      have HZ2 := Lib.hid hz2
      have GB := Lib.hid (fun v hv => GB0.out ep hzz.1 v hv)
      obtain ⟨u, hu, hus⟩ := up_str20 ep
      clear hzz hz1 hz2
      have c0 := new_cell wr #[.string ep, .int .i64 ek, .string ex] 43 0 _ rfl
      have c1 := new_cell wr #[.string ep, .int .i64 ek, .string ex] 43 1 _ rfl
      have c2 := new_cell wr #[.string ep, .int .i64 ek, .string ex] 43 2 _ rfl
      replace hb := hb.alloc hb.size (.cells #[.string ep, .int .i64 ek, .string ex] 43)
      obtain ⟨p1, hp1⟩ : ∃ x, markOkL (Mk.pl ⟨ep, ek, ex⟩) = x := ⟨_, rfl⟩
      have H1 := Lib.hid hp1
      clear hp1
      cases p1 with
      | false =>
        obtain rfl : r = false := HNO.out (fun h => by have := h.1; rw [H1.out] at this; cases this)
        go_wp2_with fail
        refine (markOk_c ⟨ep, ek, ex⟩ false H1 _ HZ1.out HZ2.out).mono ?_; rintro e W ⟨rfl, hq⟩; replace hb := chn hb hq; clear hq
        go_wp2
        go_ret
        exact ⟨rfl, hb⟩
      | true =>
      have hkk : 1 ≤ ek ∧ ek ≤ 4 := markOk_kind H1.out
      have HKK := Lib.hid hkk
      clear hkk
      cases k with
      | zero =>
        rw [Nat.zero_mul, Nat.add_zero] at d0 d1 d2
        have ASK := Lib.hid (fun (h3 : upM (xs.map Mk.pl) ep.data.toList = true) (h4 : 2 < ek → bareL (xs.map Mk.pl) ep.data.toList = false) (j : Nat) (g : Mk) (hj : j < 0 + 1) (hg : xs[j]? = some g) => (by
          have ej : j = 0 := by omega
          subst ej
          rw [HEE.out] at hg
          injection hg with hg
          rw [← hg]
          exact ⟨H1.out, fun _ h _ => absurd h (by omega), h3, h4⟩ : MAskM xs j g))
        clear h3
        go_wp2_with fail
        refine (markOk_c ⟨ep, ek, ex⟩ true H1 _ HZ1.out HZ2.out).mono ?_; rintro e W ⟨rfl, hq⟩; replace hb := chn hb hq; replace c0 := keepc hq c0; replace c1 := keepc hq c1; replace c2 := keepc hq c2; clear hq
        go_wp2_with fail
        go_quiet (fail)
        go_wp2_with fail
        refine (pathUp_c ep u hu _ HZ1.out).mono ?_; rintro e W ⟨rfl, hq⟩; replace hb := chn (drw hb _) hq; replace c0 := keepc hq c0; replace c1 := keepc hq c1; replace c2 := keepc hq c2; clear hq
        by_cases hrt : u.data.toList = [47]
        · have q2 := beq_yes hrt
          have HUP := Lib.hid (upM_root (xs.map Mk.pl) ep.data.toList (hu.out.trans hrt))
          clear hrt
          by_cases k3 : 2 < ek
          · obtain ⟨v, hv⟩ : ∃ v, bareL (xs.map Mk.pl) ep.data.toList = v := ⟨_, rfl⟩
            have HV := Lib.hid hv
            clear hv
            have HBB := GB.out v HV
            rcases (by have := HKK.out; omega : ek = 3 ∨ ek = 4) with hek | hek <;> subst hek
            all_goals
              go_wp2_with fail
              refine (HBB.out _ (HS.out.below hb)).out.mono ?_; rintro e' W' ⟨rfl, hq⟩; replace hb := chn hb hq; clear hq
              cases v with
              | true =>
                obtain rfl : r = false := HNO.out (fun h => by have := h.2.2.2 k3; rw [show (Mk.pl ⟨ep, _, ex⟩).p = ep.data.toList from rfl, HV.out] at this; cases this)
                go_wp2
                go_ret
                exact ⟨rfl, by repeat (first | exact hb | refine Below.alloc ?_ (by have := hb.size; simp; try omega) _)⟩
              | false =>
                go_wp2
                go_roundw
                case rel => exact ⟨(0+1), by omega, by go_num, ASK.out HUP.out (fun _ => HV.out), by repeat (first | exact hb | refine Below.alloc ?_ (by have := hb.size; simp; try omega) _)⟩
                case measure => simp [intOf]; omega
          · have n3 : (ek == 3) = false := by rw [beq_eq_false_iff_ne]; omega
            have n4 : (ek == 4) = false := by rw [beq_eq_false_iff_ne]; omega
            go_wp2
            go_roundw
            case rel => exact ⟨(0+1), by omega, by go_num, ASK.out HUP.out (fun h => (by exfalso; omega)), by repeat (first | exact hb | refine Below.alloc ?_ (by have := hb.size; simp; try omega) _)⟩
            case measure => simp [intOf]; omega
        · have q2 := beq_no hrt
          have HUP := Lib.hid (upM_G xs ep u hu.out hrt)
          clear hrt
          obtain ⟨o, ho⟩ : ∃ o, getM xs u = o := ⟨_, rfl⟩
          have HO := Lib.hid ho
          clear ho
          go_wp2_with fail
          refine ((GM.out u o HO _ (HS.out.below hb)).out).mono ?_; rintro e W ⟨rfl, hq⟩; replace hb := chn hb hq; replace c0 := keepc hq c0; replace c1 := keepc hq c1; replace c2 := keepc hq c2; clear hq
          cases o with
          | none =>
            obtain rfl : r = false := HNO.out (fun h => by have h := h.2.2.1; rw [show (Mk.pl ⟨ep, ek, ex⟩).p = ep.data.toList from rfl, HUP.out, HO.out] at h; cases h)
            go_wp2
            go_ret
            exact ⟨rfl, by repeat (first | exact hb | refine Below.alloc ?_ (by have := hb.size; simp; try omega) _)⟩
          | some f =>
            obtain ⟨v, hv⟩ : ∃ v, dirM f.pl = v := ⟨_, rfl⟩
            have HV := Lib.hid hv
            clear hv
            obtain ⟨fp, fk, fx⟩ := f
            replace hb := hb.alloc hb.size (.cells #[.string fp, .int .i64 fk, .string fx] 43); replace c0 := keepc (bellow_alloc _ (.cells #[.string fp, .int .i64 fk, .string fx] 43)) c0; replace c1 := keepc (bellow_alloc _ (.cells #[.string fp, .int .i64 fk, .string fx] 43)) c1; replace c2 := keepc (bellow_alloc _ (.cells #[.string fp, .int .i64 fk, .string fx] 43)) c2; 
            go_wp2_with fail
            refine (isDir_c ⟨fp, fk, fx⟩ v HV _).mono ?_; rintro e W ⟨rfl, hq⟩; replace hb := chn hb hq; replace c0 := keepc hq c0; replace c1 := keepc hq c1; replace c2 := keepc hq c2; clear hq
            cases v with
            | false =>
              obtain rfl : r = false := HNO.out (fun h => by have h := h.2.2.1; rw [show (Mk.pl ⟨ep, ek, ex⟩).p = ep.data.toList from rfl, HUP.out, HO.out] at h; exact absurd (h.symm.trans HV.out) (by simp))
              go_wp2
              go_ret
              exact ⟨rfl, by repeat (first | exact hb | refine Below.alloc ?_ (by have := hb.size; simp; try omega) _)⟩
            | true =>
              have HUQ : Hid (upM (xs.map Mk.pl) ep.data.toList = true) := by rw [Hid, HUP.out, HO.out]; exact HV.out
              clear HV HO HUP
              by_cases k3 : 2 < ek
              · obtain ⟨v, hv⟩ : ∃ v, bareL (xs.map Mk.pl) ep.data.toList = v := ⟨_, rfl⟩
                have HV := Lib.hid hv
                clear hv
                have HBB := GB.out v HV
                rcases (by have := HKK.out; omega : ek = 3 ∨ ek = 4) with hek | hek <;> subst hek
                all_goals
                  go_wp2_with fail
                  refine (HBB.out _ (HS.out.below hb)).out.mono ?_; rintro e' W' ⟨rfl, hq⟩; replace hb := chn hb hq; clear hq
                  cases v with
                  | true =>
                    obtain rfl : r = false := HNO.out (fun h => by have := h.2.2.2 k3; rw [show (Mk.pl ⟨ep, _, ex⟩).p = ep.data.toList from rfl, HV.out] at this; cases this)
                    go_wp2
                    go_ret
                    exact ⟨rfl, by repeat (first | exact hb | refine Below.alloc ?_ (by have := hb.size; simp; try omega) _)⟩
                  | false =>
                    go_wp2
                    go_roundw
                    case rel => exact ⟨(0+1), by omega, by go_num, ASK.out HUQ.out (fun _ => HV.out), by repeat (first | exact hb | refine Below.alloc ?_ (by have := hb.size; simp; try omega) _)⟩
                    case measure => simp [intOf]; omega
              · have n3 : (ek == 3) = false := by rw [beq_eq_false_iff_ne]; omega
                have n4 : (ek == 4) = false := by rw [beq_eq_false_iff_ne]; omega
                go_wp2
                go_roundw
                case rel => exact ⟨(0+1), by omega, by go_num, ASK.out HUQ.out (fun h => (by exfalso; omega)), by repeat (first | exact hb | refine Below.alloc ?_ (by have := hb.size; simp; try omega) _)⟩
                case measure => simp [intOf]; omega
      | succ k =>
        obtain ⟨f, hff⟩ : ∃ f, xs[k]? = some f := ⟨_, List.getElem?_eq_getElem (by rw [HN.out]; omega)⟩
        obtain ⟨c3, _, _⟩ := mk_at h3 k f hff
        replace c3 := keepc (bellow_alloc wr (.cells #[.string ep, .int .i64 ek, .string ex] 43)) c3
        have HFF := Lib.hid hff
        clear hff h3
        rcases Bool.eq_false_or_eq_true (Op.bytesLess f.p.toList ep.toList) with hle | hle
        · have HLE := Lib.hid hle
          have ASK := Lib.hid (fun (h3 : upM (xs.map Mk.pl) ep.data.toList = true) (h4 : 2 < ek → bareL (xs.map Mk.pl) ep.data.toList = false) (j : Nat) (g : Mk) (hj : j < k + 1 + 1) (hg : xs[j]? = some g) => (by
            by_cases ej : j = k + 1
            · subst ej
              rw [HEE.out] at hg
              injection hg with hg
              rw [← hg]
              exact ⟨H1.out, mless_of xs k f ⟨ep, ek, ex⟩ HFF.out HLE.out, h3, h4⟩
            · exact HA.out j g (by omega) hg : MAskM xs j g))
          go_wp2_with fail
          refine (markOk_c ⟨ep, ek, ex⟩ true H1 _ HZ1.out HZ2.out).mono ?_; rintro e W ⟨rfl, hq⟩; replace hb := chn hb hq; replace c0 := keepc hq c0; replace c1 := keepc hq c1; replace c2 := keepc hq c2; replace c3 := keepc hq c3; clear hq
          go_wp2_with fail
          go_quiet (fail)
          clear hle c3
          go_wp2_with fail
          refine (pathUp_c ep u hu _ HZ1.out).mono ?_; rintro e W ⟨rfl, hq⟩; replace hb := chn (drw hb _) hq; replace c0 := keepc hq c0; replace c1 := keepc hq c1; replace c2 := keepc hq c2; clear hq
          by_cases hrt : u.data.toList = [47]
          · have q2 := beq_yes hrt
            have HUP := Lib.hid (upM_root (xs.map Mk.pl) ep.data.toList (hu.out.trans hrt))
            clear hrt
            by_cases k3 : 2 < ek
            · obtain ⟨v, hv⟩ : ∃ v, bareL (xs.map Mk.pl) ep.data.toList = v := ⟨_, rfl⟩
              have HV := Lib.hid hv
              clear hv
              have HBB := GB.out v HV
              rcases (by have := HKK.out; omega : ek = 3 ∨ ek = 4) with hek | hek <;> subst hek
              all_goals
                go_wp2_with fail
                refine (HBB.out _ (HS.out.below hb)).out.mono ?_; rintro e' W' ⟨rfl, hq⟩; replace hb := chn hb hq; clear hq
                cases v with
                | true =>
                  obtain rfl : r = false := HNO.out (fun h => by have := h.2.2.2 k3; rw [show (Mk.pl ⟨ep, _, ex⟩).p = ep.data.toList from rfl, HV.out] at this; cases this)
                  go_wp2
                  go_ret
                  exact ⟨rfl, by repeat (first | exact hb | refine Below.alloc ?_ (by have := hb.size; simp; try omega) _)⟩
                | false =>
                  go_wp2
                  go_roundw
                  case rel => exact ⟨(k+1+1), by omega, by go_num, ASK.out HUP.out (fun _ => HV.out), by repeat (first | exact hb | refine Below.alloc ?_ (by have := hb.size; simp; try omega) _)⟩
                  case measure => simp [intOf]; omega
            · have n3 : (ek == 3) = false := by rw [beq_eq_false_iff_ne]; omega
              have n4 : (ek == 4) = false := by rw [beq_eq_false_iff_ne]; omega
              go_wp2
              go_roundw
              case rel => exact ⟨(k+1+1), by omega, by go_num, ASK.out HUP.out (fun h => (by exfalso; omega)), by repeat (first | exact hb | refine Below.alloc ?_ (by have := hb.size; simp; try omega) _)⟩
              case measure => simp [intOf]; omega
          · have q2 := beq_no hrt
            have HUP := Lib.hid (upM_G xs ep u hu.out hrt)
            clear hrt
            obtain ⟨o, ho⟩ : ∃ o, getM xs u = o := ⟨_, rfl⟩
            have HO := Lib.hid ho
            clear ho
            go_wp2_with fail
            refine ((GM.out u o HO _ (HS.out.below hb)).out).mono ?_; rintro e W ⟨rfl, hq⟩; replace hb := chn hb hq; replace c0 := keepc hq c0; replace c1 := keepc hq c1; replace c2 := keepc hq c2; clear hq
            cases o with
            | none =>
              obtain rfl : r = false := HNO.out (fun h => by have h := h.2.2.1; rw [show (Mk.pl ⟨ep, ek, ex⟩).p = ep.data.toList from rfl, HUP.out, HO.out] at h; cases h)
              go_wp2
              go_ret
              exact ⟨rfl, by repeat (first | exact hb | refine Below.alloc ?_ (by have := hb.size; simp; try omega) _)⟩
            | some f =>
              obtain ⟨v, hv⟩ : ∃ v, dirM f.pl = v := ⟨_, rfl⟩
              have HV := Lib.hid hv
              clear hv
              obtain ⟨fp, fk, fx⟩ := f
              replace hb := hb.alloc hb.size (.cells #[.string fp, .int .i64 fk, .string fx] 43); replace c0 := keepc (bellow_alloc _ (.cells #[.string fp, .int .i64 fk, .string fx] 43)) c0; replace c1 := keepc (bellow_alloc _ (.cells #[.string fp, .int .i64 fk, .string fx] 43)) c1; replace c2 := keepc (bellow_alloc _ (.cells #[.string fp, .int .i64 fk, .string fx] 43)) c2; 
              go_wp2_with fail
              refine (isDir_c ⟨fp, fk, fx⟩ v HV _).mono ?_; rintro e W ⟨rfl, hq⟩; replace hb := chn hb hq; replace c0 := keepc hq c0; replace c1 := keepc hq c1; replace c2 := keepc hq c2; clear hq
              cases v with
              | false =>
                obtain rfl : r = false := HNO.out (fun h => by have h := h.2.2.1; rw [show (Mk.pl ⟨ep, ek, ex⟩).p = ep.data.toList from rfl, HUP.out, HO.out] at h; exact absurd (h.symm.trans HV.out) (by simp))
                go_wp2
                go_ret
                exact ⟨rfl, by repeat (first | exact hb | refine Below.alloc ?_ (by have := hb.size; simp; try omega) _)⟩
              | true =>
                have HUQ : Hid (upM (xs.map Mk.pl) ep.data.toList = true) := by rw [Hid, HUP.out, HO.out]; exact HV.out
                clear HV HO HUP
                by_cases k3 : 2 < ek
                · obtain ⟨v, hv⟩ : ∃ v, bareL (xs.map Mk.pl) ep.data.toList = v := ⟨_, rfl⟩
                  have HV := Lib.hid hv
                  clear hv
                  have HBB := GB.out v HV
                  rcases (by have := HKK.out; omega : ek = 3 ∨ ek = 4) with hek | hek <;> subst hek
                  all_goals
                    go_wp2_with fail
                    refine (HBB.out _ (HS.out.below hb)).out.mono ?_; rintro e' W' ⟨rfl, hq⟩; replace hb := chn hb hq; clear hq
                    cases v with
                    | true =>
                      obtain rfl : r = false := HNO.out (fun h => by have := h.2.2.2 k3; rw [show (Mk.pl ⟨ep, _, ex⟩).p = ep.data.toList from rfl, HV.out] at this; cases this)
                      go_wp2
                      go_ret
                      exact ⟨rfl, by repeat (first | exact hb | refine Below.alloc ?_ (by have := hb.size; simp; try omega) _)⟩
                    | false =>
                      go_wp2
                      go_roundw
                      case rel => exact ⟨(k+1+1), by omega, by go_num, ASK.out HUQ.out (fun _ => HV.out), by repeat (first | exact hb | refine Below.alloc ?_ (by have := hb.size; simp; try omega) _)⟩
                      case measure => simp [intOf]; omega
                · have n3 : (ek == 3) = false := by rw [beq_eq_false_iff_ne]; omega
                  have n4 : (ek == 4) = false := by rw [beq_eq_false_iff_ne]; omega
                  go_wp2
                  go_roundw
                  case rel => exact ⟨(k+1+1), by omega, by go_num, ASK.out HUQ.out (fun h => (by exfalso; omega)), by repeat (first | exact hb | refine Below.alloc ?_ (by have := hb.size; simp; try omega) _)⟩
                  case measure => simp [intOf]; omega
        · obtain rfl : r = false := HNO.out (fun h => by have := mless_at xs k f ⟨ep, ek, ex⟩ HFF.out h.2.1; rw [hle] at this; cases this)
          go_wp2_with fail
          refine (markOk_c ⟨ep, ek, ex⟩ true H1 _ HZ1.out HZ2.out).mono ?_; rintro e W ⟨rfl, hq⟩; replace hb := chn hb hq; replace c0 := keepc hq c0; replace c1 := keepc hq c1; replace c2 := keepc hq c2; replace c3 := keepc hq c3; clear hq
          go_wp2_with fail
          go_quiet (fail)
          go_wp2
          go_ret
          exact ⟨rfl, drw hb _⟩
    · obtain rfl : r = true := hR.out.2 ⟨by omega, fun j e he => HA.out j e (by have := (List.getElem?_eq_some_iff.1 he).1; rw [HN.out] at this; omega) he⟩
      go_wp2
      go_ret
      exact ⟨rfl, hb⟩
end Go.Proofs.YtdhbdcmnbhjjaaaGreatDoor
namespace Go.Proofs.YtdhbdcmnbhjjaaaGreatDoor
open Go.RowKit
/-- A row of marks of the call's own that reads as l. -/
def MadeMs (l : List PM) (w : World) (e : Ending) (w' : World) : Prop :=
  ∃ (a : Option Addr) (c : Nat) (ms : List Mk), e = .returned (.slice a ms.length c) ∧ ms.map Mk.pl = l ∧ OwnMk w' w.heap.size (.slice a ms.length c) ms ∧ Below w.heap.size w w'
theorem madeMs_of {w0 w : World} {B : Nat} {v : Value} {ms : List Mk} {l : List PM} (hl : ms.map Mk.pl = l) (h : w.ownsRow B 43 3 v ms.length (ms.flatMap Mk.cells)) (hB : w0.heap.size ≤ B) (hb : Below w0.heap.size w0 w) : MadeMs l w0 (.returned v) w := by
  rcases h.2 with ⟨rfl, h1⟩ | ⟨g, cap, cur, rfl, hg, hh, hnc, hm, h2, h3⟩
  · refine ⟨none, 0, ms, by rw [h1], hl, ?_, hb⟩
    refine ⟨h.1, .inl ⟨by rw [h1], h1⟩⟩
  · exact ⟨_, cap, ms, rfl, hl, ⟨h.1, .inr ⟨g, cap, cur, rfl, Nat.le_trans hB hg, hh, hnc, hm, h2, h3⟩⟩, hb⟩
theorem take_ml (xs : List Mk) (k : Nat) (e : Mk) (he : xs[k]? = some e) : (xs.take (k + 1)).map Mk.pl = (xs.take k).map Mk.pl ++ [e.pl] := by
  have h1 := List.take_succ_eq_append_getElem (l := xs) (i := k) (List.getElem?_eq_some_iff.1 he).1
  rw [(List.getElem?_eq_some_iff.1 he).2] at h1
  rw [h1, List.map_append]; rfl
theorem flat_mk (xs : List Mk) (e : Mk) : xs.flatMap Mk.cells ++ (#[.string e.p, .int .i64 e.k, .string e.x] : Array Value).toList = (xs ++ [e]).flatMap Mk.cells := by simp [Mk.cells]
/-- What is kept of the lower layer. -/
def keptM (a b : List PM) : List PM := b.filter fun m => (atP PM.p a m.p).isNone && !hidesL a m.p
theorem kept_snoc (a b : List PM) (m : PM) : keptM a (b ++ [m]) = keptM a b ++ if (atP PM.p a m.p).isNone && !hidesL a m.p then [m] else [] := by
  unfold keptM
  rw [List.filter_append]
  congr 1
  rw [List.filter_cons]
  split <;> simp_all
theorem kept_len (a b : List PM) : (keptM a b).length ≤ b.length := by unfold keptM; exact List.length_filter_le _ _
theorem joinRaw_eq (a b : List PM) : joinRaw a b = keptM a b ++ a.map (bothM b) := rfl
/-- A mark of the upper layer on what the lower one has there. -/
def bothK (o : Option Mk) (e : Mk) : Mk := if e.k = 2 then (match o with
  | some u => if u.k = 2 then e else ⟨e.p, 4, e.x⟩
  | none => e) else e
theorem both_pl (ys : List Mk) (e : Mk) : bothM (ys.map Mk.pl) e.pl = (bothK (getM ys e.p) e).pl := by
  unfold bothM bothK
  rw [show atP PM.p (ys.map Mk.pl) e.pl.p = (getM ys e.p).map Mk.pl from getM_pl ys e.p]
  by_cases h : e.k = 2
  · rw [if_pos (show e.pl.k = 2 from h), if_pos h]
    cases getM ys e.p with
    | none => rfl
    | some u =>
      show (if u.k = 2 then e.pl else _) = _
      show _ = (if u.k = 2 then e else (⟨e.p, 4, e.x⟩ : Mk)).pl
      by_cases h2 : u.k = 2
      · rw [if_pos h2, if_pos h2]
      · rw [if_neg h2, if_neg h2]; rfl
  · rw [if_neg (show ¬ e.pl.k = 2 from h), if_neg h]
end Go.Proofs.YtdhbdcmnbhjjaaaGreatDoor
namespace Go.Proofs.YtdhbdcmnbhjjaaaGreatDoor
open Go.RowKit
open Classical in
/-- What LayerJoin tells. -/
noncomputable def ljoinB (a b : List PM) : Bool := decide (LOk a ∧ LOk b ∧ (joinLy a b).length ≤ 32)
noncomputable def ljoinL (a b : List PM) : List PM := if ljoinB a b then joinLy a b else []
theorem ljoin_bad {a b : List PM} (h : ¬ (LOk a ∧ LOk b)) : ljoinB a b = false := by
  unfold ljoinB; rw [decide_eq_false_iff_not]; exact fun h' => h ⟨h'.1, h'.2.1⟩
theorem ljoin_ok {a b : List PM} (h : LOk a) (h' : LOk b) : ljoinB a b = decide ((joinLy a b).length ≤ 32) := by
  unfold ljoinB; simp [h, h']
theorem bound_of {xs : List Mk} {l : List PM} (h : xs.map Mk.pl = l) (hl : ∀ m ∈ l, m.p.length ≤ 2000000 ∧ m.x.length ≤ 2000000) : ∀ e ∈ xs, e.p.size ≤ 2000000 ∧ e.x.size ≤ 2000000 := fun e he => by
  have := hl e.pl (by rw [← h]; exact List.mem_map_of_mem he)
  have h1 : e.pl.p.length = e.p.size := size_data e.p
  have h2 : e.pl.x.length = e.x.size := size_data e.x
  omega
theorem bound_pl {xs : List Mk} (hz : ∀ e ∈ xs, e.p.size ≤ 2000000 ∧ e.x.size ≤ 2000000) : ∀ m ∈ xs.map Mk.pl, m.p.length ≤ 2000000 ∧ m.x.length ≤ 2000000 := fun m hm => by
  obtain ⟨e, he, rfl⟩ := List.mem_map.1 hm
  have := hz e he
  have h1 : e.pl.p.length = e.p.size := size_data e.p
  have h2 : e.pl.x.length = e.x.size := size_data e.x
  omega
theorem both_x (b : List PM) (m : PM) : (bothM b m).x = m.x := by
  unfold bothM
  split
  · split
    · split <;> rfl
    · rfl
  · rfl
theorem bound_join {a b : List PM} (ha : ∀ m ∈ a, m.p.length ≤ 2000000 ∧ m.x.length ≤ 2000000) (hb : ∀ m ∈ b, m.p.length ≤ 2000000 ∧ m.x.length ≤ 2000000) : ∀ m ∈ joinRaw a b, m.p.length ≤ 2000000 ∧ m.x.length ≤ 2000000 := fun m hm => by
  unfold joinRaw at hm
  rcases List.mem_append.1 hm with h | h
  · exact hb m (List.mem_filter.1 h).1
  · obtain ⟨n, hn, rfl⟩ := List.mem_map.1 h
    rw [bothM_p, both_x]; exact ha n hn
theorem len_join (a b : List PM) : (joinRaw a b).length ≤ a.length + b.length := by
  unfold joinRaw
  have := List.length_filter_le (fun m => (atP PM.p a m.p).isNone && !hidesL a m.p) b
  rw [List.length_append, List.length_map]; omega
/-- What becomes of a mark as it lies. -/
def tidyK (r : Bool) (m : Mk) : Option Mk := if r = true then (if m.k = 3 then none else if m.k = 4 then some ⟨m.p, 2, m.x⟩ else some m) else some m
theorem tidy_pl (u : List PM) (m : Mk) : tidyM u m.pl = (tidyK (bareL u m.p.data.toList) m).map Mk.pl := by
  unfold tidyM tidyK
  show (if bareL u m.p.data.toList = true then (if m.k = 3 then none else if m.k = 4 then some _ else some m.pl) else some m.pl) = _
  split
  · split
    · rfl
    · split <;> rfl
  · rfl
theorem tidy_snoc (u : List PM) (ms : List Mk) (k : Nat) (e : Mk) (he : ms[k]? = some e) (ns : List Mk) (h : ns.map Mk.pl = ((ms.take k).map Mk.pl).filterMap (tidyM u)) :
    (ns ++ (tidyK (bareL u e.p.data.toList) e).toList).map Mk.pl = ((ms.take (k + 1)).map Mk.pl).filterMap (tidyM u) := by
  rw [take_ml ms k e he, List.filterMap_append, List.map_append, h]
  congr 1
  rw [List.filterMap_cons, tidy_pl]
  cases tidyK (bareL u e.p.data.toList) e <;> rfl
end Go.Proofs.YtdhbdcmnbhjjaaaGreatDoor
namespace Go.Proofs.YtdhbdcmnbhjjaaaGreatDoor
open Go.RowKit
theorem tidyL_step (ms : List Mk) (k : Nat) (e : Mk) (he : ms[k]? = some e) (ns : List Mk) :
    tidyL (ns.map Mk.pl) ((ms.drop k).map Mk.pl) = tidyL ((ns ++ (tidyK (bareL (ns.map Mk.pl) e.p.data.toList) e).toList).map Mk.pl) ((ms.drop (k + 1)).map Mk.pl) := by
  obtain ⟨h1, h2⟩ := List.getElem?_eq_some_iff.1 he
  rw [List.drop_eq_getElem_cons h1, h2, List.map_cons, tidyL, tidy_pl, List.map_append]
  cases tidyK (bareL (ns.map Mk.pl) e.p.data.toList) e with
  | none => simp
  | some m => rfl
end Go.Proofs.YtdhbdcmnbhjjaaaGreatDoor
namespace Go.Proofs.YtdhbdcmnbhjjaaaGreatDoor
open Go.RowKit
/-- A slice of entries that the call made. -/
def MadeMk (ys : List Mk) (w : World) (e : Ending) (w' : World) : Prop :=
  ∃ g c, e = .returned (.slice (some ⟨g, 0, none⟩) ys.length c) ∧ ys.length ≤ c ∧ c ≤ maxLen ∧ OwnMk w' w.heap.size (.slice (some ⟨g, 0, none⟩) ys.length c) ys ∧ Below w.heap.size w w'
theorem own_slfMk' {w : World} {B g c : Nat} {xs : List Mk} (h : OwnMk w B (.slice (some ⟨g, 0, none⟩) xs.length c) xs) : SlF Mk.cells w (some ⟨g, 0, none⟩) xs := fun hn => by
  obtain ⟨g', c', hv, _, _, hlt, hc, _⟩ := own_form h hn
  have hg : g = g' := by injection hv with h1; injection h1 with h1; injection h1
  subst hg
  refine ⟨g, 0, rfl, hlt, fun k x hx j u hu => ?_⟩
  rw [Nat.zero_add]
  refine hc _ _ ?_
  have key : ∀ (ys : List Mk) (k : Nat) (y : Mk), ys[k]? = some y → (ys.flatMap Mk.cells)[k * 3 + j]? = (Mk.cells y)[j]? := by
    have hj : j < 3 := (List.getElem?_eq_some_iff.1 hu).1
    intro ys
    induction ys with
    | nil => intro k y hy; simp at hy
    | cons z r ih =>
      intro k y hy
      rw [List.flatMap_cons]
      cases k with
      | zero =>
        simp at hy; subst hy
        rw [Nat.zero_mul, Nat.zero_add, List.getElem?_append_left (by exact hj)]
      | succ k =>
        rw [List.getElem?_append_right (by show 3 ≤ _; omega), show (k + 1) * 3 + j - (Mk.cells z).length = k * 3 + j by show (k + 1) * 3 + j - 3 = _; omega]
        exact ih k y (by simpa using hy)
  rw [key xs k x hx]; exact hu
theorem mmade_of {w0 w : World} {B : Nat} {v : Value} {ys : List Mk} (h : w.ownsRow B 43 3 v ys.length (ys.flatMap Mk.cells)) (hB : w0.heap.size ≤ B) (hb : Below w0.heap.size w0 w) (hn : 0 < ys.length) : MadeMk ys w0 (.returned v) w := by
  have h0 := h
  rcases h.2 with ⟨_, h1⟩ | ⟨g, cap, cur, rfl, hg, hh, hnc, hm, h2, h3⟩
  · omega
  · exact ⟨g, cap, rfl, hnc, hm, ⟨h.1, .inr ⟨g, cap, cur, rfl, Nat.le_trans hB hg, hh, hnc, hm, h2, h3⟩⟩, hb⟩
theorem mk_one (e : Mk) : ∀ u ∈ Mk.cells e, u.oneCell' = true := by intro u hu; simp [Mk.cells] at hu; rcases hu with rfl | rfl | rfl <;> rfl
theorem mflat_one (e : Mk) : [e].flatMap Mk.cells = (#[.string e.p, .int .i64 e.k, .string e.x] : Array Value).toList := by simp [Mk.cells]
theorem mflat_app (xs : List Mk) (e : Mk) : xs.flatMap Mk.cells ++ (#[.string e.p, .int .i64 e.k, .string e.x] : Array Value).toList = (xs ++ [e]).flatMap Mk.cells := by simp [Mk.cells]
theorem mbs_less (e f : Mk) (b : Bool) : Op.bytesLess e.p.toList f.p.toList = b ↔ Op.bytesLess (Mk.bs e) (Mk.bs f) = b := by rw [less_of']
theorem mdrop_len {xs : List Mk} {n k : Nat} (h : xs.length = n) : (xs.drop k).length = n - k := by rw [List.length_drop, h]
theorem mdrop_len0 {xs : List Mk} {k : Nat} (h : xs.length = k) : (xs.drop k).length = 0 := by rw [List.length_drop, h]; omega
theorem mput_rows {xs ys : List Mk} {k k1 : Nat} {e : Mk} (h : ys = xs.take k ++ e :: xs.drop k1) {w : World} {B : Nat} {t : TypeId} {v : Value}
    (ho : w.ownsRow B t 3 v ((xs.take k).length + 1 + (xs.drop k1).length) ((xs.take k).flatMap Mk.cells ++ (#[.string e.p, .int .i64 e.k, .string e.x] : Array Value).toList ++ (xs.drop k1).flatMap Mk.cells)) : w.ownsRow B t 3 v ys.length (ys.flatMap Mk.cells) := by
  have e1 : ys.length = (xs.take k).length + 1 + (xs.drop k1).length := by rw [h]; simp; omega
  have e2 : ys.flatMap Mk.cells = (xs.take k).flatMap Mk.cells ++ (#[.string e.p, .int .i64 e.k, .string e.x] : Array Value).toList ++ (xs.drop k1).flatMap Mk.cells := by rw [h]; simp [Mk.cells]
  rw [e1, e2]; exact ho
set_option maxRecDepth 100000 in
set_option maxHeartbeats 4000000 in
theorem l3Put_c (b off c : Nat) (xs : List Mk) (e : Mk) (ys : List Mk) (hy : Hid (putP Mk.bs xs e = ys)) (w : World) (hs : SlF Mk.cells w (some ⟨b, off, none⟩) xs) (_hblk : b < w.heap.size) (hx : xs.length ≤ 1000000) (hc : xs.length ≤ c) (hcm : c ≤ maxLen) :
    Calls Tryz.prog 88 #[.slice (some ⟨b, off, none⟩) xs.length c, e.val] w (MadeMk ys w) := by
  have HE := eltMk
  obtain ⟨ep, ed, ex⟩ := e
  unfold maxLen at hcm
  obtain ⟨n, hn⟩ : ∃ n, xs.length = n := ⟨_, rfl⟩
  have HN := Lib.hid hn
  rw [hn] at hx hc ⊢
  obtain ⟨z, hz⟩ : ∃ z, w.alloc (.cells #[.string ep, .int .i64 ed, .string ex] 43) = z := ⟨_, rfl⟩
  have hzs : z.heap.size = w.heap.size + 1 := by rw [← hz]; simp
  have c0 : z.cell? ⟨w.heap.size, 0, none⟩ = some (.string ep) := by rw [← hz]; exact new_cell _ _ _ 0 _ rfl
  have c1 : z.cell? ⟨w.heap.size, 1, none⟩ = some (.int .i64 ed) := by rw [← hz]; exact new_cell _ _ _ 1 _ rfl
  have c2 : z.cell? ⟨w.heap.size, 2, none⟩ = some (.string ex) := by rw [← hz]; exact new_cell _ _ _ 2 _ rfl
  have HW := Lib.hid (hz ▸ bellow_alloc w _ : Below w.heap.size w z)
  have HS := Lib.hid (hs.below HW.out)
  have HZ := Lib.hid hzs
  have HWZ := Lib.hid (show w.heap.size ≤ z.heap.size by rw [hzs]; omega)
  have HC0 := Lib.hid c0
  have HC1 := Lib.hid c1
  have HC2 := Lib.hid c2
  clear hn hs hzs c0 c1 c2
  go_enter Tryz.func88, Tryz.ntmps88
  go_wp2
  clear hz
  go_loopw [5, 6] (fun v i wr => ∃ k : Nat, k ≤ n ∧ i = .int .i64 k ∧ wr.ownsRow z.heap.size 43 3 v (xs.take k).length ((xs.take k).flatMap Mk.cells) ∧ (∀ (j : Nat) (f : Mk), j < k → xs[j]? = some f → Op.bytesLess (Mk.bs f) ep.data.toList = true) ∧ Below z.heap.size z wr) (fun _ i _ => n - (intOf i).toNat)
  case atStart => exact ⟨0, Nat.zero_le _, rfl, World.ownsRow_lit z #[] 0 (Nat.le_refl _) (Nat.zero_le _) rfl, fun j _ h => absurd h (by omega), bellow_alloc _ _⟩
  case round =>
    obtain ⟨k, hk, rfl, hown, hall, hb⟩ := hrel
    have HA := Lib.hid hall
    clear hall
    have g0 := keepc hb HC0.out
    have g1 := keepc hb HC1.out
    have g2 := keepc hb HC2.out
    have hsw := HS.out.below hb
    have hlen : (xs.take k).length = k := by rw [List.length_take, HN.out]; omega
    have HL := Lib.hid hlen
    clear hlen
    by_cases hlt : k < n
    · obtain ⟨f, hff⟩ : ∃ f, xs[k]? = some f := ⟨_, List.getElem?_eq_getElem (by rw [HN.out]; exact hlt)⟩
      obtain ⟨d0, d1, d2⟩ := mk_at hsw k f hff
      have i0 : (0 : Int) ≤ (k : Int) := by omega
      have i1 : (k : Int) < (n : Int) := by omega
      rcases Bool.eq_false_or_eq_true (Op.bytesLess f.p.toList ep.toList) with hle | hle
      · have HLE := Lib.hid ((mbs_less f ⟨ep, ed, ex⟩ true).1 hle)
        have HFF := Lib.hid hff
        clear hff
        go_wp2_with fail
        go_quiet (fail)
        go_wp2_with (at_builtin; go_must (refine wp_app1 (by rfl) _ _ 32 (by rfl) HE z.heap.size z.heap.size z _ #[.string f.p, .int .i64 f.k, .string f.x] _ _ _ (by rfl) (by rfl) hown (by rfl) (by simp [Value.oneCell']) (by have := HL.out; omega) (drw hb _).size (drw hb _) (Nat.le_refl _) ?_); intro v' w1 hown1 hbel1 _ hg1)
        go_roundw
        case rel => exact ⟨k + 1, by omega, by go_num, by
          have e1 := List.take_succ_eq_append_getElem (l := xs) (i := k) (by rw [HN.out]; exact hlt)
          have e2 : xs[k]'(by rw [HN.out]; exact hlt) = f := (List.getElem?_eq_some_iff.1 HFF.out).2
          rw [e2] at e1
          rw [mflat_app] at hown1
          rw [e1, List.length_append]
          exact hown1, fun j g hj hg => by
          by_cases ej : j = k
          · subst ej
            rw [HFF.out] at hg
            injection hg with hg
            exact hg ▸ HLE.out
          · exact HA.out j g (by omega) hg, hbel1⟩
        case measure => simp [intOf]; omega
      · have hnl : ∀ x, xs[k]? = some x → Op.bytesLess (Mk.bs x) (Mk.bs ⟨ep, ed, ex⟩) = false := fun x hx => by
          rw [hff] at hx; injection hx with hx; rw [← hx]; exact (mbs_less f ⟨ep, ed, ex⟩ false).1 hle
        have HSP := Lib.hid (put_split (f := Mk.bs) xs ⟨ep, ed, ex⟩ k (by rw [HN.out]; omega) HA.out hnl)
        clear hnl
        by_cases heq : f.p.data.toList = ep.data.toList
        · have q1 := beqs_yes heq
          have HY : Hid (ys = xs.take k ++ ⟨ep, ed, ex⟩ :: xs.drop (k + 1)) := by
            rw [Hid, ← hy.out, HSP.out, hff, show (Option.map Mk.bs (some f)) = some (Mk.bs ⟨ep, ed, ex⟩) from congrArg some heq, if_pos rfl]
          have HFF := Lib.hid hff
          clear heq hff HSP
          have i2 : (k : Int) + 1 ≤ (n : Int) := by omega
          have i3 : (0 : Int) ≤ (k : Int) + 1 := by omega
          have i4 : (k : Int) + 1 ≤ (c : Int) := by omega
          go_wp2_with fail
          go_quiet (fail)
          go_wp2_with (at_builtin; go_must (refine wp_app1 (by rfl) _ _ 32 (by rfl) HE z.heap.size z.heap.size z _ #[.string ep, .int .i64 ed, .string ex] _ _ _ (by rfl) (by rfl) hown (by rfl) (by simp [Value.oneCell']) (by have := HL.out; omega) (drw hb _).size (drw hb _) (Nat.le_refl _) ?_); intro v' w1 hown1 hbel1 _ hg1)
          have hsw1 := HS.out.below hbel1
          have HDL := Lib.hid (mdrop_len (k := (k+1)) HN.out)
          by_cases hck : c = (k+1)
          · have HSD : ∀ W, SlF Mk.cells W (some ⟨b, off, none⟩) (xs.drop (k+1)) := fun W h => absurd h (by rw [HDL.out]; omega)
            obtain ⟨d0, d1, d2⟩ := mk_at hsw1 k f HFF.out
            have q0 := keepc hbel1 HC0.out
            have hown2 := hown1
            go_wp2_with fail
            go_quiet (fail)
            go_wp2_with (at_builtin; go_must (refine wp_appS (by rfl) _ _ 32 (by rfl) HE z.heap.size z.heap.size z _ _ _ _ (by rfl) Mk.cells (fun _ => rfl) mk_one (xs.drop (k+1)) b off _ _ HDL.out (by rfl) (HSD _) hown2 (by have := HL.out; have := HDL.out; omega) hbel1.size (drw hbel1 _) (Nat.le_refl _) ?_); intro v2 w2 hown3 hbel3 _ _)
            go_ret
            exact mmade_of (mput_rows HY.out hown3) HWZ.out (HW.out.trans (hbel3.mono HWZ.out)) (by rw [HY.out]; simp; omega)
          · have HSD0 := Lib.hid (hsw1.drop (k+1))
            obtain ⟨d0, d1, d2⟩ := mk_at hsw1 k f HFF.out
            have q0 := keepc hbel1 HC0.out
            have hown2 := hown1
            go_wp2_with fail
            go_quiet (fail)
            go_wp2_with (at_builtin; go_must (refine wp_appS (by rfl) _ _ 32 (by rfl) HE z.heap.size z.heap.size z _ _ _ _ (by rfl) Mk.cells (fun _ => rfl) mk_one (xs.drop (k+1)) b (off+(k+1)*3) _ _ HDL.out (by rfl) (HSD0.out.below (below_dr _ _)) hown2 (by have := HL.out; have := HDL.out; omega) hbel1.size (drw hbel1 _) (Nat.le_refl _) ?_); intro v2 w2 hown3 hbel3 _ _)
            go_ret
            exact mmade_of (mput_rows HY.out hown3) HWZ.out (HW.out.trans (hbel3.mono HWZ.out)) (by rw [HY.out]; simp; omega)
        · have q1 := beqs_no heq
          have HY : Hid (ys = xs.take k ++ ⟨ep, ed, ex⟩ :: xs.drop k) := by
            rw [Hid, ← hy.out, HSP.out, hff, if_neg (by intro h; injection h with h; exact heq h)]; rfl
          have HFF := Lib.hid hff
          clear heq hff HSP
          have i4 : (k : Int) ≤ (c : Int) := by omega
          have i5 : (k : Int) ≤ (n : Int) := by omega
          go_wp2_with fail
          go_quiet (fail)
          go_wp2_with (at_builtin; go_must (refine wp_app1 (by rfl) _ _ 32 (by rfl) HE z.heap.size z.heap.size z _ #[.string ep, .int .i64 ed, .string ex] _ _ _ (by rfl) (by rfl) hown (by rfl) (by simp [Value.oneCell']) (by have := HL.out; omega) (drw hb _).size (drw hb _) (Nat.le_refl _) ?_); intro v' w1 hown1 hbel1 _ hg1)
          have hsw1 := HS.out.below hbel1
          have HDL := Lib.hid (mdrop_len (k := k) HN.out)
          by_cases hck : c = k
          · have HSD : ∀ W, SlF Mk.cells W (some ⟨b, off, none⟩) (xs.drop k) := fun W h => absurd h (by rw [HDL.out]; omega)
            obtain ⟨d0, d1, d2⟩ := mk_at hsw1 k f HFF.out
            have q0 := keepc hbel1 HC0.out
            have hown2 := hown1
            go_wp2_with fail
            go_quiet (fail)
            go_wp2_with (at_builtin; go_must (refine wp_appS (by rfl) _ _ 32 (by rfl) HE z.heap.size z.heap.size z _ _ _ _ (by rfl) Mk.cells (fun _ => rfl) mk_one (xs.drop k) b off _ _ HDL.out (by rfl) (HSD _) hown2 (by have := HL.out; have := HDL.out; omega) hbel1.size (drw hbel1 _) (Nat.le_refl _) ?_); intro v2 w2 hown3 hbel3 _ _)
            go_ret
            exact mmade_of (mput_rows HY.out hown3) HWZ.out (HW.out.trans (hbel3.mono HWZ.out)) (by rw [HY.out]; simp; omega)
          · have HSD0 := Lib.hid (hsw1.drop k)
            obtain ⟨d0, d1, d2⟩ := mk_at hsw1 k f HFF.out
            have q0 := keepc hbel1 HC0.out
            have hown2 := hown1
            go_wp2_with fail
            go_quiet (fail)
            go_wp2_with (at_builtin; go_must (refine wp_appS (by rfl) _ _ 32 (by rfl) HE z.heap.size z.heap.size z _ _ _ _ (by rfl) Mk.cells (fun _ => rfl) mk_one (xs.drop k) b (off+k*3) _ _ HDL.out (by rfl) (HSD0.out.below (below_dr _ _)) hown2 (by have := HL.out; have := HDL.out; omega) hbel1.size (drw hbel1 _) (Nat.le_refl _) ?_); intro v2 w2 hown3 hbel3 _ _)
            go_ret
            exact mmade_of (mput_rows HY.out hown3) HWZ.out (HW.out.trans (hbel3.mono HWZ.out)) (by rw [HY.out]; simp; omega)
    · obtain rfl : k = n := by omega
      have hnl : ∀ x, xs[k]? = some x → Op.bytesLess (Mk.bs x) (Mk.bs ⟨ep, ed, ex⟩) = false := fun x hx => by
        have := (List.getElem?_eq_some_iff.1 hx).1; rw [HN.out] at this; omega
      have hff : xs[k]? = none := List.getElem?_eq_none (by rw [HN.out]; omega)
      have HY : Hid (ys = xs.take k ++ ⟨ep, ed, ex⟩ :: xs.drop k) := by
        rw [Hid, ← hy.out, put_split (f := Mk.bs) xs ⟨ep, ed, ex⟩ k (by rw [HN.out]; omega) HA.out hnl, hff, if_neg (by simp)]; rfl
      clear hnl hff
      have i4 : (k : Int) ≤ (c : Int) := by omega
      have i0 : (0 : Int) ≤ (k : Int) := by omega
      have dk : decide ((k : Int) < (k : Int)) = false := by simp
      go_wp2_with fail
      go_quiet (fail)
      go_wp2_with (at_builtin; go_must (refine wp_app1 (by rfl) _ _ 32 (by rfl) HE z.heap.size z.heap.size z _ #[.string ep, .int .i64 ed, .string ex] _ _ _ (by rfl) (by rfl) hown (by rfl) (by simp [Value.oneCell']) (by have := HL.out; omega) (drw hb _).size (drw hb _) (Nat.le_refl _) ?_); intro v' w1 hown1 hbel1 _ hg1)
      have hsw1 := HS.out.below hbel1
      have HDL := Lib.hid (mdrop_len0 (k := k) HN.out)
      by_cases hck : c = k
      · have HSD : ∀ W, SlF Mk.cells W (some ⟨b, off, none⟩) (xs.drop k) := fun W h => absurd h (by rw [HDL.out]; omega)
        have hown2 := hown1
        go_wp2_with fail
        go_quiet (fail)
        go_wp2_with (at_builtin; go_must (refine wp_appS (by rfl) _ _ 32 (by rfl) HE z.heap.size z.heap.size z _ _ _ _ (by rfl) Mk.cells (fun _ => rfl) mk_one (xs.drop k) b off _ _ HDL.out (by rfl) (HSD _) hown2 (by have := HL.out; have := HDL.out; omega) hbel1.size (drw hbel1 _) (Nat.le_refl _) ?_); intro v2 w2 hown3 hbel3 _ _)
        go_ret
        exact mmade_of (mput_rows HY.out hown3) HWZ.out (HW.out.trans (hbel3.mono HWZ.out)) (by rw [HY.out]; simp; omega)
      · have HSD0 := Lib.hid (hsw1.drop k)
        have hown2 := hown1
        go_wp2_with fail
        go_quiet (fail)
        go_wp2_with (at_builtin; go_must (refine wp_appS (by rfl) _ _ 32 (by rfl) HE z.heap.size z.heap.size z _ _ _ _ (by rfl) Mk.cells (fun _ => rfl) mk_one (xs.drop k) b (off+k*3) _ _ HDL.out (by rfl) (HSD0.out.below (below_dr _ _)) hown2 (by have := HL.out; have := HDL.out; omega) hbel1.size (drw hbel1 _) (Nat.le_refl _) ?_); intro v2 w2 hown3 hbel3 _ _)
        go_ret
        exact mmade_of (mput_rows HY.out hown3) HWZ.out (HW.out.trans (hbel3.mono HWZ.out)) (by rw [HY.out]; simp; omega)
end Go.Proofs.YtdhbdcmnbhjjaaaGreatDoor
namespace Go.Proofs.YtdhbdcmnbhjjaaaGreatDoor
open Go.RowKit
def bothI (a b : Int) : Int := if a = 2 ∧ b ≠ 0 ∧ b ≠ 2 then 4 else a
theorem getM_mem {xs : List Mk} {q : ByteArray} {m : Mk} (h : getM xs q = some m) : m ∈ xs := by
  induction xs with
  | nil => cases h
  | cons e r ih =>
    rw [getM] at h
    split at h
    · injection h with h; subst h; simp
    · exact List.mem_cons_of_mem _ (ih h)
/-- A mark on what has a kind of its own there. -/
theorem both_kind (ys : List Mk) (e : Mk) (hk : ∀ m ∈ ys, m.k ≠ 0) : (bothM (ys.map Mk.pl) e.pl) = (⟨e.p, bothI e.k (kindM ys e.p), e.x⟩ : Mk).pl := by
  rw [both_pl]
  congr 1
  unfold bothK bothI kindM
  by_cases h : e.k = 2
  · rw [if_pos h]
    cases hg : getM ys e.p with
    | none => obtain ⟨p, k, x⟩ := e; simp_all
    | some u =>
      have hu : u ∈ ys := getM_mem hg
      have := hk u hu
      obtain ⟨p, k, x⟩ := e
      by_cases h2 : u.k = 2 <;> simp_all
  · rw [if_neg h, if_neg (fun h' => h h'.1)]
theorem below_drewB (B : Nat) (w : World) : Below B w w.drew := ⟨rfl, rfl, rfl, Nat.le_refl _, fun _ _ => rfl⟩
/-- A slice of marks that can be read and be put into. -/
def ReadMk (w : World) (v : Value) (zs : List Mk) : Prop := ∃ b off c, v = .slice (some ⟨b, off, none⟩) zs.length c ∧ zs.length ≤ c ∧ c ≤ maxLen ∧ b < w.heap.size ∧ SlF Mk.cells w (some ⟨b, off, none⟩) zs
theorem ReadMk.below {w w' : World} {v : Value} {zs : List Mk} (h : ReadMk w v zs) (hq : Below w.heap.size w w') : ReadMk w' v zs := by
  obtain ⟨b, off, c, h1, h2, h3, h4, h5⟩ := h
  exact ⟨b, off, c, h1, h2, h3, Nat.lt_of_lt_of_le h4 hq.size, h5.below hq⟩
theorem mmade_read {ys : List Mk} {w : World} {e : Ending} {w' : World} (h : MadeMk ys w e w') : ∃ v, e = .returned v ∧ ReadMk w' v ys ∧ Below w.heap.size w w' := by
  obtain ⟨g, c, rfl, h1, h2, h3, h4⟩ := h
  exact ⟨_, rfl, ⟨g, 0, c, rfl, h1, h2, (h3.lt g rfl).2, own_slfMk' h3⟩, h4⟩
theorem mfold_pl (xs ys : List Mk) : (ys.foldl (putP Mk.bs) xs).map Mk.pl = (ys.map Mk.pl).foldl (putP PM.p) (xs.map Mk.pl) := by
  induction ys generalizing xs with
  | nil => rfl
  | cons y r ih => rw [List.foldl_cons, ih, List.map_cons, List.foldl_cons, putP_map Mk.pl (f := Mk.bs) (g := PM.p) (fun _ => rfl)]
theorem mput_len (xs : List Mk) (y : Mk) : (putP Mk.bs xs y).length ≤ xs.length + 1 := by
  induction xs with
  | nil => simp [putP]
  | cons x a ih =>
    unfold putP
    split
    · simp only [List.length_cons]; omega
    · split <;> simp
theorem kind_zero {xs : List Mk} (hk : ∀ m ∈ xs, m.k ≠ 0) (q : ByteArray) : (kindM xs q == 0) = (getM xs q).isNone := by
  unfold kindM
  cases hg : getM xs q with
  | none => rfl
  | some u => simpa using hk u (getM_mem hg)
/-- What lies in the reference's row behind k marks of the lower layer. -/
def keptZ (xs ys : List Mk) (k : Nat) : List PM := (keptM (xs.map Mk.pl) ((ys.take k).map Mk.pl)).foldl (putP PM.p) []
theorem keptZ_step (xs ys : List Mk) (k : Nat) (e : Mk) (he : ys[k]? = some e) (zs : List Mk) (h : zs.map Mk.pl = keptZ xs ys k) :
    keptZ xs ys (k + 1) = (if (getM xs e.p).isNone && !hidesL (xs.map Mk.pl) e.p.data.toList then putP Mk.bs zs e else zs).map Mk.pl := by
  unfold keptZ at *
  rw [take_ml ys k e he, kept_snoc, List.foldl_append, ← h]
  rw [show atP PM.p (xs.map Mk.pl) e.pl.p = (getM xs e.p).map Mk.pl from getM_pl xs e.p, Option.isNone_map]
  show List.foldl (putP PM.p) (zs.map Mk.pl) (if (getM xs e.p).isNone && !hidesL (xs.map Mk.pl) e.p.data.toList then [e.pl] else []) = _
  split
  · rw [putP_map Mk.pl (f := Mk.bs) (g := PM.p) (fun _ => rfl)]; rfl
  · rfl
end Go.Proofs.YtdhbdcmnbhjjaaaGreatDoor
namespace Go.Proofs.YtdhbdcmnbhjjaaaGreatDoor
open Go.RowKit
/-- A row of marks of the call's own, with an array behind it. -/
def OwnRd (w : World) (B : Nat) (v : Value) (ms : List Mk) : Prop :=
  ∃ g c, v = .slice (some ⟨g, 0, none⟩) ms.length c ∧ ms.length ≤ c ∧ c ≤ maxLen ∧ OwnMk w B (.slice (some ⟨g, 0, none⟩) ms.length c) ms
theorem OwnRd.below {w w' : World} {B : Nat} {v : Value} {ms : List Mk} (h : OwnRd w B v ms) (hq : Below w.heap.size w w') : OwnRd w' B v ms := by
  obtain ⟨g, c, h1, h2, h3, h4⟩ := h
  exact ⟨g, c, h1, h2, h3, own_below h4 hq⟩
/-- The contract of l3Put, as the rows of the call's own meet it. -/
theorem l3PutO_c (B : Nat) (v : Value) (ms : List Mk) (e : Mk) (w : World) (h : OwnRd w B v ms) (hB : B ≤ w.heap.size) (hn : ms.length ≤ 1000) :
    Calls Tryz.prog 88 #[v, e.val] w fun r w' => ∃ v', r = .returned v' ∧ OwnRd w' B v' (putP Mk.bs ms e) ∧ Below w.heap.size w w' := by
  obtain ⟨g, c, rfl, h2, h3, h4⟩ := h
  refine (l3Put_c g 0 c ms e _ (Lib.hid rfl) w (own_slf (fun _ => rfl) h4) (h4.lt g rfl).2 (by omega) h2 h3).mono ?_
  rintro r w' ⟨g', c', rfl, h5, h6, h7, h8⟩
  exact ⟨_, rfl, ⟨g', c', rfl, h5, h6, own_mono h7 hB⟩, h8⟩
theorem kinds_put {ms : List Mk} {e : Mk} (h : ∀ m ∈ ms, m.k ≠ 0) (he : e.k ≠ 0) : ∀ m ∈ putP Mk.bs ms e, m.k ≠ 0 := by
  induction ms with
  | nil => intro m hm; simp [putP] at hm; rw [hm]; exact he
  | cons x r ih =>
    intro m hm
    rw [putP] at hm
    split at hm
    · rcases List.mem_cons.1 hm with rfl | hm
      · exact h _ List.mem_cons_self
      · exact ih (fun m hm => h m (List.mem_cons_of_mem _ hm)) m hm
    · split at hm
      · rcases List.mem_cons.1 hm with rfl | hm
        · exact he
        · exact h _ (List.mem_cons_of_mem _ hm)
      · rcases List.mem_cons.1 hm with rfl | hm
        · exact he
        · exact h _ hm
/-- What l3Ups leaves. -/
def UpsPost (B : Nat) (l : List PM) (N : Nat) (w : World) (e : Ending) (w' : World) : Prop :=
  ∃ (v' : Value) (ns : List Mk), e = .returned v' ∧ ns.map Mk.pl = l ∧ (∀ m ∈ ns, m.k ≠ 0) ∧ ns.length ≤ N ∧ OwnRd w' B v' ns ∧ Below w.heap.size w w'
set_option maxRecDepth 100000 in
set_option maxHeartbeats 8000000 in
theorem l3Ups_c (n : Nat) : ∀ (v : Value) (ms : List Mk) (q : ByteArray) (B : Nat) (w : World), pathOkL q.data.toList = true → levelsL q.data.toList ≤ n → (∀ m ∈ ms, m.k ≠ 0) → OwnRd w B v ms → B ≤ w.heap.size → ms.length + n ≤ 1000 →
    Calls Tryz.prog 89 #[v, .string q] w (UpsPost B (upsL n (ms.map Mk.pl) q.data.toList) (ms.length + n) w) := by
  induction n with
  | zero =>
    intro v ms q B w hq hl _ _ _ _
    have := levels_up hq
    omega
  | succ n ih =>
    intro v ms q B w hq hl hk hv hB hn
    have hqs : q.size ≤ maxLen := by have := (path_len hq).2; rw [size_data] at this; unfold maxLen; omega
    obtain ⟨u, hu⟩ := str_of20 (upL q.data.toList)
    have HU := Lib.hid hu
    have hb := Below.refl w.heap.size w
    have HV := Lib.hid hv
    have HK := Lib.hid hk
    by_cases hr : upL q.data.toList = [47]
    · have q1 := beq_yes (hu ▸ hr)
      have HL : Hid (ms.map Mk.pl = upsL (n + 1) (ms.map Mk.pl) q.data.toList) := by rw [Hid]; conv => rhs; rw [upsL, if_pos hr]
      have HN : Hid (ms.length ≤ ms.length + (n + 1)) := Nat.le_add_right _ _
      obtain ⟨L, hL⟩ : ∃ L, upsL (n + 1) (ms.map Mk.pl) q.data.toList = L := ⟨_, rfl⟩
      rw [hL] at HL ⊢
      clear hr hu hq hl hk hv ih hL
      go_enter Tryz.func89, Tryz.ntmps89
      go_wp2_with fail
      refine (sPathUp_c q u HU _ hqs).mono ?_; rintro e W ⟨rfl, hq⟩; replace hb := chn hb hq; clear hq
      go_wp2
      go_ret
      exact ⟨_, ms, rfl, HL.out, HK.out, HN.out, HV.out.below hb, hb⟩
    · have q1 := beq_no (s := u) (by rw [← hu]; exact hr)
      have hlv := levels_up hq
      have hup := up_path hq hr
      rw [hu] at hlv hup
      obtain ⟨kk, hkk⟩ : ∃ kk, kindM ms u = kk := ⟨_, rfl⟩
      have HKK := Lib.hid hkk
      have hz := kind_zero hk u
      rw [hkk] at hz
      have HGK := Lib.hid (fun W (h : OwnRd W B v ms) => (by
        obtain ⟨g, c, rfl, h2, h3, h4⟩ := h
        exact l3Kind_c _ c ms u kk HKK W (own_slf (fun _ => rfl) h4) (by unfold maxLen; omega) : Calls Tryz.prog 93 #[v, .string u] W fun e w' => e = .returned (.int .i64 kk) ∧ W = w'))
      by_cases h0 : kk = 0
      · subst h0
        have hnone : getM ms u = none := by
          cases hg : getM ms u with
          | none => rfl
          | some m => rw [hg] at hz; simp at hz
        have HL : Hid (upsL n ((putP Mk.bs ms ⟨u, 2, ⟨#[]⟩⟩).map Mk.pl) u.data.toList = upsL (n + 1) (ms.map Mk.pl) q.data.toList) := by
          rw [Hid]
          conv => rhs; rw [upsL, if_neg hr]
          rw [hu, getM_pl, hnone, if_pos (by rfl), putP_map Mk.pl (f := Mk.bs) (g := PM.p) (fun _ => rfl)]; rfl
        have HP := Lib.hid (fun W (h : OwnRd W B v ms) (h' : B ≤ W.heap.size) => l3PutO_c B v ms ⟨u, 2, ⟨#[]⟩⟩ W h h' (by omega))
        have hpl := mput_len ms ⟨u, 2, ⟨#[]⟩⟩
        have HI := Lib.hid (fun v2 W (h : OwnRd W B v2 (putP Mk.bs ms ⟨u, 2, ⟨#[]⟩⟩)) (h' : B ≤ W.heap.size) => ih v2 _ u B W hup (by omega) (kinds_put hk (show (2 : Int) ≠ 0 by decide)) h h' (by omega))
        have HN : Hid ((putP Mk.bs ms ⟨u, 2, ⟨#[]⟩⟩).length + n ≤ ms.length + (n + 1)) := by rw [Hid]; omega
        obtain ⟨L, hL⟩ : ∃ L, upsL (n + 1) (ms.map Mk.pl) q.data.toList = L := ⟨_, rfl⟩
        rw [hL] at HL ⊢
        clear hr hu hq hl hk hv ih hL hlv hup hkk hz hnone hpl
        go_enter Tryz.func89, Tryz.ntmps89
        go_wp2_with fail
        refine (sPathUp_c q u HU _ hqs).mono ?_; rintro e W ⟨rfl, hq⟩; replace hb := chn hb hq; clear hq
        go_wp2_with fail
        refine (HGK.out _ (HV.out.below hb)).mono ?_; rintro e W ⟨rfl, rfl⟩
        go_wp2_with fail
        refine (HP.out _ (HV.out.below hb) (Nat.le_trans hB hb.size)).mono ?_; rintro e W ⟨v2, rfl, ho2, hq2⟩; replace hb := chn hb hq2
        go_wp2_with fail
        refine (HI.out v2 _ ho2 (Nat.le_trans hB hb.size)).mono ?_; rintro e W3 ⟨v3, ns, rfl, h1, h2, h3, h4, hq3⟩; replace hb := chn hb hq3
        go_wp2
        go_ret
        exact ⟨_, ns, rfl, h1.trans HL.out, h2, Nat.le_trans h3 HN.out, h4, hb⟩
      · have hsome : getM ms u ≠ none := fun hg => by rw [hg] at hz; simp at hz; exact h0 hz
        have HL : Hid (upsL n (ms.map Mk.pl) u.data.toList = upsL (n + 1) (ms.map Mk.pl) q.data.toList) := by
          rw [Hid]
          conv => rhs; rw [upsL, if_neg hr]
          rw [hu, getM_pl, if_neg (by cases hg : getM ms u with
            | none => exact absurd hg hsome
            | some m => simp)]
        have HI := Lib.hid (fun W (h : OwnRd W B v ms) (h' : B ≤ W.heap.size) => ih v ms u B W hup (by omega) hk h h' (by omega))
        have HN : Hid (ms.length + n ≤ ms.length + (n + 1)) := by rw [Hid]; omega
        obtain ⟨L, hL⟩ : ∃ L, upsL (n + 1) (ms.map Mk.pl) q.data.toList = L := ⟨_, rfl⟩
        rw [hL] at HL ⊢
        have hne : (kk == 0) = false := by rw [beq_eq_false_iff_ne]; exact h0
        clear hr hu hq hl hk hv ih hL hlv hup hkk hz hsome h0
        go_enter Tryz.func89, Tryz.ntmps89
        go_wp2_with fail
        refine (sPathUp_c q u HU _ hqs).mono ?_; rintro e W ⟨rfl, hq⟩; replace hb := chn hb hq; clear hq
        go_wp2_with fail
        refine (HGK.out _ (HV.out.below hb)).mono ?_; rintro e W ⟨rfl, rfl⟩
        go_wp2_with fail
        refine (HI.out _ (HV.out.below hb) (Nat.le_trans hB hb.size)).mono ?_; rintro e W3 ⟨v3, ns, rfl, h1, h2, h3, h4, hq3⟩; replace hb := chn hb hq3
        go_wp2
        go_ret
        exact ⟨_, ns, rfl, h1.trans HL.out, h2, Nat.le_trans h3 HN.out, h4, hb⟩
end Go.Proofs.YtdhbdcmnbhjjaaaGreatDoor
