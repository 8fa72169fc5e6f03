/- The walks of entAt and upCode. The walk of impl.TreeOk. The walks of spec's lookups: l2Find, l2Dir. Small laws for regions that draw their order, walked in the order of their text. Conditions: each theorem's own. -/
import Derived.Test.YtnmjidjhloodbaaGreatDoorB1
import Derived.Deep.QuietTactic
import Derived.BigQuiet
import Derived.Deep.RegionHeld3
import Derived.Deep.RegionWith
namespace Go.Proofs.YtnmjidjhloodbaaGreatDoor
open Go.RowKit
def En.pl (e : En) : PE := ⟨e.p.data.toList, e.d, e.x.data.toList⟩
theorem En.pl_inj {e f : En} (h : e.pl = f.pl) : e = f := by
  obtain ⟨p, d, x⟩ := e
  obtain ⟨p', d', x'⟩ := f
  simp only [En.pl, PE.mk.injEq] at h
  rw [bytes_eq h.1, h.2.1, bytes_eq h.2.2]
theorem new_free (w : World) (cs : Array Value) (t : TypeId) (j : Nat) : (w.alloc (.cells cs t)).frozen? ⟨w.heap.size, j, none⟩ = false := by
  unfold World.frozen?
  rw [show (w.alloc (.cells cs t)).heap[w.heap.size]? = some (.cells cs t (0, 0)) from heap_alloc_new w _]
  simp
/-- Three cells of a block, behind three stores into it and new blocks. -/
theorem three_set (w : World) (g : Nat) (u0 u1 u2 v0 v1 v2 : Value) (h0 : w.cell? ⟨g, 0, none⟩ = some u0) (h1 : w.cell? ⟨g, 1, none⟩ = some u1) (h2 : w.cell? ⟨g, 2, none⟩ = some u2) (o : Obj) :
    (((((w.setCell ⟨g, 0, none⟩ v0).setCell ⟨g, 1, none⟩ v1).setCell ⟨g, 2, none⟩ v2).alloc o).cell? ⟨g, 0, none⟩ = some v0) ∧
    (((((w.setCell ⟨g, 0, none⟩ v0).setCell ⟨g, 1, none⟩ v1).setCell ⟨g, 2, none⟩ v2).alloc o).cell? ⟨g, 1, none⟩ = some v1) ∧
    (((((w.setCell ⟨g, 0, none⟩ v0).setCell ⟨g, 1, none⟩ v1).setCell ⟨g, 2, none⟩ v2).alloc o).cell? ⟨g, 2, none⟩ = some v2) := by
  have hl : g < w.heap.size := World.block_lt_of_cell? _ _ h0
  have e : ∀ j, ((((w.setCell ⟨g, 0, none⟩ v0).setCell ⟨g, 1, none⟩ v1).setCell ⟨g, 2, none⟩ v2).alloc o).cell? ⟨g, j, none⟩ = (((w.setCell ⟨g, 0, none⟩ v0).setCell ⟨g, 1, none⟩ v1).setCell ⟨g, 2, none⟩ v2).cell? ⟨g, j, none⟩ := fun j =>
    World.cell?_alloc_lt _ _ _ (by simpa [World.setCell] using hl)
  rw [e, e, e]
  have n01 : (⟨g, 0, none⟩ : Addr) ≠ ⟨g, 1, none⟩ := by simp
  have n02 : (⟨g, 0, none⟩ : Addr) ≠ ⟨g, 2, none⟩ := by simp
  have n12 : (⟨g, 1, none⟩ : Addr) ≠ ⟨g, 2, none⟩ := by simp
  have a1 := (World.cell?_setCell_other w ⟨g, 0, none⟩ ⟨g, 1, none⟩ v0 n01).trans h1
  have a2 := (World.cell?_setCell_other w ⟨g, 0, none⟩ ⟨g, 2, none⟩ v0 n02).trans h2
  have b2 := (World.cell?_setCell_other (w.setCell ⟨g, 0, none⟩ v0) ⟨g, 1, none⟩ ⟨g, 2, none⟩ v1 n12).trans a2
  refine ⟨?_, ?_, ?_⟩
  · rw [World.cell?_setCell_other _ _ _ _ n02.symm, World.cell?_setCell_other _ _ _ _ n01.symm]
    exact World.cell?_setCell_same _ _ _ h0
  · rw [World.cell?_setCell_other _ _ _ _ n12.symm]
    exact World.cell?_setCell_same _ _ _ a1
  · exact World.cell?_setCell_same _ _ _ b2
/-- What is at a path, among entries as they lie. -/
def getE : List En → ByteArray → Option En
  | [], _ => none
  | e :: r, q => if e.p.data.toList = q.data.toList then some e else getE r q
theorem getE_pl (xs : List En) (q : ByteArray) : getL (xs.map En.pl) q.data.toList = (getE xs q).map En.pl := by
  induction xs with
  | nil => rfl
  | cons e r ih =>
    rw [List.map_cons, getL, getE]
    show (if e.p.data.toList = q.data.toList then some e.pl else getL (List.map En.pl r) q.data.toList) = _
    by_cases h : e.p.data.toList = q.data.toList
    · rw [if_pos h, if_pos h]; rfl
    · rw [if_neg h, if_neg h]; exact ih
theorem getE_skip (xs : List En) (q : ByteArray) (k : Nat) (e : En) (he : xs[k]? = some e) (h : ∀ (j : Nat) (f : En), j < k → xs[j]? = some f → f.p.data.toList ≠ q.data.toList) :
    getE xs q = if e.p.data.toList = q.data.toList then some e else getE (xs.drop (k + 1)) q := by
  induction xs generalizing k with
  | nil => simp at he
  | cons a r ih =>
    cases k with
    | zero => simp at he; subst he; rfl
    | succ k =>
      rw [getE, if_neg (h 0 a (by omega) rfl)]
      have := ih k (by simpa using he) (fun j f hj hf => h (j + 1) f (by omega) (by simpa using hf))
      simpa using this
theorem getE_none (xs : List En) (q : ByteArray) (h : ∀ (j : Nat) (f : En), xs[j]? = some f → f.p.data.toList ≠ q.data.toList) : getE xs q = none := by
  induction xs with
  | nil => rfl
  | cons a r ih =>
    rw [getE, if_neg (h 0 a rfl)]
    exact ih (fun j f hf => h (j + 1) f (by simpa using hf))
abbrev optV (o : Option En) : Value := match o with
  | some e => .tuple #[e.val, .bool true]
  | none => .tuple #[.agg #[.string ⟨#[]⟩, .bool false, .string ⟨#[]⟩], .bool false]
set_option maxHeartbeats 2000000 in
theorem entAt_c (a : Option Addr) (c : Nat) (xs : List En) (q : ByteArray) (o : Option En) (ho : Hid (getE xs q = o)) (w : World) (hs : SlF En.cells w a xs) (hx : xs.length ≤ maxLen) :
    Calls Tryz.prog 82 #[.slice a xs.length c, .string q] w fun r w' => r = .returned (optV o) ∧ Below w.heap.size w w' := by
  obtain ⟨n, hn⟩ : ∃ n, xs.length = n := ⟨_, rfl⟩
  rw [hn] at hx ⊢
  unfold maxLen at hx
  have HN := Lib.hid hn
  obtain ⟨z, hz⟩ : ∃ z, w.alloc (.cells #[.string ⟨#[]⟩, .bool false, .string ⟨#[]⟩] 52) = z := ⟨_, rfl⟩
  have HS := Lib.hid (hs.below (hz ▸ bellow_alloc w _ : Below w.heap.size w z))
  have hzs : z.heap.size = w.heap.size + 1 := by rw [← hz]; simp
  have c0 : z.cell? ⟨w.heap.size, 0, none⟩ = some (.string ⟨#[]⟩) := by rw [← hz]; exact new_cell _ _ _ 0 _ rfl
  have c1 : z.cell? ⟨w.heap.size, 1, none⟩ = some (.bool false) := by rw [← hz]; exact new_cell _ _ _ 1 _ rfl
  have c2 : z.cell? ⟨w.heap.size, 2, none⟩ = some (.string ⟨#[]⟩) := by rw [← hz]; exact new_cell _ _ _ 2 _ rfl
  have hfz : ∀ j, z.frozen? ⟨w.heap.size, j, none⟩ = false := fun j => by rw [← hz]; exact new_free w _ _ j
  have HW := Lib.hid (hz ▸ bellow_alloc w _ : Below w.heap.size w z)
  have HF := Lib.hid hfz
  have HC0 := Lib.hid c0
  have HC1 := Lib.hid c1
  have HC2 := Lib.hid c2
  have HZ := Lib.hid hzs
  clear hn hs hzs c0 c1 c2 hfz
  go_enter Tryz.func82, Tryz.ntmps82
  go_wp2
  clear hz
  go_loopw [7, 10] (fun _ i wr => ∃ k : Nat, k ≤ n ∧ i = .int .i64 k ∧ (∀ (j : Nat) (f : En), j < k → xs[j]? = some f → f.p.data.toList ≠ q.data.toList) ∧ Below z.heap.size z wr) (fun _ i _ => n - (intOf i).toNat)
  case atStart => exact ⟨0, Nat.zero_le _, rfl, fun j _ h => absurd h (by omega), Below.refl _ _⟩
  case round =>
    obtain ⟨k, hk, rfl, hall, hb⟩ := hrel
    have HA := Lib.hid hall
    clear hall
    have hlt0 : w.heap.size < wr.heap.size := by have := hb.size; rw [HZ.out] at this; omega
    have g0 := keepc hb HC0.out
    have g1 := keepc hb HC1.out
    have g2 := keepc hb HC2.out
    have f0 := (hb.frozen (p := ⟨w.heap.size, 0, none⟩) (by rw [HZ.out]; simp)).trans (HF.out 0)
    have f1 := (hb.frozen (p := ⟨w.heap.size, 1, none⟩) (by rw [HZ.out]; simp)).trans (HF.out 1)
    have f2 := (hb.frozen (p := ⟨w.heap.size, 2, none⟩) (by rw [HZ.out]; simp)).trans (HF.out 2)
    by_cases hlt : k < n
    · obtain ⟨e, hee⟩ : ∃ e, xs[k]? = some e := ⟨_, List.getElem?_eq_getElem (by rw [HN.out]; exact hlt)⟩
      have h2 := (HS.out.below hb)
      obtain ⟨b, off, rfl, _⟩ := h2.addr (by rw [HN.out]; omega)
      obtain ⟨c0, c1, c2⟩ := en_at h2 k e hee
      have hg := getE_skip xs q k e hee HA.out
      have HG := Lib.hid hg
      have HEE := Lib.hid hee
      clear h2 hg hee
      by_cases heq : e.p.data.toList = q.data.toList
      · have hq := beqs_yes heq
        obtain rfl : o = some e := by rw [← ho.out, HG.out, if_pos heq]
        clear heq
        go_wp2
        obtain ⟨q0, q1, q2⟩ := three_set wr w.heap.size _ _ _ (.string e.p) (.bool e.d) (.string e.x) g0 g1 g2 (.cells #[.string e.p, .bool e.d, .string e.x] 52)
        refine bodyPost_ret (v := optV (some e)) (by simp [results, Tryz.results82, go_sem, q0, q1, q2]) rfl ⟨rfl, ?_⟩
        have HB := HW.out.trans (hb.mono (by rw [HZ.out]; omega))
        repeat (first | exact HB | refine Below.alloc ?_ (by simp; try omega) _ | refine Below.setCell ?_ (by simp; try omega) _)
      · have hq := beqs_no heq
        have HQ := Lib.hid heq
        clear heq
        go_wp2
        go_roundw
        case rel => exact ⟨k + 1, by omega, by go_num, fun j f hj hf => by
          by_cases ej : j = k
          · subst ej
            rw [HEE.out] at hf
            injection hf with hf
            exact hf ▸ HQ.out
          · exact HA.out j f (by omega) hf, hb.alloc hb.size _⟩
        case measure => simp [intOf]; omega
    · obtain rfl : o = none := by
        rw [← ho.out]
        exact getE_none xs q (fun j f hf => HA.out j f (by have := (List.getElem?_eq_some_iff.1 hf).1; rw [HN.out] at this; omega) hf)
      go_wp2
      refine bodyPost_ret (v := optV none) (by simp [results, Tryz.results82, go_sem, g0, g1, g2]) rfl ⟨rfl, ?_⟩
      have HB := HW.out.trans (hb.mono (by rw [HZ.out]; omega))
      repeat (first | exact HB | refine Below.alloc ?_ (by simp; try omega) _ | refine Below.setCell ?_ (by simp; try omega) _)
def upC : Option En → Nat
  | none => 2
  | some e => if e.d then 0 else 3
theorem up_str20 (s : ByteArray) : ∃ r : ByteArray, Hid (upL s.data.toList = r.data.toList) ∧ r.size ≤ 20 := by
  obtain ⟨r, hr⟩ : ∃ r : ByteArray, upL s.data.toList = r.data.toList := ⟨⟨(upL s.data.toList).toArray⟩, by simp⟩
  refine ⟨r, hr, ?_⟩
  rw [← size_data, ← hr]
  unfold upL
  split
  · next hp =>
    have hn := pathOk_names hp
    unfold encP
    split
    · simp
    · have h6 := (flat_len hn.1.dropLast.2).1
      have h7 := hn.1.dropLast.1
      omega
  · simp
set_option maxHeartbeats 2000000 in
theorem upCode_c (a : Option Addr) (c : Nat) (xs : List En) (q : ByteArray) (m : Nat) (hm : Hid (upCodeL (xs.map En.pl) q.data.toList = m)) (w : World) (hs : SlF En.cells w a xs) (hx : xs.length ≤ maxLen) (hq : q.size ≤ maxLen) :
    Calls Tryz.prog 55 #[.slice a xs.length c, .string q] w fun r w' => r = .returned (.int .i64 m) ∧ Below w.heap.size w w' := by
  have hb := Below.refl w.heap.size w
  obtain ⟨u, hu, hus⟩ := up_str20 q
  obtain ⟨o, ho⟩ : ∃ o, getE xs u = o := ⟨_, rfl⟩
  have HM : Hid (m = if u.data.toList = [47] then 0 else upC o) := by
    rw [Hid, ← hm.out, upCodeL, hu.out, getE_pl, ho]
    cases o with
    | none => rfl
    | some e => rfl
  have HO := Lib.hid ho
  have HE := fun W (h : SlF En.cells W a xs) => Lib.hid (entAt_c a c xs u o HO W h hx)
  obtain ⟨n, hn⟩ : ∃ n, xs.length = n := ⟨_, rfl⟩
  rw [hn] at HE ⊢
  have GE := Lib.hid HE
  have HS := Lib.hid hs
  clear ho hs hx hn hm HE
  by_cases hr : u.data.toList = [47]
  · have hq2 := beq_yes hr
    obtain rfl : m = 0 := by rw [HM.out, if_pos hr]
    clear hr
    go_enter Tryz.func55, Tryz.ntmps55
    go_wp2_with fail
    refine (pathUp_c q u hu _ hq).mono ?_; rintro e W ⟨rfl, hq⟩; replace hb := chn hb hq; clear hq
    go_wp2
    go_ret
    exact ⟨rfl, hb⟩
  · have hq2 := beq_no hr
    cases o with
    | none =>
      obtain rfl : m = 2 := by rw [HM.out, if_neg hr]; rfl
      clear hr
      go_enter Tryz.func55, Tryz.ntmps55
      go_wp2_with fail
      refine (pathUp_c q u hu _ hq).mono ?_; rintro e W ⟨rfl, hq⟩; replace hb := chn hb hq; clear hq
      go_wp2_with fail
      refine ((GE.out _ (HS.out.below hb)).out).mono ?_; rintro e W ⟨rfl, hq⟩; replace hb := chn hb hq; clear hq
      go_wp2
      go_ret
      exact ⟨rfl, by repeat (first | exact hb | refine Below.alloc ?_ (by have := hb.size; simp; try omega) _)⟩
    | some e =>
      obtain ⟨p, d, x⟩ := e
      cases d with
      | true =>
        obtain rfl : m = 0 := by rw [HM.out, if_neg hr]; rfl
        clear hr
        go_enter Tryz.func55, Tryz.ntmps55
        go_wp2_with fail
        refine (pathUp_c q u hu _ hq).mono ?_; rintro e W ⟨rfl, hq⟩; replace hb := chn hb hq; clear hq
        go_wp2_with fail
        refine ((GE.out _ (HS.out.below hb)).out).mono ?_; rintro e W ⟨rfl, hq⟩; replace hb := chn hb hq; clear hq
        go_wp2
        go_ret
        exact ⟨rfl, by repeat (first | exact hb | refine Below.alloc ?_ (by have := hb.size; simp; try omega) _)⟩
      | false =>
        obtain rfl : m = 3 := by rw [HM.out, if_neg hr]; rfl
        clear hr
        go_enter Tryz.func55, Tryz.ntmps55
        go_wp2_with fail
        refine (pathUp_c q u hu _ hq).mono ?_; rintro e W ⟨rfl, hq⟩; replace hb := chn hb hq; clear hq
        go_wp2_with fail
        refine ((GE.out _ (HS.out.below hb)).out).mono ?_; rintro e W ⟨rfl, hq⟩; replace hb := chn hb hq; clear hq
        go_wp2
        go_ret
        exact ⟨rfl, by repeat (first | exact hb | refine Below.alloc ?_ (by have := hb.size; simp; try omega) _)⟩
end Go.Proofs.YtnmjidjhloodbaaGreatDoor
namespace Go.Proofs.YtnmjidjhloodbaaGreatDoor
open Go.RowKit
theorem isE_no' {s : ByteArray} (h : s.data.toList ≠ []) : s.toList.isEmpty = false := by
  rw [Lib.toList_data]
  cases hs : s.data.toList with
  | nil => exact absurd hs h
  | cons _ _ => rfl
theorem isE_yes' {s : ByteArray} (h : s.data.toList = []) : s.toList.isEmpty = true := by rw [Lib.toList_data, h]; rfl
/-- What the program asks of the entry at place k. -/
def AskE (xs : List En) (k : Nat) (e : En) : Prop := AskI (xs.map En.pl) k e.pl
theorem tok_E (xs : List En) : TOk (xs.map En.pl) ↔ xs.length ≤ 16 ∧ ∀ (k : Nat) (e : En), xs[k]? = some e → AskE xs k e := by
  rw [tok_iff, List.length_map]
  constructor
  · rintro ⟨h1, h2⟩
    exact ⟨h1, fun k e he => h2 k e.pl (by simp [he])⟩
  · rintro ⟨h1, h2⟩
    refine ⟨h1, fun k e he => ?_⟩
    rw [List.getElem?_map, Option.map_eq_some_iff] at he
    obtain ⟨f, hf, rfl⟩ := he
    exact h2 k f hf
theorem drw {B : Nat} {a w : World} (h : Below B a w) (n : Nat) : Below B a (w.drewN n) := ⟨h.os, h.tape, h.output, h.size, h.block⟩
theorem less_of' (a b : ByteArray) : Op.bytesLess a.toList b.toList = Op.bytesLess a.data.toList b.data.toList := by rw [Lib.toList_data, Lib.toList_data]
theorem ask_at (xs : List En) (k : Nat) (f e : En) (hf : xs[k]? = some f) (h1 : entOkL e.pl = true) (h2 : Op.bytesLess f.p.toList e.p.toList = true) (h3 : upCodeL (xs.map En.pl) e.p.data.toList = 0) : AskE xs (k + 1) e := by
  refine ⟨h1, fun g _ hg => ?_, h3⟩
  rw [Nat.add_sub_cancel, List.getElem?_map, hf] at hg
  injection hg with hg
  rw [← hg]
  rw [less_of'] at h2
  exact h2
theorem ask_less (xs : List En) (k : Nat) (f e : En) (hf : xs[k]? = some f) (h : AskE xs (k + 1) e) : Op.bytesLess f.p.toList e.p.toList = true := by
  have := h.2.1 f.pl (by omega) (by rw [Nat.add_sub_cancel, List.getElem?_map, hf]; rfl)
  rw [less_of']
  exact this
set_option maxHeartbeats 4000000 in
theorem treeOk_c (a : Option Addr) (c : Nat) (xs : List En) (r : Bool) (hr : Hid (r = true ↔ TOk (xs.map En.pl))) (w : World) (hs : SlF En.cells w a xs) (hx : xs.length ≤ maxLen) (hz : ∀ e ∈ xs, e.p.size ≤ maxLen ∧ e.x.size ≤ maxLen) :
    Calls Tryz.prog 26 #[.slice a xs.length c] w fun q w' => q = .returned (.bool r) ∧ Below w.heap.size w w' := by
  have hR : Hid (r = true ↔ xs.length ≤ 16 ∧ ∀ (k : Nat) (e : En), xs[k]? = some e → AskE xs k e) := by rw [Hid, hr.out, tok_E]
  have HU := fun (q : ByteArray) (m : Nat) (hm : Hid (upCodeL (xs.map En.pl) q.data.toList = m)) (W : World) (h : SlF En.cells W a xs) hq => Lib.hid (upCode_c a c xs q m hm W h hx hq)
  have HZ := Lib.hid hz
  have HS := Lib.hid hs
  obtain ⟨n, hn⟩ : ∃ n, xs.length = n := ⟨_, rfl⟩
  have HN := Lib.hid hn
  rw [hn] at hR hx HU ⊢
  unfold maxLen at hx
  have GU := Lib.hid HU
  clear hn hz hs hr HU
  by_cases h16 : 16 < n
  · obtain rfl : r = false := by
      cases r
      · rfl
      · have := hR.out.1 rfl; omega
    go_enter Tryz.func26, Tryz.ntmps26
    go_wp2
    go_ret
    exact ⟨rfl, Below.refl _ _⟩
  have hno : Hid (∀ (k : Nat) (e : En), xs[k]? = some e → ¬ AskE xs k e → r = false) := fun k e he hne => by
    cases r
    · rfl
    · exact absurd ((hR.out.1 rfl).2 k e he) hne
  go_enter Tryz.func26, Tryz.ntmps26
  go_wp2
  go_loopw [3, 4, 10] (fun _ _ i wr => ∃ k : Nat, k ≤ n ∧ i = .int .i64 k ∧ (∀ (j : Nat) (e : En), j < k → xs[j]? = some e → AskE xs j e) ∧ Below w.heap.size w wr) (fun _ _ i _ => n - (intOf i).toNat)
  case atStart => exact ⟨0, Nat.zero_le _, rfl, fun j _ h => absurd h (by omega), Below.refl _ _⟩
  case round =>
    obtain ⟨k, hk, rfl, hall, hb⟩ := hrel
    have HA := Lib.hid hall
    clear hall
    by_cases hlt : k < n
    · obtain ⟨e, hee⟩ : ∃ e, xs[k]? = some e := ⟨_, List.getElem?_eq_getElem (by rw [HN.out]; exact hlt)⟩
      have h2 := (HS.out.below hb)
      obtain ⟨b, off, rfl, _⟩ := h2.addr (by rw [HN.out]; omega)
      obtain ⟨d0, d1, d2⟩ := en_at h2 k e hee
      have hzz := HZ.out e (List.mem_of_getElem? hee)
      have HNO := Lib.hid (fun h => hno.out k e hee h)
      have HEE := Lib.hid hee
      have c0 := new_cell wr #[.string e.p, .bool e.d, .string e.x] 52 0 _ rfl
      have c1 := new_cell wr #[.string e.p, .bool e.d, .string e.x] 52 1 _ rfl
      have c2 := new_cell wr #[.string e.p, .bool e.d, .string e.x] 52 2 _ rfl
      replace hb := hb.alloc hb.size (.cells #[.string e.p, .bool e.d, .string e.x] 52)
      obtain ⟨p1, hp1⟩ : ∃ x, pathOkL e.p.data.toList = x := ⟨_, rfl⟩
      obtain ⟨p2, hp2⟩ : ∃ x, dataOkL e.x.data.toList = x := ⟨_, rfl⟩
      have H1 := Lib.hid hp1
      have H2 := Lib.hid hp2
      have h3 := h2
      clear h2 hee
      cases p1 with
      | false =>
        obtain rfl : r = false := HNO.out (fun h => by have := h.1; simp [entOkL, En.pl, hp1] at this)
        clear hp1 hp2
        go_wp2_with fail
        refine (pathOk_c e.p false H1 _ hzz.1).mono ?_; rintro e W ⟨rfl, hq⟩; replace hb := chn hb hq; clear hq
        go_wp2
        go_ret
        exact ⟨rfl, hb⟩
      | true =>
      cases p2 with
      | false =>
        obtain rfl : r = false := HNO.out (fun h => by have := h.1; simp [entOkL, En.pl, hp2] at this)
        clear hp1 hp2
        go_wp2_with fail
        refine (pathOk_c e.p true H1 _ hzz.1).mono ?_; rintro e W ⟨rfl, hq⟩; replace hb := chn hb hq; replace c0 := keepc hq c0; replace c1 := keepc hq c1; replace c2 := keepc hq c2; clear hq
        go_wp2_with fail
        refine (dataOk_c e.x false H2 _ hzz.2).mono ?_; rintro q W ⟨rfl, rfl⟩
        go_wp2
        go_ret
        exact ⟨rfl, hb⟩
      | true =>
      by_cases hdx : e.d = true ∧ e.x.data.toList ≠ []
      · obtain rfl : r = false := HNO.out (fun h => by have := h.1; simp [entOkL, En.pl, hdx.1] at this; exact hdx.2 (by rw [this.2]))
        have q1 := isE_no' hdx.2
        obtain ⟨ep, ed, ex⟩ := e
        obtain rfl : ed = true := hdx.1
        clear hp1 hp2 hdx
        go_wp2_with fail
        refine (pathOk_c ep true H1 _ hzz.1).mono ?_; rintro e W ⟨rfl, hq⟩; replace hb := chn hb hq; replace c0 := keepc hq c0; replace c1 := keepc hq c1; replace c2 := keepc hq c2; clear hq
        go_wp2_with fail
        refine (dataOk_c ex true H2 _ hzz.2).mono ?_; rintro q W ⟨rfl, rfl⟩
        go_wp2
        go_ret
        exact ⟨rfl, hb⟩
      · have hent : entOkL e.pl = true := by
          simp only [entOkL, En.pl, hp1, hp2, Bool.and_true, Bool.true_and, Bool.or_eq_true, Bool.not_eq_true', beq_iff_eq]
          by_cases hd : e.d = true
          · exact .inr (Classical.byContradiction fun h => hdx ⟨hd, h⟩)
          · exact .inl (by simpa using hd)
        have HENT := Lib.hid hent
        obtain ⟨m, hm⟩ : ∃ m, upCodeL (xs.map En.pl) e.p.data.toList = m := ⟨_, rfl⟩
        have HM := Lib.hid hm
        have hd1 : e.d = false ∨ (e.d = true ∧ e.x.toList.isEmpty = true) := by
          by_cases hd : e.d = true
          · exact .inr ⟨hd, isE_yes' (Classical.byContradiction fun h => hdx ⟨hd, h⟩)⟩
          · exact .inl (by simpa using hd)
        clear hp1 hp2 hdx hent
        obtain ⟨ep, ed, ex⟩ := e
        cases k with
        | zero =>
          rw [Nat.zero_mul, Nat.add_zero] at d0 d1 d2
          rcases hd1 with hd | ⟨hd, q1⟩ <;> obtain rfl : ed = _ := hd
          all_goals
            go_wp2_with fail
            refine (pathOk_c ep true H1 _ hzz.1).mono ?_; rintro e W ⟨rfl, hq⟩; replace hb := chn hb hq; replace c0 := keepc hq c0; replace c1 := keepc hq c1; replace c2 := keepc hq c2; clear hq
            go_wp2_with fail
            refine (dataOk_c ex true H2 _ hzz.2).mono ?_; rintro q W ⟨rfl, rfl⟩
            go_wp2_with fail
            go_quiet (fail)
            go_wp2_with fail
            refine (GU.out ep m HM _ (HS.out.below (drw hb _)) hzz.1).out.mono ?_; rintro q W2 ⟨rfl, hq⟩
            replace hb := chn (drw hb _) hq
            clear hq c0 c1 c2 d0 d1 d2
            by_cases hm0 : m = 0
            · subst hm0
              go_wp2
              go_roundw
              case rel => exact ⟨1, by omega, by go_num, fun j f hj hf => by
                by_cases ej : j = 0
                · subst ej
                  rw [HEE.out] at hf
                  injection hf with hf
                  rw [← hf]
                  exact ⟨HENT.out, fun _ h _ => absurd h (by omega), HM.out⟩
                · exact HA.out j f (by omega) hf, hb⟩
              case measure => simp [intOf]; omega
            · obtain rfl : r = false := HNO.out (fun h => hm0 (by rw [← HM.out]; exact h.2.2))
              go_wp2
              go_ret
              exact ⟨rfl, hb⟩
        | succ k =>
          obtain ⟨f, hff⟩ : ∃ f, xs[k]? = some f := ⟨_, List.getElem?_eq_getElem (by rw [HN.out]; omega)⟩
          obtain ⟨c3, _, _⟩ := en_at h3 k f hff
          replace c3 := keepc (bellow_alloc wr (.cells #[.string ep, .bool ed, .string ex] 52)) c3
          have HFF := Lib.hid hff
          clear hff h3
          by_cases hle : Op.bytesLess f.p.toList ep.toList = true
          · have HLE := Lib.hid hle
            rcases hd1 with hd | ⟨hd, q1⟩ <;> obtain rfl : ed = _ := hd
            all_goals
              go_wp2_with fail
              refine (pathOk_c ep true H1 _ hzz.1).mono ?_; rintro e W ⟨rfl, hq⟩; replace hb := chn hb hq; replace c0 := keepc hq c0; replace c1 := keepc hq c1; replace c2 := keepc hq c2; replace c3 := keepc hq c3; clear hq
              go_wp2_with fail
              refine (dataOk_c ex true H2 _ hzz.2).mono ?_; rintro q W ⟨rfl, rfl⟩
              go_wp2_with fail
              go_quiet (fail)
              go_wp2_with fail
              refine (GU.out ep m HM _ (HS.out.below (drw hb _)) hzz.1).out.mono ?_; rintro q W2 ⟨rfl, hq⟩
              replace hb := chn (drw hb _) hq
              clear hq c0 c1 c2 c3 d0 d1 d2 hle
              by_cases hm0 : m = 0
              · subst hm0
                go_wp2
                go_roundw
                case rel => exact ⟨k + 1 + 1, by omega, by go_num, fun j g hj hg => by
                  by_cases ej : j = k + 1
                  · subst ej
                    rw [HEE.out] at hg
                    injection hg with hg
                    rw [← hg]
                    exact ask_at xs k f _ HFF.out HENT.out HLE.out HM.out
                  · exact HA.out j g (by omega) hg, hb⟩
                case measure => simp [intOf]; omega
              · obtain rfl : r = false := HNO.out (fun h => hm0 (by rw [← HM.out]; exact h.2.2))
                go_wp2
                go_ret
                exact ⟨rfl, hb⟩
          · have hle' : Op.bytesLess f.p.toList ep.toList = false := by simpa using hle
            obtain rfl : r = false := HNO.out (fun h => hle (ask_less xs k f _ HFF.out h))
            clear hle
            rcases hd1 with hd | ⟨hd, q1⟩ <;> obtain rfl : ed = _ := hd
            all_goals
              go_wp2_with fail
              refine (pathOk_c ep true H1 _ hzz.1).mono ?_; rintro e W ⟨rfl, hq⟩; replace hb := chn hb hq; replace c0 := keepc hq c0; replace c1 := keepc hq c1; replace c2 := keepc hq c2; replace c3 := keepc hq c3; clear hq
              go_wp2_with fail
              refine (dataOk_c ex true H2 _ hzz.2).mono ?_; rintro q W ⟨rfl, rfl⟩
              go_wp2_with fail
              go_quiet (fail)
              go_wp2
              go_ret
              exact ⟨rfl, drw hb _⟩
    · obtain rfl : r = true := hR.out.2 ⟨by omega, fun j e he => HA.out j e (by have := (List.getElem?_eq_some_iff.1 he).1; rw [HN.out] at this; omega) he⟩
      go_wp2
      go_ret
      exact ⟨rfl, hb⟩
end Go.Proofs.YtnmjidjhloodbaaGreatDoor
namespace Go.Proofs.YtnmjidjhloodbaaGreatDoor
open Go.RowKit
/-- Where a path stands, or -1. -/
def findE (xs : List En) (q : ByteArray) : Option Nat := xs.findIdx? fun e => e.p.data.toList == q.data.toList
abbrev findV : Option Nat → Int
  | some k => (k : Int)
  | none => -1
theorem findE_at (xs : List En) (q : ByteArray) (k : Nat) (e : En) (he : xs[k]? = some e) (h : ∀ (j : Nat) (f : En), j < k → xs[j]? = some f → f.p.data.toList ≠ q.data.toList) (hq : e.p.data.toList = q.data.toList) : findE xs q = some k := by
  obtain ⟨h1, h2⟩ := List.getElem?_eq_some_iff.1 he
  unfold findE
  rw [List.findIdx?_eq_some_iff_getElem]
  refine ⟨h1, by rw [h2]; simpa using hq, fun j hj => ?_⟩
  have := h j _ hj (List.getElem?_eq_getElem (by omega))
  simpa using this
theorem findE_none (xs : List En) (q : ByteArray) (h : ∀ (j : Nat) (f : En), xs[j]? = some f → f.p.data.toList ≠ q.data.toList) : findE xs q = none := by
  unfold findE
  rw [List.findIdx?_eq_none_iff]
  intro e he
  obtain ⟨j, hj⟩ := List.getElem?_of_mem he
  have := h j e hj
  simpa using this
theorem findE_get (xs : List En) (q : ByteArray) : getE xs q = match findE xs q with
    | some k => xs[k]?
    | none => none := by
  cases hf : findE xs q with
  | none =>
    unfold findE at hf
    rw [List.findIdx?_eq_none_iff] at hf
    exact getE_none xs q fun j f hj => by have := hf f (List.mem_of_getElem? hj); simpa using this
  | some k =>
    unfold findE at hf
    rw [List.findIdx?_eq_some_iff_getElem] at hf
    obtain ⟨h1, h2, h3⟩ := hf
    rw [getE_skip xs q k xs[k] (List.getElem?_eq_getElem h1) (fun j f hj hf => by
      obtain ⟨h4, h5⟩ := List.getElem?_eq_some_iff.1 hf
      have := h3 j hj
      rw [h5] at this
      simpa using this), if_pos (by simpa using h2)]
    exact (List.getElem?_eq_getElem h1).symm
theorem findE_lt (xs : List En) (q : ByteArray) (k : Nat) (h : findE xs q = some k) : ∃ e, xs[k]? = some e ∧ getE xs q = some e := by
  have hg := findE_get xs q
  rw [h] at hg
  unfold findE at h
  rw [List.findIdx?_eq_some_iff_getElem] at h
  obtain ⟨h1, _⟩ := h
  exact ⟨xs[k], List.getElem?_eq_getElem h1, by rw [hg]; exact List.getElem?_eq_getElem h1⟩
set_option maxHeartbeats 2000000 in
theorem l2Find_c (a : Option Addr) (c : Nat) (xs : List En) (q : ByteArray) (o : Option Nat) (ho : Hid (findE xs q = o)) (w : World) (hs : SlF En.cells w a xs) (hx : xs.length ≤ maxLen) :
    Calls Tryz.prog 74 #[.slice a xs.length c, .string q] w fun r w' => r = .returned (.int .i64 (findV o)) ∧ w = w' := by
  obtain ⟨n, hn⟩ : ∃ n, xs.length = n := ⟨_, rfl⟩
  rw [hn] at hx ⊢
  unfold maxLen at hx
  have HN := Lib.hid hn
  have HS := Lib.hid hs
  clear hn hs
  go_enter Tryz.func74, Tryz.ntmps74
  go_wp2
  go_loop [5] (fun i => ∃ k : Nat, k ≤ n ∧ i = .int .i64 k ∧ (∀ (j : Nat) (f : En), j < k → xs[j]? = some f → f.p.data.toList ≠ q.data.toList)) (fun i => n - (intOf i).toNat)
  case atStart => exact ⟨0, Nat.zero_le _, rfl, fun j _ h => absurd h (by omega)⟩
  case round =>
    obtain ⟨k, hk, rfl, hall⟩ := hrel
    have HA := Lib.hid hall
    clear hall
    by_cases hlt : k < n
    · obtain ⟨e, hee⟩ : ∃ e, xs[k]? = some e := ⟨_, List.getElem?_eq_getElem (by rw [HN.out]; exact hlt)⟩
      have h2 := HS.out
      obtain ⟨b, off, rfl, _⟩ := h2.addr (by rw [HN.out]; omega)
      obtain ⟨c0, c1, c2⟩ := en_at h2 k e hee
      have HEE := Lib.hid hee
      clear h2 hee
      by_cases heq : e.p.data.toList = q.data.toList
      · have hq := beqs_yes heq
        obtain rfl : o = some k := by rw [← ho.out]; exact findE_at xs q k e HEE.out HA.out heq
        clear heq
        go_wp2
        go_ret
        exact ⟨rfl, rfl⟩
      · have hq := beqs_no heq
        have HQ := Lib.hid heq
        clear heq
        go_wp2
        go_round
        case rel => exact ⟨k + 1, by omega, by go_num, fun j f hj hf => by
          by_cases ej : j = k
          · subst ej
            rw [HEE.out] at hf
            injection hf with hf
            exact hf ▸ HQ.out
          · exact HA.out j f (by omega) hf⟩
        case measure => simp [intOf]; omega
    · obtain rfl : o = none := by
        rw [← ho.out]
        exact findE_none xs q (fun j f hf => HA.out j f (by have := (List.getElem?_eq_some_iff.1 hf).1; rw [HN.out] at this; omega) hf)
      go_wp2
      go_ret
      exact ⟨rfl, rfl⟩
/-- Is there a directory, or is it the root. -/
def dirE (xs : List En) (q : ByteArray) : Bool := q.data.toList == [47] || match getE xs q with
  | some e => e.d
  | none => false
set_option maxHeartbeats 2000000 in
theorem l2Dir_c (a : Option Addr) (c : Nat) (xs : List En) (q : ByteArray) (r : Bool) (hr : Hid (dirE xs q = r)) (w : World) (hs : SlF En.cells w a xs) (hx : xs.length ≤ maxLen) :
    Calls Tryz.prog 44 #[.slice a xs.length c, .string q] w fun e w' => e = .returned (.bool r) ∧ w = w' := by
  obtain ⟨o, ho⟩ : ∃ o, findE xs q = o := ⟨_, rfl⟩
  have HC := Lib.hid (l2Find_c a c xs q o (Lib.hid ho) w hs hx)
  have hg := findE_get xs q
  rw [ho] at hg
  obtain ⟨n, hn⟩ : ∃ n, xs.length = n := ⟨_, rfl⟩
  rw [hn] at HC hx ⊢
  unfold maxLen at hx
  by_cases hq : q.data.toList = [47]
  · obtain rfl : r = true := by rw [← hr.out, dirE, hq]; rfl
    have hq1 := beq_yes hq
    clear hg ho hn hs hq
    go_enter Tryz.func44, Tryz.ntmps44
    go_wp2
    go_ret
    exact ⟨rfl, rfl⟩
  · have hq1 := beq_no hq
    cases o with
    | none =>
      obtain rfl : r = false := by rw [← hr.out, dirE, hg]; simpa using hq
      clear hg ho hn hs hq
      go_enter Tryz.func44, Tryz.ntmps44
      go_wp2_with fail
      refine HC.out.mono ?_; rintro e W ⟨rfl, rfl⟩
      go_wp2
      go_ret
      exact ⟨rfl, rfl⟩
    | some k =>
      obtain ⟨e, he, hge⟩ := findE_lt xs q k ho
      obtain ⟨b, off, rfl, _⟩ := hs.addr (by have := (List.getElem?_eq_some_iff.1 he).1; omega)
      obtain ⟨c0, c1, c2⟩ := en_at hs k e he
      have hkn : k < n := by rw [← hn]; exact (List.getElem?_eq_some_iff.1 he).1
      obtain rfl : r = e.d := by
        rw [← hr.out, dirE, hge]
        have : (q.data.toList == [47]) = false := by simpa using hq
        rw [this]; rfl
      clear hg ho hn hs hq he hge
      go_enter Tryz.func44, Tryz.ntmps44
      go_wp2_with fail
      refine HC.out.mono ?_; rintro q' W ⟨rfl, rfl⟩
      go_wp2
      go_ret
      exact ⟨rfl, rfl⟩
end Go.Proofs.YtnmjidjhloodbaaGreatDoor
namespace Go.Proofs.YtnmjidjhloodbaaGreatDoor
open Go.RowKit
section
variable {P : Program} {ops : Array Oper} {Q : Exit → Act → World → Prop} {md : Region.Mode} {S : World → Prop}
/-- One operation is taken; its slot is named. -/
theorem tk {i : Nat} {oi : Oper} {d : Option Nat} {v : Value} {fuel : Nat} {listed : Array Bool} {a : Act} {w : World} (hi : ops[i]? = some oi) (hd : oi.dst = d)
    (hs : Region.noSelect ops = true) (hf : Region.free md ops listed i = true) (hr : (Region.ready md ops listed).contains i = true)
    (hQ : ∀ c a w, Q (.panic c) (a.put d v) w → Q (.panic c) a w) (hy : YieldsIf P ops S oi v a) (hS : S w)
    (h : wpAnyH P md ops Q S fuel (listed.setIfInBounds i true) (a.put d v) w) : wpAnyH P md ops Q S (fuel + 1) listed a w := by
  subst hd
  exact wpAnyH_take hi hs hf hr hQ hy hS h
end
theorem below_dr (w : World) (m : Nat) : Below w.heap.size w (w.drewN m) := ⟨rfl, rfl, rfl, Nat.le_refl _, fun _ _ => rfl⟩
theorem below_drew (w : World) : Below w.heap.size w w.drew := ⟨rfl, rfl, rfl, Nat.le_refl _, fun _ _ => rfl⟩
/-- A row of the call's own, behind a call that turns nothing that was there. -/
theorem own_below {w w' : World} {B : Nat} {e : TypeId} {size : Nat} {v : Value} {n : Nat} {xs : List Value} (h : w.ownsRow B e size v n xs) (hb : Below w.heap.size w w') : w'.ownsRow B e size v n xs := by
  refine ⟨h.1, ?_⟩
  rcases h.2 with h1 | ⟨g, cap, cur, rfl, hg, hh, hnc, hm, h2, h3⟩
  · exact .inl h1
  · have hl : g < w.heap.size := by
      rcases Nat.lt_or_ge g w.heap.size with h4 | h4
      · exact h4
      · rw [Array.getElem?_eq_none h4] at hh; cases hh
    exact .inr ⟨g, cap, cur, rfl, hg, (hb.block g hl).trans hh, hnc, hm, h2, h3⟩
theorem own_mono {w : World} {B B' : Nat} {e : TypeId} {size : Nat} {v : Value} {n : Nat} {xs : List Value} (h : w.ownsRow B e size v n xs) (hB : B' ≤ B) : w.ownsRow B' e size v n xs :=
  ⟨h.1, h.2.imp id fun ⟨g, cap, cur, h1, h2, h3⟩ => ⟨g, cap, cur, h1, Nat.le_trans hB h2, h3⟩⟩
end Go.Proofs.YtnmjidjhloodbaaGreatDoor
