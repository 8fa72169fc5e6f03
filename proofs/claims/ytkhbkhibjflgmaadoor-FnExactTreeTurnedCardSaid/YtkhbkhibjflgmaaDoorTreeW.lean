/- The walks of entAt and upCode. Conditions: lists are no longer than any list can be. -/
import Derived.Test.YtkhbkhibjflgmaaDoorPathI
import Derived.Test.YtkhbkhibjflgmaaDoorConv
import Derived.Test.YtkhbkhibjflgmaaDoorSame
import Derived.Test.YtkhbkhibjflgmaaDoorTreeA
namespace Go.Proofs.YtkhbkhibjflgmaaDoor
open Go.RowKit
def En.pl (e : En) : PE := ⟨e.p.data.toList, e.d, e.x.data.toList⟩
theorem En.pl_inj {e f : En} (h : e.pl = f.pl) : e = f := by
  obtain ⟨p, d, x⟩ := e
  obtain ⟨p', d', x'⟩ := f
  simp only [En.pl, PE.mk.injEq] at h
  rw [bytes_eq h.1, h.2.1, bytes_eq h.2.2]
theorem new_free (w : World) (cs : Array Value) (t : TypeId) (j : Nat) : (w.alloc (.cells cs t)).frozen? ⟨w.heap.size, j, none⟩ = false := by
  unfold World.frozen?
  rw [show (w.alloc (.cells cs t)).heap[w.heap.size]? = some (.cells cs t (0, 0)) from heap_alloc_new w _]
  simp
/-- Three cells of a block, behind three stores into it and new blocks. -/
theorem three_set (w : World) (g : Nat) (u0 u1 u2 v0 v1 v2 : Value) (h0 : w.cell? ⟨g, 0, none⟩ = some u0) (h1 : w.cell? ⟨g, 1, none⟩ = some u1) (h2 : w.cell? ⟨g, 2, none⟩ = some u2) (o : Obj) :
    (((((w.setCell ⟨g, 0, none⟩ v0).setCell ⟨g, 1, none⟩ v1).setCell ⟨g, 2, none⟩ v2).alloc o).cell? ⟨g, 0, none⟩ = some v0) ∧
    (((((w.setCell ⟨g, 0, none⟩ v0).setCell ⟨g, 1, none⟩ v1).setCell ⟨g, 2, none⟩ v2).alloc o).cell? ⟨g, 1, none⟩ = some v1) ∧
    (((((w.setCell ⟨g, 0, none⟩ v0).setCell ⟨g, 1, none⟩ v1).setCell ⟨g, 2, none⟩ v2).alloc o).cell? ⟨g, 2, none⟩ = some v2) := by
  have hl : g < w.heap.size := World.block_lt_of_cell? _ _ h0
  have e : ∀ j, ((((w.setCell ⟨g, 0, none⟩ v0).setCell ⟨g, 1, none⟩ v1).setCell ⟨g, 2, none⟩ v2).alloc o).cell? ⟨g, j, none⟩ = (((w.setCell ⟨g, 0, none⟩ v0).setCell ⟨g, 1, none⟩ v1).setCell ⟨g, 2, none⟩ v2).cell? ⟨g, j, none⟩ := fun j =>
    World.cell?_alloc_lt _ _ _ (by simpa [World.setCell] using hl)
  rw [e, e, e]
  have n01 : (⟨g, 0, none⟩ : Addr) ≠ ⟨g, 1, none⟩ := by simp
  have n02 : (⟨g, 0, none⟩ : Addr) ≠ ⟨g, 2, none⟩ := by simp
  have n12 : (⟨g, 1, none⟩ : Addr) ≠ ⟨g, 2, none⟩ := by simp
  have a1 := (World.cell?_setCell_other w ⟨g, 0, none⟩ ⟨g, 1, none⟩ v0 n01).trans h1
  have a2 := (World.cell?_setCell_other w ⟨g, 0, none⟩ ⟨g, 2, none⟩ v0 n02).trans h2
  have b2 := (World.cell?_setCell_other (w.setCell ⟨g, 0, none⟩ v0) ⟨g, 1, none⟩ ⟨g, 2, none⟩ v1 n12).trans a2
  refine ⟨?_, ?_, ?_⟩
  · rw [World.cell?_setCell_other _ _ _ _ n02.symm, World.cell?_setCell_other _ _ _ _ n01.symm]
    exact World.cell?_setCell_same _ _ _ h0
  · rw [World.cell?_setCell_other _ _ _ _ n12.symm]
    exact World.cell?_setCell_same _ _ _ a1
  · exact World.cell?_setCell_same _ _ _ b2
/-- What is at a path, among entries as they lie. -/
def getE : List En → ByteArray → Option En
  | [], _ => none
  | e :: r, q => if e.p.data.toList = q.data.toList then some e else getE r q
theorem getE_pl (xs : List En) (q : ByteArray) : getL (xs.map En.pl) q.data.toList = (getE xs q).map En.pl := by
  induction xs with
  | nil => rfl
  | cons e r ih =>
    rw [List.map_cons, getL, getE]
    show (if e.p.data.toList = q.data.toList then some e.pl else getL (List.map En.pl r) q.data.toList) = _
    by_cases h : e.p.data.toList = q.data.toList
    · rw [if_pos h, if_pos h]; rfl
    · rw [if_neg h, if_neg h]; exact ih
theorem getE_skip (xs : List En) (q : ByteArray) (k : Nat) (e : En) (he : xs[k]? = some e) (h : ∀ (j : Nat) (f : En), j < k → xs[j]? = some f → f.p.data.toList ≠ q.data.toList) :
    getE xs q = if e.p.data.toList = q.data.toList then some e else getE (xs.drop (k + 1)) q := by
  induction xs generalizing k with
  | nil => simp at he
  | cons a r ih =>
    cases k with
    | zero => simp at he; subst he; rfl
    | succ k =>
      rw [getE, if_neg (h 0 a (by omega) rfl)]
      have := ih k (by simpa using he) (fun j f hj hf => h (j + 1) f (by omega) (by simpa using hf))
      simpa using this
theorem getE_none (xs : List En) (q : ByteArray) (h : ∀ (j : Nat) (f : En), xs[j]? = some f → f.p.data.toList ≠ q.data.toList) : getE xs q = none := by
  induction xs with
  | nil => rfl
  | cons a r ih =>
    rw [getE, if_neg (h 0 a rfl)]
    exact ih (fun j f hf => h (j + 1) f (by simpa using hf))
abbrev optV (o : Option En) : Value := match o with
  | some e => .tuple #[e.val, .bool true]
  | none => .tuple #[.agg #[.string ⟨#[]⟩, .bool false, .string ⟨#[]⟩], .bool false]
set_option maxHeartbeats 2000000 in
theorem entAt_c (a : Option Addr) (c : Nat) (xs : List En) (q : ByteArray) (o : Option En) (ho : Hid (getE xs q = o)) (w : World) (hs : SlF En.cells w a xs) (hx : xs.length ≤ maxLen) :
    Calls Tryd.prog 80 #[.slice a xs.length c, .string q] w fun r w' => r = .returned (optV o) ∧ Below w.heap.size w w' := by
  obtain ⟨n, hn⟩ : ∃ n, xs.length = n := ⟨_, rfl⟩
  rw [hn] at hx ⊢
  unfold maxLen at hx
  have HN := Lib.hid hn
  obtain ⟨z, hz⟩ : ∃ z, w.alloc (.cells #[.string ⟨#[]⟩, .bool false, .string ⟨#[]⟩] 30) = z := ⟨_, rfl⟩
  have HS := Lib.hid (hs.below (hz ▸ bellow_alloc w _ : Below w.heap.size w z))
  have hzs : z.heap.size = w.heap.size + 1 := by rw [← hz]; simp
  have c0 : z.cell? ⟨w.heap.size, 0, none⟩ = some (.string ⟨#[]⟩) := by rw [← hz]; exact new_cell _ _ _ 0 _ rfl
  have c1 : z.cell? ⟨w.heap.size, 1, none⟩ = some (.bool false) := by rw [← hz]; exact new_cell _ _ _ 1 _ rfl
  have c2 : z.cell? ⟨w.heap.size, 2, none⟩ = some (.string ⟨#[]⟩) := by rw [← hz]; exact new_cell _ _ _ 2 _ rfl
  have hfz : ∀ j, z.frozen? ⟨w.heap.size, j, none⟩ = false := fun j => by rw [← hz]; exact new_free w _ _ j
  have HW := Lib.hid (hz ▸ bellow_alloc w _ : Below w.heap.size w z)
  have HF := Lib.hid hfz
  have HC0 := Lib.hid c0
  have HC1 := Lib.hid c1
  have HC2 := Lib.hid c2
  have HZ := Lib.hid hzs
  clear hn hs hzs c0 c1 c2 hfz
  go_enter Tryd.func80, Tryd.ntmps80
  go_wp2
  clear hz
  go_loopw [7, 10] (fun _ i wr => ∃ k : Nat, k ≤ n ∧ i = .int .i64 k ∧ (∀ (j : Nat) (f : En), j < k → xs[j]? = some f → f.p.data.toList ≠ q.data.toList) ∧ Below z.heap.size z wr) (fun _ i _ => n - (intOf i).toNat)
  case atStart => exact ⟨0, Nat.zero_le _, rfl, fun j _ h => absurd h (by omega), Below.refl _ _⟩
  case round =>
    obtain ⟨k, hk, rfl, hall, hb⟩ := hrel
    have HA := Lib.hid hall
    clear hall
    have hlt0 : w.heap.size < wr.heap.size := by have := hb.size; rw [HZ.out] at this; omega
    have g0 := keepc hb HC0.out
    have g1 := keepc hb HC1.out
    have g2 := keepc hb HC2.out
    have f0 := (hb.frozen (p := ⟨w.heap.size, 0, none⟩) (by rw [HZ.out]; simp)).trans (HF.out 0)
    have f1 := (hb.frozen (p := ⟨w.heap.size, 1, none⟩) (by rw [HZ.out]; simp)).trans (HF.out 1)
    have f2 := (hb.frozen (p := ⟨w.heap.size, 2, none⟩) (by rw [HZ.out]; simp)).trans (HF.out 2)
    by_cases hlt : k < n
    · obtain ⟨e, hee⟩ : ∃ e, xs[k]? = some e := ⟨_, List.getElem?_eq_getElem (by rw [HN.out]; exact hlt)⟩
      have h2 := (HS.out.below hb)
      obtain ⟨b, off, rfl, _⟩ := h2.addr (by rw [HN.out]; omega)
      obtain ⟨c0, c1, c2⟩ := en_at h2 k e hee
      have hg := getE_skip xs q k e hee HA.out
      have HG := Lib.hid hg
      have HEE := Lib.hid hee
      clear h2 hg hee
      by_cases heq : e.p.data.toList = q.data.toList
      · have hq := beqs_yes heq
        obtain rfl : o = some e := by rw [← ho.out, HG.out, if_pos heq]
        clear heq
        go_wp2
        obtain ⟨q0, q1, q2⟩ := three_set wr w.heap.size _ _ _ (.string e.p) (.bool e.d) (.string e.x) g0 g1 g2 (.cells #[.string e.p, .bool e.d, .string e.x] 30)
        refine bodyPost_ret (v := optV (some e)) (by simp [results, Tryd.results80, go_sem, q0, q1, q2]) rfl ⟨rfl, ?_⟩
        have HB := HW.out.trans (hb.mono (by rw [HZ.out]; omega))
        repeat (first | exact HB | refine Below.alloc ?_ (by simp; try omega) _ | refine Below.setCell ?_ (by simp; try omega) _)
      · have hq := beqs_no heq
        have HQ := Lib.hid heq
        clear heq
        go_wp2
        go_roundw
        case rel => exact ⟨k + 1, by omega, by go_num, fun j f hj hf => by
          by_cases ej : j = k
          · subst ej
            rw [HEE.out] at hf
            injection hf with hf
            exact hf ▸ HQ.out
          · exact HA.out j f (by omega) hf, hb.alloc hb.size _⟩
        case measure => simp [intOf]; omega
    · obtain rfl : o = none := by
        rw [← ho.out]
        exact getE_none xs q (fun j f hf => HA.out j f (by have := (List.getElem?_eq_some_iff.1 hf).1; rw [HN.out] at this; omega) hf)
      go_wp2
      refine bodyPost_ret (v := optV none) (by simp [results, Tryd.results80, go_sem, g0, g1, g2]) rfl ⟨rfl, ?_⟩
      have HB := HW.out.trans (hb.mono (by rw [HZ.out]; omega))
      repeat (first | exact HB | refine Below.alloc ?_ (by simp; try omega) _ | refine Below.setCell ?_ (by simp; try omega) _)
def upC : Option En → Nat
  | none => 2
  | some e => if e.d then 0 else 3
theorem up_str20 (s : ByteArray) : ∃ r : ByteArray, Hid (upL s.data.toList = r.data.toList) ∧ r.size ≤ 20 := by
  obtain ⟨r, hr⟩ : ∃ r : ByteArray, upL s.data.toList = r.data.toList := ⟨⟨(upL s.data.toList).toArray⟩, by simp⟩
  refine ⟨r, hr, ?_⟩
  rw [← size_data, ← hr]
  unfold upL
  split
  · next hp =>
    have hn := pathOk_names hp
    unfold encP
    split
    · simp
    · have h6 := (flat_len hn.1.dropLast.2).1
      have h7 := hn.1.dropLast.1
      omega
  · simp
set_option maxHeartbeats 2000000 in
theorem upCode_c (a : Option Addr) (c : Nat) (xs : List En) (q : ByteArray) (m : Nat) (hm : Hid (upCodeL (xs.map En.pl) q.data.toList = m)) (w : World) (hs : SlF En.cells w a xs) (hx : xs.length ≤ maxLen) (hq : q.size ≤ maxLen) :
    Calls Tryd.prog 78 #[.slice a xs.length c, .string q] w fun r w' => r = .returned (.int .i64 m) ∧ Below w.heap.size w w' := by
  have hb := Below.refl w.heap.size w
  obtain ⟨u, hu, hus⟩ := up_str20 q
  obtain ⟨o, ho⟩ : ∃ o, getE xs u = o := ⟨_, rfl⟩
  have HM : Hid (m = if u.data.toList = [47] then 0 else upC o) := by
    rw [Hid, ← hm.out, upCodeL, hu.out, getE_pl, ho]
    cases o with
    | none => rfl
    | some e => rfl
  have HO := Lib.hid ho
  have HE := fun W (h : SlF En.cells W a xs) => Lib.hid (entAt_c a c xs u o HO W h hx)
  obtain ⟨n, hn⟩ : ∃ n, xs.length = n := ⟨_, rfl⟩
  rw [hn] at HE ⊢
  have GE := Lib.hid HE
  have HS := Lib.hid hs
  clear ho hs hx hn hm HE
  by_cases hr : u.data.toList = [47]
  · have hq2 := beq_yes hr
    obtain rfl : m = 0 := by rw [HM.out, if_pos hr]
    clear hr
    go_enter Tryd.func78, Tryd.ntmps78
    go_wp2_with fail
    refine (pathUp_c q u hu _ hq).mono ?_; rintro e W ⟨rfl, hq⟩; replace hb := chn hb hq; clear hq
    go_wp2
    go_ret
    exact ⟨rfl, hb⟩
  · have hq2 := beq_no hr
    cases o with
    | none =>
      obtain rfl : m = 2 := by rw [HM.out, if_neg hr]; rfl
      clear hr
      go_enter Tryd.func78, Tryd.ntmps78
      go_wp2_with fail
      refine (pathUp_c q u hu _ hq).mono ?_; rintro e W ⟨rfl, hq⟩; replace hb := chn hb hq; clear hq
      go_wp2_with fail
      refine ((GE.out _ (HS.out.below hb)).out).mono ?_; rintro e W ⟨rfl, hq⟩; replace hb := chn hb hq; clear hq
      go_wp2
      go_ret
      exact ⟨rfl, by repeat (first | exact hb | refine Below.alloc ?_ (by have := hb.size; simp; try omega) _)⟩
    | some e =>
      obtain ⟨p, d, x⟩ := e
      cases d with
      | true =>
        obtain rfl : m = 0 := by rw [HM.out, if_neg hr]; rfl
        clear hr
        go_enter Tryd.func78, Tryd.ntmps78
        go_wp2_with fail
        refine (pathUp_c q u hu _ hq).mono ?_; rintro e W ⟨rfl, hq⟩; replace hb := chn hb hq; clear hq
        go_wp2_with fail
        refine ((GE.out _ (HS.out.below hb)).out).mono ?_; rintro e W ⟨rfl, hq⟩; replace hb := chn hb hq; clear hq
        go_wp2
        go_ret
        exact ⟨rfl, by repeat (first | exact hb | refine Below.alloc ?_ (by have := hb.size; simp; try omega) _)⟩
      | false =>
        obtain rfl : m = 3 := by rw [HM.out, if_neg hr]; rfl
        clear hr
        go_enter Tryd.func78, Tryd.ntmps78
        go_wp2_with fail
        refine (pathUp_c q u hu _ hq).mono ?_; rintro e W ⟨rfl, hq⟩; replace hb := chn hb hq; clear hq
        go_wp2_with fail
        refine ((GE.out _ (HS.out.below hb)).out).mono ?_; rintro e W ⟨rfl, hq⟩; replace hb := chn hb hq; clear hq
        go_wp2
        go_ret
        exact ⟨rfl, by repeat (first | exact hb | refine Below.alloc ?_ (by have := hb.size; simp; try omega) _)⟩
end Go.Proofs.YtkhbkhibjflgmaaDoor
