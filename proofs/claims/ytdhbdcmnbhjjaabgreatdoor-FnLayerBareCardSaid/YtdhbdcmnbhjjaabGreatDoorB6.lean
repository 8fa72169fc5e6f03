/- The library's sort at this translation, laid in plain words by the kit's own tool. The library's sort at entries and at marks: the comparison's walk, the row before and behind it. The walk of the program's LayerOn. The walks of the reference's l3On and LayerOn. What the laws of layers on trees share: LayerOn and LayerDiff as the laws meet them. Conditions: each theorem's own. -/
import Derived.Shelf.SlSortCmp.WholeK
import Derived.Ground.SlsfProg
import Derived.Test.YtdhbdcmnbhjjaabGreatDoorProg
import Derived.Test.YtdhbdcmnbhjjaabGreatDoorB1
import Derived.Test.YtdhbdcmnbhjjaabGreatDoorB3
import Derived.Shelf.SlSortCmp.NoneTotal
import Derived.Test.YtdhbdcmnbhjjaabGreatDoorB5
import Derived.Test.YtdhbdcmnbhjjaabGreatDoorB4
import Derived.StillTailTactics
namespace Go.Proofs
open Go.Shelf
def Tryz.sortEnt_ren : Go.Shelf.Ren := ⟨fun | 6 => 38 | 15 => 58 | 14 => 57 | 28 => 85 | 29 => 86 | 20 => 77 | 21 => 78 | 22 => 79 | 23 => 80 | 24 => 81 | 25 => 82 | 26 => 83 | 27 => 84 | 46 => 95 | 47 => 96 | 48 => 97 | 49 => 98 | 50 => 99 | 57 => 106 | n => n, fun | 22 => 24 | 24 => 33 | 25 => 70 | 3 => 3 | 39 => 84 | 0 => 0 | 53 => 108 | 55 => 110 | 4 => 4 | 46 => 101 | 45 => 100 | 50 => 105 | 5 => 5 | 9 => 9 | 66 => 117 | 70 => 121 | 76 => 127 | 77 => 128 | n => n, fun | n => n⟩
theorem Tryz.sortEnt : Go.Proofs.SlLaysF0.n6 Tryz.prog Tryz.sortEnt_ren := {
  mixed := by kernel_rfl
  f6 := ⟨Tryz.f38.name, by decide, Tryz.func38.trans (congrArg some (by kernel_rfl))⟩
  f14 := ⟨Tryz.f57.name, by decide, Tryz.func57.trans (congrArg some (by kernel_rfl))⟩
  f15 := Tryz.func58.trans (congrArg some (by kernel_rfl))
  f20 := ⟨Tryz.f77.name, by decide, Tryz.func77.trans (congrArg some (by kernel_rfl))⟩
  f21 := ⟨Tryz.f78.name, by decide, Tryz.func78.trans (congrArg some (by kernel_rfl))⟩
  f22 := ⟨Tryz.f79.name, by decide, Tryz.func79.trans (congrArg some (by kernel_rfl))⟩
  f23 := ⟨Tryz.f80.name, by decide, Tryz.func80.trans (congrArg some (by kernel_rfl))⟩
  f24 := ⟨Tryz.f81.name, by decide, Tryz.func81.trans (congrArg some (by kernel_rfl))⟩
  f25 := ⟨Tryz.f82.name, by decide, Tryz.func82.trans (congrArg some (by kernel_rfl))⟩
  f26 := ⟨Tryz.f83.name, by decide, Tryz.func83.trans (congrArg some (by kernel_rfl))⟩
  f27 := ⟨Tryz.f84.name, by decide, Tryz.func84.trans (congrArg some (by kernel_rfl))⟩
  f28 := Tryz.func85.trans (congrArg some (by kernel_rfl))
  f29 := Tryz.func86.trans (congrArg some (by kernel_rfl))
  f46 := ⟨Tryz.f95.name, by decide, Tryz.func95.trans (congrArg some (by kernel_rfl))⟩
  f47 := Tryz.func96.trans (congrArg some (by kernel_rfl))
  f48 := Tryz.func97.trans (congrArg some (by kernel_rfl))
  f49 := ⟨Tryz.f98.name, by decide, Tryz.func98.trans (congrArg some (by kernel_rfl))⟩
  f50 := ⟨Tryz.f99.name, by decide, Tryz.func99.trans (congrArg some (by kernel_rfl))⟩
  f57 := ⟨Tryz.f106.name, by decide, Tryz.func106.trans (congrArg some (by kernel_rfl))⟩
  t0 := Tryz.underlying0
  a0 := Tryz.isAgg0
  z0 := Tryz.sizeOf0
  v0 := Tryz.zeroValue0
  t3 := Tryz.underlying3
  a3 := Tryz.isAgg3
  z3 := Tryz.sizeOf3
  v3 := Tryz.zeroValue3
  t4 := Tryz.underlying4
  a4 := Tryz.isAgg4
  z4 := Tryz.sizeOf4
  v4 := Tryz.zeroValue4
  t5 := Tryz.underlying5
  a5 := Tryz.isAgg5
  z5 := Tryz.sizeOf5
  v5 := Tryz.zeroValue5
  t9 := Tryz.underlying9
  a9 := Tryz.isAgg9
  z9 := Tryz.sizeOf9
  v9 := Tryz.zeroValue9
  t22 := Tryz.underlying24
  a22 := Tryz.isAgg24
  z22 := Tryz.sizeOf24
  v22 := Tryz.zeroValue24
  t25 := Tryz.underlying70
  a25 := Tryz.isAgg70
  z25 := Tryz.sizeOf70
  v25 := Tryz.zeroValue70
  t39 := Tryz.underlying84
  a39 := Tryz.isAgg84
  z39 := Tryz.sizeOf84
  v39 := Tryz.zeroValue84
  t45 := Tryz.underlying100
  a45 := Tryz.isAgg100
  z45 := Tryz.sizeOf100
  v45 := Tryz.zeroValue100
  t46 := Tryz.underlying101
  a46 := Tryz.isAgg101
  z46 := Tryz.sizeOf101
  v46 := Tryz.zeroValue101
  t50 := Tryz.underlying105
  a50 := Tryz.isAgg105
  z50 := Tryz.sizeOf105
  v50 := Tryz.zeroValue105
  t53 := Tryz.underlying108
  a53 := Tryz.isAgg108
  z53 := Tryz.sizeOf108
  v53 := Tryz.zeroValue108
  t55 := Tryz.underlying110
  a55 := Tryz.isAgg110
  z55 := Tryz.sizeOf110
  v55 := Tryz.zeroValue110
  t66 := Tryz.underlying117
  a66 := Tryz.isAgg117
  z66 := Tryz.sizeOf117
  v66 := Tryz.zeroValue117
  t70 := Tryz.underlying121
  a70 := Tryz.isAgg121
  z70 := Tryz.sizeOf121
  v70 := Tryz.zeroValue121
  t76 := Tryz.underlying127
  a76 := Tryz.isAgg127
  z76 := Tryz.sizeOf127
  v76 := Tryz.zeroValue127
  t77 := Tryz.underlying128
  a77 := Tryz.isAgg128
  z77 := Tryz.sizeOf128
  v77 := Tryz.zeroValue128 }
end Go.Proofs
namespace Go.Proofs.YtdhbdcmnbhjjaabGreatDoor
open Go.RowKit Go.Shelf Go.Sort
instance : Inhabited En := ⟨⟨.empty, false, .empty⟩⟩
instance : Inhabited Mk := ⟨⟨.empty, 0, .empty⟩⟩
/-- What the library's comparison of two strings hands back. -/
def cmpB (a b : ByteArray) : Int := if Op.bytesLess a.toList b.toList then -1 else if a.toList == b.toList then 0 else 1
set_option maxHeartbeats 1000000 in
theorem isNaNS_c (s : ByteArray) (w : World) : Calls Tryz.prog 59 #[.string s] w fun e w' => e = .returned (.bool false) ∧ w' = w := by
  go_enter Tryz.func59, Tryz.ntmps59
  go_wp2
  go_ret
  exact ⟨by simp, rfl⟩
set_option maxHeartbeats 2000000 in
theorem compareS_c (a b : ByteArray) (w : World) : Calls Tryz.prog 40 #[.string a, .string b] w fun e w' => e = .returned (.int .i64 (cmpB a b)) ∧ w' = w := by
  have hcon := isNaNS_c
  go_enter Tryz.func40, Tryz.ntmps40
  go_wp2_with (go_at_call 59; refine (hcon _ _).mono ?_; rintro e w' ⟨rfl, rfl⟩)
  all_goals (go_ret; refine ⟨?_, rfl⟩; unfold cmpB; simp_all)
/-- The three cells of what stands at place k in a row. -/
theorem flat_at {α : Type} {f : α → List Value} (hf : ∀ x, (f x).length = 3) {j : Nat} (hj : j < 3) : ∀ (ys : List α) (k : Nat) (y : α), ys[k]? = some y → (ys.flatMap f)[k * 3 + j]? = (f y)[j]? := by
  intro ys
  induction ys with
  | nil => intro k y hy; simp at hy
  | cons z r ih =>
    intro k y hy
    rw [List.flatMap_cons]
    cases k with
    | zero =>
      simp at hy; subst hy
      rw [Nat.zero_mul, Nat.zero_add, List.getElem?_append_left (by rw [hf]; exact hj)]
    | succ k =>
      rw [List.getElem?_append_right (by rw [hf]; omega), show (k + 1) * 3 + j - (f z).length = k * 3 + j by rw [hf]; omega]
      exact ih k y (by simpa using hy)
section
variable {α : Type} [Inhabited α] {f : α → List Value}
theorem holdsK_own (hf : ∀ x, (f x).length = 3) {w : World} {B g c : Nat} {t : TypeId} {xs : List α} (h : w.ownsRow B t 3 (.slice (some ⟨g, 0, none⟩) xs.length c) xs.length (xs.flatMap f)) (hn : 0 < xs.length) :
    HoldsK f 3 w g 0 xs.toArray ∧ B ≤ g ∧ g < w.heap.size := by
  obtain ⟨g', c', hv, _, hB, hlt, hc, hz⟩ := own_form h hn
  have hg : g = g' := by injection hv with h1; injection h1 with h1; injection h1
  subst hg
  refine ⟨fun j hj => ?_, hB, hlt⟩
  rw [size_flatK, List.size_toArray] at hj
  rw [Nat.zero_add]
  refine ⟨hc _ _ ?_, hz _⟩
  rw [get_flatK _ _ _ _ (by rw [List.size_toArray]; exact hj)]
  have h3 : j / 3 < xs.length := by omega
  have e := flat_at hf (Nat.mod_lt j (by omega : 0 < 3)) xs (j / 3) _ (List.getElem?_eq_getElem h3)
  rw [show j / 3 * 3 + j % 3 = j by omega] at e
  rw [e]
  have e2 : xs.toArray[j / 3]! = xs[j / 3] := by simp [h3]
  rw [e2]
  have h4 : j % 3 < (f xs[j / 3]).length := by rw [hf]; omega
  show _ = some ((f xs[j / 3])[j % 3]!)
  rw [List.getElem?_eq_getElem h4]
  simp [h4]
theorem slf_holdsK (hf : ∀ x, (f x).length = 3) {w : World} {g : Nat} {d : Array α} (h : HoldsK f 3 w g 0 d) (hg : g < w.heap.size) : SlF f w (some ⟨g, 0, none⟩) d.toList := fun _ => by
  refine ⟨g, 0, rfl, hg, fun k x hx j u hu => ?_⟩
  have hk : k < d.size := by simpa using (List.getElem?_eq_some_iff.1 hx).1
  have hj : j < 3 := by have := (List.getElem?_eq_some_iff.1 hu).1; rwa [hf] at this
  have e := (HoldsK.cell h hk hj).1
  have e1 : d[k]! = x := by
    rw [Array.getElem?_toList, Array.getElem?_eq_getElem hk] at hx
    simp at hx
    rw [getElem!_pos d k hk]; exact hx
  rw [e, e1]
  obtain ⟨h5, h6⟩ := List.getElem?_eq_some_iff.1 hu
  simp [h5, h6]
theorem below_sort {w : World} {B g n : Nat} {d : Array α} {os : Array Obj} (hB : B ≤ g) (hg : g < w.heap.size) : Below B w (sortWorldK f 3 w g 0 n d os) := by
  refine ⟨rfl, rfl, rfl, size_sortWorldK_c f 3 w g 0 n d os, fun k hk => ?_⟩
  have h1 : k < (putRowK f 3 (Sort.ahead w n) g 0 d).heap.size := by rw [size_putRowK]; show k < w.heap.size; omega
  show ((putRowK f 3 (Sort.ahead w n) g 0 d).heap ++ os)[k]? = _
  rw [Array.getElem?_append_left h1]
  show (w.heap.modify g _)[k]? = _
  rw [Array.getElem?_modify, if_neg (by omega)]
/-- A row of the call's own that was sorted is a row of the call's own. -/
theorem own_sort (hf : ∀ x, (f x).length = 3) {w : World} {B g c n : Nat} {t : TypeId} {xs : List α} {d : Array α} {os : Array Obj} (h : w.ownsRow B t 3 (.slice (some ⟨g, 0, none⟩) xs.length c) xs.length (xs.flatMap f)) (hg : g < w.heap.size) (hd : d.size = xs.length)
    (hH : HoldsK f 3 (sortWorldK f 3 w g 0 n d os) g 0 d) : (sortWorldK f 3 w g 0 n d os).ownsRow B t 3 (.slice (some ⟨g, 0, none⟩) d.toList.length c) d.toList.length (d.toList.flatMap f) := by
  rcases h.2 with ⟨hv, _⟩ | ⟨g', cap, cur, hv, hB, hh, hnc, hm, hs, ht⟩
  · cases hv
  obtain ⟨rfl, rfl⟩ : g = g' ∧ c = cap := by injection hv with h1 h2 h3; injection h1 with h1; injection h1 with h1; exact ⟨h1, h3⟩
  have hl : d.toList.length = xs.length := by rw [Array.length_toList, hd]
  have hheap : (sortWorldK f 3 w g 0 n d os).heap[g]? = some (.cells (putCells id 0 (flatK f 3 d) cur) t (0, 0)) := by
    have h1 : g < (putRowK f 3 (Sort.ahead w n) g 0 d).heap.size := by rw [size_putRowK]; exact hg
    show ((putRowK f 3 (Sort.ahead w n) g 0 d).heap ++ os)[g]? = _
    rw [Array.getElem?_append_left h1]
    show (w.heap.modify g _)[g]? = _
    rw [Array.getElem?_modify, if_pos rfl, hh]; rfl
  have hsz : (putCells id 0 (flatK f 3 d) cur).size = c * 3 := by simp [putCells, hs]
  refine ⟨flatMap_len hf _, .inr ⟨g, c, _, rfl, hB, hheap, by rw [hl]; exact hnc, hm, hsz, ?_⟩⟩
  apply List.ext_getElem?
  intro k
  by_cases hk : k < d.toList.length * 3
  · rw [List.getElem?_take, if_pos hk, Array.getElem?_toList]
    have h3 : k / 3 < d.size := by rw [Array.length_toList] at hk; omega
    have hj : k % 3 < 3 := Nat.mod_lt _ (by omega)
    have e := (HoldsK.cell hH h3 hj).1
    rw [show 0 + k / 3 * 3 + k % 3 = k by omega, cell_of_row _ g k _ t (0, 0) hheap] at e
    have e2 := flat_at hf hj d.toList (k / 3) _ (List.getElem?_eq_getElem (by rw [Array.length_toList]; exact h3))
    rw [show k / 3 * 3 + k % 3 = k by omega] at e2
    rw [e2, e, getElem!_pos d _ h3]
    have h4 : k % 3 < (f d[k / 3]).length := by rw [hf]; exact hj
    rw [Array.getElem_toList, List.getElem?_eq_getElem h4, getElem!_pos (f d[k / 3]) _ h4]
  · rw [List.getElem?_eq_none (by rw [List.length_take]; omega), List.getElem?_eq_none (by rw [flatMap_len hf]; omega)]
end
theorem permIn_list {α : Type} [Inhabited α] {d d' : Array α} (h : PermIn 0 d.size d d') : d'.toList.Perm d.toList := by
  obtain ⟨h1, _, h2⟩ := h
  rw [← h1, Array.extract_size, h1, Array.extract_size] at h2
  exact h2
theorem sorted_list {α : Type} [Inhabited α] {lt : α → α → Bool} {d : Array α} {n : Nat} (hn : d.size = n) (h : SortedIn lt 0 n d) : d.toList.Pairwise fun a b => lt b a = false := by
  rw [List.pairwise_iff_getElem]
  intro i j hi hj hij
  have e := h i j (Nat.zero_le _) hij (by rw [← hn]; simpa using hj)
  have hi' : i < d.size := by simpa using hi
  have hj' : j < d.size := by simpa using hj
  rw [getElem!_pos d i hi', getElem!_pos d j hj'] at e
  simpa using e
theorem lt_cmpB {α : Type} (p : α → ByteArray) (x y : α) : ltOf (fun a b : α => cmpB (p a) (p b)) x y = Op.bytesLess (p x).data.toList (p y).data.toList := by
  rw [← less_of']
  unfold ltOf
  show decide (cmpB (p x) (p y) < 0) = _
  unfold cmpB
  by_cases h : Op.bytesLess (p x).toList (p y).toList = true
  · simp [h]
  · rw [if_neg h]
    have h' : Op.bytesLess (p x).toList (p y).toList = false := by simpa using h
    rw [h']
    split <;> decide
theorem swoB {α : Type} (p : α → ByteArray) : SWO (ltOf (fun a b : α => cmpB (p a) (p b))) := by
  refine ⟨fun x => by rw [lt_cmpB]; exact less_irrefl _, fun x y z h1 h2 => by rw [lt_cmpB] at *; exact less_trans h1 h2, fun x y z h1 h2 => ?_⟩
  rw [lt_cmpB] at *
  rcases less_total (p x).data.toList (p z).data.toList with h | h | h
  · rcases less_total (p x).data.toList (p y).data.toList with k | k | k
    · rw [k] at h1; cases h1
    · rw [← k, h] at h2; cases h2
    · have := less_trans k h; rw [this] at h2; cases h2
  · rw [h]; exact less_irrefl _
  · exact less_asymm h
set_option maxHeartbeats 2000000 in
theorem cmpEn_c (x y : En) (W : World) : Calls Tryz.prog 39 #[En.val x, En.val y] W fun e w' => e = .returned (.int .i64 (cmpB x.p y.p)) ∧ ∃ q os', w' = grow (W.drewN q) os' := by
  have hcon := compareS_c
  go_enter Tryz.func39, Tryz.ntmps39
  go_wp2_with (go_at_call 40; refine (hcon _ _ _).mono ?_; rintro e w' ⟨rfl, rfl⟩)
  go_ret
  exact ⟨rfl, 0, _, by rw [alloc_eq_grow, alloc_eq_grow, grow_grow]; rfl⟩
set_option maxHeartbeats 2000000 in
/-- sortEnts: what it sorts reads as the same elements in order, in the same place. -/
theorem sortEn_c (w : World) (B : Nat) (a : Option Addr) (c : Nat) (xs : List En) (h : OwnEn w B (.slice a xs.length c) xs) (hx : xs.length ≤ 1000000) :
    Calls Tryz.prog 18 #[.slice a xs.length c] w fun e w' => e = .returned (.tuple #[]) ∧ ∃ ys, ys.Perm xs ∧ (ys.Pairwise fun e f => Op.bytesLess f.p.data.toList e.p.data.toList = false) ∧ SlF En.cells w' a ys ∧ OwnEn w' B (.slice a ys.length c) ys ∧ Below B w w' := by
  rcases Nat.eq_zero_or_pos xs.length with h0 | hn
  · have hcon := AnyF.slices_SortFunc_none Tryz.sortEnt a c (.func (.func 39) #[] #[]) w
    obtain rfl : xs = [] := List.length_eq_zero_iff.1 h0
    change Calls Tryz.prog 38 _ _ _ at hcon
    go_enter Tryz.func18, Tryz.ntmps18
    go_wp2_with (go_at_call 38; refine hcon.mono ?_; rintro e w' ⟨rfl, rfl⟩)
    go_end0
    exact ⟨rfl, [], List.Perm.refl _, List.Pairwise.nil, SlF.nil_, h, Below.refl _ _⟩
  · have eg : ∀ args w, (callFunc 39 args).run Tryz.prog w = .ok (.enter 39 args) w := enters_of Tryz.func39 (by kernel_rfl) rfl
    obtain ⟨g, c', hv, _, _, _, _, _⟩ := own_form h hn
    obtain ⟨rfl, rfl⟩ : a = some ⟨g, 0, none⟩ ∧ c = c' := by injection hv with h1 h2 h3; exact ⟨h1, h3⟩
    obtain ⟨hH, hB, hg⟩ := holdsK_own (f := En.cells) (fun _ => rfl) h hn
    have hcon := AnyQ.slices_SortFunc Tryz.sortEnt 3 Tryz.isAgg33 Tryz.sizeOf33 En.cells (fun _ => rfl) (fun x v hv => by simp [En.cells] at hv; rcases hv with rfl | rfl | rfl <;> rfl) (fun x y => cmpB x.p y.p) (swoB En.p) 39 #[] g 0 c xs.toArray w eg (fun _ _ _ _ x y => cmpEn_c x y _) hH hg (by simp; omega)
    change Calls Tryz.prog 38 _ _ _ at hcon
    rw [List.size_toArray] at hcon
    have HH := Lib.hid hH
    have HO := Lib.hid h
    clear hH h hv
    go_enter Tryz.func18, Tryz.ntmps18
    go_wp2_with (go_at_call 38; refine hcon.mono ?_; rintro e w' ⟨rfl, d', n, os, hp, hs, rfl⟩)
    go_end0
    have hz : xs.toArray.size = xs.length := by simp
    rw [← hz] at hp
    have hd : d'.size = xs.length := by rw [← hz]; exact hp.1
    refine ⟨rfl, d'.toList, permIn_list hp, (sorted_list hd hs).imp (fun h => by rw [lt_cmpB] at h; exact h), slf_holdsK (fun _ => rfl) (holdsK_sortWorldK_c _ 3 w g 0 xs.toArray d' n os HH.out hg (by rw [hd, hz])) (Nat.lt_of_lt_of_le hg (size_sortWorldK_c _ 3 w g 0 n d' os)), own_sort (fun _ => rfl) HO.out hg hd (holdsK_sortWorldK_c _ 3 w g 0 xs.toArray d' n os HH.out hg (by rw [hd, hz])), below_sort hB hg⟩
end Go.Proofs.YtdhbdcmnbhjjaabGreatDoor
namespace Go.Proofs.YtdhbdcmnbhjjaabGreatDoor
open Go.RowKit
open Classical in
/-- What LayerOn tells. -/
noncomputable def lonB (l : List PM) (t : List PE) : Bool := decide (LOk l ∧ TOk t ∧ (onL l t).length ≤ 16)
noncomputable def lonL (l : List PM) (t : List PE) : List PE := if lonB l t then onL l t else []
theorem lon_bad {l : List PM} {t : List PE} (h : ¬ (LOk l ∧ TOk t)) : lonB l t = false := by
  unfold lonB; rw [decide_eq_false_iff_not]; exact fun h' => h ⟨h'.1, h'.2.1⟩
theorem lon_ok {l : List PM} {t : List PE} (h : LOk l) (h' : TOk t) : lonB l t = decide ((onL l t).length ≤ 16) := by
  unfold lonB; simp [h, h']
/-- What is kept of the tree. -/
def keptT (l : List PM) (t : List PE) : List PE := t.filter fun e => (atP PM.p l e.p).isNone && !hidesL l e.p
theorem keptT_snoc (l : List PM) (t : List PE) (e : PE) : keptT l (t ++ [e]) = keptT l t ++ if (atP PM.p l e.p).isNone && !hidesL l e.p then [e] else [] := by
  unfold keptT
  rw [List.filter_append]
  congr 1
  rw [List.filter_cons]
  split <;> simp_all
def onMk (m : Mk) : Option En := if m.k = 3 then none else some ⟨m.p, dirM m.pl, m.x⟩
theorem on_snoc (xs : List Mk) (k : Nat) (e : Mk) (he : xs[k]? = some e) (pre : List PE) (ms : List En) (h : ms.map En.pl = pre ++ (((xs.take k).map Mk.pl).filter fun m => decide (m.k ≠ 3)).map toE) :
    (ms ++ (onMk e).toList).map En.pl = pre ++ (((xs.take (k + 1)).map Mk.pl).filter fun m => decide (m.k ≠ 3)).map toE := by
  rw [take_ml xs k e he, List.filter_append, List.map_append, List.map_append, h, List.append_assoc]
  congr 2
  rw [List.filter_cons]
  unfold onMk
  by_cases h3 : e.k = 3
  · rw [if_pos h3, if_neg (by rw [show e.pl.k = e.k from rfl]; simp [h3])]; rfl
  · rw [if_neg h3, if_pos (by rw [show e.pl.k = e.k from rfl]; simp [h3])]; rfl
/-- An append of one struct, inside a region. -/
theorem op_app1 {P : Program} {o : Oper} {a : Act} {K : Act → World → Prop} {Q : Exit → Act → World → Prop} (s x : Operand) (t : TypeId)
    (ho : o.op = .call { callee := .builtin .append, args := #[s, x], argTypes := #[t, t] }) {e : TypeId} {size bytes : Nat} (E : Elt P t e size bytes)
    (base B : Nat) (w0 w : World) (cs : Array Value) (v : Value) (n : Nat) (xs : List Value) (hs : a.eval s = v) (hx : a.eval x = .slice (some ⟨w.heap.size, 0, none⟩) 1 1)
    (hown : w.ownsRow base e size v n xs) (hcs : cs.size = size) (h1 : ∀ u ∈ cs.toList, u.oneCell' = true) (hn : n ≤ 1000000) (hbase : base ≤ w.heap.size) (hB : Below B w0 w) (hBb : B ≤ base)
    (h : ∀ v' w', w'.ownsRow base e size v' (n + 1) (xs ++ cs.toList) → Below B w0 w' → (w.alloc (.cells cs e)).grownBy w' v.ownBlock → K (a.put o.dst v') w') : o.wp P a (w.alloc (.cells cs e)) K Q := by
  obtain ⟨i, z, hi, hz, hsz, hby, hzs⟩ := E.info
  have hsm := E.small
  refine wp_append_own _ s x t ho base e i z size bytes E.und hi hz hsz hby hzs E.pos v n xs hs (hown.alloc _) ⟨w.heap.size, 0, none⟩ 1 1 cs.toList hx (by simp [hcs]) ?_ h1 (by unfold maxLen; omega) ?_ (by simp; omega) ?_
  · intro j u hj
    have hc := cell_of_row _ _ j _ e (0, 0) (heap_alloc_new w (.cells cs e))
    have ha : (⟨w.heap.size, 0, none⟩ : Addr).add j = ⟨w.heap.size, j, none⟩ := by
      unfold Addr.add
      by_cases h0 : j = 0 <;> simp [h0]
    rw [ha, hc]
    simpa using hj
  · have : (n + 1) * bytes ≤ 1000001 * 64 := Nat.mul_le_mul (by omega) hsm
    omega
  · intro v' w' h2 h3 _
    refine h v' w' h2 ((hB.alloc (Nat.le_trans hBb hbase) _).grown h3 (by simp; omega) ?_) h3
    intro k hk
    rcases hown.2 with ⟨rfl, _⟩ | ⟨g, cap, cur, rfl, hg, _⟩
    · simp [Value.ownBlock] at hk
    · simp [Value.ownBlock] at hk; omega
theorem cell_gr {w w' : World} {own : Option Nat} {a : Addr} {v : Value} (hg : w.grownBy w' own) (h : w.cell? a = some v) (hne : own ≠ some a.block) : w'.cell? a = some v := by
  have hb := hg.block a.block (World.block_lt_of_cell? _ _ h) (Ne.symm hne)
  rw [← h]
  unfold World.cell?
  simp only [hb]
set_option maxRecDepth 100000 in
set_option maxHeartbeats 8000000 in
theorem layerOn_c (a a' : Option Addr) (c c' : Nat) (xs : List Mk) (ys : List En) (w : World) (hs : SlF Mk.cells w a xs) (hs' : SlF En.cells w a' ys) (hx : xs.length ≤ maxLen) (hy : ys.length ≤ maxLen) (hz : ∀ e ∈ xs, e.p.size ≤ 2000000 ∧ e.x.size ≤ 2000000) (hz' : ∀ e ∈ ys, e.p.size ≤ 2000000 ∧ e.x.size ≤ 2000000) :
    Calls Tryz.prog 5 #[.slice a xs.length c, .slice a' ys.length c'] w (MadeEb (lonL (xs.map Mk.pl) (ys.map En.pl)) (lonB (xs.map Mk.pl) (ys.map En.pl)) w) := by
  have HE := eltEn
  have hm2 : (2000000 : Nat) ≤ maxLen := by unfold maxLen; omega
  have hb := Below.refl w.heap.size w
  obtain ⟨r, hr⟩ := lok_dec xs
  obtain ⟨r', hr'⟩ := tok_dec ys
  have HT := Lib.hid (layerOk_c a c xs r (Lib.hid hr) w hs hx hz)
  have HT' := Lib.hid (fun W (h : SlF En.cells W a' ys) => treeOk_c a' c' ys r' (Lib.hid hr') W h hy (fun e he => ⟨Nat.le_trans (hz' e he).1 hm2, Nat.le_trans (hz' e he).2 hm2⟩))
  obtain ⟨L, hL⟩ : ∃ L, lonL (xs.map Mk.pl) (ys.map En.pl) = L := ⟨_, rfl⟩
  obtain ⟨B, hB⟩ : ∃ B, lonB (xs.map Mk.pl) (ys.map En.pl) = B := ⟨_, rfl⟩
  have hbd : ¬ (r = true ∧ r' = true) → B = false := fun h => by rw [← hB]; exact lon_bad fun h' => h ⟨hr.2 h'.1, hr'.2 h'.2⟩
  have HBD := Lib.hid hbd
  have HLD : Hid (¬ (r = true ∧ r' = true) → [] = L) := fun h => by rw [← hL]; unfold lonL; rw [hB, hbd h]; rfl
  rw [hL, hB]
  have HR := Lib.hid hr
  have HR' := Lib.hid hr'
  have HS := Lib.hid hs
  have HS' := Lib.hid hs'
  have HLL := Lib.hid hL
  have HBB := Lib.hid hB
  have HZ := Lib.hid hz
  have HZ' := Lib.hid hz'
  have GA := fun (q : ByteArray) (o : Option Mk) (ho : Hid (getM xs q = o)) W (h : SlF Mk.cells W a xs) => Lib.hid (markAt_c a c xs q o ho W h hx)
  have GH := fun (q : ByteArray) (hq : q.size ≤ 2000000) (r : Bool) (hr : Hid (hidesL (xs.map Mk.pl) q.data.toList = r)) W (h : SlF Mk.cells W a xs) => Lib.hid (hides_c a c xs q r hr W h hx hq hz)
  obtain ⟨n, hn⟩ : ∃ n, xs.length = n := ⟨_, rfl⟩
  obtain ⟨n', hn'⟩ : ∃ n, ys.length = n := ⟨_, rfl⟩
  have HN := Lib.hid hn
  have HN' := Lib.hid hn'
  have HALL : Hid (xs.take n = xs) := by rw [Hid, ← hn, List.take_length]
  have HALL' : Hid (ys.take n' = ys) := by rw [Hid, ← hn', List.take_length]
  rw [hn] at HT GA GH ⊢
  rw [hn'] at HT' ⊢
  have HGA := Lib.hid GA
  have HGH := Lib.hid GH
  clear hr hr' hs hs' hL hB hbd hz hz' hn hn' GA GH hm2
  cases r with
  | false =>
    go_enter Tryz.func5, Tryz.ntmps5
    go_wp2_with fail
    refine (HT.out).mono ?_; rintro e W ⟨rfl, hq⟩; replace hb := chn hb hq; clear hq
    go_wp2
    refine bodyPost_ret (v := .tuple #[.slice none 0 0, .bool false]) (by simp [results, Tryz.results5, go_sem]) rfl ⟨none, 0, [], by rw [HBD.out (by simp)]; rfl, HLD.out (by simp), World.ownsRow_nil _ _ _ _, hb⟩
  | true =>
  cases r' with
  | false =>
    go_enter Tryz.func5, Tryz.ntmps5
    go_wp2_with fail
    refine (HT.out).mono ?_; rintro e W ⟨rfl, hq⟩; replace hb := chn hb hq; clear hq
    go_wp2_with fail
    refine (HT'.out _ (HS'.out.below hb)).mono ?_; rintro e W ⟨rfl, hq⟩; replace hb := chn hb hq; clear hq
    go_wp2
    refine bodyPost_ret (v := .tuple #[.slice none 0 0, .bool false]) (by simp [results, Tryz.results5, go_sem]) rfl ⟨none, 0, [], by rw [HBD.out (by simp)]; rfl, HLD.out (by simp), World.ownsRow_nil _ _ _ _, hb⟩
  | true =>
    have HLX := Lib.hid (HR.out.1 rfl)
    have HTY := Lib.hid (HR'.out.1 rfl)
    have hx32 : n ≤ 32 := by have := HLX.out.most; rw [List.length_map, HN.out] at this; exact this
    have hy16 : n' ≤ 16 := by have := HTY.out.most; rw [List.length_map, HN'.out] at this; exact this
    clear HR HR' HBD HLD hx hy
    go_enter Tryz.func5, Tryz.ntmps5
    go_wp2_with fail
    refine (HT.out).mono ?_; rintro e W ⟨rfl, hq⟩; replace hb := chn hb hq; clear hq
    go_wp2_with fail
    refine (HT'.out _ (HS'.out.below hb)).mono ?_; rintro e W ⟨rfl, hq⟩; replace hb := chn hb hq; clear hq
    have HB0 := Lib.hid hb
    clear hb
    go_wp2
    go_loopw [6, 23] (fun v i wr => ∃ (k : Nat) (ms : List En), k ≤ n' ∧ ms.length ≤ k ∧ i = .int .i64 k ∧ ms.map En.pl = keptT (xs.map Mk.pl) ((ys.take k).map En.pl) ∧ wr.ownsRow w.heap.size 33 3 v ms.length (ms.flatMap En.cells) ∧ Below w.heap.size w wr) (fun _ i _ => n' - (intOf i).toNat)
    case atStart => exact ⟨0, [], Nat.zero_le _, Nat.zero_le _, rfl, rfl, World.ownsRow_nil _ _ _ _, HB0.out⟩
    case round =>
      obtain ⟨k, ms, hk, hml, rfl, hms, hown, hb⟩ := hrel
      have HMS := Lib.hid hms
      clear hms
      by_cases hlt : k < n'
      · obtain ⟨e, hee⟩ : ∃ e, ys[k]? = some e := ⟨_, List.getElem?_eq_getElem (by rw [HN'.out]; exact hlt)⟩
        have hzz := HZ'.out e (List.mem_of_getElem? hee)
        have hsx := HS.out.below hb
        have hsy := HS'.out.below hb
        obtain ⟨b', off', rfl, _⟩ := hsy.addr (by rw [HN'.out]; omega)
        obtain ⟨d0, d1, d2⟩ := en_at hsy k e hee
        have HSN : Hid (keptT (xs.map Mk.pl) ((ys.take (k + 1)).map En.pl) = keptT (xs.map Mk.pl) ((ys.take k).map En.pl) ++ if ((getM xs e.p).map Mk.pl).isNone && !hidesL (xs.map Mk.pl) e.p.data.toList then [e.pl] else []) := by
          rw [Hid, take_pl ys k e hee, keptT_snoc]; show _ ++ (if (atP PM.p (xs.map Mk.pl) e.p.data.toList).isNone && _ then _ else _) = _; rw [getM_pl]; rfl
        obtain ⟨o, ho⟩ : ∃ o, Hid (getM xs e.p = o) := ⟨_, rfl⟩
        obtain ⟨r, hr⟩ : ∃ r, Hid (hidesL (xs.map Mk.pl) e.p.data.toList = r) := ⟨_, rfl⟩
        rw [ho.out, hr.out] at HSN
        obtain ⟨ep, ed, ex⟩ := e
        clear hee
        have i0 : (0 : Int) ≤ (k : Int) := by omega
        have i1 : (k : Int) < (n' : Int) := by omega
        have q0 := new_cell wr #[.string ep, .bool ed, .string ex] 33 0 (.string ep) rfl
        have q1 := new_cell wr #[.string ep, .bool ed, .string ex] 33 1 (.bool ed) rfl
        have q2 := new_cell wr #[.string ep, .bool ed, .string ex] 33 2 (.string ex) rfl
        replace hown := own_below hown (bellow_alloc wr (.cells #[.string ep, .bool ed, .string ex] 33))
        replace hb := hb.alloc hb.size (.cells #[.string ep, .bool ed, .string ex] 33); replace hsx := SlF.below hsx (bellow_alloc _ (.cells #[.string ep, .bool ed, .string ex] 33)); replace hsy := SlF.below hsy (bellow_alloc _ (.cells #[.string ep, .bool ed, .string ex] 33)); 
        cases o with
        | some u =>
          have HSM : Hid (ms.map En.pl = keptT (xs.map Mk.pl) ((ys.take (k + 1)).map En.pl)) := by rw [Hid, HSN.out, HMS.out]; simp
          go_wp2_with fail
          refine ((HGA.out ep (some u) ho _ hsx).out).mono ?_; rintro e W ⟨rfl, hq⟩; replace hb := chn hb hq; replace hsx := SlF.below hsx hq; replace hsy := SlF.below hsy hq; replace hown := own_below hown hq; clear hq
          go_wp2
          go_roundw
          case rel => exact ⟨k + 1, ms, by omega, by omega, by go_num, HSM.out, own_below hown (bellow_alloc _ _), hb.alloc hb.size _⟩
          case measure => simp [intOf]; omega
        | none =>
          go_wp2_with fail
          refine ((HGA.out ep none ho _ hsx).out).mono ?_; rintro e W ⟨rfl, hq⟩; replace hb := chn hb hq; replace hsx := SlF.below hsx hq; replace hsy := SlF.below hsy hq; replace hown := own_below hown hq; replace q0 := keepc hq q0; replace q1 := keepc hq q1; replace q2 := keepc hq q2; clear hq
          replace hown := own_below hown (bellow_alloc W (.cells #[.string ⟨#[]⟩, .int .i64 0, .string ⟨#[]⟩] 30))
          replace hb := hb.alloc hb.size (.cells #[.string ⟨#[]⟩, .int .i64 0, .string ⟨#[]⟩] 30); replace hsx := SlF.below hsx (bellow_alloc _ (.cells #[.string ⟨#[]⟩, .int .i64 0, .string ⟨#[]⟩] 30)); replace hsy := SlF.below hsy (bellow_alloc _ (.cells #[.string ⟨#[]⟩, .int .i64 0, .string ⟨#[]⟩] 30)); replace q0 := keepc (bellow_alloc _ (.cells #[.string ⟨#[]⟩, .int .i64 0, .string ⟨#[]⟩] 30)) q0; replace q1 := keepc (bellow_alloc _ (.cells #[.string ⟨#[]⟩, .int .i64 0, .string ⟨#[]⟩] 30)) q1; replace q2 := keepc (bellow_alloc _ (.cells #[.string ⟨#[]⟩, .int .i64 0, .string ⟨#[]⟩] 30)) q2; 
          go_wp2_with fail
          refine ((HGH.out ep hzz.1 r hr _ hsx).out).mono ?_; rintro e W ⟨rfl, hq⟩; replace hb := chn hb hq; replace hsx := SlF.below hsx hq; replace hsy := SlF.below hsy hq; replace hown := own_below hown hq; replace q0 := keepc hq q0; replace q1 := keepc hq q1; replace q2 := keepc hq q2; clear hq
          cases r with
          | true =>
            have HSM : Hid (ms.map En.pl = keptT (xs.map Mk.pl) ((ys.take (k + 1)).map En.pl)) := by rw [Hid, HSN.out, HMS.out]; simp
            go_wp2
            go_roundw
            case rel => exact ⟨k + 1, ms, by omega, by omega, by go_num, HSM.out, hown, hb⟩
            case measure => simp [intOf]; omega
          | false =>
            have HSM : Hid ((ms ++ [(⟨ep, ed, ex⟩ : En)]).map En.pl = keptT (xs.map Mk.pl) ((ys.take (k + 1)).map En.pl)) := by rw [Hid, HSN.out, List.map_append, HMS.out]; simp
            go_wp2_with (at_builtin; go_must (refine wp_app1 (by rfl) _ _ 24 (by rfl) HE w.heap.size w.heap.size w _ #[.string ep, .bool ed, .string ex] _ _ _ (by rfl) (by rfl) hown (by rfl) (by simp [Value.oneCell']) (by omega) hb.size hb (Nat.le_refl _) ?_); intro v' w1 hown1 hbel1 _ _)
            go_roundw
            case rel => exact ⟨k + 1, ms ++ [⟨ep, ed, ex⟩], by omega, by simp; omega, by go_num, HSM.out, by rw [← flat_app]; simpa using hown1, hbel1⟩
            case measure => simp [intOf]; omega
      · obtain rfl : k = n' := by omega
        have HMK : Hid (ms.map En.pl = keptT (xs.map Mk.pl) (ys.map En.pl)) := by rw [Hid, HMS.out, HALL'.out]
        have HOWN := Lib.hid hown
        have HBK := Lib.hid hb
        have HML := Lib.hid hml
        clear hown hb hml HMS
        go_wp2
        go_loopw [6, 50] (fun v i wr => ∃ (j : Nat) (ns : List En), j ≤ n ∧ ns.length ≤ 16 + j ∧ i = .int .i64 j ∧ ns.map En.pl = keptT (xs.map Mk.pl) (ys.map En.pl) ++ (((xs.take j).map Mk.pl).filter fun m => decide (m.k ≠ 3)).map toE ∧ wr.ownsRow w.heap.size 33 3 v ns.length (ns.flatMap En.cells) ∧ Below w.heap.size w wr) (fun _ i _ => n - (intOf i).toNat)
        case atStart => exact ⟨0, ms, Nat.zero_le _, by have := HML.out; omega, rfl, by rw [HMK.out]; simp, HOWN.out, HBK.out⟩
        case round =>
          obtain ⟨j, ns, hj, hnl, rfl, hns, hown, hb⟩ := hrel
          have HNS := Lib.hid hns
          clear hns
          by_cases hlt2 : j < n
          · obtain ⟨e, hee⟩ : ∃ e, xs[j]? = some e := ⟨_, List.getElem?_eq_getElem (by rw [HN.out]; exact hlt2)⟩
            have hsx := HS.out.below hb
            obtain ⟨b, off, rfl, _⟩ := hsx.addr (by rw [HN.out]; omega)
            obtain ⟨d0, d1, d2⟩ := mk_at hsx j e hee
            have HSN := Lib.hid (on_snoc xs j e hee _ ns HNS.out)
            obtain ⟨r, hr⟩ : ∃ r, dirM e.pl = r := ⟨_, rfl⟩
            have HRR := Lib.hid hr
            obtain ⟨ep, ek, ex⟩ := e
            have i0 : (0 : Int) ≤ (j : Int) := by omega
            have i1 : (j : Int) < (n : Int) := by omega
            have q0 := new_cell wr #[.string ep, .int .i64 ek, .string ex] 30 0 (.string ep) rfl
            have q1 := new_cell wr #[.string ep, .int .i64 ek, .string ex] 30 1 (.int .i64 ek) rfl
            have q2 := new_cell wr #[.string ep, .int .i64 ek, .string ex] 30 2 (.string ex) rfl
            clear hee
            by_cases h3 : ek = 3
            · have n3 : (ek != 3) = false := by simp [h3]
              have HSM : Hid (ns.map En.pl = keptT (xs.map Mk.pl) (ys.map En.pl) ++ (((xs.take (j + 1)).map Mk.pl).filter fun m => decide (m.k ≠ 3)).map toE) := by
                have h := HSN.out; unfold onMk at h; rw [if_pos h3, Option.toList_none, List.append_nil] at h; exact h
              clear h3 hr
              go_wp2
              go_roundw
              case rel => exact ⟨j + 1, ns, by omega, by omega, by go_num, HSM.out, own_below hown (bellow_alloc _ _), hb.alloc hb.size _⟩
              case measure => simp [intOf]; omega
            · have n3 : (ek != 3) = true := by rw [bne_iff_ne]; exact h3
              have HSM : Hid ((ns ++ [(⟨ep, r, ex⟩ : En)]).map En.pl = keptT (xs.map Mk.pl) (ys.map En.pl) ++ (((xs.take (j + 1)).map Mk.pl).filter fun m => decide (m.k ≠ 3)).map toE) := by
                have h := HSN.out; unfold onMk at h; rw [if_neg h3, hr] at h; exact h
              obtain ⟨v1, v2, rfl⟩ := own_shape hown
              have HNE : Hid ((Value.slice v1 ns.length v2).ownBlock ≠ some wr.heap.size) := fun h => Nat.lt_irrefl _ (hown.lt _ h).2
              replace hown := own_below hown (bellow_alloc wr (.cells #[.string ep, .int .i64 ek, .string ex] 30))
              replace hb := hb.alloc hb.size (.cells #[.string ep, .int .i64 ek, .string ex] 30); 
              clear h3 hr hsx
              go_wp2_with fail
              refine wp_region_held_drew (S := fun w' => w'.cell? ⟨wr.heap.size, 0, none⟩ = some (.string ep) ∧ w'.cell? ⟨wr.heap.size, 1, none⟩ = some (.int .i64 ek) ∧ w'.cell? ⟨wr.heap.size, 2, none⟩ = some (.string ex)) (by kernel_rfl) (⟨keepc (below_drew _) q0, keepc (below_drew _) q1, keepc (below_drew _) q2⟩) (fun hHeld => ?_)
              refine tk (i := 0) (d := (some 57)) (v := ?_) rfl rfl (by kernel_rfl) (by kernel_rfl) (by kernel_rfl) (fun _ _ _ h => h) (Or.inl ⟨by rfl, ?_⟩) hHeld ?_
              rotate_left
              · intro w hSw; obtain ⟨z0, z1, z2⟩ := hSw; go_simp <;> with_reducible rfl
              (try simp only [Act.put, List.setIfInBounds_toArray, List.set_cons_zero, List.set_cons_succ])
              refine tk (i := 1) (d := (some 58)) (v := ?_) rfl rfl (by kernel_rfl) (by kernel_rfl) (by kernel_rfl) (fun _ _ _ h => h) (Or.inl ⟨by rfl, ?_⟩) hHeld ?_
              rotate_left
              · intro w hSw; obtain ⟨z0, z1, z2⟩ := hSw; go_simp <;> with_reducible rfl
              (try simp only [Act.put, List.setIfInBounds_toArray, List.set_cons_zero, List.set_cons_succ])
              refine tk (i := 2) (d := (some 59)) (v := ?_) rfl rfl (by kernel_rfl) (by kernel_rfl) (by kernel_rfl) (fun _ _ _ h => h) (Or.inl ⟨by rfl, ?_⟩) hHeld ?_
              rotate_left
              · intro w hSw; obtain ⟨z0, z1, z2⟩ := hSw; go_simp <;> with_reducible rfl
              (try simp only [Act.put, List.setIfInBounds_toArray, List.set_cons_zero, List.set_cons_succ])
              refine tk (i := 3) (d := (some 60)) (v := ?_) rfl rfl (by kernel_rfl) (by kernel_rfl) (by kernel_rfl) (fun _ _ _ h => h) (Or.inl ⟨by rfl, ?_⟩) hHeld ?_
              rotate_left
              · intro w hSw; obtain ⟨z0, z1, z2⟩ := hSw; go_simp <;> with_reducible rfl
              (try simp only [Act.put, List.setIfInBounds_toArray, List.set_cons_zero, List.set_cons_succ])
              refine tk (i := 5) (d := (some 62)) (v := ?_) rfl rfl (by kernel_rfl) (by kernel_rfl) (by kernel_rfl) (fun _ _ _ h => h) (Or.inl ⟨by rfl, ?_⟩) hHeld ?_
              rotate_left
              · intro w hSw; obtain ⟨z0, z1, z2⟩ := hSw; go_simp <;> with_reducible rfl
              (try simp only [Act.put, List.setIfInBounds_toArray, List.set_cons_zero, List.set_cons_succ])
              refine tk (i := 6) (d := (some 63)) (v := ?_) rfl rfl (by kernel_rfl) (by kernel_rfl) (by kernel_rfl) (fun _ _ _ h => h) (Or.inl ⟨by rfl, ?_⟩) hHeld ?_
              rotate_left
              · intro w hSw; obtain ⟨z0, z1, z2⟩ := hSw; go_simp <;> with_reducible rfl
              (try simp only [Act.put, List.setIfInBounds_toArray, List.set_cons_zero, List.set_cons_succ])
              refine wpAnyH_ready (rs := [4]) (by kernel_rfl) (by simp) ?_
              refine AllReadyH.cons rfl (fun K hK => ?_) AllReadyH.nil
              go_simp
              refine (isDir_c ⟨ep, ek, ex⟩ r HRR _).mono ?_; rintro e W ⟨rfl,hq⟩
              go_simp
              refine hK.out _ _ (⟨keepc hq hHeld.1, keepc hq hHeld.2.1, keepc hq hHeld.2.2⟩) (fun h => ?_)
              clear hK K; replace hHeld := h; clear h
              (try simp only [Act.put, List.setIfInBounds_toArray, List.set_cons_zero, List.set_cons_succ])
              have hb2 := chn hb ((below_drew _).trans hq)
              have how2 := own_below (own_below hown (below_drew _)) hq
              refine tk (i := 7) (d := (some 64)) (v := ?_) rfl rfl (by kernel_rfl) (by kernel_rfl) (by kernel_rfl) (fun _ _ _ h => h) (Or.inl ⟨by rfl, ?_⟩) hHeld ?_
              rotate_left
              · intro w hSw; obtain ⟨z0, z1, z2⟩ := hSw; go_simp <;> with_reducible rfl
              (try simp only [Act.put, List.setIfInBounds_toArray, List.set_cons_zero, List.set_cons_succ])
              refine wpAnyH_ready (rs := [8]) (by kernel_rfl) (by simp) ?_
              refine AllReadyH.cons rfl (fun K hK => ?_) AllReadyH.nil
              go_simp
              refine hK.out _ _ (⟨keepc (bellow_alloc _ _) hHeld.1, keepc (bellow_alloc _ _) hHeld.2.1, keepc (bellow_alloc _ _) hHeld.2.2⟩) (fun h => ?_)
              clear hK K; replace hHeld := h; clear h
              (try simp only [Act.put, List.setIfInBounds_toArray, List.set_cons_zero, List.set_cons_succ])
              refine wpAnyH_ready (rs := [9]) (by kernel_rfl) (by simp) ?_
              refine AllReadyH.cons rfl (fun K hK => ?_) AllReadyH.nil
              rw [if_pos (by kernel_rfl)]
              refine op_app1 _ _ 24 (by rfl) HE w.heap.size w.heap.size w _ #[.string ep, .bool r, .string ex] _ _ _ (by rfl) (by rfl) how2 (by rfl) (by simp [Value.oneCell']) (by omega) hb2.size hb2 (Nat.le_refl _) ?_; intro v' w1 hown1 hbel1 hgr
              refine hK.out _ _ (⟨cell_gr hgr hHeld.1 HNE.out, cell_gr hgr hHeld.2.1 HNE.out, cell_gr hgr hHeld.2.2 HNE.out⟩) (fun h => ?_)
              clear hK K; replace hHeld := h; clear h
              (try simp only [Act.put, List.setIfInBounds_toArray])
              refine tk (i := 10) (d := (some 6)) (v := ?_) rfl rfl (by kernel_rfl) (by kernel_rfl) (by kernel_rfl) (fun _ _ _ h => h) (Or.inl ⟨by rfl, ?_⟩) hHeld ?_
              rotate_left
              · intro w hSw; obtain ⟨z0, z1, z2⟩ := hSw; go_simp <;> with_reducible rfl
              (try simp only [Act.put])
              refine wpAnyH_done (by kernel_rfl) ?_ _
              go_wp2
              go_roundw
              case rel => exact ⟨j + 1, ns ++ [⟨ep, r, ex⟩], by omega, by simp; omega, by go_num, HSM.out, by rw [← flat_app]; simpa using hown1, hbel1⟩
              case measure => simp [intOf]; omega
          · obtain rfl : j = n := by omega
            have HRAW : Hid (ns.map En.pl = onRaw (xs.map Mk.pl) (ys.map En.pl)) := by rw [Hid, HNS.out, HALL.out]; rfl
            have HLEN : Hid (ns.length = (onL (xs.map Mk.pl) (ys.map En.pl)).length) := by
              rw [Hid, ← on_raw_len HLX.out.ord HTY.out.ordP, ← HRAW.out, List.length_map]
            have HBE : Hid (decide (ns.length ≤ 16) = B) := by rw [Hid, ← HBB.out, lon_ok HLX.out HTY.out, HLEN.out]
            by_cases h16 : 16 < ns.length
            · have hg : (16 : Int) < (ns.length : Int) := by omega
              obtain rfl : B = false := by rw [← HBE.out, decide_eq_false_iff_not]; omega
              have HL0 : Hid ([] = L) := by rw [Hid, ← HLL.out]; unfold lonL; rw [HBB.out]; rfl
              obtain ⟨v1, v2, rfl⟩ := own_shape hown
              go_wp2
              refine bodyPost_ret (v := .tuple #[.slice none 0 0, .bool false]) (by simp [results, Tryz.results5, go_sem]) rfl ⟨none, 0, [], rfl, HL0.out, World.ownsRow_nil _ _ _ _, hb⟩
            · have hg : decide ((16 : Int) < (ns.length : Int)) = false := by rw [decide_eq_false_iff_not]; omega
              obtain rfl : B = true := by rw [← HBE.out, decide_eq_true_iff]; omega
              have HL1 : Hid (onL (xs.map Mk.pl) (ys.map En.pl) = L) := by rw [Hid, ← HLL.out]; unfold lonL; rw [HBB.out]; rfl
              obtain ⟨v1, v2, rfl⟩ := own_shape hown
              go_wp2_with fail
              refine (sortEn_c _ w.heap.size v1 v2 ns hown (by omega)).mono ?_; rintro e W2 ⟨rfl, zs, hp, hso, _, hz2, hq⟩
              have hzl : ns.length = zs.length := hp.length_eq.symm
              have HEQ : Hid (zs.map En.pl = L) := by
                rw [Hid, ← HL1.out]
                refine on_of_raw HLX.out.ord HTY.out.ordP (by rw [← HRAW.out]; exact hp.map _) ?_
                rw [List.pairwise_map]
                exact hso
              go_wp2
              refine bodyPost_ret (v := .tuple #[.slice v1 zs.length v2, .bool true]) (by simp [results, Tryz.results5, go_sem]) rfl ⟨v1, v2, zs, rfl, HEQ.out, hz2, hb.trans hq⟩
end Go.Proofs.YtdhbdcmnbhjjaabGreatDoor
namespace Go.Proofs.YtdhbdcmnbhjjaabGreatDoor
open Go.RowKit
/-- What the reference keeps of the tree. -/
def freeT (l : List PM) (t : List PE) : List PE := t.filter fun e => !hidesL l e.p
theorem freeT_snoc (l : List PM) (xs : List En) (k : Nat) (e : En) (he : xs[k]? = some e) (ms : List En) (h : ms.map En.pl = freeT l ((xs.take k).map En.pl)) :
    (ms ++ if hidesL l e.p.data.toList = true then [] else [e]).map En.pl = freeT l ((xs.take (k + 1)).map En.pl) := by
  rw [take_pl xs k e he]
  unfold freeT at *
  rw [List.filter_append, List.map_append, h]
  congr 1
  rw [List.filter_cons, show e.pl.p = e.p.data.toList from rfl]
  cases hidesL l e.p.data.toList <;> rfl
theorem freeT_len (l : List PM) (xs : List En) (k : Nat) (ms : List En) (h : ms.map En.pl = freeT l ((xs.take k).map En.pl)) : ms.length ≤ k := by
  have h1 := congrArg List.length h
  have h2 := List.length_filter_le (fun e : PE => !hidesL l e.p) ((xs.take k).map En.pl)
  unfold freeT at h1
  simp only [List.length_map, List.length_take] at h1 h2
  omega
/-- The rest of what the reference makes. -/
def laidT (l : List PM) (pre : List PE) : List PE := ((l.filter fun m => decide (m.k ≠ 3)).map toE).foldl (putP PE.p) pre
theorem laidT_snoc (xs : List Mk) (k : Nat) (e : Mk) (he : xs[k]? = some e) (pre : List PE) : laidT ((xs.take (k + 1)).map Mk.pl) pre = if e.k = 3 then laidT ((xs.take k).map Mk.pl) pre else putP PE.p (laidT ((xs.take k).map Mk.pl) pre) (toE e.pl) := by
  unfold laidT
  rw [take_ml xs k e he, List.filter_append, List.map_append, List.foldl_append, List.filter_cons, show e.pl.k = e.k from rfl]
  by_cases h3 : e.k = 3
  · rw [if_pos h3, if_neg (by simp [h3])]; rfl
  · rw [if_neg h3, if_pos (by simp [h3])]; rfl
set_option maxRecDepth 100000 in
set_option maxHeartbeats 8000000 in
theorem l3On_c (a a' : Option Addr) (c c' : Nat) (xs : List Mk) (ys : List En) (w : World) (hs : SlF Mk.cells w a xs) (hs' : SlF En.cells w a' ys) (hl : LOk (xs.map Mk.pl)) (ht : TOk (ys.map En.pl)) (hz : ∀ e ∈ xs, e.p.size ≤ 2000000 ∧ e.x.size ≤ 2000000) (hz' : ∀ e ∈ ys, e.p.size ≤ 2000000 ∧ e.x.size ≤ 2000000) :
    Calls Tryz.prog 21 #[.slice a xs.length c, .slice a' ys.length c'] w (MadeEl (onL (xs.map Mk.pl) (ys.map En.pl)) w) := by
  have HE := eltEn
  have hx32 : xs.length ≤ 32 := by have := hl.most; rw [List.length_map] at this; exact this
  have hy16 : ys.length ≤ 16 := by have := ht.most; rw [List.length_map] at this; exact this
  have hxm : xs.length ≤ maxLen := by unfold maxLen; omega
  have GH := fun (q : ByteArray) (hp : pathOkL q.data.toList = true) (hq : q.size ≤ 2000000) (r : Bool) (hr : Hid (hidesL (xs.map Mk.pl) q.data.toList = r)) W (h : SlF Mk.cells W a xs) => Lib.hid (l3Hides_c a c xs q r (by rw [Hid, hideQ_eq hp (fun m hm => hl.pth hm)]; exact hr) W h hxm hq hz)
  have HPY : Hid (∀ e ∈ ys, pathOkL e.p.data.toList = true) := fun e he => ht.pth (e := e.pl) (List.mem_map_of_mem he)
  have HMK : Hid (∀ e ∈ xs, markOkL e.pl = true) := fun e he => hl.mks e.pl (List.mem_map_of_mem he)
  have HS := Lib.hid hs
  have HS' := Lib.hid hs'
  have HZ := Lib.hid hz
  have HZ' := Lib.hid hz'
  obtain ⟨n, hn⟩ : ∃ n, xs.length = n := ⟨_, rfl⟩
  obtain ⟨n', hn'⟩ : ∃ n, ys.length = n := ⟨_, rfl⟩
  have HN := Lib.hid hn
  have HN' := Lib.hid hn'
  have HALL : Hid (xs.take n = xs) := by rw [Hid, ← hn, List.take_length]
  have HALL' : Hid (ys.take n' = ys) := by rw [Hid, ← hn', List.take_length]
  rw [hn] at hx32 GH ⊢
  rw [hn'] at hy16 ⊢
  have HGH := Lib.hid GH
  clear hs hs' hz hz' hn hn' GH hxm hl ht
  go_enter Tryz.func21, Tryz.ntmps21
  go_wp2
  go_loopw [5, 6] (fun v i wr => ∃ (k : Nat) (ms : List En), k ≤ n' ∧ i = .int .i64 k ∧ ms.map En.pl = freeT (xs.map Mk.pl) ((ys.take k).map En.pl) ∧ v.ownBlock ≠ none ∧ wr.ownsRow w.heap.size 33 3 v ms.length (ms.flatMap En.cells) ∧ Below w.heap.size w wr) (fun _ i _ => n' - (intOf i).toNat)
  case atStart => exact ⟨0, [], Nat.zero_le _, rfl, rfl, by simp [Value.ownBlock], World.ownsRow_lit w #[] 0 (Nat.le_refl _) (Nat.zero_le _) rfl, bellow_alloc _ _⟩
  case round =>
    obtain ⟨k, ms, hk, rfl, hms, hvn, hown, hb⟩ := hrel
    have HMS := Lib.hid hms
    have hml := freeT_len _ _ _ _ hms
    have HVN := Lib.hid hvn
    clear hms hvn
    by_cases hlt : k < n'
    · obtain ⟨e, hee⟩ : ∃ e, ys[k]? = some e := ⟨_, List.getElem?_eq_getElem (by rw [HN'.out]; exact hlt)⟩
      have hzz := HZ'.out e (List.mem_of_getElem? hee)
      have hpp := HPY.out e (List.mem_of_getElem? hee)
      have hsx := HS.out.below hb
      have hsy := HS'.out.below hb
      obtain ⟨b', off', rfl, _⟩ := hsy.addr (by rw [HN'.out]; omega)
      obtain ⟨d0, d1, d2⟩ := en_at hsy k e hee
      have HSN := Lib.hid (freeT_snoc (xs.map Mk.pl) ys k e hee ms HMS.out)
      obtain ⟨r, hr⟩ : ∃ r, hidesL (xs.map Mk.pl) e.p.data.toList = r := ⟨_, rfl⟩
      have HR := Lib.hid hr
      rw [hr] at HSN
      obtain ⟨ep, ed, ex⟩ := e
      clear hee hr hsy
      have i0 : (0 : Int) ≤ (k : Int) := by omega
      have i1 : (k : Int) < (n' : Int) := by omega
      go_wp2_with fail
      refine ((HGH.out ep hpp hzz.1 r HR _ hsx).out).mono ?_; rintro e W ⟨rfl, hq⟩; replace hb := chn hb hq; replace hsx := SlF.below hsx hq; replace hown := own_below hown hq; replace d0 := keepc hq d0; replace d1 := keepc hq d1; replace d2 := keepc hq d2; clear hq
      cases r with
      | true =>
        have HSM : Hid (ms.map En.pl = freeT (xs.map Mk.pl) ((ys.take (k + 1)).map En.pl)) := by
          have h := HSN.out; rw [if_pos rfl, List.append_nil] at h; exact h
        go_wp2
        go_roundw
        case rel => exact ⟨k + 1, ms, by omega, by go_num, HSM.out, HVN.out, hown, hb⟩
        case measure => simp [intOf]; omega
      | false =>
        have HSM : Hid ((ms ++ [(⟨ep, ed, ex⟩ : En)]).map En.pl = freeT (xs.map Mk.pl) ((ys.take (k + 1)).map En.pl)) := HSN
        go_wp2_with (at_builtin; go_must (refine wp_app1 (by rfl) _ _ 24 (by rfl) HE w.heap.size w.heap.size w _ #[.string ep, .bool ed, .string ex] _ _ _ (by rfl) (by rfl) hown (by rfl) (by simp [Value.oneCell']) (by omega) hb.size hb (Nat.le_refl _) ?_); intro v' w1 hown1 hbel1 _ _)
        go_roundw
        case rel => exact ⟨k + 1, ms ++ [⟨ep, ed, ex⟩], by omega, by go_num, HSM.out, by rcases hown1.2 with ⟨rfl, h0⟩ | ⟨g, cap, cur, rfl, _⟩ <;> simp [Value.ownBlock] at *, by rw [← flat_app]; simpa using hown1, hbel1⟩
        case measure => simp [intOf]; omega
    · obtain rfl : k = n' := by omega
      have HMK2 : Hid (ms.map En.pl = freeT (xs.map Mk.pl) (ys.map En.pl)) := by rw [Hid, HMS.out, HALL'.out]
      have HOWR := Lib.hid (ownRe_of hown HVN.out)
      have HBK := Lib.hid hb
      have HML := Lib.hid hml
      clear hown hb hml HMS HVN
      go_wp2
      go_loopw [5, 7] (fun v i wr => ∃ (j : Nat) (ns : List En), j ≤ n ∧ ns.length ≤ 16 + j ∧ i = .int .i64 j ∧ ns.map En.pl = laidT ((xs.take j).map Mk.pl) (freeT (xs.map Mk.pl) (ys.map En.pl)) ∧ OwnRe wr w.heap.size v ns ∧ Below w.heap.size w wr) (fun _ i _ => n - (intOf i).toNat)
      case atStart => exact ⟨0, ms, Nat.zero_le _, by have := HML.out; omega, rfl, HMK2.out, HOWR.out, HBK.out⟩
      case round =>
        obtain ⟨j, ns, hj, hnl, rfl, hns, hown, hb⟩ := hrel
        have HNS := Lib.hid hns
        clear hns
        by_cases hlt2 : j < n
        · obtain ⟨e, hee⟩ : ∃ e, xs[j]? = some e := ⟨_, List.getElem?_eq_getElem (by rw [HN.out]; exact hlt2)⟩
          have hmk := HMK.out e (List.mem_of_getElem? hee)
          have hkk := markOk_kind hmk
          have hk1 : 1 ≤ e.k := hkk.1
          have hk4 : e.k ≤ 4 := hkk.2
          have hsx := HS.out.below hb
          obtain ⟨b, off, rfl, _⟩ := hsx.addr (by rw [HN.out]; omega)
          obtain ⟨d0, d1, d2⟩ := mk_at hsx j e hee
          have HSN := Lib.hid (laidT_snoc xs j e hee (freeT (xs.map Mk.pl) (ys.map En.pl)))
          have hnx : e.k ≠ 1 → e.x = ⟨#[]⟩ := fun h => bytes_eq (markOk_none hmk h)
          obtain ⟨ep, ek, ex⟩ := e
          have i0 : (0 : Int) ≤ (j : Int) := by omega
          have i1 : (j : Int) < (n : Int) := by omega
          clear hee hmk hkk hsx
          change 1 ≤ ek at hk1
          change ek ≤ 4 at hk4
          by_cases h1 : ek = 1
          · subst h1
            have HK3 := Lib.hid (by decide : ¬ (1 : Int) = 3)
            have HTE : Hid (toE (Mk.pl ⟨ep, 1, ex⟩) = En.pl ⟨ep, false, ex⟩) := rfl
            have hpl := eput_len ns ⟨ep, false, ex⟩
            have HNS2 : Hid ((putP En.bs ns ⟨ep, false, ex⟩).map En.pl = laidT ((xs.take (j + 1)).map Mk.pl) (freeT (xs.map Mk.pl) (ys.map En.pl))) := by
              rw [Hid, HSN.out, if_neg HK3.out, ← HNS.out, putP_map En.pl (f := En.bs) (g := PE.p) (fun _ => rfl)]
              exact congrArg (putP PE.p _) HTE.out.symm
            clear hnx hk1 hk4
            go_wp2_with fail
            go_still_tail 12, (by kernel_rfl)
            repeat still_step
            (try refine wpStill_nil ?_)
            change wpList _ _ _ _ _ wr.drew
            replace hb := chn hb (below_drew wr)
            replace hown := hown.below (below_drew wr)
            generalize wr.drew = W0 at hb hown ⊢
            go_wp2_with fail
            refine (l2PutO_c w.heap.size _ ns ⟨ep, false, ex⟩ _ hown hb.size (by omega)).mono ?_
            rintro e W2 ⟨v2, rfl, ho2, hq⟩
            replace hb := chn hb hq
            go_wp2
            go_roundw
            case rel => exact ⟨j + 1, _, by omega, by omega, by go_num, HNS2.out, ho2, hb⟩
            case measure => simp [intOf]; omega
          · have hx0 := hnx h1
            simp only at hx0
            subst hx0
            have n1 : (ek == 1) = false := by rw [beq_eq_false_iff_ne]; exact h1
            by_cases h3 : ek = 3
            · have n2 : (ek == 2) = false := by rw [beq_eq_false_iff_ne]; omega
              have n4 : (ek == 4) = false := by rw [beq_eq_false_iff_ne]; omega
              have HSM : Hid (ns.map En.pl = laidT ((xs.take (j + 1)).map Mk.pl) (freeT (xs.map Mk.pl) (ys.map En.pl))) := by rw [Hid, HSN.out, if_pos h3]; exact HNS.out
              clear h1 h3 hnx hk1 hk4
              go_wp2
              go_roundw
              case rel => exact ⟨j + 1, ns, by omega, by omega, by go_num, HSM.out, hown, hb⟩
              case measure => simp [intOf]; omega
            · have HK3 := Lib.hid h3
              by_cases h2 : ek = 2
              · subst h2
                have HTE : Hid (toE (Mk.pl ⟨ep, 2, ⟨#[]⟩⟩) = En.pl ⟨ep, true, ⟨#[]⟩⟩) := rfl
                have hpl := eput_len ns ⟨ep, true, ⟨#[]⟩⟩
                have HNS2 : Hid ((putP En.bs ns ⟨ep, true, ⟨#[]⟩⟩).map En.pl = laidT ((xs.take (j + 1)).map Mk.pl) (freeT (xs.map Mk.pl) (ys.map En.pl))) := by
                  rw [Hid, HSN.out, if_neg HK3.out, ← HNS.out, putP_map En.pl (f := En.bs) (g := PE.p) (fun _ => rfl)]
                  exact congrArg (putP PE.p _) HTE.out.symm
                clear hnx hk1 hk4 h1 h3
                go_wp2_with fail
                refine (l2PutO_c w.heap.size _ ns ⟨ep, true, ⟨#[]⟩⟩ _ hown hb.size (by omega)).mono ?_
                rintro e W2 ⟨v2, rfl, ho2, hq⟩
                replace hb := chn hb hq
                go_wp2
                go_roundw
                case rel => exact ⟨j + 1, _, by omega, by omega, by go_num, HNS2.out, ho2, hb⟩
                case measure => simp [intOf]; omega
              · have h4 : ek = 4 := by omega
                subst h4
                have HTE : Hid (toE (Mk.pl ⟨ep, 4, ⟨#[]⟩⟩) = En.pl ⟨ep, true, ⟨#[]⟩⟩) := rfl
                have hpl := eput_len ns ⟨ep, true, ⟨#[]⟩⟩
                have HNS2 : Hid ((putP En.bs ns ⟨ep, true, ⟨#[]⟩⟩).map En.pl = laidT ((xs.take (j + 1)).map Mk.pl) (freeT (xs.map Mk.pl) (ys.map En.pl))) := by
                  rw [Hid, HSN.out, if_neg HK3.out, ← HNS.out, putP_map En.pl (f := En.bs) (g := PE.p) (fun _ => rfl)]
                  exact congrArg (putP PE.p _) HTE.out.symm
                clear hnx hk1 hk4 h1 h3 h2
                go_wp2_with fail
                refine (l2PutO_c w.heap.size _ ns ⟨ep, true, ⟨#[]⟩⟩ _ hown hb.size (by omega)).mono ?_
                rintro e W2 ⟨v2, rfl, ho2, hq⟩
                replace hb := chn hb hq
                go_wp2
                go_roundw
                case rel => exact ⟨j + 1, _, by omega, by omega, by go_num, HNS2.out, ho2, hb⟩
                case measure => simp [intOf]; omega
        · obtain rfl : j = n := by omega
          have HRAW : Hid (ns.map En.pl = onL (xs.map Mk.pl) (ys.map En.pl)) := by rw [Hid, HNS.out, HALL.out]; rfl
          go_wp2
          go_ret
          exact ⟨_, ns, rfl, HRAW.out, hown, hb⟩
set_option maxRecDepth 100000 in
set_option maxHeartbeats 8000000 in
theorem sLayerOn_c (a a' : Option Addr) (c c' : Nat) (xs : List Mk) (ys : List En) (w : World) (hs : SlF Mk.cells w a xs) (hs' : SlF En.cells w a' ys) (hx : xs.length ≤ maxLen) (hy : ys.length ≤ maxLen) (hc : xs.length ≤ c) (hc' : ys.length ≤ c') (hz : ∀ e ∈ xs, e.p.size ≤ 2000000 ∧ e.x.size ≤ 2000000) (hz' : ∀ e ∈ ys, e.p.size ≤ 2000000 ∧ e.x.size ≤ 2000000) :
    Calls Tryz.prog 6 #[.slice a xs.length c, .slice a' ys.length c'] w (MadeEb (lonL (xs.map Mk.pl) (ys.map En.pl)) (lonB (xs.map Mk.pl) (ys.map En.pl)) w) := by
  have hm2 : (2000000 : Nat) ≤ maxLen := by unfold maxLen; omega
  have hb := Below.refl w.heap.size w
  obtain ⟨r, hr⟩ := lok_dec xs
  obtain ⟨r', hr'⟩ := tok_dec ys
  have HT := Lib.hid (sLayerOk_c a c xs r (Lib.hid hr) w hs hx hc hz)
  have HT' := Lib.hid (fun W (h : SlF En.cells W a' ys) => sTreeOk_c a' c' ys r' (Lib.hid hr') W h hy hc' (fun e he => ⟨Nat.le_trans (hz' e he).1 hm2, Nat.le_trans (hz' e he).2 hm2⟩))
  obtain ⟨L, hL⟩ : ∃ L, lonL (xs.map Mk.pl) (ys.map En.pl) = L := ⟨_, rfl⟩
  obtain ⟨B, hB⟩ : ∃ B, lonB (xs.map Mk.pl) (ys.map En.pl) = B := ⟨_, rfl⟩
  have hbd : ¬ (r = true ∧ r' = true) → B = false := fun h => by rw [← hB]; exact lon_bad fun h' => h ⟨hr.2 h'.1, hr'.2 h'.2⟩
  have HBD := Lib.hid hbd
  have HLD : Hid (¬ (r = true ∧ r' = true) → [] = L) := fun h => by rw [← hL]; unfold lonL; rw [hB, hbd h]; rfl
  have HON := Lib.hid (fun (h : r = true) (h' : r' = true) W (k : SlF Mk.cells W a xs) (k' : SlF En.cells W a' ys) => l3On_c a a' c c' xs ys W k k' (hr.1 h) (hr'.1 h') hz hz')
  have HBE : Hid (r = true → r' = true → decide ((onL (xs.map Mk.pl) (ys.map En.pl)).length ≤ 16) = B) := fun h h' => by rw [← hB, lon_ok (hr.1 h) (hr'.1 h')]
  have HLL := Lib.hid hL
  have HBB := Lib.hid hB
  rw [hL, hB]
  have HS := Lib.hid hs
  have HS' := Lib.hid hs'
  obtain ⟨n, hn⟩ : ∃ n, xs.length = n := ⟨_, rfl⟩
  obtain ⟨n', hn'⟩ : ∃ n, ys.length = n := ⟨_, rfl⟩
  rw [hn] at HT HON ⊢
  rw [hn'] at HT' HON ⊢
  clear hr hr' hs hs' hL hB hbd hz hz' hc hc' hx hy hn hn' hm2
  cases r with
  | false =>
    go_enter Tryz.func6, Tryz.ntmps6
    go_wp2_with fail
    refine HT.out.mono ?_; rintro e WS ⟨rfl, hq⟩; replace hb := chn hb hq; clear hq
    go_wp2
    refine bodyPost_ret (v := .tuple #[.slice (some ⟨WS.heap.size, 0, none⟩) 0 0, .bool false]) (by simp [results, Tryz.results6, go_sem]) rfl ⟨some ⟨WS.heap.size, 0, none⟩, 0, [], by rw [HBD.out (by simp)]; rfl, HLD.out (by simp), World.ownsRow_lit _ #[] 0 hb.size (Nat.zero_le _) rfl, hb.alloc hb.size _⟩
  | true =>
  cases r' with
  | false =>
    go_enter Tryz.func6, Tryz.ntmps6
    go_wp2_with fail
    refine (HT.out).mono ?_; rintro e W ⟨rfl, hq⟩; replace hb := chn hb hq; clear hq
    go_wp2_with fail
    refine (HT'.out _ (HS'.out.below hb)).mono ?_; rintro e WS ⟨rfl, hq⟩; replace hb := chn hb hq; clear hq
    go_wp2
    refine bodyPost_ret (v := .tuple #[.slice (some ⟨WS.heap.size, 0, none⟩) 0 0, .bool false]) (by simp [results, Tryz.results6, go_sem]) rfl ⟨some ⟨WS.heap.size, 0, none⟩, 0, [], by rw [HBD.out (by simp)]; rfl, HLD.out (by simp), World.ownsRow_lit _ #[] 0 hb.size (Nat.zero_le _) rfl, hb.alloc hb.size _⟩
  | true =>
    have HJ := Lib.hid (HON.out rfl rfl)
    have HBX := Lib.hid (HBE.out rfl rfl)
    clear HON HBE HBD HLD
    go_enter Tryz.func6, Tryz.ntmps6
    go_wp2_with fail
    refine (HT.out).mono ?_; rintro e W ⟨rfl, hq⟩; replace hb := chn hb hq; clear hq
    go_wp2_with fail
    refine (HT'.out _ (HS'.out.below hb)).mono ?_; rintro e W ⟨rfl, hq⟩; replace hb := chn hb hq; clear hq
    go_wp2_with fail
    refine (HJ.out _ (HS.out.below hb) (HS'.out.below hb)).mono ?_; rintro e WS ⟨v, ms, rfl, hms, ⟨g, c2, rfl, g1, g2, g3⟩, hq⟩
    have HB1 := Lib.hid hb.size
    replace hb := chn hb hq
    have HMS := Lib.hid hms
    have HML : Hid (ms.length = (onL (xs.map Mk.pl) (ys.map En.pl)).length) := by rw [Hid, ← hms, List.length_map]
    rw [← HML.out] at HBX
    clear hms hq
    by_cases h16 : 16 < ms.length
    · have hg : (16 : Int) < (ms.length : Int) := by omega
      obtain rfl : B = false := by rw [← HBX.out, decide_eq_false_iff_not]; omega
      have HL0 : Hid ([] = L) := by rw [Hid, ← HLL.out]; unfold lonL; rw [HBB.out]; rfl
      go_wp2
      refine bodyPost_ret (v := .tuple #[.slice (some ⟨WS.heap.size, 0, none⟩) 0 0, .bool false]) (by simp [results, Tryz.results6, go_sem]) rfl ⟨some ⟨WS.heap.size, 0, none⟩, 0, [], rfl, HL0.out, World.ownsRow_lit _ #[] 0 hb.size (Nat.zero_le _) rfl, hb.alloc hb.size _⟩
    · have hg : decide ((16 : Int) < (ms.length : Int)) = false := by rw [decide_eq_false_iff_not]; omega
      obtain rfl : B = true := by rw [← HBX.out, decide_eq_true_iff]; omega
      have HL1 : Hid (onL (xs.map Mk.pl) (ys.map En.pl) = L) := by rw [Hid, ← HLL.out]; unfold lonL; rw [HBB.out]; rfl
      go_wp2
      refine bodyPost_ret (v := .tuple #[.slice (some ⟨g, 0, none⟩) ms.length c2, .bool true]) (by simp [results, Tryz.results6, go_sem]) rfl ⟨_, c2, ms, rfl, HMS.out.trans HL1.out, own_mono g3 HB1.out, hb⟩
end Go.Proofs.YtdhbdcmnbhjjaabGreatDoor
namespace Go.Proofs.YtdhbdcmnbhjjaabGreatDoor
open Go.RowKit
/-- LayerOn, as the laws meet it. -/
theorem onI_c (a a' : Option Addr) (c c' n n' : Nat) (xs : List Mk) (ys : List En) (l : List PE) (b : Bool) (hb : Hid (lonB (xs.map Mk.pl) (ys.map En.pl) = b)) (hl : Hid (lonL (xs.map Mk.pl) (ys.map En.pl) = l)) (w : World) (hn : xs.length = n) (hn' : ys.length = n') (hs : SlF Mk.cells w a xs) (hs' : SlF En.cells w a' ys) (hx : n ≤ 1000) (hy : n' ≤ 1000) (hz : SmallM xs) (hz' : Small ys) :
    Calls Tryz.prog 5 #[.slice a n c, .slice a' n' c'] w (MadeEb l b w) := by
  subst hn hn'
  rw [← hb.out, ← hl.out]
  exact layerOn_c a a' c c' xs ys w hs hs' (by unfold maxLen; omega) (by unfold maxLen; omega) hz.mil hz'.mil
theorem onS_c (a a' : Option Addr) (c c' n n' : Nat) (xs : List Mk) (ys : List En) (l : List PE) (b : Bool) (hb : Hid (lonB (xs.map Mk.pl) (ys.map En.pl) = b)) (hl : Hid (lonL (xs.map Mk.pl) (ys.map En.pl) = l)) (w : World) (hn : xs.length = n) (hn' : ys.length = n') (hs : SlF Mk.cells w a xs) (hs' : SlF En.cells w a' ys) (hc : n ≤ c) (hc' : n' ≤ c') (hx : n ≤ 1000) (hy : n' ≤ 1000) (hz : SmallM xs) (hz' : Small ys) :
    Calls Tryz.prog 6 #[.slice a n c, .slice a' n' c'] w (MadeEb l b w) := by
  subst hn hn'
  rw [← hb.out, ← hl.out]
  exact sLayerOn_c a a' c c' xs ys w hs hs' (by unfold maxLen; omega) (by unfold maxLen; omega) hc hc' hz.mil hz'.mil
theorem slf_nilE (w : World) : SlF En.cells w none [] := fun h => by simp at h
/-- What a layer that can be laid says. -/
theorem lon_true {l : List PM} {t : List PE} (h : lonB l t = true) : LOk l ∧ TOk t ∧ (onL l t).length ≤ 16 ∧ lonL l t = onL l t ∧ TOk (onL l t) := by
  have h0 := h
  unfold lonB at h
  simp only [decide_eq_true_eq] at h
  exact ⟨h.1, h.2.1, h.2.2, by unfold lonL; rw [if_pos h0], on_tok h.1 h.2.1 h.2.2⟩
theorem lon_mk {l : List PM} {t : List PE} (h1 : LOk l) (h2 : TOk t) (h3 : (onL l t).length ≤ 16) : lonB l t = true ∧ lonL l t = onL l t := by
  have h : lonB l t = true := by rw [lon_ok h1 h2, decide_eq_true_eq]; exact h3
  exact ⟨h, by unfold lonL; rw [if_pos h]⟩
theorem lon_again {l : List PM} {t : List PE} (h : lonB l t = true) : lonB l (onL l t) = true ∧ lonL l (onL l t) = onL l t := by
  obtain ⟨h1, h2, h3, _, h5⟩ := lon_true h
  have h6 := on_twice h1.ord h2.ordP
  have h7 := lon_mk h1 h5 (by rw [h6]; exact h3)
  rw [h6] at h7
  exact h7
theorem lon_nil {t : List PE} (h : TOk t) : lonB [] t = true ∧ lonL [] t = t := by
  have h6 := on_nil h.ordP
  have h7 := lon_mk lok_nil h (by rw [h6]; exact h.most)
  rw [h6] at h7
  exact h7
end Go.Proofs.YtdhbdcmnbhjjaabGreatDoor
