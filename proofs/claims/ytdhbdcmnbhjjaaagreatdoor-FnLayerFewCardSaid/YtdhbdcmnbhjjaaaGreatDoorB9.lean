/- The library's sort at this translation, laid in plain words by the kit's own tool. The library's sort at entries and at marks: the comparison's walk, the row before and behind it. The walk of the program's LayerOn. The walks of the reference's l3On and LayerOn. What the laws of layers on trees share: LayerOn and LayerDiff as the laws meet them. The walk of the program's LayerDiff. What the laws of differences of trees share: LayerDiff as the laws meet it. The walk of the law that laying a layer twice changes nothing: FnLayerTwice. The walk of the law that a difference layer turns one tree into the other: FnLayerDiff. The walk of the law that difference layers mark each visible change once: FnLayerFew. The walk of the program's TreeDo. The walks of the laws of what is done to trees: FnTreePut, FnTreeMany. The walk of the law that what is done can be undone: FnTreeBack. The walk of the law that moves compose: FnTreeVia. Conditions: each theorem's own. -/
import Derived.Shelf.SlSortCmp.WholeK
import Derived.Ground.SlsfProg
import Derived.Test.YtdhbdcmnbhjjaaaGreatDoorProg
import Derived.Test.YtdhbdcmnbhjjaaaGreatDoorB1
import Derived.Test.YtdhbdcmnbhjjaaaGreatDoorB4
import Derived.Test.YtdhbdcmnbhjjaaaGreatDoorB2
import Derived.Shelf.SlSortCmp.NoneTotal
import Derived.Test.YtdhbdcmnbhjjaaaGreatDoorB6
import Derived.Test.YtdhbdcmnbhjjaaaGreatDoorB5
import Derived.Test.YtdhbdcmnbhjjaaaGreatDoorB7
import Derived.StillTailTactics
import Derived.Test.YtdhbdcmnbhjjaaaGreatDoorB8
import Derived.Laws.BytesArg
namespace Go.Proofs
open Go.Shelf
def Tryz.sortEnt_ren : Go.Shelf.Ren := ⟨fun | 6 => 78 | 15 => 108 | 14 => 107 | 28 => 127 | 29 => 128 | 20 => 119 | 21 => 120 | 22 => 121 | 23 => 122 | 24 => 123 | 25 => 124 | 26 => 125 | 27 => 126 | 46 => 143 | 47 => 144 | 48 => 145 | 49 => 146 | 50 => 147 | 57 => 155 | n => n, fun | 22 => 23 | 24 => 39 | 25 => 91 | 3 => 3 | 39 => 114 | 0 => 0 | 53 => 129 | 55 => 131 | 4 => 4 | 46 => 122 | 45 => 121 | 50 => 126 | 5 => 5 | 9 => 9 | 66 => 141 | 70 => 145 | 76 => 152 | 77 => 153 | n => n, fun | n => n⟩
theorem Tryz.sortEnt : Go.Proofs.SlLaysF0.n6 Tryz.prog Tryz.sortEnt_ren := {
  mixed := by kernel_rfl
  f6 := ⟨Tryz.f78.name, by decide, Tryz.func78.trans (congrArg some (by kernel_rfl))⟩
  f14 := ⟨Tryz.f107.name, by decide, Tryz.func107.trans (congrArg some (by kernel_rfl))⟩
  f15 := Tryz.func108.trans (congrArg some (by kernel_rfl))
  f20 := ⟨Tryz.f119.name, by decide, Tryz.func119.trans (congrArg some (by kernel_rfl))⟩
  f21 := ⟨Tryz.f120.name, by decide, Tryz.func120.trans (congrArg some (by kernel_rfl))⟩
  f22 := ⟨Tryz.f121.name, by decide, Tryz.func121.trans (congrArg some (by kernel_rfl))⟩
  f23 := ⟨Tryz.f122.name, by decide, Tryz.func122.trans (congrArg some (by kernel_rfl))⟩
  f24 := ⟨Tryz.f123.name, by decide, Tryz.func123.trans (congrArg some (by kernel_rfl))⟩
  f25 := ⟨Tryz.f124.name, by decide, Tryz.func124.trans (congrArg some (by kernel_rfl))⟩
  f26 := ⟨Tryz.f125.name, by decide, Tryz.func125.trans (congrArg some (by kernel_rfl))⟩
  f27 := ⟨Tryz.f126.name, by decide, Tryz.func126.trans (congrArg some (by kernel_rfl))⟩
  f28 := Tryz.func127.trans (congrArg some (by kernel_rfl))
  f29 := Tryz.func128.trans (congrArg some (by kernel_rfl))
  f46 := ⟨Tryz.f143.name, by decide, Tryz.func143.trans (congrArg some (by kernel_rfl))⟩
  f47 := Tryz.func144.trans (congrArg some (by kernel_rfl))
  f48 := Tryz.func145.trans (congrArg some (by kernel_rfl))
  f49 := ⟨Tryz.f146.name, by decide, Tryz.func146.trans (congrArg some (by kernel_rfl))⟩
  f50 := ⟨Tryz.f147.name, by decide, Tryz.func147.trans (congrArg some (by kernel_rfl))⟩
  f57 := ⟨Tryz.f155.name, by decide, Tryz.func155.trans (congrArg some (by kernel_rfl))⟩
  t0 := Tryz.underlying0
  a0 := Tryz.isAgg0
  z0 := Tryz.sizeOf0
  v0 := Tryz.zeroValue0
  t3 := Tryz.underlying3
  a3 := Tryz.isAgg3
  z3 := Tryz.sizeOf3
  v3 := Tryz.zeroValue3
  t4 := Tryz.underlying4
  a4 := Tryz.isAgg4
  z4 := Tryz.sizeOf4
  v4 := Tryz.zeroValue4
  t5 := Tryz.underlying5
  a5 := Tryz.isAgg5
  z5 := Tryz.sizeOf5
  v5 := Tryz.zeroValue5
  t9 := Tryz.underlying9
  a9 := Tryz.isAgg9
  z9 := Tryz.sizeOf9
  v9 := Tryz.zeroValue9
  t22 := Tryz.underlying23
  a22 := Tryz.isAgg23
  z22 := Tryz.sizeOf23
  v22 := Tryz.zeroValue23
  t25 := Tryz.underlying91
  a25 := Tryz.isAgg91
  z25 := Tryz.sizeOf91
  v25 := Tryz.zeroValue91
  t39 := Tryz.underlying114
  a39 := Tryz.isAgg114
  z39 := Tryz.sizeOf114
  v39 := Tryz.zeroValue114
  t45 := Tryz.underlying121
  a45 := Tryz.isAgg121
  z45 := Tryz.sizeOf121
  v45 := Tryz.zeroValue121
  t46 := Tryz.underlying122
  a46 := Tryz.isAgg122
  z46 := Tryz.sizeOf122
  v46 := Tryz.zeroValue122
  t50 := Tryz.underlying126
  a50 := Tryz.isAgg126
  z50 := Tryz.sizeOf126
  v50 := Tryz.zeroValue126
  t53 := Tryz.underlying129
  a53 := Tryz.isAgg129
  z53 := Tryz.sizeOf129
  v53 := Tryz.zeroValue129
  t55 := Tryz.underlying131
  a55 := Tryz.isAgg131
  z55 := Tryz.sizeOf131
  v55 := Tryz.zeroValue131
  t66 := Tryz.underlying141
  a66 := Tryz.isAgg141
  z66 := Tryz.sizeOf141
  v66 := Tryz.zeroValue141
  t70 := Tryz.underlying145
  a70 := Tryz.isAgg145
  z70 := Tryz.sizeOf145
  v70 := Tryz.zeroValue145
  t76 := Tryz.underlying152
  a76 := Tryz.isAgg152
  z76 := Tryz.sizeOf152
  v76 := Tryz.zeroValue152
  t77 := Tryz.underlying153
  a77 := Tryz.isAgg153
  z77 := Tryz.sizeOf153
  v77 := Tryz.zeroValue153 }
def Tryz.sortMark_ren : Go.Shelf.Ren := ⟨fun | 6 => 95 | 15 => 108 | 14 => 115 | 28 => 127 | 29 => 128 | 20 => 130 | 21 => 131 | 22 => 132 | 23 => 133 | 24 => 134 | 25 => 135 | 26 => 136 | 27 => 137 | 46 => 148 | 47 => 144 | 48 => 145 | 49 => 149 | 50 => 150 | 57 => 156 | n => n, fun | 22 => 32 | 24 => 43 | 25 => 100 | 3 => 3 | 39 => 114 | 0 => 0 | 53 => 129 | 55 => 131 | 4 => 4 | 46 => 122 | 45 => 121 | 50 => 126 | 5 => 5 | 9 => 9 | 66 => 141 | 70 => 145 | 76 => 152 | 77 => 153 | n => n, fun | n => n⟩
theorem Tryz.sortMark : Go.Proofs.SlLaysF0.n6 Tryz.prog Tryz.sortMark_ren := {
  mixed := by kernel_rfl
  f6 := ⟨Tryz.f95.name, by decide, Tryz.func95.trans (congrArg some (by kernel_rfl))⟩
  f14 := ⟨Tryz.f115.name, by decide, Tryz.func115.trans (congrArg some (by kernel_rfl))⟩
  f15 := Tryz.func108.trans (congrArg some (by kernel_rfl))
  f20 := ⟨Tryz.f130.name, by decide, Tryz.func130.trans (congrArg some (by kernel_rfl))⟩
  f21 := ⟨Tryz.f131.name, by decide, Tryz.func131.trans (congrArg some (by kernel_rfl))⟩
  f22 := ⟨Tryz.f132.name, by decide, Tryz.func132.trans (congrArg some (by kernel_rfl))⟩
  f23 := ⟨Tryz.f133.name, by decide, Tryz.func133.trans (congrArg some (by kernel_rfl))⟩
  f24 := ⟨Tryz.f134.name, by decide, Tryz.func134.trans (congrArg some (by kernel_rfl))⟩
  f25 := ⟨Tryz.f135.name, by decide, Tryz.func135.trans (congrArg some (by kernel_rfl))⟩
  f26 := ⟨Tryz.f136.name, by decide, Tryz.func136.trans (congrArg some (by kernel_rfl))⟩
  f27 := ⟨Tryz.f137.name, by decide, Tryz.func137.trans (congrArg some (by kernel_rfl))⟩
  f28 := Tryz.func127.trans (congrArg some (by kernel_rfl))
  f29 := Tryz.func128.trans (congrArg some (by kernel_rfl))
  f46 := ⟨Tryz.f148.name, by decide, Tryz.func148.trans (congrArg some (by kernel_rfl))⟩
  f47 := Tryz.func144.trans (congrArg some (by kernel_rfl))
  f48 := Tryz.func145.trans (congrArg some (by kernel_rfl))
  f49 := ⟨Tryz.f149.name, by decide, Tryz.func149.trans (congrArg some (by kernel_rfl))⟩
  f50 := ⟨Tryz.f150.name, by decide, Tryz.func150.trans (congrArg some (by kernel_rfl))⟩
  f57 := ⟨Tryz.f156.name, by decide, Tryz.func156.trans (congrArg some (by kernel_rfl))⟩
  t0 := Tryz.underlying0
  a0 := Tryz.isAgg0
  z0 := Tryz.sizeOf0
  v0 := Tryz.zeroValue0
  t3 := Tryz.underlying3
  a3 := Tryz.isAgg3
  z3 := Tryz.sizeOf3
  v3 := Tryz.zeroValue3
  t4 := Tryz.underlying4
  a4 := Tryz.isAgg4
  z4 := Tryz.sizeOf4
  v4 := Tryz.zeroValue4
  t5 := Tryz.underlying5
  a5 := Tryz.isAgg5
  z5 := Tryz.sizeOf5
  v5 := Tryz.zeroValue5
  t9 := Tryz.underlying9
  a9 := Tryz.isAgg9
  z9 := Tryz.sizeOf9
  v9 := Tryz.zeroValue9
  t22 := Tryz.underlying32
  a22 := Tryz.isAgg32
  z22 := Tryz.sizeOf32
  v22 := Tryz.zeroValue32
  t25 := Tryz.underlying100
  a25 := Tryz.isAgg100
  z25 := Tryz.sizeOf100
  v25 := Tryz.zeroValue100
  t39 := Tryz.underlying114
  a39 := Tryz.isAgg114
  z39 := Tryz.sizeOf114
  v39 := Tryz.zeroValue114
  t45 := Tryz.underlying121
  a45 := Tryz.isAgg121
  z45 := Tryz.sizeOf121
  v45 := Tryz.zeroValue121
  t46 := Tryz.underlying122
  a46 := Tryz.isAgg122
  z46 := Tryz.sizeOf122
  v46 := Tryz.zeroValue122
  t50 := Tryz.underlying126
  a50 := Tryz.isAgg126
  z50 := Tryz.sizeOf126
  v50 := Tryz.zeroValue126
  t53 := Tryz.underlying129
  a53 := Tryz.isAgg129
  z53 := Tryz.sizeOf129
  v53 := Tryz.zeroValue129
  t55 := Tryz.underlying131
  a55 := Tryz.isAgg131
  z55 := Tryz.sizeOf131
  v55 := Tryz.zeroValue131
  t66 := Tryz.underlying141
  a66 := Tryz.isAgg141
  z66 := Tryz.sizeOf141
  v66 := Tryz.zeroValue141
  t70 := Tryz.underlying145
  a70 := Tryz.isAgg145
  z70 := Tryz.sizeOf145
  v70 := Tryz.zeroValue145
  t76 := Tryz.underlying152
  a76 := Tryz.isAgg152
  z76 := Tryz.sizeOf152
  v76 := Tryz.zeroValue152
  t77 := Tryz.underlying153
  a77 := Tryz.isAgg153
  z77 := Tryz.sizeOf153
  v77 := Tryz.zeroValue153 }
end Go.Proofs
namespace Go.Proofs.YtdhbdcmnbhjjaaaGreatDoor
open Go.RowKit Go.Shelf Go.Sort
instance : Inhabited En := ⟨⟨.empty, false, .empty⟩⟩
instance : Inhabited Mk := ⟨⟨.empty, 0, .empty⟩⟩
/-- What the library's comparison of two strings hands back. -/
def cmpB (a b : ByteArray) : Int := if Op.bytesLess a.toList b.toList then -1 else if a.toList == b.toList then 0 else 1
set_option maxHeartbeats 1000000 in
theorem isNaNS_c (s : ByteArray) (w : World) : Calls Tryz.prog 109 #[.string s] w fun e w' => e = .returned (.bool false) ∧ w' = w := by
  go_enter Tryz.func109, Tryz.ntmps109
  go_wp2
  go_ret
  exact ⟨by simp, rfl⟩
set_option maxHeartbeats 2000000 in
theorem compareS_c (a b : ByteArray) (w : World) : Calls Tryz.prog 80 #[.string a, .string b] w fun e w' => e = .returned (.int .i64 (cmpB a b)) ∧ w' = w := by
  have hcon := isNaNS_c
  go_enter Tryz.func80, Tryz.ntmps80
  go_wp2_with (go_at_call 109; refine (hcon _ _).mono ?_; rintro e w' ⟨rfl, rfl⟩)
  all_goals (go_ret; refine ⟨?_, rfl⟩; unfold cmpB; simp_all)
/-- The three cells of what stands at place k in a row. -/
theorem flat_at {α : Type} {f : α → List Value} (hf : ∀ x, (f x).length = 3) {j : Nat} (hj : j < 3) : ∀ (ys : List α) (k : Nat) (y : α), ys[k]? = some y → (ys.flatMap f)[k * 3 + j]? = (f y)[j]? := by
  intro ys
  induction ys with
  | nil => intro k y hy; simp at hy
  | cons z r ih =>
    intro k y hy
    rw [List.flatMap_cons]
    cases k with
    | zero =>
      simp at hy; subst hy
      rw [Nat.zero_mul, Nat.zero_add, List.getElem?_append_left (by rw [hf]; exact hj)]
    | succ k =>
      rw [List.getElem?_append_right (by rw [hf]; omega), show (k + 1) * 3 + j - (f z).length = k * 3 + j by rw [hf]; omega]
      exact ih k y (by simpa using hy)
section
variable {α : Type} [Inhabited α] {f : α → List Value}
theorem holdsK_own (hf : ∀ x, (f x).length = 3) {w : World} {B g c : Nat} {t : TypeId} {xs : List α} (h : w.ownsRow B t 3 (.slice (some ⟨g, 0, none⟩) xs.length c) xs.length (xs.flatMap f)) (hn : 0 < xs.length) :
    HoldsK f 3 w g 0 xs.toArray ∧ B ≤ g ∧ g < w.heap.size := by
  obtain ⟨g', c', hv, _, hB, hlt, hc, hz⟩ := own_form h hn
  have hg : g = g' := by injection hv with h1; injection h1 with h1; injection h1
  subst hg
  refine ⟨fun j hj => ?_, hB, hlt⟩
  rw [size_flatK, List.size_toArray] at hj
  rw [Nat.zero_add]
  refine ⟨hc _ _ ?_, hz _⟩
  rw [get_flatK _ _ _ _ (by rw [List.size_toArray]; exact hj)]
  have h3 : j / 3 < xs.length := by omega
  have e := flat_at hf (Nat.mod_lt j (by omega : 0 < 3)) xs (j / 3) _ (List.getElem?_eq_getElem h3)
  rw [show j / 3 * 3 + j % 3 = j by omega] at e
  rw [e]
  have e2 : xs.toArray[j / 3]! = xs[j / 3] := by simp [h3]
  rw [e2]
  have h4 : j % 3 < (f xs[j / 3]).length := by rw [hf]; omega
  show _ = some ((f xs[j / 3])[j % 3]!)
  rw [List.getElem?_eq_getElem h4]
  simp [h4]
theorem slf_holdsK (hf : ∀ x, (f x).length = 3) {w : World} {g : Nat} {d : Array α} (h : HoldsK f 3 w g 0 d) (hg : g < w.heap.size) : SlF f w (some ⟨g, 0, none⟩) d.toList := fun _ => by
  refine ⟨g, 0, rfl, hg, fun k x hx j u hu => ?_⟩
  have hk : k < d.size := by simpa using (List.getElem?_eq_some_iff.1 hx).1
  have hj : j < 3 := by have := (List.getElem?_eq_some_iff.1 hu).1; rwa [hf] at this
  have e := (HoldsK.cell h hk hj).1
  have e1 : d[k]! = x := by
    rw [Array.getElem?_toList, Array.getElem?_eq_getElem hk] at hx
    simp at hx
    rw [getElem!_pos d k hk]; exact hx
  rw [e, e1]
  obtain ⟨h5, h6⟩ := List.getElem?_eq_some_iff.1 hu
  simp [h5, h6]
theorem below_sort {w : World} {B g n : Nat} {d : Array α} {os : Array Obj} (hB : B ≤ g) (hg : g < w.heap.size) : Below B w (sortWorldK f 3 w g 0 n d os) := by
  refine ⟨rfl, rfl, rfl, size_sortWorldK_c f 3 w g 0 n d os, fun k hk => ?_⟩
  have h1 : k < (putRowK f 3 (Sort.ahead w n) g 0 d).heap.size := by rw [size_putRowK]; show k < w.heap.size; omega
  show ((putRowK f 3 (Sort.ahead w n) g 0 d).heap ++ os)[k]? = _
  rw [Array.getElem?_append_left h1]
  show (w.heap.modify g _)[k]? = _
  rw [Array.getElem?_modify, if_neg (by omega)]
/-- A row of the call's own that was sorted is a row of the call's own. -/
theorem own_sort (hf : ∀ x, (f x).length = 3) {w : World} {B g c n : Nat} {t : TypeId} {xs : List α} {d : Array α} {os : Array Obj} (h : w.ownsRow B t 3 (.slice (some ⟨g, 0, none⟩) xs.length c) xs.length (xs.flatMap f)) (hg : g < w.heap.size) (hd : d.size = xs.length)
    (hH : HoldsK f 3 (sortWorldK f 3 w g 0 n d os) g 0 d) : (sortWorldK f 3 w g 0 n d os).ownsRow B t 3 (.slice (some ⟨g, 0, none⟩) d.toList.length c) d.toList.length (d.toList.flatMap f) := by
  rcases h.2 with ⟨hv, _⟩ | ⟨g', cap, cur, hv, hB, hh, hnc, hm, hs, ht⟩
  · cases hv
  obtain ⟨rfl, rfl⟩ : g = g' ∧ c = cap := by injection hv with h1 h2 h3; injection h1 with h1; injection h1 with h1; exact ⟨h1, h3⟩
  have hl : d.toList.length = xs.length := by rw [Array.length_toList, hd]
  have hheap : (sortWorldK f 3 w g 0 n d os).heap[g]? = some (.cells (putCells id 0 (flatK f 3 d) cur) t (0, 0)) := by
    have h1 : g < (putRowK f 3 (Sort.ahead w n) g 0 d).heap.size := by rw [size_putRowK]; exact hg
    show ((putRowK f 3 (Sort.ahead w n) g 0 d).heap ++ os)[g]? = _
    rw [Array.getElem?_append_left h1]
    show (w.heap.modify g _)[g]? = _
    rw [Array.getElem?_modify, if_pos rfl, hh]; rfl
  have hsz : (putCells id 0 (flatK f 3 d) cur).size = c * 3 := by simp [putCells, hs]
  refine ⟨flatMap_len hf _, .inr ⟨g, c, _, rfl, hB, hheap, by rw [hl]; exact hnc, hm, hsz, ?_⟩⟩
  apply List.ext_getElem?
  intro k
  by_cases hk : k < d.toList.length * 3
  · rw [List.getElem?_take, if_pos hk, Array.getElem?_toList]
    have h3 : k / 3 < d.size := by rw [Array.length_toList] at hk; omega
    have hj : k % 3 < 3 := Nat.mod_lt _ (by omega)
    have e := (HoldsK.cell hH h3 hj).1
    rw [show 0 + k / 3 * 3 + k % 3 = k by omega, cell_of_row _ g k _ t (0, 0) hheap] at e
    have e2 := flat_at hf hj d.toList (k / 3) _ (List.getElem?_eq_getElem (by rw [Array.length_toList]; exact h3))
    rw [show k / 3 * 3 + k % 3 = k by omega] at e2
    rw [e2, e, getElem!_pos d _ h3]
    have h4 : k % 3 < (f d[k / 3]).length := by rw [hf]; exact hj
    rw [Array.getElem_toList, List.getElem?_eq_getElem h4, getElem!_pos (f d[k / 3]) _ h4]
  · rw [List.getElem?_eq_none (by rw [List.length_take]; omega), List.getElem?_eq_none (by rw [flatMap_len hf]; omega)]
end
theorem permIn_list {α : Type} [Inhabited α] {d d' : Array α} (h : PermIn 0 d.size d d') : d'.toList.Perm d.toList := by
  obtain ⟨h1, _, h2⟩ := h
  rw [← h1, Array.extract_size, h1, Array.extract_size] at h2
  exact h2
theorem sorted_list {α : Type} [Inhabited α] {lt : α → α → Bool} {d : Array α} {n : Nat} (hn : d.size = n) (h : SortedIn lt 0 n d) : d.toList.Pairwise fun a b => lt b a = false := by
  rw [List.pairwise_iff_getElem]
  intro i j hi hj hij
  have e := h i j (Nat.zero_le _) hij (by rw [← hn]; simpa using hj)
  have hi' : i < d.size := by simpa using hi
  have hj' : j < d.size := by simpa using hj
  rw [getElem!_pos d i hi', getElem!_pos d j hj'] at e
  simpa using e
theorem lt_cmpB {α : Type} (p : α → ByteArray) (x y : α) : ltOf (fun a b : α => cmpB (p a) (p b)) x y = Op.bytesLess (p x).data.toList (p y).data.toList := by
  rw [← less_of']
  unfold ltOf
  show decide (cmpB (p x) (p y) < 0) = _
  unfold cmpB
  by_cases h : Op.bytesLess (p x).toList (p y).toList = true
  · simp [h]
  · rw [if_neg h]
    have h' : Op.bytesLess (p x).toList (p y).toList = false := by simpa using h
    rw [h']
    split <;> decide
theorem swoB {α : Type} (p : α → ByteArray) : SWO (ltOf (fun a b : α => cmpB (p a) (p b))) := by
  refine ⟨fun x => by rw [lt_cmpB]; exact less_irrefl _, fun x y z h1 h2 => by rw [lt_cmpB] at *; exact less_trans h1 h2, fun x y z h1 h2 => ?_⟩
  rw [lt_cmpB] at *
  rcases less_total (p x).data.toList (p z).data.toList with h | h | h
  · rcases less_total (p x).data.toList (p y).data.toList with k | k | k
    · rw [k] at h1; cases h1
    · rw [← k, h] at h2; cases h2
    · have := less_trans k h; rw [this] at h2; cases h2
  · rw [h]; exact less_irrefl _
  · exact less_asymm h
set_option maxHeartbeats 2000000 in
theorem cmpEn_c (x y : En) (W : World) : Calls Tryz.prog 79 #[En.val x, En.val y] W fun e w' => e = .returned (.int .i64 (cmpB x.p y.p)) ∧ ∃ q os', w' = grow (W.drewN q) os' := by
  have hcon := compareS_c
  go_enter Tryz.func79, Tryz.ntmps79
  go_wp2_with (go_at_call 80; refine (hcon _ _ _).mono ?_; rintro e w' ⟨rfl, rfl⟩)
  go_ret
  exact ⟨rfl, 0, _, by rw [alloc_eq_grow, alloc_eq_grow, grow_grow]; rfl⟩
set_option maxHeartbeats 2000000 in
/-- sortEnts: what it sorts reads as the same elements in order, in the same place. -/
theorem sortEn_c (w : World) (B : Nat) (a : Option Addr) (c : Nat) (xs : List En) (h : OwnEn w B (.slice a xs.length c) xs) (hx : xs.length ≤ 1000000) :
    Calls Tryz.prog 37 #[.slice a xs.length c] w fun e w' => e = .returned (.tuple #[]) ∧ ∃ ys, ys.Perm xs ∧ (ys.Pairwise fun e f => Op.bytesLess f.p.data.toList e.p.data.toList = false) ∧ SlF En.cells w' a ys ∧ OwnEn w' B (.slice a ys.length c) ys ∧ Below B w w' := by
  rcases Nat.eq_zero_or_pos xs.length with h0 | hn
  · have hcon := AnyF.slices_SortFunc_none Tryz.sortEnt a c (.func (.func 79) #[] #[]) w
    obtain rfl : xs = [] := List.length_eq_zero_iff.1 h0
    change Calls Tryz.prog 78 _ _ _ at hcon
    go_enter Tryz.func37, Tryz.ntmps37
    go_wp2_with (go_at_call 78; refine hcon.mono ?_; rintro e w' ⟨rfl, rfl⟩)
    go_end0
    exact ⟨rfl, [], List.Perm.refl _, List.Pairwise.nil, SlF.nil_, h, Below.refl _ _⟩
  · have eg : ∀ args w, (callFunc 79 args).run Tryz.prog w = .ok (.enter 79 args) w := enters_of Tryz.func79 (by kernel_rfl) rfl
    obtain ⟨g, c', hv, _, _, _, _, _⟩ := own_form h hn
    obtain ⟨rfl, rfl⟩ : a = some ⟨g, 0, none⟩ ∧ c = c' := by injection hv with h1 h2 h3; exact ⟨h1, h3⟩
    obtain ⟨hH, hB, hg⟩ := holdsK_own (f := En.cells) (fun _ => rfl) h hn
    have hcon := AnyQ.slices_SortFunc Tryz.sortEnt 3 Tryz.isAgg39 Tryz.sizeOf39 En.cells (fun _ => rfl) (fun x v hv => by simp [En.cells] at hv; rcases hv with rfl | rfl | rfl <;> rfl) (fun x y => cmpB x.p y.p) (swoB En.p) 79 #[] g 0 c xs.toArray w eg (fun _ _ _ _ x y => cmpEn_c x y _) hH hg (by simp; omega)
    change Calls Tryz.prog 78 _ _ _ at hcon
    rw [List.size_toArray] at hcon
    have HH := Lib.hid hH
    have HO := Lib.hid h
    clear hH h hv
    go_enter Tryz.func37, Tryz.ntmps37
    go_wp2_with (go_at_call 78; refine hcon.mono ?_; rintro e w' ⟨rfl, d', n, os, hp, hs, rfl⟩)
    go_end0
    have hz : xs.toArray.size = xs.length := by simp
    rw [← hz] at hp
    have hd : d'.size = xs.length := by rw [← hz]; exact hp.1
    refine ⟨rfl, d'.toList, permIn_list hp, (sorted_list hd hs).imp (fun h => by rw [lt_cmpB] at h; exact h), slf_holdsK (fun _ => rfl) (holdsK_sortWorldK_c _ 3 w g 0 xs.toArray d' n os HH.out hg (by rw [hd, hz])) (Nat.lt_of_lt_of_le hg (size_sortWorldK_c _ 3 w g 0 n d' os)), own_sort (fun _ => rfl) HO.out hg hd (holdsK_sortWorldK_c _ 3 w g 0 xs.toArray d' n os HH.out hg (by rw [hd, hz])), below_sort hB hg⟩
set_option maxHeartbeats 2000000 in
theorem cmpMk_c (x y : Mk) (W : World) : Calls Tryz.prog 96 #[Mk.val x, Mk.val y] W fun e w' => e = .returned (.int .i64 (cmpB x.p y.p)) ∧ ∃ q os', w' = grow (W.drewN q) os' := by
  have hcon := compareS_c
  go_enter Tryz.func96, Tryz.ntmps96
  go_wp2_with (go_at_call 80; refine (hcon _ _ _).mono ?_; rintro e w' ⟨rfl, rfl⟩)
  go_ret
  exact ⟨rfl, 0, _, by rw [alloc_eq_grow, alloc_eq_grow, grow_grow]; rfl⟩
set_option maxHeartbeats 2000000 in
/-- sortMarks: what it sorts reads as the same elements in order, in the same place. -/
theorem sortMk_c (w : World) (B : Nat) (a : Option Addr) (c : Nat) (xs : List Mk) (h : OwnMk w B (.slice a xs.length c) xs) (hx : xs.length ≤ 1000000) :
    Calls Tryz.prog 59 #[.slice a xs.length c] w fun e w' => e = .returned (.tuple #[]) ∧ ∃ ys, ys.Perm xs ∧ (ys.Pairwise fun e f => Op.bytesLess f.p.data.toList e.p.data.toList = false) ∧ SlF Mk.cells w' a ys ∧ OwnMk w' B (.slice a ys.length c) ys ∧ Below B w w' := by
  rcases Nat.eq_zero_or_pos xs.length with h0 | hn
  · have hcon := AnyF.slices_SortFunc_none Tryz.sortMark a c (.func (.func 96) #[] #[]) w
    obtain rfl : xs = [] := List.length_eq_zero_iff.1 h0
    change Calls Tryz.prog 95 _ _ _ at hcon
    go_enter Tryz.func59, Tryz.ntmps59
    go_wp2_with (go_at_call 95; refine hcon.mono ?_; rintro e w' ⟨rfl, rfl⟩)
    go_end0
    exact ⟨rfl, [], List.Perm.refl _, List.Pairwise.nil, SlF.nil_, h, Below.refl _ _⟩
  · have eg : ∀ args w, (callFunc 96 args).run Tryz.prog w = .ok (.enter 96 args) w := enters_of Tryz.func96 (by kernel_rfl) rfl
    obtain ⟨g, c', hv, _, _, _, _, _⟩ := own_form h hn
    obtain ⟨rfl, rfl⟩ : a = some ⟨g, 0, none⟩ ∧ c = c' := by injection hv with h1 h2 h3; exact ⟨h1, h3⟩
    obtain ⟨hH, hB, hg⟩ := holdsK_own (f := Mk.cells) (fun _ => rfl) h hn
    have hcon := AnyQ.slices_SortFunc Tryz.sortMark 3 Tryz.isAgg43 Tryz.sizeOf43 Mk.cells (fun _ => rfl) (fun x v hv => by simp [Mk.cells] at hv; rcases hv with rfl | rfl | rfl <;> rfl) (fun x y => cmpB x.p y.p) (swoB Mk.p) 96 #[] g 0 c xs.toArray w eg (fun _ _ _ _ x y => cmpMk_c x y _) hH hg (by simp; omega)
    change Calls Tryz.prog 95 _ _ _ at hcon
    rw [List.size_toArray] at hcon
    have HH := Lib.hid hH
    have HO := Lib.hid h
    clear hH h hv
    go_enter Tryz.func59, Tryz.ntmps59
    go_wp2_with (go_at_call 95; refine hcon.mono ?_; rintro e w' ⟨rfl, d', n, os, hp, hs, rfl⟩)
    go_end0
    have hz : xs.toArray.size = xs.length := by simp
    rw [← hz] at hp
    have hd : d'.size = xs.length := by rw [← hz]; exact hp.1
    refine ⟨rfl, d'.toList, permIn_list hp, (sorted_list hd hs).imp (fun h => by rw [lt_cmpB] at h; exact h), slf_holdsK (fun _ => rfl) (holdsK_sortWorldK_c _ 3 w g 0 xs.toArray d' n os HH.out hg (by rw [hd, hz])) (Nat.lt_of_lt_of_le hg (size_sortWorldK_c _ 3 w g 0 n d' os)), own_sort (fun _ => rfl) HO.out hg hd (holdsK_sortWorldK_c _ 3 w g 0 xs.toArray d' n os HH.out hg (by rw [hd, hz])), below_sort hB hg⟩
end Go.Proofs.YtdhbdcmnbhjjaaaGreatDoor
namespace Go.Proofs.YtdhbdcmnbhjjaaaGreatDoor
open Go.RowKit
open Classical in
/-- What LayerOn tells. -/
noncomputable def lonB (l : List PM) (t : List PE) : Bool := decide (LOk l ∧ TOk t ∧ (onL l t).length ≤ 16)
noncomputable def lonL (l : List PM) (t : List PE) : List PE := if lonB l t then onL l t else []
theorem lon_bad {l : List PM} {t : List PE} (h : ¬ (LOk l ∧ TOk t)) : lonB l t = false := by
  unfold lonB; rw [decide_eq_false_iff_not]; exact fun h' => h ⟨h'.1, h'.2.1⟩
theorem lon_ok {l : List PM} {t : List PE} (h : LOk l) (h' : TOk t) : lonB l t = decide ((onL l t).length ≤ 16) := by
  unfold lonB; simp [h, h']
/-- What is kept of the tree. -/
def keptT (l : List PM) (t : List PE) : List PE := t.filter fun e => (atP PM.p l e.p).isNone && !hidesL l e.p
theorem keptT_snoc (l : List PM) (t : List PE) (e : PE) : keptT l (t ++ [e]) = keptT l t ++ if (atP PM.p l e.p).isNone && !hidesL l e.p then [e] else [] := by
  unfold keptT
  rw [List.filter_append]
  congr 1
  rw [List.filter_cons]
  split <;> simp_all
def onMk (m : Mk) : Option En := if m.k = 3 then none else some ⟨m.p, dirM m.pl, m.x⟩
theorem on_snoc (xs : List Mk) (k : Nat) (e : Mk) (he : xs[k]? = some e) (pre : List PE) (ms : List En) (h : ms.map En.pl = pre ++ (((xs.take k).map Mk.pl).filter fun m => decide (m.k ≠ 3)).map toE) :
    (ms ++ (onMk e).toList).map En.pl = pre ++ (((xs.take (k + 1)).map Mk.pl).filter fun m => decide (m.k ≠ 3)).map toE := by
  rw [take_ml xs k e he, List.filter_append, List.map_append, List.map_append, h, List.append_assoc]
  congr 2
  rw [List.filter_cons]
  unfold onMk
  by_cases h3 : e.k = 3
  · rw [if_pos h3, if_neg (by rw [show e.pl.k = e.k from rfl]; simp [h3])]; rfl
  · rw [if_neg h3, if_pos (by rw [show e.pl.k = e.k from rfl]; simp [h3])]; rfl
/-- An append of one struct, inside a region. -/
theorem op_app1 {P : Program} {o : Oper} {a : Act} {K : Act → World → Prop} {Q : Exit → Act → World → Prop} (s x : Operand) (t : TypeId)
    (ho : o.op = .call { callee := .builtin .append, args := #[s, x], argTypes := #[t, t] }) {e : TypeId} {size bytes : Nat} (E : Elt P t e size bytes)
    (base B : Nat) (w0 w : World) (cs : Array Value) (v : Value) (n : Nat) (xs : List Value) (hs : a.eval s = v) (hx : a.eval x = .slice (some ⟨w.heap.size, 0, none⟩) 1 1)
    (hown : w.ownsRow base e size v n xs) (hcs : cs.size = size) (h1 : ∀ u ∈ cs.toList, u.oneCell' = true) (hn : n ≤ 1000000) (hbase : base ≤ w.heap.size) (hB : Below B w0 w) (hBb : B ≤ base)
    (h : ∀ v' w', w'.ownsRow base e size v' (n + 1) (xs ++ cs.toList) → Below B w0 w' → (w.alloc (.cells cs e)).grownBy w' v.ownBlock → K (a.put o.dst v') w') : o.wp P a (w.alloc (.cells cs e)) K Q := by
  obtain ⟨i, z, hi, hz, hsz, hby, hzs⟩ := E.info
  have hsm := E.small
  refine wp_append_own _ s x t ho base e i z size bytes E.und hi hz hsz hby hzs E.pos v n xs hs (hown.alloc _) ⟨w.heap.size, 0, none⟩ 1 1 cs.toList hx (by simp [hcs]) ?_ h1 (by unfold maxLen; omega) ?_ (by simp; omega) ?_
  · intro j u hj
    have hc := cell_of_row _ _ j _ e (0, 0) (heap_alloc_new w (.cells cs e))
    have ha : (⟨w.heap.size, 0, none⟩ : Addr).add j = ⟨w.heap.size, j, none⟩ := by
      unfold Addr.add
      by_cases h0 : j = 0 <;> simp [h0]
    rw [ha, hc]
    simpa using hj
  · have : (n + 1) * bytes ≤ 1000001 * 64 := Nat.mul_le_mul (by omega) hsm
    omega
  · intro v' w' h2 h3 _
    refine h v' w' h2 ((hB.alloc (Nat.le_trans hBb hbase) _).grown h3 (by simp; omega) ?_) h3
    intro k hk
    rcases hown.2 with ⟨rfl, _⟩ | ⟨g, cap, cur, rfl, hg, _⟩
    · simp [Value.ownBlock] at hk
    · simp [Value.ownBlock] at hk; omega
theorem cell_gr {w w' : World} {own : Option Nat} {a : Addr} {v : Value} (hg : w.grownBy w' own) (h : w.cell? a = some v) (hne : own ≠ some a.block) : w'.cell? a = some v := by
  have hb := hg.block a.block (World.block_lt_of_cell? _ _ h) (Ne.symm hne)
  rw [← h]
  unfold World.cell?
  simp only [hb]
set_option maxRecDepth 100000 in
set_option maxHeartbeats 8000000 in
theorem layerOn_c (a a' : Option Addr) (c c' : Nat) (xs : List Mk) (ys : List En) (w : World) (hs : SlF Mk.cells w a xs) (hs' : SlF En.cells w a' ys) (hx : xs.length ≤ maxLen) (hy : ys.length ≤ maxLen) (hz : ∀ e ∈ xs, e.p.size ≤ 2000000 ∧ e.x.size ≤ 2000000) (hz' : ∀ e ∈ ys, e.p.size ≤ 2000000 ∧ e.x.size ≤ 2000000) :
    Calls Tryz.prog 14 #[.slice a xs.length c, .slice a' ys.length c'] w (MadeEb (lonL (xs.map Mk.pl) (ys.map En.pl)) (lonB (xs.map Mk.pl) (ys.map En.pl)) w) := by
  have HE := eltEn
  have hm2 : (2000000 : Nat) ≤ maxLen := by unfold maxLen; omega
  have hb := Below.refl w.heap.size w
  obtain ⟨r, hr⟩ := lok_dec xs
  obtain ⟨r', hr'⟩ := tok_dec ys
  have HT := Lib.hid (layerOk_c a c xs r (Lib.hid hr) w hs hx hz)
  have HT' := Lib.hid (fun W (h : SlF En.cells W a' ys) => treeOk_c a' c' ys r' (Lib.hid hr') W h hy (fun e he => ⟨Nat.le_trans (hz' e he).1 hm2, Nat.le_trans (hz' e he).2 hm2⟩))
  obtain ⟨L, hL⟩ : ∃ L, lonL (xs.map Mk.pl) (ys.map En.pl) = L := ⟨_, rfl⟩
  obtain ⟨B, hB⟩ : ∃ B, lonB (xs.map Mk.pl) (ys.map En.pl) = B := ⟨_, rfl⟩
  have hbd : ¬ (r = true ∧ r' = true) → B = false := fun h => by rw [← hB]; exact lon_bad fun h' => h ⟨hr.2 h'.1, hr'.2 h'.2⟩
  have HBD := Lib.hid hbd
  have HLD : Hid (¬ (r = true ∧ r' = true) → [] = L) := fun h => by rw [← hL]; unfold lonL; rw [hB, hbd h]; rfl
  rw [hL, hB]
  have HR := Lib.hid hr
  have HR' := Lib.hid hr'
  have HS := Lib.hid hs
  have HS' := Lib.hid hs'
  have HLL := Lib.hid hL
  have HBB := Lib.hid hB
  have HZ := Lib.hid hz
  have HZ' := Lib.hid hz'
  have GA := fun (q : ByteArray) (o : Option Mk) (ho : Hid (getM xs q = o)) W (h : SlF Mk.cells W a xs) => Lib.hid (markAt_c a c xs q o ho W h hx)
  have GH := fun (q : ByteArray) (hq : q.size ≤ 2000000) (r : Bool) (hr : Hid (hidesL (xs.map Mk.pl) q.data.toList = r)) W (h : SlF Mk.cells W a xs) => Lib.hid (hides_c a c xs q r hr W h hx hq hz)
  obtain ⟨n, hn⟩ : ∃ n, xs.length = n := ⟨_, rfl⟩
  obtain ⟨n', hn'⟩ : ∃ n, ys.length = n := ⟨_, rfl⟩
  have HN := Lib.hid hn
  have HN' := Lib.hid hn'
  have HALL : Hid (xs.take n = xs) := by rw [Hid, ← hn, List.take_length]
  have HALL' : Hid (ys.take n' = ys) := by rw [Hid, ← hn', List.take_length]
  rw [hn] at HT GA GH ⊢
  rw [hn'] at HT' ⊢
  have HGA := Lib.hid GA
  have HGH := Lib.hid GH
  clear hr hr' hs hs' hL hB hbd hz hz' hn hn' GA GH hm2
  cases r with
  | false =>
    go_enter Tryz.func14, Tryz.ntmps14
    go_wp2_with fail
    refine (HT.out).mono ?_; rintro e W ⟨rfl, hq⟩; replace hb := chn hb hq; clear hq
    go_wp2
    refine bodyPost_ret (v := .tuple #[.slice none 0 0, .bool false]) (by simp [results, Tryz.results14, go_sem]) rfl ⟨none, 0, [], by rw [HBD.out (by simp)]; rfl, HLD.out (by simp), World.ownsRow_nil _ _ _ _, hb⟩
  | true =>
  cases r' with
  | false =>
    go_enter Tryz.func14, Tryz.ntmps14
    go_wp2_with fail
    refine (HT.out).mono ?_; rintro e W ⟨rfl, hq⟩; replace hb := chn hb hq; clear hq
    go_wp2_with fail
    refine (HT'.out _ (HS'.out.below hb)).mono ?_; rintro e W ⟨rfl, hq⟩; replace hb := chn hb hq; clear hq
    go_wp2
    refine bodyPost_ret (v := .tuple #[.slice none 0 0, .bool false]) (by simp [results, Tryz.results14, go_sem]) rfl ⟨none, 0, [], by rw [HBD.out (by simp)]; rfl, HLD.out (by simp), World.ownsRow_nil _ _ _ _, hb⟩
  | true =>
    have HLX := Lib.hid (HR.out.1 rfl)
    have HTY := Lib.hid (HR'.out.1 rfl)
    have hx32 : n ≤ 32 := by have := HLX.out.most; rw [List.length_map, HN.out] at this; exact this
    have hy16 : n' ≤ 16 := by have := HTY.out.most; rw [List.length_map, HN'.out] at this; exact this
    clear HR HR' HBD HLD hx hy
    go_enter Tryz.func14, Tryz.ntmps14
    go_wp2_with fail
    refine (HT.out).mono ?_; rintro e W ⟨rfl, hq⟩; replace hb := chn hb hq; clear hq
    go_wp2_with fail
    refine (HT'.out _ (HS'.out.below hb)).mono ?_; rintro e W ⟨rfl, hq⟩; replace hb := chn hb hq; clear hq
    have HB0 := Lib.hid hb
    clear hb
    go_wp2
    go_loopw [6, 23] (fun v i wr => ∃ (k : Nat) (ms : List En), k ≤ n' ∧ ms.length ≤ k ∧ i = .int .i64 k ∧ ms.map En.pl = keptT (xs.map Mk.pl) ((ys.take k).map En.pl) ∧ wr.ownsRow w.heap.size 39 3 v ms.length (ms.flatMap En.cells) ∧ Below w.heap.size w wr) (fun _ i _ => n' - (intOf i).toNat)
    case atStart => exact ⟨0, [], Nat.zero_le _, Nat.zero_le _, rfl, rfl, World.ownsRow_nil _ _ _ _, HB0.out⟩
    case round =>
      obtain ⟨k, ms, hk, hml, rfl, hms, hown, hb⟩ := hrel
      have HMS := Lib.hid hms
      clear hms
      by_cases hlt : k < n'
      · obtain ⟨e, hee⟩ : ∃ e, ys[k]? = some e := ⟨_, List.getElem?_eq_getElem (by rw [HN'.out]; exact hlt)⟩
        have hzz := HZ'.out e (List.mem_of_getElem? hee)
        have hsx := HS.out.below hb
        have hsy := HS'.out.below hb
        obtain ⟨b', off', rfl, _⟩ := hsy.addr (by rw [HN'.out]; omega)
        obtain ⟨d0, d1, d2⟩ := en_at hsy k e hee
        have HSN : Hid (keptT (xs.map Mk.pl) ((ys.take (k + 1)).map En.pl) = keptT (xs.map Mk.pl) ((ys.take k).map En.pl) ++ if ((getM xs e.p).map Mk.pl).isNone && !hidesL (xs.map Mk.pl) e.p.data.toList then [e.pl] else []) := by
          rw [Hid, take_pl ys k e hee, keptT_snoc]; show _ ++ (if (atP PM.p (xs.map Mk.pl) e.p.data.toList).isNone && _ then _ else _) = _; rw [getM_pl]; rfl
        obtain ⟨o, ho⟩ : ∃ o, Hid (getM xs e.p = o) := ⟨_, rfl⟩
        obtain ⟨r, hr⟩ : ∃ r, Hid (hidesL (xs.map Mk.pl) e.p.data.toList = r) := ⟨_, rfl⟩
        rw [ho.out, hr.out] at HSN
        obtain ⟨ep, ed, ex⟩ := e
        clear hee
        have i0 : (0 : Int) ≤ (k : Int) := by omega
        have i1 : (k : Int) < (n' : Int) := by omega
        have q0 := new_cell wr #[.string ep, .bool ed, .string ex] 39 0 (.string ep) rfl
        have q1 := new_cell wr #[.string ep, .bool ed, .string ex] 39 1 (.bool ed) rfl
        have q2 := new_cell wr #[.string ep, .bool ed, .string ex] 39 2 (.string ex) rfl
        replace hown := own_below hown (bellow_alloc wr (.cells #[.string ep, .bool ed, .string ex] 39))
        replace hb := hb.alloc hb.size (.cells #[.string ep, .bool ed, .string ex] 39); replace hsx := SlF.below hsx (bellow_alloc _ (.cells #[.string ep, .bool ed, .string ex] 39)); replace hsy := SlF.below hsy (bellow_alloc _ (.cells #[.string ep, .bool ed, .string ex] 39)); 
        cases o with
        | some u =>
          have HSM : Hid (ms.map En.pl = keptT (xs.map Mk.pl) ((ys.take (k + 1)).map En.pl)) := by rw [Hid, HSN.out, HMS.out]; simp
          go_wp2_with fail
          refine ((HGA.out ep (some u) ho _ hsx).out).mono ?_; rintro e W ⟨rfl, hq⟩; replace hb := chn hb hq; replace hsx := SlF.below hsx hq; replace hsy := SlF.below hsy hq; replace hown := own_below hown hq; clear hq
          go_wp2
          go_roundw
          case rel => exact ⟨k + 1, ms, by omega, by omega, by go_num, HSM.out, own_below hown (bellow_alloc _ _), hb.alloc hb.size _⟩
          case measure => simp [intOf]; omega
        | none =>
          go_wp2_with fail
          refine ((HGA.out ep none ho _ hsx).out).mono ?_; rintro e W ⟨rfl, hq⟩; replace hb := chn hb hq; replace hsx := SlF.below hsx hq; replace hsy := SlF.below hsy hq; replace hown := own_below hown hq; replace q0 := keepc hq q0; replace q1 := keepc hq q1; replace q2 := keepc hq q2; clear hq
          replace hown := own_below hown (bellow_alloc W (.cells #[.string ⟨#[]⟩, .int .i64 0, .string ⟨#[]⟩] 43))
          replace hb := hb.alloc hb.size (.cells #[.string ⟨#[]⟩, .int .i64 0, .string ⟨#[]⟩] 43); replace hsx := SlF.below hsx (bellow_alloc _ (.cells #[.string ⟨#[]⟩, .int .i64 0, .string ⟨#[]⟩] 43)); replace hsy := SlF.below hsy (bellow_alloc _ (.cells #[.string ⟨#[]⟩, .int .i64 0, .string ⟨#[]⟩] 43)); replace q0 := keepc (bellow_alloc _ (.cells #[.string ⟨#[]⟩, .int .i64 0, .string ⟨#[]⟩] 43)) q0; replace q1 := keepc (bellow_alloc _ (.cells #[.string ⟨#[]⟩, .int .i64 0, .string ⟨#[]⟩] 43)) q1; replace q2 := keepc (bellow_alloc _ (.cells #[.string ⟨#[]⟩, .int .i64 0, .string ⟨#[]⟩] 43)) q2; 
          go_wp2_with fail
          refine ((HGH.out ep hzz.1 r hr _ hsx).out).mono ?_; rintro e W ⟨rfl, hq⟩; replace hb := chn hb hq; replace hsx := SlF.below hsx hq; replace hsy := SlF.below hsy hq; replace hown := own_below hown hq; replace q0 := keepc hq q0; replace q1 := keepc hq q1; replace q2 := keepc hq q2; clear hq
          cases r with
          | true =>
            have HSM : Hid (ms.map En.pl = keptT (xs.map Mk.pl) ((ys.take (k + 1)).map En.pl)) := by rw [Hid, HSN.out, HMS.out]; simp
            go_wp2
            go_roundw
            case rel => exact ⟨k + 1, ms, by omega, by omega, by go_num, HSM.out, hown, hb⟩
            case measure => simp [intOf]; omega
          | false =>
            have HSM : Hid ((ms ++ [(⟨ep, ed, ex⟩ : En)]).map En.pl = keptT (xs.map Mk.pl) ((ys.take (k + 1)).map En.pl)) := by rw [Hid, HSN.out, List.map_append, HMS.out]; simp
            go_wp2_with (at_builtin; go_must (refine wp_app1 (by rfl) _ _ 23 (by rfl) HE w.heap.size w.heap.size w _ #[.string ep, .bool ed, .string ex] _ _ _ (by rfl) (by rfl) hown (by rfl) (by simp [Value.oneCell']) (by omega) hb.size hb (Nat.le_refl _) ?_); intro v' w1 hown1 hbel1 _ _)
            go_roundw
            case rel => exact ⟨k + 1, ms ++ [⟨ep, ed, ex⟩], by omega, by simp; omega, by go_num, HSM.out, by rw [← flat_app]; simpa using hown1, hbel1⟩
            case measure => simp [intOf]; omega
      · obtain rfl : k = n' := by omega
        have HMK : Hid (ms.map En.pl = keptT (xs.map Mk.pl) (ys.map En.pl)) := by rw [Hid, HMS.out, HALL'.out]
        have HOWN := Lib.hid hown
        have HBK := Lib.hid hb
        have HML := Lib.hid hml
        clear hown hb hml HMS
        go_wp2
        go_loopw [6, 50] (fun v i wr => ∃ (j : Nat) (ns : List En), j ≤ n ∧ ns.length ≤ 16 + j ∧ i = .int .i64 j ∧ ns.map En.pl = keptT (xs.map Mk.pl) (ys.map En.pl) ++ (((xs.take j).map Mk.pl).filter fun m => decide (m.k ≠ 3)).map toE ∧ wr.ownsRow w.heap.size 39 3 v ns.length (ns.flatMap En.cells) ∧ Below w.heap.size w wr) (fun _ i _ => n - (intOf i).toNat)
        case atStart => exact ⟨0, ms, Nat.zero_le _, by have := HML.out; omega, rfl, by rw [HMK.out]; simp, HOWN.out, HBK.out⟩
        case round =>
          obtain ⟨j, ns, hj, hnl, rfl, hns, hown, hb⟩ := hrel
          have HNS := Lib.hid hns
          clear hns
          by_cases hlt2 : j < n
          · obtain ⟨e, hee⟩ : ∃ e, xs[j]? = some e := ⟨_, List.getElem?_eq_getElem (by rw [HN.out]; exact hlt2)⟩
            have hsx := HS.out.below hb
            obtain ⟨b, off, rfl, _⟩ := hsx.addr (by rw [HN.out]; omega)
            obtain ⟨d0, d1, d2⟩ := mk_at hsx j e hee
            have HSN := Lib.hid (on_snoc xs j e hee _ ns HNS.out)
            obtain ⟨r, hr⟩ : ∃ r, dirM e.pl = r := ⟨_, rfl⟩
            have HRR := Lib.hid hr
            obtain ⟨ep, ek, ex⟩ := e
            have i0 : (0 : Int) ≤ (j : Int) := by omega
            have i1 : (j : Int) < (n : Int) := by omega
            have q0 := new_cell wr #[.string ep, .int .i64 ek, .string ex] 43 0 (.string ep) rfl
            have q1 := new_cell wr #[.string ep, .int .i64 ek, .string ex] 43 1 (.int .i64 ek) rfl
            have q2 := new_cell wr #[.string ep, .int .i64 ek, .string ex] 43 2 (.string ex) rfl
            clear hee
            by_cases h3 : ek = 3
            · have n3 : (ek != 3) = false := by simp [h3]
              have HSM : Hid (ns.map En.pl = keptT (xs.map Mk.pl) (ys.map En.pl) ++ (((xs.take (j + 1)).map Mk.pl).filter fun m => decide (m.k ≠ 3)).map toE) := by
                have h := HSN.out; unfold onMk at h; rw [if_pos h3, Option.toList_none, List.append_nil] at h; exact h
              clear h3 hr
              go_wp2
              go_roundw
              case rel => exact ⟨j + 1, ns, by omega, by omega, by go_num, HSM.out, own_below hown (bellow_alloc _ _), hb.alloc hb.size _⟩
              case measure => simp [intOf]; omega
            · have n3 : (ek != 3) = true := by rw [bne_iff_ne]; exact h3
              have HSM : Hid ((ns ++ [(⟨ep, r, ex⟩ : En)]).map En.pl = keptT (xs.map Mk.pl) (ys.map En.pl) ++ (((xs.take (j + 1)).map Mk.pl).filter fun m => decide (m.k ≠ 3)).map toE) := by
                have h := HSN.out; unfold onMk at h; rw [if_neg h3, hr] at h; exact h
              obtain ⟨v1, v2, rfl⟩ := own_shape hown
              have HNE : Hid ((Value.slice v1 ns.length v2).ownBlock ≠ some wr.heap.size) := fun h => Nat.lt_irrefl _ (hown.lt _ h).2
              replace hown := own_below hown (bellow_alloc wr (.cells #[.string ep, .int .i64 ek, .string ex] 43))
              replace hb := hb.alloc hb.size (.cells #[.string ep, .int .i64 ek, .string ex] 43); 
              clear h3 hr hsx
              go_wp2_with fail
              refine wp_region_held_drew (S := fun w' => w'.cell? ⟨wr.heap.size, 0, none⟩ = some (.string ep) ∧ w'.cell? ⟨wr.heap.size, 1, none⟩ = some (.int .i64 ek) ∧ w'.cell? ⟨wr.heap.size, 2, none⟩ = some (.string ex)) (by kernel_rfl) (⟨keepc (below_drew _) q0, keepc (below_drew _) q1, keepc (below_drew _) q2⟩) (fun hHeld => ?_)
              refine tk (i := 0) (d := (some 57)) (v := ?_) rfl rfl (by kernel_rfl) (by kernel_rfl) (by kernel_rfl) (fun _ _ _ h => h) (Or.inl ⟨by rfl, ?_⟩) hHeld ?_
              rotate_left
              · intro w hSw; obtain ⟨z0, z1, z2⟩ := hSw; go_simp <;> with_reducible rfl
              (try simp only [Act.put, List.setIfInBounds_toArray, List.set_cons_zero, List.set_cons_succ])
              refine tk (i := 1) (d := (some 58)) (v := ?_) rfl rfl (by kernel_rfl) (by kernel_rfl) (by kernel_rfl) (fun _ _ _ h => h) (Or.inl ⟨by rfl, ?_⟩) hHeld ?_
              rotate_left
              · intro w hSw; obtain ⟨z0, z1, z2⟩ := hSw; go_simp <;> with_reducible rfl
              (try simp only [Act.put, List.setIfInBounds_toArray, List.set_cons_zero, List.set_cons_succ])
              refine tk (i := 2) (d := (some 59)) (v := ?_) rfl rfl (by kernel_rfl) (by kernel_rfl) (by kernel_rfl) (fun _ _ _ h => h) (Or.inl ⟨by rfl, ?_⟩) hHeld ?_
              rotate_left
              · intro w hSw; obtain ⟨z0, z1, z2⟩ := hSw; go_simp <;> with_reducible rfl
              (try simp only [Act.put, List.setIfInBounds_toArray, List.set_cons_zero, List.set_cons_succ])
              refine tk (i := 3) (d := (some 60)) (v := ?_) rfl rfl (by kernel_rfl) (by kernel_rfl) (by kernel_rfl) (fun _ _ _ h => h) (Or.inl ⟨by rfl, ?_⟩) hHeld ?_
              rotate_left
              · intro w hSw; obtain ⟨z0, z1, z2⟩ := hSw; go_simp <;> with_reducible rfl
              (try simp only [Act.put, List.setIfInBounds_toArray, List.set_cons_zero, List.set_cons_succ])
              refine tk (i := 5) (d := (some 62)) (v := ?_) rfl rfl (by kernel_rfl) (by kernel_rfl) (by kernel_rfl) (fun _ _ _ h => h) (Or.inl ⟨by rfl, ?_⟩) hHeld ?_
              rotate_left
              · intro w hSw; obtain ⟨z0, z1, z2⟩ := hSw; go_simp <;> with_reducible rfl
              (try simp only [Act.put, List.setIfInBounds_toArray, List.set_cons_zero, List.set_cons_succ])
              refine tk (i := 6) (d := (some 63)) (v := ?_) rfl rfl (by kernel_rfl) (by kernel_rfl) (by kernel_rfl) (fun _ _ _ h => h) (Or.inl ⟨by rfl, ?_⟩) hHeld ?_
              rotate_left
              · intro w hSw; obtain ⟨z0, z1, z2⟩ := hSw; go_simp <;> with_reducible rfl
              (try simp only [Act.put, List.setIfInBounds_toArray, List.set_cons_zero, List.set_cons_succ])
              refine wpAnyH_ready (rs := [4]) (by kernel_rfl) (by simp) ?_
              refine AllReadyH.cons rfl (fun K hK => ?_) AllReadyH.nil
              go_simp
              refine (isDir_c ⟨ep, ek, ex⟩ r HRR _).mono ?_; rintro e W ⟨rfl,hq⟩
              go_simp
              refine hK.out _ _ (⟨keepc hq hHeld.1, keepc hq hHeld.2.1, keepc hq hHeld.2.2⟩) (fun h => ?_)
              clear hK K; replace hHeld := h; clear h
              (try simp only [Act.put, List.setIfInBounds_toArray, List.set_cons_zero, List.set_cons_succ])
              have hb2 := chn hb ((below_drew _).trans hq)
              have how2 := own_below (own_below hown (below_drew _)) hq
              refine tk (i := 7) (d := (some 64)) (v := ?_) rfl rfl (by kernel_rfl) (by kernel_rfl) (by kernel_rfl) (fun _ _ _ h => h) (Or.inl ⟨by rfl, ?_⟩) hHeld ?_
              rotate_left
              · intro w hSw; obtain ⟨z0, z1, z2⟩ := hSw; go_simp <;> with_reducible rfl
              (try simp only [Act.put, List.setIfInBounds_toArray, List.set_cons_zero, List.set_cons_succ])
              refine wpAnyH_ready (rs := [8]) (by kernel_rfl) (by simp) ?_
              refine AllReadyH.cons rfl (fun K hK => ?_) AllReadyH.nil
              go_simp
              refine hK.out _ _ (⟨keepc (bellow_alloc _ _) hHeld.1, keepc (bellow_alloc _ _) hHeld.2.1, keepc (bellow_alloc _ _) hHeld.2.2⟩) (fun h => ?_)
              clear hK K; replace hHeld := h; clear h
              (try simp only [Act.put, List.setIfInBounds_toArray, List.set_cons_zero, List.set_cons_succ])
              refine wpAnyH_ready (rs := [9]) (by kernel_rfl) (by simp) ?_
              refine AllReadyH.cons rfl (fun K hK => ?_) AllReadyH.nil
              rw [if_pos (by kernel_rfl)]
              refine op_app1 _ _ 23 (by rfl) HE w.heap.size w.heap.size w _ #[.string ep, .bool r, .string ex] _ _ _ (by rfl) (by rfl) how2 (by rfl) (by simp [Value.oneCell']) (by omega) hb2.size hb2 (Nat.le_refl _) ?_; intro v' w1 hown1 hbel1 hgr
              refine hK.out _ _ (⟨cell_gr hgr hHeld.1 HNE.out, cell_gr hgr hHeld.2.1 HNE.out, cell_gr hgr hHeld.2.2 HNE.out⟩) (fun h => ?_)
              clear hK K; replace hHeld := h; clear h
              (try simp only [Act.put, List.setIfInBounds_toArray])
              refine tk (i := 10) (d := (some 6)) (v := ?_) rfl rfl (by kernel_rfl) (by kernel_rfl) (by kernel_rfl) (fun _ _ _ h => h) (Or.inl ⟨by rfl, ?_⟩) hHeld ?_
              rotate_left
              · intro w hSw; obtain ⟨z0, z1, z2⟩ := hSw; go_simp <;> with_reducible rfl
              (try simp only [Act.put])
              refine wpAnyH_done (by kernel_rfl) ?_ _
              go_wp2
              go_roundw
              case rel => exact ⟨j + 1, ns ++ [⟨ep, r, ex⟩], by omega, by simp; omega, by go_num, HSM.out, by rw [← flat_app]; simpa using hown1, hbel1⟩
              case measure => simp [intOf]; omega
          · obtain rfl : j = n := by omega
            have HRAW : Hid (ns.map En.pl = onRaw (xs.map Mk.pl) (ys.map En.pl)) := by rw [Hid, HNS.out, HALL.out]; rfl
            have HLEN : Hid (ns.length = (onL (xs.map Mk.pl) (ys.map En.pl)).length) := by
              rw [Hid, ← on_raw_len HLX.out.ord HTY.out.ordP, ← HRAW.out, List.length_map]
            have HBE : Hid (decide (ns.length ≤ 16) = B) := by rw [Hid, ← HBB.out, lon_ok HLX.out HTY.out, HLEN.out]
            by_cases h16 : 16 < ns.length
            · have hg : (16 : Int) < (ns.length : Int) := by omega
              obtain rfl : B = false := by rw [← HBE.out, decide_eq_false_iff_not]; omega
              have HL0 : Hid ([] = L) := by rw [Hid, ← HLL.out]; unfold lonL; rw [HBB.out]; rfl
              obtain ⟨v1, v2, rfl⟩ := own_shape hown
              go_wp2
              refine bodyPost_ret (v := .tuple #[.slice none 0 0, .bool false]) (by simp [results, Tryz.results14, go_sem]) rfl ⟨none, 0, [], rfl, HL0.out, World.ownsRow_nil _ _ _ _, hb⟩
            · have hg : decide ((16 : Int) < (ns.length : Int)) = false := by rw [decide_eq_false_iff_not]; omega
              obtain rfl : B = true := by rw [← HBE.out, decide_eq_true_iff]; omega
              have HL1 : Hid (onL (xs.map Mk.pl) (ys.map En.pl) = L) := by rw [Hid, ← HLL.out]; unfold lonL; rw [HBB.out]; rfl
              obtain ⟨v1, v2, rfl⟩ := own_shape hown
              go_wp2_with fail
              refine (sortEn_c _ w.heap.size v1 v2 ns hown (by omega)).mono ?_; rintro e W2 ⟨rfl, zs, hp, hso, _, hz2, hq⟩
              have hzl : ns.length = zs.length := hp.length_eq.symm
              have HEQ : Hid (zs.map En.pl = L) := by
                rw [Hid, ← HL1.out]
                refine on_of_raw HLX.out.ord HTY.out.ordP (by rw [← HRAW.out]; exact hp.map _) ?_
                rw [List.pairwise_map]
                exact hso
              go_wp2
              refine bodyPost_ret (v := .tuple #[.slice v1 zs.length v2, .bool true]) (by simp [results, Tryz.results14, go_sem]) rfl ⟨v1, v2, zs, rfl, HEQ.out, hz2, hb.trans hq⟩
end Go.Proofs.YtdhbdcmnbhjjaaaGreatDoor
namespace Go.Proofs.YtdhbdcmnbhjjaaaGreatDoor
open Go.RowKit
/-- What the reference keeps of the tree. -/
def freeT (l : List PM) (t : List PE) : List PE := t.filter fun e => !hidesL l e.p
theorem freeT_snoc (l : List PM) (xs : List En) (k : Nat) (e : En) (he : xs[k]? = some e) (ms : List En) (h : ms.map En.pl = freeT l ((xs.take k).map En.pl)) :
    (ms ++ if hidesL l e.p.data.toList = true then [] else [e]).map En.pl = freeT l ((xs.take (k + 1)).map En.pl) := by
  rw [take_pl xs k e he]
  unfold freeT at *
  rw [List.filter_append, List.map_append, h]
  congr 1
  rw [List.filter_cons, show e.pl.p = e.p.data.toList from rfl]
  cases hidesL l e.p.data.toList <;> rfl
theorem freeT_len (l : List PM) (xs : List En) (k : Nat) (ms : List En) (h : ms.map En.pl = freeT l ((xs.take k).map En.pl)) : ms.length ≤ k := by
  have h1 := congrArg List.length h
  have h2 := List.length_filter_le (fun e : PE => !hidesL l e.p) ((xs.take k).map En.pl)
  unfold freeT at h1
  simp only [List.length_map, List.length_take] at h1 h2
  omega
/-- The rest of what the reference makes. -/
def laidT (l : List PM) (pre : List PE) : List PE := ((l.filter fun m => decide (m.k ≠ 3)).map toE).foldl (putP PE.p) pre
theorem laidT_snoc (xs : List Mk) (k : Nat) (e : Mk) (he : xs[k]? = some e) (pre : List PE) : laidT ((xs.take (k + 1)).map Mk.pl) pre = if e.k = 3 then laidT ((xs.take k).map Mk.pl) pre else putP PE.p (laidT ((xs.take k).map Mk.pl) pre) (toE e.pl) := by
  unfold laidT
  rw [take_ml xs k e he, List.filter_append, List.map_append, List.foldl_append, List.filter_cons, show e.pl.k = e.k from rfl]
  by_cases h3 : e.k = 3
  · rw [if_pos h3, if_neg (by simp [h3])]; rfl
  · rw [if_neg h3, if_pos (by simp [h3])]; rfl
set_option maxRecDepth 100000 in
set_option maxHeartbeats 8000000 in
theorem l3On_c (a a' : Option Addr) (c c' : Nat) (xs : List Mk) (ys : List En) (w : World) (hs : SlF Mk.cells w a xs) (hs' : SlF En.cells w a' ys) (hl : LOk (xs.map Mk.pl)) (ht : TOk (ys.map En.pl)) (hz : ∀ e ∈ xs, e.p.size ≤ 2000000 ∧ e.x.size ≤ 2000000) (hz' : ∀ e ∈ ys, e.p.size ≤ 2000000 ∧ e.x.size ≤ 2000000) :
    Calls Tryz.prog 47 #[.slice a xs.length c, .slice a' ys.length c'] w (MadeEl (onL (xs.map Mk.pl) (ys.map En.pl)) w) := by
  have HE := eltEn
  have hx32 : xs.length ≤ 32 := by have := hl.most; rw [List.length_map] at this; exact this
  have hy16 : ys.length ≤ 16 := by have := ht.most; rw [List.length_map] at this; exact this
  have hxm : xs.length ≤ maxLen := by unfold maxLen; omega
  have GH := fun (q : ByteArray) (hp : pathOkL q.data.toList = true) (hq : q.size ≤ 2000000) (r : Bool) (hr : Hid (hidesL (xs.map Mk.pl) q.data.toList = r)) W (h : SlF Mk.cells W a xs) => Lib.hid (l3Hides_c a c xs q r (by rw [Hid, hideQ_eq hp (fun m hm => hl.pth hm)]; exact hr) W h hxm hq hz)
  have HPY : Hid (∀ e ∈ ys, pathOkL e.p.data.toList = true) := fun e he => ht.pth (e := e.pl) (List.mem_map_of_mem he)
  have HMK : Hid (∀ e ∈ xs, markOkL e.pl = true) := fun e he => hl.mks e.pl (List.mem_map_of_mem he)
  have HS := Lib.hid hs
  have HS' := Lib.hid hs'
  have HZ := Lib.hid hz
  have HZ' := Lib.hid hz'
  obtain ⟨n, hn⟩ : ∃ n, xs.length = n := ⟨_, rfl⟩
  obtain ⟨n', hn'⟩ : ∃ n, ys.length = n := ⟨_, rfl⟩
  have HN := Lib.hid hn
  have HN' := Lib.hid hn'
  have HALL : Hid (xs.take n = xs) := by rw [Hid, ← hn, List.take_length]
  have HALL' : Hid (ys.take n' = ys) := by rw [Hid, ← hn', List.take_length]
  rw [hn] at hx32 GH ⊢
  rw [hn'] at hy16 ⊢
  have HGH := Lib.hid GH
  clear hs hs' hz hz' hn hn' GH hxm hl ht
  go_enter Tryz.func47, Tryz.ntmps47
  go_wp2
  go_loopw [5, 6] (fun v i wr => ∃ (k : Nat) (ms : List En), k ≤ n' ∧ i = .int .i64 k ∧ ms.map En.pl = freeT (xs.map Mk.pl) ((ys.take k).map En.pl) ∧ v.ownBlock ≠ none ∧ wr.ownsRow w.heap.size 39 3 v ms.length (ms.flatMap En.cells) ∧ Below w.heap.size w wr) (fun _ i _ => n' - (intOf i).toNat)
  case atStart => exact ⟨0, [], Nat.zero_le _, rfl, rfl, by simp [Value.ownBlock], World.ownsRow_lit w #[] 0 (Nat.le_refl _) (Nat.zero_le _) rfl, bellow_alloc _ _⟩
  case round =>
    obtain ⟨k, ms, hk, rfl, hms, hvn, hown, hb⟩ := hrel
    have HMS := Lib.hid hms
    have hml := freeT_len _ _ _ _ hms
    have HVN := Lib.hid hvn
    clear hms hvn
    by_cases hlt : k < n'
    · obtain ⟨e, hee⟩ : ∃ e, ys[k]? = some e := ⟨_, List.getElem?_eq_getElem (by rw [HN'.out]; exact hlt)⟩
      have hzz := HZ'.out e (List.mem_of_getElem? hee)
      have hpp := HPY.out e (List.mem_of_getElem? hee)
      have hsx := HS.out.below hb
      have hsy := HS'.out.below hb
      obtain ⟨b', off', rfl, _⟩ := hsy.addr (by rw [HN'.out]; omega)
      obtain ⟨d0, d1, d2⟩ := en_at hsy k e hee
      have HSN := Lib.hid (freeT_snoc (xs.map Mk.pl) ys k e hee ms HMS.out)
      obtain ⟨r, hr⟩ : ∃ r, hidesL (xs.map Mk.pl) e.p.data.toList = r := ⟨_, rfl⟩
      have HR := Lib.hid hr
      rw [hr] at HSN
      obtain ⟨ep, ed, ex⟩ := e
      clear hee hr hsy
      have i0 : (0 : Int) ≤ (k : Int) := by omega
      have i1 : (k : Int) < (n' : Int) := by omega
      go_wp2_with fail
      refine ((HGH.out ep hpp hzz.1 r HR _ hsx).out).mono ?_; rintro e W ⟨rfl, hq⟩; replace hb := chn hb hq; replace hsx := SlF.below hsx hq; replace hown := own_below hown hq; replace d0 := keepc hq d0; replace d1 := keepc hq d1; replace d2 := keepc hq d2; clear hq
      cases r with
      | true =>
        have HSM : Hid (ms.map En.pl = freeT (xs.map Mk.pl) ((ys.take (k + 1)).map En.pl)) := by
          have h := HSN.out; rw [if_pos rfl, List.append_nil] at h; exact h
        go_wp2
        go_roundw
        case rel => exact ⟨k + 1, ms, by omega, by go_num, HSM.out, HVN.out, hown, hb⟩
        case measure => simp [intOf]; omega
      | false =>
        have HSM : Hid ((ms ++ [(⟨ep, ed, ex⟩ : En)]).map En.pl = freeT (xs.map Mk.pl) ((ys.take (k + 1)).map En.pl)) := HSN
        go_wp2_with (at_builtin; go_must (refine wp_app1 (by rfl) _ _ 23 (by rfl) HE w.heap.size w.heap.size w _ #[.string ep, .bool ed, .string ex] _ _ _ (by rfl) (by rfl) hown (by rfl) (by simp [Value.oneCell']) (by omega) hb.size hb (Nat.le_refl _) ?_); intro v' w1 hown1 hbel1 _ _)
        go_roundw
        case rel => exact ⟨k + 1, ms ++ [⟨ep, ed, ex⟩], by omega, by go_num, HSM.out, by rcases hown1.2 with ⟨rfl, h0⟩ | ⟨g, cap, cur, rfl, _⟩ <;> simp [Value.ownBlock] at *, by rw [← flat_app]; simpa using hown1, hbel1⟩
        case measure => simp [intOf]; omega
    · obtain rfl : k = n' := by omega
      have HMK2 : Hid (ms.map En.pl = freeT (xs.map Mk.pl) (ys.map En.pl)) := by rw [Hid, HMS.out, HALL'.out]
      have HOWR := Lib.hid (ownRe_of hown HVN.out)
      have HBK := Lib.hid hb
      have HML := Lib.hid hml
      clear hown hb hml HMS HVN
      go_wp2
      go_loopw [5, 7] (fun v i wr => ∃ (j : Nat) (ns : List En), j ≤ n ∧ ns.length ≤ 16 + j ∧ i = .int .i64 j ∧ ns.map En.pl = laidT ((xs.take j).map Mk.pl) (freeT (xs.map Mk.pl) (ys.map En.pl)) ∧ OwnRe wr w.heap.size v ns ∧ Below w.heap.size w wr) (fun _ i _ => n - (intOf i).toNat)
      case atStart => exact ⟨0, ms, Nat.zero_le _, by have := HML.out; omega, rfl, HMK2.out, HOWR.out, HBK.out⟩
      case round =>
        obtain ⟨j, ns, hj, hnl, rfl, hns, hown, hb⟩ := hrel
        have HNS := Lib.hid hns
        clear hns
        by_cases hlt2 : j < n
        · obtain ⟨e, hee⟩ : ∃ e, xs[j]? = some e := ⟨_, List.getElem?_eq_getElem (by rw [HN.out]; exact hlt2)⟩
          have hmk := HMK.out e (List.mem_of_getElem? hee)
          have hkk := markOk_kind hmk
          have hk1 : 1 ≤ e.k := hkk.1
          have hk4 : e.k ≤ 4 := hkk.2
          have hsx := HS.out.below hb
          obtain ⟨b, off, rfl, _⟩ := hsx.addr (by rw [HN.out]; omega)
          obtain ⟨d0, d1, d2⟩ := mk_at hsx j e hee
          have HSN := Lib.hid (laidT_snoc xs j e hee (freeT (xs.map Mk.pl) (ys.map En.pl)))
          have hnx : e.k ≠ 1 → e.x = ⟨#[]⟩ := fun h => bytes_eq (markOk_none hmk h)
          obtain ⟨ep, ek, ex⟩ := e
          have i0 : (0 : Int) ≤ (j : Int) := by omega
          have i1 : (j : Int) < (n : Int) := by omega
          clear hee hmk hkk hsx
          change 1 ≤ ek at hk1
          change ek ≤ 4 at hk4
          by_cases h1 : ek = 1
          · subst h1
            have HK3 := Lib.hid (by decide : ¬ (1 : Int) = 3)
            have HTE : Hid (toE (Mk.pl ⟨ep, 1, ex⟩) = En.pl ⟨ep, false, ex⟩) := rfl
            have hpl := eput_len ns ⟨ep, false, ex⟩
            have HNS2 : Hid ((putP En.bs ns ⟨ep, false, ex⟩).map En.pl = laidT ((xs.take (j + 1)).map Mk.pl) (freeT (xs.map Mk.pl) (ys.map En.pl))) := by
              rw [Hid, HSN.out, if_neg HK3.out, ← HNS.out, putP_map En.pl (f := En.bs) (g := PE.p) (fun _ => rfl)]
              exact congrArg (putP PE.p _) HTE.out.symm
            clear hnx hk1 hk4
            go_wp2_with fail
            go_still_tail 12, (by kernel_rfl)
            repeat still_step
            (try refine wpStill_nil ?_)
            change wpList _ _ _ _ _ wr.drew
            replace hb := chn hb (below_drew wr)
            replace hown := hown.below (below_drew wr)
            generalize wr.drew = W0 at hb hown ⊢
            go_wp2_with fail
            refine (l2PutO_c w.heap.size _ ns ⟨ep, false, ex⟩ _ hown hb.size (by omega)).mono ?_
            rintro e W2 ⟨v2, rfl, ho2, hq⟩
            replace hb := chn hb hq
            go_wp2
            go_roundw
            case rel => exact ⟨j + 1, _, by omega, by omega, by go_num, HNS2.out, ho2, hb⟩
            case measure => simp [intOf]; omega
          · have hx0 := hnx h1
            simp only at hx0
            subst hx0
            have n1 : (ek == 1) = false := by rw [beq_eq_false_iff_ne]; exact h1
            by_cases h3 : ek = 3
            · have n2 : (ek == 2) = false := by rw [beq_eq_false_iff_ne]; omega
              have n4 : (ek == 4) = false := by rw [beq_eq_false_iff_ne]; omega
              have HSM : Hid (ns.map En.pl = laidT ((xs.take (j + 1)).map Mk.pl) (freeT (xs.map Mk.pl) (ys.map En.pl))) := by rw [Hid, HSN.out, if_pos h3]; exact HNS.out
              clear h1 h3 hnx hk1 hk4
              go_wp2
              go_roundw
              case rel => exact ⟨j + 1, ns, by omega, by omega, by go_num, HSM.out, hown, hb⟩
              case measure => simp [intOf]; omega
            · have HK3 := Lib.hid h3
              by_cases h2 : ek = 2
              · subst h2
                have HTE : Hid (toE (Mk.pl ⟨ep, 2, ⟨#[]⟩⟩) = En.pl ⟨ep, true, ⟨#[]⟩⟩) := rfl
                have hpl := eput_len ns ⟨ep, true, ⟨#[]⟩⟩
                have HNS2 : Hid ((putP En.bs ns ⟨ep, true, ⟨#[]⟩⟩).map En.pl = laidT ((xs.take (j + 1)).map Mk.pl) (freeT (xs.map Mk.pl) (ys.map En.pl))) := by
                  rw [Hid, HSN.out, if_neg HK3.out, ← HNS.out, putP_map En.pl (f := En.bs) (g := PE.p) (fun _ => rfl)]
                  exact congrArg (putP PE.p _) HTE.out.symm
                clear hnx hk1 hk4 h1 h3
                go_wp2_with fail
                refine (l2PutO_c w.heap.size _ ns ⟨ep, true, ⟨#[]⟩⟩ _ hown hb.size (by omega)).mono ?_
                rintro e W2 ⟨v2, rfl, ho2, hq⟩
                replace hb := chn hb hq
                go_wp2
                go_roundw
                case rel => exact ⟨j + 1, _, by omega, by omega, by go_num, HNS2.out, ho2, hb⟩
                case measure => simp [intOf]; omega
              · have h4 : ek = 4 := by omega
                subst h4
                have HTE : Hid (toE (Mk.pl ⟨ep, 4, ⟨#[]⟩⟩) = En.pl ⟨ep, true, ⟨#[]⟩⟩) := rfl
                have hpl := eput_len ns ⟨ep, true, ⟨#[]⟩⟩
                have HNS2 : Hid ((putP En.bs ns ⟨ep, true, ⟨#[]⟩⟩).map En.pl = laidT ((xs.take (j + 1)).map Mk.pl) (freeT (xs.map Mk.pl) (ys.map En.pl))) := by
                  rw [Hid, HSN.out, if_neg HK3.out, ← HNS.out, putP_map En.pl (f := En.bs) (g := PE.p) (fun _ => rfl)]
                  exact congrArg (putP PE.p _) HTE.out.symm
                clear hnx hk1 hk4 h1 h3 h2
                go_wp2_with fail
                refine (l2PutO_c w.heap.size _ ns ⟨ep, true, ⟨#[]⟩⟩ _ hown hb.size (by omega)).mono ?_
                rintro e W2 ⟨v2, rfl, ho2, hq⟩
                replace hb := chn hb hq
                go_wp2
                go_roundw
                case rel => exact ⟨j + 1, _, by omega, by omega, by go_num, HNS2.out, ho2, hb⟩
                case measure => simp [intOf]; omega
        · obtain rfl : j = n := by omega
          have HRAW : Hid (ns.map En.pl = onL (xs.map Mk.pl) (ys.map En.pl)) := by rw [Hid, HNS.out, HALL.out]; rfl
          go_wp2
          go_ret
          exact ⟨_, ns, rfl, HRAW.out, hown, hb⟩
set_option maxRecDepth 100000 in
set_option maxHeartbeats 8000000 in
theorem sLayerOn_c (a a' : Option Addr) (c c' : Nat) (xs : List Mk) (ys : List En) (w : World) (hs : SlF Mk.cells w a xs) (hs' : SlF En.cells w a' ys) (hx : xs.length ≤ maxLen) (hy : ys.length ≤ maxLen) (hc : xs.length ≤ c) (hc' : ys.length ≤ c') (hz : ∀ e ∈ xs, e.p.size ≤ 2000000 ∧ e.x.size ≤ 2000000) (hz' : ∀ e ∈ ys, e.p.size ≤ 2000000 ∧ e.x.size ≤ 2000000) :
    Calls Tryz.prog 15 #[.slice a xs.length c, .slice a' ys.length c'] w (MadeEb (lonL (xs.map Mk.pl) (ys.map En.pl)) (lonB (xs.map Mk.pl) (ys.map En.pl)) w) := by
  have hm2 : (2000000 : Nat) ≤ maxLen := by unfold maxLen; omega
  have hb := Below.refl w.heap.size w
  obtain ⟨r, hr⟩ := lok_dec xs
  obtain ⟨r', hr'⟩ := tok_dec ys
  have HT := Lib.hid (sLayerOk_c a c xs r (Lib.hid hr) w hs hx hc hz)
  have HT' := Lib.hid (fun W (h : SlF En.cells W a' ys) => sTreeOk_c a' c' ys r' (Lib.hid hr') W h hy hc' (fun e he => ⟨Nat.le_trans (hz' e he).1 hm2, Nat.le_trans (hz' e he).2 hm2⟩))
  obtain ⟨L, hL⟩ : ∃ L, lonL (xs.map Mk.pl) (ys.map En.pl) = L := ⟨_, rfl⟩
  obtain ⟨B, hB⟩ : ∃ B, lonB (xs.map Mk.pl) (ys.map En.pl) = B := ⟨_, rfl⟩
  have hbd : ¬ (r = true ∧ r' = true) → B = false := fun h => by rw [← hB]; exact lon_bad fun h' => h ⟨hr.2 h'.1, hr'.2 h'.2⟩
  have HBD := Lib.hid hbd
  have HLD : Hid (¬ (r = true ∧ r' = true) → [] = L) := fun h => by rw [← hL]; unfold lonL; rw [hB, hbd h]; rfl
  have HON := Lib.hid (fun (h : r = true) (h' : r' = true) W (k : SlF Mk.cells W a xs) (k' : SlF En.cells W a' ys) => l3On_c a a' c c' xs ys W k k' (hr.1 h) (hr'.1 h') hz hz')
  have HBE : Hid (r = true → r' = true → decide ((onL (xs.map Mk.pl) (ys.map En.pl)).length ≤ 16) = B) := fun h h' => by rw [← hB, lon_ok (hr.1 h) (hr'.1 h')]
  have HLL := Lib.hid hL
  have HBB := Lib.hid hB
  rw [hL, hB]
  have HS := Lib.hid hs
  have HS' := Lib.hid hs'
  obtain ⟨n, hn⟩ : ∃ n, xs.length = n := ⟨_, rfl⟩
  obtain ⟨n', hn'⟩ : ∃ n, ys.length = n := ⟨_, rfl⟩
  rw [hn] at HT HON ⊢
  rw [hn'] at HT' HON ⊢
  clear hr hr' hs hs' hL hB hbd hz hz' hc hc' hx hy hn hn' hm2
  cases r with
  | false =>
    go_enter Tryz.func15, Tryz.ntmps15
    go_wp2_with fail
    refine HT.out.mono ?_; rintro e WS ⟨rfl, hq⟩; replace hb := chn hb hq; clear hq
    go_wp2
    refine bodyPost_ret (v := .tuple #[.slice (some ⟨WS.heap.size, 0, none⟩) 0 0, .bool false]) (by simp [results, Tryz.results15, go_sem]) rfl ⟨some ⟨WS.heap.size, 0, none⟩, 0, [], by rw [HBD.out (by simp)]; rfl, HLD.out (by simp), World.ownsRow_lit _ #[] 0 hb.size (Nat.zero_le _) rfl, hb.alloc hb.size _⟩
  | true =>
  cases r' with
  | false =>
    go_enter Tryz.func15, Tryz.ntmps15
    go_wp2_with fail
    refine (HT.out).mono ?_; rintro e W ⟨rfl, hq⟩; replace hb := chn hb hq; clear hq
    go_wp2_with fail
    refine (HT'.out _ (HS'.out.below hb)).mono ?_; rintro e WS ⟨rfl, hq⟩; replace hb := chn hb hq; clear hq
    go_wp2
    refine bodyPost_ret (v := .tuple #[.slice (some ⟨WS.heap.size, 0, none⟩) 0 0, .bool false]) (by simp [results, Tryz.results15, go_sem]) rfl ⟨some ⟨WS.heap.size, 0, none⟩, 0, [], by rw [HBD.out (by simp)]; rfl, HLD.out (by simp), World.ownsRow_lit _ #[] 0 hb.size (Nat.zero_le _) rfl, hb.alloc hb.size _⟩
  | true =>
    have HJ := Lib.hid (HON.out rfl rfl)
    have HBX := Lib.hid (HBE.out rfl rfl)
    clear HON HBE HBD HLD
    go_enter Tryz.func15, Tryz.ntmps15
    go_wp2_with fail
    refine (HT.out).mono ?_; rintro e W ⟨rfl, hq⟩; replace hb := chn hb hq; clear hq
    go_wp2_with fail
    refine (HT'.out _ (HS'.out.below hb)).mono ?_; rintro e W ⟨rfl, hq⟩; replace hb := chn hb hq; clear hq
    go_wp2_with fail
    refine (HJ.out _ (HS.out.below hb) (HS'.out.below hb)).mono ?_; rintro e WS ⟨v, ms, rfl, hms, ⟨g, c2, rfl, g1, g2, g3⟩, hq⟩
    have HB1 := Lib.hid hb.size
    replace hb := chn hb hq
    have HMS := Lib.hid hms
    have HML : Hid (ms.length = (onL (xs.map Mk.pl) (ys.map En.pl)).length) := by rw [Hid, ← hms, List.length_map]
    rw [← HML.out] at HBX
    clear hms hq
    by_cases h16 : 16 < ms.length
    · have hg : (16 : Int) < (ms.length : Int) := by omega
      obtain rfl : B = false := by rw [← HBX.out, decide_eq_false_iff_not]; omega
      have HL0 : Hid ([] = L) := by rw [Hid, ← HLL.out]; unfold lonL; rw [HBB.out]; rfl
      go_wp2
      refine bodyPost_ret (v := .tuple #[.slice (some ⟨WS.heap.size, 0, none⟩) 0 0, .bool false]) (by simp [results, Tryz.results15, go_sem]) rfl ⟨some ⟨WS.heap.size, 0, none⟩, 0, [], rfl, HL0.out, World.ownsRow_lit _ #[] 0 hb.size (Nat.zero_le _) rfl, hb.alloc hb.size _⟩
    · have hg : decide ((16 : Int) < (ms.length : Int)) = false := by rw [decide_eq_false_iff_not]; omega
      obtain rfl : B = true := by rw [← HBX.out, decide_eq_true_iff]; omega
      have HL1 : Hid (onL (xs.map Mk.pl) (ys.map En.pl) = L) := by rw [Hid, ← HLL.out]; unfold lonL; rw [HBB.out]; rfl
      go_wp2
      refine bodyPost_ret (v := .tuple #[.slice (some ⟨g, 0, none⟩) ms.length c2, .bool true]) (by simp [results, Tryz.results15, go_sem]) rfl ⟨_, c2, ms, rfl, HMS.out.trans HL1.out, own_mono g3 HB1.out, hb⟩
end Go.Proofs.YtdhbdcmnbhjjaaaGreatDoor
namespace Go.Proofs.YtdhbdcmnbhjjaaaGreatDoor
open Go.RowKit
/-- LayerOn, as the laws meet it. -/
theorem onI_c (a a' : Option Addr) (c c' n n' : Nat) (xs : List Mk) (ys : List En) (l : List PE) (b : Bool) (hb : Hid (lonB (xs.map Mk.pl) (ys.map En.pl) = b)) (hl : Hid (lonL (xs.map Mk.pl) (ys.map En.pl) = l)) (w : World) (hn : xs.length = n) (hn' : ys.length = n') (hs : SlF Mk.cells w a xs) (hs' : SlF En.cells w a' ys) (hx : n ≤ 1000) (hy : n' ≤ 1000) (hz : SmallM xs) (hz' : Small ys) :
    Calls Tryz.prog 14 #[.slice a n c, .slice a' n' c'] w (MadeEb l b w) := by
  subst hn hn'
  rw [← hb.out, ← hl.out]
  exact layerOn_c a a' c c' xs ys w hs hs' (by unfold maxLen; omega) (by unfold maxLen; omega) hz.mil hz'.mil
theorem onS_c (a a' : Option Addr) (c c' n n' : Nat) (xs : List Mk) (ys : List En) (l : List PE) (b : Bool) (hb : Hid (lonB (xs.map Mk.pl) (ys.map En.pl) = b)) (hl : Hid (lonL (xs.map Mk.pl) (ys.map En.pl) = l)) (w : World) (hn : xs.length = n) (hn' : ys.length = n') (hs : SlF Mk.cells w a xs) (hs' : SlF En.cells w a' ys) (hc : n ≤ c) (hc' : n' ≤ c') (hx : n ≤ 1000) (hy : n' ≤ 1000) (hz : SmallM xs) (hz' : Small ys) :
    Calls Tryz.prog 15 #[.slice a n c, .slice a' n' c'] w (MadeEb l b w) := by
  subst hn hn'
  rw [← hb.out, ← hl.out]
  exact sLayerOn_c a a' c c' xs ys w hs hs' (by unfold maxLen; omega) (by unfold maxLen; omega) hc hc' hz.mil hz'.mil
theorem slf_nilE (w : World) : SlF En.cells w none [] := fun h => by simp at h
/-- What a layer that can be laid says. -/
theorem lon_true {l : List PM} {t : List PE} (h : lonB l t = true) : LOk l ∧ TOk t ∧ (onL l t).length ≤ 16 ∧ lonL l t = onL l t ∧ TOk (onL l t) := by
  have h0 := h
  unfold lonB at h
  simp only [decide_eq_true_eq] at h
  exact ⟨h.1, h.2.1, h.2.2, by unfold lonL; rw [if_pos h0], on_tok h.1 h.2.1 h.2.2⟩
theorem lon_mk {l : List PM} {t : List PE} (h1 : LOk l) (h2 : TOk t) (h3 : (onL l t).length ≤ 16) : lonB l t = true ∧ lonL l t = onL l t := by
  have h : lonB l t = true := by rw [lon_ok h1 h2, decide_eq_true_eq]; exact h3
  exact ⟨h, by unfold lonL; rw [if_pos h]⟩
theorem lon_again {l : List PM} {t : List PE} (h : lonB l t = true) : lonB l (onL l t) = true ∧ lonL l (onL l t) = onL l t := by
  obtain ⟨h1, h2, h3, _, h5⟩ := lon_true h
  have h6 := on_twice h1.ord h2.ordP
  have h7 := lon_mk h1 h5 (by rw [h6]; exact h3)
  rw [h6] at h7
  exact h7
theorem lon_nil {t : List PE} (h : TOk t) : lonB [] t = true ∧ lonL [] t = t := by
  have h6 := on_nil h.ordP
  have h7 := lon_mk lok_nil h (by rw [h6]; exact h.most)
  rw [h6] at h7
  exact h7
end Go.Proofs.YtdhbdcmnbhjjaaaGreatDoor
namespace Go.Proofs.YtdhbdcmnbhjjaaaGreatDoor
open Go.RowKit
def bsOf (v : Value) : Bs := match v with
  | .string s => s.data.toList
  | _ => []
theorem take_at {α : Type} {ns ms : List α} {n k : Nat} {e : α} (h : ns.take n = ms) (he : ms[k]? = some e) : ns[k]? = some e := by
  subst h
  rw [List.getElem?_take] at he
  split at he
  · exact he
  · cases he
theorem take_app {α : Type} {ns ms : List α} {n : Nat} (x : List α) (h : ns.take n = ms) (hn : n ≤ ns.length) : (ns ++ x).take n = ms := by
  rw [List.take_append_of_le_length hn, h]
theorem fold_snoc {ms : List Mk} {k : Nat} {e : Mk} (he : ms[k]? = some e) (l : List PM) :
    ((ms.take (k + 1)).map Mk.pl).foldl (fun out m => upsR 3 out m.p) l = upsR 3 (((ms.take k).map Mk.pl).foldl (fun out m => upsR 3 out m.p) l) e.p.data.toList := by
  rw [take_ml ms k e he, List.foldl_append]; rfl
set_option maxRecDepth 100000 in
set_option maxHeartbeats 8000000 in
theorem layerDiff_c (a a' : Option Addr) (c c' : Nat) (xs ys : List En) (w : World) (hs : SlF En.cells w a xs) (hs' : SlF En.cells w a' ys) (hx : xs.length ≤ maxLen) (hy : ys.length ≤ maxLen) (hz : ∀ e ∈ xs, e.p.size ≤ 2000000 ∧ e.x.size ≤ 2000000) (hz' : ∀ e ∈ ys, e.p.size ≤ 2000000 ∧ e.x.size ≤ 2000000) :
    Calls Tryz.prog 22 #[.slice a xs.length c, .slice a' ys.length c'] w (MadeMl (tdiffL (xs.map En.pl) (ys.map En.pl)) w) := by
  have HE := eltMk
  have hm2 : (2000000 : Nat) ≤ maxLen := by unfold maxLen; omega
  have HT := Lib.hid (treeTurned_c a a' c c' xs ys w hs hs' hx hy (fun e he => ⟨Nat.le_trans (hz e he).1 hm2, Nat.le_trans (hz e he).2 hm2⟩) (fun e he => ⟨Nat.le_trans (hz' e he).1 hm2, Nat.le_trans (hz' e he).2 hm2⟩))
  have HEA := fun (q : ByteArray) (o : Option En) (ho : Hid (getE ys q = o)) W (h : SlF En.cells W a' ys) => Lib.hid (entAt_c a' c' ys q o ho W h hy)
  have HUC := fun (q : ByteArray) (m : Nat) (hm : Hid (upCodeL (ys.map En.pl) q.data.toList = m)) (hq : q.size ≤ maxLen) W (h : SlF En.cells W a' ys) => Lib.hid (upCode_c a' c' ys q m hm W h hy hq)
  have HQ : Hid (∀ q ∈ tturn (xs.map En.pl) (ys.map En.pl), pathOkL q = true) := fun q hq => by
    unfold tturn at hq
    split at hq
    · next h => exact turned_path h.1 h.2 hq
    · cases hq
  have HQL : Hid ((tturn (xs.map En.pl) (ys.map En.pl)).length ≤ 32) := by
    show _ ≤ _
    unfold tturn
    split
    · next h => have h1 := turned_len (a := xs.map En.pl) (b := ys.map En.pl); have h2 := h.1.most; have h3 := h.2.most; omega
    · simp
  have HS' := Lib.hid hs'
  obtain ⟨n, hn⟩ : ∃ n, xs.length = n := ⟨_, rfl⟩
  obtain ⟨n', hn'⟩ : ∃ n, ys.length = n := ⟨_, rfl⟩
  rw [hn] at HT ⊢
  rw [hn'] at HT HEA HUC ⊢
  have GEA := Lib.hid HEA
  have GUC := Lib.hid HUC
  clear hn hn' hs hs' hx hy hz hz' HEA HUC hm2
  go_enter Tryz.func22, Tryz.ntmps22
  go_wp2_with fail
  refine HT.out.mono ?_; rintro e W1 ⟨v, ss, rfl, hss, oS, hq⟩
  have HB1 := Lib.hid hq
  obtain ⟨av, cv, rfl⟩ := own_shape oS
  have HSS := Lib.hid hss
  have HSL := Lib.hid (own_sls oS rfl)
  have HY1 := Lib.hid (HS'.out.below hq)
  have hp32 : ss.length ≤ 32 := by have := congrArg List.length hss; rw [List.length_map] at this; rw [this]; exact HQL.out
  have HPT : Hid (∀ s ∈ ss, pathOkL s.data.toList = true) := fun s h => HQ.out _ (by rw [← hss]; exact List.mem_map.2 ⟨s, h, rfl⟩)
  obtain ⟨p, hp⟩ : ∃ p, ss.length = p := ⟨_, rfl⟩
  have HP := Lib.hid hp
  have HALL : Hid (ss.take p = ss) := by rw [Hid, ← hp, List.take_length]
  rw [hp] at hp32 ⊢
  clear hss oS hq hp
  go_wp2
  go_loopw [5, 18] (fun v i wr => ∃ (k : Nat) (ms : List Mk), k ≤ p ∧ ms.length ≤ k ∧ i = .int .i64 k ∧ ms.map Mk.pl = ((ss.take k).map (·.data.toList)).filterMap (dmark (ys.map En.pl)) ∧ wr.ownsRow W1.heap.size 43 3 v ms.length (ms.flatMap Mk.cells) ∧ Below W1.heap.size W1 wr) (fun _ i _ => p - (intOf i).toNat)
  case atStart => exact ⟨0, [], Nat.zero_le _, Nat.zero_le _, rfl, rfl, World.ownsRow_nil _ _ _ _, Below.refl _ _⟩
  case round =>
    obtain ⟨k, ms, hk, hml, rfl, hms, hown, hb⟩ := hrel
    have HMS := Lib.hid hms
    clear hms
    by_cases hlt : k < p
    · obtain ⟨q, hqq⟩ : ∃ q, ss[k]? = some q := ⟨_, List.getElem?_eq_getElem (by rw [HP.out]; exact hlt)⟩
      have hqp := HPT.out q (List.mem_of_getElem? hqq)
      have hqs : q.size ≤ maxLen := by have := (path_len hqp).2; rw [size_data] at this; unfold maxLen; omega
      obtain ⟨b, off, rfl, _, hc⟩ := (HSL.out.below hb) (by rw [HP.out]; omega)
      have d0 := hc k q hqq
      have hsy := HY1.out.below hb
      obtain ⟨o, ho⟩ : ∃ o, getE ys q = o := ⟨_, rfl⟩
      have HO := Lib.hid ho
      have HSN0 := Lib.hid (dmk_snoc ys ss k q hqq ms HMS.out)
      have i0 : (0 : Int) ≤ (k : Int) := by omega
      have i1 : (k : Int) < (p : Int) := by omega
      clear hc hqq hqp
      go_wp2_with fail
      refine (GEA.out q o HO _ hsy).out.mono ?_; rintro e W ⟨rfl, hq⟩; replace hb := chn hb hq; replace hsy := SlF.below hsy hq; replace hown := own_below hown hq; clear hq d0
      cases o with
      | some e =>
        obtain ⟨ep, ed, ex⟩ := e
        have q1 := new_cell W #[.string ep, .bool ed, .string ex] 39 1 (.bool ed) rfl
        have q2 := new_cell W #[.string ep, .bool ed, .string ex] 39 2 (.string ex) rfl
        replace hown := own_below hown (bellow_alloc W (.cells #[.string ep, .bool ed, .string ex] 39))
        replace hb := hb.alloc hb.size (.cells #[.string ep, .bool ed, .string ex] 39); replace hsy := SlF.below hsy (bellow_alloc _ (.cells #[.string ep, .bool ed, .string ex] 39)); 
        cases ed with
        | true =>
          have HSN : Hid ((ms ++ [(⟨q, 2, ⟨#[]⟩⟩ : Mk)]).map Mk.pl = ((ss.take (k + 1)).map (·.data.toList)).filterMap (dmark (ys.map En.pl))) := by
            have h := HSN0.out; unfold dmk at h; rw [ho] at h; exact h
          clear ho
          go_wp2_with (at_builtin; go_must (refine wp_app1H (by rfl) _ _ 32 (by rfl) HE W1.heap.size W1.heap.size W1 _ #[.string q, .int .i64 2, .string ⟨#[]⟩] _ _ _ (by rfl) (W.heap.size + 1) (by simp) (by rfl) hown (by rfl) (by simp [Value.oneCell']) (by omega) hb.size hb (Nat.le_refl _) ?_); intro v' w1 hown1 hbel1 _ _)
          go_roundw
          case rel => exact ⟨k + 1, ms ++ [⟨q, 2, ⟨#[]⟩⟩], by omega, by simp; omega, by go_num, HSN.out, by rw [← flat_mk]; simpa using hown1, hbel1⟩
          case measure => simp [intOf]; omega
        | false =>
          have HSN : Hid ((ms ++ [(⟨q, 1, ex⟩ : Mk)]).map Mk.pl = ((ss.take (k + 1)).map (·.data.toList)).filterMap (dmark (ys.map En.pl))) := by
            have h := HSN0.out; unfold dmk at h; rw [ho] at h; exact h
          clear ho
          go_wp2_with (at_builtin; go_must (refine wp_app1H (by rfl) _ _ 32 (by rfl) HE W1.heap.size W1.heap.size W1 _ #[.string q, .int .i64 1, .string ex] _ _ _ (by rfl) (W.heap.size + 1) (by simp) (by rfl) hown (by rfl) (by simp [Value.oneCell']) (by omega) hb.size hb (Nat.le_refl _) ?_); intro v' w1 hown1 hbel1 _ _)
          go_roundw
          case rel => exact ⟨k + 1, ms ++ [⟨q, 1, ex⟩], by omega, by simp; omega, by go_num, HSN.out, by rw [← flat_mk]; simpa using hown1, hbel1⟩
          case measure => simp [intOf]; omega
      | none =>
        obtain ⟨m, hm⟩ : ∃ m, upCodeL (ys.map En.pl) q.data.toList = m := ⟨_, rfl⟩
        have HM := Lib.hid hm
        replace hown := own_below hown (bellow_alloc W (.cells #[.string ⟨#[]⟩, .bool false, .string ⟨#[]⟩] 39))
        replace hb := hb.alloc hb.size (.cells #[.string ⟨#[]⟩, .bool false, .string ⟨#[]⟩] 39); replace hsy := SlF.below hsy (bellow_alloc _ (.cells #[.string ⟨#[]⟩, .bool false, .string ⟨#[]⟩] 39)); 
        go_wp2_with fail
        refine (GUC.out q m HM hqs _ hsy).out.mono ?_; rintro e W2 ⟨rfl, hq⟩; replace hb := chn hb hq; replace hsy := SlF.below hsy hq; replace hown := own_below hown hq; clear hq
        by_cases hm0 : m = 0
        · subst hm0
          have HSN : Hid ((ms ++ [(⟨q, 3, ⟨#[]⟩⟩ : Mk)]).map Mk.pl = ((ss.take (k + 1)).map (·.data.toList)).filterMap (dmark (ys.map En.pl))) := by
            have h := HSN0.out; unfold dmk at h; rw [ho] at h; simp only [hm, if_true] at h; exact h
          clear ho hm
          go_wp2_with (at_builtin; go_must (refine wp_app1H (by rfl) _ _ 32 (by rfl) HE W1.heap.size W1.heap.size W1 _ #[.string q, .int .i64 3, .string ⟨#[]⟩] _ _ _ (by rfl) W2.heap.size (by simp) (by rfl) hown (by rfl) (by simp [Value.oneCell']) (by omega) hb.size hb (Nat.le_refl _) ?_); intro v' w1 hown1 hbel1 _ _)
          go_roundw
          case rel => exact ⟨k + 1, ms ++ [⟨q, 3, ⟨#[]⟩⟩], by omega, by simp; omega, by go_num, HSN.out, by rw [← flat_mk]; simpa using hown1, hbel1⟩
          case measure => simp [intOf]; omega
        · have HSN : Hid (ms.map Mk.pl = ((ss.take (k + 1)).map (·.data.toList)).filterMap (dmark (ys.map En.pl))) := by
            have h := HSN0.out; unfold dmk at h; rw [ho] at h; simp only [hm, if_neg hm0, Option.toList_none, List.append_nil] at h; exact h
          have hne : ((m : Int) == 0) = false := by rw [beq_eq_false_iff_ne]; omega
          clear ho hm hm0
          go_wp2
          go_roundw
          case rel => exact ⟨k + 1, ms, by omega, by omega, by go_num, HSN.out, hown, hb⟩
          case measure => simp [intOf]; omega
    · obtain rfl : k = p := by omega
      have HMK : Hid (ms.map Mk.pl = (tturn (xs.map En.pl) (ys.map En.pl)).filterMap (dmark (ys.map En.pl))) := by rw [Hid, HMS.out, HALL.out, HSS.out]
      have HMP : Hid (∀ e ∈ ms, pathOkL e.p.data.toList = true) := fun e he => by
        have h1 : e.pl ∈ ms.map Mk.pl := List.mem_map_of_mem he
        rw [HMK.out] at h1
        obtain ⟨q, h2, h3⟩ := List.mem_filterMap.1 h1
        have := dmark_p h3
        have h4 := HQ.out q h2
        rw [← this] at h4; exact h4
      have hml32 : ms.length ≤ 32 := by omega
      have HOWN := Lib.hid hown
      have HBB := Lib.hid hb
      obtain ⟨l, hl⟩ : ∃ l, ms.length = l := ⟨_, rfl⟩
      have HL := Lib.hid hl
      obtain ⟨v1, v2, rfl⟩ := own_shape hown
      rw [hl] at hml32 HOWN ⊢
      clear hown hb hml HMS hl
      go_wp2
      go_loopw [5, 61] (fun v i wr => ∃ (k : Nat) (ns : List Mk), k ≤ l ∧ l ≤ ns.length ∧ ns.length ≤ l + 3 * k ∧ i = .int .i64 k ∧ ns.take l = ms ∧ ns.map Mk.pl = ((ms.take k).map Mk.pl).foldl (fun out m => upsR 3 out m.p) (ms.map Mk.pl) ∧ wr.ownsRow W1.heap.size 43 3 v ns.length (ns.flatMap Mk.cells) ∧ Below W1.heap.size W1 wr) (fun _ i _ => l - (intOf i).toNat)
      case atStart => exact ⟨0, ms, Nat.zero_le _, Nat.le_of_eq HL.out.symm, Nat.le_of_eq HL.out, rfl, by rw [← HL.out, List.take_length], rfl, by rw [HL.out]; exact HOWN.out, HBB.out⟩
      case round =>
        obtain ⟨j, ns, hj, hnl0, hnl1, rfl, htk, hns, hown, hb⟩ := hrel
        have HTK := Lib.hid htk
        have HNS := Lib.hid hns
        clear htk hns
        by_cases hlt2 : j < l
        · obtain ⟨e, hee⟩ : ∃ e, ms[j]? = some e := ⟨_, List.getElem?_eq_getElem (by rw [HL.out]; exact hlt2)⟩
          have hep := HMP.out e (List.mem_of_getElem? hee)
          have hes : e.p.size ≤ maxLen := by have := (path_len hep).2; rw [size_data] at this; unfold maxLen; omega
          have HFS := Lib.hid (fold_snoc hee (ms.map Mk.pl))
          obtain ⟨g1, g2, rfl⟩ := own_shape hown
          have hsn := own_slf (fun _ => rfl) hown
          obtain ⟨b, off, rfl, _⟩ := hsn.addr (by omega)
          obtain ⟨d0, _, _⟩ := mk_at hsn j e (take_at HTK.out hee)
          obtain ⟨u, hu⟩ := str_of20 (upL e.p.data.toList)
          have HU := Lib.hid hu
          obtain ⟨T, hT⟩ : ∃ T, upsR 3 (ns.map Mk.pl) e.p.data.toList = T := ⟨_, rfl⟩
          have HTT := Lib.hid hT
          have HTF : Hid (((ms.take (j + 1)).map Mk.pl).foldl (fun out m => upsR 3 out m.p) (ms.map Mk.pl) = T) := by rw [Hid, HFS.out, ← HNS.out, hT]
          have HEP := Lib.hid hep
          obtain ⟨N, hN⟩ : ∃ N, ns.length = N := ⟨_, rfl⟩
          have i0 : (0 : Int) ≤ (j : Int) := by omega
          have i1 : (j : Int) < (N : Int) := by omega
          rw [hN] at hnl0 hnl1 ⊢
          have HOW := Lib.hid hown
          have HBW := Lib.hid hb
          have HNN := Lib.hid hN
          clear hee hep hsn hu hT hN hown hb
          go_wp2_with fail
          refine (pathUp_c e.p u HU _ hes).mono ?_; rintro e' W ⟨rfl, hq⟩
          have HB3 := Lib.hid (chn HBW.out hq)
          have HOW3 := Lib.hid (own_below HOW.out hq)
          clear hq d0
          go_wp2
          go_loopw [5, 11] (fun v i wr => ∃ (cur : List Mk) (s u : ByteArray) (r : Nat), l ≤ cur.length ∧ cur.length + r ≤ N + 3 ∧ cur.take l = ms ∧ i = .string u ∧ upL s.data.toList = u.data.toList ∧ pathOkL s.data.toList = true ∧ levelsL s.data.toList ≤ r ∧ upsR r (cur.map Mk.pl) s.data.toList = T ∧ wr.ownsRow W1.heap.size 43 3 v cur.length (cur.flatMap Mk.cells) ∧ Below W1.heap.size W1 wr) (fun _ i _ => levelsL (bsOf i))
          case atStart => exact ⟨ns, e.p, u, 3, by have := HNN.out; omega, by have := HNN.out; omega, HTK.out, rfl, HU.out, HEP.out, levels_3 _, HTT.out, by rw [HNN.out] at *; exact HOW3.out, HB3.out⟩
          case round =>
            obtain ⟨cur, s, u', r, hc0, hc1, hct, rfl, hsu, hsp, hsl, hsT, hown, hb⟩ := hrel
            have HCT := Lib.hid hct
            clear hct
            by_cases hroot : u'.data.toList = [47]
            · have hqr := beq_yes hroot
              have HTC : Hid (cur.map Mk.pl = ((ms.take (j + 1)).map Mk.pl).foldl (fun out m => upsR 3 out m.p) (ms.map Mk.pl)) := by rw [Hid, HTF.out, ← hsT, upsR_end (by rw [hsu]; exact hroot)]
              clear hroot hsu hsp hsl hsT
              go_wp2
              go_roundw
              case rel => exact ⟨j + 1, cur, by omega, by omega, by omega, by go_num, HCT.out, HTC.out, hown, hb⟩
              case measure => simp [intOf]; omega
            · have hqr := beq_no hroot
              obtain ⟨r', rfl, hup, hul, hstep⟩ := upsR_step (l := cur.map Mk.pl) hsp hsl (by rw [hsu]; exact hroot)
              rw [hsT, hsu] at hstep
              rw [hsu] at hup hul
              have hus : u'.size ≤ maxLen := by have := (path_len hup).2; rw [size_data] at this; unfold maxLen; omega
              obtain ⟨u2, hu2⟩ := str_of20 (upL u'.data.toList)
              have HU2 := Lib.hid hu2
              obtain ⟨o, ho⟩ : ∃ o, getM cur u' = o := ⟨_, rfl⟩
              have HO := Lib.hid ho
              rw [getM_pl, ho] at hstep
              have HST := Lib.hid hstep
              have HUP := Lib.hid hup
              have HUL := Lib.hid hul
              have HLV := Lib.hid (levels_up hup)
              have hcm : cur.length ≤ maxLen := by unfold maxLen; omega
              obtain ⟨x1, x2, rfl⟩ := own_shape hown
              have HMA := Lib.hid (markAt_c x1 x2 cur u' o HO _ (own_slf (fun _ => rfl) hown) hcm)
              clear hroot hsu hsp hsl hsT hu2 ho hstep hup hul
              go_wp2_with fail
              refine HMA.out.mono ?_; rintro e' W4 ⟨rfl, hq⟩; replace hb := chn hb hq; replace hown := own_below hown hq; clear hq HMA
              cases o with
              | some m =>
                obtain ⟨mp, mk, mx⟩ := m
                replace hown := own_below hown (bellow_alloc W4 (.cells #[.string mp, .int .i64 mk, .string mx] 43))
                replace hb := hb.alloc hb.size (.cells #[.string mp, .int .i64 mk, .string mx] 43); 
                go_wp2_with fail
                refine (pathUp_c u' u2 HU2 _ hus).mono ?_; rintro e' W5 ⟨rfl, hq⟩; replace hb := chn hb hq; replace hown := own_below hown hq; clear hq
                go_wp2
                go_roundw
                case rel => exact ⟨cur, u', u2, r', hc0, by omega, HCT.out, rfl, HU2.out, HUP.out, HUL.out, HST.out.symm, hown, hb⟩
                case measure => show levelsL u2.data.toList < levelsL u'.data.toList; rw [HLV.out, HU2.out]; omega
              | none =>
                replace hown := own_below hown (bellow_alloc W4 (.cells #[.string ⟨#[]⟩, .int .i64 0, .string ⟨#[]⟩] 43))
                replace hb := hb.alloc hb.size (.cells #[.string ⟨#[]⟩, .int .i64 0, .string ⟨#[]⟩] 43); 
                go_wp2_with (at_builtin; go_must (refine wp_app1H (by rfl) _ _ 32 (by rfl) HE W1.heap.size W1.heap.size W1 _ #[.string u', .int .i64 2, .string ⟨#[]⟩] _ _ _ (by rfl) (W4.heap.size + 1) (by simp) (by rfl) hown (by rfl) (by simp [Value.oneCell']) (by omega) hb.size hb (Nat.le_refl _) ?_); intro v' w1 hown1 hbel1 _ _)
                refine (pathUp_c u' u2 HU2 _ hus).mono ?_; rintro e' W5 ⟨rfl, hq⟩; replace hbel1 := chn hbel1 hq; replace hown1 := own_below hown1 hq; clear hq
                go_wp2
                go_roundw
                case rel => exact ⟨cur ++ [⟨u', 2, ⟨#[]⟩⟩], u', u2, r', by simp; omega, by simp; omega, take_app _ HCT.out hc0, rfl, HU2.out, HUP.out, HUL.out, by rw [List.map_append]; exact HST.out.symm, by rw [← flat_mk]; simpa using hown1, hbel1⟩
                case measure => show levelsL u2.data.toList < levelsL u'.data.toList; rw [HLV.out, HU2.out]; omega
        · obtain rfl : j = l := by omega
          have HRAW : Hid (ns.map Mk.pl = rawQ (ys.map En.pl) (tturn (xs.map En.pl) (ys.map En.pl))) := by
            rw [Hid, HNS.out, ← HL.out, List.take_length, HMK.out]; rfl
          obtain ⟨g1, g2, rfl⟩ := own_shape hown
          go_wp2_with fail
          refine (sortMk_c _ W1.heap.size g1 g2 ns hown (by omega)).mono ?_; rintro e W2 ⟨rfl, zs, hp, hso, _, hz2, hq⟩
          have hzl : ns.length = zs.length := hp.length_eq.symm
          have HEQ : Hid (zs.map Mk.pl = tdiffL (xs.map En.pl) (ys.map En.pl)) := by
            refine tdiff_of_raw (by rw [← HRAW.out]; exact hp.map _) ?_
            rw [List.pairwise_map]
            exact hso
          go_wp2
          go_ret
          exact ⟨g1, g2, zs, by first | rfl | rw [hzl], HEQ.out, own_mono hz2 HB1.out.size, (HB1.out.trans (hb.mono HB1.out.size)).trans (hq.mono HB1.out.size)⟩
end Go.Proofs.YtdhbdcmnbhjjaaaGreatDoor
namespace Go.Proofs.YtdhbdcmnbhjjaaaGreatDoor
open Go.RowKit
theorem diffI_c (a a' : Option Addr) (c c' n n' : Nat) (xs ys : List En) (L : List PM) (hL : Hid (tdiffL (xs.map En.pl) (ys.map En.pl) = L)) (w : World) (hn : xs.length = n) (hn' : ys.length = n') (hs : SlF En.cells w a xs) (hs' : SlF En.cells w a' ys) (hx : n ≤ 1000) (hy : n' ≤ 1000) (hz : Small xs) (hz' : Small ys) :
    Calls Tryz.prog 22 #[.slice a n c, .slice a' n' c'] w (MadeMl L w) := by
  subst hn hn'
  rw [← hL.out]
  exact layerDiff_c a a' c c' xs ys w hs hs' (by unfold maxLen; omega) (by unfold maxLen; omega) hz.mil hz'.mil
theorem diffS_c (a a' : Option Addr) (c c' n n' : Nat) (xs ys : List En) (L : List PM) (hL : Hid (tdiffL (xs.map En.pl) (ys.map En.pl) = L)) (w : World) (hn : xs.length = n) (hn' : ys.length = n') (hs : ReadEn w a c xs) (hs' : ReadEn w a' c' ys) (hx : n ≤ 1000) (hy : n' ≤ 1000) (hz : Small xs) (hz' : Small ys) :
    Calls Tryz.prog 24 #[.slice a n c, .slice a' n' c'] w (MadeMl L w) := by
  subst hn hn'
  rw [← hL.out]
  obtain ⟨b0, o0, rfl, h1, h2, h3, h4⟩ := hs
  obtain ⟨b1, o1, rfl, _, k2, k3, k4⟩ := hs'
  exact sLayerDiff_c _ _ c c' xs ys w ⟨b0, o0, b1, o1, rfl, rfl, h1⟩ h2 k2 (by unfold maxLen; omega) (by unfold maxLen; omega) h3 h4 k3 hz.mil hz'.mil
theorem tdiff_ok {a b : List PE} (h : TOk a) (h' : TOk b) : tdiffL a b = diffL a b := by unfold tdiffL; rw [if_pos ⟨h, h'⟩]
theorem tdiff_bad {a b : List PE} (h : ¬ (TOk a ∧ TOk b)) : tdiffL a b = [] := by unfold tdiffL; rw [if_neg h]
theorem tdiff_self {a : List PE} (h : TOk a) : tdiffL a a = [] := by rw [tdiff_ok h h, diff_self h]
theorem lon_diff {a b : List PE} (h : TOk a) (h' : TOk b) : lonB (diffL a b) a = true ∧ lonL (diffL a b) a = b := by
  have h6 := diff_on h h'
  have h7 := lon_mk (diff_lok h h') h (by rw [h6]; exact h'.most)
  rw [h6] at h7
  exact h7
theorem own_cap {w : World} {B : Nat} {e : TypeId} {size : Nat} {a : Option Addr} {n c : Nat} {xs : List Value} (h : w.ownsRow B e size (.slice a n c) n xs) : n ≤ c := by
  rcases h.2 with ⟨h1, _⟩ | ⟨g, cap, cur, h1, _, _, hnc, _⟩
  · injection h1 with h1 h2 h3; omega
  · injection h1 with h1 h2 h3; omega
end Go.Proofs.YtdhbdcmnbhjjaaaGreatDoor
namespace Go.Proofs.YtdhbdcmnbhjjaaaGreatDoor
open Go.RowKit
set_option maxRecDepth 100000 in
set_option maxHeartbeats 8000000 in
theorem lawLayerTwice_w (w : World) (a : Option Addr) (n c : Nat) (h : Code w a n c) : Calls Tryz.prog 5 #[.slice a n c] w (TrueB w) := by
  have hn := h.2.2
  by_cases hbig : 1048576 < n
  · clear h
    go_enter Tryz.func5, Tryz.ntmps5
    go_wp2
    go_ret
    exact ⟨rfl, Below.refl _ _⟩
  have HD := Lib.hid (drawLayerOn_c w a n c h)
  clear h
  go_enter Tryz.func5, Tryz.ntmps5
  go_wp2_with fail
  refine HD.out.mono ?_; rintro e W1 ⟨a1, c1, xs, a2, c2, ys, rfl, hR, hz, hx, hR2, hz2, hy, hb⟩
  have hcn := hR.cap
  have hcn2 := hR2.cap
  obtain ⟨n1, hn1⟩ : ∃ m, xs.length = m := ⟨_, rfl⟩
  obtain ⟨n2, hn2⟩ : ∃ m, ys.length = m := ⟨_, rfl⟩
  rw [hn1] at hx hcn ⊢
  rw [hn2] at hy hcn2 ⊢
  have HN1 := Lib.hid hn1
  have HN2 := Lib.hid hn2
  have HZ := Lib.hid hz
  have HZ2 := Lib.hid hz2
  obtain ⟨B, hB⟩ : ∃ b, lonB (xs.map Mk.pl) (ys.map En.pl) = b := ⟨_, rfl⟩
  obtain ⟨L, hL⟩ : ∃ b, lonL (xs.map Mk.pl) (ys.map En.pl) = b := ⟨_, rfl⟩
  have HLB := Lib.hid hB
  have HLL := Lib.hid hL
  have HI := Lib.hid (fun W (h : SlF Mk.cells W a1 xs) (h' : SlF En.cells W a2 ys) => onI_c a1 a2 c1 c2 n1 n2 xs ys L B (Lib.hid hB) (Lib.hid hL) W HN1.out HN2.out h h' (by omega) (by omega) HZ.out HZ2.out)
  have HS := Lib.hid (fun W (h : SlF Mk.cells W a1 xs) (h' : SlF En.cells W a2 ys) => onS_c a1 a2 c1 c2 n1 n2 xs ys L B (Lib.hid hB) (Lib.hid hL) W HN1.out HN2.out h h' hcn hcn2 (by omega) (by omega) HZ.out HZ2.out)
  clear hn1 hn2 hz hz2 HD hB hL
  go_wp2_with fail
  refine (HI.out _ hR.sl hR2.sl).mono ?_; rintro e W2 ⟨a3, c3, zs, rfl, hzs, ho3, hq⟩; replace hb := chn hb hq; replace hR := hR.below hq; replace hR2 := hR2.below hq; clear hq HI
  have hsl3 : SlF En.cells W2 a3 zs := own_slf (fun _ => rfl) ho3
  obtain ⟨n3, hn3⟩ : ∃ m, zs.length = m := ⟨_, rfl⟩
  have HN3 := Lib.hid hn3
  have HZS := Lib.hid hzs
  rw [hn3]
  clear hn3 ho3 hzs
  go_wp2_with fail
  refine (HS.out _ hR.sl hR2.sl).mono ?_; rintro e W3 ⟨a4, c4, us, rfl, hus, ho4, hq⟩; replace hb := chn hb hq; replace hR := hR.below hq; replace hR2 := hR2.below hq; replace hsl3 := hsl3.below hq; clear hq HS
  obtain rfl : us = zs := map_inj_ En.pl_inj (hus.trans HZS.out.symm)
  have hsl4 : SlF En.cells W3 a4 us := own_slf (fun _ => rfl) ho4
  rw [HN3.out]
  clear hus ho4
  have hBB : (B != B) = false := by cases B <;> rfl
  have hBE : (B == B) = true := by cases B <;> rfl
  have hlen3 : n3 ≤ 100 := by
    have h1 := congrArg List.length HZS.out
    rw [List.length_map, HN3.out, ← HLL.out] at h1
    unfold lonL at h1
    cases B with
    | true => rw [if_pos HLB.out] at h1; have := (lon_true HLB.out).2.2.1; omega
    | false => rw [HLB.out, if_neg (by decide)] at h1; simp at h1; omega
  clear hsl4
  cases B with
  | false =>
    go_wp2
    go_ret
    exact ⟨rfl, hb⟩
  | true =>
    obtain ⟨h1, h2, h3, h4, h5⟩ := lon_true HLB.out
    have hzs : us.map En.pl = onL (xs.map Mk.pl) (ys.map En.pl) := by rw [HZS.out, ← HLL.out, h4]
    obtain ⟨h6, h7⟩ := lon_again HLB.out
    rw [← hzs] at h6 h7
    obtain ⟨h8, h9⟩ := lon_nil h2
    have hsu : Small us := tok_small (by rw [hzs]; exact h5)
    have HJ := Lib.hid (fun W (h : SlF Mk.cells W a1 xs) (h' : SlF En.cells W a3 us) => onI_c a1 a3 c1 c3 n1 n3 xs us (us.map En.pl) true (Lib.hid h6) (Lib.hid h7) W HN1.out HN3.out h h' (by omega) (by omega) HZ.out hsu)
    have HJ2 := Lib.hid (fun W (h' : SlF En.cells W a2 ys) => onI_c none a2 0 c2 0 n2 [] ys (ys.map En.pl) true (Lib.hid h8) (Lib.hid h9) W rfl HN2.out (slf_nilM W) h' (by decide) (by omega) (fun e he => by cases he) HZ2.out)
    have HSM := Lib.hid (fun a5 c5 W (h : SlF En.cells W a3 us) (h' : SlF En.cells W a5 us) => sameR_c a3 a5 c3 c5 n3 n3 us us true (Lib.hid ⟨fun _ => rfl, fun _ => rfl⟩) W HN3.out HN3.out h h' (by omega) (by omega))
    have HSM2 := Lib.hid (fun a5 c5 W (h : SlF En.cells W a5 ys) (h' : SlF En.cells W a2 ys) => sameR_c a5 a2 c5 c2 n2 n2 ys ys true (Lib.hid ⟨fun _ => rfl, fun _ => rfl⟩) W HN2.out HN2.out h h' (by omega) (by omega))
    clear h1 h2 h3 h4 h5 h6 h7 h8 h9 hzs hsu HLB HLL HZS
    go_wp2_with fail
    refine (HJ.out _ hR.sl hsl3).mono ?_; rintro e W5 ⟨a5, c5, ms5, rfl, hm5, ho5, hq⟩; replace hb := chn hb hq; replace hR2 := hR2.below hq; replace hsl3 := hsl3.below hq; clear hq HJ hR
    obtain rfl : ms5 = us := map_inj_ En.pl_inj hm5
    have hsl5 : SlF En.cells W5 a5 ms5 := own_slf (fun _ => rfl) ho5
    rw [HN3.out]
    clear hm5 ho5
    go_wp2_with fail
    refine (HJ2.out _ hR2.sl).mono ?_; rintro e W6 ⟨a6, c6, ms6, rfl, hm6, ho6, hq⟩; replace hb := chn hb hq; replace hR2 := hR2.below hq; replace hsl3 := hsl3.below hq; replace hsl5 := hsl5.below hq; clear hq HJ2
    obtain rfl : ms6 = ys := map_inj_ En.pl_inj hm6
    have hsl6 : SlF En.cells W6 a6 ms6 := own_slf (fun _ => rfl) ho6
    rw [HN2.out]
    clear hm6 ho6
    go_wp2_with fail
    refine (HSM.out a5 c5 _ hsl3 hsl5).mono ?_; rintro e W7 ⟨rfl, hq⟩; replace hb := chn hb hq; replace hR2 := hR2.below hq; replace hsl6 := hsl6.below hq; clear hq hsl5 hsl3
    go_wp2_with fail
    refine (HSM2.out a6 c6 _ hsl6 hR2.sl).mono ?_; rintro e W8 ⟨rfl, hq⟩; replace hb := chn hb hq; clear hq
    go_wp2
    go_ret
    exact ⟨rfl, hb⟩
end Go.Proofs.YtdhbdcmnbhjjaaaGreatDoor
namespace Go.Proofs.YtdhbdcmnbhjjaaaGreatDoor
open Go.RowKit
set_option maxRecDepth 100000 in
set_option maxHeartbeats 8000000 in
theorem lawLayerDiff_w (w : World) (a : Option Addr) (n c : Nat) (h : Code w a n c) : Calls Tryz.prog 6 #[.slice a n c] w (TrueB w) := by
  have hn := h.2.2
  by_cases hbig : 1048576 < n
  · clear h
    go_enter Tryz.func6, Tryz.ntmps6
    go_wp2
    go_ret
    exact ⟨rfl, Below.refl _ _⟩
  have HD := Lib.hid (drawLayerDiff_c w a n c h)
  clear h
  go_enter Tryz.func6, Tryz.ntmps6
  go_wp2_with fail
  refine HD.out.mono ?_; rintro e W1 ⟨a1, c1, xs, a2, c2, ys, rfl, hR, htk, hR2, hz2, hy, hb⟩
  have hx : xs.length ≤ 16 := by have := htk.most; rw [List.length_map] at this; exact this
  have HTK := Lib.hid htk
  have HZ := Lib.hid (tok_small htk)
  have HZ2 := Lib.hid hz2
  have hcn := hR.cap
  have hcn2 := hR2.cap
  obtain ⟨n1, hn1⟩ : ∃ m, xs.length = m := ⟨_, rfl⟩
  obtain ⟨n2, hn2⟩ : ∃ m, ys.length = m := ⟨_, rfl⟩
  rw [hn1] at hx hcn ⊢
  rw [hn2] at hy hcn2 ⊢
  have HN1 := Lib.hid hn1
  have HN2 := Lib.hid hn2
  obtain ⟨L, hL⟩ : ∃ L, tdiffL (xs.map En.pl) (ys.map En.pl) = L := ⟨_, rfl⟩
  have HL := Lib.hid hL
  have HDI := Lib.hid (fun W (h : SlF En.cells W a1 xs) (h' : SlF En.cells W a2 ys) => diffI_c a1 a2 c1 c2 n1 n2 xs ys L (Lib.hid hL) W HN1.out HN2.out h h' (by omega) (by omega) HZ.out HZ2.out)
  have HDS := Lib.hid (fun W (h : ReadEn W a1 c1 xs) (h' : ReadEn W a2 c2 ys) => diffS_c a1 a2 c1 c2 n1 n2 xs ys L (Lib.hid hL) W HN1.out HN2.out h h' (by omega) (by omega) HZ.out HZ2.out)
  have HOA := Lib.hid (fun W (h : SlF En.cells W a1 xs) => okS_c a1 c1 n1 xs true (Lib.hid ⟨fun _ => HTK.out, fun _ => rfl⟩) W HN1.out h hcn (by omega) HZ.out)
  obtain ⟨r2, hr2⟩ := tok_dec ys
  have HR2 := Lib.hid hr2
  have HOB := Lib.hid (fun W (h : SlF En.cells W a2 ys) => okS_c a2 c2 n2 ys r2 (Lib.hid hr2) W HN2.out h hcn2 (by omega) HZ2.out)
  clear hn1 hn2 hz2 htk HD hL hr2
  go_wp2_with fail
  refine (HDI.out _ hR.sl hR2.sl).mono ?_; rintro e W2 ⟨a3, c3, ms, rfl, hms, hov, hq⟩; replace hb := chn hb hq; replace hR := hR.below hq; replace hR2 := hR2.below hq; clear hq HDI
  have hsl : SlF Mk.cells W2 a3 ms := own_slf (fun _ => rfl) hov
  have hcap := own_cap hov
  have hml : ms.length ≤ 200 := by
    have h1 := congrArg List.length (hms.trans HL.out.symm)
    have h2 := tdiff_len (xs.map En.pl) (ys.map En.pl)
    rw [List.length_map] at h1
    omega
  have HMS := Lib.hid hms
  have HSMM := Lib.hid (fun a4 c4 W (h : SlF Mk.cells W a3 ms) (h' : SlF Mk.cells W a4 ms) => sameM_c a3 a4 c3 c4 ms.length ms.length ms ms true (Lib.hid ⟨fun _ => rfl, fun _ => rfl⟩) W rfl rfl h h' (by omega) (by omega))
  obtain ⟨n3, hn3⟩ : ∃ m, ms.length = m := ⟨_, rfl⟩
  have HN3 := Lib.hid hn3
  rw [hn3] at hml hcap HSMM ⊢
  clear hms hov hn3
  go_wp2_with fail
  refine (HDS.out _ hR hR2).mono ?_; rintro e W3 ⟨a4, c4, ms4, rfl, hms4, hov4, hq⟩; replace hb := chn hb hq; replace hR := hR.below hq; replace hR2 := hR2.below hq; replace hsl := hsl.below hq; clear hq
  obtain rfl : ms4 = ms := map_inj_ Mk.pl_inj (hms4.trans HMS.out.symm)
  have hsl4 : SlF Mk.cells W3 a4 ms4 := own_slf (fun _ => rfl) hov4
  rw [HN3.out]
  clear hms4 hov4
  go_wp2_with fail
  refine (HSMM.out a4 c4 _ hsl hsl4).mono ?_; rintro e W4 ⟨rfl, hq⟩; replace hb := chn hb hq; replace hR := hR.below hq; replace hR2 := hR2.below hq; replace hsl := hsl.below hq; clear hq hsl4
  go_wp2_with fail
  refine (HOA.out _ hR.sl).mono ?_; rintro e W5 ⟨rfl, hq⟩; replace hb := chn hb hq; replace hR := hR.below hq; replace hR2 := hR2.below hq; replace hsl := hsl.below hq; clear hq HOA
  go_wp2_with fail
  refine (HOB.out _ hR2.sl).mono ?_; rintro e W6 ⟨rfl, hq⟩; replace hb := chn hb hq; replace hR := hR.below hq; replace hR2 := hR2.below hq; replace hsl := hsl.below hq; clear hq HOB
  cases r2 with
  | false =>
    obtain rfl : n3 = 0 := by
      have h1 := HMS.out
      rw [← HL.out, tdiff_bad (fun h => by have := HR2.out.2 h.2; cases this)] at h1
      rw [← HN3.out, List.map_eq_nil_iff.1 h1]; rfl
    go_wp2
    go_ret
    exact ⟨rfl, hb⟩
  | true =>
    have htk2 := HR2.out.1 rfl
    have hmd : ms4.map Mk.pl = diffL (xs.map En.pl) (ys.map En.pl) := by rw [HMS.out, ← HL.out, tdiff_ok HTK.out htk2]
    have hlk : LOk (ms4.map Mk.pl) := by rw [hmd]; exact diff_lok HTK.out htk2
    obtain ⟨h1, h2⟩ := lon_diff HTK.out htk2
    rw [← hmd] at h1 h2
    obtain ⟨rs, hrs⟩ : ∃ r : Bool, r = true ↔ xs = ys := ⟨by classical exact decide (xs = ys), by simp⟩
    have HNL : Hid (((n3 : Int) == 0) = rs) := by
      have h3 : n3 = 0 ↔ xs = ys := by
        rw [← HN3.out, List.length_eq_zero_iff, ← List.map_eq_nil_iff (f := Mk.pl), hmd, diff_nil HTK.out htk2]
        exact ⟨fun h => map_inj_ En.pl_inj h, fun h => by rw [h]⟩
      rw [Hid]
      cases rs with
      | true => rw [beq_iff_eq]; have := h3.2 (hrs.1 rfl); omega
      | false => rw [beq_eq_false_iff_ne]; intro h0; have := hrs.2 (h3.1 (by omega)); cases this
    have HON := Lib.hid (fun W (h : SlF Mk.cells W a3 ms4) (h' : SlF En.cells W a1 xs) => onI_c a3 a1 c3 c1 n3 n1 ms4 xs (ys.map En.pl) true (Lib.hid h1) (Lib.hid h2) W HN3.out HN1.out h h' (by omega) (by omega) (lok_small hlk) HZ.out)
    have HSA := Lib.hid (fun a5 c5 W (h : SlF En.cells W a5 ys) (h' : SlF En.cells W a2 ys) => sameR_c a5 a2 c5 c2 n2 n2 ys ys true (Lib.hid ⟨fun _ => rfl, fun _ => rfl⟩) W HN2.out HN2.out h h' (by omega) (by omega))
    have HLI := Lib.hid (fun W (h : SlF Mk.cells W a3 ms4) => lokI_c a3 c3 n3 ms4 true (Lib.hid ⟨fun _ => hlk, fun _ => rfl⟩) W HN3.out h (by omega) (lok_small hlk))
    have HDA := Lib.hid (fun W (h : SlF En.cells W a1 xs) => diffI_c a1 a1 c1 c1 n1 n1 xs xs [] (Lib.hid (tdiff_self HTK.out)) W HN1.out HN1.out h h (by omega) (by omega) HZ.out HZ.out)
    have HSB := Lib.hid (fun W (h : SlF En.cells W a1 xs) (h' : SlF En.cells W a2 ys) => sameR_c a1 a2 c1 c2 n1 n2 xs ys rs (Lib.hid hrs) W HN1.out HN2.out h h' (by omega) (by omega))
    have hrr : (rs == rs) = true := by cases rs <;> rfl
    clear HR2 htk2 hmd hlk h1 h2 hrs HMS HL
    go_wp2_with fail
    refine (HON.out _ hsl hR.sl).mono ?_; rintro e W7 ⟨a5, c5, ms5, rfl, hm5, ho5, hq⟩; replace hb := chn hb hq; replace hR := hR.below hq; replace hR2 := hR2.below hq; replace hsl := hsl.below hq; clear hq HON
    obtain rfl : ms5 = ys := map_inj_ En.pl_inj hm5
    have hsl5 : SlF En.cells W7 a5 ms5 := own_slf (fun _ => rfl) ho5
    rw [HN2.out]
    clear hm5 ho5
    go_wp2_with fail
    refine (HSA.out a5 c5 _ hsl5 hR2.sl).mono ?_; rintro e W8 ⟨rfl, hq⟩; replace hb := chn hb hq; replace hR := hR.below hq; replace hR2 := hR2.below hq; replace hsl := hsl.below hq; clear hq hsl5 HSA
    go_wp2_with fail
    refine (HLI.out _ hsl).mono ?_; rintro e W9 ⟨rfl, hq⟩; replace hb := chn hb hq; replace hR := hR.below hq; replace hR2 := hR2.below hq; clear hq HLI hsl
    go_wp2_with fail
    refine (HDA.out _ hR.sl).mono ?_; rintro e W10 ⟨a6, c6, ms6, rfl, hm6, ho6, hq⟩; replace hb := chn hb hq; replace hR := hR.below hq; replace hR2 := hR2.below hq; clear hq HDA ho6
    obtain rfl : ms6 = [] := List.map_eq_nil_iff.1 hm6
    rw [show ([] : List Mk).length = 0 from rfl]
    clear hm6
    have hnl := HNL.out
    go_wp2_with fail
    refine (HSB.out _ hR.sl hR2.sl).mono ?_; rintro e W11 ⟨rfl, hq⟩; replace hb := chn hb hq; clear hq
    have hnl := HNL.out
    go_wp2
    go_ret
    exact ⟨rfl, hb⟩
end Go.Proofs.YtdhbdcmnbhjjaaaGreatDoor
namespace Go.Proofs.YtdhbdcmnbhjjaaaGreatDoor
open Go.RowKit
theorem turnF_c (a a' : Option Addr) (c c' n n' : Nat) (xs ys : List En) (L : List Bs) (hL : Hid (tturn (xs.map En.pl) (ys.map En.pl) = L)) (w : World) (hn : xs.length = n) (hn' : ys.length = n') (hs : SlF En.cells w a xs) (hs' : SlF En.cells w a' ys) (hx : n ≤ 1000) (hy : n' ≤ 1000) (hz : Small xs) (hz' : Small ys) :
    Calls Tryz.prog 27 #[.slice a n c, .slice a' n' c'] w (MadeSt L w) := by
  subst hn hn'
  rw [← hL.out]
  exact treeTurned_c a a' c c' xs ys w hs hs' (by unfold maxLen; omega) (by unfold maxLen; omega) hz.max hz'.max
/-- How many marks stand where something has turned. -/
def cntM (ms : List Mk) (ss : List ByteArray) : Nat := (ms.filter fun m => decide (m.p.data.toList ∈ ss.map (·.data.toList))).length
/-- How many paths would be in a directory. -/
def cntQ (t : List PE) (ss : List ByteArray) : Nat := (ss.filter fun s => decide (upCodeL t s.data.toList = 0)).length
theorem cntM_snoc {ms : List Mk} (ss : List ByteArray) {j : Nat} {m : Mk} (h : ms[j]? = some m) {r : Bool} (hr : r = true ↔ m.p ∈ ss) : cntM (ms.take (j + 1)) ss = cntM (ms.take j) ss + if r = true then 1 else 0 := by
  unfold cntM
  rw [List.take_add_one, h, List.filter_append, List.length_append]
  have hd : decide (m.p.data.toList ∈ ss.map (·.data.toList)) = r := by
    rw [Bool.eq_iff_iff, decide_eq_true_iff, mem_strs]; exact hr.symm
  rw [Option.toList_some, List.filter_cons, hd]
  cases r <;> simp
theorem cntQ_snoc (t : List PE) {ss : List ByteArray} {j : Nat} {s : ByteArray} (h : ss[j]? = some s) {r : Bool} (hr : r = true ↔ upCodeL t s.data.toList = 0) : cntQ t (ss.take (j + 1)) = cntQ t (ss.take j) + if r = true then 1 else 0 := by
  unfold cntQ
  rw [List.take_add_one, h, List.filter_append, List.length_append]
  have hd : decide (upCodeL t s.data.toList = 0) = r := by
    rw [Bool.eq_iff_iff, decide_eq_true_iff]; exact hr.symm
  rw [Option.toList_some, List.filter_cons, hd]
  cases r <;> simp
theorem cntM_le (ms : List Mk) (ss : List ByteArray) : cntM ms ss ≤ ms.length := by unfold cntM; exact List.length_filter_le _ _
theorem cntQ_le (t : List PE) (ss : List ByteArray) (j : Nat) : cntQ t (ss.take j) ≤ cntQ t ss := by
  unfold cntQ
  conv => rhs; rw [← List.take_append_drop j ss, List.filter_append, List.length_append]
  omega
theorem few_count {a b : List PE} (ha : TOk a) (hb : TOk b) {ms : List Mk} (hm : ms.map Mk.pl = diffL a b) {ss : List ByteArray} (hs : ss.map (·.data.toList) = turnedL a b) : cntM ms ss = cntQ b ss := by
  have h := diff_count ha hb
  rw [← hm, ← hs, List.filter_map, List.filter_map, List.length_map, List.length_map] at h
  exact h
theorem few_up {ys : List En} (h : TOk (ys.map En.pl)) {q u : ByteArray} (_hq : pathOkL q.data.toList = true) (hu : upL q.data.toList = u.data.toList) : (∃ e, tgetE ys u = some e ∧ e.d = true) ↔ upCodeL (ys.map En.pl) q.data.toList = 0 := by
  rw [tget_ok u h, lgetE, upCode_iff h.ordP, hu]
  by_cases hr : u.data.toList = [47]
  · rw [if_pos hr]
    exact ⟨fun _ => .inl hr, fun _ => ⟨rootE, rfl, rfl⟩⟩
  · rw [if_neg hr]
    constructor
    · rintro ⟨e, he, hd⟩
      obtain ⟨h1, h2⟩ := getE_some he
      exact .inr ⟨e.pl, List.mem_map_of_mem h1, by show e.p.data.toList = _; rw [h2], hd⟩
    · rintro (h1 | ⟨f, hf, h1, h2⟩)
      · exact absurd h1 hr
      · obtain ⟨e, he, rfl⟩ := List.mem_map.1 hf
        obtain rfl : e.p = u := bytes_eq h1
        exact ⟨e, getE_ok h he, h2⟩
set_option maxRecDepth 100000 in
set_option maxHeartbeats 8000000 in
theorem lawLayerFew_w (w : World) (a : Option Addr) (n c : Nat) (h : Code w a n c) : Calls Tryz.prog 8 #[.slice a n c] w (TrueB w) := by
  have hn := h.2.2
  by_cases hbig : 1048576 < n
  · clear h
    go_enter Tryz.func8, Tryz.ntmps8
    go_wp2
    go_ret
    exact ⟨rfl, Below.refl _ _⟩
  have HD := Lib.hid (drawLayerDiff_c w a n c h)
  clear h
  go_enter Tryz.func8, Tryz.ntmps8
  go_wp2_with fail
  refine HD.out.mono ?_; rintro e W1 ⟨a1, c1, xs, a2, c2, ys, rfl, hR, htk, hR2, hz2, hy, hb⟩
  have hx : xs.length ≤ 16 := by have := htk.most; rw [List.length_map] at this; exact this
  have HTK := Lib.hid htk
  have HZ := Lib.hid (tok_small htk)
  have HZ2 := Lib.hid hz2
  have hcn := hR.cap
  have hcn2 := hR2.cap
  obtain ⟨n1, hn1⟩ : ∃ m, xs.length = m := ⟨_, rfl⟩
  obtain ⟨n2, hn2⟩ : ∃ m, ys.length = m := ⟨_, rfl⟩
  rw [hn1] at hx hcn ⊢
  rw [hn2] at hy hcn2 ⊢
  have HN1 := Lib.hid hn1
  have HN2 := Lib.hid hn2
  obtain ⟨L, hL⟩ : ∃ L, tdiffL (xs.map En.pl) (ys.map En.pl) = L := ⟨_, rfl⟩
  have HL := Lib.hid hL
  have HDI := Lib.hid (fun W (h : SlF En.cells W a1 xs) (h' : SlF En.cells W a2 ys) => diffI_c a1 a2 c1 c2 n1 n2 xs ys L (Lib.hid hL) W HN1.out HN2.out h h' (by omega) (by omega) HZ.out HZ2.out)
  have HDS := Lib.hid (fun W (h : ReadEn W a1 c1 xs) (h' : ReadEn W a2 c2 ys) => diffS_c a1 a2 c1 c2 n1 n2 xs ys L (Lib.hid hL) W HN1.out HN2.out h h' (by omega) (by omega) HZ.out HZ2.out)
  have HOA := Lib.hid (fun W (h : SlF En.cells W a1 xs) => okS_c a1 c1 n1 xs true (Lib.hid ⟨fun _ => HTK.out, fun _ => rfl⟩) W HN1.out h hcn (by omega) HZ.out)
  obtain ⟨r2, hr2⟩ := tok_dec ys
  have HR2 := Lib.hid hr2
  have HOB := Lib.hid (fun W (h : SlF En.cells W a2 ys) => okS_c a2 c2 n2 ys r2 (Lib.hid hr2) W HN2.out h hcn2 (by omega) HZ2.out)
  clear hn1 hn2 hz2 htk HD hL hr2
  go_wp2_with fail
  refine (HDI.out _ hR.sl hR2.sl).mono ?_; rintro e W2 ⟨a3, c3, ms, rfl, hms, hov, hq⟩; replace hb := chn hb hq; replace hR := hR.below hq; replace hR2 := hR2.below hq; clear hq HDI
  have hsl : SlF Mk.cells W2 a3 ms := own_slf (fun _ => rfl) hov
  have hcap := own_cap hov
  have hml : ms.length ≤ 200 := by
    have h1 := congrArg List.length (hms.trans HL.out.symm)
    have h2 := tdiff_len (xs.map En.pl) (ys.map En.pl)
    rw [List.length_map] at h1
    omega
  have HMS := Lib.hid hms
  have HSMM := Lib.hid (fun a4 c4 W (h : SlF Mk.cells W a3 ms) (h' : SlF Mk.cells W a4 ms) => sameM_c a3 a4 c3 c4 ms.length ms.length ms ms true (Lib.hid ⟨fun _ => rfl, fun _ => rfl⟩) W rfl rfl h h' (by omega) (by omega))
  obtain ⟨n3, hn3⟩ : ∃ m, ms.length = m := ⟨_, rfl⟩
  have HN3 := Lib.hid hn3
  rw [hn3] at hml hcap HSMM ⊢
  clear hms hov hn3
  go_wp2_with fail
  refine (HDS.out _ hR hR2).mono ?_; rintro e W3 ⟨a4, c4, ms4, rfl, hms4, hov4, hq⟩; replace hb := chn hb hq; replace hR := hR.below hq; replace hR2 := hR2.below hq; replace hsl := hsl.below hq; clear hq
  obtain rfl : ms4 = ms := map_inj_ Mk.pl_inj (hms4.trans HMS.out.symm)
  have hsl4 : SlF Mk.cells W3 a4 ms4 := own_slf (fun _ => rfl) hov4
  rw [HN3.out]
  clear hms4 hov4
  go_wp2_with fail
  refine (HSMM.out a4 c4 _ hsl hsl4).mono ?_; rintro e W4 ⟨rfl, hq⟩; replace hb := chn hb hq; replace hR := hR.below hq; replace hR2 := hR2.below hq; replace hsl := hsl.below hq; clear hq hsl4
  go_wp2_with fail
  refine (HOA.out _ hR.sl).mono ?_; rintro e W5 ⟨rfl, hq⟩; replace hb := chn hb hq; replace hR := hR.below hq; replace hR2 := hR2.below hq; replace hsl := hsl.below hq; clear hq HOA
  go_wp2_with fail
  refine (HOB.out _ hR2.sl).mono ?_; rintro e W6 ⟨rfl, hq⟩; replace hb := chn hb hq; replace hR := hR.below hq; replace hR2 := hR2.below hq; replace hsl := hsl.below hq; clear hq HOB
  cases r2 with
  | false =>
    go_wp2_with fail
    refine (HDS.out _ hR hR2).mono ?_; rintro e W7 ⟨a5, c5, ms5, rfl, hms5, hov5, hq⟩; replace hb := chn hb hq; replace hsl := hsl.below hq; clear hq
    obtain rfl : ms5 = ms4 := map_inj_ Mk.pl_inj (hms5.trans HMS.out.symm)
    have hsl5 : SlF Mk.cells W7 a5 ms5 := own_slf (fun _ => rfl) hov5
    rw [HN3.out]
    clear hms5 hov5
    go_wp2_with fail
    refine (HSMM.out a5 c5 _ hsl hsl5).mono ?_; rintro e W8 ⟨rfl, hq⟩; replace hb := chn hb hq; clear hq
    go_wp2
    go_ret
    exact ⟨rfl, hb⟩
  | true =>
    have htk2 := HR2.out.1 rfl
    have hmd : ms4.map Mk.pl = diffL (xs.map En.pl) (ys.map En.pl) := by rw [HMS.out, ← HL.out, tdiff_ok HTK.out htk2]
    have HTT := Lib.hid (fun W (h : SlF En.cells W a1 xs) (h' : SlF En.cells W a2 ys) => turnF_c a1 a2 c1 c2 n1 n2 xs ys (turnedL (xs.map En.pl) (ys.map En.pl)) (Lib.hid (tturn_ok HTK.out htk2)) W HN1.out HN2.out h h' (by omega) (by omega) HZ.out HZ2.out)
    have HTK2 := Lib.hid htk2
    have HMD := Lib.hid hmd
    clear htk2 hmd HR2 HDS HSMM HMS HL
    go_wp2_with fail
    refine (HTT.out _ hR.sl hR2.sl).mono ?_; rintro e W7 ⟨v7, ss, rfl, hss, hov, hq⟩; replace hb := chn hb hq; replace hR2 := hR2.below hq; replace hsl := hsl.below hq; clear hq HTT hR
    obtain ⟨a7, c7, rfl⟩ := own_shape hov
    have hst := own_sls hov rfl
    have hkb : ss.length ≤ 60 := by
      have h1 := congrArg List.length hss
      have h2 := turned_len (a := xs.map En.pl) (b := ys.map En.pl)
      rw [List.length_map] at h1
      rw [List.length_map, List.length_map, HN1.out, HN2.out] at h2
      omega
    have HFC := Lib.hid (few_count HTK.out HTK2.out HMD.out hss)
    have HQP : Hid (∀ s ∈ ss, pathOkL s.data.toList = true) := fun s hs => turned_path HTK.out HTK2.out (by rw [← hss]; exact List.mem_map_of_mem hs)
    have HOT : Hid (∀ m ∈ ms4, m.p ∉ ss → m.k = 2 ∧ ∃ s ∈ ss, underL s.data.toList m.p.data.toList = true) := fun m hm hno => by
      obtain ⟨h1, q, h2, h3⟩ := diff_other HTK.out HTK2.out (m := m.pl) (by rw [← HMD.out]; exact List.mem_map_of_mem hm) (fun h => hno (by rw [← hss] at h; exact mem_strs.1 h))
      rw [← hss] at h2
      obtain ⟨s, hs, rfl⟩ := List.mem_map.1 h2
      exact ⟨h1, s, hs, h3⟩
    have HK4 : Hid (∀ m ∈ ms4, (m.k == 4) = false) := fun m hm => by
      rw [beq_eq_false_iff_ne]
      have := diff_kind HTK.out HTK2.out (m := m.pl) (by rw [← HMD.out]; exact List.mem_map_of_mem hm)
      have h2 : m.pl.k = m.k := rfl
      omega
    have HSMA : Hid (SmallM ms4) := lok_small (by rw [HMD.out]; exact diff_lok HTK.out HTK2.out)
    obtain ⟨m, hm⟩ : ∃ m, ss.length = m := ⟨_, rfl⟩
    have HM := Lib.hid hm
    rw [hm] at hkb ⊢
    have HB0 := Lib.hid hb
    have HR0 := Lib.hid hR2
    have HSL := Lib.hid hsl
    have HST := Lib.hid hst
    clear hss hov hm hb hR2 hsl hst
    go_wp2
    go_loopw [7, 8] (fun k i wr => ∃ j : Nat, j ≤ n3 ∧ i = .int .i64 j ∧ k = .int .i64 (cntM (ms4.take j) ss : Nat) ∧ Below W7.heap.size W7 wr) (fun _ i _ => n3 - (intOf i).toNat)
    case atStart => exact ⟨0, Nat.zero_le _, rfl, rfl, Below.refl _ _⟩
    case round =>
      obtain ⟨j, hj, rfl, rfl, hb⟩ := hrel
      by_cases hlt : j < n3
      · obtain ⟨x, hxx⟩ : ∃ e, ms4[j]? = some e := ⟨_, List.getElem?_eq_getElem (by rw [HN3.out]; exact hlt)⟩
        have hxm := List.mem_of_getElem? hxx
        have hsw := HSL.out.below hb
        obtain ⟨b, off, rfl, _⟩ := hsw.addr (by rw [HN3.out]; omega)
        obtain ⟨d0, d1, _⟩ := mk_at hsw j x hxx
        have hxs := (HSMA.out x hxm).1
        have hk4 := HK4.out x hxm
        have hot := HOT.out x hxm
        obtain ⟨r, hr⟩ : ∃ r : Bool, r = true ↔ x.p ∈ ss := ⟨by classical exact decide (x.p ∈ ss), by simp⟩
        have HSN := Lib.hid (cntM_snoc ss hxx hr)
        have hcl : cntM (ms4.take j) ss ≤ 200 := Nat.le_trans (cntM_le _ _) (by rw [List.length_take]; omega)
        have HRR := Lib.hid hr
        have HWI := Lib.hid (fun W (h : SlS W a7 ss) => wpIn_c a7 c7 m ss x.p r HRR W HM.out h (by omega))
        have HOX : Hid (r = false → (x.k != 2) = false ∧ ∃ (q : Nat) (s : ByteArray), ss[q]? = some s ∧ underL s.data.toList x.p.data.toList = true) := fun hrf => by
          obtain ⟨h1, s, h2, h3⟩ := hot (fun h => by rw [hr.2 h] at hrf; cases hrf)
          obtain ⟨q, hq⟩ := List.getElem?_of_mem h2
          exact ⟨by rw [bne_eq_false_iff_eq]; exact h1, q, s, hq, h3⟩
        have i0 : (0 : Int) ≤ (j : Int) := by omega
        have i1 : (j : Int) < (n3 : Int) := by omega
        have HB1 := Lib.hid hb
        have HD0 := Lib.hid d0
        have HD1 := Lib.hid d1
        clear hxx hxm hsw hot hr hb
        go_wp2
        rename_i _
        clear d0 d1 hk4
        go_loopw [9, 10] (fun hv iv wr' => ∃ (q : Nat) (s : Bool), q ≤ m ∧ iv = .int .i64 q ∧ hv = .bool s ∧ ((∃ (r : Nat) (f : ByteArray), r < q ∧ ss[r]? = some f ∧ underL f.data.toList x.p.data.toList = true) → s = true) ∧ Below wr.heap.size wr wr') (fun _ iv _ => m - (intOf iv).toNat)
        case atStart => exact ⟨0, false, Nat.zero_le _, rfl, rfl, fun ⟨r, _, h, _⟩ => absurd h (by omega), Below.refl _ _⟩
        case round =>
          obtain ⟨q, s, hq, rfl, rfl, hs, hbi⟩ := hrel
          have HSS := Lib.hid hs
          clear hs
          have d0 := keepc hbi HD0.out
          by_cases hlq : q < m
          · obtain ⟨f, hff⟩ : ∃ e, ss[q]? = some e := ⟨_, List.getElem?_eq_getElem (by rw [HM.out]; exact hlq)⟩
            obtain ⟨b', off', rfl, _, hcs⟩ := (HST.out.below (chn HB1.out hbi)) (by rw [HM.out]; omega)
            have p0 := hcs q f hff
            have hfs : f.size ≤ 20 := by have := (path_len (HQP.out f (List.mem_of_getElem? hff))).2; rw [size_data] at this; omega
            have i2 : (0 : Int) ≤ (q : Int) := by omega
            have i3 : (q : Int) < (m : Int) := by omega
            have HFF := Lib.hid hff
            clear hff hcs
            cases s with
            | true =>
              have hb := hbi
              go_wp2_with fail
              refine wp_region_held_drew (S := fun w' => Below _ _ w') (by kernel_rfl) (below_drew _) (fun hHeld => ?_)
              refine tk (i := 0) (d := (some 67)) (v := ?_) rfl rfl (by kernel_rfl) (by kernel_rfl) (by kernel_rfl) (fun _ _ _ h => h) (Or.inl ⟨by rfl, ?_⟩) hHeld ?_
              rotate_left
              · intro w hSw; have zd0 := keepc hSw d0; have zp0 := keepc hSw p0; clear hSw; go_simp <;> with_reducible rfl
              (try simp only [Act.put, List.setIfInBounds_toArray, List.set_cons_zero, List.set_cons_succ])
              refine tk (i := 1) (d := (some 68)) (v := ?_) rfl rfl (by kernel_rfl) (by kernel_rfl) (by kernel_rfl) (fun _ _ _ h => h) (Or.inl ⟨by rfl, ?_⟩) hHeld ?_
              rotate_left
              · intro w hSw; have zd0 := keepc hSw d0; have zp0 := keepc hSw p0; clear hSw; go_simp <;> with_reducible rfl
              (try simp only [Act.put, List.setIfInBounds_toArray, List.set_cons_zero, List.set_cons_succ])
              refine tk (i := 2) (d := (some 69)) (v := undef) rfl rfl (by kernel_rfl) (by kernel_rfl) (by kernel_rfl) (fun _ _ _ h => h) (Or.inr ⟨by kernel_rfl, rfl⟩) hHeld ?_
              (try simp only [Act.put, List.setIfInBounds_toArray, List.set_cons_zero, List.set_cons_succ])
              refine tk (i := 3) (d := (some 70)) (v := undef) rfl rfl (by kernel_rfl) (by kernel_rfl) (by kernel_rfl) (fun _ _ _ h => h) (Or.inr ⟨by kernel_rfl, rfl⟩) hHeld ?_
              (try simp only [Act.put, List.setIfInBounds_toArray, List.set_cons_zero, List.set_cons_succ])
              refine tk (i := 4) (d := (some 71)) (v := undef) rfl rfl (by kernel_rfl) (by kernel_rfl) (by kernel_rfl) (fun _ _ _ h => h) (Or.inr ⟨by kernel_rfl, rfl⟩) hHeld ?_
              (try simp only [Act.put, List.setIfInBounds_toArray, List.set_cons_zero, List.set_cons_succ])
              refine tk (i := 5) (d := (some 72)) (v := undef) rfl rfl (by kernel_rfl) (by kernel_rfl) (by kernel_rfl) (fun _ _ _ h => h) (Or.inr ⟨by kernel_rfl, rfl⟩) hHeld ?_
              (try simp only [Act.put, List.setIfInBounds_toArray, List.set_cons_zero, List.set_cons_succ])
              refine tk (i := 6) (d := (some 73)) (v := undef) rfl rfl (by kernel_rfl) (by kernel_rfl) (by kernel_rfl) (fun _ _ _ h => h) (Or.inr ⟨by kernel_rfl, rfl⟩) hHeld ?_
              (try simp only [Act.put, List.setIfInBounds_toArray, List.set_cons_zero, List.set_cons_succ])
              refine tk (i := 7) (d := (some 74)) (v := undef) rfl rfl (by kernel_rfl) (by kernel_rfl) (by kernel_rfl) (fun _ _ _ h => h) (Or.inr ⟨by kernel_rfl, rfl⟩) hHeld ?_
              (try simp only [Act.put, List.setIfInBounds_toArray, List.set_cons_zero, List.set_cons_succ])
              refine tk (i := 8) (d := (some 75)) (v := undef) rfl rfl (by kernel_rfl) (by kernel_rfl) (by kernel_rfl) (fun _ _ _ h => h) (Or.inr ⟨by kernel_rfl, rfl⟩) hHeld ?_
              (try simp only [Act.put, List.setIfInBounds_toArray, List.set_cons_zero, List.set_cons_succ])
              refine tk (i := 9) (d := (some 76)) (v := undef) rfl rfl (by kernel_rfl) (by kernel_rfl) (by kernel_rfl) (fun _ _ _ h => h) (Or.inr ⟨by kernel_rfl, rfl⟩) hHeld ?_
              (try simp only [Act.put, List.setIfInBounds_toArray, List.set_cons_zero, List.set_cons_succ])
              refine tk (i := 10) (d := (some 77)) (v := undef) rfl rfl (by kernel_rfl) (by kernel_rfl) (by kernel_rfl) (fun _ _ _ h => h) (Or.inr ⟨by kernel_rfl, rfl⟩) hHeld ?_
              (try simp only [Act.put, List.setIfInBounds_toArray, List.set_cons_zero, List.set_cons_succ])
              refine tk (i := 11) (d := (some 78)) (v := undef) rfl rfl (by kernel_rfl) (by kernel_rfl) (by kernel_rfl) (fun _ _ _ h => h) (Or.inr ⟨by kernel_rfl, rfl⟩) hHeld ?_
              (try simp only [Act.put, List.setIfInBounds_toArray, List.set_cons_zero, List.set_cons_succ])
              refine tk (i := 12) (d := (some 79)) (v := ?_) rfl rfl (by kernel_rfl) (by kernel_rfl) (by kernel_rfl) (fun _ _ _ h => h) (Or.inl ⟨by rfl, ?_⟩) hHeld ?_
              rotate_left
              · intro w hSw; have zd0 := keepc hSw d0; have zp0 := keepc hSw p0; clear hSw; go_simp <;> with_reducible rfl
              (try simp only [Act.put, List.setIfInBounds_toArray, List.set_cons_zero, List.set_cons_succ])
              refine tk (i := 13) (d := (some 9)) (v := ?_) rfl rfl (by kernel_rfl) (by kernel_rfl) (by kernel_rfl) (fun _ _ _ h => h) (Or.inl ⟨by rfl, ?_⟩) hHeld ?_
              rotate_left
              · intro w hSw; have zd0 := keepc hSw d0; have zp0 := keepc hSw p0; clear hSw; go_simp <;> with_reducible rfl
              (try simp only [Act.put, List.setIfInBounds_toArray, List.set_cons_zero, List.set_cons_succ])
              refine wpAnyH_done (by kernel_rfl) ?_ _
              replace hb := chn hb hHeld; clear hHeld
              go_wp2
              go_roundw
              case rel => exact ⟨q + 1, true, by omega, by go_num, rfl, fun _ => rfl, by first | exact hb | exact drw hb _⟩
              case measure => simp [intOf]; omega
            | false =>
              obtain ⟨u, hu⟩ : ∃ u, underL f.data.toList x.p.data.toList = u := ⟨_, rfl⟩
              have HU := Lib.hid hu
              have hb := hbi
              clear hu
              go_wp2_with fail
              refine wp_region_held_drew (S := fun w' => Below _ _ w') (by kernel_rfl) (below_drew _) (fun hHeld => ?_)
              refine tk (i := 0) (d := (some 67)) (v := ?_) rfl rfl (by kernel_rfl) (by kernel_rfl) (by kernel_rfl) (fun _ _ _ h => h) (Or.inl ⟨by rfl, ?_⟩) hHeld ?_
              rotate_left
              · intro w hSw; have zd0 := keepc hSw d0; have zp0 := keepc hSw p0; clear hSw; go_simp <;> with_reducible rfl
              (try simp only [Act.put, List.setIfInBounds_toArray, List.set_cons_zero, List.set_cons_succ])
              refine tk (i := 1) (d := (some 68)) (v := ?_) rfl rfl (by kernel_rfl) (by kernel_rfl) (by kernel_rfl) (fun _ _ _ h => h) (Or.inl ⟨by rfl, ?_⟩) hHeld ?_
              rotate_left
              · intro w hSw; have zd0 := keepc hSw d0; have zp0 := keepc hSw p0; clear hSw; go_simp <;> with_reducible rfl
              (try simp only [Act.put, List.setIfInBounds_toArray, List.set_cons_zero, List.set_cons_succ])
              refine tk (i := 2) (d := (some 69)) (v := ?_) rfl rfl (by kernel_rfl) (by kernel_rfl) (by kernel_rfl) (fun _ _ _ h => h) (Or.inl ⟨by rfl, ?_⟩) hHeld ?_
              rotate_left
              · intro w hSw; have zd0 := keepc hSw d0; have zp0 := keepc hSw p0; clear hSw; go_simp <;> with_reducible rfl
              (try simp only [Act.put, List.setIfInBounds_toArray, List.set_cons_zero, List.set_cons_succ])
              refine tk (i := 3) (d := (some 70)) (v := ?_) rfl rfl (by kernel_rfl) (by kernel_rfl) (by kernel_rfl) (fun _ _ _ h => h) (Or.inl ⟨by rfl, ?_⟩) hHeld ?_
              rotate_left
              · intro w hSw; have zd0 := keepc hSw d0; have zp0 := keepc hSw p0; clear hSw; go_simp <;> with_reducible rfl
              (try simp only [Act.put, List.setIfInBounds_toArray, List.set_cons_zero, List.set_cons_succ])
              refine tk (i := 4) (d := (some 71)) (v := ?_) rfl rfl (by kernel_rfl) (by kernel_rfl) (by kernel_rfl) (fun _ _ _ h => h) (Or.inl ⟨by rfl, ?_⟩) hHeld ?_
              rotate_left
              · intro w hSw; have zd0 := keepc hSw d0; have zp0 := keepc hSw p0; clear hSw; go_simp <;> with_reducible rfl
              (try simp only [Act.put, List.setIfInBounds_toArray, List.set_cons_zero, List.set_cons_succ])
              refine tk (i := 5) (d := (some 72)) (v := ?_) rfl rfl (by kernel_rfl) (by kernel_rfl) (by kernel_rfl) (fun _ _ _ h => h) (Or.inl ⟨by rfl, ?_⟩) hHeld ?_
              rotate_left
              · intro w hSw; have zd0 := keepc hSw d0; have zp0 := keepc hSw p0; clear hSw; go_simp <;> with_reducible rfl
              (try simp only [Act.put, List.setIfInBounds_toArray, List.set_cons_zero, List.set_cons_succ])
              refine tk (i := 6) (d := (some 73)) (v := ?_) rfl rfl (by kernel_rfl) (by kernel_rfl) (by kernel_rfl) (fun _ _ _ h => h) (Or.inl ⟨by rfl, ?_⟩) hHeld ?_
              rotate_left
              · intro w hSw; have zd0 := keepc hSw d0; have zp0 := keepc hSw p0; clear hSw; go_simp <;> with_reducible rfl
              (try simp only [Act.put, List.setIfInBounds_toArray, List.set_cons_zero, List.set_cons_succ])
              refine tk (i := 7) (d := (some 74)) (v := ?_) rfl rfl (by kernel_rfl) (by kernel_rfl) (by kernel_rfl) (fun _ _ _ h => h) (Or.inl ⟨by rfl, ?_⟩) hHeld ?_
              rotate_left
              · intro w hSw; have zd0 := keepc hSw d0; have zp0 := keepc hSw p0; clear hSw; go_simp <;> with_reducible rfl
              (try simp only [Act.put, List.setIfInBounds_toArray, List.set_cons_zero, List.set_cons_succ])
              refine tk (i := 8) (d := (some 75)) (v := ?_) rfl rfl (by kernel_rfl) (by kernel_rfl) (by kernel_rfl) (fun _ _ _ h => h) (Or.inl ⟨by rfl, ?_⟩) hHeld ?_
              rotate_left
              · intro w hSw; have zd0 := keepc hSw d0; have zp0 := keepc hSw p0; clear hSw; go_simp <;> with_reducible rfl
              (try simp only [Act.put, List.setIfInBounds_toArray, List.set_cons_zero, List.set_cons_succ])
              refine tk (i := 9) (d := (some 76)) (v := ?_) rfl rfl (by kernel_rfl) (by kernel_rfl) (by kernel_rfl) (fun _ _ _ h => h) (Or.inl ⟨by rfl, ?_⟩) hHeld ?_
              rotate_left
              · intro w hSw; have zd0 := keepc hSw d0; have zp0 := keepc hSw p0; clear hSw; go_simp <;> with_reducible rfl
              (try simp only [Act.put, List.setIfInBounds_toArray, List.set_cons_zero, List.set_cons_succ])
              refine tk (i := 10) (d := (some 77)) (v := ?_) rfl rfl (by kernel_rfl) (by kernel_rfl) (by kernel_rfl) (fun _ _ _ h => h) (Or.inl ⟨by rfl, ?_⟩) hHeld ?_
              rotate_left
              · intro w hSw; have zd0 := keepc hSw d0; have zp0 := keepc hSw p0; clear hSw; go_simp <;> with_reducible rfl
              (try simp only [Act.put, List.setIfInBounds_toArray, List.set_cons_zero, List.set_cons_succ])
              refine wpAnyH_ready (rs := [11]) (by kernel_rfl) (by simp) ?_
              refine AllReadyH.cons rfl (fun K hK => ?_) AllReadyH.nil
              go_simp
              refine (pathUnder_c f x.p u HU _ (by omega) (by omega)).mono ?_; rintro e W ⟨rfl, hq⟩
              go_simp
              refine hK.out _ _ (chn hHeld hq) (fun h => ?_)
              clear hK K; replace hHeld := h; clear h hq
              (try simp only [Act.put, List.setIfInBounds_toArray, List.set_cons_zero, List.set_cons_succ])
              refine tk (i := 12) (d := (some 79)) (v := ?_) rfl rfl (by kernel_rfl) (by kernel_rfl) (by kernel_rfl) (fun _ _ _ h => h) (Or.inl ⟨by rfl, ?_⟩) hHeld ?_
              rotate_left
              · intro w hSw; have zd0 := keepc hSw d0; have zp0 := keepc hSw p0; clear hSw; go_simp <;> with_reducible rfl
              (try simp only [Act.put, List.setIfInBounds_toArray, List.set_cons_zero, List.set_cons_succ])
              refine tk (i := 13) (d := (some 9)) (v := ?_) rfl rfl (by kernel_rfl) (by kernel_rfl) (by kernel_rfl) (fun _ _ _ h => h) (Or.inl ⟨by rfl, ?_⟩) hHeld ?_
              rotate_left
              · intro w hSw; have zd0 := keepc hSw d0; have zp0 := keepc hSw p0; clear hSw; go_simp <;> with_reducible rfl
              (try simp only [Act.put, List.setIfInBounds_toArray, List.set_cons_zero, List.set_cons_succ])
              refine wpAnyH_done (by kernel_rfl) ?_ _
              replace hb := chn hb hHeld; clear hHeld
              go_wp2
              go_roundw
              case rel => exact ⟨q + 1, u, by omega, by go_num, rfl, fun ⟨r', f', h1, h2, h3⟩ => by
                by_cases er : r' = q
                · subst er; rw [HFF.out] at h2; injection h2 with h2; rw [← h2, HU.out] at h3; exact h3
                · exact absurd (HSS.out ⟨r', f', by omega, h2, h3⟩) (by decide), by first | exact hb | exact drw hb _⟩
              case measure => simp [intOf]; omega
          · obtain rfl : q = m := by omega
            have d1 := keepc hbi HD1.out
            have hb := chn HB1.out hbi
            have hst := HST.out.below hb
            cases r with
            | true =>
              clear HOX HSS hbi
              go_wp2_with fail
              refine (HWI.out _ hst).mono ?_; rintro e V1 ⟨rfl, hq⟩; replace hb := chn hb hq; replace hst := hst.below hq; replace d0 := keepc hq d0; replace d1 := keepc hq d1; clear hq
              go_wp2_with fail
              refine (HWI.out _ hst).mono ?_; rintro e V2 ⟨rfl, hq⟩; replace hb := chn hb hq; clear hq hst
              have HS1 := HSN.out
              go_wp2
              go_roundw
              case rel => exact ⟨j + 1, by omega, by go_num, by rw [HS1]; go_num, by first | exact hb | exact drw hb _⟩
              case measure => simp [intOf]; omega
            | false =>
              obtain ⟨hx2, r', f', h1, h2⟩ := HOX.out rfl
              obtain rfl : s = true := HSS.out ⟨r', f', by have := (List.getElem?_eq_some_iff.1 h1).1; rw [HM.out] at this; exact this, h1, h2⟩
              clear HOX HSS hbi h1 h2
              go_wp2_with fail
              refine (HWI.out _ hst).mono ?_; rintro e V1 ⟨rfl, hq⟩; replace hb := chn hb hq; replace hst := hst.below hq; replace d0 := keepc hq d0; replace d1 := keepc hq d1; clear hq
              go_wp2_with fail
              refine (HWI.out _ hst).mono ?_; rintro e V2 ⟨rfl, hq⟩; replace hb := chn hb hq; clear hq hst
              have HS1 := HSN.out
              go_wp2
              go_roundw
              case rel => exact ⟨j + 1, by omega, by go_num, by rw [HS1]; go_num, by first | exact hb | exact drw hb _⟩
              case measure => simp [intOf]; omega
      · obtain rfl : j = n3 := by omega
        have hC : cntM (ms4.take j) ss = cntQ (ys.map En.pl) ss := by rw [List.take_of_length_le (by rw [HN3.out]; exact Nat.le_refl _)]; exact HFC.out
        rw [hC]
        have hCl : cntQ (ys.map En.pl) ss ≤ 60 := by rw [← hC, List.take_of_length_le (by rw [HN3.out]; exact Nat.le_refl _), HFC.out]; unfold cntQ; exact Nat.le_trans (List.length_filter_le _ _) (by rw [HM.out]; exact hkb)
        have hCC : cntQ (ys.map En.pl) (ss.take m) = cntQ (ys.map En.pl) ss := by rw [List.take_of_length_le (by rw [HM.out]; exact Nat.le_refl _)]
        obtain ⟨C, hC0⟩ : ∃ C, cntQ (ys.map En.pl) ss = C := ⟨_, rfl⟩
        have HCL : Hid (∀ k, cntQ (ys.map En.pl) (ss.take k) ≤ C) := fun k => by rw [← hC0]; exact cntQ_le _ _ _
        rw [hC0] at hCl hCC ⊢
        have HCC := Lib.hid hCC
        have HB1 := Lib.hid hb
        clear hC hC0 hCC hb
        go_wp2
        go_loopw [7, 11] (fun k i wr' => ∃ q : Nat, q ≤ m ∧ i = .int .i64 q ∧ k = .int .i64 ((C - cntQ (ys.map En.pl) (ss.take q) : Nat) : Int) ∧ Below W7.heap.size W7 wr') (fun _ i _ => m - (intOf i).toNat)
        case atStart => exact ⟨0, Nat.zero_le _, rfl, by simp [cntQ], HB1.out⟩
        case round =>
          obtain ⟨q, hq, rfl, rfl, hb⟩ := hrel
          by_cases hlq : q < m
          · obtain ⟨f, hff⟩ : ∃ e, ss[q]? = some e := ⟨_, List.getElem?_eq_getElem (by rw [HM.out]; exact hlq)⟩
            obtain ⟨b', off', rfl, _, hcs⟩ := (HST.out.below hb) (by rw [HM.out]; omega)
            have p0 := hcs q f hff
            have hfp := HQP.out f (List.mem_of_getElem? hff)
            have hfs : f.size ≤ maxLen := by have := (path_len hfp).2; rw [size_data] at this; unfold maxLen; omega
            obtain ⟨u, hu, hus⟩ := up_str20 f
            obtain ⟨o, ho⟩ : ∃ o, tgetE ys u = o := ⟨_, rfl⟩
            obtain ⟨ep, ex, ed, th, hov, hos⟩ := opt_one o
            have hfu := few_up HTK2.out hfp hu.out
            rw [ho] at hfu
            have hrr : (th && ed) = true ↔ upCodeL (ys.map En.pl) f.data.toList = 0 := by
              rw [← hfu]
              rcases hos with ⟨rfl, rfl⟩ | ⟨rfl, rfl⟩
              · simp
              · simp
            have hsn := cntQ_snoc (ys.map En.pl) hff hrr
            have hc1 := HCL.out (q + 1)
            have HG := Lib.hid (fun W (h : SlF En.cells W a2 ys) => getT_c a2 c2 n2 ys u o (Lib.hid ho) W HN2.out h (by omega) HZ2.out)
            rw [hov] at HG
            obtain ⟨K, hK⟩ : ∃ K, cntQ (ys.map En.pl) (ss.take q) = K := ⟨_, rfl⟩
            rw [hK] at hsn ⊢
            rw [hsn] at hc1
            have HSN := Lib.hid hsn
            have hRR := HR0.out.below hb
            have i2 : (0 : Int) ≤ (q : Int) := by omega
            have i3 : (q : Int) < (m : Int) := by omega
            clear hff hcs hfp ho hov hos hfu hrr hsn hK
            go_wp2_with fail
            refine (pathUp_c f u hu _ hfs).mono ?_; rintro e V1 ⟨rfl, hq⟩; replace hb := chn hb hq; replace hRR := hRR.below hq; clear hq
            go_wp2_with fail
            refine (HG.out _ hRR.sl).mono ?_; rintro e V2 ⟨rfl, hq⟩; replace hb := chn hb hq; clear hq hRR HG
            have y1 := new_cell V2 #[.string ep, .bool ed, .string ex] 39 1 _ rfl
            replace hb := hb.alloc hb.size (.cells #[.string ep, .bool ed, .string ex] 39)
            cases th with
            | false =>
              go_wp2
              go_roundw
              case rel => exact ⟨q + 1, by omega, by go_num, by rw [HSN.out]; go_num, by first | exact hb | exact drw hb _⟩
              case measure => simp [intOf]; omega
            | true =>
              cases ed with
              | false =>
                go_wp2
                go_roundw
                case rel => exact ⟨q + 1, by omega, by go_num, by rw [HSN.out]; go_num, by first | exact hb | exact drw hb _⟩
                case measure => simp [intOf]; omega
              | true =>
                have hc2 : K + 1 ≤ C := hc1
                clear hc1
                have hsub : ((C - K : Nat) : Int) - 1 = ((C - (K + 1) : Nat) : Int) := by omega
                go_wp2
                go_roundw
                case rel => exact ⟨q + 1, by omega, by go_num, by rw [HSN.out]; go_num, by first | exact hb | exact drw hb _⟩
                case measure => simp [intOf]; omega
          · obtain rfl : q = m := by omega
            have hbX := chn HB0.out hb
            have hcc := HCC.out
            rw [hcc, Nat.sub_self]
            clear hb hcc
            go_wp2
            go_ret
            exact ⟨rfl, hbX⟩
end Go.Proofs.YtdhbdcmnbhjjaaaGreatDoor
namespace Go.Proofs.YtdhbdcmnbhjjaaaGreatDoor
open Go.RowKit
theorem raw_5 {t : List PE} {p r x : Bs} : rawL t 5 p r x = t.map (movedE p r) := by simp [rawL]
theorem raw_1 {t : List PE} {p r x : Bs} : rawL t 1 p r x = (t.filter fun e => !(e.p == p)) ++ [⟨p, true, x⟩] := by simp [rawL]
theorem raw_2 {t : List PE} {p r x : Bs} : rawL t 2 p r x = (t.filter fun e => !(e.p == p)) ++ [⟨p, false, x⟩] := by simp [rawL]
theorem raw_o {t : List PE} {k : Int} {p r x : Bs} (h5 : k ≠ 5) (h1 : k ≠ 1) (h2 : k ≠ 2) : rawL t k p r x = t.filter fun e => !(e.p == p) := by simp [rawL, h5, h1, h2]
theorem keep_snoc (xs : List En) (k : Nat) (e : En) (he : xs[k]? = some e) (p : Bs) (ms : List En) (h : ms.map En.pl = ((xs.take k).map En.pl).filter fun e => !(e.p == p)) :
    (ms ++ if e.p.data.toList = p then [] else [e]).map En.pl = ((xs.take (k + 1)).map En.pl).filter fun e => !(e.p == p) := by
  rw [take_pl xs k e he, List.filter_append, List.map_append, h]
  congr 1
  rw [List.filter_cons]
  by_cases hp : e.p.data.toList = p
  · rw [if_pos hp, if_neg (by rw [show e.pl.p = e.p.data.toList from rfl, hp]; simp)]; rfl
  · rw [if_neg hp, if_pos (by rw [show e.pl.p = e.p.data.toList from rfl]; simpa using hp)]; rfl
theorem keep_len (xs : List En) (k : Nat) (p : Bs) (ms : List En) (h : ms.map En.pl = ((xs.take k).map En.pl).filter fun e => !(e.p == p)) : ms.length ≤ k := by
  have h1 := congrArg List.length h
  have h2 := List.length_filter_le (fun e : PE => !(e.p == p)) ((xs.take k).map En.pl)
  simp only [List.length_map, List.length_take] at h1 h2
  omega
set_option maxRecDepth 100000 in
set_option maxHeartbeats 8000000 in
theorem treeDo_c (a : Option Addr) (c : Nat) (xs : List En) (k : Int) (p t d : ByteArray) (w : World) (hs : SlF En.cells w a xs) (ha : Adr a c) (hx : xs.length ≤ maxLen) (hp : p.size ≤ 2000000) (ht : t.size ≤ 2000000) (hd : d.size ≤ 2000000) (hzs : ∀ e ∈ xs, e.p.size ≤ 2000000 ∧ e.x.size ≤ 2000000) :
    Calls Tryz.prog 10 #[.slice a xs.length c, opV k p t d] w (MadeEi (tdo (xs.map En.pl) k p.data.toList t.data.toList d.data.toList) (tcode (xs.map En.pl) k p.data.toList t.data.toList d.data.toList) w) := by
  have HE := eltEn
  have hm2 : (2000000 : Nat) ≤ maxLen := by unfold maxLen; omega
  have c0 := new_cell w (opBox k p t d) 25 0 _ rfl
  have c1 := new_cell w (opBox k p t d) 25 1 _ rfl
  have c2 := new_cell w (opBox k p t d) 25 2 _ rfl
  have c3 := new_cell w (opBox k p t d) 25 3 _ rfl
  have hb := bellow_alloc w (.cells (opBox k p t d) 25)
  obtain ⟨r, hr⟩ := tok_dec xs
  have HT := Lib.hid (fun W (h : SlF En.cells W a xs) => treeOk_c a c xs r (Lib.hid hr) W h hx (fun e he => ⟨Nat.le_trans (hzs e he).1 hm2, Nat.le_trans (hzs e he).2 hm2⟩))
  obtain ⟨L, hL⟩ : ∃ L, tdo (xs.map En.pl) k p.data.toList t.data.toList d.data.toList = L := ⟨_, rfl⟩
  obtain ⟨C, hC⟩ : ∃ C, tcode (xs.map En.pl) k p.data.toList t.data.toList d.data.toList = C := ⟨_, rfl⟩
  have HS := Lib.hid hs
  rw [hL, hC]
  cases r with
  | false =>
    have hno : ¬ TOk (xs.map En.pl) := fun h => by have := hr.2 h; cases this
    obtain rfl : C = 1 := by rw [← hC]; exact tcode_bad hno
    obtain rfl : L = [] := by rw [← hL]; exact tdo_bad hno
    obtain ⟨n, hn⟩ : ∃ n, xs.length = n := ⟨_, rfl⟩
    rw [hn] at HT ⊢
    clear hn hs hr hL hC hno hzs hx
    go_enter Tryz.func10, Tryz.ntmps10
    go_wp2_with fail
    refine (HT.out _ (HS.out.below hb)).mono ?_; rintro e W ⟨rfl, hq⟩; replace hb := chn hb hq; clear hq
    go_wp2
    refine bodyPost_ret (v := .tuple #[.slice none 0 0, .int .i64 1]) (by simp [results, Tryz.results10, go_sem]) rfl ⟨none, 0, [], rfl, rfl, World.ownsRow_nil _ _ _ _, hb⟩
  | true =>
  have htok := hr.1 rfl
  have HTK := Lib.hid htok
  have hx16 : xs.length ≤ 16 := by have := htok.most; rw [List.length_map] at this; exact this
  have HC := Lib.hid (fun W (h : SlF En.cells W a xs) => opCode_c a c xs k p t d C (by rw [Hid, ← hC]; unfold tcode; rw [if_pos htok]) W h hx hp ht hd hzs)
  by_cases hC0 : C = 0
  · subst hC0
    obtain ⟨_, hok, hcd⟩ := tcode_0 hC
    have HLL : Hid (doL (xs.map En.pl) k p.data.toList t.data.toList d.data.toList = L) := by rw [Hid, ← tdo_do hC]; exact hL
    have HFIN := Lib.hid (fun (s : List PE) => (do_of_raw htok hok hcd).2 (s := s))
    obtain ⟨n, hn⟩ : ∃ n, xs.length = n := ⟨_, rfl⟩
    have HN := Lib.hid hn
    have HALL : Hid (xs.take n = xs) := by rw [Hid, ← hn, List.take_length]
    have HZ := Lib.hid hzs
    rw [hn] at HT HC hx16 ⊢
    clear hn hs hr hL hC htok hzs hx hok hcd
    go_enter Tryz.func10, Tryz.ntmps10
    go_wp2_with fail
    refine (HT.out _ (HS.out.below hb)).mono ?_; rintro e W ⟨rfl, hq⟩; replace hb := chn hb hq; replace c0 := keepc hq c0; replace c1 := keepc hq c1; replace c2 := keepc hq c2; replace c3 := keepc hq c3; clear hq
    go_wp2_with fail
    refine (HC.out _ (HS.out.below hb)).mono ?_; rintro e z ⟨rfl, hq⟩; replace hb := chn hb hq
    have C0 := Lib.hid (keepc hq c0)
    have C1 := Lib.hid (keepc hq c1)
    have C2 := Lib.hid (keepc hq c2)
    have C3 := Lib.hid (keepc hq c3)
    have HBZ := Lib.hid hb
    have HSZ := Lib.hid (HS.out.below hb)
    clear hq c0 c1 c2 c3 hb
    by_cases k5 : k = 5
    · subst k5
      rw [raw_5] at HFIN
      go_wp2
      go_loopw [7, 23] (fun v i wr => ∃ (j : Nat) (ms : List En), j ≤ n ∧ ms.length ≤ j ∧ i = .int .i64 j ∧ ms.map En.pl = ((xs.take j).map En.pl).map (movedE p.data.toList t.data.toList) ∧ wr.ownsRow z.heap.size 39 3 v ms.length (ms.flatMap En.cells) ∧ Below z.heap.size z wr) (fun _ i _ => n - (intOf i).toNat)
      case atStart => exact ⟨0, [], Nat.zero_le _, Nat.zero_le _, rfl, rfl, World.ownsRow_nil _ _ _ _, Below.refl _ _⟩
      case round =>
        obtain ⟨j, ms, hj, hml, rfl, hms, hown, hb⟩ := hrel
        have HMS := Lib.hid hms
        clear hms
        by_cases hlt : j < n
        · skip
          obtain ⟨e, hee⟩ : ∃ e, xs[j]? = some e := ⟨_, List.getElem?_eq_getElem (by rw [HN.out]; exact hlt)⟩
          have hzz := HZ.out e (List.mem_of_getElem? hee)
          have h2 := HSZ.out.below hb
          obtain ⟨b, off, rfl, _⟩ := h2.addr (by rw [HN.out]; omega)
          obtain ⟨d0, d1, d2⟩ := en_at h2 j e hee
          have i0 : (0 : Int) ≤ (j : Int) := by omega
          have i1 : (j : Int) < (n : Int) := by omega
          obtain ⟨u, hu⟩ : ∃ u, moveOkL e.p.data.toList p.data.toList t.data.toList = u := ⟨_, rfl⟩
          have HU2 := Lib.hid hu
          obtain ⟨mv, hmv⟩ : ∃ mv : ByteArray, moveL e.p.data.toList p.data.toList t.data.toList = mv.data.toList := ⟨⟨(moveL e.p.data.toList p.data.toList t.data.toList).toArray⟩, by simp⟩
          have HMV := Lib.hid hmv
          have HSN : Hid ((ms ++ [(⟨mv, e.d, e.x⟩ : En)]).map En.pl = ((xs.take (j + 1)).map En.pl).map (movedE p.data.toList t.data.toList)) := by
            rw [Hid, take_pl xs j e hee, List.map_append, List.map_append, HMS.out]
            congr 1
            show [(⟨mv.data.toList, e.d, e.x.data.toList⟩ : PE)] = [⟨moveL e.p.data.toList p.data.toList t.data.toList, e.d, e.x.data.toList⟩]
            rw [hmv]
          obtain ⟨ep, ed, ex⟩ := e
          clear hu hmv
          clear h2 hee
          have c0 := keepc (bellow_alloc wr (.cells #[.string ep, .bool ed, .string ex] 39)) (keepc hb C0.out)
          have c1 := keepc (bellow_alloc wr (.cells #[.string ep, .bool ed, .string ex] 39)) (keepc hb C1.out)
          have c2 := keepc (bellow_alloc wr (.cells #[.string ep, .bool ed, .string ex] 39)) (keepc hb C2.out)
          have q0 := new_cell wr #[.string ep, .bool ed, .string ex] 39 0 (.string ep) rfl
          have q1 := new_cell wr #[.string ep, .bool ed, .string ex] 39 1 (.bool ed) rfl
          have q2 := new_cell wr #[.string ep, .bool ed, .string ex] 39 2 (.string ex) rfl
          have f0 := new_free wr #[.string ep, .bool ed, .string ex] 39 0
          have HOW := Lib.hid hown
          have HLW := Lib.hid hb.size
          have hbw := bellow_alloc wr (.cells #[.string ep, .bool ed, .string ex] 39)
          replace hown := own_below hown (bellow_alloc wr (.cells #[.string ep, .bool ed, .string ex] 39))
          replace hb := hb.alloc hb.size (.cells #[.string ep, .bool ed, .string ex] 39); 
          go_wp2_with fail
          refine (pathMove_c ep p t mv u HMV HU2 _ hzz.1 hp ht).mono ?_; rintro e W ⟨rfl, hq⟩; replace hb := chn hb hq; replace hbw := chn hbw hq; replace f0 := (hq.frozen (p := ⟨wr.heap.size, 0, none⟩) (by simp)).trans f0; replace hown := own_below hown hq; replace q0 := keepc hq q0; replace q1 := keepc hq q1; replace q2 := keepc hq q2; clear hq
          have hown1 := own_below HOW.out (hbw.setCell (p := ⟨wr.heap.size, 0, none⟩) (Nat.le_refl _) (.string mv))
          replace hown := hown1
          clear hown1
          have hb1 := hb.setCell (p := ⟨wr.heap.size, 0, none⟩) HLW.out (.string mv)
          replace hb := hb1
          clear hb1
          go_wp2_with (at_builtin; go_must (refine wp_app1H (by rfl) _ _ 23 (by rfl) HE z.heap.size z.heap.size z _ #[.string mv, .bool ed, .string ex] _ _ _ (by rfl) W.heap.size (by simp) (by rfl) hown (by rfl) (by simp [Value.oneCell']) (by omega) hb.size hb (Nat.le_refl _) ?_); intro v' w1 hown1 hbel1 _ _)
          go_roundw
          case rel => exact ⟨j + 1, ms ++ [⟨mv, ed, ex⟩], by omega, by simp; omega, by go_num, HSN.out, by rw [← flat_app]; simpa using hown1, hbel1⟩
          case measure => simp [intOf]; omega
        · obtain rfl : j = n := by omega
          have HRAW : Hid (ms.map En.pl = (xs.map En.pl).map (movedE p.data.toList t.data.toList)) := by rw [Hid, HMS.out, HALL.out]
          have c0 := keepc hb C0.out
          obtain ⟨v1, v2, rfl⟩ := own_shape hown
          go_wp2_with fail
          refine (sortEn_c _ z.heap.size v1 v2 ms hown (by omega)).mono ?_; rintro e W2 ⟨rfl, zs, hp2, hso, _, hz2, hq⟩
          have hzl : ms.length = zs.length := hp2.length_eq.symm
          have HEQ : Hid (zs.map En.pl = L) := by
            rw [Hid, ← HLL.out]
            exact HFIN.out _ (by rw [← HRAW.out]; exact hp2.map _) (by rw [List.pairwise_map]; exact hso)
          go_wp2
          refine bodyPost_ret (v := .tuple #[.slice v1 zs.length v2, .int .i64 0]) (by simp [results, Tryz.results10, go_sem]) rfl ⟨v1, v2, zs, rfl, HEQ.out, own_mono hz2 HBZ.out.size, (HBZ.out.trans (hb.mono HBZ.out.size)).trans (hq.mono HBZ.out.size)⟩
    · have n5 : (k == 5) = false := by rw [beq_eq_false_iff_ne]; exact k5
      have HK5 := Lib.hid k5
      clear k5
      go_wp2
      go_loopw [7, 23] (fun v i wr => ∃ (j : Nat) (ms : List En), j ≤ n ∧ i = .int .i64 j ∧ ms.map En.pl = ((xs.take j).map En.pl).filter (fun e => !(e.p == p.data.toList)) ∧ wr.ownsRow z.heap.size 39 3 v ms.length (ms.flatMap En.cells) ∧ Below z.heap.size z wr) (fun _ i _ => n - (intOf i).toNat)
      case atStart => exact ⟨0, [], Nat.zero_le _, rfl, rfl, World.ownsRow_nil _ _ _ _, Below.refl _ _⟩
      case round =>
        obtain ⟨j, ms, hj, rfl, hms, hown, hb⟩ := hrel
        have HMS := Lib.hid hms
        have hml := keep_len _ _ _ _ hms
        clear hms
        by_cases hlt : j < n
        · skip
          obtain ⟨e, hee⟩ : ∃ e, xs[j]? = some e := ⟨_, List.getElem?_eq_getElem (by rw [HN.out]; exact hlt)⟩
          have hzz := HZ.out e (List.mem_of_getElem? hee)
          have h2 := HSZ.out.below hb
          obtain ⟨b, off, rfl, _⟩ := h2.addr (by rw [HN.out]; omega)
          obtain ⟨d0, d1, d2⟩ := en_at h2 j e hee
          have i0 : (0 : Int) ≤ (j : Int) := by omega
          have i1 : (j : Int) < (n : Int) := by omega
          have HSN := Lib.hid (keep_snoc xs j e hee p.data.toList ms HMS.out)
          obtain ⟨ep, ed, ex⟩ := e
          clear h2 hee
          have c0 := keepc (bellow_alloc wr (.cells #[.string ep, .bool ed, .string ex] 39)) (keepc hb C0.out)
          have c1 := keepc (bellow_alloc wr (.cells #[.string ep, .bool ed, .string ex] 39)) (keepc hb C1.out)
          have c2 := keepc (bellow_alloc wr (.cells #[.string ep, .bool ed, .string ex] 39)) (keepc hb C2.out)
          have q0 := new_cell wr #[.string ep, .bool ed, .string ex] 39 0 (.string ep) rfl
          have q1 := new_cell wr #[.string ep, .bool ed, .string ex] 39 1 (.bool ed) rfl
          have q2 := new_cell wr #[.string ep, .bool ed, .string ex] 39 2 (.string ex) rfl
          by_cases heq : ep.data.toList = p.data.toList
          · have qe := beqs_yes heq
            have HSM : Hid (ms.map En.pl = ((xs.take (j + 1)).map En.pl).filter fun e => !(e.p == p.data.toList)) := by
              have h := HSN.out; rw [if_pos heq, List.append_nil] at h; exact h
            clear heq
            go_wp2
            go_roundw
            case rel => exact ⟨j + 1, ms, by omega, by go_num, HSM.out, own_below hown (bellow_alloc _ _), hb.alloc hb.size _⟩
            case measure => simp [intOf]; omega
          · have qe := beqs_no heq
            have HSM : Hid ((ms ++ [(⟨ep, ed, ex⟩ : En)]).map En.pl = ((xs.take (j + 1)).map En.pl).filter fun e => !(e.p == p.data.toList)) := by
              have h := HSN.out; rw [if_neg heq] at h; exact h
            clear heq
            replace hown := own_below hown (bellow_alloc wr (.cells #[.string ep, .bool ed, .string ex] 39))
            replace hb := hb.alloc hb.size (.cells #[.string ep, .bool ed, .string ex] 39); 
            go_wp2_with (at_builtin; go_must (refine wp_app1H (by rfl) _ _ 23 (by rfl) HE z.heap.size z.heap.size z _ #[.string ep, .bool ed, .string ex] _ _ _ (by rfl) (wr.heap.size + 1) (by simp) (by rfl) hown (by rfl) (by simp [Value.oneCell']) (by omega) hb.size hb (Nat.le_refl _) ?_); intro v' w1 hown1 hbel1 _ _)
            go_roundw
            case rel => exact ⟨j + 1, ms ++ [⟨ep, ed, ex⟩], by omega, by go_num, HSM.out, by rw [← flat_app]; simpa using hown1, hbel1⟩
            case measure => simp [intOf]; omega
        · obtain rfl : j = n := by omega
          have HKEEP : Hid (ms.map En.pl = (xs.map En.pl).filter fun e => !(e.p == p.data.toList)) := by rw [Hid, HMS.out, HALL.out]
          have c0 := keepc hb C0.out
          have c1 := keepc hb C1.out
          have c3 := keepc hb C3.out
          by_cases k1 : k = 1
          · subst k1
            have HRAW : Hid ((ms ++ [(⟨p, true, d⟩ : En)]).map En.pl = rawL (xs.map En.pl) 1 p.data.toList t.data.toList d.data.toList) := by rw [Hid, raw_1, List.map_append, HKEEP.out]; rfl
            go_wp2_with (at_builtin; go_must (refine wp_app1H (by rfl) _ _ 23 (by rfl) HE z.heap.size z.heap.size z _ #[.string p, .bool true, .string d] _ _ _ (by rfl) wr.heap.size (by simp) (by rfl) hown (by rfl) (by simp [Value.oneCell']) (by omega) hb.size hb (Nat.le_refl _) ?_); intro v' w1 hown1 hbel1 _ _)
            have hown2 : w1.ownsRow z.heap.size 39 3 v' (ms ++ [(⟨p, true, d⟩ : En)]).length ((ms ++ [(⟨p, true, d⟩ : En)]).flatMap En.cells) := by rw [← flat_app]; simpa using hown1
            have hbX := hbel1
            clear hown hb hown1
            have hown := hown2
            have hb := hbX
            clear hown2 hbX
            obtain ⟨ns, hns⟩ : ∃ ns, ms ++ [(⟨p, true, d⟩ : En)] = ns := ⟨_, rfl⟩
            have hnl : ns.length ≤ 17 := by rw [← hns]; simp; omega
            rw [hns] at hown HRAW
            clear hns
            obtain ⟨v1, v2, rfl⟩ := own_shape hown
            go_wp2_with fail
            refine (sortEn_c _ z.heap.size v1 v2 ns hown (by omega)).mono ?_; rintro e W2 ⟨rfl, zs, hp2, hso, _, hz2, hq⟩
            have hzl : ns.length = zs.length := hp2.length_eq.symm
            have HEQ : Hid (zs.map En.pl = L) := by
              rw [Hid, ← HLL.out]
              exact HFIN.out _ (by rw [← HRAW.out]; exact hp2.map _) (by rw [List.pairwise_map]; exact hso)
            go_wp2
            refine bodyPost_ret (v := .tuple #[.slice v1 zs.length v2, .int .i64 0]) (by simp [results, Tryz.results10, go_sem]) rfl ⟨v1, v2, zs, rfl, HEQ.out, own_mono hz2 HBZ.out.size, (HBZ.out.trans (hb.mono HBZ.out.size)).trans (hq.mono HBZ.out.size)⟩
          · by_cases k2 : k = 2
            · subst k2
              have HRAW : Hid ((ms ++ [(⟨p, false, d⟩ : En)]).map En.pl = rawL (xs.map En.pl) 2 p.data.toList t.data.toList d.data.toList) := by rw [Hid, raw_2, List.map_append, HKEEP.out]; rfl
              go_wp2_with (at_builtin; go_must (refine wp_app1H (by rfl) _ _ 23 (by rfl) HE z.heap.size z.heap.size z _ #[.string p, .bool false, .string d] _ _ _ (by rfl) wr.heap.size (by simp) (by rfl) hown (by rfl) (by simp [Value.oneCell']) (by omega) hb.size hb (Nat.le_refl _) ?_); intro v' w1 hown1 hbel1 _ _)
              have hown2 : w1.ownsRow z.heap.size 39 3 v' (ms ++ [(⟨p, false, d⟩ : En)]).length ((ms ++ [(⟨p, false, d⟩ : En)]).flatMap En.cells) := by rw [← flat_app]; simpa using hown1
              have hbX := hbel1
              clear hown hb hown1
              have hown := hown2
              have hb := hbX
              clear hown2 hbX
              obtain ⟨ns, hns⟩ : ∃ ns, ms ++ [(⟨p, false, d⟩ : En)] = ns := ⟨_, rfl⟩
              have hnl : ns.length ≤ 17 := by rw [← hns]; simp; omega
              rw [hns] at hown HRAW
              clear hns
              obtain ⟨v1, v2, rfl⟩ := own_shape hown
              go_wp2_with fail
              refine (sortEn_c _ z.heap.size v1 v2 ns hown (by omega)).mono ?_; rintro e W2 ⟨rfl, zs, hp2, hso, _, hz2, hq⟩
              have hzl : ns.length = zs.length := hp2.length_eq.symm
              have HEQ : Hid (zs.map En.pl = L) := by
                rw [Hid, ← HLL.out]
                exact HFIN.out _ (by rw [← HRAW.out]; exact hp2.map _) (by rw [List.pairwise_map]; exact hso)
              go_wp2
              refine bodyPost_ret (v := .tuple #[.slice v1 zs.length v2, .int .i64 0]) (by simp [results, Tryz.results10, go_sem]) rfl ⟨v1, v2, zs, rfl, HEQ.out, own_mono hz2 HBZ.out.size, (HBZ.out.trans (hb.mono HBZ.out.size)).trans (hq.mono HBZ.out.size)⟩
            · have n1 : (k == 1) = false := by rw [beq_eq_false_iff_ne]; exact k1
              have n2 : (k == 2) = false := by rw [beq_eq_false_iff_ne]; exact k2
              have HRAW : Hid (ms.map En.pl = rawL (xs.map En.pl) k p.data.toList t.data.toList d.data.toList) := by rw [Hid, raw_o HK5.out k1 k2, HKEEP.out]
              clear k1 k2
              obtain ⟨v1, v2, rfl⟩ := own_shape hown
              go_wp2_with fail
              refine (sortEn_c _ z.heap.size v1 v2 ms hown (by omega)).mono ?_; rintro e W2 ⟨rfl, zs, hp2, hso, _, hz2, hq⟩
              have hzl : ms.length = zs.length := hp2.length_eq.symm
              have HEQ : Hid (zs.map En.pl = L) := by
                rw [Hid, ← HLL.out]
                exact HFIN.out _ (by rw [← HRAW.out]; exact hp2.map _) (by rw [List.pairwise_map]; exact hso)
              go_wp2
              refine bodyPost_ret (v := .tuple #[.slice v1 zs.length v2, .int .i64 0]) (by simp [results, Tryz.results10, go_sem]) rfl ⟨v1, v2, zs, rfl, HEQ.out, own_mono hz2 HBZ.out.size, (HBZ.out.trans (hb.mono HBZ.out.size)).trans (hq.mono HBZ.out.size)⟩
  · have hC1 : ((C : Int) != 0) = true := by rw [bne_iff_ne]; omega
    have HLX : Hid (xs.map En.pl = L) := by rw [Hid, ← hL, tdo_same htok (by rw [hC]; exact hC0)]
    have HCP := Lib.hid (fun W (h : SlF En.cells W a xs) => copyEnts_c a c xs W h ha (by omega))
    obtain ⟨n, hn⟩ : ∃ n, xs.length = n := ⟨_, rfl⟩
    have HN := Lib.hid hn
    rw [hn] at HT HC HCP ⊢
    clear hn hs hr hL hC htok hzs hx ha hx16 hC0
    go_enter Tryz.func10, Tryz.ntmps10
    go_wp2_with fail
    refine (HT.out _ (HS.out.below hb)).mono ?_; rintro e W ⟨rfl, hq⟩; replace hb := chn hb hq; replace c0 := keepc hq c0; replace c1 := keepc hq c1; replace c2 := keepc hq c2; replace c3 := keepc hq c3; clear hq
    go_wp2_with fail
    refine (HC.out _ (HS.out.below hb)).mono ?_; rintro e W ⟨rfl, hq⟩; replace hb := chn hb hq; clear hq
    go_wp2_with fail
    refine (HCP.out _ (HS.out.below hb)).mono ?_; rintro e W ⟨v, rfl, hown, hq⟩
    have HB := Lib.hid hb
    replace hb := chn hb hq
    obtain ⟨v1, v2, rfl⟩ := own_shape hown
    have HOWN : Hid (OwnEn W w.heap.size (.slice v1 xs.length v2) xs) := by
      have h := own_mono hown HB.out.size
      rw [← HN.out] at h; exact h
    clear hown hq
    go_wp2
    refine bodyPost_ret (v := .tuple #[.slice v1 xs.length v2, .int .i64 (C : Int)]) (by simp [results, Tryz.results10, go_sem, HN.out]) rfl ⟨v1, v2, xs, rfl, HLX.out, HOWN.out, hb⟩
end Go.Proofs.YtdhbdcmnbhjjaaaGreatDoor
namespace Go.Proofs.YtdhbdcmnbhjjaaaGreatDoor
open Go.RowKit
/-- What is done once more. -/
theorem put_again {t : List PE} {k : Int} {p r x : Bs} (hc : tcode t k p r x = 0) : tcode (tdo t k p r x) k p r x = (if k = 2 then 0 else if k = 1 then 4 else 2) ∧ tdo (tdo t k p r x) k p r x = tdo t k p r x := by
  obtain ⟨h, ho, hcd⟩ := tcode_0 hc
  rw [tdo_do hc]
  have h2 := do_tok h ho hcd (x := x)
  have hp := opOk_p ho
  have key : ∀ m, codeL (doL t k p r x) k p r = m → tcode (doL t k p r x) k p r x = m := fun m hm => by rw [tcode_op h2 ho]; exact hm
  rcases opOk_k ho with rfl | rfl | rfl | rfl | rfl
  · have hx : x = [] := by rw [opOk_1] at ho; simp only [Bool.and_eq_true, beq_iff_eq] at ho; exact ho.2.2
    subst hx
    rw [code_1] at hcd
    have h4 := key 4 (by rw [code_1, doL_1]; exact again_1 h hcd hp)
    exact ⟨h4, tdo_same h2 (by rw [h4]; decide)⟩
  · rw [code_2] at hcd
    have hx : dataOkL x = true := by rw [opOk_2] at ho; simp only [Bool.and_eq_true] at ho; exact ho.2.2
    obtain ⟨h3, h4⟩ := again_2 h hcd hp hx
    have h5 := key 0 (by rw [code_2, doL_2]; exact h3)
    exact ⟨h5, by rw [tdo_do h5, doL_2, doL_2]; exact h4⟩
  · have h4 := key 2 (by rw [code_3, doL_3]; exact (again_off h).1)
    exact ⟨h4, tdo_same h2 (by rw [h4]; decide)⟩
  · have h4 := key 2 (by rw [code_4, doL_4]; exact (again_off h).2)
    exact ⟨h4, tdo_same h2 (by rw [h4]; decide)⟩
  · rw [code_5] at hcd
    have hr : pathOkL r = true := by rw [opOk_5] at ho; simp only [Bool.and_eq_true] at ho; exact ho.2.1
    have h4 := key 2 (by rw [code_5, doL_5]; exact again_5 (mv_of h hp hr hcd))
    exact ⟨h4, tdo_same h2 (by rw [h4]; decide)⟩
/-- How many are there then. -/
theorem many_len {t : List PE} {k : Int} {p r x : Bs} (hc : tcode t k p r x = 0) : (k = 1 → (tdo t k p r x).length = t.length + 1) ∧
    (k = 2 → (tdo t k p r x).length = if (getL t p).isSome = true then t.length else t.length + 1) ∧ (k = 5 → (tdo t k p r x).length = t.length) ∧ (k ≠ 1 → k ≠ 2 → k ≠ 5 → (tdo t k p r x).length + 1 = t.length) := by
  obtain ⟨h, ho, hcd⟩ := tcode_0 hc
  rw [tdo_do hc]
  have hp := opOk_p ho
  refine ⟨?_, ?_, ?_, ?_⟩
  · rintro rfl
    rw [code_1] at hcd
    rw [doL_1, len_putP h.ordP, if_neg]
    rw [← getL_at, (makeC_0 hcd).2.1]; simp
  · rintro rfl
    rw [doL_2, len_putP h.ordP, getL_at]
  · rintro rfl
    rw [code_5] at hcd
    have hr : pathOkL r = true := by rw [opOk_5] at ho; simp only [Bool.and_eq_true] at ho; exact ho.2.1
    rw [doL_5]; exact (mv_of h hp hr hcd).len
  · intro h1 h2 h5
    rcases opOk_k ho with rfl | rfl | rfl | rfl | rfl
    · exact absurd rfl h1
    · exact absurd rfl h2
    · rw [code_3] at hcd
      obtain ⟨e, he, _⟩ := rmC_0 hcd
      obtain ⟨h6, h7⟩ := getL_some he
      rw [doL_3, ← h7]; exact off_len h h6
    · rw [code_4] at hcd
      obtain ⟨e, he, _⟩ := rmdirC_0 hcd
      obtain ⟨h6, h7⟩ := getL_some he
      rw [doL_4, ← h7]; exact off_len h h6
    · exact absurd rfl h5
/-- A slice of entries that may be handed on. -/
def InT (w : World) (a : Option Addr) (c : Nat) (xs : List En) : Prop := SlF En.cells w a xs ∧ Adr a c
theorem InT.below {w w' : World} {a : Option Addr} {c : Nat} {xs : List En} (h : InT w a c xs) (hq : Below w.heap.size w w') : InT w' a c xs := ⟨h.1.below hq, h.2⟩
theorem ReadEn.inT {w : World} {a : Option Addr} {c : Nat} {xs : List En} (h : ReadEn w a c xs) : InT w a c xs := by
  obtain ⟨b, off, rfl, _, h3, _⟩ := h; exact ⟨h3, .inr ⟨b, off, rfl⟩⟩
theorem own_inT {w : World} {B c : Nat} {a : Option Addr} {xs : List En} (h : OwnEn w B (.slice a xs.length c) xs) : InT w a c xs := ⟨own_slf (fun _ => rfl) h, own_adr h⟩
/-- TreeDo, as the laws meet it. -/
theorem doL_c (a : Option Addr) (c n : Nat) (xs : List En) (k : Int) (p t d : ByteArray) (w : World) (hn : xs.length = n) (hs : InT w a c xs) (hx : n ≤ 1000) (hp : p.size ≤ 20) (ht : t.size ≤ 20) (hd : d.size ≤ 20) (hz : Small xs) :
    Calls Tryz.prog 10 #[.slice a n c, opV k p t d] w fun e w' => ∃ (a' : Option Addr) (c' m : Nat) (ms : List En), e = .returned (.tuple #[.slice a' m c', .int .i64 ((tcode (xs.map En.pl) k p.data.toList t.data.toList d.data.toList : Nat) : Int)]) ∧ ms.length = m ∧ ms.map En.pl = tdo (xs.map En.pl) k p.data.toList t.data.toList d.data.toList ∧ InT w' a' c' ms ∧ Below w.heap.size w w' := by
  subst hn
  refine (treeDo_c a c xs k p t d w hs.1 hs.2 (by unfold maxLen; omega) (by omega) (by omega) (by omega) hz.mil).mono ?_
  rintro e w' ⟨a', c', ms, rfl, h1, h2, h3⟩
  exact ⟨a', c', ms.length, ms, rfl, rfl, h1, own_inT h2, h3⟩
theorem sDoL_c (a : Option Addr) (c n : Nat) (xs : List En) (k : Int) (p t d : ByteArray) (w : World) (hn : xs.length = n) (hs : ReadEn w a c xs) (hx : n ≤ 1000) (hp : p.size ≤ 20) (ht : t.size ≤ 20) (hd : d.size ≤ 20) (hz : Small xs) :
    Calls Tryz.prog 11 #[.slice a n c, opV k p t d] w fun e w' => ∃ (a' : Option Addr) (c' m : Nat) (ms : List En), e = .returned (.tuple #[.slice a' m c', .int .i64 ((tcode (xs.map En.pl) k p.data.toList t.data.toList d.data.toList : Nat) : Int)]) ∧ ms.length = m ∧ ms.map En.pl = tdo (xs.map En.pl) k p.data.toList t.data.toList d.data.toList ∧ InT w' a' c' ms ∧ Below w.heap.size w w' := by
  subst hn
  refine (sTreeDo_c a c xs k p t d w hs (by omega) (by omega) (by omega) (by omega) hz.mil).mono ?_
  rintro e w' ⟨v, ms, rfl, h1, ⟨g, c', rfl, h4, h5, h2⟩, h3⟩
  exact ⟨_, c', ms.length, ms, rfl, rfl, h1, own_inT h2, h3⟩
/-- Two trees held against one another. -/
theorem sameL_c (a a' : Option Addr) (c c' n n' : Nat) (xs ys : List En) (r : Bool) (hr : Hid (r = true ↔ xs = ys)) (w : World) (hn : xs.length = n) (hn' : ys.length = n') (hs : InT w a c xs) (hs' : InT w a' c' ys) (hx : n ≤ 1000) (hy : n' ≤ 1000) :
    Calls Tryz.prog 12 #[.slice a n c, .slice a' n' c'] w fun e w' => e = .returned (.bool r) ∧ Below w.heap.size w w' := by
  subst hn hn'
  exact (treeSame_c a a' c c' xs ys r hr w hs.1 hs'.1 (by unfold maxLen; omega) (by unfold maxLen; omega)).mono fun _ _ ⟨h1, m, h2⟩ => ⟨h1, h2 ▸ below_dr w m⟩
theorem tdo_small {t : List PE} {k : Int} {p r x : Bs} {ms : List En} (hm : ms.map En.pl = tdo t k p r x) (hc : tcode t k p r x = 0) : Small ms := tok_small (by rw [hm]; exact tdo_tok (tcode_0 hc).1)
theorem do_len (t : List PE) (k : Int) (p r x : Bs) : (tdo t k p r x).length ≤ t.length + 1 := by
  unfold tdo
  split
  · split
    · unfold doL
      split
      · exact put_len_le (f := PE.p) _ _
      · split
        · exact put_len_le (f := PE.p) _ _
        · split
          · have := fold_len_le (f := PE.p) (t.map (movedE p r)) []
            rw [List.length_map] at this
            simp only [List.length_nil] at this
            omega
          · exact Nat.le_trans (List.length_filter_le _ _) (Nat.le_succ _)
    · exact Nat.le_succ _
  · simp
end Go.Proofs.YtdhbdcmnbhjjaaaGreatDoor
namespace Go.Proofs.YtdhbdcmnbhjjaaaGreatDoor
open Go.RowKit
theorem via_op {s : List PE} {k : Int} {p r x : Bs} (hs : TOk s) (ho : opOkL k p r x = true) (hc : codeL s k p r = 0) : tcode s k p r x = 0 ∧ tdo s k p r x = doL s k p r x := by
  have h : tcode s k p r x = 0 := (tcode_op hs ho).trans hc
  exact ⟨h, tdo_do h⟩
theorem undo_1 {t : List PE} {p r x : Bs} (hc : tcode t 1 p r x = 0) : tcode (tdo t 1 p r x) 4 p [] [] = 0 ∧ tdo (tdo t 1 p r x) 4 p [] [] = t := by
  obtain ⟨h, ho, hcd⟩ := tcode_0 hc
  rw [tdo_do hc]
  have hp := opOk_p ho
  have h2 := do_tok h ho hcd (x := x)
  rw [code_1] at hcd
  rw [doL_1] at h2 ⊢
  obtain ⟨h3, h4⟩ := back_1 (x := x) h hcd hp
  obtain ⟨h5, h6⟩ := via_op (k := 4) (r := []) (x := []) h2 (by rw [opOk_4, hp]; rfl) (by rw [code_4]; exact h3)
  exact ⟨h5, by rw [h6, doL_4]; exact h4⟩
theorem undo_4 {t : List PE} {p r x : Bs} (hc : tcode t 4 p r x = 0) : tcode (tdo t 4 p r x) 1 p [] [] = 0 ∧ tdo (tdo t 4 p r x) 1 p [] [] = t := by
  obtain ⟨h, ho, hcd⟩ := tcode_0 hc
  rw [tdo_do hc]
  have hp := opOk_p ho
  have h2 := do_tok h ho hcd (x := x)
  rw [code_4] at hcd
  rw [doL_4] at h2 ⊢
  obtain ⟨h3, h4⟩ := back_4 h hcd hp
  obtain ⟨h5, h6⟩ := via_op (k := 1) (r := []) (x := []) h2 (by rw [opOk_1, hp]; rfl) (by rw [code_1]; exact h3)
  exact ⟨h5, by rw [h6, doL_1]; exact h4⟩
theorem ent_data {t : List PE} (h : TOk t) {p : Bs} {e : PE} (he : getL t p = some e) : dataOkL e.x = true := by
  have h1 := h.ent e (getL_some he).1
  unfold entOkL at h1
  simp only [Bool.and_eq_true] at h1
  exact h1.1.2
theorem undo_3 {t : List PE} {p r x : Bs} (hc : tcode t 3 p r x = 0) : ∃ e, getL t p = some e ∧ tcode (tdo t 3 p r x) 2 p [] e.x = 0 ∧ tdo (tdo t 3 p r x) 2 p [] e.x = t := by
  obtain ⟨h, ho, hcd⟩ := tcode_0 hc
  rw [tdo_do hc]
  have hp := opOk_p ho
  have h2 := do_tok h ho hcd (x := x)
  rw [code_3] at hcd
  rw [doL_3] at h2 ⊢
  obtain ⟨e, he, _⟩ := rmC_0 hcd
  obtain ⟨h3, h4⟩ := back_3 h hcd hp he
  obtain ⟨h5, h6⟩ := via_op (k := 2) (r := []) (x := e.x) h2 (by rw [opOk_2, hp, ent_data h he]; rfl) (by rw [code_2]; exact h3)
  exact ⟨e, he, h5, by rw [h6, doL_2]; exact h4⟩
theorem undo_2 {t : List PE} {p r x : Bs} (hc : tcode t 2 p r x = 0) : (∀ e, getL t p = some e → tcode (tdo t 2 p r x) 2 p [] e.x = 0 ∧ tdo (tdo t 2 p r x) 2 p [] e.x = t) ∧ (getL t p = none → tcode (tdo t 2 p r x) 3 p [] [] = 0 ∧ tdo (tdo t 2 p r x) 3 p [] [] = t) := by
  obtain ⟨h, ho, hcd⟩ := tcode_0 hc
  rw [tdo_do hc]
  have hp := opOk_p ho
  have h2 := do_tok h ho hcd (x := x)
  have hx : dataOkL x = true := by rw [opOk_2] at ho; simp only [Bool.and_eq_true] at ho; exact ho.2.2
  rw [code_2] at hcd
  rw [doL_2] at h2 ⊢
  refine ⟨fun e he => ?_, fun hn => ?_⟩
  · obtain ⟨_, h3, h4⟩ := back_2a h hcd hp hx he
    obtain ⟨h5, h6⟩ := via_op (k := 2) (r := []) (x := e.x) h2 (by rw [opOk_2, hp, ent_data h he]; rfl) (by rw [code_2]; exact h3)
    exact ⟨h5, by rw [h6, doL_2]; exact h4⟩
  · obtain ⟨h3, h4⟩ := back_2b (x := x) h hn
    obtain ⟨h5, h6⟩ := via_op (k := 3) (r := []) (x := []) h2 (by rw [opOk_3, hp]; rfl) (by rw [code_3]; exact h3)
    exact ⟨h5, by rw [h6, doL_3]; exact h4⟩
end Go.Proofs.YtdhbdcmnbhjjaaaGreatDoor
namespace Go.Proofs.YtdhbdcmnbhjjaaaGreatDoor
open Go.RowKit
theorem via_str (m : Nat) (hm : m < 5) : ∃ k : UInt8, (⟨#[47]⟩ : ByteArray) ++ strOfNums [107 + (m : Int)] = ⟨#[47, k]⟩ ∧ k.toNat = 107 + m := by
  refine ⟨UInt8.ofNat (107 + m), ?_, ?_⟩
  · refine bytes_eq ?_
    have h : (107 + (m : Int)).toNat = 107 + m := by omega
    simp [strOfNums, h]
  · rw [UInt8.toNat_ofNat']; omega
theorem via_path {k : UInt8} {m : Nat} (hk : k.toNat = 107 + m) (hm : m < 5) : pathOkL [47, k] = true ∧ upL [47, k] = [47] := by
  obtain rfl : k = UInt8.ofNat (107 + m) := by
    apply UInt8.toNat_inj.1
    rw [hk, UInt8.toNat_ofNat']; omega
  have : m = 0 ∨ m = 1 ∨ m = 2 ∨ m = 3 ∨ m = 4 := by omega
  rcases this with rfl | rfl | rfl | rfl | rfl <;> exact ⟨by decide, by decide⟩
theorem via_law {t : List PE} {p r x v : Bs} (hc : tcode t 5 p r x = 0) (hv : pathOkL v = true) (hu : upL v = [47]) (hne : r ≠ v) :
    (tcode t 5 p v [] = 0 ∨ tcode t 5 p v [] = 4 ∨ tcode t 5 p v [] = 8) ∧ (tcode t 5 p v [] = 0 → tcode (tdo t 5 p v []) 5 v r [] = 0 ∧ tdo (tdo t 5 p v []) 5 v r [] = tdo t 5 p r x) := by
  obtain ⟨h, ho, hcd⟩ := tcode_0 hc
  have hp := opOk_p ho
  have hr : pathOkL r = true := by rw [opOk_5] at ho; simp only [Bool.and_eq_true] at ho; exact ho.2.1
  have hov : opOkL 5 p v [] = true := by rw [opOk_5, hp, hv]; rfl
  have hov2 : opOkL 5 v r [] = true := by rw [opOk_5, hv, hr]; rfl
  rw [code_5] at hcd
  have m := mv_of h hp hr hcd
  refine ⟨?_, fun h0 => ?_⟩
  · rw [tcode_op h hov, code_5]
    exact via_code h hu hv hp (moveC_0 hcd).1
  · have hcv := (tcode_0 h0).2.2
    rw [code_5] at hcv
    have n := mv_of h hp hv hcv
    obtain ⟨h1, h2⟩ := m.via n hne
    rw [tdo_do h0, doL_5, tdo_do hc, doL_5]
    obtain ⟨h3, h4⟩ := via_op (k := 5) (x := []) n.tok' hov2 (by rw [code_5]; exact mv_code h1)
    exact ⟨h3, by rw [h4, doL_5]; exact h2⟩
set_option maxRecDepth 100000 in
set_option maxHeartbeats 8000000 in
theorem lawTreeVia_w (w : World) (a : Option Addr) (n c : Nat) (a' : Option Addr) (n' c' : Nat) (h : Code w a n c) (h' : Code w a' n' c') : Calls Tryz.prog 3 #[.slice a n c, .slice a' n' c'] w (TrueB w) := by
  have hn := h.2.2
  have hn' := h'.2.2
  by_cases hbig : 1048576 < n
  · clear h h'
    go_enter Tryz.func3, Tryz.ntmps3
    go_wp2
    go_ret
    exact ⟨rfl, Below.refl _ _⟩
  by_cases hbig' : 1048576 < n'
  · clear h h'
    go_enter Tryz.func3, Tryz.ntmps3
    go_wp2
    go_ret
    exact ⟨rfl, Below.refl _ _⟩
  clear h'
  have HD := Lib.hid (drawTreeDo_c w a n c h)
  clear h
  go_enter Tryz.func3, Tryz.ntmps3
  go_wp2_with fail
  refine HD.out.mono ?_; rintro e W1 ⟨a1, c1, xs, k, P, T, D, rfl, hR, hz, hx, hP, hgT, hD, hb⟩
  have hT := goodT_size hgT
  have HGT := Lib.hid hgT
  clear hgT
  obtain ⟨n1, hn1⟩ : ∃ m, xs.length = m := ⟨_, rfl⟩
  rw [hn1] at hx ⊢
  have HN1 := Lib.hid hn1
  have HZ := Lib.hid hz
  have c0 := new_cell W1 (opBox k P T D) 25 0 _ rfl
  have c1' := new_cell W1 (opBox k P T D) 25 1 _ rfl
  have c2' := new_cell W1 (opBox k P T D) 25 2 _ rfl
  have c3' := new_cell W1 (opBox k P T D) 25 3 _ rfl
  replace hb := hb.alloc hb.size (.cells (opBox k P T D) 25)
  replace hR := hR.below (bellow_alloc W1 (.cells (opBox k P T D) 25))
  clear hn1 hz HD
  go_wp2_with fail
  refine (doL_c a1 c1 n1 xs k P T D _ HN1.out hR.inT (by omega) hP hT hD HZ.out).mono ?_
  rintro e W2 ⟨a2, c2, n2, ms, rfl, hn2, hms, hX, hq⟩
  replace hb := chn hb hq; replace hR := hR.below hq; replace c0 := keepc hq c0; replace c1' := keepc hq c1'; replace c2' := keepc hq c2'; replace c3' := keepc hq c3'
  have HN2 := Lib.hid hn2
  have HMS := Lib.hid hms
  clear hq hn2 hms
  go_wp2_with fail
  refine (sDoL_c a1 c1 n1 xs k P T D _ HN1.out hR (by omega) hP hT hD HZ.out).mono ?_
  rintro e W3 ⟨a3, c3, n3, ms3, rfl, hn3, hms3, hY, hq⟩
  obtain rfl : ms3 = ms := map_inj_ En.pl_inj (hms3.trans HMS.out.symm)
  obtain rfl : n3 = n2 := hn3.symm.trans HN2.out
  replace hb := chn hb hq; replace hR := hR.below hq; replace hX := hX.below hq; replace c0 := keepc hq c0; replace c1' := keepc hq c1'; replace c2' := keepc hq c2'; replace c3' := keepc hq c3'
  clear hq hn3 hms3
  obtain ⟨C, hC⟩ : ∃ C, tcode (xs.map En.pl) k P.data.toList T.data.toList D.data.toList = C := ⟨_, rfl⟩
  have HC := Lib.hid hC
  rw [hC]
  have hn2b : n3 ≤ 100 := by
    have h1 := congrArg List.length HMS.out
    have h2 := do_len (xs.map En.pl) k P.data.toList T.data.toList D.data.toList
    rw [List.length_map] at h1 h2
    have h3 := HN2.out
    have h4 := HN1.out
    omega
  clear hC
  by_cases hC0 : C = 0
  · subst hC0
    by_cases k5 : k = 5
    · subst k5
      obtain ⟨m, hm⟩ : ∃ m, n' % 5 = m := ⟨_, rfl⟩
      have hm5 : m < 5 := by omega
      have hrm : ((n' : Int).tmod 5) = (m : Int) := by rw [← hm]; exact Int.ofNat_tmod n' 5
      obtain ⟨kk, hve, hkk⟩ := via_str m hm5
      obtain ⟨hvp, hvu⟩ := via_path hkk hm5
      have hne : T.data.toList ≠ [47, kk] := fun e => goodT_via HGT.out (k := kk) (by omega) (bytes_eq e)
      obtain ⟨hl1, hl2⟩ := via_law HC.out hvp hvu hne
      have HVE := Lib.hid hve
      clear hvp hvu hne hm hve
      obtain ⟨v, hv⟩ : ∃ v : ByteArray, v = ⟨#[47, kk]⟩ := ⟨_, rfl⟩
      have hvl : v.data.toList = [47, kk] := by rw [hv]
      have hvs : v.size = 2 := by rw [hv]; rfl
      rw [← hvl] at hl1 hl2
      have HL1 := Lib.hid hl1
      have HL2 := Lib.hid hl2
      have HVE2 : Hid ((⟨#[47]⟩ : ByteArray) ++ strOfNums [107 + (m : Int)] = v) := by rw [Hid, HVE.out, hv]
      have hcv := run_convert_bytes_arg (P := Tryz.prog) (W3.alloc (.cells #[.int .u8 (107 + (m : Int))] 5)) 22 5 Tryz.underlying22 Tryz.underlying5 W3.heap.size 0 1 1 [107 + (m : Int)] rfl (fun i hi => by
        obtain rfl : i = 0 := by omega
        exact new_cell W3 _ _ 0 _ rfl) 9 Tryz.underlying9
      replace c1' := keepc (bellow_alloc W3 (.cells #[.int .u8 (107 + (m : Int))] 5)) c1'
      replace c2' := keepc (bellow_alloc W3 (.cells #[.int .u8 (107 + (m : Int))] 5)) c2'
      replace hR := hR.below (bellow_alloc W3 (.cells #[.int .u8 (107 + (m : Int))] 5))
      replace hX := hX.below (bellow_alloc W3 (.cells #[.int .u8 (107 + (m : Int))] 5))
      replace hb := hb.alloc hb.size (.cells #[.int .u8 (107 + (m : Int))] 5)
      have HDV := Lib.hid (fun W (h : InT W a1 c1 xs) => doL_c a1 c1 n1 xs 5 P v ⟨#[]⟩ W HN1.out h (by omega) hP (by omega) (by decide) HZ.out)
      clear hl1 hl2 hv hvl HVE hkk hY c3'
      go_wp2_with fail
      rw [HVE2.out]
      refine (HDV.out _ hR.inT).mono ?_
      rintro e W4 ⟨a4, c4, n4, ms4, rfl, hn4, hms4, hV, hq⟩
      replace hb := chn hb hq; replace hR := hR.below hq; replace hX := hX.below hq; replace c2' := keepc hq c2'
      obtain ⟨Cv, hCv⟩ : ∃ Cv, tcode (xs.map En.pl) 5 P.data.toList v.data.toList (⟨#[]⟩ : ByteArray).data.toList = Cv := ⟨_, rfl⟩
      rw [hCv]
      have HL1' : Hid (Cv = 0 ∨ Cv = 4 ∨ Cv = 8) := by rw [← hCv]; exact HL1.out
      clear hq hcv c0 c1'
      by_cases hv0 : Cv = 0
      · subst hv0
        have hl2 := HL2.out hCv
        have hms4' : ms4.map En.pl = tdo (xs.map En.pl) 5 P.data.toList v.data.toList [] := hms4
        have HSM4 := Lib.hid (tdo_small hms4' hCv)
        rw [← hms4'] at hl2
        have HL3 := Lib.hid hl2
        have hl4 := congrArg List.length hms4'
        have hl5 := do_len (xs.map En.pl) 5 P.data.toList v.data.toList []
        rw [List.length_map] at hl4 hl5
        have hn4b : n4 ≤ 100 := by have := HN1.out; omega
        clear hms4 hms4' hl2 hl4 hl5 hCv HL1 HL1' HL2
        go_wp2_with fail
        refine (doL_c a4 c4 n4 ms4 5 v T ⟨#[]⟩ _ hn4 hV (by omega) (by omega) hT (by decide) HSM4.out).mono ?_
        rintro e W5 ⟨a5, c5, n5, ms5, rfl, hn5, hms5, hV5, hq⟩
        replace hb := chn hb hq; replace hX := hX.below hq
        obtain rfl : ms5 = ms3 := map_inj_ En.pl_inj (hms5.trans (HL3.out.2.trans HMS.out.symm))
        obtain rfl : n5 = n3 := hn5.symm.trans HN2.out
        rw [show (tcode (ms4.map En.pl) 5 v.data.toList T.data.toList (⟨#[]⟩ : ByteArray).data.toList) = 0 from HL3.out.1]
        have HSC := Lib.hid (sameL_c a5 a2 c5 c2 n5 n5 ms5 ms5 true (Lib.hid ⟨fun _ => rfl, fun _ => rfl⟩) W5 HN2.out HN2.out hV5 hX (by omega) (by omega))
        clear hq hn5 hms5 hV5 hV hX hR c2' hn4
        go_wp2_with fail
        refine HSC.out.mono ?_; rintro e W ⟨rfl, hq⟩; replace hb := chn hb hq; clear hq
        go_wp2
        go_ret
        exact ⟨rfl, hb⟩
      · obtain h4 | h8 := HL1'.out.resolve_left hv0
        · subst h4
          clear hv0 hms4 hCv HL1 HL1'
          go_wp2
          go_ret
          exact ⟨rfl, hb⟩
        · subst h8
          clear hv0 hms4 hCv HL1 HL1'
          go_wp2
          go_ret
          exact ⟨rfl, hb⟩
    · have n5 : (k != 5) = true := by rw [bne_iff_ne]; exact k5
      clear k5
      go_wp2
      go_ret
      exact ⟨rfl, hb⟩
  · skip
    have hne : ((C : Int) != 0) = true := by rw [bne_iff_ne]; omega
    go_wp2
    go_ret
    exact ⟨rfl, hb⟩
end Go.Proofs.YtdhbdcmnbhjjaaaGreatDoor
