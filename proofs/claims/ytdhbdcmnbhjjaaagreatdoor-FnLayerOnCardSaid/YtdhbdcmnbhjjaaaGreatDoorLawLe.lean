/- The walk of the law that a layer overrides, hides, or lets through: FnLayerOn. Conditions: none beyond what can be read. -/
import Derived.Test.YtdhbdcmnbhjjaaaGreatDoorB9
import Derived.Deep.QuietTactic
import Derived.BigQuiet
namespace Go.Proofs.YtdhbdcmnbhjjaaaGreatDoor
open Go.RowKit
/-- What TreeGet finds in a right tree. -/
theorem get_at {us : List En} (h : TOk (us.map En.pl)) {q : ByteArray} (hq : pathOkL q.data.toList = true) {o : Option En} (ho : atP PE.p (us.map En.pl) q.data.toList = o.map En.pl) : tgetE us q = o := by
  rw [tget_right h hq]
  cases o with
  | none =>
    cases hx : getE us q with
    | none => rfl
    | some e =>
      obtain ⟨h1, h2⟩ := getE_some hx
      have h3 : e.pl.p = q.data.toList := by show e.p.data.toList = _; rw [h2]
      exact absurd h3 (atP_none.1 ho e.pl (List.mem_map_of_mem h1))
  | some e =>
    obtain ⟨h1, h2⟩ := atP_some (f := PE.p) ho
    obtain ⟨f, hf, h3⟩ := List.mem_map.1 h1
    obtain rfl : f = e := En.pl_inj h3
    obtain rfl : f.p = q := bytes_eq h2
    exact getE_ok h hf
/-- What stands at a mark's path. -/
theorem on_mark {xs : List Mk} {ys us : List En} (h : lonB (xs.map Mk.pl) (ys.map En.pl) = true) (hu : us.map En.pl = onL (xs.map Mk.pl) (ys.map En.pl)) {m : Mk} (hm : m ∈ xs) : tgetE us m.p = onMk m := by
  obtain ⟨h1, h2, h3, h4, h5⟩ := lon_true h
  have hmm := List.mem_map_of_mem (f := Mk.pl) hm
  have h6 := at_on h1.ord h2.ordP m.pl.p
  rw [atP_mem h1.ord hmm] at h6
  have h6 : atP PE.p (onL (xs.map Mk.pl) (ys.map En.pl)) m.pl.p = if m.pl.k = 3 then none else some (toE m.pl) := h6
  refine get_at (by rw [hu]; exact h5) (h1.pth hmm) ?_
  rw [hu]
  refine h6.trans ?_
  unfold onMk
  by_cases hk : m.k = 3
  · rw [if_pos hk, if_pos (show m.pl.k = 3 from hk)]; rfl
  · rw [if_neg hk, if_neg (show ¬ m.pl.k = 3 from hk)]; rfl
/-- Whether an entry is hidden. -/
def hidE (xs : List Mk) (e : En) : Bool := hidesL (xs.map Mk.pl) e.p.data.toList
theorem no_mark {xs : List Mk} {p : ByteArray} : (atP PM.p (xs.map Mk.pl) p.data.toList).isNone = true ↔ ∀ m ∈ xs, m.p ≠ p := by
  rw [Option.isNone_iff_eq_none, atP_none]
  constructor
  · intro h m hm he
    exact h m.pl (List.mem_map_of_mem hm) (by show m.p.data.toList = _; rw [he])
  · intro h f hf he
    obtain ⟨m, hm, rfl⟩ := List.mem_map.1 hf
    exact h m hm (bytes_eq he)
/-- What stands at an entry's path where no mark is. -/
theorem on_keep {xs : List Mk} {ys us : List En} (h : lonB (xs.map Mk.pl) (ys.map En.pl) = true) (hu : us.map En.pl = onL (xs.map Mk.pl) (ys.map En.pl)) {e : En} (he : e ∈ ys) (hno : ∀ m ∈ xs, m.p ≠ e.p) : tgetE us e.p = if hidE xs e = true then none else some e := by
  obtain ⟨h1, h2, h3, h4, h5⟩ := lon_true h
  have hmm := List.mem_map_of_mem (f := En.pl) he
  have h6 := at_on h1.ord h2.ordP e.pl.p
  have h7 : atP PM.p (xs.map Mk.pl) e.pl.p = none := Option.isNone_iff_eq_none.1 (no_mark.2 hno)
  rw [h7, atP_mem h2.ordP hmm] at h6
  have h6 : atP PE.p (onL (xs.map Mk.pl) (ys.map En.pl)) e.pl.p = if hidE xs e = true then none else some e.pl := h6
  refine get_at (by rw [hu]; exact h5) (h2.pth hmm) ?_
  rw [hu]
  refine h6.trans ?_
  split <;> rfl
/-- How many entries are kept. -/
def keptN (xs : List Mk) (ys : List En) (j : Nat) : Nat := (keptT (xs.map Mk.pl) ((ys.take j).map En.pl)).length
theorem keptN_snoc (xs : List Mk) {ys : List En} {j : Nat} {e : En} (h : ys[j]? = some e) {s : Bool} (hs : s = true ↔ ∃ m ∈ xs, m.p = e.p) : keptN xs ys (j + 1) = keptN xs ys j + if s = false ∧ hidE xs e = false then 1 else 0 := by
  unfold keptN
  rw [List.take_add_one, h, Option.toList_some, List.map_append, List.map_cons, List.map_nil, keptT_snoc, List.length_append]
  congr 1
  have h1 : (atP PM.p (xs.map Mk.pl) e.pl.p).isNone = !s := by
    rw [Bool.eq_iff_iff]
    refine no_mark.trans ?_
    cases s with
    | true =>
      obtain ⟨m, hm, hp⟩ := hs.1 rfl
      exact ⟨fun h => absurd hp (h m hm), fun h => by cases h⟩
    | false =>
      exact ⟨fun _ => rfl, fun _ m hm hp => by have := hs.2 ⟨m, hm, hp⟩; cases this⟩
  rw [h1]
  have h2 : hidesL (xs.map Mk.pl) e.pl.p = hidE xs e := rfl
  rw [h2]
  cases s <;> cases hidE xs e <;> rfl
theorem keptN_le (xs : List Mk) (ys : List En) (j : Nat) : keptN xs ys j ≤ ys.length := by
  unfold keptN keptT
  refine Nat.le_trans (List.length_filter_le _ _) ?_
  rw [List.length_map, List.length_take]; omega
/-- How many marks put something. -/
def putN (xs : List Mk) (j : Nat) : Nat := (((xs.take j).map Mk.pl).filter fun m => decide (m.k ≠ 3)).length
theorem putN_snoc {xs : List Mk} {j : Nat} {m : Mk} (h : xs[j]? = some m) : putN xs (j + 1) = putN xs j + if m.k = 3 then 0 else 1 := by
  unfold putN
  rw [List.take_add_one, h, Option.toList_some, List.map_append, List.map_cons, List.map_nil, List.filter_append, List.length_append]
  congr 1
  rw [List.filter_cons]
  have hk : m.pl.k = m.k := rfl
  by_cases h3 : m.k = 3
  · rw [if_pos h3, if_neg (by rw [hk]; simp [h3])]; rfl
  · rw [if_neg h3, if_pos (by rw [hk]; simp [h3])]; rfl
theorem putN_le (xs : List Mk) (j : Nat) : putN xs j ≤ xs.length := by
  unfold putN
  refine Nat.le_trans (List.length_filter_le _ _) ?_
  rw [List.length_map, List.length_take]; omega
theorem on_count {xs : List Mk} {ys us : List En} (h : lonB (xs.map Mk.pl) (ys.map En.pl) = true) (hu : us.map En.pl = onL (xs.map Mk.pl) (ys.map En.pl)) : keptN xs ys ys.length + putN xs xs.length = us.length := by
  obtain ⟨h1, h2, _⟩ := lon_true h
  have h3 := on_raw_len h1.ord h2.ordP
  rw [← hu, List.length_map] at h3
  rw [← h3]
  unfold keptN putN onRaw keptT
  rw [List.length_append, List.length_map, List.take_length, List.take_length]
set_option maxRecDepth 100000 in
set_option maxHeartbeats 8000000 in
theorem lawLayerOn_w (w : World) (a : Option Addr) (n c : Nat) (h : Code w a n c) : Calls Tryz.prog 4 #[.slice a n c] w (TrueB w) := by
  have hn := h.2.2
  by_cases hbig : 1048576 < n
  · clear h
    go_enter Tryz.func4, Tryz.ntmps4
    go_wp2
    go_ret
    exact ⟨rfl, Below.refl _ _⟩
  have HD := Lib.hid (drawLayerOn_c w a n c h)
  clear h
  go_enter Tryz.func4, Tryz.ntmps4
  go_wp2_with fail
  refine HD.out.mono ?_; rintro e W1 ⟨a1, c1, xs, a2, c2, ys, rfl, hR, hz, hx, hR2, hz2, hy, hb⟩
  have hcn := hR.cap
  have hcn2 := hR2.cap
  obtain ⟨n1, hn1⟩ : ∃ m, xs.length = m := ⟨_, rfl⟩
  obtain ⟨n2, hn2⟩ : ∃ m, ys.length = m := ⟨_, rfl⟩
  rw [hn1] at hx hcn ⊢
  rw [hn2] at hy hcn2 ⊢
  have HN1 := Lib.hid hn1
  have HN2 := Lib.hid hn2
  have HZ := Lib.hid hz
  have HZ2 := Lib.hid hz2
  obtain ⟨B, hB⟩ : ∃ b, lonB (xs.map Mk.pl) (ys.map En.pl) = b := ⟨_, rfl⟩
  obtain ⟨L, hL⟩ : ∃ b, lonL (xs.map Mk.pl) (ys.map En.pl) = b := ⟨_, rfl⟩
  have HLB := Lib.hid hB
  have HLL := Lib.hid hL
  have HI := Lib.hid (fun W (h : SlF Mk.cells W a1 xs) (h' : SlF En.cells W a2 ys) => onI_c a1 a2 c1 c2 n1 n2 xs ys L B (Lib.hid hB) (Lib.hid hL) W HN1.out HN2.out h h' (by omega) (by omega) HZ.out HZ2.out)
  have HS := Lib.hid (fun W (h : SlF Mk.cells W a1 xs) (h' : SlF En.cells W a2 ys) => onS_c a1 a2 c1 c2 n1 n2 xs ys L B (Lib.hid hB) (Lib.hid hL) W HN1.out HN2.out h h' hcn hcn2 (by omega) (by omega) HZ.out HZ2.out)
  clear hn1 hn2 hz hz2 HD hB hL
  go_wp2_with fail
  refine (HI.out _ hR.sl hR2.sl).mono ?_; rintro e W2 ⟨a3, c3, zs, rfl, hzs, ho3, hq⟩; replace hb := chn hb hq; replace hR := hR.below hq; replace hR2 := hR2.below hq; clear hq HI
  have hsl3 : SlF En.cells W2 a3 zs := own_slf (fun _ => rfl) ho3
  obtain ⟨n3, hn3⟩ : ∃ m, zs.length = m := ⟨_, rfl⟩
  have HN3 := Lib.hid hn3
  have HZS := Lib.hid hzs
  rw [hn3]
  clear hn3 ho3 hzs
  go_wp2_with fail
  refine (HS.out _ hR.sl hR2.sl).mono ?_; rintro e W3 ⟨a4, c4, us, rfl, hus, ho4, hq⟩; replace hb := chn hb hq; replace hR := hR.below hq; replace hR2 := hR2.below hq; replace hsl3 := hsl3.below hq; clear hq HS
  obtain rfl : us = zs := map_inj_ En.pl_inj (hus.trans HZS.out.symm)
  have hsl4 : SlF En.cells W3 a4 us := own_slf (fun _ => rfl) ho4
  rw [HN3.out]
  clear hus ho4
  have hBB : (B != B) = false := by cases B <;> rfl
  have hBE : (B == B) = true := by cases B <;> rfl
  have hlen3 : n3 ≤ 100 := by
    have h1 := congrArg List.length HZS.out
    rw [List.length_map, HN3.out, ← HLL.out] at h1
    unfold lonL at h1
    cases B with
    | true => rw [if_pos HLB.out] at h1; have := (lon_true HLB.out).2.2.1; omega
    | false => rw [HLB.out, if_neg (by decide)] at h1; simp at h1; omega
  obtain ⟨r, hr⟩ := mlok_dec xs
  have HSA := Lib.hid (fun W (h : SlF En.cells W a3 us) (h' : SlF En.cells W a4 us) => sameR_c a3 a4 c3 c4 n3 n3 us us true (Lib.hid ⟨fun _ => rfl, fun _ => rfl⟩) W HN3.out HN3.out h h' (by omega) (by omega))
  have HLI := Lib.hid (fun W (h : SlF Mk.cells W a1 xs) => lokI_c a1 c1 n1 xs r (Lib.hid hr) W HN1.out h (by omega) HZ.out)
  have HLS := Lib.hid (fun W (h : SlF Mk.cells W a1 xs) => lokS_c a1 c1 n1 xs r (Lib.hid hr) W HN1.out h hcn (by omega) HZ.out)
  have hrr : (r != r) = false := by cases r <;> rfl
  clear hr
  go_wp2_with fail
  refine (HSA.out _ hsl3 hsl4).mono ?_; rintro e W4 ⟨rfl, hq⟩; replace hb := chn hb hq; replace hR := hR.below hq; replace hR2 := hR2.below hq; replace hsl3 := hsl3.below hq; clear hq HSA hsl4
  go_wp2_with fail
  refine (HLI.out _ hR.sl).mono ?_; rintro e W5 ⟨rfl, hq⟩; replace hb := chn hb hq; replace hR := hR.below hq; replace hR2 := hR2.below hq; replace hsl3 := hsl3.below hq; clear hq HLI
  go_wp2_with fail
  refine (HLS.out _ hR.sl).mono ?_; rintro e W6 ⟨rfl, hq⟩; replace hb := chn hb hq; replace hR := hR.below hq; replace hR2 := hR2.below hq; replace hsl3 := hsl3.below hq; clear hq HLS
  cases B with
  | false =>
    obtain rfl : n3 = 0 := by
      have h1 := HZS.out
      rw [← HLL.out] at h1
      unfold lonL at h1
      rw [HLB.out, if_neg (by decide), List.map_eq_nil_iff] at h1
      rw [← HN3.out, h1]; rfl
    go_wp2
    go_ret
    exact ⟨rfl, hb⟩
  | true =>
    have HU : Hid (us.map En.pl = onL (xs.map Mk.pl) (ys.map En.pl)) := by rw [Hid, HZS.out, ← HLL.out, (lon_true HLB.out).2.2.2.1]
    have HTU : Hid (TOk (us.map En.pl)) := by rw [Hid, HU.out]; exact (lon_true HLB.out).2.2.2.2
    have HSU : Hid (Small us) := tok_small HTU.out
    have HCN : Hid (keptN xs ys n2 + putN xs n1 = n3) := by rw [Hid, ← HN1.out, ← HN2.out, ← HN3.out]; exact on_count HLB.out HU.out
    have HOM : Hid (∀ m ∈ xs, tgetE us m.p = onMk m) := fun m hm => on_mark HLB.out HU.out hm
    have HOK : Hid (∀ e ∈ ys, (∀ m ∈ xs, m.p ≠ e.p) → tgetE us e.p = if hidE xs e = true then none else some e) := fun e he hno => on_keep HLB.out HU.out he hno
    have HKD : Hid (∀ m ∈ xs, m.k = 1 ∨ m.k = 2 ∨ m.k = 3 ∨ m.k = 4) := fun m hm => by
      have h1 := markOk_kind ((lon_true HLB.out).1.mks m.pl (List.mem_map_of_mem hm))
      have h2 : m.pl.k = m.k := rfl
      omega
    have HLK := Lib.hid (lon_true HLB.out).1
    have HKL : Hid (∀ j, keptN xs ys j ≤ n2) := fun j => by rw [← HN2.out]; exact keptN_le xs ys j
    have HPL : Hid (∀ j, putN xs j ≤ n1) := fun j => by rw [← HN1.out]; exact putN_le xs j
    have HB0 := Lib.hid hb
    have HR0 := Lib.hid hR
    have HT0 := Lib.hid hR2
    have HX0 := Lib.hid hsl3
    clear HLB HLL HZS HU hb hR hR2 hsl3 hBB hBE hrr
    go_wp2
    go_loopw [9] (fun i wr => ∃ j : Nat, j ≤ n1 ∧ i = .int .i64 j ∧ Below W6.heap.size W6 wr) (fun i _ => n1 - (intOf i).toNat)
    case atStart => exact ⟨0, Nat.zero_le _, rfl, Below.refl _ _⟩
    case round =>
      obtain ⟨j, hj, rfl, hb⟩ := hrel
      by_cases hlt : j < n1
      · obtain ⟨m, hmm⟩ : ∃ e, xs[j]? = some e := ⟨_, List.getElem?_eq_getElem (by rw [HN1.out]; exact hlt)⟩
        have hmem := List.mem_of_getElem? hmm
        have hsw := (HR0.out.below hb).sl
        have hsx := HX0.out.below hb
        obtain ⟨b, off, rfl, _⟩ := hsw.addr (by rw [HN1.out]; omega)
        obtain ⟨d0, d1, d2⟩ := mk_at hsw j m hmm
        have hkd := HKD.out m hmem
        have HG := Lib.hid (fun W (h : SlF En.cells W a3 us) => getT_c a3 c3 n3 us m.p (onMk m) (Lib.hid (HOM.out m hmem)) W HN3.out h (by omega) HSU.out)
        have i0 : (0 : Int) ≤ (j : Int) := by omega
        have i1 : (j : Int) < (n1 : Int) := by omega
        obtain ⟨mp, mk, mx⟩ := m
        have hxx := beqs_yes (rfl : mx.data.toList = mx.data.toList)
        have hkd : mk = 1 ∨ mk = 2 ∨ mk = 3 ∨ mk = 4 := hkd
        clear hmm hmem hsw
        rcases hkd with rfl | rfl | rfl | rfl
        · skip
          have ho : optV (onMk ⟨mp, 1, mx⟩) = .tuple #[.agg #[.string mp, .bool false, .string mx], .bool true] := rfl
          rw [ho] at HG
          clear ho
          go_wp2_with fail
          refine (HG.out _ hsx).mono ?_; rintro e V1 ⟨rfl, hq⟩; replace hb := chn hb hq; replace d1 := keepc hq d1; replace d2 := keepc hq d2; clear hq HG hsx d0
          have y1 := new_cell V1 #[.string mp, .bool false, .string mx] 39 1 _ rfl
          have y2 := new_cell V1 #[.string mp, .bool false, .string mx] 39 2 _ rfl
          replace d1 := keepc (bellow_alloc V1 (.cells #[.string mp, .bool false, .string mx] 39)) d1
          replace d2 := keepc (bellow_alloc V1 (.cells #[.string mp, .bool false, .string mx] 39)) d2
          replace hb := hb.alloc hb.size (.cells #[.string mp, .bool false, .string mx] 39)
          go_wp2_with fail
          go_quiet (fail)
          go_wp2
          go_roundw
          case rel => exact ⟨j + 1, by omega, by go_num, by first | exact hb | exact drw hb _⟩
          case measure => simp [intOf]; omega
        · skip
          have ho : optV (onMk ⟨mp, 2, mx⟩) = .tuple #[.agg #[.string mp, .bool true, .string mx], .bool true] := rfl
          rw [ho] at HG
          clear ho
          go_wp2_with fail
          refine (HG.out _ hsx).mono ?_; rintro e V1 ⟨rfl, hq⟩; replace hb := chn hb hq; replace d1 := keepc hq d1; replace d2 := keepc hq d2; clear hq HG hsx d0
          have y1 := new_cell V1 #[.string mp, .bool true, .string mx] 39 1 _ rfl
          have y2 := new_cell V1 #[.string mp, .bool true, .string mx] 39 2 _ rfl
          replace d1 := keepc (bellow_alloc V1 (.cells #[.string mp, .bool true, .string mx] 39)) d1
          replace d2 := keepc (bellow_alloc V1 (.cells #[.string mp, .bool true, .string mx] 39)) d2
          replace hb := hb.alloc hb.size (.cells #[.string mp, .bool true, .string mx] 39)
          go_wp2_with fail
          go_quiet (fail)
          go_wp2
          go_roundw
          case rel => exact ⟨j + 1, by omega, by go_num, by first | exact hb | exact drw hb _⟩
          case measure => simp [intOf]; omega
        · skip
          have ho : optV (onMk ⟨mp, 3, mx⟩) = .tuple #[.agg #[.string ⟨#[]⟩, .bool false, .string ⟨#[]⟩], .bool false] := rfl
          rw [ho] at HG
          clear ho
          go_wp2_with fail
          refine (HG.out _ hsx).mono ?_; rintro e V1 ⟨rfl, hq⟩; replace hb := chn hb hq; replace d1 := keepc hq d1; replace d2 := keepc hq d2; clear hq HG hsx d0
          have y1 := new_cell V1 #[.string ⟨#[]⟩, .bool false, .string ⟨#[]⟩] 39 1 _ rfl
          have y2 := new_cell V1 #[.string ⟨#[]⟩, .bool false, .string ⟨#[]⟩] 39 2 _ rfl
          replace d1 := keepc (bellow_alloc V1 (.cells #[.string ⟨#[]⟩, .bool false, .string ⟨#[]⟩] 39)) d1
          replace d2 := keepc (bellow_alloc V1 (.cells #[.string ⟨#[]⟩, .bool false, .string ⟨#[]⟩] 39)) d2
          replace hb := hb.alloc hb.size (.cells #[.string ⟨#[]⟩, .bool false, .string ⟨#[]⟩] 39)
          go_wp2_with fail
          go_quiet (fail)
          go_wp2
          go_roundw
          case rel => exact ⟨j + 1, by omega, by go_num, by first | exact hb | exact drw hb _⟩
          case measure => simp [intOf]; omega
        · skip
          have ho : optV (onMk ⟨mp, 4, mx⟩) = .tuple #[.agg #[.string mp, .bool true, .string mx], .bool true] := rfl
          rw [ho] at HG
          clear ho
          go_wp2_with fail
          refine (HG.out _ hsx).mono ?_; rintro e V1 ⟨rfl, hq⟩; replace hb := chn hb hq; replace d1 := keepc hq d1; replace d2 := keepc hq d2; clear hq HG hsx d0
          have y1 := new_cell V1 #[.string mp, .bool true, .string mx] 39 1 _ rfl
          have y2 := new_cell V1 #[.string mp, .bool true, .string mx] 39 2 _ rfl
          replace d1 := keepc (bellow_alloc V1 (.cells #[.string mp, .bool true, .string mx] 39)) d1
          replace d2 := keepc (bellow_alloc V1 (.cells #[.string mp, .bool true, .string mx] 39)) d2
          replace hb := hb.alloc hb.size (.cells #[.string mp, .bool true, .string mx] 39)
          go_wp2_with fail
          go_quiet (fail)
          go_wp2
          go_roundw
          case rel => exact ⟨j + 1, by omega, by go_num, by first | exact hb | exact drw hb _⟩
          case measure => simp [intOf]; omega
      · obtain rfl : j = n1 := by omega
        have HB1 := Lib.hid hb
        clear hb
        go_wp2
        go_loopw [12, 13] (fun k i wr => ∃ q : Nat, q ≤ n2 ∧ i = .int .i64 q ∧ k = .int .i64 (keptN xs ys q : Nat) ∧ Below W6.heap.size W6 wr) (fun _ i _ => n2 - (intOf i).toNat)
        case atStart => exact ⟨0, Nat.zero_le _, rfl, rfl, HB1.out⟩
        case round =>
          obtain ⟨q, hq, rfl, rfl, hb⟩ := hrel
          by_cases hlq : q < n2
          · obtain ⟨x, hxx⟩ : ∃ e, ys[q]? = some e := ⟨_, List.getElem?_eq_getElem (by rw [HN2.out]; exact hlq)⟩
            have hxm := List.mem_of_getElem? hxx
            have hsw := (HT0.out.below hb).sl
            have hsx := HX0.out.below hb
            obtain ⟨b, off, rfl, _⟩ := hsw.addr (by rw [HN2.out]; omega)
            obtain ⟨g0, g1, g2⟩ := en_at hsw q x hxx
            have hxs := (HZ2.out x hxm).1
            obtain ⟨o, ho⟩ : ∃ o, tgetE us x.p = o := ⟨_, rfl⟩
            obtain ⟨ep, ex, ed, th, hov, hos⟩ := opt_one o
            have HG := Lib.hid (fun W (h : SlF En.cells W a3 us) => getT_c a3 c3 n3 us x.p o (Lib.hid ho) W HN3.out h (by omega) HSU.out)
            rw [hov] at HG
            have HXX := Lib.hid hxx
            have HOX : Hid ((∀ m ∈ xs, m.p ≠ x.p) → o = if hidE xs x = true then none else some x) := fun hno => by rw [← ho]; exact HOK.out x hxm hno
            have HOS := Lib.hid hos
            obtain ⟨N, hN⟩ : ∃ N, keptN xs ys q = N := ⟨_, rfl⟩
            have hNl : N ≤ n2 := by rw [← hN]; exact HKL.out q
            have HN := Lib.hid hN
            rw [hN]
            have i0 : (0 : Int) ≤ (q : Int) := by omega
            have i1 : (q : Int) < (n2 : Int) := by omega
            clear hxx hxm hsw ho hov hos hN
            go_wp2_with fail
            refine (HG.out _ hsx).mono ?_; rintro e V1 ⟨rfl, hq'⟩; replace hb := chn hb hq'; replace g0 := keepc hq' g0; replace g1 := keepc hq' g1; replace g2 := keepc hq' g2; clear hq' HG hsx
            have y0 := new_cell V1 #[.string ep, .bool ed, .string ex] 39 0 _ rfl
            have y1 := new_cell V1 #[.string ep, .bool ed, .string ex] 39 1 _ rfl
            have y2 := new_cell V1 #[.string ep, .bool ed, .string ex] 39 2 _ rfl
            replace g0 := keepc (bellow_alloc V1 (.cells #[.string ep, .bool ed, .string ex] 39)) g0
            replace g1 := keepc (bellow_alloc V1 (.cells #[.string ep, .bool ed, .string ex] 39)) g1
            replace g2 := keepc (bellow_alloc V1 (.cells #[.string ep, .bool ed, .string ex] 39)) g2
            replace hb := hb.alloc hb.size (.cells #[.string ep, .bool ed, .string ex] 39)
            obtain ⟨w0, hw0⟩ : ∃ w0, V1.alloc (.cells #[.string ep, .bool ed, .string ex] 39) = w0 := ⟨_, rfl⟩
            have HW0 := Lib.hid hw0
            rw [hw0] at y0 y1 y2 g0 g1 g2 hb
            have HB2 := Lib.hid hb
            have HY0 := Lib.hid y0
            have HY1 := Lib.hid y1
            have HY2 := Lib.hid y2
            have HG0 := Lib.hid g0
            have HG1 := Lib.hid g1
            have HG2 := Lib.hid g2
            clear y0 y1 y2 g0 g1 g2 hb hw0
            go_wp2
            rw [HW0.out]
            clear HW0
            go_loopw [16, 17] (fun hv iv wr' => ∃ (k : Nat) (s : Bool), k ≤ j ∧ iv = .int .i64 k ∧ hv = .bool s ∧ (s = true ↔ ∃ (r : Nat) (f : Mk), r < k ∧ xs[r]? = some f ∧ f.p = x.p) ∧ Below w0.heap.size w0 wr') (fun _ iv _ => j - (intOf iv).toNat)
            case atStart => exact ⟨0, false, Nat.zero_le _, rfl, rfl, ⟨fun h => (by cases h), fun ⟨r, _, h, _⟩ => absurd h (by omega)⟩, Below.refl _ _⟩
            case round =>
              obtain ⟨k, s, hk, rfl, rfl, hs, hbi⟩ := hrel
              have HSS := Lib.hid hs
              clear hs
              have hb := chn HB2.out hbi
              by_cases hlk : k < j
              · obtain ⟨f, hff⟩ : ∃ e, xs[k]? = some e := ⟨_, List.getElem?_eq_getElem (by rw [HN1.out]; exact hlk)⟩
                have hsw := (HR0.out.below hb).sl
                obtain ⟨b', off', rfl, _⟩ := hsw.addr (by rw [HN1.out]; omega)
                obtain ⟨p0, _, _⟩ := mk_at hsw k f hff
                have g0 := keepc hbi HG0.out
                have i4 : (0 : Int) ≤ (k : Int) := by omega
                have i5 : (k : Int) < (j : Int) := by omega
                have HFF := Lib.hid hff
                clear hff hb hsw
                cases s with
                | true =>
                  go_wp2_with fail
                  go_quiet (fail)
                  go_wp2
                  go_roundw
                  case rel => exact ⟨k + 1, true, by omega, by go_num, rfl, ⟨fun _ => (by obtain ⟨r, f', h1, h2⟩ := HSS.out.1 (by trivial); exact ⟨r, f', by omega, h2⟩), fun _ => rfl⟩, by first | exact hbi | exact drw hbi _⟩
                  case measure => simp [intOf]; omega
                | false =>
                  by_cases he : f.p = x.p
                  · have hbe := beqs_yes (congrArg (·.data.toList) he)
                    have HE := Lib.hid he
                    clear he
                    go_wp2_with fail
                    go_quiet (fail)
                    go_wp2
                    go_roundw
                    case rel => exact ⟨k + 1, true, by omega, by go_num, rfl, ⟨fun _ => ⟨k, f, by omega, HFF.out, HE.out⟩, fun _ => rfl⟩, by first | exact hbi | exact drw hbi _⟩
                    case measure => simp [intOf]; omega
                  · have hbe := beqs_no (fun h => he (bytes_eq h))
                    have HE := Lib.hid he
                    clear he
                    go_wp2_with fail
                    go_quiet (fail)
                    go_wp2
                    go_roundw
                    case rel => exact ⟨k + 1, false, by omega, by go_num, rfl, ⟨fun h => (by cases h), fun ⟨r, f', h1, h2, h3⟩ => by
                      by_cases er : r = k
                      · subst er; rw [HFF.out] at h2; injection h2 with h2; exact absurd (by rw [h2]; exact h3) HE.out
                      · exact HSS.out.2 ⟨r, f', by omega, h2, h3⟩⟩, by first | exact hbi | exact drw hbi _⟩
                    case measure => simp [intOf]; omega
              · obtain rfl : k = j := by omega
                have hse : s = true ↔ ∃ m ∈ xs, m.p = x.p := by
                  rw [HSS.out]
                  constructor
                  · rintro ⟨r, f, _, h2, h3⟩; exact ⟨f, List.mem_of_getElem? h2, h3⟩
                  · rintro ⟨f, h2, h3⟩
                    obtain ⟨r, hr⟩ := List.getElem?_of_mem h2
                    exact ⟨r, f, by have := (List.getElem?_eq_some_iff.1 hr).1; rw [HN1.out] at this; exact this, hr, h3⟩
                have HSN := Lib.hid (keptN_snoc xs HXX.out hse)
                rw [HN.out] at HSN
                have HSE := Lib.hid hse
                have hsw := (HR0.out.below hb).sl
                have y0 := keepc hbi HY0.out
                have y1 := keepc hbi HY1.out
                have y2 := keepc hbi HY2.out
                have g0 := keepc hbi HG0.out
                have g1 := keepc hbi HG1.out
                have g2 := keepc hbi HG2.out
                have HHI := Lib.hid (hidI_c a1 c1 k xs x.p (hidE xs x) (Lib.hid ⟨fun h => ⟨HLK.out, h⟩, fun h => h.2⟩))
                clear hse HSS hbi
                cases s with
                | true =>
                  clear HHI HOX HOS
                  go_wp2_with fail
                  refine wp_region_held_drew (S := fun w' => Below _ _ w') (by kernel_rfl) (below_drew _) (fun hHeld => ?_)
                  refine tk (i := 0) (d := (some 144)) (v := ?_) rfl rfl (by kernel_rfl) (by kernel_rfl) (by kernel_rfl) (fun _ _ _ h => h) (Or.inl ⟨by rfl, ?_⟩) hHeld ?_
                  rotate_left
                  · intro w hSw; have zy0 := keepc hSw y0; have zy1 := keepc hSw y1; have zy2 := keepc hSw y2; have zg0 := keepc hSw g0; have zg1 := keepc hSw g1; have zg2 := keepc hSw g2; clear hSw; go_simp <;> with_reducible rfl
                  (try simp only [Act.put, List.setIfInBounds_toArray, List.set_cons_zero, List.set_cons_succ])
                  refine tk (i := 1) (d := (some 145)) (v := ?_) rfl rfl (by kernel_rfl) (by kernel_rfl) (by kernel_rfl) (fun _ _ _ h => h) (Or.inl ⟨by rfl, ?_⟩) hHeld ?_
                  rotate_left
                  · intro w hSw; have zy0 := keepc hSw y0; have zy1 := keepc hSw y1; have zy2 := keepc hSw y2; have zg0 := keepc hSw g0; have zg1 := keepc hSw g1; have zg2 := keepc hSw g2; clear hSw; go_simp <;> with_reducible rfl
                  (try simp only [Act.put, List.setIfInBounds_toArray, List.set_cons_zero, List.set_cons_succ])
                  refine tk (i := 2) (d := (some 146)) (v := ?_) rfl rfl (by kernel_rfl) (by kernel_rfl) (by kernel_rfl) (fun _ _ _ h => h) (Or.inl ⟨by rfl, ?_⟩) hHeld ?_
                  rotate_left
                  · intro w hSw; have zy0 := keepc hSw y0; have zy1 := keepc hSw y1; have zy2 := keepc hSw y2; have zg0 := keepc hSw g0; have zg1 := keepc hSw g1; have zg2 := keepc hSw g2; clear hSw; go_simp <;> with_reducible rfl
                  (try simp only [Act.put, List.setIfInBounds_toArray, List.set_cons_zero, List.set_cons_succ])
                  refine tk (i := 3) (d := (some 147)) (v := undef) rfl rfl (by kernel_rfl) (by kernel_rfl) (by kernel_rfl) (fun _ _ _ h => h) (Or.inr ⟨by kernel_rfl, rfl⟩) hHeld ?_
                  (try simp only [Act.put, List.setIfInBounds_toArray, List.set_cons_zero, List.set_cons_succ])
                  refine tk (i := 4) (d := (some 148)) (v := undef) rfl rfl (by kernel_rfl) (by kernel_rfl) (by kernel_rfl) (fun _ _ _ h => h) (Or.inr ⟨by kernel_rfl, rfl⟩) hHeld ?_
                  (try simp only [Act.put, List.setIfInBounds_toArray, List.set_cons_zero, List.set_cons_succ])
                  refine tk (i := 5) (d := (some 149)) (v := undef) rfl rfl (by kernel_rfl) (by kernel_rfl) (by kernel_rfl) (fun _ _ _ h => h) (Or.inr ⟨by kernel_rfl, rfl⟩) hHeld ?_
                  (try simp only [Act.put, List.setIfInBounds_toArray, List.set_cons_zero, List.set_cons_succ])
                  refine tk (i := 6) (d := (some 150)) (v := undef) rfl rfl (by kernel_rfl) (by kernel_rfl) (by kernel_rfl) (fun _ _ _ h => h) (Or.inr ⟨by kernel_rfl, rfl⟩) hHeld ?_
                  (try simp only [Act.put, List.setIfInBounds_toArray, List.set_cons_zero, List.set_cons_succ])
                  refine tk (i := 7) (d := (some 151)) (v := undef) rfl rfl (by kernel_rfl) (by kernel_rfl) (by kernel_rfl) (fun _ _ _ h => h) (Or.inr ⟨by kernel_rfl, rfl⟩) hHeld ?_
                  (try simp only [Act.put, List.setIfInBounds_toArray, List.set_cons_zero, List.set_cons_succ])
                  refine tk (i := 8) (d := (some 152)) (v := undef) rfl rfl (by kernel_rfl) (by kernel_rfl) (by kernel_rfl) (fun _ _ _ h => h) (Or.inr ⟨by kernel_rfl, rfl⟩) hHeld ?_
                  (try simp only [Act.put, List.setIfInBounds_toArray, List.set_cons_zero, List.set_cons_succ])
                  refine tk (i := 9) (d := (some 153)) (v := undef) rfl rfl (by kernel_rfl) (by kernel_rfl) (by kernel_rfl) (fun _ _ _ h => h) (Or.inr ⟨by kernel_rfl, rfl⟩) hHeld ?_
                  (try simp only [Act.put, List.setIfInBounds_toArray, List.set_cons_zero, List.set_cons_succ])
                  refine tk (i := 10) (d := (some 154)) (v := undef) rfl rfl (by kernel_rfl) (by kernel_rfl) (by kernel_rfl) (fun _ _ _ h => h) (Or.inr ⟨by kernel_rfl, rfl⟩) hHeld ?_
                  (try simp only [Act.put, List.setIfInBounds_toArray, List.set_cons_zero, List.set_cons_succ])
                  refine tk (i := 11) (d := (some 155)) (v := undef) rfl rfl (by kernel_rfl) (by kernel_rfl) (by kernel_rfl) (fun _ _ _ h => h) (Or.inr ⟨by kernel_rfl, rfl⟩) hHeld ?_
                  (try simp only [Act.put, List.setIfInBounds_toArray, List.set_cons_zero, List.set_cons_succ])
                  refine tk (i := 12) (d := (some 156)) (v := undef) rfl rfl (by kernel_rfl) (by kernel_rfl) (by kernel_rfl) (fun _ _ _ h => h) (Or.inr ⟨by kernel_rfl, rfl⟩) hHeld ?_
                  (try simp only [Act.put, List.setIfInBounds_toArray, List.set_cons_zero, List.set_cons_succ])
                  refine tk (i := 13) (d := (some 157)) (v := undef) rfl rfl (by kernel_rfl) (by kernel_rfl) (by kernel_rfl) (fun _ _ _ h => h) (Or.inr ⟨by kernel_rfl, rfl⟩) hHeld ?_
                  (try simp only [Act.put, List.setIfInBounds_toArray, List.set_cons_zero, List.set_cons_succ])
                  refine tk (i := 14) (d := (some 158)) (v := undef) rfl rfl (by kernel_rfl) (by kernel_rfl) (by kernel_rfl) (fun _ _ _ h => h) (Or.inr ⟨by kernel_rfl, rfl⟩) hHeld ?_
                  (try simp only [Act.put, List.setIfInBounds_toArray, List.set_cons_zero, List.set_cons_succ])
                  refine tk (i := 15) (d := (some 159)) (v := undef) rfl rfl (by kernel_rfl) (by kernel_rfl) (by kernel_rfl) (fun _ _ _ h => h) (Or.inr ⟨by kernel_rfl, rfl⟩) hHeld ?_
                  (try simp only [Act.put, List.setIfInBounds_toArray, List.set_cons_zero, List.set_cons_succ])
                  refine tk (i := 16) (d := (some 160)) (v := undef) rfl rfl (by kernel_rfl) (by kernel_rfl) (by kernel_rfl) (fun _ _ _ h => h) (Or.inr ⟨by kernel_rfl, rfl⟩) hHeld ?_
                  (try simp only [Act.put, List.setIfInBounds_toArray, List.set_cons_zero, List.set_cons_succ])
                  refine tk (i := 17) (d := (some 161)) (v := undef) rfl rfl (by kernel_rfl) (by kernel_rfl) (by kernel_rfl) (fun _ _ _ h => h) (Or.inr ⟨by kernel_rfl, rfl⟩) hHeld ?_
                  (try simp only [Act.put, List.setIfInBounds_toArray, List.set_cons_zero, List.set_cons_succ])
                  refine tk (i := 18) (d := (some 162)) (v := undef) rfl rfl (by kernel_rfl) (by kernel_rfl) (by kernel_rfl) (fun _ _ _ h => h) (Or.inr ⟨by kernel_rfl, rfl⟩) hHeld ?_
                  (try simp only [Act.put, List.setIfInBounds_toArray, List.set_cons_zero, List.set_cons_succ])
                  refine tk (i := 19) (d := (some 163)) (v := undef) rfl rfl (by kernel_rfl) (by kernel_rfl) (by kernel_rfl) (fun _ _ _ h => h) (Or.inr ⟨by kernel_rfl, rfl⟩) hHeld ?_
                  (try simp only [Act.put, List.setIfInBounds_toArray, List.set_cons_zero, List.set_cons_succ])
                  refine tk (i := 20) (d := (some 164)) (v := undef) rfl rfl (by kernel_rfl) (by kernel_rfl) (by kernel_rfl) (fun _ _ _ h => h) (Or.inr ⟨by kernel_rfl, rfl⟩) hHeld ?_
                  (try simp only [Act.put, List.setIfInBounds_toArray, List.set_cons_zero, List.set_cons_succ])
                  refine tk (i := 21) (d := (some 165)) (v := undef) rfl rfl (by kernel_rfl) (by kernel_rfl) (by kernel_rfl) (fun _ _ _ h => h) (Or.inr ⟨by kernel_rfl, rfl⟩) hHeld ?_
                  (try simp only [Act.put, List.setIfInBounds_toArray, List.set_cons_zero, List.set_cons_succ])
                  refine tk (i := 22) (d := (some 166)) (v := undef) rfl rfl (by kernel_rfl) (by kernel_rfl) (by kernel_rfl) (fun _ _ _ h => h) (Or.inr ⟨by kernel_rfl, rfl⟩) hHeld ?_
                  (try simp only [Act.put, List.setIfInBounds_toArray, List.set_cons_zero, List.set_cons_succ])
                  refine tk (i := 23) (d := (some 167)) (v := ?_) rfl rfl (by kernel_rfl) (by kernel_rfl) (by kernel_rfl) (fun _ _ _ h => h) (Or.inl ⟨by rfl, ?_⟩) hHeld ?_
                  rotate_left
                  · intro w hSw; have zy0 := keepc hSw y0; have zy1 := keepc hSw y1; have zy2 := keepc hSw y2; have zg0 := keepc hSw g0; have zg1 := keepc hSw g1; have zg2 := keepc hSw g2; clear hSw; go_simp <;> with_reducible rfl
                  (try simp only [Act.put, List.setIfInBounds_toArray, List.set_cons_zero, List.set_cons_succ])
                  refine wpAnyH_done (by kernel_rfl) ?_ _
                  replace hb := chn hb hHeld; clear hHeld
                  go_wp2
                  go_roundw
                  case rel => exact ⟨q + 1, by omega, by go_num, by rw [HSN.out]; go_num, by first | exact hb | exact drw hb _⟩
                  case measure => simp [intOf]; omega
                | false =>
                  have hno : ∀ m ∈ xs, m.p ≠ x.p := fun m hm hp => by have := HSE.out.2 ⟨m, hm, hp⟩; cases this
                  have hox := HOX.out hno
                  obtain ⟨hd, hhd⟩ : ∃ hd, hidE xs x = hd := ⟨_, rfl⟩
                  rw [hhd] at HHI HSN hox
                  have hos := HOS.out
                  clear HOX HOS hno hhd
                  cases hd with
                  | true =>
                    obtain rfl : th = false := by
                      rcases hos with ⟨_, h1⟩ | ⟨_, h1⟩
                      · exact h1
                      · rw [hox] at h1; cases h1
                    clear hos hox
                    go_wp2_with fail
                    refine wp_region_held_drew (S := fun w' => Below _ _ w') (by kernel_rfl) (below_drew _) (fun hHeld => ?_)
                    refine tk (i := 0) (d := (some 144)) (v := ?_) rfl rfl (by kernel_rfl) (by kernel_rfl) (by kernel_rfl) (fun _ _ _ h => h) (Or.inl ⟨by rfl, ?_⟩) hHeld ?_
                    rotate_left
                    · intro w hSw; have zy0 := keepc hSw y0; have zy1 := keepc hSw y1; have zy2 := keepc hSw y2; have zg0 := keepc hSw g0; have zg1 := keepc hSw g1; have zg2 := keepc hSw g2; clear hSw; go_simp <;> with_reducible rfl
                    (try simp only [Act.put, List.setIfInBounds_toArray, List.set_cons_zero, List.set_cons_succ])
                    refine tk (i := 1) (d := (some 145)) (v := ?_) rfl rfl (by kernel_rfl) (by kernel_rfl) (by kernel_rfl) (fun _ _ _ h => h) (Or.inl ⟨by rfl, ?_⟩) hHeld ?_
                    rotate_left
                    · intro w hSw; have zy0 := keepc hSw y0; have zy1 := keepc hSw y1; have zy2 := keepc hSw y2; have zg0 := keepc hSw g0; have zg1 := keepc hSw g1; have zg2 := keepc hSw g2; clear hSw; go_simp <;> with_reducible rfl
                    (try simp only [Act.put, List.setIfInBounds_toArray, List.set_cons_zero, List.set_cons_succ])
                    refine tk (i := 2) (d := (some 146)) (v := ?_) rfl rfl (by kernel_rfl) (by kernel_rfl) (by kernel_rfl) (fun _ _ _ h => h) (Or.inl ⟨by rfl, ?_⟩) hHeld ?_
                    rotate_left
                    · intro w hSw; have zy0 := keepc hSw y0; have zy1 := keepc hSw y1; have zy2 := keepc hSw y2; have zg0 := keepc hSw g0; have zg1 := keepc hSw g1; have zg2 := keepc hSw g2; clear hSw; go_simp <;> with_reducible rfl
                    (try simp only [Act.put, List.setIfInBounds_toArray, List.set_cons_zero, List.set_cons_succ])
                    refine tk (i := 3) (d := (some 147)) (v := ?_) rfl rfl (by kernel_rfl) (by kernel_rfl) (by kernel_rfl) (fun _ _ _ h => h) (Or.inl ⟨by rfl, ?_⟩) hHeld ?_
                    rotate_left
                    · intro w hSw; have zy0 := keepc hSw y0; have zy1 := keepc hSw y1; have zy2 := keepc hSw y2; have zg0 := keepc hSw g0; have zg1 := keepc hSw g1; have zg2 := keepc hSw g2; clear hSw; go_simp <;> with_reducible rfl
                    (try simp only [Act.put, List.setIfInBounds_toArray, List.set_cons_zero, List.set_cons_succ])
                    refine tk (i := 4) (d := (some 148)) (v := ?_) rfl rfl (by kernel_rfl) (by kernel_rfl) (by kernel_rfl) (fun _ _ _ h => h) (Or.inl ⟨by rfl, ?_⟩) hHeld ?_
                    rotate_left
                    · intro w hSw; have zy0 := keepc hSw y0; have zy1 := keepc hSw y1; have zy2 := keepc hSw y2; have zg0 := keepc hSw g0; have zg1 := keepc hSw g1; have zg2 := keepc hSw g2; clear hSw; go_simp <;> with_reducible rfl
                    (try simp only [Act.put, List.setIfInBounds_toArray, List.set_cons_zero, List.set_cons_succ])
                    refine tk (i := 5) (d := (some 149)) (v := ?_) rfl rfl (by kernel_rfl) (by kernel_rfl) (by kernel_rfl) (fun _ _ _ h => h) (Or.inl ⟨by rfl, ?_⟩) hHeld ?_
                    rotate_left
                    · intro w hSw; have zy0 := keepc hSw y0; have zy1 := keepc hSw y1; have zy2 := keepc hSw y2; have zg0 := keepc hSw g0; have zg1 := keepc hSw g1; have zg2 := keepc hSw g2; clear hSw; go_simp <;> with_reducible rfl
                    (try simp only [Act.put, List.setIfInBounds_toArray, List.set_cons_zero, List.set_cons_succ])
                    refine tk (i := 6) (d := (some 150)) (v := ?_) rfl rfl (by kernel_rfl) (by kernel_rfl) (by kernel_rfl) (fun _ _ _ h => h) (Or.inl ⟨by rfl, ?_⟩) hHeld ?_
                    rotate_left
                    · intro w hSw; have zy0 := keepc hSw y0; have zy1 := keepc hSw y1; have zy2 := keepc hSw y2; have zg0 := keepc hSw g0; have zg1 := keepc hSw g1; have zg2 := keepc hSw g2; clear hSw; go_simp <;> with_reducible rfl
                    (try simp only [Act.put, List.setIfInBounds_toArray, List.set_cons_zero, List.set_cons_succ])
                    refine tk (i := 7) (d := (some 151)) (v := ?_) rfl rfl (by kernel_rfl) (by kernel_rfl) (by kernel_rfl) (fun _ _ _ h => h) (Or.inl ⟨by rfl, ?_⟩) hHeld ?_
                    rotate_left
                    · intro w hSw; have zy0 := keepc hSw y0; have zy1 := keepc hSw y1; have zy2 := keepc hSw y2; have zg0 := keepc hSw g0; have zg1 := keepc hSw g1; have zg2 := keepc hSw g2; clear hSw; go_simp <;> with_reducible rfl
                    (try simp only [Act.put, List.setIfInBounds_toArray, List.set_cons_zero, List.set_cons_succ])
                    refine tk (i := 8) (d := (some 152)) (v := ?_) rfl rfl (by kernel_rfl) (by kernel_rfl) (by kernel_rfl) (fun _ _ _ h => h) (Or.inl ⟨by rfl, ?_⟩) hHeld ?_
                    rotate_left
                    · intro w hSw; have zy0 := keepc hSw y0; have zy1 := keepc hSw y1; have zy2 := keepc hSw y2; have zg0 := keepc hSw g0; have zg1 := keepc hSw g1; have zg2 := keepc hSw g2; clear hSw; go_simp <;> with_reducible rfl
                    (try simp only [Act.put, List.setIfInBounds_toArray, List.set_cons_zero, List.set_cons_succ])
                    refine tk (i := 9) (d := (some 153)) (v := ?_) rfl rfl (by kernel_rfl) (by kernel_rfl) (by kernel_rfl) (fun _ _ _ h => h) (Or.inl ⟨by rfl, ?_⟩) hHeld ?_
                    rotate_left
                    · intro w hSw; have zy0 := keepc hSw y0; have zy1 := keepc hSw y1; have zy2 := keepc hSw y2; have zg0 := keepc hSw g0; have zg1 := keepc hSw g1; have zg2 := keepc hSw g2; clear hSw; go_simp <;> with_reducible rfl
                    (try simp only [Act.put, List.setIfInBounds_toArray, List.set_cons_zero, List.set_cons_succ])
                    refine wpAnyH_ready (rs := [10]) (by kernel_rfl) (by simp) ?_
                    refine AllReadyH.cons rfl (fun K hK => ?_) AllReadyH.nil
                    go_simp
                    refine (HHI.out _ HN1.out (hsw.below hHeld) (by omega) (by omega) HZ.out).mono ?_; rintro e W ⟨rfl, hq⟩
                    go_simp
                    refine hK.out _ _ (chn hHeld hq) (fun h => ?_)
                    clear hK K; replace hHeld := h; clear h hq
                    (try simp only [Act.put, List.setIfInBounds_toArray, List.set_cons_zero, List.set_cons_succ])
                    refine tk (i := 11) (d := (some 155)) (v := ?_) rfl rfl (by kernel_rfl) (by kernel_rfl) (by kernel_rfl) (fun _ _ _ h => h) (Or.inl ⟨by rfl, ?_⟩) hHeld ?_
                    rotate_left
                    · intro w hSw; have zy0 := keepc hSw y0; have zy1 := keepc hSw y1; have zy2 := keepc hSw y2; have zg0 := keepc hSw g0; have zg1 := keepc hSw g1; have zg2 := keepc hSw g2; clear hSw; go_simp <;> with_reducible rfl
                    (try simp only [Act.put, List.setIfInBounds_toArray, List.set_cons_zero, List.set_cons_succ])
                    refine tk (i := 12) (d := (some 156)) (v := ?_) rfl rfl (by kernel_rfl) (by kernel_rfl) (by kernel_rfl) (fun _ _ _ h => h) (Or.inl ⟨by rfl, ?_⟩) hHeld ?_
                    rotate_left
                    · intro w hSw; have zy0 := keepc hSw y0; have zy1 := keepc hSw y1; have zy2 := keepc hSw y2; have zg0 := keepc hSw g0; have zg1 := keepc hSw g1; have zg2 := keepc hSw g2; clear hSw; go_simp <;> with_reducible rfl
                    (try simp only [Act.put, List.setIfInBounds_toArray, List.set_cons_zero, List.set_cons_succ])
                    refine tk (i := 13) (d := (some 157)) (v := ?_) rfl rfl (by kernel_rfl) (by kernel_rfl) (by kernel_rfl) (fun _ _ _ h => h) (Or.inl ⟨by rfl, ?_⟩) hHeld ?_
                    rotate_left
                    · intro w hSw; have zy0 := keepc hSw y0; have zy1 := keepc hSw y1; have zy2 := keepc hSw y2; have zg0 := keepc hSw g0; have zg1 := keepc hSw g1; have zg2 := keepc hSw g2; clear hSw; go_simp <;> with_reducible rfl
                    (try simp only [Act.put, List.setIfInBounds_toArray, List.set_cons_zero, List.set_cons_succ])
                    refine tk (i := 14) (d := (some 158)) (v := ?_) rfl rfl (by kernel_rfl) (by kernel_rfl) (by kernel_rfl) (fun _ _ _ h => h) (Or.inl ⟨by rfl, ?_⟩) hHeld ?_
                    rotate_left
                    · intro w hSw; have zy0 := keepc hSw y0; have zy1 := keepc hSw y1; have zy2 := keepc hSw y2; have zg0 := keepc hSw g0; have zg1 := keepc hSw g1; have zg2 := keepc hSw g2; clear hSw; go_simp <;> with_reducible rfl
                    (try simp only [Act.put, List.setIfInBounds_toArray, List.set_cons_zero, List.set_cons_succ])
                    refine tk (i := 15) (d := (some 159)) (v := undef) rfl rfl (by kernel_rfl) (by kernel_rfl) (by kernel_rfl) (fun _ _ _ h => h) (Or.inr ⟨by kernel_rfl, rfl⟩) hHeld ?_
                    (try simp only [Act.put, List.setIfInBounds_toArray, List.set_cons_zero, List.set_cons_succ])
                    refine tk (i := 16) (d := (some 160)) (v := undef) rfl rfl (by kernel_rfl) (by kernel_rfl) (by kernel_rfl) (fun _ _ _ h => h) (Or.inr ⟨by kernel_rfl, rfl⟩) hHeld ?_
                    (try simp only [Act.put, List.setIfInBounds_toArray, List.set_cons_zero, List.set_cons_succ])
                    refine tk (i := 17) (d := (some 161)) (v := undef) rfl rfl (by kernel_rfl) (by kernel_rfl) (by kernel_rfl) (fun _ _ _ h => h) (Or.inr ⟨by kernel_rfl, rfl⟩) hHeld ?_
                    (try simp only [Act.put, List.setIfInBounds_toArray, List.set_cons_zero, List.set_cons_succ])
                    refine tk (i := 18) (d := (some 162)) (v := undef) rfl rfl (by kernel_rfl) (by kernel_rfl) (by kernel_rfl) (fun _ _ _ h => h) (Or.inr ⟨by kernel_rfl, rfl⟩) hHeld ?_
                    (try simp only [Act.put, List.setIfInBounds_toArray, List.set_cons_zero, List.set_cons_succ])
                    refine tk (i := 19) (d := (some 163)) (v := undef) rfl rfl (by kernel_rfl) (by kernel_rfl) (by kernel_rfl) (fun _ _ _ h => h) (Or.inr ⟨by kernel_rfl, rfl⟩) hHeld ?_
                    (try simp only [Act.put, List.setIfInBounds_toArray, List.set_cons_zero, List.set_cons_succ])
                    refine tk (i := 20) (d := (some 164)) (v := undef) rfl rfl (by kernel_rfl) (by kernel_rfl) (by kernel_rfl) (fun _ _ _ h => h) (Or.inr ⟨by kernel_rfl, rfl⟩) hHeld ?_
                    (try simp only [Act.put, List.setIfInBounds_toArray, List.set_cons_zero, List.set_cons_succ])
                    refine tk (i := 21) (d := (some 165)) (v := ?_) rfl rfl (by kernel_rfl) (by kernel_rfl) (by kernel_rfl) (fun _ _ _ h => h) (Or.inl ⟨by rfl, ?_⟩) hHeld ?_
                    rotate_left
                    · intro w hSw; have zy0 := keepc hSw y0; have zy1 := keepc hSw y1; have zy2 := keepc hSw y2; have zg0 := keepc hSw g0; have zg1 := keepc hSw g1; have zg2 := keepc hSw g2; clear hSw; go_simp <;> with_reducible rfl
                    (try simp only [Act.put, List.setIfInBounds_toArray, List.set_cons_zero, List.set_cons_succ])
                    refine tk (i := 22) (d := (some 166)) (v := ?_) rfl rfl (by kernel_rfl) (by kernel_rfl) (by kernel_rfl) (fun _ _ _ h => h) (Or.inl ⟨by rfl, ?_⟩) hHeld ?_
                    rotate_left
                    · intro w hSw; have zy0 := keepc hSw y0; have zy1 := keepc hSw y1; have zy2 := keepc hSw y2; have zg0 := keepc hSw g0; have zg1 := keepc hSw g1; have zg2 := keepc hSw g2; clear hSw; go_simp <;> with_reducible rfl
                    (try simp only [Act.put, List.setIfInBounds_toArray, List.set_cons_zero, List.set_cons_succ])
                    refine tk (i := 23) (d := (some 167)) (v := ?_) rfl rfl (by kernel_rfl) (by kernel_rfl) (by kernel_rfl) (fun _ _ _ h => h) (Or.inl ⟨by rfl, ?_⟩) hHeld ?_
                    rotate_left
                    · intro w hSw; have zy0 := keepc hSw y0; have zy1 := keepc hSw y1; have zy2 := keepc hSw y2; have zg0 := keepc hSw g0; have zg1 := keepc hSw g1; have zg2 := keepc hSw g2; clear hSw; go_simp <;> with_reducible rfl
                    (try simp only [Act.put, List.setIfInBounds_toArray, List.set_cons_zero, List.set_cons_succ])
                    refine wpAnyH_done (by kernel_rfl) ?_ _
                    replace hb := chn hb hHeld; clear hHeld
                    go_wp2
                    go_roundw
                    case rel => exact ⟨q + 1, by omega, by go_num, by rw [HSN.out]; go_num, by first | exact hb | exact drw hb _⟩
                    case measure => simp [intOf]; omega
                  | false =>
                    have h1 : th = true ∧ x = ⟨ep, ed, ex⟩ := by
                      rcases hos with ⟨h1, _⟩ | ⟨h1, h2⟩
                      · rw [hox] at h1; cases h1
                      · rw [hox] at h2; exact ⟨h1, by injection h2⟩
                    obtain ⟨rfl, rfl⟩ := h1
                    clear hos hox
                    go_wp2_with fail
                    refine wp_region_held_drew (S := fun w' => Below _ _ w') (by kernel_rfl) (below_drew _) (fun hHeld => ?_)
                    refine tk (i := 0) (d := (some 144)) (v := ?_) rfl rfl (by kernel_rfl) (by kernel_rfl) (by kernel_rfl) (fun _ _ _ h => h) (Or.inl ⟨by rfl, ?_⟩) hHeld ?_
                    rotate_left
                    · intro w hSw; have zy0 := keepc hSw y0; have zy1 := keepc hSw y1; have zy2 := keepc hSw y2; have zg0 := keepc hSw g0; have zg1 := keepc hSw g1; have zg2 := keepc hSw g2; clear hSw; go_simp <;> with_reducible rfl
                    (try simp only [Act.put, List.setIfInBounds_toArray, List.set_cons_zero, List.set_cons_succ])
                    refine tk (i := 1) (d := (some 145)) (v := ?_) rfl rfl (by kernel_rfl) (by kernel_rfl) (by kernel_rfl) (fun _ _ _ h => h) (Or.inl ⟨by rfl, ?_⟩) hHeld ?_
                    rotate_left
                    · intro w hSw; have zy0 := keepc hSw y0; have zy1 := keepc hSw y1; have zy2 := keepc hSw y2; have zg0 := keepc hSw g0; have zg1 := keepc hSw g1; have zg2 := keepc hSw g2; clear hSw; go_simp <;> with_reducible rfl
                    (try simp only [Act.put, List.setIfInBounds_toArray, List.set_cons_zero, List.set_cons_succ])
                    refine tk (i := 2) (d := (some 146)) (v := ?_) rfl rfl (by kernel_rfl) (by kernel_rfl) (by kernel_rfl) (fun _ _ _ h => h) (Or.inl ⟨by rfl, ?_⟩) hHeld ?_
                    rotate_left
                    · intro w hSw; have zy0 := keepc hSw y0; have zy1 := keepc hSw y1; have zy2 := keepc hSw y2; have zg0 := keepc hSw g0; have zg1 := keepc hSw g1; have zg2 := keepc hSw g2; clear hSw; go_simp <;> with_reducible rfl
                    (try simp only [Act.put, List.setIfInBounds_toArray, List.set_cons_zero, List.set_cons_succ])
                    refine tk (i := 3) (d := (some 147)) (v := ?_) rfl rfl (by kernel_rfl) (by kernel_rfl) (by kernel_rfl) (fun _ _ _ h => h) (Or.inl ⟨by rfl, ?_⟩) hHeld ?_
                    rotate_left
                    · intro w hSw; have zy0 := keepc hSw y0; have zy1 := keepc hSw y1; have zy2 := keepc hSw y2; have zg0 := keepc hSw g0; have zg1 := keepc hSw g1; have zg2 := keepc hSw g2; clear hSw; go_simp <;> with_reducible rfl
                    (try simp only [Act.put, List.setIfInBounds_toArray, List.set_cons_zero, List.set_cons_succ])
                    refine tk (i := 4) (d := (some 148)) (v := ?_) rfl rfl (by kernel_rfl) (by kernel_rfl) (by kernel_rfl) (fun _ _ _ h => h) (Or.inl ⟨by rfl, ?_⟩) hHeld ?_
                    rotate_left
                    · intro w hSw; have zy0 := keepc hSw y0; have zy1 := keepc hSw y1; have zy2 := keepc hSw y2; have zg0 := keepc hSw g0; have zg1 := keepc hSw g1; have zg2 := keepc hSw g2; clear hSw; go_simp <;> with_reducible rfl
                    (try simp only [Act.put, List.setIfInBounds_toArray, List.set_cons_zero, List.set_cons_succ])
                    refine tk (i := 5) (d := (some 149)) (v := ?_) rfl rfl (by kernel_rfl) (by kernel_rfl) (by kernel_rfl) (fun _ _ _ h => h) (Or.inl ⟨by rfl, ?_⟩) hHeld ?_
                    rotate_left
                    · intro w hSw; have zy0 := keepc hSw y0; have zy1 := keepc hSw y1; have zy2 := keepc hSw y2; have zg0 := keepc hSw g0; have zg1 := keepc hSw g1; have zg2 := keepc hSw g2; clear hSw; go_simp <;> with_reducible rfl
                    (try simp only [Act.put, List.setIfInBounds_toArray, List.set_cons_zero, List.set_cons_succ])
                    refine tk (i := 6) (d := (some 150)) (v := ?_) rfl rfl (by kernel_rfl) (by kernel_rfl) (by kernel_rfl) (fun _ _ _ h => h) (Or.inl ⟨by rfl, ?_⟩) hHeld ?_
                    rotate_left
                    · intro w hSw; have zy0 := keepc hSw y0; have zy1 := keepc hSw y1; have zy2 := keepc hSw y2; have zg0 := keepc hSw g0; have zg1 := keepc hSw g1; have zg2 := keepc hSw g2; clear hSw; go_simp <;> with_reducible rfl
                    (try simp only [Act.put, List.setIfInBounds_toArray, List.set_cons_zero, List.set_cons_succ])
                    refine tk (i := 7) (d := (some 151)) (v := ?_) rfl rfl (by kernel_rfl) (by kernel_rfl) (by kernel_rfl) (fun _ _ _ h => h) (Or.inl ⟨by rfl, ?_⟩) hHeld ?_
                    rotate_left
                    · intro w hSw; have zy0 := keepc hSw y0; have zy1 := keepc hSw y1; have zy2 := keepc hSw y2; have zg0 := keepc hSw g0; have zg1 := keepc hSw g1; have zg2 := keepc hSw g2; clear hSw; go_simp <;> with_reducible rfl
                    (try simp only [Act.put, List.setIfInBounds_toArray, List.set_cons_zero, List.set_cons_succ])
                    refine tk (i := 8) (d := (some 152)) (v := ?_) rfl rfl (by kernel_rfl) (by kernel_rfl) (by kernel_rfl) (fun _ _ _ h => h) (Or.inl ⟨by rfl, ?_⟩) hHeld ?_
                    rotate_left
                    · intro w hSw; have zy0 := keepc hSw y0; have zy1 := keepc hSw y1; have zy2 := keepc hSw y2; have zg0 := keepc hSw g0; have zg1 := keepc hSw g1; have zg2 := keepc hSw g2; clear hSw; go_simp <;> with_reducible rfl
                    (try simp only [Act.put, List.setIfInBounds_toArray, List.set_cons_zero, List.set_cons_succ])
                    refine tk (i := 9) (d := (some 153)) (v := ?_) rfl rfl (by kernel_rfl) (by kernel_rfl) (by kernel_rfl) (fun _ _ _ h => h) (Or.inl ⟨by rfl, ?_⟩) hHeld ?_
                    rotate_left
                    · intro w hSw; have zy0 := keepc hSw y0; have zy1 := keepc hSw y1; have zy2 := keepc hSw y2; have zg0 := keepc hSw g0; have zg1 := keepc hSw g1; have zg2 := keepc hSw g2; clear hSw; go_simp <;> with_reducible rfl
                    (try simp only [Act.put, List.setIfInBounds_toArray, List.set_cons_zero, List.set_cons_succ])
                    refine wpAnyH_ready (rs := [10]) (by kernel_rfl) (by simp) ?_
                    refine AllReadyH.cons rfl (fun K hK => ?_) AllReadyH.nil
                    go_simp
                    refine (HHI.out _ HN1.out (hsw.below hHeld) (by omega) (by omega) HZ.out).mono ?_; rintro e W ⟨rfl, hq⟩
                    go_simp
                    refine hK.out _ _ (chn hHeld hq) (fun h => ?_)
                    clear hK K; replace hHeld := h; clear h hq
                    (try simp only [Act.put, List.setIfInBounds_toArray, List.set_cons_zero, List.set_cons_succ])
                    refine tk (i := 11) (d := (some 155)) (v := ?_) rfl rfl (by kernel_rfl) (by kernel_rfl) (by kernel_rfl) (fun _ _ _ h => h) (Or.inl ⟨by rfl, ?_⟩) hHeld ?_
                    rotate_left
                    · intro w hSw; have zy0 := keepc hSw y0; have zy1 := keepc hSw y1; have zy2 := keepc hSw y2; have zg0 := keepc hSw g0; have zg1 := keepc hSw g1; have zg2 := keepc hSw g2; clear hSw; go_simp <;> with_reducible rfl
                    (try simp only [Act.put, List.setIfInBounds_toArray, List.set_cons_zero, List.set_cons_succ])
                    refine tk (i := 12) (d := (some 156)) (v := ?_) rfl rfl (by kernel_rfl) (by kernel_rfl) (by kernel_rfl) (fun _ _ _ h => h) (Or.inl ⟨by rfl, ?_⟩) hHeld ?_
                    rotate_left
                    · intro w hSw; have zy0 := keepc hSw y0; have zy1 := keepc hSw y1; have zy2 := keepc hSw y2; have zg0 := keepc hSw g0; have zg1 := keepc hSw g1; have zg2 := keepc hSw g2; clear hSw; go_simp <;> with_reducible rfl
                    (try simp only [Act.put, List.setIfInBounds_toArray, List.set_cons_zero, List.set_cons_succ])
                    refine tk (i := 13) (d := (some 157)) (v := ?_) rfl rfl (by kernel_rfl) (by kernel_rfl) (by kernel_rfl) (fun _ _ _ h => h) (Or.inl ⟨by rfl, ?_⟩) hHeld ?_
                    rotate_left
                    · intro w hSw; have zy0 := keepc hSw y0; have zy1 := keepc hSw y1; have zy2 := keepc hSw y2; have zg0 := keepc hSw g0; have zg1 := keepc hSw g1; have zg2 := keepc hSw g2; clear hSw; go_simp <;> with_reducible rfl
                    (try simp only [Act.put, List.setIfInBounds_toArray, List.set_cons_zero, List.set_cons_succ])
                    refine tk (i := 14) (d := (some 158)) (v := ?_) rfl rfl (by kernel_rfl) (by kernel_rfl) (by kernel_rfl) (fun _ _ _ h => h) (Or.inl ⟨by rfl, ?_⟩) hHeld ?_
                    rotate_left
                    · intro w hSw; have zy0 := keepc hSw y0; have zy1 := keepc hSw y1; have zy2 := keepc hSw y2; have zg0 := keepc hSw g0; have zg1 := keepc hSw g1; have zg2 := keepc hSw g2; clear hSw; go_simp <;> with_reducible rfl
                    (try simp only [Act.put, List.setIfInBounds_toArray, List.set_cons_zero, List.set_cons_succ])
                    refine tk (i := 15) (d := (some 159)) (v := ?_) rfl rfl (by kernel_rfl) (by kernel_rfl) (by kernel_rfl) (fun _ _ _ h => h) (Or.inl ⟨by rfl, ?_⟩) hHeld ?_
                    rotate_left
                    · intro w hSw; have zy0 := keepc hSw y0; have zy1 := keepc hSw y1; have zy2 := keepc hSw y2; have zg0 := keepc hSw g0; have zg1 := keepc hSw g1; have zg2 := keepc hSw g2; clear hSw; go_simp <;> with_reducible rfl
                    (try simp only [Act.put, List.setIfInBounds_toArray, List.set_cons_zero, List.set_cons_succ])
                    refine tk (i := 16) (d := (some 160)) (v := ?_) rfl rfl (by kernel_rfl) (by kernel_rfl) (by kernel_rfl) (fun _ _ _ h => h) (Or.inl ⟨by rfl, ?_⟩) hHeld ?_
                    rotate_left
                    · intro w hSw; have zy0 := keepc hSw y0; have zy1 := keepc hSw y1; have zy2 := keepc hSw y2; have zg0 := keepc hSw g0; have zg1 := keepc hSw g1; have zg2 := keepc hSw g2; clear hSw; go_simp <;> with_reducible rfl
                    (try simp only [Act.put, List.setIfInBounds_toArray, List.set_cons_zero, List.set_cons_succ])
                    refine tk (i := 17) (d := (some 161)) (v := ?_) rfl rfl (by kernel_rfl) (by kernel_rfl) (by kernel_rfl) (fun _ _ _ h => h) (Or.inl ⟨by rfl, ?_⟩) hHeld ?_
                    rotate_left
                    · intro w hSw; have zy0 := keepc hSw y0; have zy1 := keepc hSw y1; have zy2 := keepc hSw y2; have zg0 := keepc hSw g0; have zg1 := keepc hSw g1; have zg2 := keepc hSw g2; clear hSw; go_simp <;> with_reducible rfl
                    (try simp only [Act.put, List.setIfInBounds_toArray, List.set_cons_zero, List.set_cons_succ])
                    refine tk (i := 18) (d := (some 162)) (v := ?_) rfl rfl (by kernel_rfl) (by kernel_rfl) (by kernel_rfl) (fun _ _ _ h => h) (Or.inl ⟨by rfl, ?_⟩) hHeld ?_
                    rotate_left
                    · intro w hSw; have zy0 := keepc hSw y0; have zy1 := keepc hSw y1; have zy2 := keepc hSw y2; have zg0 := keepc hSw g0; have zg1 := keepc hSw g1; have zg2 := keepc hSw g2; clear hSw; go_simp <;> with_reducible rfl
                    (try simp only [Act.put, List.setIfInBounds_toArray, List.set_cons_zero, List.set_cons_succ])
                    refine tk (i := 19) (d := (some 163)) (v := ?_) rfl rfl (by kernel_rfl) (by kernel_rfl) (by kernel_rfl) (fun _ _ _ h => h) (Or.inl ⟨by rfl, ?_⟩) hHeld ?_
                    rotate_left
                    · intro w hSw; have zy0 := keepc hSw y0; have zy1 := keepc hSw y1; have zy2 := keepc hSw y2; have zg0 := keepc hSw g0; have zg1 := keepc hSw g1; have zg2 := keepc hSw g2; clear hSw; go_simp <;> with_reducible rfl
                    (try simp only [Act.put, List.setIfInBounds_toArray, List.set_cons_zero, List.set_cons_succ])
                    refine tk (i := 20) (d := (some 164)) (v := ?_) rfl rfl (by kernel_rfl) (by kernel_rfl) (by kernel_rfl) (fun _ _ _ h => h) (Or.inl ⟨by rfl, ?_⟩) hHeld ?_
                    rotate_left
                    · intro w hSw; have zy0 := keepc hSw y0; have zy1 := keepc hSw y1; have zy2 := keepc hSw y2; have zg0 := keepc hSw g0; have zg1 := keepc hSw g1; have zg2 := keepc hSw g2; clear hSw; go_simp <;> with_reducible rfl
                    (try simp only [Act.put, List.setIfInBounds_toArray, List.set_cons_zero, List.set_cons_succ])
                    refine tk (i := 21) (d := (some 165)) (v := ?_) rfl rfl (by kernel_rfl) (by kernel_rfl) (by kernel_rfl) (fun _ _ _ h => h) (Or.inl ⟨by rfl, ?_⟩) hHeld ?_
                    rotate_left
                    · intro w hSw; have zy0 := keepc hSw y0; have zy1 := keepc hSw y1; have zy2 := keepc hSw y2; have zg0 := keepc hSw g0; have zg1 := keepc hSw g1; have zg2 := keepc hSw g2; clear hSw; go_simp <;> with_reducible rfl
                    (try simp only [Act.put, List.setIfInBounds_toArray, List.set_cons_zero, List.set_cons_succ])
                    refine tk (i := 22) (d := (some 166)) (v := ?_) rfl rfl (by kernel_rfl) (by kernel_rfl) (by kernel_rfl) (fun _ _ _ h => h) (Or.inl ⟨by rfl, ?_⟩) hHeld ?_
                    rotate_left
                    · intro w hSw; have zy0 := keepc hSw y0; have zy1 := keepc hSw y1; have zy2 := keepc hSw y2; have zg0 := keepc hSw g0; have zg1 := keepc hSw g1; have zg2 := keepc hSw g2; clear hSw; go_simp <;> with_reducible rfl
                    (try simp only [Act.put, List.setIfInBounds_toArray, List.set_cons_zero, List.set_cons_succ])
                    refine tk (i := 23) (d := (some 167)) (v := ?_) rfl rfl (by kernel_rfl) (by kernel_rfl) (by kernel_rfl) (fun _ _ _ h => h) (Or.inl ⟨by rfl, ?_⟩) hHeld ?_
                    rotate_left
                    · intro w hSw; have zy0 := keepc hSw y0; have zy1 := keepc hSw y1; have zy2 := keepc hSw y2; have zg0 := keepc hSw g0; have zg1 := keepc hSw g1; have zg2 := keepc hSw g2; clear hSw; go_simp <;> with_reducible rfl
                    (try simp only [Act.put, List.setIfInBounds_toArray, List.set_cons_zero, List.set_cons_succ])
                    refine wpAnyH_done (by kernel_rfl) ?_ _
                    replace hb := chn hb hHeld; clear hHeld
                    go_wp2
                    go_roundw
                    case rel => exact ⟨q + 1, by omega, by go_num, by rw [HSN.out]; go_num, by first | exact hb | exact drw hb _⟩
                    case measure => simp [intOf]; omega
          · obtain rfl : q = n2 := by omega
            have HB2 := Lib.hid hb
            have HCQ := HCN
            obtain ⟨N, hN⟩ : ∃ N, keptN xs ys q = N := ⟨_, rfl⟩
            have hNl : N ≤ q := by rw [← hN]; exact HKL.out q
            rw [hN] at HCQ ⊢
            have HOI := Lib.hid (fun W (h : SlF En.cells W a3 us) => okI_c a3 c3 n3 us true (Lib.hid ⟨fun _ => HTU.out, fun _ => rfl⟩) W HN3.out h (by omega) HSU.out)
            clear hb hN
            go_wp2
            go_loopw [12, 18] (fun k i wr => ∃ p : Nat, p ≤ j ∧ i = .int .i64 p ∧ k = .int .i64 ((N + putN xs p : Nat) : Int) ∧ Below W6.heap.size W6 wr) (fun _ i _ => j - (intOf i).toNat)
            case atStart => exact ⟨0, Nat.zero_le _, rfl, rfl, HB2.out⟩
            case round =>
              obtain ⟨p, hp, rfl, rfl, hb⟩ := hrel
              have hpl := HPL.out p
              by_cases hlp : p < j
              · obtain ⟨m, hmm⟩ : ∃ e, xs[p]? = some e := ⟨_, List.getElem?_eq_getElem (by rw [HN1.out]; exact hlp)⟩
                have hsw := (HR0.out.below hb).sl
                obtain ⟨b, off, rfl, _⟩ := hsw.addr (by rw [HN1.out]; omega)
                obtain ⟨_, d1, _⟩ := mk_at hsw p m hmm
                have HSN := Lib.hid (putN_snoc hmm)
                obtain ⟨mp, mk, mx⟩ := m
                have d1 : wr.cell? ⟨b, off + p * 3 + 1, none⟩ = some (.int .i64 mk) := d1
                replace HSN : Hid (putN xs (p + 1) = putN xs p + if mk = 3 then 0 else 1) := HSN
                have i0 : (0 : Int) ≤ (p : Int) := by omega
                have i1 : (p : Int) < (j : Int) := by omega
                clear hmm hsw
                by_cases hk3 : mk = 3
                · have hkb : (mk != 3) = false := by rw [bne_eq_false_iff_eq]; exact hk3
                  have HS1 := HSN.out
                  rw [if_pos hk3] at HS1
                  clear hk3
                  go_wp2
                  go_roundw
                  case rel => exact ⟨p + 1, by omega, by go_num, by rw [HS1]; rfl, by first | exact hb | exact drw hb _⟩
                  case measure => simp [intOf]; omega
                · have hkb : (mk != 3) = true := by rw [bne_iff_ne]; exact hk3
                  have HS1 := HSN.out
                  rw [if_neg hk3] at HS1
                  clear hk3
                  go_wp2
                  go_roundw
                  case rel => exact ⟨p + 1, by omega, by go_num, by rw [HS1]; go_num, by first | exact hb | exact drw hb _⟩
                  case measure => simp [intOf]; omega
              · obtain rfl : p = j := by omega
                have hsx := HX0.out.below hb
                have hbX := chn HB0.out hb
                have hcq := HCQ.out
                have heq : ((N : Int) + (putN xs p : Int) == (n3 : Int)) = true := by rw [beq_iff_eq]; omega
                clear hb hcq
                go_wp2_with fail
                refine (HOI.out _ hsx).mono ?_; rintro e W7 ⟨rfl, hq⟩; replace hbX := chn hbX hq; clear hq HOI hsx
                go_wp2
                go_ret
                exact ⟨rfl, hbX⟩
end Go.Proofs.YtdhbdcmnbhjjaaaGreatDoor
