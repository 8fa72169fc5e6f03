/- The walk of impl.TreeOk. The walks of spec's lookups: l2Find, l2Dir. Small laws for regions that draw their order, walked in the order of their text. Conditions: each theorem's own. -/
import Derived.Test.YtobbodbkdcbflaaDoorB1
import Derived.Deep.QuietTactic
import Derived.BigQuiet
import Derived.Deep.RegionHeld3
import Derived.Deep.RegionWith
namespace Go.Proofs.YtobbodbkdcbflaaDoor
open Go.RowKit
theorem isE_no' {s : ByteArray} (h : s.data.toList ≠ []) : s.toList.isEmpty = false := by
  rw [Lib.toList_data]
  cases hs : s.data.toList with
  | nil => exact absurd hs h
  | cons _ _ => rfl
theorem isE_yes' {s : ByteArray} (h : s.data.toList = []) : s.toList.isEmpty = true := by rw [Lib.toList_data, h]; rfl
/-- What the program asks of the entry at place k. -/
def AskE (xs : List En) (k : Nat) (e : En) : Prop := AskI (xs.map En.pl) k e.pl
theorem tok_E (xs : List En) : TOk (xs.map En.pl) ↔ xs.length ≤ 16 ∧ ∀ (k : Nat) (e : En), xs[k]? = some e → AskE xs k e := by
  rw [tok_iff, List.length_map]
  constructor
  · rintro ⟨h1, h2⟩
    exact ⟨h1, fun k e he => h2 k e.pl (by simp [he])⟩
  · rintro ⟨h1, h2⟩
    refine ⟨h1, fun k e he => ?_⟩
    rw [List.getElem?_map, Option.map_eq_some_iff] at he
    obtain ⟨f, hf, rfl⟩ := he
    exact h2 k f hf
theorem drw {B : Nat} {a w : World} (h : Below B a w) (n : Nat) : Below B a (w.drewN n) := ⟨h.os, h.tape, h.output, h.size, h.block⟩
theorem less_of' (a b : ByteArray) : Op.bytesLess a.toList b.toList = Op.bytesLess a.data.toList b.data.toList := by rw [Lib.toList_data, Lib.toList_data]
theorem ask_at (xs : List En) (k : Nat) (f e : En) (hf : xs[k]? = some f) (h1 : entOkL e.pl = true) (h2 : Op.bytesLess f.p.toList e.p.toList = true) (h3 : upCodeL (xs.map En.pl) e.p.data.toList = 0) : AskE xs (k + 1) e := by
  refine ⟨h1, fun g _ hg => ?_, h3⟩
  rw [Nat.add_sub_cancel, List.getElem?_map, hf] at hg
  injection hg with hg
  rw [← hg]
  rw [less_of'] at h2
  exact h2
theorem ask_less (xs : List En) (k : Nat) (f e : En) (hf : xs[k]? = some f) (h : AskE xs (k + 1) e) : Op.bytesLess f.p.toList e.p.toList = true := by
  have := h.2.1 f.pl (by omega) (by rw [Nat.add_sub_cancel, List.getElem?_map, hf]; rfl)
  rw [less_of']
  exact this
set_option maxHeartbeats 4000000 in
theorem treeOk_c (a : Option Addr) (c : Nat) (xs : List En) (r : Bool) (hr : Hid (r = true ↔ TOk (xs.map En.pl))) (w : World) (hs : SlF En.cells w a xs) (hx : xs.length ≤ maxLen) (hz : ∀ e ∈ xs, e.p.size ≤ maxLen ∧ e.x.size ≤ maxLen) :
    Calls Tryd.prog 28 #[.slice a xs.length c] w fun q w' => q = .returned (.bool r) ∧ Below w.heap.size w w' := by
  have hR : Hid (r = true ↔ xs.length ≤ 16 ∧ ∀ (k : Nat) (e : En), xs[k]? = some e → AskE xs k e) := by rw [Hid, hr.out, tok_E]
  have HU := fun (q : ByteArray) (m : Nat) (hm : Hid (upCodeL (xs.map En.pl) q.data.toList = m)) (W : World) (h : SlF En.cells W a xs) hq => Lib.hid (upCode_c a c xs q m hm W h hx hq)
  have HZ := Lib.hid hz
  have HS := Lib.hid hs
  obtain ⟨n, hn⟩ : ∃ n, xs.length = n := ⟨_, rfl⟩
  have HN := Lib.hid hn
  rw [hn] at hR hx HU ⊢
  unfold maxLen at hx
  have GU := Lib.hid HU
  clear hn hz hs hr HU
  by_cases h16 : 16 < n
  · obtain rfl : r = false := by
      cases r
      · rfl
      · have := hR.out.1 rfl; omega
    go_enter Tryd.func28, Tryd.ntmps28
    go_wp2
    go_ret
    exact ⟨rfl, Below.refl _ _⟩
  have hno : Hid (∀ (k : Nat) (e : En), xs[k]? = some e → ¬ AskE xs k e → r = false) := fun k e he hne => by
    cases r
    · rfl
    · exact absurd ((hR.out.1 rfl).2 k e he) hne
  go_enter Tryd.func28, Tryd.ntmps28
  go_wp2
  go_loopw [3, 4, 10] (fun _ _ i wr => ∃ k : Nat, k ≤ n ∧ i = .int .i64 k ∧ (∀ (j : Nat) (e : En), j < k → xs[j]? = some e → AskE xs j e) ∧ Below w.heap.size w wr) (fun _ _ i _ => n - (intOf i).toNat)
  case atStart => exact ⟨0, Nat.zero_le _, rfl, fun j _ h => absurd h (by omega), Below.refl _ _⟩
  case round =>
    obtain ⟨k, hk, rfl, hall, hb⟩ := hrel
    have HA := Lib.hid hall
    clear hall
    by_cases hlt : k < n
    · obtain ⟨e, hee⟩ : ∃ e, xs[k]? = some e := ⟨_, List.getElem?_eq_getElem (by rw [HN.out]; exact hlt)⟩
      have h2 := (HS.out.below hb)
      obtain ⟨b, off, rfl, _⟩ := h2.addr (by rw [HN.out]; omega)
      obtain ⟨d0, d1, d2⟩ := en_at h2 k e hee
      have hzz := HZ.out e (List.mem_of_getElem? hee)
      have HNO := Lib.hid (fun h => hno.out k e hee h)
      have HEE := Lib.hid hee
      have c0 := new_cell wr #[.string e.p, .bool e.d, .string e.x] 41 0 _ rfl
      have c1 := new_cell wr #[.string e.p, .bool e.d, .string e.x] 41 1 _ rfl
      have c2 := new_cell wr #[.string e.p, .bool e.d, .string e.x] 41 2 _ rfl
      replace hb := hb.alloc hb.size (.cells #[.string e.p, .bool e.d, .string e.x] 41)
      obtain ⟨p1, hp1⟩ : ∃ x, pathOkL e.p.data.toList = x := ⟨_, rfl⟩
      obtain ⟨p2, hp2⟩ : ∃ x, dataOkL e.x.data.toList = x := ⟨_, rfl⟩
      have H1 := Lib.hid hp1
      have H2 := Lib.hid hp2
      have h3 := h2
      clear h2 hee
      cases p1 with
      | false =>
        obtain rfl : r = false := HNO.out (fun h => by have := h.1; simp [entOkL, En.pl, hp1] at this)
        clear hp1 hp2
        go_wp2_with fail
        refine (pathOk_c e.p false H1 _ hzz.1).mono ?_; rintro e W ⟨rfl, hq⟩; replace hb := chn hb hq; clear hq
        go_wp2
        go_ret
        exact ⟨rfl, hb⟩
      | true =>
      cases p2 with
      | false =>
        obtain rfl : r = false := HNO.out (fun h => by have := h.1; simp [entOkL, En.pl, hp2] at this)
        clear hp1 hp2
        go_wp2_with fail
        refine (pathOk_c e.p true H1 _ hzz.1).mono ?_; rintro e W ⟨rfl, hq⟩; replace hb := chn hb hq; replace c0 := keepc hq c0; replace c1 := keepc hq c1; replace c2 := keepc hq c2; clear hq
        go_wp2_with fail
        refine (dataOk_c e.x false H2 _ hzz.2).mono ?_; rintro q W ⟨rfl, rfl⟩
        go_wp2
        go_ret
        exact ⟨rfl, hb⟩
      | true =>
      by_cases hdx : e.d = true ∧ e.x.data.toList ≠ []
      · obtain rfl : r = false := HNO.out (fun h => by have := h.1; simp [entOkL, En.pl, hdx.1] at this; exact hdx.2 (by rw [this.2]))
        have q1 := isE_no' hdx.2
        obtain ⟨ep, ed, ex⟩ := e
        obtain rfl : ed = true := hdx.1
        clear hp1 hp2 hdx
        go_wp2_with fail
        refine (pathOk_c ep true H1 _ hzz.1).mono ?_; rintro e W ⟨rfl, hq⟩; replace hb := chn hb hq; replace c0 := keepc hq c0; replace c1 := keepc hq c1; replace c2 := keepc hq c2; clear hq
        go_wp2_with fail
        refine (dataOk_c ex true H2 _ hzz.2).mono ?_; rintro q W ⟨rfl, rfl⟩
        go_wp2
        go_ret
        exact ⟨rfl, hb⟩
      · have hent : entOkL e.pl = true := by
          simp only [entOkL, En.pl, hp1, hp2, Bool.and_true, Bool.true_and, Bool.or_eq_true, Bool.not_eq_true', beq_iff_eq]
          by_cases hd : e.d = true
          · exact .inr (Classical.byContradiction fun h => hdx ⟨hd, h⟩)
          · exact .inl (by simpa using hd)
        have HENT := Lib.hid hent
        obtain ⟨m, hm⟩ : ∃ m, upCodeL (xs.map En.pl) e.p.data.toList = m := ⟨_, rfl⟩
        have HM := Lib.hid hm
        have hd1 : e.d = false ∨ (e.d = true ∧ e.x.toList.isEmpty = true) := by
          by_cases hd : e.d = true
          · exact .inr ⟨hd, isE_yes' (Classical.byContradiction fun h => hdx ⟨hd, h⟩)⟩
          · exact .inl (by simpa using hd)
        clear hp1 hp2 hdx hent
        obtain ⟨ep, ed, ex⟩ := e
        cases k with
        | zero =>
          rw [Nat.zero_mul, Nat.add_zero] at d0 d1 d2
          rcases hd1 with hd | ⟨hd, q1⟩ <;> obtain rfl : ed = _ := hd
          all_goals
            go_wp2_with fail
            refine (pathOk_c ep true H1 _ hzz.1).mono ?_; rintro e W ⟨rfl, hq⟩; replace hb := chn hb hq; replace c0 := keepc hq c0; replace c1 := keepc hq c1; replace c2 := keepc hq c2; clear hq
            go_wp2_with fail
            refine (dataOk_c ex true H2 _ hzz.2).mono ?_; rintro q W ⟨rfl, rfl⟩
            go_wp2_with fail
            go_quiet (fail)
            go_wp2_with fail
            refine (GU.out ep m HM _ (HS.out.below (drw hb _)) hzz.1).out.mono ?_; rintro q W2 ⟨rfl, hq⟩
            replace hb := chn (drw hb _) hq
            clear hq c0 c1 c2 d0 d1 d2
            by_cases hm0 : m = 0
            · subst hm0
              go_wp2
              go_roundw
              case rel => exact ⟨1, by omega, by go_num, fun j f hj hf => by
                by_cases ej : j = 0
                · subst ej
                  rw [HEE.out] at hf
                  injection hf with hf
                  rw [← hf]
                  exact ⟨HENT.out, fun _ h _ => absurd h (by omega), HM.out⟩
                · exact HA.out j f (by omega) hf, hb⟩
              case measure => simp [intOf]; omega
            · obtain rfl : r = false := HNO.out (fun h => hm0 (by rw [← HM.out]; exact h.2.2))
              go_wp2
              go_ret
              exact ⟨rfl, hb⟩
        | succ k =>
          obtain ⟨f, hff⟩ : ∃ f, xs[k]? = some f := ⟨_, List.getElem?_eq_getElem (by rw [HN.out]; omega)⟩
          obtain ⟨c3, _, _⟩ := en_at h3 k f hff
          replace c3 := keepc (bellow_alloc wr (.cells #[.string ep, .bool ed, .string ex] 41)) c3
          have HFF := Lib.hid hff
          clear hff h3
          by_cases hle : Op.bytesLess f.p.toList ep.toList = true
          · have HLE := Lib.hid hle
            rcases hd1 with hd | ⟨hd, q1⟩ <;> obtain rfl : ed = _ := hd
            all_goals
              go_wp2_with fail
              refine (pathOk_c ep true H1 _ hzz.1).mono ?_; rintro e W ⟨rfl, hq⟩; replace hb := chn hb hq; replace c0 := keepc hq c0; replace c1 := keepc hq c1; replace c2 := keepc hq c2; replace c3 := keepc hq c3; clear hq
              go_wp2_with fail
              refine (dataOk_c ex true H2 _ hzz.2).mono ?_; rintro q W ⟨rfl, rfl⟩
              go_wp2_with fail
              go_quiet (fail)
              go_wp2_with fail
              refine (GU.out ep m HM _ (HS.out.below (drw hb _)) hzz.1).out.mono ?_; rintro q W2 ⟨rfl, hq⟩
              replace hb := chn (drw hb _) hq
              clear hq c0 c1 c2 c3 d0 d1 d2 hle
              by_cases hm0 : m = 0
              · subst hm0
                go_wp2
                go_roundw
                case rel => exact ⟨k + 1 + 1, by omega, by go_num, fun j g hj hg => by
                  by_cases ej : j = k + 1
                  · subst ej
                    rw [HEE.out] at hg
                    injection hg with hg
                    rw [← hg]
                    exact ask_at xs k f _ HFF.out HENT.out HLE.out HM.out
                  · exact HA.out j g (by omega) hg, hb⟩
                case measure => simp [intOf]; omega
              · obtain rfl : r = false := HNO.out (fun h => hm0 (by rw [← HM.out]; exact h.2.2))
                go_wp2
                go_ret
                exact ⟨rfl, hb⟩
          · have hle' : Op.bytesLess f.p.toList ep.toList = false := by simpa using hle
            obtain rfl : r = false := HNO.out (fun h => hle (ask_less xs k f _ HFF.out h))
            clear hle
            rcases hd1 with hd | ⟨hd, q1⟩ <;> obtain rfl : ed = _ := hd
            all_goals
              go_wp2_with fail
              refine (pathOk_c ep true H1 _ hzz.1).mono ?_; rintro e W ⟨rfl, hq⟩; replace hb := chn hb hq; replace c0 := keepc hq c0; replace c1 := keepc hq c1; replace c2 := keepc hq c2; replace c3 := keepc hq c3; clear hq
              go_wp2_with fail
              refine (dataOk_c ex true H2 _ hzz.2).mono ?_; rintro q W ⟨rfl, rfl⟩
              go_wp2_with fail
              go_quiet (fail)
              go_wp2
              go_ret
              exact ⟨rfl, drw hb _⟩
    · obtain rfl : r = true := hR.out.2 ⟨by omega, fun j e he => HA.out j e (by have := (List.getElem?_eq_some_iff.1 he).1; rw [HN.out] at this; omega) he⟩
      go_wp2
      go_ret
      exact ⟨rfl, hb⟩
end Go.Proofs.YtobbodbkdcbflaaDoor
namespace Go.Proofs.YtobbodbkdcbflaaDoor
open Go.RowKit
/-- Where a path stands, or -1. -/
def findE (xs : List En) (q : ByteArray) : Option Nat := xs.findIdx? fun e => e.p.data.toList == q.data.toList
abbrev findV : Option Nat → Int
  | some k => (k : Int)
  | none => -1
theorem findE_at (xs : List En) (q : ByteArray) (k : Nat) (e : En) (he : xs[k]? = some e) (h : ∀ (j : Nat) (f : En), j < k → xs[j]? = some f → f.p.data.toList ≠ q.data.toList) (hq : e.p.data.toList = q.data.toList) : findE xs q = some k := by
  obtain ⟨h1, h2⟩ := List.getElem?_eq_some_iff.1 he
  unfold findE
  rw [List.findIdx?_eq_some_iff_getElem]
  refine ⟨h1, by rw [h2]; simpa using hq, fun j hj => ?_⟩
  have := h j _ hj (List.getElem?_eq_getElem (by omega))
  simpa using this
theorem findE_none (xs : List En) (q : ByteArray) (h : ∀ (j : Nat) (f : En), xs[j]? = some f → f.p.data.toList ≠ q.data.toList) : findE xs q = none := by
  unfold findE
  rw [List.findIdx?_eq_none_iff]
  intro e he
  obtain ⟨j, hj⟩ := List.getElem?_of_mem he
  have := h j e hj
  simpa using this
theorem findE_get (xs : List En) (q : ByteArray) : getE xs q = match findE xs q with
    | some k => xs[k]?
    | none => none := by
  cases hf : findE xs q with
  | none =>
    unfold findE at hf
    rw [List.findIdx?_eq_none_iff] at hf
    exact getE_none xs q fun j f hj => by have := hf f (List.mem_of_getElem? hj); simpa using this
  | some k =>
    unfold findE at hf
    rw [List.findIdx?_eq_some_iff_getElem] at hf
    obtain ⟨h1, h2, h3⟩ := hf
    rw [getE_skip xs q k xs[k] (List.getElem?_eq_getElem h1) (fun j f hj hf => by
      obtain ⟨h4, h5⟩ := List.getElem?_eq_some_iff.1 hf
      have := h3 j hj
      rw [h5] at this
      simpa using this), if_pos (by simpa using h2)]
    exact (List.getElem?_eq_getElem h1).symm
theorem findE_lt (xs : List En) (q : ByteArray) (k : Nat) (h : findE xs q = some k) : ∃ e, xs[k]? = some e ∧ getE xs q = some e := by
  have hg := findE_get xs q
  rw [h] at hg
  unfold findE at h
  rw [List.findIdx?_eq_some_iff_getElem] at h
  obtain ⟨h1, _⟩ := h
  exact ⟨xs[k], List.getElem?_eq_getElem h1, by rw [hg]; exact List.getElem?_eq_getElem h1⟩
set_option maxHeartbeats 2000000 in
theorem l2Find_c (a : Option Addr) (c : Nat) (xs : List En) (q : ByteArray) (o : Option Nat) (ho : Hid (findE xs q = o)) (w : World) (hs : SlF En.cells w a xs) (hx : xs.length ≤ maxLen) :
    Calls Tryd.prog 84 #[.slice a xs.length c, .string q] w fun r w' => r = .returned (.int .i64 (findV o)) ∧ w = w' := by
  obtain ⟨n, hn⟩ : ∃ n, xs.length = n := ⟨_, rfl⟩
  rw [hn] at hx ⊢
  unfold maxLen at hx
  have HN := Lib.hid hn
  have HS := Lib.hid hs
  clear hn hs
  go_enter Tryd.func84, Tryd.ntmps84
  go_wp2
  go_loop [5] (fun i => ∃ k : Nat, k ≤ n ∧ i = .int .i64 k ∧ (∀ (j : Nat) (f : En), j < k → xs[j]? = some f → f.p.data.toList ≠ q.data.toList)) (fun i => n - (intOf i).toNat)
  case atStart => exact ⟨0, Nat.zero_le _, rfl, fun j _ h => absurd h (by omega)⟩
  case round =>
    obtain ⟨k, hk, rfl, hall⟩ := hrel
    have HA := Lib.hid hall
    clear hall
    by_cases hlt : k < n
    · obtain ⟨e, hee⟩ : ∃ e, xs[k]? = some e := ⟨_, List.getElem?_eq_getElem (by rw [HN.out]; exact hlt)⟩
      have h2 := HS.out
      obtain ⟨b, off, rfl, _⟩ := h2.addr (by rw [HN.out]; omega)
      obtain ⟨c0, c1, c2⟩ := en_at h2 k e hee
      have HEE := Lib.hid hee
      clear h2 hee
      by_cases heq : e.p.data.toList = q.data.toList
      · have hq := beqs_yes heq
        obtain rfl : o = some k := by rw [← ho.out]; exact findE_at xs q k e HEE.out HA.out heq
        clear heq
        go_wp2
        go_ret
        exact ⟨rfl, rfl⟩
      · have hq := beqs_no heq
        have HQ := Lib.hid heq
        clear heq
        go_wp2
        go_round
        case rel => exact ⟨k + 1, by omega, by go_num, fun j f hj hf => by
          by_cases ej : j = k
          · subst ej
            rw [HEE.out] at hf
            injection hf with hf
            exact hf ▸ HQ.out
          · exact HA.out j f (by omega) hf⟩
        case measure => simp [intOf]; omega
    · obtain rfl : o = none := by
        rw [← ho.out]
        exact findE_none xs q (fun j f hf => HA.out j f (by have := (List.getElem?_eq_some_iff.1 hf).1; rw [HN.out] at this; omega) hf)
      go_wp2
      go_ret
      exact ⟨rfl, rfl⟩
/-- Is there a directory, or is it the root. -/
def dirE (xs : List En) (q : ByteArray) : Bool := q.data.toList == [47] || match getE xs q with
  | some e => e.d
  | none => false
set_option maxHeartbeats 2000000 in
theorem l2Dir_c (a : Option Addr) (c : Nat) (xs : List En) (q : ByteArray) (r : Bool) (hr : Hid (dirE xs q = r)) (w : World) (hs : SlF En.cells w a xs) (hx : xs.length ≤ maxLen) :
    Calls Tryd.prog 60 #[.slice a xs.length c, .string q] w fun e w' => e = .returned (.bool r) ∧ w = w' := by
  obtain ⟨o, ho⟩ : ∃ o, findE xs q = o := ⟨_, rfl⟩
  have HC := Lib.hid (l2Find_c a c xs q o (Lib.hid ho) w hs hx)
  have hg := findE_get xs q
  rw [ho] at hg
  obtain ⟨n, hn⟩ : ∃ n, xs.length = n := ⟨_, rfl⟩
  rw [hn] at HC hx ⊢
  unfold maxLen at hx
  by_cases hq : q.data.toList = [47]
  · obtain rfl : r = true := by rw [← hr.out, dirE, hq]; rfl
    have hq1 := beq_yes hq
    clear hg ho hn hs hq
    go_enter Tryd.func60, Tryd.ntmps60
    go_wp2
    go_ret
    exact ⟨rfl, rfl⟩
  · have hq1 := beq_no hq
    cases o with
    | none =>
      obtain rfl : r = false := by rw [← hr.out, dirE, hg]; simpa using hq
      clear hg ho hn hs hq
      go_enter Tryd.func60, Tryd.ntmps60
      go_wp2_with fail
      refine HC.out.mono ?_; rintro e W ⟨rfl, rfl⟩
      go_wp2
      go_ret
      exact ⟨rfl, rfl⟩
    | some k =>
      obtain ⟨e, he, hge⟩ := findE_lt xs q k ho
      obtain ⟨b, off, rfl, _⟩ := hs.addr (by have := (List.getElem?_eq_some_iff.1 he).1; omega)
      obtain ⟨c0, c1, c2⟩ := en_at hs k e he
      have hkn : k < n := by rw [← hn]; exact (List.getElem?_eq_some_iff.1 he).1
      obtain rfl : r = e.d := by
        rw [← hr.out, dirE, hge]
        have : (q.data.toList == [47]) = false := by simpa using hq
        rw [this]; rfl
      clear hg ho hn hs hq he hge
      go_enter Tryd.func60, Tryd.ntmps60
      go_wp2_with fail
      refine HC.out.mono ?_; rintro q' W ⟨rfl, rfl⟩
      go_wp2
      go_ret
      exact ⟨rfl, rfl⟩
end Go.Proofs.YtobbodbkdcbflaaDoor
namespace Go.Proofs.YtobbodbkdcbflaaDoor
open Go.RowKit
section
variable {P : Program} {ops : Array Oper} {Q : Exit → Act → World → Prop} {md : Region.Mode} {S : World → Prop}
/-- One operation is taken; its slot is named. -/
theorem tk {i : Nat} {oi : Oper} {d : Option Nat} {v : Value} {fuel : Nat} {listed : Array Bool} {a : Act} {w : World} (hi : ops[i]? = some oi) (hd : oi.dst = d)
    (hs : Region.noSelect ops = true) (hf : Region.free md ops listed i = true) (hr : (Region.ready md ops listed).contains i = true)
    (hQ : ∀ c a w, Q (.panic c) (a.put d v) w → Q (.panic c) a w) (hy : YieldsIf P ops S oi v a) (hS : S w)
    (h : wpAnyH P md ops Q S fuel (listed.setIfInBounds i true) (a.put d v) w) : wpAnyH P md ops Q S (fuel + 1) listed a w := by
  subst hd
  exact wpAnyH_take hi hs hf hr hQ hy hS h
end
theorem below_dr (w : World) (m : Nat) : Below w.heap.size w (w.drewN m) := ⟨rfl, rfl, rfl, Nat.le_refl _, fun _ _ => rfl⟩
theorem below_drew (w : World) : Below w.heap.size w w.drew := ⟨rfl, rfl, rfl, Nat.le_refl _, fun _ _ => rfl⟩
/-- A row of the call's own, behind a call that turns nothing that was there. -/
theorem own_below {w w' : World} {B : Nat} {e : TypeId} {size : Nat} {v : Value} {n : Nat} {xs : List Value} (h : w.ownsRow B e size v n xs) (hb : Below w.heap.size w w') : w'.ownsRow B e size v n xs := by
  refine ⟨h.1, ?_⟩
  rcases h.2 with h1 | ⟨g, cap, cur, rfl, hg, hh, hnc, hm, h2, h3⟩
  · exact .inl h1
  · have hl : g < w.heap.size := by
      rcases Nat.lt_or_ge g w.heap.size with h4 | h4
      · exact h4
      · rw [Array.getElem?_eq_none h4] at hh; cases hh
    exact .inr ⟨g, cap, cur, rfl, hg, (hb.block g hl).trans hh, hnc, hm, h2, h3⟩
theorem own_mono {w : World} {B B' : Nat} {e : TypeId} {size : Nat} {v : Value} {n : Nat} {xs : List Value} (h : w.ownsRow B e size v n xs) (hB : B' ≤ B) : w.ownsRow B' e size v n xs :=
  ⟨h.1, h.2.imp id fun ⟨g, cap, cur, h1, h2, h3⟩ => ⟨g, cap, cur, h1, Nat.le_trans hB h2, h3⟩⟩
end Go.Proofs.YtobbodbkdcbflaaDoor
