/- The walks of spec's lookups: l2Find, l2Dir. Conditions: lists are no longer than any list can be. -/
import Derived.Test.YtkhbkhibjflgmaaDoorTreeOk
namespace Go.Proofs.YtkhbkhibjflgmaaDoor
open Go.RowKit
/-- Where a path stands, or -1. -/
def findE (xs : List En) (q : ByteArray) : Option Nat := xs.findIdx? fun e => e.p.data.toList == q.data.toList
abbrev findV : Option Nat → Int
  | some k => (k : Int)
  | none => -1
theorem findE_at (xs : List En) (q : ByteArray) (k : Nat) (e : En) (he : xs[k]? = some e) (h : ∀ (j : Nat) (f : En), j < k → xs[j]? = some f → f.p.data.toList ≠ q.data.toList) (hq : e.p.data.toList = q.data.toList) : findE xs q = some k := by
  obtain ⟨h1, h2⟩ := List.getElem?_eq_some_iff.1 he
  unfold findE
  rw [List.findIdx?_eq_some_iff_getElem]
  refine ⟨h1, by rw [h2]; simpa using hq, fun j hj => ?_⟩
  have := h j _ hj (List.getElem?_eq_getElem (by omega))
  simpa using this
theorem findE_none (xs : List En) (q : ByteArray) (h : ∀ (j : Nat) (f : En), xs[j]? = some f → f.p.data.toList ≠ q.data.toList) : findE xs q = none := by
  unfold findE
  rw [List.findIdx?_eq_none_iff]
  intro e he
  obtain ⟨j, hj⟩ := List.getElem?_of_mem he
  have := h j e hj
  simpa using this
theorem findE_get (xs : List En) (q : ByteArray) : getE xs q = match findE xs q with
    | some k => xs[k]?
    | none => none := by
  cases hf : findE xs q with
  | none =>
    unfold findE at hf
    rw [List.findIdx?_eq_none_iff] at hf
    exact getE_none xs q fun j f hj => by have := hf f (List.mem_of_getElem? hj); simpa using this
  | some k =>
    unfold findE at hf
    rw [List.findIdx?_eq_some_iff_getElem] at hf
    obtain ⟨h1, h2, h3⟩ := hf
    rw [getE_skip xs q k xs[k] (List.getElem?_eq_getElem h1) (fun j f hj hf => by
      obtain ⟨h4, h5⟩ := List.getElem?_eq_some_iff.1 hf
      have := h3 j hj
      rw [h5] at this
      simpa using this), if_pos (by simpa using h2)]
    exact (List.getElem?_eq_getElem h1).symm
theorem findE_lt (xs : List En) (q : ByteArray) (k : Nat) (h : findE xs q = some k) : ∃ e, xs[k]? = some e ∧ getE xs q = some e := by
  have hg := findE_get xs q
  rw [h] at hg
  unfold findE at h
  rw [List.findIdx?_eq_some_iff_getElem] at h
  obtain ⟨h1, _⟩ := h
  exact ⟨xs[k], List.getElem?_eq_getElem h1, by rw [hg]; exact List.getElem?_eq_getElem h1⟩
set_option maxHeartbeats 2000000 in
theorem l2Find_c (a : Option Addr) (c : Nat) (xs : List En) (q : ByteArray) (o : Option Nat) (ho : Hid (findE xs q = o)) (w : World) (hs : SlF En.cells w a xs) (hx : xs.length ≤ maxLen) :
    Calls Tryd.prog 118 #[.slice a xs.length c, .string q] w fun r w' => r = .returned (.int .i64 (findV o)) ∧ w = w' := by
  obtain ⟨n, hn⟩ : ∃ n, xs.length = n := ⟨_, rfl⟩
  rw [hn] at hx ⊢
  unfold maxLen at hx
  have HN := Lib.hid hn
  have HS := Lib.hid hs
  clear hn hs
  go_enter Tryd.func118, Tryd.ntmps118
  go_wp2
  go_loop [5] (fun i => ∃ k : Nat, k ≤ n ∧ i = .int .i64 k ∧ (∀ (j : Nat) (f : En), j < k → xs[j]? = some f → f.p.data.toList ≠ q.data.toList)) (fun i => n - (intOf i).toNat)
  case atStart => exact ⟨0, Nat.zero_le _, rfl, fun j _ h => absurd h (by omega)⟩
  case round =>
    obtain ⟨k, hk, rfl, hall⟩ := hrel
    have HA := Lib.hid hall
    clear hall
    by_cases hlt : k < n
    · obtain ⟨e, hee⟩ : ∃ e, xs[k]? = some e := ⟨_, List.getElem?_eq_getElem (by rw [HN.out]; exact hlt)⟩
      have h2 := HS.out
      obtain ⟨b, off, rfl, _⟩ := h2.addr (by rw [HN.out]; omega)
      obtain ⟨c0, c1, c2⟩ := en_at h2 k e hee
      have HEE := Lib.hid hee
      clear h2 hee
      by_cases heq : e.p.data.toList = q.data.toList
      · have hq := beqs_yes heq
        obtain rfl : o = some k := by rw [← ho.out]; exact findE_at xs q k e HEE.out HA.out heq
        clear heq
        go_wp2
        go_ret
        exact ⟨rfl, rfl⟩
      · have hq := beqs_no heq
        have HQ := Lib.hid heq
        clear heq
        go_wp2
        go_round
        case rel => exact ⟨k + 1, by omega, by go_num, fun j f hj hf => by
          by_cases ej : j = k
          · subst ej
            rw [HEE.out] at hf
            injection hf with hf
            exact hf ▸ HQ.out
          · exact HA.out j f (by omega) hf⟩
        case measure => simp [intOf]; omega
    · obtain rfl : o = none := by
        rw [← ho.out]
        exact findE_none xs q (fun j f hf => HA.out j f (by have := (List.getElem?_eq_some_iff.1 hf).1; rw [HN.out] at this; omega) hf)
      go_wp2
      go_ret
      exact ⟨rfl, rfl⟩
/-- Is there a directory, or is it the root. -/
def dirE (xs : List En) (q : ByteArray) : Bool := q.data.toList == [47] || match getE xs q with
  | some e => e.d
  | none => false
set_option maxHeartbeats 2000000 in
theorem l2Dir_c (a : Option Addr) (c : Nat) (xs : List En) (q : ByteArray) (r : Bool) (hr : Hid (dirE xs q = r)) (w : World) (hs : SlF En.cells w a xs) (hx : xs.length ≤ maxLen) :
    Calls Tryd.prog 74 #[.slice a xs.length c, .string q] w fun e w' => e = .returned (.bool r) ∧ w = w' := by
  obtain ⟨o, ho⟩ : ∃ o, findE xs q = o := ⟨_, rfl⟩
  have HC := Lib.hid (l2Find_c a c xs q o (Lib.hid ho) w hs hx)
  have hg := findE_get xs q
  rw [ho] at hg
  obtain ⟨n, hn⟩ : ∃ n, xs.length = n := ⟨_, rfl⟩
  rw [hn] at HC hx ⊢
  unfold maxLen at hx
  by_cases hq : q.data.toList = [47]
  · obtain rfl : r = true := by rw [← hr.out, dirE, hq]; rfl
    have hq1 := beq_yes hq
    clear hg ho hn hs hq
    go_enter Tryd.func74, Tryd.ntmps74
    go_wp2
    go_ret
    exact ⟨rfl, rfl⟩
  · have hq1 := beq_no hq
    cases o with
    | none =>
      obtain rfl : r = false := by rw [← hr.out, dirE, hg]; simpa using hq
      clear hg ho hn hs hq
      go_enter Tryd.func74, Tryd.ntmps74
      go_wp2_with fail
      refine HC.out.mono ?_; rintro e W ⟨rfl, rfl⟩
      go_wp2
      go_ret
      exact ⟨rfl, rfl⟩
    | some k =>
      obtain ⟨e, he, hge⟩ := findE_lt xs q k ho
      obtain ⟨b, off, rfl, _⟩ := hs.addr (by have := (List.getElem?_eq_some_iff.1 he).1; omega)
      obtain ⟨c0, c1, c2⟩ := en_at hs k e he
      have hkn : k < n := by rw [← hn]; exact (List.getElem?_eq_some_iff.1 he).1
      obtain rfl : r = e.d := by
        rw [← hr.out, dirE, hge]
        have : (q.data.toList == [47]) = false := by simpa using hq
        rw [this]; rfl
      clear hg ho hn hs hq he hge
      go_enter Tryd.func74, Tryd.ntmps74
      go_wp2_with fail
      refine HC.out.mono ?_; rintro q' W ⟨rfl, rfl⟩
      go_wp2
      go_ret
      exact ⟨rfl, rfl⟩
end Go.Proofs.YtkhbkhibjflgmaaDoor
