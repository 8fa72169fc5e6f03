/- The walks of what holds two lists against one another. Conditions: lists are short enough to be counted. -/
import Derived.Test.YtkhbkhibjflgmaaDoorConv
import Derived.Deep.RegionHeld3
namespace Go.Proofs.YtkhbkhibjflgmaaDoor
open Go.RowKit
theorem bq_yes {s t : ByteArray} (h : s = t) : (s.toList == t.toList) = true := by subst h; simp
theorem bq_no {s t : ByteArray} (h : s ≠ t) : (s.toList == t.toList) = false := by
  rw [beq_eq_false_iff_ne]
  intro e
  refine h (bytes_eq ?_)
  rw [ByteArray.toList_eq, ByteArray.toList_eq] at e
  exact e
set_option maxHeartbeats 1000000 in
theorem eqEnt_c (e f : En) (r : Bool) (hr : Hid (r = true ↔ e = f)) (w : World) :
    Calls Tryd.prog 26 #[e.val, f.val] w fun q w' => q = .returned (.bool r) ∧ Below w.heap.size w w' := by
  obtain ⟨p, d, x⟩ := e
  obtain ⟨p', d', x'⟩ := f
  by_cases h1 : p = p'
  · subst h1
    by_cases h2 : d = d'
    · subst h2
      by_cases h3 : x = x'
      · subst h3
        obtain rfl : r = true := hr.out.2 rfl
        clear hr
        cases d
        all_goals
          go_enter Tryd.func26, Tryd.ntmps26
          go_wp2
          go_ret
          exact ⟨rfl, by repeat (first | exact Below.refl _ _ | refine Below.alloc ?_ (by simp; try omega) _)⟩
      · obtain rfl : r = false := by
          cases r
          · rfl
          · have := hr.out.1 rfl; injection this; contradiction
        have q := bq_no h3
        clear hr h3
        cases d
        all_goals
          go_enter Tryd.func26, Tryd.ntmps26
          go_wp2
          go_ret
          exact ⟨rfl, by repeat (first | exact Below.refl _ _ | refine Below.alloc ?_ (by simp; try omega) _)⟩
    · obtain rfl : r = false := by
        cases r
        · rfl
        · have := hr.out.1 rfl; injection this; contradiction
      clear hr
      cases d <;> cases d'
      · exact absurd rfl h2
      · clear h2
        go_enter Tryd.func26, Tryd.ntmps26
        go_wp2
        go_ret
        exact ⟨rfl, by repeat (first | exact Below.refl _ _ | refine Below.alloc ?_ (by simp; try omega) _)⟩
      · clear h2
        go_enter Tryd.func26, Tryd.ntmps26
        go_wp2
        go_ret
        exact ⟨rfl, by repeat (first | exact Below.refl _ _ | refine Below.alloc ?_ (by simp; try omega) _)⟩
      · exact absurd rfl h2
  · obtain rfl : r = false := by
      cases r
      · rfl
      · have := hr.out.1 rfl; injection this; contradiction
    have q := bq_no h1
    clear hr h1
    go_enter Tryd.func26, Tryd.ntmps26
    go_wp2
    go_ret
    exact ⟨rfl, by repeat (first | exact Below.refl _ _ | refine Below.alloc ?_ (by simp; try omega) _)⟩
set_option maxHeartbeats 1000000 in
theorem eqMark_c (e f : Mk) (r : Bool) (hr : Hid (r = true ↔ e = f)) (w : World) :
    Calls Tryd.prog 89 #[e.val, f.val] w fun q w' => q = .returned (.bool r) ∧ Below w.heap.size w w' := by
  obtain ⟨p, d, x⟩ := e
  obtain ⟨p', d', x'⟩ := f
  by_cases h1 : p = p'
  · subst h1
    by_cases h2 : d = d'
    · subst h2
      by_cases h3 : x = x'
      · subst h3
        obtain rfl : r = true := hr.out.2 rfl
        clear hr
        go_enter Tryd.func89, Tryd.ntmps89
        go_wp2
        go_ret
        exact ⟨rfl, by repeat (first | exact Below.refl _ _ | refine Below.alloc ?_ (by simp; try omega) _)⟩
      · obtain rfl : r = false := by
          cases r
          · rfl
          · have := hr.out.1 rfl; injection this; contradiction
        have q := bq_no h3
        clear hr h3
        go_enter Tryd.func89, Tryd.ntmps89
        go_wp2
        go_ret
        exact ⟨rfl, by repeat (first | exact Below.refl _ _ | refine Below.alloc ?_ (by simp; try omega) _)⟩
    · obtain rfl : r = false := by
        cases r
        · rfl
        · have := hr.out.1 rfl; injection this; contradiction
      have q : (d != d') = true := by rw [bne_iff_ne]; exact h2
      have q2 : (d == d') = false := by rw [beq_eq_false_iff_ne]; exact h2
      clear hr h2
      go_enter Tryd.func89, Tryd.ntmps89
      go_wp2
      go_ret
      exact ⟨rfl, by repeat (first | exact Below.refl _ _ | refine Below.alloc ?_ (by simp; try omega) _)⟩
  · obtain rfl : r = false := by
      cases r
      · rfl
      · have := hr.out.1 rfl; injection this; contradiction
    have q := bq_no h1
    clear hr h1
    go_enter Tryd.func89, Tryd.ntmps89
    go_wp2
    go_ret
    exact ⟨rfl, by repeat (first | exact Below.refl _ _ | refine Below.alloc ?_ (by simp; try omega) _)⟩
/-- Lists that are not one part at a place, or in their length. -/
theorem differ {α : Type} {xs ys : List α} (h : xs.length = ys.length) (hk : ∀ (k : Nat) (x y : α), xs[k]? = some x → ys[k]? = some y → x = y) : xs = ys := by
  apply List.ext_getElem?
  intro k
  by_cases h1 : k < xs.length
  · have e1 : xs[k]? = some xs[k] := List.getElem?_eq_getElem h1
    have e2 : ys[k]? = some (ys[k]'(by omega)) := List.getElem?_eq_getElem (by omega)
    rw [e1, e2, hk k _ _ e1 e2]
  · rw [List.getElem?_eq_none (by omega), List.getElem?_eq_none (by omega)]
set_option maxHeartbeats 1000000 in
theorem eqEntS_c (a a' : Option Addr) (c c' : Nat) (xs ys : List En) (r : Bool) (hr : Hid (r = true ↔ xs = ys)) (w : World) (hs : SlF En.cells w a xs) (hs' : SlF En.cells w a' ys) (hx : xs.length ≤ maxLen) (_hy : ys.length ≤ maxLen) :
    Calls Tryd.prog 23 #[.slice a xs.length c, .slice a' ys.length c'] w fun q w' => q = .returned (.bool r) ∧ Below w.heap.size w w' := by
  unfold maxLen at hx _hy
  by_cases hl : xs.length = ys.length
  · obtain ⟨n, hn⟩ : ∃ n, xs.length = n := ⟨_, rfl⟩
    have hn' : ys.length = n := by rw [← hl, hn]
    rw [hn] at hx ⊢
    rw [hn']
    have HN := Lib.hid hn
    have HN' := Lib.hid hn'
    have HS := Lib.hid hs
    have HS' := Lib.hid hs'
    have HE := Lib.hid (fun (h : ∀ (k : Nat) (x y : En), xs[k]? = some x → ys[k]? = some y → x = y) => differ hl h)
    clear hl hn hn' hs hs' _hy
    go_enter Tryd.func23, Tryd.ntmps23
    go_wp2
    go_loopw [5] (fun i wr => ∃ k : Nat, k ≤ n ∧ i = .int .i64 k ∧ (∀ (j : Nat) (x y : En), j < k → xs[j]? = some x → ys[j]? = some y → x = y) ∧ Below w.heap.size w wr) (fun i _ => n - (intOf i).toNat)
    case atStart => exact ⟨0, Nat.zero_le _, rfl, fun j _ _ h => absurd h (by omega), Below.refl _ _⟩
    case round =>
      obtain ⟨k, hk, rfl, hall, hb⟩ := hrel
      have HA := Lib.hid hall
      clear hall
      by_cases hlt : k < n
      · obtain ⟨e, hee⟩ : ∃ e, xs[k]? = some e := ⟨_, List.getElem?_eq_getElem (by rw [HN.out]; exact hlt)⟩
        obtain ⟨f, hff⟩ : ∃ e, ys[k]? = some e := ⟨_, List.getElem?_eq_getElem (by rw [HN'.out]; exact hlt)⟩
        have h2 := (HS.out.below hb)
        have h3 := (HS'.out.below hb)
        obtain ⟨b, off, rfl, _⟩ := h2.addr (by rw [HN.out]; omega)
        obtain ⟨b', off', rfl, _⟩ := h3.addr (by rw [HN'.out]; omega)
        obtain ⟨c0, c1, c2⟩ := en_at h2 k e hee
        obtain ⟨d0, d1, d2⟩ := en_at h3 k f hff
        have HEE := Lib.hid hee
        have HFF := Lib.hid hff
        clear h2 h3 hee hff
        by_cases hef : e = f
        · subst hef
          have i0 : (0 : Int) ≤ (k : Int) := by omega
          have i1 : (k : Int) < (n : Int) := by omega
          go_wp2_with fail
          go_region_held3 (fun w' => w'.cell? ⟨b, off + k * 3, none⟩ = some (.string e.p) ∧ w'.cell? ⟨b, off + k * 3 + 1, none⟩ = some (.bool e.d) ∧ w'.cell? ⟨b, off + k * 3 + 2, none⟩ = some (.string e.x) ∧ w'.cell? ⟨b', off' + k * 3, none⟩ = some (.string e.p) ∧ w'.cell? ⟨b', off' + k * 3 + 1, none⟩ = some (.bool e.d) ∧ w'.cell? ⟨b', off' + k * 3 + 2, none⟩ = some (.string e.x)) (first | go_keep | exact ⟨keepc hq c0, keepc hq c1, keepc hq c2, keepc hq d0, keepc hq d1, keepc hq d2⟩) (first | (go_at_call 26; refine (eqEnt_c e e true (Lib.hid ⟨fun _ => rfl, fun _ => rfl⟩) _).mono ?_; rintro q W ⟨rfl, hq⟩))
          have hb' := chn hb.drew hq
          clear hq hb c0 c1 c2 d0 d1 d2
          go_wp2
          go_roundw
          case rel => exact ⟨k + 1, by omega, by go_num, fun j x y hj h1 h2 => by
            by_cases ej : j = k
            · subst ej
              rw [HEE.out] at h1
              rw [HFF.out] at h2
              injection h1 with h1; injection h2 with h2
              rw [← h1, ← h2]
            · exact HA.out j x y (by omega) h1 h2, hb'⟩
          case measure => simp [intOf]; omega
        · obtain rfl : r = false := by
            cases r
            · rfl
            · have := hr.out.1 rfl
              rw [this, HFF.out] at HEE
              exact absurd (Option.some.inj HEE.out).symm hef
          have HF : Hid (false = true ↔ e = f) := Lib.hid (Iff.intro (fun h => by cases h) (fun h => absurd h hef))
          clear hef
          have i0 : (0 : Int) ≤ (k : Int) := by omega
          have i1 : (k : Int) < (n : Int) := by omega
          go_wp2_with fail
          go_region_held3 (fun w' => w'.cell? ⟨b, off + k * 3, none⟩ = some (.string e.p) ∧ w'.cell? ⟨b, off + k * 3 + 1, none⟩ = some (.bool e.d) ∧ w'.cell? ⟨b, off + k * 3 + 2, none⟩ = some (.string e.x) ∧ w'.cell? ⟨b', off' + k * 3, none⟩ = some (.string f.p) ∧ w'.cell? ⟨b', off' + k * 3 + 1, none⟩ = some (.bool f.d) ∧ w'.cell? ⟨b', off' + k * 3 + 2, none⟩ = some (.string f.x)) (first | go_keep | exact ⟨keepc hq c0, keepc hq c1, keepc hq c2, keepc hq d0, keepc hq d1, keepc hq d2⟩) (first | (go_at_call 26; refine (eqEnt_c e f false HF _).mono ?_; rintro q W ⟨rfl, hq⟩))
          have hb' := chn hb.drew hq
          clear hq hb c0 c1 c2 d0 d1 d2
          go_wp2
          go_ret
          exact ⟨rfl, hb'⟩
      · obtain rfl : r = true := hr.out.2 (HE.out (fun j x y h1 h2 => HA.out j x y (by
          have := (List.getElem?_eq_some_iff.1 h1).1
          rw [HN.out] at this; omega) h1 h2))
        go_wp2
        go_ret
        exact ⟨rfl, hb⟩
  · obtain rfl : r = false := by
      cases r
      · rfl
      · exact absurd (congrArg List.length (hr.out.1 rfl)) hl
    obtain ⟨n, hn⟩ : ∃ n, xs.length = n := ⟨_, rfl⟩
    obtain ⟨n', hn'⟩ : ∃ n, ys.length = n := ⟨_, rfl⟩
    rw [hn, hn'] at hl
    rw [hn] at hx ⊢
    rw [hn'] at _hy ⊢
    have q : ((n : Int) != (n' : Int)) = true := by rw [bne_iff_ne]; omega
    clear hr hs hs' hn hn' hl
    go_enter Tryd.func23, Tryd.ntmps23
    go_wp2
    go_ret
    exact ⟨rfl, Below.refl _ _⟩
set_option maxHeartbeats 1000000 in
theorem eqMarkS_c (a a' : Option Addr) (c c' : Nat) (xs ys : List Mk) (r : Bool) (hr : Hid (r = true ↔ xs = ys)) (w : World) (hs : SlF Mk.cells w a xs) (hs' : SlF Mk.cells w a' ys) (hx : xs.length ≤ maxLen) (_hy : ys.length ≤ maxLen) :
    Calls Tryd.prog 31 #[.slice a xs.length c, .slice a' ys.length c'] w fun q w' => q = .returned (.bool r) ∧ Below w.heap.size w w' := by
  unfold maxLen at hx _hy
  by_cases hl : xs.length = ys.length
  · obtain ⟨n, hn⟩ : ∃ n, xs.length = n := ⟨_, rfl⟩
    have hn' : ys.length = n := by rw [← hl, hn]
    rw [hn] at hx ⊢
    rw [hn']
    have HN := Lib.hid hn
    have HN' := Lib.hid hn'
    have HS := Lib.hid hs
    have HS' := Lib.hid hs'
    have HE := Lib.hid (fun (h : ∀ (k : Nat) (x y : Mk), xs[k]? = some x → ys[k]? = some y → x = y) => differ hl h)
    clear hl hn hn' hs hs' _hy
    go_enter Tryd.func31, Tryd.ntmps31
    go_wp2
    go_loopw [5] (fun i wr => ∃ k : Nat, k ≤ n ∧ i = .int .i64 k ∧ (∀ (j : Nat) (x y : Mk), j < k → xs[j]? = some x → ys[j]? = some y → x = y) ∧ Below w.heap.size w wr) (fun i _ => n - (intOf i).toNat)
    case atStart => exact ⟨0, Nat.zero_le _, rfl, fun j _ _ h => absurd h (by omega), Below.refl _ _⟩
    case round =>
      obtain ⟨k, hk, rfl, hall, hb⟩ := hrel
      have HA := Lib.hid hall
      clear hall
      by_cases hlt : k < n
      · obtain ⟨e, hee⟩ : ∃ e, xs[k]? = some e := ⟨_, List.getElem?_eq_getElem (by rw [HN.out]; exact hlt)⟩
        obtain ⟨f, hff⟩ : ∃ e, ys[k]? = some e := ⟨_, List.getElem?_eq_getElem (by rw [HN'.out]; exact hlt)⟩
        have h2 := (HS.out.below hb)
        have h3 := (HS'.out.below hb)
        obtain ⟨b, off, rfl, _⟩ := h2.addr (by rw [HN.out]; omega)
        obtain ⟨b', off', rfl, _⟩ := h3.addr (by rw [HN'.out]; omega)
        obtain ⟨c0, c1, c2⟩ := mk_at h2 k e hee
        obtain ⟨d0, d1, d2⟩ := mk_at h3 k f hff
        have HEE := Lib.hid hee
        have HFF := Lib.hid hff
        clear h2 h3 hee hff
        by_cases hef : e = f
        · subst hef
          have i0 : (0 : Int) ≤ (k : Int) := by omega
          have i1 : (k : Int) < (n : Int) := by omega
          go_wp2_with fail
          go_region_held3 (fun w' => w'.cell? ⟨b, off + k * 3, none⟩ = some (.string e.p) ∧ w'.cell? ⟨b, off + k * 3 + 1, none⟩ = some (.int .i64 e.k) ∧ w'.cell? ⟨b, off + k * 3 + 2, none⟩ = some (.string e.x) ∧ w'.cell? ⟨b', off' + k * 3, none⟩ = some (.string e.p) ∧ w'.cell? ⟨b', off' + k * 3 + 1, none⟩ = some (.int .i64 e.k) ∧ w'.cell? ⟨b', off' + k * 3 + 2, none⟩ = some (.string e.x)) (first | go_keep | exact ⟨keepc hq c0, keepc hq c1, keepc hq c2, keepc hq d0, keepc hq d1, keepc hq d2⟩) (first | (go_at_call 89; refine (eqMark_c e e true (Lib.hid ⟨fun _ => rfl, fun _ => rfl⟩) _).mono ?_; rintro q W ⟨rfl, hq⟩))
          have hb' := chn hb.drew hq
          clear hq hb c0 c1 c2 d0 d1 d2
          go_wp2
          go_roundw
          case rel => exact ⟨k + 1, by omega, by go_num, fun j x y hj h1 h2 => by
            by_cases ej : j = k
            · subst ej
              rw [HEE.out] at h1
              rw [HFF.out] at h2
              injection h1 with h1; injection h2 with h2
              rw [← h1, ← h2]
            · exact HA.out j x y (by omega) h1 h2, hb'⟩
          case measure => simp [intOf]; omega
        · obtain rfl : r = false := by
            cases r
            · rfl
            · have := hr.out.1 rfl
              rw [this, HFF.out] at HEE
              exact absurd (Option.some.inj HEE.out).symm hef
          have HF : Hid (false = true ↔ e = f) := Lib.hid (Iff.intro (fun h => by cases h) (fun h => absurd h hef))
          clear hef
          have i0 : (0 : Int) ≤ (k : Int) := by omega
          have i1 : (k : Int) < (n : Int) := by omega
          go_wp2_with fail
          go_region_held3 (fun w' => w'.cell? ⟨b, off + k * 3, none⟩ = some (.string e.p) ∧ w'.cell? ⟨b, off + k * 3 + 1, none⟩ = some (.int .i64 e.k) ∧ w'.cell? ⟨b, off + k * 3 + 2, none⟩ = some (.string e.x) ∧ w'.cell? ⟨b', off' + k * 3, none⟩ = some (.string f.p) ∧ w'.cell? ⟨b', off' + k * 3 + 1, none⟩ = some (.int .i64 f.k) ∧ w'.cell? ⟨b', off' + k * 3 + 2, none⟩ = some (.string f.x)) (first | go_keep | exact ⟨keepc hq c0, keepc hq c1, keepc hq c2, keepc hq d0, keepc hq d1, keepc hq d2⟩) (first | (go_at_call 89; refine (eqMark_c e f false HF _).mono ?_; rintro q W ⟨rfl, hq⟩))
          have hb' := chn hb.drew hq
          clear hq hb c0 c1 c2 d0 d1 d2
          go_wp2
          go_ret
          exact ⟨rfl, hb'⟩
      · obtain rfl : r = true := hr.out.2 (HE.out (fun j x y h1 h2 => HA.out j x y (by
          have := (List.getElem?_eq_some_iff.1 h1).1
          rw [HN.out] at this; omega) h1 h2))
        go_wp2
        go_ret
        exact ⟨rfl, hb⟩
  · obtain rfl : r = false := by
      cases r
      · rfl
      · exact absurd (congrArg List.length (hr.out.1 rfl)) hl
    obtain ⟨n, hn⟩ : ∃ n, xs.length = n := ⟨_, rfl⟩
    obtain ⟨n', hn'⟩ : ∃ n, ys.length = n := ⟨_, rfl⟩
    rw [hn, hn'] at hl
    rw [hn] at hx ⊢
    rw [hn'] at _hy ⊢
    have q : ((n : Int) != (n' : Int)) = true := by rw [bne_iff_ne]; omega
    clear hr hs hs' hn hn' hl
    go_enter Tryd.func31, Tryd.ntmps31
    go_wp2
    go_ret
    exact ⟨rfl, Below.refl _ _⟩
end Go.Proofs.YtkhbkhibjflgmaaDoor
