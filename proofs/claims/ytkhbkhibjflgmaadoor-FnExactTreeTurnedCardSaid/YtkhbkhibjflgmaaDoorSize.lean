/- The walks of what counts the size of entries and of marks. Conditions: texts are no longer than any text can be. -/
import Derived.Test.YtkhbkhibjflgmaaDoorRec
namespace Go.Proofs.YtkhbkhibjflgmaaDoor
open Go.RowKit
set_option maxHeartbeats 1000000 in
theorem szEnt_yes (e : En) (l : Int) (hl : l ≤ 2000000) (h : (enW e : Int) ≤ l) (w : World) :
    Calls Tryd.prog 71 #[e.val, .int .i64 l] w fun r w' => r = .returned (.int .i64 (l - enW e)) ∧ Below w.heap.size w w' := by
  obtain ⟨p, d, x⟩ := e
  simp only [enW] at h ⊢
  have hh : (p.size : Int) + x.size ≤ l := by omega
  have he : Hid (l - (p.size : Int) - x.size = l - ((p.size + x.size : Nat) : Int)) := by rw [Hid]; omega
  clear h
  go_enter Tryd.func71, Tryd.ntmps71
  go_wp2
  go_ret
  exact ⟨ret_int he.out, bellow_alloc _ _⟩
set_option maxHeartbeats 1000000 in
theorem szEnt_no (e : En) (l : Int) (hl : l ≤ 2000000) (hl0 : 0 ≤ l) (h : l < (enW e : Int)) (w : World) (hp : e.p.size ≤ maxLen) (hx : e.x.size ≤ maxLen) :
    Calls Tryd.prog 71 #[e.val, .int .i64 l] w fun r w' => r = .returned (.int .i64 (-1)) ∧ Below w.heap.size w w' := by
  obtain ⟨p, d, x⟩ := e
  simp only [enW] at h hp hx ⊢
  unfold maxLen at hp hx
  have hh : l < (p.size : Int) + x.size := by omega
  clear h
  by_cases h1 : l < (p.size : Int)
  · go_enter Tryd.func71, Tryd.ntmps71
    go_wp2
    go_ret
    exact ⟨rfl, bellow_alloc _ _⟩
  · go_enter Tryd.func71, Tryd.ntmps71
    go_wp2
    go_ret
    exact ⟨rfl, bellow_alloc _ _⟩
set_option maxHeartbeats 1000000 in
theorem szEntS_yes (a : Option Addr) (c : Nat) (xs : List En) (l : Int) (hl : l ≤ 2000000) (h : (xs.length : Int) + sumW enW xs ≤ l) (w : World) (hs : SlF En.cells w a xs) :
    Calls Tryd.prog 19 #[.slice a xs.length c, .int .i64 l] w fun r w' => r = .returned (.int .i64 (l - xs.length - sumW enW xs)) ∧ Below w.heap.size w w' := by
  obtain ⟨n, hn⟩ : ∃ n, xs.length = n := ⟨_, rfl⟩
  rw [hn] at h ⊢
  have HN := Lib.hid hn
  have HS := Lib.hid hs
  clear hn hs
  go_enter Tryd.func19, Tryd.ntmps19
  go_wp2
  go_loopw [1, 5] (fun lv i wr => ∃ k : Nat, k ≤ n ∧ i = .int .i64 k ∧ lv = .int .i64 (l - n - sumW enW (xs.take k)) ∧ Below w.heap.size w wr) (fun _ i _ => n - (intOf i).toNat)
  case atStart => exact ⟨0, Nat.zero_le _, rfl, by simp [sumW], Below.refl _ _⟩
  case round =>
    obtain ⟨k, hk, rfl, rfl, hb⟩ := hrel
    by_cases hlt : k < n
    · have hkx : k < xs.length := by rw [HN.out]; exact hlt
      have he : xs[k]? = some xs[k] := List.getElem?_eq_getElem hkx
      obtain ⟨e, hee⟩ : ∃ e, xs[k]? = some e := ⟨_, he⟩
      have hst := sumW_take enW xs k e hee
      have hle := sumW_le enW xs (k + 1)
      obtain ⟨S, hS⟩ : ∃ S, sumW enW (xs.take k) = S := ⟨_, rfl⟩
      rw [hS] at hst
      rw [hS]
      have h2 := (HS.out.below hb)
      obtain ⟨b, off, rfl, _⟩ := h2.addr (by omega)
      obtain ⟨c0, c1, c2⟩ := en_at h2 k e hee
      have hge : (enW e : Int) ≤ l - n - S := by omega
      have HST := Lib.hid hst
      have HL : 0 ≤ l - (n : Int) - S := by omega
      have HL2 : 0 ≤ l - (n : Int) - S - enW e := by omega
      clear h2 hle he hee hS hst
      go_wp2_with fail
      refine (szEnt_yes e _ (by omega) hge _).mono ?_; rintro r W ⟨rfl, hq⟩; have hb' := chn hb hq
      clear hq hb c0 c1 c2
      go_wp2
      go_roundw
      case rel => exact ⟨k + 1, by omega, by go_num, congrArg (Value.int .i64) (by have := HST.out; omega), hb'⟩
      case measure => simp [intOf]; omega
    · obtain rfl : k = n := by omega
      have hfin : Hid (sumW enW (xs.take k) = sumW enW xs) := by rw [Hid, ← HN.out, List.take_length]
      go_wp2
      go_ret
      exact ⟨ret_int (by rw [hfin.out]), hb⟩
set_option maxHeartbeats 1000000 in
theorem szEntS_no (a : Option Addr) (c : Nat) (xs : List En) (l : Int) (hl : l ≤ 2000000) (hl0 : 0 ≤ l) (h : l < (xs.length : Int) + sumW enW xs) (w : World) (hs : SlF En.cells w a xs) (hn63 : xs.length ≤ maxLen)
    (hsz : ∀ e ∈ xs, e.p.size ≤ maxLen ∧ e.x.size ≤ maxLen) :
    Calls Tryd.prog 19 #[.slice a xs.length c, .int .i64 l] w fun r w' => r = .returned (.int .i64 (-1)) ∧ Below w.heap.size w w' := by
  obtain ⟨n, hn⟩ : ∃ n, xs.length = n := ⟨_, rfl⟩
  rw [hn] at h hn63 ⊢
  unfold maxLen at hn63
  have HN := Lib.hid hn
  have HS := Lib.hid hs
  have HZ := Lib.hid hsz
  clear hn hs hsz
  by_cases hbig : l < (n : Int)
  · clear h
    go_enter Tryd.func19, Tryd.ntmps19
    go_wp2
    go_ret
    exact ⟨rfl, Below.refl _ _⟩
  have H := Lib.hid h
  clear h
  go_enter Tryd.func19, Tryd.ntmps19
  go_wp2
  go_loopw [1, 5] (fun lv i wr => ∃ k : Nat, k ≤ n ∧ i = .int .i64 k ∧ lv = .int .i64 (l - n - sumW enW (xs.take k)) ∧ (n : Int) + sumW enW (xs.take k) ≤ l ∧ Below w.heap.size w wr) (fun _ i _ => n - (intOf i).toNat)
  case atStart => exact ⟨0, Nat.zero_le _, rfl, by simp [sumW], by simp [sumW]; omega, Below.refl _ _⟩
  case round =>
    obtain ⟨k, hk, rfl, rfl, hsum, hb⟩ := hrel
    by_cases hlt : k < n
    · have hkx : k < xs.length := by rw [HN.out]; exact hlt
      have he : xs[k]? = some xs[k] := List.getElem?_eq_getElem hkx
      obtain ⟨e, hee⟩ : ∃ e, xs[k]? = some e := ⟨_, he⟩
      have hst := sumW_take enW xs k e hee
      have hmem := HZ.out e (List.mem_of_getElem? hee)
      obtain ⟨S, hS⟩ : ∃ S, sumW enW (xs.take k) = S := ⟨_, rfl⟩
      rw [hS] at hst hsum
      rw [hS]
      have h2 := (HS.out.below hb)
      obtain ⟨b, off, rfl, _⟩ := h2.addr (by omega)
      obtain ⟨c0, c1, c2⟩ := en_at h2 k e hee
      have HST := Lib.hid hst
      have HL : 0 ≤ l - (n : Int) - S := by omega
      clear h2 he hee hS hst
      by_cases hge : (enW e : Int) ≤ l - n - S
      · have HL2 : 0 ≤ l - (n : Int) - S - enW e := by omega
        go_wp2_with fail
        refine (szEnt_yes e _ (by omega) hge _).mono ?_; rintro r W ⟨rfl, hq⟩; have hb' := chn hb hq
        clear hq hb c0 c1 c2
        go_wp2
        go_roundw
        case rel => exact ⟨k + 1, by omega, by go_num, congrArg (Value.int .i64) (by have := HST.out; omega), by have := HST.out; omega, hb'⟩
        case measure => simp [intOf]; omega
      · go_wp2_with fail
        refine (szEnt_no e _ (by omega) HL (by omega) _ hmem.1 hmem.2).mono ?_; rintro r W ⟨rfl, hq⟩; have hb' := chn hb hq
        clear hq hb c0 c1 c2
        go_wp2
        go_ret
        exact ⟨rfl, hb'⟩
    · exfalso
      obtain rfl : k = n := by omega
      have hfin : sumW enW (xs.take k) = sumW enW xs := by rw [← HN.out, List.take_length]
      have := H.out
      omega
set_option maxHeartbeats 1000000 in
theorem szMark_yes (e : Mk) (l : Int) (hl : l ≤ 2000000) (h : (mkW e : Int) ≤ l) (w : World) :
    Calls Tryd.prog 81 #[e.val, .int .i64 l] w fun r w' => r = .returned (.int .i64 (l - mkW e)) ∧ Below w.heap.size w w' := by
  obtain ⟨p, d, x⟩ := e
  simp only [mkW] at h ⊢
  have hh : (p.size : Int) + x.size ≤ l := by omega
  have he : Hid (l - (p.size : Int) - x.size = l - ((p.size + x.size : Nat) : Int)) := by rw [Hid]; omega
  clear h
  go_enter Tryd.func81, Tryd.ntmps81
  go_wp2
  go_ret
  exact ⟨ret_int he.out, bellow_alloc _ _⟩
set_option maxHeartbeats 1000000 in
theorem szMark_no (e : Mk) (l : Int) (hl : l ≤ 2000000) (hl0 : 0 ≤ l) (h : l < (mkW e : Int)) (w : World) (hp : e.p.size ≤ maxLen) (hx : e.x.size ≤ maxLen) :
    Calls Tryd.prog 81 #[e.val, .int .i64 l] w fun r w' => r = .returned (.int .i64 (-1)) ∧ Below w.heap.size w w' := by
  obtain ⟨p, d, x⟩ := e
  simp only [mkW] at h hp hx ⊢
  unfold maxLen at hp hx
  have hh : l < (p.size : Int) + x.size := by omega
  clear h
  by_cases h1 : l < (p.size : Int)
  · go_enter Tryd.func81, Tryd.ntmps81
    go_wp2
    go_ret
    exact ⟨rfl, bellow_alloc _ _⟩
  · go_enter Tryd.func81, Tryd.ntmps81
    go_wp2
    go_ret
    exact ⟨rfl, bellow_alloc _ _⟩
set_option maxHeartbeats 1000000 in
theorem szMarkS_yes (a : Option Addr) (c : Nat) (xs : List Mk) (l : Int) (hl : l ≤ 2000000) (h : (xs.length : Int) + sumW mkW xs ≤ l) (w : World) (hs : SlF Mk.cells w a xs) :
    Calls Tryd.prog 27 #[.slice a xs.length c, .int .i64 l] w fun r w' => r = .returned (.int .i64 (l - xs.length - sumW mkW xs)) ∧ Below w.heap.size w w' := by
  obtain ⟨n, hn⟩ : ∃ n, xs.length = n := ⟨_, rfl⟩
  rw [hn] at h ⊢
  have HN := Lib.hid hn
  have HS := Lib.hid hs
  clear hn hs
  go_enter Tryd.func27, Tryd.ntmps27
  go_wp2
  go_loopw [1, 5] (fun lv i wr => ∃ k : Nat, k ≤ n ∧ i = .int .i64 k ∧ lv = .int .i64 (l - n - sumW mkW (xs.take k)) ∧ Below w.heap.size w wr) (fun _ i _ => n - (intOf i).toNat)
  case atStart => exact ⟨0, Nat.zero_le _, rfl, by simp [sumW], Below.refl _ _⟩
  case round =>
    obtain ⟨k, hk, rfl, rfl, hb⟩ := hrel
    by_cases hlt : k < n
    · have hkx : k < xs.length := by rw [HN.out]; exact hlt
      have he : xs[k]? = some xs[k] := List.getElem?_eq_getElem hkx
      obtain ⟨e, hee⟩ : ∃ e, xs[k]? = some e := ⟨_, he⟩
      have hst := sumW_take mkW xs k e hee
      have hle := sumW_le mkW xs (k + 1)
      obtain ⟨S, hS⟩ : ∃ S, sumW mkW (xs.take k) = S := ⟨_, rfl⟩
      rw [hS] at hst
      rw [hS]
      have h2 := (HS.out.below hb)
      obtain ⟨b, off, rfl, _⟩ := h2.addr (by omega)
      obtain ⟨c0, c1, c2⟩ := mk_at h2 k e hee
      have hge : (mkW e : Int) ≤ l - n - S := by omega
      have HST := Lib.hid hst
      have HL : 0 ≤ l - (n : Int) - S := by omega
      have HL2 : 0 ≤ l - (n : Int) - S - mkW e := by omega
      clear h2 hle he hee hS hst
      go_wp2_with fail
      refine (szMark_yes e _ (by omega) hge _).mono ?_; rintro r W ⟨rfl, hq⟩; have hb' := chn hb hq
      clear hq hb c0 c1 c2
      go_wp2
      go_roundw
      case rel => exact ⟨k + 1, by omega, by go_num, congrArg (Value.int .i64) (by have := HST.out; omega), hb'⟩
      case measure => simp [intOf]; omega
    · obtain rfl : k = n := by omega
      have hfin : Hid (sumW mkW (xs.take k) = sumW mkW xs) := by rw [Hid, ← HN.out, List.take_length]
      go_wp2
      go_ret
      exact ⟨ret_int (by rw [hfin.out]), hb⟩
set_option maxHeartbeats 1000000 in
theorem szMarkS_no (a : Option Addr) (c : Nat) (xs : List Mk) (l : Int) (hl : l ≤ 2000000) (hl0 : 0 ≤ l) (h : l < (xs.length : Int) + sumW mkW xs) (w : World) (hs : SlF Mk.cells w a xs) (hn63 : xs.length ≤ maxLen)
    (hsz : ∀ e ∈ xs, e.p.size ≤ maxLen ∧ e.x.size ≤ maxLen) :
    Calls Tryd.prog 27 #[.slice a xs.length c, .int .i64 l] w fun r w' => r = .returned (.int .i64 (-1)) ∧ Below w.heap.size w w' := by
  obtain ⟨n, hn⟩ : ∃ n, xs.length = n := ⟨_, rfl⟩
  rw [hn] at h hn63 ⊢
  unfold maxLen at hn63
  have HN := Lib.hid hn
  have HS := Lib.hid hs
  have HZ := Lib.hid hsz
  clear hn hs hsz
  by_cases hbig : l < (n : Int)
  · clear h
    go_enter Tryd.func27, Tryd.ntmps27
    go_wp2
    go_ret
    exact ⟨rfl, Below.refl _ _⟩
  have H := Lib.hid h
  clear h
  go_enter Tryd.func27, Tryd.ntmps27
  go_wp2
  go_loopw [1, 5] (fun lv i wr => ∃ k : Nat, k ≤ n ∧ i = .int .i64 k ∧ lv = .int .i64 (l - n - sumW mkW (xs.take k)) ∧ (n : Int) + sumW mkW (xs.take k) ≤ l ∧ Below w.heap.size w wr) (fun _ i _ => n - (intOf i).toNat)
  case atStart => exact ⟨0, Nat.zero_le _, rfl, by simp [sumW], by simp [sumW]; omega, Below.refl _ _⟩
  case round =>
    obtain ⟨k, hk, rfl, rfl, hsum, hb⟩ := hrel
    by_cases hlt : k < n
    · have hkx : k < xs.length := by rw [HN.out]; exact hlt
      have he : xs[k]? = some xs[k] := List.getElem?_eq_getElem hkx
      obtain ⟨e, hee⟩ : ∃ e, xs[k]? = some e := ⟨_, he⟩
      have hst := sumW_take mkW xs k e hee
      have hmem := HZ.out e (List.mem_of_getElem? hee)
      obtain ⟨S, hS⟩ : ∃ S, sumW mkW (xs.take k) = S := ⟨_, rfl⟩
      rw [hS] at hst hsum
      rw [hS]
      have h2 := (HS.out.below hb)
      obtain ⟨b, off, rfl, _⟩ := h2.addr (by omega)
      obtain ⟨c0, c1, c2⟩ := mk_at h2 k e hee
      have HST := Lib.hid hst
      have HL : 0 ≤ l - (n : Int) - S := by omega
      clear h2 he hee hS hst
      by_cases hge : (mkW e : Int) ≤ l - n - S
      · have HL2 : 0 ≤ l - (n : Int) - S - mkW e := by omega
        go_wp2_with fail
        refine (szMark_yes e _ (by omega) hge _).mono ?_; rintro r W ⟨rfl, hq⟩; have hb' := chn hb hq
        clear hq hb c0 c1 c2
        go_wp2
        go_roundw
        case rel => exact ⟨k + 1, by omega, by go_num, congrArg (Value.int .i64) (by have := HST.out; omega), by have := HST.out; omega, hb'⟩
        case measure => simp [intOf]; omega
      · go_wp2_with fail
        refine (szMark_no e _ (by omega) HL (by omega) _ hmem.1 hmem.2).mono ?_; rintro r W ⟨rfl, hq⟩; have hb' := chn hb hq
        clear hq hb c0 c1 c2
        go_wp2
        go_ret
        exact ⟨rfl, hb'⟩
    · exfalso
      obtain rfl : k = n := by omega
      have hfin : sumW mkW (xs.take k) = sumW mkW xs := by rw [← HN.out, List.take_length]
      have := H.out
      omega
end Go.Proofs.YtkhbkhibjflgmaaDoor
