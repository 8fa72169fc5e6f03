/- The walks of the reference's functions of paths: names, PathOk, PathLevels, l1Slash, PathUp, PathName. Conditions: a text is no longer than any text can be. -/
import Derived.Test.YtkhbkhibjflgmaaDoorPathF
namespace Go.Proofs.YtkhbkhibjflgmaaDoor
open Go.RowKit
def l1NamesL (l : Bs) : List Bs := if 2 ≤ l.length ∧ l.head? = some 47 then cutL l.tail else []
theorem cut_sum (l : Bs) (h : ∀ n ∈ cutL l, nameOkL n = true) : l.length + 1 ≤ 4 * (cutL l).length := by
  have h1 := flat_cut l
  have h2 := (flat_len h).1
  rw [h1] at h2
  simpa using h2
theorem pathOk_spec (l : Bs) : pathOkL l = true ↔ l.length ≤ 12 ∧ (∀ n ∈ l1NamesL l, nameOkL n = true) ∧ 1 ≤ (l1NamesL l).length ∧ (l1NamesL l).length ≤ 3 := by
  unfold l1NamesL
  constructor
  · intro h
    have h1 := (pathOk_parts l).1 h
    have h2 := path_len h
    rw [if_pos ⟨h2.1, h1.2.1⟩]
    have h3 := cutL_ne l.tail
    refine ⟨h1.1, h1.2.2.2, ?_, h1.2.2.1⟩
    cases hc : cutL l.tail with
    | nil => exact absurd hc h3
    | cons _ _ => simp
  · rintro ⟨h1, h2, h3, h4⟩
    split at h2
    · next hc => rw [if_pos hc] at h3 h4; exact (pathOk_parts l).2 ⟨h1, hc.2, h4, h2⟩
    · next hc => rw [if_neg hc] at h3; simp at h3
def NamesPost (s : ByteArray) (w : World) (e : Ending) (w' : World) : Prop :=
  ∃ (v : Value) (ps : List ByteArray), e = .returned v ∧ ps.map (·.data.toList) = l1NamesL s.data.toList ∧ w'.ownsRow w.heap.size 9 1 v ps.length (ps.map Value.string) ∧ Below w.heap.size w w'
set_option maxHeartbeats 1000000 in
theorem l1Names_c (s : ByteArray) (w : World) (hs : s.size ≤ 12) :
    Calls Tryd.prog 116 #[.string s] w (NamesPost s w) := by
  by_cases h2 : s.size < 2
  · have H : Hid (l1NamesL s.data.toList = []) := by rw [Hid, l1NamesL, if_neg (by rw [size_data]; omega)]
    go_enter Tryd.func116, Tryd.ntmps116
    go_wp2
    go_ret
    exact ⟨_, [], rfl, H.out.symm, World.ownsRow_lit w #[] 0 (Nat.le_refl _) (Nat.zero_le _) rfl, bellow_alloc _ _⟩
  · by_cases h47 : s[0] = 47
    · have hz : (s[0].toNat : Int) = 47 := by rw [h47]; rfl
      have H : Hid (l1NamesL s.data.toList = cutL (s.extract 1 s.size).data.toList) := by
        rw [Hid, l1NamesL, if_pos ⟨by rw [size_data]; omega, by rw [head_of s (by omega), h47]⟩, tail_of]
      clear h47
      have hcs : (s.extract 1 s.size).size ≤ 1000 := by simp; omega
      have HC := Lib.hid (l10Cut_c (s.extract 1 s.size) w hcs)
      clear hcs
      go_enter Tryd.func116, Tryd.ntmps116
      go_wp2_with (go_at_call 141; refine HC.out.mono ?_; rintro e w' ⟨v, ps, rfl, hps, hown, hb⟩; have HPS := Lib.hid hps; clear hps)
      go_ret
      exact ⟨_, ps, rfl, HPS.out.trans H.out.symm, hown, hb⟩
    · have hz : ((s[0].toNat : Int) != 47) = true := by
        rw [bne_iff_ne]; intro h; exact h47 (UInt8.toNat_inj.1 (by simpa using Int.ofNat.inj h))
      have H : Hid (l1NamesL s.data.toList = []) := by
        rw [Hid, l1NamesL, if_neg]
        rw [head_of s (by omega)]
        rintro ⟨_, h⟩
        exact h47 (Option.some.inj h)
      clear h47
      go_enter Tryd.func116, Tryd.ntmps116
      go_wp2
      go_ret
      exact ⟨_, [], rfl, H.out.symm, World.ownsRow_lit w #[] 0 (Nat.le_refl _) (Nat.zero_le _) rfl, bellow_alloc _ _⟩
set_option maxHeartbeats 1000000 in
theorem sPathOk_c (s : ByteArray) (r : Bool) (hr : Hid (pathOkL s.data.toList = r)) (w : World) (hs : s.size ≤ maxLen) :
    Calls Tryd.prog 72 #[.string s] w fun e w' => e = .returned (.bool r) ∧ Below w.heap.size w w' := by
  unfold maxLen at hs
  have HI : Hid (pathOkL s.data.toList = true ↔ s.size ≤ 12 ∧ (∀ n ∈ l1NamesL s.data.toList, nameOkL n = true) ∧ 1 ≤ (l1NamesL s.data.toList).length ∧ (l1NamesL s.data.toList).length ≤ 3) := by
    rw [← size_data]; exact pathOk_spec _
  have hf : Hid (pathOkL s.data.toList ≠ true → r = false) := fun h => by rw [← hr.out]; simpa using h
  by_cases h12 : 12 < s.size
  · obtain rfl : r = false := hf.out (fun h => by have := HI.out.1 h; omega)
    go_enter Tryd.func72, Tryd.ntmps72
    go_wp2
    go_ret
    exact ⟨rfl, Below.refl _ _⟩
  have HC := Lib.hid (l1Names_c s w (by omega))
  go_enter Tryd.func72, Tryd.ntmps72
  go_wp2_with fail
  refine HC.out.mono ?_
  rintro e W ⟨v, ps, rfl, hps, hown, hb⟩
  have hpl : ps.length = (l1NamesL s.data.toList).length := by rw [← hps]; simp
  have hcl : ps.length ≤ 13 := by
    rw [hpl]; unfold l1NamesL
    split
    · have : (cutL s.data.toList.tail).length ≤ s.data.toList.tail.length + 1 := by
        generalize s.data.toList.tail = l
        induction l with
        | nil => simp [cutL]
        | cons x r ih =>
          unfold cutL
          split
          · simp; omega
          · split <;> simp_all; omega
      simp at this; omega
    · simp
  have HA : Hid (∀ j (h : j < ps.length), pathOkL s.data.toList = true → nameOkL ps[j].data.toList = true) := fun j h hp =>
    (HI.out.1 hp).2.1 _ (by rw [← hps]; exact List.mem_map_of_mem (List.getElem_mem h))
  have HB : Hid ((∀ j (h : j < ps.length), nameOkL ps[j].data.toList = true) → 1 ≤ ps.length → ps.length ≤ 3 → r = true) := fun h h1 h3 => by
    rw [← hr.out]
    refine HI.out.2 ⟨by omega, ?_, by omega, by omega⟩
    rw [← hps]
    intro n hn
    obtain ⟨x, hx, rfl⟩ := List.mem_map.1 hn
    obtain ⟨k, hk, rfl⟩ := List.getElem_of_mem hx
    exact h k hk
  have HL : Hid (∀ j (h : j < ps.length), ps[j].size ≤ maxLen) := fun j h => by
    have hm : ps[j].data.toList ∈ l1NamesL s.data.toList := by rw [← hps]; exact List.mem_map_of_mem (List.getElem_mem h)
    unfold l1NamesL at hm
    split at hm
    · have h5 := cut_len hm
      have h6 := size_data s
      have h7 := size_data ps[j]
      have h8 : s.data.toList.tail.length ≤ s.data.toList.length := by simp
      unfold maxLen; omega
    · cases hm
  have HP : Hid (pathOkL s.data.toList = true → 1 ≤ ps.length ∧ ps.length ≤ 3) := fun hp => by
    have := HI.out.1 hp; omega
  clear HI hps hpl hr
  have hread : Hid (0 < ps.length → ∃ g c, v = .slice (some ⟨g, 0, none⟩) ps.length c ∧ ∀ j (h : j < ps.length), W.cell? ⟨g, j, none⟩ = some (.string ps[j])) := fun h0 => by
    obtain ⟨g, c, hv, _, _, _, hc, _⟩ := own_form hown h0
    exact ⟨g, c, hv, fun j h => hc j _ (by simp [h])⟩
  obtain ⟨a, c, rfl⟩ := own_shape hown
  clear hown
  go_wp2
  go_loop [4] (fun i => ∃ k : Nat, k ≤ ps.length ∧ i = .int .i64 k ∧ (∀ j (h : j < ps.length), j < k → nameOkL ps[j].data.toList = true)) (fun i => ps.length - (intOf i).toNat)
  case atStart => exact ⟨0, Nat.zero_le _, rfl, fun j _ h => absurd h (by omega)⟩
  case round =>
    obtain ⟨k, hk, rfl, hall⟩ := hrel
    have HA2 := Lib.hid hall; clear hall
    by_cases hlt : k < ps.length
    · obtain ⟨g, c', hv, hcells⟩ := hread.out (by omega)
      injection hv with hv1 _ hv3
      subst hv1
      have hc := hcells k hlt
      have hsz := HL.out k hlt
      clear hcells hv3
      cases hn : nameOkL ps[k].data.toList with
      | true =>
        have HN := Lib.hid hn; clear hn
        go_wp2_with (go_at_call 117; refine (l1Name_c _ true HN _ hsz).mono ?_; rintro e w' ⟨rfl, rfl⟩)
        go_round
        case rel => exact ⟨k + 1, by omega, by go_num, fun j hj h => by
          by_cases e : j = k
          · subst e; exact HN.out
          · exact HA2.out j hj (by omega)⟩
        case measure => simp [intOf]; omega
      | false =>
        obtain rfl : r = false := hf.out (fun hp => by rw [HA.out k hlt hp] at hn; cases hn)
        have HN := Lib.hid hn; clear hn
        go_wp2_with (go_at_call 117; refine (l1Name_c _ false HN _ hsz).mono ?_; rintro e w' ⟨rfl, rfl⟩)
        go_ret
        exact ⟨rfl, hb⟩
    · by_cases h1 : 1 ≤ ps.length
      · by_cases h3 : ps.length ≤ 3
        · obtain rfl : r = true := HB.out (fun j h => HA2.out j h (by omega)) h1 h3
          go_wp2
          go_ret
          exact ⟨ret_bool (by simp; try omega), hb⟩
        · obtain rfl : r = false := hf.out (fun hp => by have := HP.out hp; omega)
          go_wp2
          go_ret
          exact ⟨ret_bool (by simp; try omega), hb⟩
      · obtain rfl : r = false := hf.out (fun hp => by have := HP.out hp; omega)
        go_wp2
        go_ret
        exact ⟨ret_bool (by simp; try omega), hb⟩

/-- Where the last stroke is: a text of which what is behind it is known. -/
theorem slash_facts (s : ByteArray) (a n : Bs) (h : s.data.toList = a ++ 47 :: n) (hn : (47 : UInt8) ∉ n) :
    a.length < s.size ∧ (∀ k (hk : k < s.size), a.length < k → s[k] ≠ 47) ∧ (∀ hk : a.length < s.size, s[a.length] = 47) := by
  have hz : s.size = a.length + n.length + 1 := by rw [← size_data, h]; simp; omega
  have hg : ∀ k (hk : k < s.size), some s[k] = (a ++ 47 :: n)[k]? := fun k hk => by rw [← h, get_data]
  refine ⟨by omega, ?_, ?_⟩
  · intro k hk hlt he
    have := hg k hk
    rw [List.getElem?_append_right (by omega), he] at this
    obtain ⟨m, hm⟩ : ∃ m, k - a.length = m + 1 := ⟨k - a.length - 1, by omega⟩
    rw [hm, List.getElem?_cons_succ] at this
    exact hn (List.mem_of_getElem? this.symm)
  · intro hk
    have := hg _ hk
    rw [List.getElem?_append_right (by omega)] at this
    simpa using this
set_option maxHeartbeats 1000000 in
theorem l1Slash_c (s : ByteArray) (a n : Bs) (h : Hid (s.data.toList = a ++ 47 :: n)) (hn : (47 : UInt8) ∉ n) (w : World) (hs : s.size ≤ 1000) :
    Calls Tryd.prog 119 #[.string s] w fun e w' => e = .returned (.int .i64 a.length) ∧ w = w' := by
  obtain ⟨h1, h2, h3⟩ := slash_facts s a n h.out hn
  obtain ⟨m, hm⟩ : ∃ m, a.length = m := ⟨_, rfl⟩
  rw [hm] at h1 h2 h3 ⊢
  have H2 := Lib.hid h2
  have H3 := Lib.hid h3
  clear h2 h3 hm hn h
  go_enter Tryd.func119, Tryd.ntmps119
  go_wp2
  go_loop [3] (fun i => ∃ k : Nat, k < s.size ∧ m ≤ k ∧ i = .int .i64 k) (fun i => (intOf i).toNat)
  case atStart => exact ⟨s.size - 1, by omega, by omega, by go_num⟩
  case round =>
    obtain ⟨k, hk, hmk, rfl⟩ := hrel
    by_cases hlt : m < k
    · have hz : ((s[k].toNat : Int) != 47) = true := by
        rw [bne_iff_ne]; intro h; exact H2.out k hk hlt (UInt8.toNat_inj.1 (by simpa using Int.ofNat.inj h))
      go_wp2
      go_round
      case rel => exact ⟨k - 1, by omega, by omega, by go_num⟩
      case measure => simp [intOf]; omega
    · obtain rfl : m = k := by omega
      have hz : ((s[m].toNat : Int) != 47) = false := by rw [H3.out hk]; rfl
      by_cases h0 : m = 0
      · go_wp2
        all_goals
          go_ret
          exact ⟨rfl, rfl⟩
      · go_wp2
        all_goals
          go_ret
          exact ⟨rfl, rfl⟩
end Go.Proofs.YtkhbkhibjflgmaaDoor
