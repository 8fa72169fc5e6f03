/- The walk of impl.TreeOk. Conditions: lists and texts are no longer than any can be. -/
import Derived.Test.YtkhbkhibjflgmaaDoorTreeW
import Derived.Deep.QuietTactic
import Derived.BigQuiet
namespace Go.Proofs.YtkhbkhibjflgmaaDoor
open Go.RowKit
theorem isE_no' {s : ByteArray} (h : s.data.toList ≠ []) : s.toList.isEmpty = false := by
  rw [Lib.toList_data]
  cases hs : s.data.toList with
  | nil => exact absurd hs h
  | cons _ _ => rfl
theorem isE_yes' {s : ByteArray} (h : s.data.toList = []) : s.toList.isEmpty = true := by rw [Lib.toList_data, h]; rfl
/-- What the program asks of the entry at place k. -/
def AskE (xs : List En) (k : Nat) (e : En) : Prop := AskI (xs.map En.pl) k e.pl
theorem tok_E (xs : List En) : TOk (xs.map En.pl) ↔ xs.length ≤ 16 ∧ ∀ (k : Nat) (e : En), xs[k]? = some e → AskE xs k e := by
  rw [tok_iff, List.length_map]
  constructor
  · rintro ⟨h1, h2⟩
    exact ⟨h1, fun k e he => h2 k e.pl (by simp [he])⟩
  · rintro ⟨h1, h2⟩
    refine ⟨h1, fun k e he => ?_⟩
    rw [List.getElem?_map, Option.map_eq_some_iff] at he
    obtain ⟨f, hf, rfl⟩ := he
    exact h2 k f hf
theorem drw {B : Nat} {a w : World} (h : Below B a w) (n : Nat) : Below B a (w.drewN n) := ⟨h.os, h.tape, h.output, h.size, h.block⟩
theorem less_of' (a b : ByteArray) : Op.bytesLess a.toList b.toList = Op.bytesLess a.data.toList b.data.toList := by rw [Lib.toList_data, Lib.toList_data]
theorem ask_at (xs : List En) (k : Nat) (f e : En) (hf : xs[k]? = some f) (h1 : entOkL e.pl = true) (h2 : Op.bytesLess f.p.toList e.p.toList = true) (h3 : upCodeL (xs.map En.pl) e.p.data.toList = 0) : AskE xs (k + 1) e := by
  refine ⟨h1, fun g _ hg => ?_, h3⟩
  rw [Nat.add_sub_cancel, List.getElem?_map, hf] at hg
  injection hg with hg
  rw [← hg]
  rw [less_of'] at h2
  exact h2
theorem ask_less (xs : List En) (k : Nat) (f e : En) (hf : xs[k]? = some f) (h : AskE xs (k + 1) e) : Op.bytesLess f.p.toList e.p.toList = true := by
  have := h.2.1 f.pl (by omega) (by rw [Nat.add_sub_cancel, List.getElem?_map, hf]; rfl)
  rw [less_of']
  exact this
set_option maxHeartbeats 4000000 in
theorem treeOk_c (a : Option Addr) (c : Nat) (xs : List En) (r : Bool) (hr : Hid (r = true ↔ TOk (xs.map En.pl))) (w : World) (hs : SlF En.cells w a xs) (hx : xs.length ≤ maxLen) (hz : ∀ e ∈ xs, e.p.size ≤ maxLen ∧ e.x.size ≤ maxLen) :
    Calls Tryd.prog 22 #[.slice a xs.length c] w fun q w' => q = .returned (.bool r) ∧ Below w.heap.size w w' := by
  have hR : Hid (r = true ↔ xs.length ≤ 16 ∧ ∀ (k : Nat) (e : En), xs[k]? = some e → AskE xs k e) := by rw [Hid, hr.out, tok_E]
  have HU := fun (q : ByteArray) (m : Nat) (hm : Hid (upCodeL (xs.map En.pl) q.data.toList = m)) (W : World) (h : SlF En.cells W a xs) hq => Lib.hid (upCode_c a c xs q m hm W h hx hq)
  have HZ := Lib.hid hz
  have HS := Lib.hid hs
  obtain ⟨n, hn⟩ : ∃ n, xs.length = n := ⟨_, rfl⟩
  have HN := Lib.hid hn
  rw [hn] at hR hx HU ⊢
  unfold maxLen at hx
  have GU := Lib.hid HU
  clear hn hz hs hr HU
  by_cases h16 : 16 < n
  · obtain rfl : r = false := by
      cases r
      · rfl
      · have := hR.out.1 rfl; omega
    go_enter Tryd.func22, Tryd.ntmps22
    go_wp2
    go_ret
    exact ⟨rfl, Below.refl _ _⟩
  have hno : Hid (∀ (k : Nat) (e : En), xs[k]? = some e → ¬ AskE xs k e → r = false) := fun k e he hne => by
    cases r
    · rfl
    · exact absurd ((hR.out.1 rfl).2 k e he) hne
  go_enter Tryd.func22, Tryd.ntmps22
  go_wp2
  go_loopw [3, 4, 10] (fun _ _ i wr => ∃ k : Nat, k ≤ n ∧ i = .int .i64 k ∧ (∀ (j : Nat) (e : En), j < k → xs[j]? = some e → AskE xs j e) ∧ Below w.heap.size w wr) (fun _ _ i _ => n - (intOf i).toNat)
  case atStart => exact ⟨0, Nat.zero_le _, rfl, fun j _ h => absurd h (by omega), Below.refl _ _⟩
  case round =>
    obtain ⟨k, hk, rfl, hall, hb⟩ := hrel
    have HA := Lib.hid hall
    clear hall
    by_cases hlt : k < n
    · obtain ⟨e, hee⟩ : ∃ e, xs[k]? = some e := ⟨_, List.getElem?_eq_getElem (by rw [HN.out]; exact hlt)⟩
      have h2 := (HS.out.below hb)
      obtain ⟨b, off, rfl, _⟩ := h2.addr (by rw [HN.out]; omega)
      obtain ⟨d0, d1, d2⟩ := en_at h2 k e hee
      have hzz := HZ.out e (List.mem_of_getElem? hee)
      have HNO := Lib.hid (fun h => hno.out k e hee h)
      have HEE := Lib.hid hee
      have c0 := new_cell wr #[.string e.p, .bool e.d, .string e.x] 30 0 _ rfl
      have c1 := new_cell wr #[.string e.p, .bool e.d, .string e.x] 30 1 _ rfl
      have c2 := new_cell wr #[.string e.p, .bool e.d, .string e.x] 30 2 _ rfl
      replace hb := hb.alloc hb.size (.cells #[.string e.p, .bool e.d, .string e.x] 30)
      obtain ⟨p1, hp1⟩ : ∃ x, pathOkL e.p.data.toList = x := ⟨_, rfl⟩
      obtain ⟨p2, hp2⟩ : ∃ x, dataOkL e.x.data.toList = x := ⟨_, rfl⟩
      have H1 := Lib.hid hp1
      have H2 := Lib.hid hp2
      have h3 := h2
      clear h2 hee
      cases p1 with
      | false =>
        obtain rfl : r = false := HNO.out (fun h => by have := h.1; simp [entOkL, En.pl, hp1] at this)
        clear hp1 hp2
        go_wp2_with fail
        refine (pathOk_c e.p false H1 _ hzz.1).mono ?_; rintro e W ⟨rfl, hq⟩; replace hb := chn hb hq; clear hq
        go_wp2
        go_ret
        exact ⟨rfl, hb⟩
      | true =>
      cases p2 with
      | false =>
        obtain rfl : r = false := HNO.out (fun h => by have := h.1; simp [entOkL, En.pl, hp2] at this)
        clear hp1 hp2
        go_wp2_with fail
        refine (pathOk_c e.p true H1 _ hzz.1).mono ?_; rintro e W ⟨rfl, hq⟩; replace hb := chn hb hq; replace c0 := keepc hq c0; replace c1 := keepc hq c1; replace c2 := keepc hq c2; clear hq
        go_wp2_with fail
        refine (dataOk_c e.x false H2 _ hzz.2).mono ?_; rintro q W ⟨rfl, rfl⟩
        go_wp2
        go_ret
        exact ⟨rfl, hb⟩
      | true =>
      by_cases hdx : e.d = true ∧ e.x.data.toList ≠ []
      · obtain rfl : r = false := HNO.out (fun h => by have := h.1; simp [entOkL, En.pl, hdx.1] at this; exact hdx.2 (by rw [this.2]))
        have q1 := isE_no' hdx.2
        obtain ⟨ep, ed, ex⟩ := e
        obtain rfl : ed = true := hdx.1
        clear hp1 hp2 hdx
        go_wp2_with fail
        refine (pathOk_c ep true H1 _ hzz.1).mono ?_; rintro e W ⟨rfl, hq⟩; replace hb := chn hb hq; replace c0 := keepc hq c0; replace c1 := keepc hq c1; replace c2 := keepc hq c2; clear hq
        go_wp2_with fail
        refine (dataOk_c ex true H2 _ hzz.2).mono ?_; rintro q W ⟨rfl, rfl⟩
        go_wp2
        go_ret
        exact ⟨rfl, hb⟩
      · have hent : entOkL e.pl = true := by
          simp only [entOkL, En.pl, hp1, hp2, Bool.and_true, Bool.true_and, Bool.or_eq_true, Bool.not_eq_true', beq_iff_eq]
          by_cases hd : e.d = true
          · exact .inr (Classical.byContradiction fun h => hdx ⟨hd, h⟩)
          · exact .inl (by simpa using hd)
        have HENT := Lib.hid hent
        obtain ⟨m, hm⟩ : ∃ m, upCodeL (xs.map En.pl) e.p.data.toList = m := ⟨_, rfl⟩
        have HM := Lib.hid hm
        have hd1 : e.d = false ∨ (e.d = true ∧ e.x.toList.isEmpty = true) := by
          by_cases hd : e.d = true
          · exact .inr ⟨hd, isE_yes' (Classical.byContradiction fun h => hdx ⟨hd, h⟩)⟩
          · exact .inl (by simpa using hd)
        clear hp1 hp2 hdx hent
        obtain ⟨ep, ed, ex⟩ := e
        cases k with
        | zero =>
          rw [Nat.zero_mul, Nat.add_zero] at d0 d1 d2
          rcases hd1 with hd | ⟨hd, q1⟩ <;> obtain rfl : ed = _ := hd
          all_goals
            go_wp2_with fail
            refine (pathOk_c ep true H1 _ hzz.1).mono ?_; rintro e W ⟨rfl, hq⟩; replace hb := chn hb hq; replace c0 := keepc hq c0; replace c1 := keepc hq c1; replace c2 := keepc hq c2; clear hq
            go_wp2_with fail
            refine (dataOk_c ex true H2 _ hzz.2).mono ?_; rintro q W ⟨rfl, rfl⟩
            go_wp2_with fail
            go_quiet (fail)
            go_wp2_with fail
            refine (GU.out ep m HM _ (HS.out.below (drw hb _)) hzz.1).out.mono ?_; rintro q W2 ⟨rfl, hq⟩
            replace hb := chn (drw hb _) hq
            clear hq c0 c1 c2 d0 d1 d2
            by_cases hm0 : m = 0
            · subst hm0
              go_wp2
              go_roundw
              case rel => exact ⟨1, by omega, by go_num, fun j f hj hf => by
                by_cases ej : j = 0
                · subst ej
                  rw [HEE.out] at hf
                  injection hf with hf
                  rw [← hf]
                  exact ⟨HENT.out, fun _ h _ => absurd h (by omega), HM.out⟩
                · exact HA.out j f (by omega) hf, hb⟩
              case measure => simp [intOf]; omega
            · obtain rfl : r = false := HNO.out (fun h => hm0 (by rw [← HM.out]; exact h.2.2))
              go_wp2
              go_ret
              exact ⟨rfl, hb⟩
        | succ k =>
          obtain ⟨f, hff⟩ : ∃ f, xs[k]? = some f := ⟨_, List.getElem?_eq_getElem (by rw [HN.out]; omega)⟩
          obtain ⟨c3, _, _⟩ := en_at h3 k f hff
          replace c3 := keepc (bellow_alloc wr (.cells #[.string ep, .bool ed, .string ex] 30)) c3
          have HFF := Lib.hid hff
          clear hff h3
          by_cases hle : Op.bytesLess f.p.toList ep.toList = true
          · have HLE := Lib.hid hle
            rcases hd1 with hd | ⟨hd, q1⟩ <;> obtain rfl : ed = _ := hd
            all_goals
              go_wp2_with fail
              refine (pathOk_c ep true H1 _ hzz.1).mono ?_; rintro e W ⟨rfl, hq⟩; replace hb := chn hb hq; replace c0 := keepc hq c0; replace c1 := keepc hq c1; replace c2 := keepc hq c2; replace c3 := keepc hq c3; clear hq
              go_wp2_with fail
              refine (dataOk_c ex true H2 _ hzz.2).mono ?_; rintro q W ⟨rfl, rfl⟩
              go_wp2_with fail
              go_quiet (fail)
              go_wp2_with fail
              refine (GU.out ep m HM _ (HS.out.below (drw hb _)) hzz.1).out.mono ?_; rintro q W2 ⟨rfl, hq⟩
              replace hb := chn (drw hb _) hq
              clear hq c0 c1 c2 c3 d0 d1 d2 hle
              by_cases hm0 : m = 0
              · subst hm0
                go_wp2
                go_roundw
                case rel => exact ⟨k + 1 + 1, by omega, by go_num, fun j g hj hg => by
                  by_cases ej : j = k + 1
                  · subst ej
                    rw [HEE.out] at hg
                    injection hg with hg
                    rw [← hg]
                    exact ask_at xs k f _ HFF.out HENT.out HLE.out HM.out
                  · exact HA.out j g (by omega) hg, hb⟩
                case measure => simp [intOf]; omega
              · obtain rfl : r = false := HNO.out (fun h => hm0 (by rw [← HM.out]; exact h.2.2))
                go_wp2
                go_ret
                exact ⟨rfl, hb⟩
          · have hle' : Op.bytesLess f.p.toList ep.toList = false := by simpa using hle
            obtain rfl : r = false := HNO.out (fun h => hle (ask_less xs k f _ HFF.out h))
            clear hle
            rcases hd1 with hd | ⟨hd, q1⟩ <;> obtain rfl : ed = _ := hd
            all_goals
              go_wp2_with fail
              refine (pathOk_c ep true H1 _ hzz.1).mono ?_; rintro e W ⟨rfl, hq⟩; replace hb := chn hb hq; replace c0 := keepc hq c0; replace c1 := keepc hq c1; replace c2 := keepc hq c2; replace c3 := keepc hq c3; clear hq
              go_wp2_with fail
              refine (dataOk_c ex true H2 _ hzz.2).mono ?_; rintro q W ⟨rfl, rfl⟩
              go_wp2_with fail
              go_quiet (fail)
              go_wp2
              go_ret
              exact ⟨rfl, drw hb _⟩
    · obtain rfl : r = true := hR.out.2 ⟨by omega, fun j e he => HA.out j e (by have := (List.getElem?_eq_some_iff.1 he).1; rw [HN.out] at this; omega) he⟩
      go_wp2
      go_ret
      exact ⟨rfl, hb⟩
end Go.Proofs.YtkhbkhibjflgmaaDoor
