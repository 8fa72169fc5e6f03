/- The walk of the program's TreeTurned. Conditions: lists and texts are no longer than any can be. -/
import Derived.Test.YtkhbkhibjflgmaaDoorKids
import Derived.Test.YtkhbkhibjflgmaaDoorTreeG
import Derived.Test.YtkhbkhibjflgmaaDoorPlU
namespace Go.Proofs.YtkhbkhibjflgmaaDoor
open Go.RowKit
open Classical in
/-- What TreeTurned tells. -/
noncomputable def tturn (a b : List PE) : List Bs := if TOk a ∧ TOk b then turnedL a b else []
theorem tturn_bad {a b : List PE} (h : ¬ (TOk a ∧ TOk b)) : tturn a b = [] := by unfold tturn; rw [if_neg h]
theorem tturn_ok {a b : List PE} (h : TOk a) (h' : TOk b) : tturn a b = turnedL a b := by unfold tturn; rw [if_pos ⟨h, h'⟩]
theorem drop_cons {α : Type} {xs : List α} {k : Nat} {e : α} (h : xs[k]? = some e) : xs.drop k = e :: xs.drop (k + 1) := by
  obtain ⟨h1, h2⟩ := List.getElem?_eq_some_iff.1 h
  rw [List.drop_eq_getElem_cons h1, h2]
/-- What is left to merge at places i, j. -/
def restL (xs ys : List En) (i j : Nat) : List Bs := mergeL ((xs.drop i).map En.pl) ((ys.drop j).map En.pl)
theorem rest_a {xs ys : List En} {i j : Nat} {e : En} (he : xs[i]? = some e) (h : ys[j]? = none ∨ ∃ f, ys[j]? = some f ∧ Op.bytesLess e.p.toList f.p.toList = true) : restL xs ys i j = e.p.data.toList :: restL xs ys (i + 1) j := by
  unfold restL
  rw [drop_cons he]
  rcases h with h | ⟨f, hf, hl⟩
  · have : ys.drop j = [] := List.drop_eq_nil_of_le (by simpa using h)
    rw [this, List.map_cons]
    cases hx : (xs.drop (i + 1)).map En.pl with
    | nil => simp [mergeL, En.pl]
    | cons _ _ => simp [mergeL, En.pl]
  · rw [drop_cons hf, List.map_cons, List.map_cons, mergeL, if_pos (by show Op.bytesLess e.p.data.toList f.p.data.toList = true; rw [← less_of']; exact hl)]
    rfl
theorem rest_b {xs ys : List En} {i j : Nat} {f : En} (hf : ys[j]? = some f) (h : xs[i]? = none ∨ ∃ e, xs[i]? = some e ∧ Op.bytesLess e.p.toList f.p.toList = false ∧ Op.bytesLess f.p.toList e.p.toList = true) : restL xs ys i j = f.p.data.toList :: restL xs ys i (j + 1) := by
  unfold restL
  rw [drop_cons hf]
  rcases h with h | ⟨e, he, hl, hl2⟩
  · have : xs.drop i = [] := List.drop_eq_nil_of_le (by simpa using h)
    rw [this, List.map_cons]
    cases hx : (ys.drop (j + 1)).map En.pl with
    | nil => simp [mergeL, En.pl]
    | cons _ _ => simp [mergeL, En.pl]
  · rw [drop_cons he, List.map_cons, List.map_cons, mergeL, if_neg (by show ¬ Op.bytesLess e.p.data.toList f.p.data.toList = true; rw [← less_of', hl]; simp), if_pos (by show Op.bytesLess f.p.data.toList e.p.data.toList = true; rw [← less_of']; exact hl2)]
    rfl
theorem rest_c1 {xs ys : List En} {i j : Nat} {e : En} (he : xs[i]? = some e) (hf : ys[j]? = some e) : restL xs ys i j = restL xs ys (i + 1) (j + 1) := by
  unfold restL
  have hl : Op.bytesLess e.p.data.toList e.p.data.toList = false := less_irrefl _
  rw [drop_cons he, drop_cons hf, List.map_cons, List.map_cons, mergeL, if_neg (by show ¬ Op.bytesLess e.p.data.toList e.p.data.toList = true; rw [hl]; simp), if_neg (by show ¬ Op.bytesLess e.p.data.toList e.p.data.toList = true; rw [hl]; simp), if_pos rfl]
theorem rest_c2 {xs ys : List En} {i j : Nat} {e f : En} (he : xs[i]? = some e) (hf : ys[j]? = some f) (hp : e.p = f.p) (h : e ≠ f) : restL xs ys i j = e.p.data.toList :: restL xs ys (i + 1) (j + 1) := by
  unfold restL
  have hl : Op.bytesLess e.p.data.toList e.p.data.toList = false := less_irrefl _
  rw [drop_cons he, drop_cons hf, List.map_cons, List.map_cons, mergeL, if_neg (by show ¬ Op.bytesLess e.p.data.toList f.p.data.toList = true; rw [← hp, hl]; simp), if_neg (by show ¬ Op.bytesLess f.p.data.toList e.p.data.toList = true; rw [← hp, hl]; simp), if_neg (fun h' => h (En.pl_inj h'))]
  rfl
theorem same_p {e f : En} (h : Op.bytesLess e.p.toList f.p.toList = false) (h' : Op.bytesLess f.p.toList e.p.toList = false) : e.p = f.p := by
  rw [less_of'] at h h'
  rcases less_total e.p.data.toList f.p.data.toList with h1 | h1 | h1
  · rw [h] at h1; cases h1
  · exact bytes_eq h1
  · rw [h'] at h1; cases h1
theorem rest_end {xs ys : List En} {i j : Nat} (hi : xs.length ≤ i) (hj : ys.length ≤ j) : restL xs ys i j = [] := by
  unfold restL
  rw [List.drop_eq_nil_of_le hi, List.drop_eq_nil_of_le hj]; simp [mergeL]
set_option maxRecDepth 100000 in
set_option maxHeartbeats 8000000 in
theorem treeTurned_c (a a' : Option Addr) (c c' : Nat) (xs ys : List En) (w : World) (hs : SlF En.cells w a xs) (hs' : SlF En.cells w a' ys) (hx : xs.length ≤ maxLen) (hy : ys.length ≤ maxLen) (hz : ∀ e ∈ xs, e.p.size ≤ maxLen ∧ e.x.size ≤ maxLen) (hz' : ∀ e ∈ ys, e.p.size ≤ maxLen ∧ e.x.size ≤ maxLen) :
    Calls Tryd.prog 41 #[.slice a xs.length c, .slice a' ys.length c'] w (MadeSt (tturn (xs.map En.pl) (ys.map En.pl)) w) := by
  have hb := Below.refl w.heap.size w
  have HE := strElt
  obtain ⟨r, hr⟩ := tok_dec xs
  obtain ⟨r', hr'⟩ := tok_dec ys
  have HT := Lib.hid (treeOk_c a c xs r (Lib.hid hr) w hs hx hz)
  have HT' := fun W (h : SlF En.cells W a' ys) => Lib.hid (treeOk_c a' c' ys r' (Lib.hid hr') W h hy hz')
  obtain ⟨L, hL⟩ : ∃ L, tturn (xs.map En.pl) (ys.map En.pl) = L := ⟨_, rfl⟩
  have hx16 : TOk (xs.map En.pl) → xs.length ≤ 16 := fun h => by have := h.most; rw [List.length_map] at this; exact this
  have hy16 : TOk (ys.map En.pl) → ys.length ≤ 16 := fun h => by have := h.most; rw [List.length_map] at this; exact this
  have HLE : Hid (L = [] ∨ (TOk (xs.map En.pl) ∧ TOk (ys.map En.pl) ∧ L = restL xs ys 0 0)) := by
    by_cases h : TOk (xs.map En.pl) ∧ TOk (ys.map En.pl)
    · exact .inr ⟨h.1, h.2, by rw [← hL, tturn_ok h.1 h.2, ← merge_turned h.1.ordP h.2.ordP]; rfl⟩
    · exact .inl (by rw [← hL]; exact tturn_bad h)
  have HLB : Hid (¬ (r = true ∧ r' = true) → L = []) := fun h => by rw [← hL]; exact tturn_bad (fun h' => h ⟨hr.2 h'.1, hr'.2 h'.2⟩)
  have HLO : Hid (r = true → r' = true → L = restL xs ys 0 0) := fun h h' => by rw [← hL, tturn_ok (hr.1 h) (hr'.1 h'), ← merge_turned (hr.1 h).ordP (hr'.1 h').ordP]; rfl
  have HS := Lib.hid hs
  have HS' := Lib.hid hs'
  rw [hL]
  have HB16 : Hid (r = true → r' = true → xs.length ≤ 16 ∧ ys.length ≤ 16) := fun h h' => ⟨hx16 (hr.1 h), hy16 (hr'.1 h')⟩
  obtain ⟨n, hn⟩ : ∃ n, xs.length = n := ⟨_, rfl⟩
  obtain ⟨n', hn'⟩ : ∃ n, ys.length = n := ⟨_, rfl⟩
  have HN := Lib.hid hn
  have HN' := Lib.hid hn'
  rw [hn] at HT HB16 ⊢
  rw [hn'] at HT' HB16 ⊢
  have GT' := Lib.hid HT'
  clear hn hn' hL hs hs' hz hz' hx hy hr hr' HT' hx16 hy16 HLE
  cases r with
  | false =>
    obtain rfl : L = [] := HLB.out (by simp)
    go_enter Tryd.func41, Tryd.ntmps41
    go_wp2_with fail
    refine (HT.out).mono ?_; rintro e W ⟨rfl, hq⟩; replace hb := chn hb hq; clear hq
    go_wp2
    go_ret
    exact ⟨_, [], rfl, rfl, World.ownsRow_nil _ _ _ _, hb⟩
  | true =>
  cases r' with
  | false =>
    obtain rfl : L = [] := HLB.out (by simp)
    go_enter Tryd.func41, Tryd.ntmps41
    go_wp2_with fail
    refine (HT.out).mono ?_; rintro e W ⟨rfl, hq⟩; replace hb := chn hb hq; clear hq
    go_wp2_with fail
    refine ((GT'.out _ (HS'.out.below hb)).out).mono ?_; rintro e W ⟨rfl, hq⟩; replace hb := chn hb hq; clear hq
    go_wp2
    go_ret
    exact ⟨_, [], rfl, rfl, World.ownsRow_nil _ _ _ _, hb⟩
  | true =>
    have HLR := Lib.hid (HLO.out rfl rfl)
    obtain ⟨hn16, hn16'⟩ := HB16.out rfl rfl
    clear HLB HLO HB16
    go_enter Tryd.func41, Tryd.ntmps41
    go_wp2_with fail
    refine (HT.out).mono ?_; rintro e W ⟨rfl, hq⟩; replace hb := chn hb hq; clear hq
    go_wp2_with fail
    refine ((GT'.out _ (HS'.out.below hb)).out).mono ?_; rintro e W ⟨rfl, hq⟩; replace hb := chn hb hq; clear hq
    have HB0 := Lib.hid hb
    clear hb
    go_wp2
    go_loopw [5, 6, 7] (fun v i j wr => ∃ (k k' : Nat) (ss : List ByteArray), k ≤ n ∧ k' ≤ n' ∧ ss.length ≤ k + k' ∧ i = .int .i64 k ∧ j = .int .i64 k' ∧ L = ss.map (·.data.toList) ++ restL xs ys k k' ∧ wr.ownsRow w.heap.size 9 1 v ss.length (ss.map Value.string) ∧ Below w.heap.size w wr) (fun _ i j _ => n + n' - (intOf i).toNat - (intOf j).toNat)
    case atStart => exact ⟨0, 0, [], Nat.zero_le _, Nat.zero_le _, Nat.zero_le _, rfl, rfl, HLR.out, World.ownsRow_nil _ _ _ _, HB0.out⟩
    case round =>
      obtain ⟨k, k', ss, hk, hk', hsl, rfl, rfl, hss, hown, hb⟩ := hrel
      have HSS := Lib.hid hss
      clear hss
      have hsw := HS.out.below hb
      have hsw' := HS'.out.below hb
      have i0 : (0 : Int) ≤ (k : Int) := by omega
      have j0 : (0 : Int) ≤ (k' : Int) := by omega
      by_cases hlt : k < n
      · obtain ⟨e, hee⟩ : ∃ e, xs[k]? = some e := ⟨_, List.getElem?_eq_getElem (by rw [HN.out]; exact hlt)⟩
        obtain ⟨b, off, rfl, _⟩ := hsw.addr (by rw [HN.out]; omega)
        obtain ⟨d0, d1, d2⟩ := en_at hsw k e hee
        have i1 : (k : Int) < (n : Int) := by omega
        have i2 : ((k : Int) == (n : Int)) = false := by rw [beq_eq_false_iff_ne]; omega
        by_cases hlt' : k' < n'
        · obtain ⟨f, hff⟩ : ∃ f, ys[k']? = some f := ⟨_, List.getElem?_eq_getElem (by rw [HN'.out]; exact hlt')⟩
          obtain ⟨b', off', rfl, _⟩ := hsw'.addr (by rw [HN'.out]; omega)
          obtain ⟨g0, g1, g2⟩ := en_at hsw' k' f hff
          have j1 : (k' : Int) < (n' : Int) := by omega
          have j2 : ((k' : Int) == (n' : Int)) = false := by rw [beq_eq_false_iff_ne]; omega
          rcases Bool.eq_false_or_eq_true (Op.bytesLess e.p.toList f.p.toList) with hle | hle
          · have HR := Lib.hid (rest_a hee (.inr ⟨f, hff, hle⟩))
            clear hee hff
            go_wp2_with fail
            go_quiet (fail)
            go_wp2_with (at_builtin; go_must (refine wp_app1 (by rfl) _ _ 55 (by rfl) HE w.heap.size w.heap.size w _ #[.string e.p] _ _ _ (by rfl) (by rfl) hown (by rfl) (by simp [Value.oneCell']) (by omega) hb.size (drw hb _) (Nat.le_refl _) ?_); intro v' w1 hown1 hbel1 _ _)
            go_roundw
            case rel => exact ⟨(k+1), k', ss ++ [e.p], by omega, by omega, by simp; omega, by go_num, by go_num, by rw [List.map_append, List.append_assoc, HSS.out, HR.out]; rfl, by simpa using hown1, hbel1⟩
            case measure => simp [intOf]; omega
          · rcases Bool.eq_false_or_eq_true (Op.bytesLess f.p.toList e.p.toList) with hlf | hlf
            · have HR := Lib.hid (rest_b hff (.inr ⟨e, hee, hle, hlf⟩))
              clear hee hff
              go_wp2_with fail
              go_quiet (fail)
              go_wp2_with fail
              go_quiet (fail)
              go_wp2_with (at_builtin; go_must (refine wp_app1 (by rfl) _ _ 55 (by rfl) HE w.heap.size w.heap.size w _ #[.string f.p] _ _ _ (by rfl) (by rfl) hown (by rfl) (by simp [Value.oneCell']) (by omega) hb.size (drw hb _) (Nat.le_refl _) ?_); intro v' w1 hown1 hbel1 _ _)
              go_roundw
              case rel => exact ⟨k, (k'+1), ss ++ [f.p], by omega, by omega, by simp; omega, by go_num, by go_num, by rw [List.map_append, List.append_assoc, HSS.out, HR.out]; rfl, by simpa using hown1, hbel1⟩
              case measure => simp [intOf]; omega
            · have hpp := same_p hle hlf
              by_cases hef : e = f
              · subst hef
                have HR := Lib.hid (rest_c1 hee hff)
                clear hee hff hpp
                go_wp2_with fail
                go_quiet (fail)
                go_wp2_with fail
                go_quiet (fail)
                go_wp2_with fail
                go_quiet (fail)
                go_wp2
                go_roundw
                case rel => exact ⟨k + 1, k' + 1, ss, by omega, by omega, by omega, by go_num, by go_num, by rw [HSS.out, HR.out], hown, drw hb _⟩
                case measure => simp [intOf]; omega
              · have HR := Lib.hid (rest_c2 hee hff hpp hef)
                obtain ⟨p, d, x⟩ := e
                obtain ⟨p', d', x'⟩ := f
                obtain rfl : p = p' := hpp
                simp only at d0 d1 d2 g0 g1 g2 hle hlf
                clear hee hff
                by_cases h2 : d = d'
                · subst h2
                  have q := bq_no (s := x) (t := x') (fun h => hef (by rw [h]))
                  clear hef
                  go_wp2_with fail
                  go_quiet (fail)
                  go_wp2_with fail
                  go_quiet (fail)
                  go_wp2_with fail
                  go_quiet (fail)
                  go_wp2_with (at_builtin; go_must (refine wp_app1 (by rfl) _ _ 55 (by rfl) HE w.heap.size w.heap.size w _ #[.string p] _ _ _ (by rfl) (by rfl) hown (by rfl) (by simp [Value.oneCell']) (by omega) hb.size (drw hb _) (Nat.le_refl _) ?_); intro v' w1 hown1 hbel1 _ _)
                  go_roundw
                  case rel => exact ⟨(k+1), (k'+1), ss ++ [p], by omega, by omega, by simp; omega, by go_num, by go_num, by rw [List.map_append, List.append_assoc, HSS.out, HR.out]; rfl, by simpa using hown1, hbel1⟩
                  case measure => simp [intOf]; omega
                · have q : (d == d') = false := by rw [beq_eq_false_iff_ne]; exact h2
                  clear hef h2
                  go_wp2_with fail
                  go_quiet (fail)
                  go_wp2_with fail
                  go_quiet (fail)
                  go_wp2_with fail
                  go_quiet (fail)
                  go_wp2_with (at_builtin; go_must (refine wp_app1 (by rfl) _ _ 55 (by rfl) HE w.heap.size w.heap.size w _ #[.string p] _ _ _ (by rfl) (by rfl) hown (by rfl) (by simp [Value.oneCell']) (by omega) hb.size (drw hb _) (Nat.le_refl _) ?_); intro v' w1 hown1 hbel1 _ _)
                  go_roundw
                  case rel => exact ⟨(k+1), (k'+1), ss ++ [p], by omega, by omega, by simp; omega, by go_num, by go_num, by rw [List.map_append, List.append_assoc, HSS.out, HR.out]; rfl, by simpa using hown1, hbel1⟩
                  case measure => simp [intOf]; omega
        · obtain rfl : k' = n' := by omega
          have HR := Lib.hid (rest_a (ys := ys) (j := k') hee (.inl (List.getElem?_eq_none (by rw [HN'.out]; omega))))
          clear hee
          go_wp2_with fail
          go_quiet (fail)
          go_wp2_with (at_builtin; go_must (refine wp_app1 (by rfl) _ _ 55 (by rfl) HE w.heap.size w.heap.size w _ #[.string e.p] _ _ _ (by rfl) (by rfl) hown (by rfl) (by simp [Value.oneCell']) (by omega) hb.size (drw hb _) (Nat.le_refl _) ?_); intro v' w1 hown1 hbel1 _ _)
          go_roundw
          case rel => exact ⟨(k+1), k', ss ++ [e.p], by omega, by omega, by simp; omega, by go_num, by go_num, by rw [List.map_append, List.append_assoc, HSS.out, HR.out]; rfl, by simpa using hown1, hbel1⟩
          case measure => simp [intOf]; omega
      · obtain rfl : k = n := by omega
        by_cases hlt' : k' < n'
        · obtain ⟨f, hff⟩ : ∃ f, ys[k']? = some f := ⟨_, List.getElem?_eq_getElem (by rw [HN'.out]; exact hlt')⟩
          obtain ⟨b', off', rfl, _⟩ := hsw'.addr (by rw [HN'.out]; omega)
          obtain ⟨g0, g1, g2⟩ := en_at hsw' k' f hff
          have j1 : (k' : Int) < (n' : Int) := by omega
          have j2 : ((k' : Int) == (n' : Int)) = false := by rw [beq_eq_false_iff_ne]; omega
          have HR := Lib.hid (rest_b (xs := xs) (i := k) hff (.inl (List.getElem?_eq_none (by rw [HN.out]; omega))))
          clear hff
          have dk : decide ((k : Int) < (k : Int)) = false := by simp
          go_wp2_with fail
          go_quiet (fail)
          go_wp2_with fail
          go_quiet (fail)
          go_wp2_with (at_builtin; go_must (refine wp_app1 (by rfl) _ _ 55 (by rfl) HE w.heap.size w.heap.size w _ #[.string f.p] _ _ _ (by rfl) (by rfl) hown (by rfl) (by simp [Value.oneCell']) (by omega) hb.size (drw hb _) (Nat.le_refl _) ?_); intro v' w1 hown1 hbel1 _ _)
          go_roundw
          case rel => exact ⟨k, (k'+1), ss ++ [f.p], by omega, by omega, by simp; omega, by go_num, by go_num, by rw [List.map_append, List.append_assoc, HSS.out, HR.out]; rfl, by simpa using hown1, hbel1⟩
          case measure => simp [intOf]; omega
        · obtain rfl : k' = n' := by omega
          have HF : Hid (ss.map (·.data.toList) = L) := by rw [Hid, HSS.out, rest_end (by rw [HN.out]; omega) (by rw [HN'.out]; omega), List.append_nil]
          go_wp2
          go_ret
          exact ⟨_, ss, rfl, HF.out, hown, hb⟩
end Go.Proofs.YtkhbkhibjflgmaaDoor
