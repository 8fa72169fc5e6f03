/- The walk of the program's TreeTurned. The walks of what marks memory and looks whether the marks still stand; lists of texts held against one another. The walk of the law that what is done changes only what it names: FnTreeTurned. Conditions: each theorem's own. -/
import Derived.Test.YtakbngafhogcbaaGreatDoorB4
import Derived.Test.YtakbngafhogcbaaGreatDoorB3
import Derived.Test.YtakbngafhogcbaaGreatDoorB1
import Derived.Laws.OwnMore
import Derived.Test.YtakbngafhogcbaaGreatDoorB2
import Derived.Deep.QuietTactic
import Derived.BigQuiet
import Derived.Laws.BytesArg
import Derived.Test.YtakbngafhogcbaaGreatDoorB6
namespace Go.Proofs.YtakbngafhogcbaaGreatDoor
open Go.RowKit
open Classical in
/-- What TreeTurned tells. -/
noncomputable def tturn (a b : List PE) : List Bs := if TOk a ∧ TOk b then turnedL a b else []
theorem tturn_bad {a b : List PE} (h : ¬ (TOk a ∧ TOk b)) : tturn a b = [] := by unfold tturn; rw [if_neg h]
theorem tturn_ok {a b : List PE} (h : TOk a) (h' : TOk b) : tturn a b = turnedL a b := by unfold tturn; rw [if_pos ⟨h, h'⟩]
theorem drop_cons {α : Type} {xs : List α} {k : Nat} {e : α} (h : xs[k]? = some e) : xs.drop k = e :: xs.drop (k + 1) := by
  obtain ⟨h1, h2⟩ := List.getElem?_eq_some_iff.1 h
  rw [List.drop_eq_getElem_cons h1, h2]
/-- What is left to merge at places i, j. -/
def restL (xs ys : List En) (i j : Nat) : List Bs := mergeL ((xs.drop i).map En.pl) ((ys.drop j).map En.pl)
theorem rest_a {xs ys : List En} {i j : Nat} {e : En} (he : xs[i]? = some e) (h : ys[j]? = none ∨ ∃ f, ys[j]? = some f ∧ Op.bytesLess e.p.toList f.p.toList = true) : restL xs ys i j = e.p.data.toList :: restL xs ys (i + 1) j := by
  unfold restL
  rw [drop_cons he]
  rcases h with h | ⟨f, hf, hl⟩
  · have : ys.drop j = [] := List.drop_eq_nil_of_le (by simpa using h)
    rw [this, List.map_cons]
    cases hx : (xs.drop (i + 1)).map En.pl with
    | nil => simp [mergeL, En.pl]
    | cons _ _ => simp [mergeL, En.pl]
  · rw [drop_cons hf, List.map_cons, List.map_cons, mergeL, if_pos (by show Op.bytesLess e.p.data.toList f.p.data.toList = true; rw [← less_of']; exact hl)]
    rfl
theorem rest_b {xs ys : List En} {i j : Nat} {f : En} (hf : ys[j]? = some f) (h : xs[i]? = none ∨ ∃ e, xs[i]? = some e ∧ Op.bytesLess e.p.toList f.p.toList = false ∧ Op.bytesLess f.p.toList e.p.toList = true) : restL xs ys i j = f.p.data.toList :: restL xs ys i (j + 1) := by
  unfold restL
  rw [drop_cons hf]
  rcases h with h | ⟨e, he, hl, hl2⟩
  · have : xs.drop i = [] := List.drop_eq_nil_of_le (by simpa using h)
    rw [this, List.map_cons]
    cases hx : (ys.drop (j + 1)).map En.pl with
    | nil => simp [mergeL, En.pl]
    | cons _ _ => simp [mergeL, En.pl]
  · rw [drop_cons he, List.map_cons, List.map_cons, mergeL, if_neg (by show ¬ Op.bytesLess e.p.data.toList f.p.data.toList = true; rw [← less_of', hl]; simp), if_pos (by show Op.bytesLess f.p.data.toList e.p.data.toList = true; rw [← less_of']; exact hl2)]
    rfl
theorem rest_c1 {xs ys : List En} {i j : Nat} {e : En} (he : xs[i]? = some e) (hf : ys[j]? = some e) : restL xs ys i j = restL xs ys (i + 1) (j + 1) := by
  unfold restL
  have hl : Op.bytesLess e.p.data.toList e.p.data.toList = false := less_irrefl _
  rw [drop_cons he, drop_cons hf, List.map_cons, List.map_cons, mergeL, if_neg (by show ¬ Op.bytesLess e.p.data.toList e.p.data.toList = true; rw [hl]; simp), if_neg (by show ¬ Op.bytesLess e.p.data.toList e.p.data.toList = true; rw [hl]; simp), if_pos rfl]
theorem rest_c2 {xs ys : List En} {i j : Nat} {e f : En} (he : xs[i]? = some e) (hf : ys[j]? = some f) (hp : e.p = f.p) (h : e ≠ f) : restL xs ys i j = e.p.data.toList :: restL xs ys (i + 1) (j + 1) := by
  unfold restL
  have hl : Op.bytesLess e.p.data.toList e.p.data.toList = false := less_irrefl _
  rw [drop_cons he, drop_cons hf, List.map_cons, List.map_cons, mergeL, if_neg (by show ¬ Op.bytesLess e.p.data.toList f.p.data.toList = true; rw [← hp, hl]; simp), if_neg (by show ¬ Op.bytesLess f.p.data.toList e.p.data.toList = true; rw [← hp, hl]; simp), if_neg (fun h' => h (En.pl_inj h'))]
  rfl
theorem same_p {e f : En} (h : Op.bytesLess e.p.toList f.p.toList = false) (h' : Op.bytesLess f.p.toList e.p.toList = false) : e.p = f.p := by
  rw [less_of'] at h h'
  rcases less_total e.p.data.toList f.p.data.toList with h1 | h1 | h1
  · rw [h] at h1; cases h1
  · exact bytes_eq h1
  · rw [h'] at h1; cases h1
theorem rest_end {xs ys : List En} {i j : Nat} (hi : xs.length ≤ i) (hj : ys.length ≤ j) : restL xs ys i j = [] := by
  unfold restL
  rw [List.drop_eq_nil_of_le hi, List.drop_eq_nil_of_le hj]; simp [mergeL]
set_option maxRecDepth 100000 in
set_option maxHeartbeats 8000000 in
theorem treeTurned_c (a a' : Option Addr) (c c' : Nat) (xs ys : List En) (w : World) (hs : SlF En.cells w a xs) (hs' : SlF En.cells w a' ys) (hx : xs.length ≤ maxLen) (hy : ys.length ≤ maxLen) (hz : ∀ e ∈ xs, e.p.size ≤ maxLen ∧ e.x.size ≤ maxLen) (hz' : ∀ e ∈ ys, e.p.size ≤ maxLen ∧ e.x.size ≤ maxLen) :
    Calls Tryz.prog 21 #[.slice a xs.length c, .slice a' ys.length c'] w (MadeSt (tturn (xs.map En.pl) (ys.map En.pl)) w) := by
  have hb := Below.refl w.heap.size w
  have HE := strElt
  obtain ⟨r, hr⟩ := tok_dec xs
  obtain ⟨r', hr'⟩ := tok_dec ys
  have HT := Lib.hid (treeOk_c a c xs r (Lib.hid hr) w hs hx hz)
  have HT' := fun W (h : SlF En.cells W a' ys) => Lib.hid (treeOk_c a' c' ys r' (Lib.hid hr') W h hy hz')
  obtain ⟨L, hL⟩ : ∃ L, tturn (xs.map En.pl) (ys.map En.pl) = L := ⟨_, rfl⟩
  have hx16 : TOk (xs.map En.pl) → xs.length ≤ 16 := fun h => by have := h.most; rw [List.length_map] at this; exact this
  have hy16 : TOk (ys.map En.pl) → ys.length ≤ 16 := fun h => by have := h.most; rw [List.length_map] at this; exact this
  have HLE : Hid (L = [] ∨ (TOk (xs.map En.pl) ∧ TOk (ys.map En.pl) ∧ L = restL xs ys 0 0)) := by
    by_cases h : TOk (xs.map En.pl) ∧ TOk (ys.map En.pl)
    · exact .inr ⟨h.1, h.2, by rw [← hL, tturn_ok h.1 h.2, ← merge_turned h.1.ordP h.2.ordP]; rfl⟩
    · exact .inl (by rw [← hL]; exact tturn_bad h)
  have HLB : Hid (¬ (r = true ∧ r' = true) → L = []) := fun h => by rw [← hL]; exact tturn_bad (fun h' => h ⟨hr.2 h'.1, hr'.2 h'.2⟩)
  have HLO : Hid (r = true → r' = true → L = restL xs ys 0 0) := fun h h' => by rw [← hL, tturn_ok (hr.1 h) (hr'.1 h'), ← merge_turned (hr.1 h).ordP (hr'.1 h').ordP]; rfl
  have HS := Lib.hid hs
  have HS' := Lib.hid hs'
  rw [hL]
  have HB16 : Hid (r = true → r' = true → xs.length ≤ 16 ∧ ys.length ≤ 16) := fun h h' => ⟨hx16 (hr.1 h), hy16 (hr'.1 h')⟩
  obtain ⟨n, hn⟩ : ∃ n, xs.length = n := ⟨_, rfl⟩
  obtain ⟨n', hn'⟩ : ∃ n, ys.length = n := ⟨_, rfl⟩
  have HN := Lib.hid hn
  have HN' := Lib.hid hn'
  rw [hn] at HT HB16 ⊢
  rw [hn'] at HT' HB16 ⊢
  have GT' := Lib.hid HT'
  clear hn hn' hL hs hs' hz hz' hx hy hr hr' HT' hx16 hy16 HLE
  cases r with
  | false =>
    obtain rfl : L = [] := HLB.out (by simp)
    go_enter Tryz.func21, Tryz.ntmps21
    go_wp2_with fail
    refine (HT.out).mono ?_; rintro e W ⟨rfl, hq⟩; replace hb := chn hb hq; clear hq
    go_wp2
    go_ret
    exact ⟨_, [], rfl, rfl, World.ownsRow_nil _ _ _ _, hb⟩
  | true =>
  cases r' with
  | false =>
    obtain rfl : L = [] := HLB.out (by simp)
    go_enter Tryz.func21, Tryz.ntmps21
    go_wp2_with fail
    refine (HT.out).mono ?_; rintro e W ⟨rfl, hq⟩; replace hb := chn hb hq; clear hq
    go_wp2_with fail
    refine ((GT'.out _ (HS'.out.below hb)).out).mono ?_; rintro e W ⟨rfl, hq⟩; replace hb := chn hb hq; clear hq
    go_wp2
    go_ret
    exact ⟨_, [], rfl, rfl, World.ownsRow_nil _ _ _ _, hb⟩
  | true =>
    have HLR := Lib.hid (HLO.out rfl rfl)
    obtain ⟨hn16, hn16'⟩ := HB16.out rfl rfl
    clear HLB HLO HB16
    go_enter Tryz.func21, Tryz.ntmps21
    go_wp2_with fail
    refine (HT.out).mono ?_; rintro e W ⟨rfl, hq⟩; replace hb := chn hb hq; clear hq
    go_wp2_with fail
    refine ((GT'.out _ (HS'.out.below hb)).out).mono ?_; rintro e W ⟨rfl, hq⟩; replace hb := chn hb hq; clear hq
    have HB0 := Lib.hid hb
    clear hb
    go_wp2
    go_loopw [5, 6, 7] (fun v i j wr => ∃ (k k' : Nat) (ss : List ByteArray), k ≤ n ∧ k' ≤ n' ∧ ss.length ≤ k + k' ∧ i = .int .i64 k ∧ j = .int .i64 k' ∧ L = ss.map (·.data.toList) ++ restL xs ys k k' ∧ wr.ownsRow w.heap.size 9 1 v ss.length (ss.map Value.string) ∧ Below w.heap.size w wr) (fun _ i j _ => n + n' - (intOf i).toNat - (intOf j).toNat)
    case atStart => exact ⟨0, 0, [], Nat.zero_le _, Nat.zero_le _, Nat.zero_le _, rfl, rfl, HLR.out, World.ownsRow_nil _ _ _ _, HB0.out⟩
    case round =>
      obtain ⟨k, k', ss, hk, hk', hsl, rfl, rfl, hss, hown, hb⟩ := hrel
      have HSS := Lib.hid hss
      clear hss
      have hsw := HS.out.below hb
      have hsw' := HS'.out.below hb
      have i0 : (0 : Int) ≤ (k : Int) := by omega
      have j0 : (0 : Int) ≤ (k' : Int) := by omega
      by_cases hlt : k < n
      · obtain ⟨e, hee⟩ : ∃ e, xs[k]? = some e := ⟨_, List.getElem?_eq_getElem (by rw [HN.out]; exact hlt)⟩
        obtain ⟨b, off, rfl, _⟩ := hsw.addr (by rw [HN.out]; omega)
        obtain ⟨d0, d1, d2⟩ := en_at hsw k e hee
        have i1 : (k : Int) < (n : Int) := by omega
        have i2 : ((k : Int) == (n : Int)) = false := by rw [beq_eq_false_iff_ne]; omega
        by_cases hlt' : k' < n'
        · obtain ⟨f, hff⟩ : ∃ f, ys[k']? = some f := ⟨_, List.getElem?_eq_getElem (by rw [HN'.out]; exact hlt')⟩
          obtain ⟨b', off', rfl, _⟩ := hsw'.addr (by rw [HN'.out]; omega)
          obtain ⟨g0, g1, g2⟩ := en_at hsw' k' f hff
          have j1 : (k' : Int) < (n' : Int) := by omega
          have j2 : ((k' : Int) == (n' : Int)) = false := by rw [beq_eq_false_iff_ne]; omega
          rcases Bool.eq_false_or_eq_true (Op.bytesLess e.p.toList f.p.toList) with hle | hle
          · have HR := Lib.hid (rest_a hee (.inr ⟨f, hff, hle⟩))
            clear hee hff
            go_wp2_with fail
            go_quiet (fail)
            go_wp2_with (at_builtin; go_must (refine wp_app1 (by rfl) _ _ 41 (by rfl) HE w.heap.size w.heap.size w _ #[.string e.p] _ _ _ (by rfl) (by rfl) hown (by rfl) (by simp [Value.oneCell']) (by omega) hb.size (drw hb _) (Nat.le_refl _) ?_); intro v' w1 hown1 hbel1 _ _)
            go_roundw
            case rel => exact ⟨(k+1), k', ss ++ [e.p], by omega, by omega, by simp; omega, by go_num, by go_num, by rw [List.map_append, List.append_assoc, HSS.out, HR.out]; rfl, by simpa using hown1, hbel1⟩
            case measure => simp [intOf]; omega
          · rcases Bool.eq_false_or_eq_true (Op.bytesLess f.p.toList e.p.toList) with hlf | hlf
            · have HR := Lib.hid (rest_b hff (.inr ⟨e, hee, hle, hlf⟩))
              clear hee hff
              go_wp2_with fail
              go_quiet (fail)
              go_wp2_with fail
              go_quiet (fail)
              go_wp2_with (at_builtin; go_must (refine wp_app1 (by rfl) _ _ 41 (by rfl) HE w.heap.size w.heap.size w _ #[.string f.p] _ _ _ (by rfl) (by rfl) hown (by rfl) (by simp [Value.oneCell']) (by omega) hb.size (drw hb _) (Nat.le_refl _) ?_); intro v' w1 hown1 hbel1 _ _)
              go_roundw
              case rel => exact ⟨k, (k'+1), ss ++ [f.p], by omega, by omega, by simp; omega, by go_num, by go_num, by rw [List.map_append, List.append_assoc, HSS.out, HR.out]; rfl, by simpa using hown1, hbel1⟩
              case measure => simp [intOf]; omega
            · have hpp := same_p hle hlf
              by_cases hef : e = f
              · subst hef
                have HR := Lib.hid (rest_c1 hee hff)
                clear hee hff hpp
                go_wp2_with fail
                go_quiet (fail)
                go_wp2_with fail
                go_quiet (fail)
                go_wp2_with fail
                go_quiet (fail)
                go_wp2
                go_roundw
                case rel => exact ⟨k + 1, k' + 1, ss, by omega, by omega, by omega, by go_num, by go_num, by rw [HSS.out, HR.out], hown, drw hb _⟩
                case measure => simp [intOf]; omega
              · have HR := Lib.hid (rest_c2 hee hff hpp hef)
                obtain ⟨p, d, x⟩ := e
                obtain ⟨p', d', x'⟩ := f
                obtain rfl : p = p' := hpp
                simp only at d0 d1 d2 g0 g1 g2 hle hlf
                clear hee hff
                by_cases h2 : d = d'
                · subst h2
                  have q := bq_no (s := x) (t := x') (fun h => hef (by rw [h]))
                  clear hef
                  go_wp2_with fail
                  go_quiet (fail)
                  go_wp2_with fail
                  go_quiet (fail)
                  go_wp2_with fail
                  go_quiet (fail)
                  go_wp2_with (at_builtin; go_must (refine wp_app1 (by rfl) _ _ 41 (by rfl) HE w.heap.size w.heap.size w _ #[.string p] _ _ _ (by rfl) (by rfl) hown (by rfl) (by simp [Value.oneCell']) (by omega) hb.size (drw hb _) (Nat.le_refl _) ?_); intro v' w1 hown1 hbel1 _ _)
                  go_roundw
                  case rel => exact ⟨(k+1), (k'+1), ss ++ [p], by omega, by omega, by simp; omega, by go_num, by go_num, by rw [List.map_append, List.append_assoc, HSS.out, HR.out]; rfl, by simpa using hown1, hbel1⟩
                  case measure => simp [intOf]; omega
                · have q : (d == d') = false := by rw [beq_eq_false_iff_ne]; exact h2
                  clear hef h2
                  go_wp2_with fail
                  go_quiet (fail)
                  go_wp2_with fail
                  go_quiet (fail)
                  go_wp2_with fail
                  go_quiet (fail)
                  go_wp2_with (at_builtin; go_must (refine wp_app1 (by rfl) _ _ 41 (by rfl) HE w.heap.size w.heap.size w _ #[.string p] _ _ _ (by rfl) (by rfl) hown (by rfl) (by simp [Value.oneCell']) (by omega) hb.size (drw hb _) (Nat.le_refl _) ?_); intro v' w1 hown1 hbel1 _ _)
                  go_roundw
                  case rel => exact ⟨(k+1), (k'+1), ss ++ [p], by omega, by omega, by simp; omega, by go_num, by go_num, by rw [List.map_append, List.append_assoc, HSS.out, HR.out]; rfl, by simpa using hown1, hbel1⟩
                  case measure => simp [intOf]; omega
        · obtain rfl : k' = n' := by omega
          have HR := Lib.hid (rest_a (ys := ys) (j := k') hee (.inl (List.getElem?_eq_none (by rw [HN'.out]; omega))))
          clear hee
          go_wp2_with fail
          go_quiet (fail)
          go_wp2_with (at_builtin; go_must (refine wp_app1 (by rfl) _ _ 41 (by rfl) HE w.heap.size w.heap.size w _ #[.string e.p] _ _ _ (by rfl) (by rfl) hown (by rfl) (by simp [Value.oneCell']) (by omega) hb.size (drw hb _) (Nat.le_refl _) ?_); intro v' w1 hown1 hbel1 _ _)
          go_roundw
          case rel => exact ⟨(k+1), k', ss ++ [e.p], by omega, by omega, by simp; omega, by go_num, by go_num, by rw [List.map_append, List.append_assoc, HSS.out, HR.out]; rfl, by simpa using hown1, hbel1⟩
          case measure => simp [intOf]; omega
      · obtain rfl : k = n := by omega
        by_cases hlt' : k' < n'
        · obtain ⟨f, hff⟩ : ∃ f, ys[k']? = some f := ⟨_, List.getElem?_eq_getElem (by rw [HN'.out]; exact hlt')⟩
          obtain ⟨b', off', rfl, _⟩ := hsw'.addr (by rw [HN'.out]; omega)
          obtain ⟨g0, g1, g2⟩ := en_at hsw' k' f hff
          have j1 : (k' : Int) < (n' : Int) := by omega
          have j2 : ((k' : Int) == (n' : Int)) = false := by rw [beq_eq_false_iff_ne]; omega
          have HR := Lib.hid (rest_b (xs := xs) (i := k) hff (.inl (List.getElem?_eq_none (by rw [HN.out]; omega))))
          clear hff
          have dk : decide ((k : Int) < (k : Int)) = false := by simp
          go_wp2_with fail
          go_quiet (fail)
          go_wp2_with fail
          go_quiet (fail)
          go_wp2_with (at_builtin; go_must (refine wp_app1 (by rfl) _ _ 41 (by rfl) HE w.heap.size w.heap.size w _ #[.string f.p] _ _ _ (by rfl) (by rfl) hown (by rfl) (by simp [Value.oneCell']) (by omega) hb.size (drw hb _) (Nat.le_refl _) ?_); intro v' w1 hown1 hbel1 _ _)
          go_roundw
          case rel => exact ⟨k, (k'+1), ss ++ [f.p], by omega, by omega, by simp; omega, by go_num, by go_num, by rw [List.map_append, List.append_assoc, HSS.out, HR.out]; rfl, by simpa using hown1, hbel1⟩
          case measure => simp [intOf]; omega
        · obtain rfl : k' = n' := by omega
          have HF : Hid (ss.map (·.data.toList) = L) := by rw [Hid, HSS.out, rest_end (by rw [HN.out]; omega) (by rw [HN'.out]; omega), List.append_nil]
          go_wp2
          go_ret
          exact ⟨_, ss, rfl, HF.out, hown, hb⟩
end Go.Proofs.YtakbngafhogcbaaGreatDoor
namespace Go.Proofs.YtakbngafhogcbaaGreatDoor
open Go.RowKit
def mdig (k : Nat) (acc : Bs) : Bs := if k = 0 then acc else mdig (k / 10) (UInt8.ofNat (48 + k % 10) :: acc)
termination_by k
decreasing_by omega
/-- The mark of number k. -/
def mtext (k : Nat) : ByteArray := ⟨(109 :: mdig k []).toArray⟩
def MtRel (k : Nat) (i o : Value) : Prop := ∃ (j : Nat) (acc : ByteArray), acc.size + j ≤ k ∧ i = .int .i64 j ∧ o = .string acc ∧ mdig j acc.data.toList = mdig k []
/-- A slice of texts that can be read. -/
def SlS (w : World) (a : Option Addr) (ss : List ByteArray) : Prop :=
  0 < ss.length → ∃ b off, a = some ⟨b, off, none⟩ ∧ b < w.heap.size ∧ ∀ k s, ss[k]? = some s → w.cell? ⟨b, off + k, none⟩ = some (.string s)
theorem SlS.below {w w' : World} {a : Option Addr} {ss : List ByteArray} (h : SlS w a ss) (hb : Below w.heap.size w w') : SlS w' a ss := fun hn => by
  obtain ⟨b, off, e, hlt, hc⟩ := h hn
  exact ⟨b, off, e, Nat.lt_of_lt_of_le hlt hb.size, fun k s hk => (hb.cell (p := ⟨b, off + k, none⟩) hlt).trans (hc k s hk)⟩
theorem own_sls {w : World} {B : Nat} {t : TypeId} {a : Option Addr} {c n : Nat} {ss : List ByteArray} (h : w.ownsRow B t 1 (.slice a n c) n (ss.map Value.string)) (hn : ss.length = n) : SlS w a ss := fun h0 => by
  rcases h.2 with ⟨_, h1⟩ | ⟨g, cap, cur, e, _, hh, _⟩
  · omega
  · injection e with e1 e2 e3
    subst e1; subst e3
    have hl : g < w.heap.size := by
      rcases Nat.lt_or_ge g w.heap.size with h4 | h4
      · exact h4
      · rw [Array.getElem?_eq_none h4] at hh; cases hh
    refine ⟨g, 0, rfl, hl, fun k s hk => ?_⟩
    have h2 := h.cellAt k (by have := (List.getElem?_eq_some_iff.1 hk).1; omega)
    rw [Nat.zero_add, h2, List.getElem?_map, hk]; rfl
/-- The texts that marking leaves. -/
def MarkedT (k i : Nat) (L : List Value) : Prop := ∀ j, j < i → L[j]? = some (.string (mtext (k + j)))
theorem MarkedT.more {k i : Nat} {L : List Value} (h : MarkedT k i L) (hi : i < L.length) : MarkedT k (i + 1) (L.set i (.string (mtext (k + i)))) := fun j hj => by
  by_cases e : j = i
  · subst e; rw [List.getElem?_set_self hi]
  · rw [List.getElem?_set_ne (Ne.symm e)]; exact h j (by omega)
/-- What marking leaves of entries. -/
def MarkedE (k i : Nat) (L : List Value) : Prop := ∀ j, j < i → L[j * 3]? = some (.string (mtext (k + 3 * j))) ∧ L[j * 3 + 1]? = some (.bool (decide ((k + 3 * j + 1) % 3 = 0))) ∧ L[j * 3 + 2]? = some (.string (mtext (k + 3 * j + 2)))
/-- What marking leaves of marks. -/
def MarkedM (k i : Nat) (L : List Value) : Prop := ∀ j, j < i → L[j * 3]? = some (.string (mtext (k + 3 * j))) ∧ L[j * 3 + 1]? = some (.int .i64 ((k : Int) + 3 * j + 1)) ∧ L[j * 3 + 2]? = some (.string (mtext (k + 3 * j + 2)))
theorem set_three {L : List Value} {i : Nat} (h : i * 3 + 3 ≤ L.length) (a b c : Value) :
    (∀ j, j < i → ∀ q, q < 3 → (((L.set (i * 3) a).set (i * 3 + 1) b).set (i * 3 + 2) c)[j * 3 + q]? = L[j * 3 + q]?) ∧
    (((L.set (i * 3) a).set (i * 3 + 1) b).set (i * 3 + 2) c)[i * 3]? = some a ∧ (((L.set (i * 3) a).set (i * 3 + 1) b).set (i * 3 + 2) c)[i * 3 + 1]? = some b ∧ (((L.set (i * 3) a).set (i * 3 + 1) b).set (i * 3 + 2) c)[i * 3 + 2]? = some c := by
  refine ⟨fun j hj q hq => ?_, ?_, ?_, ?_⟩
  · rw [List.getElem?_set_ne (by omega), List.getElem?_set_ne (by omega), List.getElem?_set_ne (by omega)]
  · rw [List.getElem?_set_ne (by omega), List.getElem?_set_ne (by omega), List.getElem?_set_self (by omega)]
  · rw [List.getElem?_set_ne (by omega), List.getElem?_set_self (by simp; omega)]
  · rw [List.getElem?_set_self (by simp; omega)]
theorem MarkedE.more {k i : Nat} {L : List Value} (h : MarkedE k i L) (hi : i * 3 + 3 ≤ L.length) : MarkedE k (i + 1) (((L.set (i * 3) (.string (mtext (k + 3 * i)))).set (i * 3 + 1) (.bool (decide ((k + 3 * i + 1) % 3 = 0)))).set (i * 3 + 2) (.string (mtext (k + 3 * i + 2)))) := fun j hj => by
  obtain ⟨h0, h1, h2, h3⟩ := set_three hi (.string (mtext (k + 3 * i))) (.bool (decide ((k + 3 * i + 1) % 3 = 0))) (.string (mtext (k + 3 * i + 2)))
  by_cases e : j = i
  · subst e; exact ⟨h1, h2, h3⟩
  · have hji : j < i := by omega
    obtain ⟨g1, g2, g3⟩ := h j hji
    exact ⟨(h0 j hji 0 (by omega)).trans g1, (h0 j hji 1 (by omega)).trans g2, (h0 j hji 2 (by omega)).trans g3⟩
theorem MarkedM.more {k i : Nat} {L : List Value} (h : MarkedM k i L) (hi : i * 3 + 3 ≤ L.length) : MarkedM k (i + 1) (((L.set (i * 3) (.string (mtext (k + 3 * i)))).set (i * 3 + 1) (.int .i64 ((k : Int) + 3 * i + 1))).set (i * 3 + 2) (.string (mtext (k + 3 * i + 2)))) := fun j hj => by
  obtain ⟨h0, h1, h2, h3⟩ := set_three hi (.string (mtext (k + 3 * i))) (.int .i64 ((k : Int) + 3 * i + 1)) (.string (mtext (k + 3 * i + 2)))
  by_cases e : j = i
  · subst e; exact ⟨h1, h2, h3⟩
  · have hji : j < i := by omega
    obtain ⟨g1, g2, g3⟩ := h j hji
    exact ⟨(h0 j hji 0 (by omega)).trans g1, (h0 j hji 1 (by omega)).trans g2, (h0 j hji 2 (by omega)).trans g3⟩
end Go.Proofs.YtakbngafhogcbaaGreatDoor
namespace Go.Proofs.YtakbngafhogcbaaGreatDoor
open Go.RowKit
theorem turn_none {t s : List PE} {k : Int} {p r x : Bs} {C : Nat} (hc : tcode t k p r x = C) (hs : s = tdo t k p r x) (h : ¬ TOk t ∨ C ≠ 0) : tturn t s = [] := by
  subst hs
  by_cases ht : TOk t
  · have hC : C ≠ 0 := h.resolve_left (fun h2 => h2 ht)
    rw [tdo_same ht (by rw [hc]; exact hC), tturn_ok ht ht]
    exact turned_self ht.ordP
  · exact tturn_bad fun h => ht h.1
theorem tget_is {ms : List En} {q : ByteArray} {e : En} (h : TOk (ms.map En.pl)) (hq : pathOkL q.data.toList = true) (hg : atP PE.p (ms.map En.pl) q.data.toList = some e.pl) : tgetE ms q = some e := by
  rw [tget_right h hq]
  rw [← getL_at, getE_pl] at hg
  cases hx : getE ms q with
  | none => rw [hx] at hg; cases hg
  | some f => rw [hx] at hg; injection hg with hg; rw [En.pl_inj hg]
theorem tget_no {ms : List En} {q : ByteArray} (h : TOk (ms.map En.pl)) (hq : pathOkL q.data.toList = true) (hg : getL (ms.map En.pl) q.data.toList = none) : tgetE ms q = none := by
  rw [tget_right h hq]
  rw [getE_pl] at hg
  cases hx : getE ms q with
  | none => rfl
  | some f => rw [hx] at hg; cases hg
theorem turn_1 {xs ms : List En} {P T D : ByteArray} (hc : tcode (xs.map En.pl) 1 P.data.toList T.data.toList D.data.toList = 0) (hm : ms.map En.pl = tdo (xs.map En.pl) 1 P.data.toList T.data.toList D.data.toList) :
    tturn (xs.map En.pl) (ms.map En.pl) = [P.data.toList] ∧ tgetE ms P = some ⟨P, true, D⟩ := by
  obtain ⟨h, ho, hcd⟩ := tcode_0 hc
  have h2 := do_tok h ho hcd (x := D.data.toList)
  rw [tdo_do hc] at hm
  rw [← hm] at h2
  have h3 := h2
  rw [hm] at h3
  rw [tturn_ok h h2, hm]
  rw [code_1] at hcd
  rw [doL_1] at hm ⊢
  refine ⟨law_turned_1 h hcd, tget_is h2 (opOk_p ho) ?_⟩
  rw [hm, at_do_put h, if_pos rfl]; rfl
theorem turn_2 {xs ms : List En} {P T D : ByteArray} (hc : tcode (xs.map En.pl) 2 P.data.toList T.data.toList D.data.toList = 0) (hm : ms.map En.pl = tdo (xs.map En.pl) 2 P.data.toList T.data.toList D.data.toList) :
    ((tturn (xs.map En.pl) (ms.map En.pl) = [] ∧ tgetE xs P = some ⟨P, false, D⟩) ∨ tturn (xs.map En.pl) (ms.map En.pl) = [P.data.toList]) ∧ tgetE ms P = some ⟨P, false, D⟩ := by
  obtain ⟨h, ho, hcd⟩ := tcode_0 hc
  have h2 := do_tok h ho hcd (x := D.data.toList)
  rw [tdo_do hc] at hm
  rw [← hm] at h2
  rw [tturn_ok h h2]
  rw [doL_2] at hm
  refine ⟨?_, tget_is h2 (opOk_p ho) (by rw [hm, at_do_put h, if_pos rfl]; rfl)⟩
  rw [hm]
  rcases law_turned_2 h (p := P.data.toList) (x := D.data.toList) with ⟨h3, h4⟩ | h3
  · exact .inl ⟨h3, tget_is h (opOk_p ho) h4⟩
  · exact .inr h3
theorem turn_3 {xs ms : List En} {k : Int} {P T D : ByteArray} (hk : k = 3 ∨ k = 4) (hc : tcode (xs.map En.pl) k P.data.toList T.data.toList D.data.toList = 0) (hm : ms.map En.pl = tdo (xs.map En.pl) k P.data.toList T.data.toList D.data.toList) :
    tturn (xs.map En.pl) (ms.map En.pl) = [P.data.toList] ∧ tgetE ms P = none := by
  obtain ⟨h, ho, hcd⟩ := tcode_0 hc
  have h2 := do_tok h ho hcd (x := D.data.toList)
  rw [tdo_do hc] at hm
  rw [← hm] at h2
  rw [tturn_ok h h2]
  have he : ∃ e, getL (xs.map En.pl) P.data.toList = some e := by
    rcases hk with rfl | rfl
    · rw [code_3] at hcd; obtain ⟨e, he, _⟩ := rmC_0 hcd; exact ⟨e, he⟩
    · rw [code_4] at hcd; obtain ⟨e, he, _⟩ := rmdirC_0 hcd; exact ⟨e, he⟩
  have hm' : ms.map En.pl = (xs.map En.pl).filter fun e => !(e.p == P.data.toList) := by
    rcases hk with rfl | rfl
    · rw [hm, doL_3]
    · rw [hm, doL_4]
  refine ⟨by rw [hm']; exact law_turned_off h he, tget_no h2 (opOk_p ho) ?_⟩
  rw [hm', getL_at, at_off h, if_pos rfl]
theorem turn_5 {xs ms : List En} {P T D : ByteArray} (hc : tcode (xs.map En.pl) 5 P.data.toList T.data.toList D.data.toList = 0) (hm : ms.map En.pl = tdo (xs.map En.pl) 5 P.data.toList T.data.toList D.data.toList) :
    (∀ s ∈ tturn (xs.map En.pl) (ms.map En.pl), s.length ≤ 12 ∧ (s = P.data.toList ∨ s = T.data.toList ∨ underL s P.data.toList = true ∨ underL s T.data.toList = true)) ∧ tgetE ms P = none ∧ ms.length = xs.length ∧ (tturn (xs.map En.pl) (ms.map En.pl)).length ≤ xs.length + ms.length := by
  obtain ⟨h, ho, hcd⟩ := tcode_0 hc
  have h2 := do_tok h ho hcd (x := D.data.toList)
  have hl := (many_len hc).2.2.1 rfl
  rw [← hm, List.length_map, List.length_map] at hl
  rw [tdo_do hc] at hm
  rw [← hm] at h2
  rw [tturn_ok h h2]
  rw [code_5] at hcd
  have hr : pathOkL T.data.toList = true := by rw [opOk_5] at ho; simp only [Bool.and_eq_true] at ho; exact ho.2.1
  have m := mv_of h (opOk_p ho) hr hcd
  rw [doL_5] at hm
  refine ⟨fun s hs => ⟨(path_len (turned_path h h2 hs)).2, law_turned_5 m (by rw [← hm]; exact hs)⟩, tget_no h2 (opOk_p ho) ?_, hl, by have := turned_len (a := xs.map En.pl) (b := ms.map En.pl); rw [List.length_map, List.length_map] at this; exact this⟩
  rw [hm]
  exact getL_none.2 fun x hx => m.gone hx
theorem opt_one2 (o : Option En) : ∃ (ep ex : ByteArray) (ed th : Bool), optV o = .tuple #[.agg #[.string ep, .bool ed, .string ex], .bool th] ∧ (o = none ∨ o = some ⟨ep, ed, ex⟩) := by
  cases o with
  | none => exact ⟨⟨#[]⟩, ⟨#[]⟩, false, false, rfl, .inl rfl⟩
  | some e => exact ⟨e.p, e.x, e.d, true, rfl, .inr rfl⟩
theorem ss_one {ss : List ByteArray} {p : ByteArray} (h : ss.map (·.data.toList) = [p.data.toList]) : ss = [p] := by
  cases ss with
  | nil => cases h
  | cons a r =>
    rw [List.map_cons] at h
    injection h with h1 h2
    rw [bytes_eq h1, List.map_eq_nil_iff.1 h2]
set_option maxRecDepth 100000 in
set_option maxHeartbeats 8000000 in
theorem lawTreeTurned_w (w : World) (a : Option Addr) (n c : Nat) (h : Code w a n c) : Calls Tryz.prog 9 #[.slice a n c] w (TrueB w) := by
  have hn := h.2.2
  by_cases hbig : 1048576 < n
  · clear h
    go_enter Tryz.func9, Tryz.ntmps9
    go_wp2
    go_ret
    exact ⟨rfl, Below.refl _ _⟩
  have HD := Lib.hid (drawTreeDo_c w a n c h)
  clear h
  go_enter Tryz.func9, Tryz.ntmps9
  go_wp2_with fail
  refine HD.out.mono ?_; rintro e W1 ⟨a1, c1, xs, k, P, T, D, rfl, hR, hz, hx, hP, hT, hD, hb⟩
  obtain ⟨n1, hn1⟩ : ∃ m, xs.length = m := ⟨_, rfl⟩
  rw [hn1] at hx ⊢
  have HN1 := Lib.hid hn1
  have HZ := Lib.hid hz
  have c0 := new_cell W1 (opBox k P T D) 25 0 _ rfl
  have c1' := new_cell W1 (opBox k P T D) 25 1 _ rfl
  have c2' := new_cell W1 (opBox k P T D) 25 2 _ rfl
  have c3' := new_cell W1 (opBox k P T D) 25 3 _ rfl
  replace hb := hb.alloc hb.size (.cells (opBox k P T D) 25)
  replace hR := hR.below (bellow_alloc W1 (.cells (opBox k P T D) 25))
  clear hn1 hz HD
  go_wp2_with fail
  refine (doL_c a1 c1 n1 xs k P T D _ HN1.out hR.inT (by omega) hP hT hD HZ.out).mono ?_
  rintro e W2 ⟨a2, c2, n2, ms, rfl, hn2, hms, hX, hq⟩
  replace hb := chn hb hq; replace hR := hR.below hq; replace c0 := keepc hq c0; replace c1' := keepc hq c1'; replace c2' := keepc hq c2'; replace c3' := keepc hq c3'
  have HN2 := Lib.hid hn2
  have HMS := Lib.hid hms
  clear hq hn2 hms
  go_wp2_with fail
  refine (sDoL_c a1 c1 n1 xs k P T D _ HN1.out hR (by omega) hP hT hD HZ.out).mono ?_
  rintro e W3 ⟨a3, c3, n3, ms3, rfl, hn3, hms3, hY, hq⟩
  obtain rfl : ms3 = ms := map_inj_ En.pl_inj (hms3.trans HMS.out.symm)
  obtain rfl : n3 = n2 := hn3.symm.trans HN2.out
  replace hb := chn hb hq; replace hR := hR.below hq; replace hX := hX.below hq; replace c0 := keepc hq c0; replace c1' := keepc hq c1'; replace c2' := keepc hq c2'; replace c3' := keepc hq c3'
  clear hq hn3 hms3
  obtain ⟨C, hC⟩ : ∃ C, tcode (xs.map En.pl) k P.data.toList T.data.toList D.data.toList = C := ⟨_, rfl⟩
  have HC := Lib.hid hC
  rw [hC]
  have hn2b : n3 ≤ 100 := by
    have h1 := congrArg List.length HMS.out
    have h2 := do_len (xs.map En.pl) k P.data.toList T.data.toList D.data.toList
    rw [List.length_map] at h1 h2
    have h3 := HN2.out
    have h4 := HN1.out
    omega
  clear hC
  have hcn : n1 ≤ c1 := by obtain ⟨b, off, _, _, _, h4⟩ := hR; have := HN1.out; omega
  obtain ⟨rt, hrt⟩ := tok_dec xs
  have HRT := Lib.hid hrt
  have HTK := Lib.hid (fun W (h : SlF En.cells W a1 xs) => sTreeOk_c a1 c1 xs rt (Lib.hid hrt) W h (by have := HN1.out; unfold maxLen; omega) (by rw [HN1.out]; exact hcn) HZ.out.max)
  have HSM : Hid (Small ms3) := by
    by_cases ht : TOk (xs.map En.pl)
    · exact tok_small (by rw [HMS.out]; exact tdo_tok ht)
    · obtain rfl : ms3 = [] := by
        have h1 := HMS.out
        unfold tdo at h1
        rw [if_neg ht] at h1
        exact List.map_eq_nil_iff.1 h1
      exact fun e he => by cases he
  have HL := Lib.hid (fun W (h : SlF En.cells W a1 xs) (h' : SlF En.cells W a2 ms3) => treeTurned_c a1 a2 c1 c2 xs ms3 W h h' (by have := HN1.out; unfold maxLen; omega) (by have := HN2.out; unfold maxLen; omega) HZ.out.max HSM.out.max)
  rw [HN1.out] at HTK HL
  rw [HN2.out] at HL
  clear hY hrt
  go_wp2_with fail
  refine (HL.out _ hR.sl hX.1).mono ?_; rintro e W ⟨v, ss, rfl, hss, hov, hq⟩
  replace hb := chn hb hq; replace hR := hR.below hq; replace hX := hX.below hq; replace c0 := keepc hq c0; replace c1' := keepc hq c1'; replace c2' := keepc hq c2'; replace c3' := keepc hq c3'; clear hq
  obtain ⟨a5, c5, rfl⟩ := own_shape hov
  obtain ⟨kn, hkn⟩ : ∃ m, ss.length = m := ⟨_, rfl⟩
  have hsl := own_sls hov rfl
  rw [hkn] at hov ⊢
  clear hov HL
  by_cases hoff : rt = false ∨ C ≠ 0
  · have hlist : tturn (xs.map En.pl) (ms3.map En.pl) = [] := turn_none HC.out HMS.out (hoff.imp (fun h1 h2 => by have := HRT.out.2 h2; rw [h1] at this; cases this) id)
    obtain rfl : ss = [] := List.map_eq_nil_iff.1 (hss.trans hlist)
    obtain rfl : kn = 0 := hkn.symm
    clear hss hlist hsl hkn
    cases rt with
    | false =>
      clear hoff
      go_wp2_with fail
      refine (HTK.out _ hR.sl).mono ?_; rintro e W ⟨rfl, hq⟩; replace hb := chn hb hq; clear hq
      go_wp2
      go_ret
      exact ⟨rfl, by repeat (first | exact hb | refine Below.alloc ?_ (by have := hb.size; simp; try omega) _)⟩
    | true =>
      have hne : ((C : Int) != 0) = true := by rw [bne_iff_ne]; rcases hoff with h1 | h1; · cases h1
                                               omega
      clear hoff
      go_wp2_with fail
      refine (HTK.out _ hR.sl).mono ?_; rintro e W ⟨rfl, hq⟩; replace hb := chn hb hq; clear hq
      go_wp2
      go_ret
      exact ⟨rfl, by repeat (first | exact hb | refine Below.alloc ?_ (by have := hb.size; simp; try omega) _)⟩
  · obtain rfl : rt = true := by cases rt; · exact absurd (.inl rfl) hoff
                                 rfl
    obtain rfl : C = 0 := by
      rcases Nat.eq_zero_or_pos C with h1 | h1
      · exact h1
      · exact absurd (.inr (by omega)) hoff
    have htok := HRT.out.1 rfl
    obtain ⟨_, hop0, _⟩ := tcode_0 HC.out
    have hk := opOk_k hop0
    obtain ⟨o, ho⟩ : ∃ o, tgetE ms3 P = o := ⟨_, rfl⟩
    have HG := Lib.hid (fun W (h : SlF En.cells W a2 ms3) => getT_c a2 c2 n3 ms3 P o (Lib.hid ho) W HN2.out h (by omega) HSM.out)
    have HO := Lib.hid ho
    clear hoff htok hop0 ho HRT
    go_wp2_with fail
    refine (HTK.out _ hR.sl).mono ?_; rintro e W ⟨rfl, hq⟩; replace hb := chn hb hq; replace hR := hR.below hq; replace hX := hX.below hq; replace hsl := hsl.below hq; replace c0 := keepc hq c0; replace c1' := keepc hq c1'; replace c2' := keepc hq c2'; replace c3' := keepc hq c3'; clear hq
    go_wp2_with fail
    refine (HG.out _ hX.1).mono ?_; rintro e W ⟨rfl, hq⟩; replace hb := chn hb hq; replace hR := hR.below hq; replace hsl := hsl.below hq; replace c0 := keepc hq c0; replace c1' := keepc hq c1'; replace c2' := keepc hq c2'; replace c3' := keepc hq c3'; clear hq
    clear HG HTK hX
    rcases hk with rfl | rfl | rfl | rfl | rfl
    · obtain ⟨hl, hg⟩ := turn_1 HC.out HMS.out
      obtain rfl := ss_one (hss.trans hl)
      obtain rfl : kn = 1 := hkn.symm
      obtain rfl := HO.out.symm.trans hg
      obtain ⟨b5, off5, rfl, _, hc5⟩ := hsl (by simp)
      have s0 : _ = some (Value.string P) := hc5 0 P rfl
      rw [Nat.add_zero] at s0
      clear hl hg hss hc5
      replace c0 := keepc (bellow_alloc W (.cells #[.string P,.bool true,.string D] 31)) c0
      replace c1' := keepc (bellow_alloc W (.cells #[.string P,.bool true,.string D] 31)) c1'
      replace c2' := keepc (bellow_alloc W (.cells #[.string P,.bool true,.string D] 31)) c2'
      replace c3' := keepc (bellow_alloc W (.cells #[.string P,.bool true,.string D] 31)) c3'
      replace hR := hR.below (bellow_alloc W (.cells #[.string P,.bool true,.string D] 31))
      replace s0 := keepc (bellow_alloc W (.cells #[.string P,.bool true,.string D] 31)) s0
      have d0 := new_cell W #[.string P,.bool true,.string D] 31 0 _ rfl
      have d1 := new_cell W #[.string P,.bool true,.string D] 31 1 _ rfl
      have d2 := new_cell W #[.string P,.bool true,.string D] 31 2 _ rfl
      replace hb := hb.alloc hb.size (.cells #[.string P,.bool true,.string D] 31)
      go_wp2_with fail
      refine wp_region_held_drew (S := fun w' => Below _ _ w') (by kernel_rfl) (below_drew _) (fun hHeld => ?_)
      refine tk (i := 0) (d := (some 70)) (v := ?_) rfl rfl (by kernel_rfl) (by kernel_rfl) (by kernel_rfl) (fun _ _ _ h => h) (Or.inl ⟨by rfl, ?_⟩) hHeld ?_
      rotate_left
      · intro w hSw; have zs0 := keepc hSw s0; have zc1' := keepc hSw c1'; have zd1 := keepc hSw d1; clear hSw; go_simp <;> with_reducible rfl
      (try simp only [Act.put, List.setIfInBounds_toArray, List.set_cons_zero, List.set_cons_succ])
      refine tk (i := 1) (d := (some 71)) (v := ?_) rfl rfl (by kernel_rfl) (by kernel_rfl) (by kernel_rfl) (fun _ _ _ h => h) (Or.inl ⟨by rfl, ?_⟩) hHeld ?_
      rotate_left
      · intro w hSw; have zs0 := keepc hSw s0; have zc1' := keepc hSw c1'; have zd1 := keepc hSw d1; clear hSw; go_simp <;> with_reducible rfl
      (try simp only [Act.put, List.setIfInBounds_toArray, List.set_cons_zero, List.set_cons_succ])
      refine tk (i := 2) (d := (some 72)) (v := ?_) rfl rfl (by kernel_rfl) (by kernel_rfl) (by kernel_rfl) (fun _ _ _ h => h) (Or.inl ⟨by rfl, ?_⟩) hHeld ?_
      rotate_left
      · intro w hSw; have zs0 := keepc hSw s0; have zc1' := keepc hSw c1'; have zd1 := keepc hSw d1; clear hSw; go_simp <;> with_reducible rfl
      (try simp only [Act.put, List.setIfInBounds_toArray, List.set_cons_zero, List.set_cons_succ])
      refine tk (i := 3) (d := (some 73)) (v := ?_) rfl rfl (by kernel_rfl) (by kernel_rfl) (by kernel_rfl) (fun _ _ _ h => h) (Or.inl ⟨by rfl, ?_⟩) hHeld ?_
      rotate_left
      · intro w hSw; have zs0 := keepc hSw s0; have zc1' := keepc hSw c1'; have zd1 := keepc hSw d1; clear hSw; go_simp <;> with_reducible rfl
      (try simp only [Act.put, List.setIfInBounds_toArray, List.set_cons_zero, List.set_cons_succ])
      refine tk (i := 4) (d := (some 74)) (v := ?_) rfl rfl (by kernel_rfl) (by kernel_rfl) (by kernel_rfl) (fun _ _ _ h => h) (Or.inl ⟨by rfl, ?_⟩) hHeld ?_
      rotate_left
      · intro w hSw; have zs0 := keepc hSw s0; have zc1' := keepc hSw c1'; have zd1 := keepc hSw d1; clear hSw; go_simp <;> with_reducible rfl
      (try simp only [Act.put, List.setIfInBounds_toArray, List.set_cons_zero, List.set_cons_succ])
      refine tk (i := 5) (d := (some 75)) (v := ?_) rfl rfl (by kernel_rfl) (by kernel_rfl) (by kernel_rfl) (fun _ _ _ h => h) (Or.inl ⟨by rfl, ?_⟩) hHeld ?_
      rotate_left
      · intro w hSw; have zs0 := keepc hSw s0; have zc1' := keepc hSw c1'; have zd1 := keepc hSw d1; clear hSw; go_simp <;> with_reducible rfl
      (try simp only [Act.put, List.setIfInBounds_toArray, List.set_cons_zero, List.set_cons_succ])
      refine tk (i := 6) (d := (some 76)) (v := ?_) rfl rfl (by kernel_rfl) (by kernel_rfl) (by kernel_rfl) (fun _ _ _ h => h) (Or.inl ⟨by rfl, ?_⟩) hHeld ?_
      rotate_left
      · intro w hSw; have zs0 := keepc hSw s0; have zc1' := keepc hSw c1'; have zd1 := keepc hSw d1; clear hSw; go_simp <;> with_reducible rfl
      (try simp only [Act.put, List.setIfInBounds_toArray, List.set_cons_zero, List.set_cons_succ])
      refine tk (i := 7) (d := (some 77)) (v := ?_) rfl rfl (by kernel_rfl) (by kernel_rfl) (by kernel_rfl) (fun _ _ _ h => h) (Or.inl ⟨by rfl, ?_⟩) hHeld ?_
      rotate_left
      · intro w hSw; have zs0 := keepc hSw s0; have zc1' := keepc hSw c1'; have zd1 := keepc hSw d1; clear hSw; go_simp <;> with_reducible rfl
      (try simp only [Act.put, List.setIfInBounds_toArray, List.set_cons_zero, List.set_cons_succ])
      refine tk (i := 8) (d := (some 78)) (v := ?_) rfl rfl (by kernel_rfl) (by kernel_rfl) (by kernel_rfl) (fun _ _ _ h => h) (Or.inl ⟨by rfl, ?_⟩) hHeld ?_
      rotate_left
      · intro w hSw; have zs0 := keepc hSw s0; have zc1' := keepc hSw c1'; have zd1 := keepc hSw d1; clear hSw; go_simp <;> with_reducible rfl
      (try simp only [Act.put, List.setIfInBounds_toArray, List.set_cons_zero, List.set_cons_succ])
      refine tk (i := 9) (d := (some 79)) (v := ?_) rfl rfl (by kernel_rfl) (by kernel_rfl) (by kernel_rfl) (fun _ _ _ h => h) (Or.inl ⟨by rfl, ?_⟩) hHeld ?_
      rotate_left
      · intro w hSw; have zs0 := keepc hSw s0; have zc1' := keepc hSw c1'; have zd1 := keepc hSw d1; clear hSw; go_simp <;> with_reducible rfl
      (try simp only [Act.put, List.setIfInBounds_toArray, List.set_cons_zero, List.set_cons_succ])
      refine tk (i := 10) (d := (some 80)) (v := ?_) rfl rfl (by kernel_rfl) (by kernel_rfl) (by kernel_rfl) (fun _ _ _ h => h) (Or.inl ⟨by rfl, ?_⟩) hHeld ?_
      rotate_left
      · intro w hSw; have zs0 := keepc hSw s0; have zc1' := keepc hSw c1'; have zd1 := keepc hSw d1; clear hSw; go_simp <;> with_reducible rfl
      (try simp only [Act.put, List.setIfInBounds_toArray, List.set_cons_zero, List.set_cons_succ])
      refine tk (i := 11) (d := (some 81)) (v := ?_) rfl rfl (by kernel_rfl) (by kernel_rfl) (by kernel_rfl) (fun _ _ _ h => h) (Or.inl ⟨by rfl, ?_⟩) hHeld ?_
      rotate_left
      · intro w hSw; have zs0 := keepc hSw s0; have zc1' := keepc hSw c1'; have zd1 := keepc hSw d1; clear hSw; go_simp <;> with_reducible rfl
      (try simp only [Act.put, List.setIfInBounds_toArray, List.set_cons_zero, List.set_cons_succ])
      refine tk (i := 12) (d := (some 82)) (v := ?_) rfl rfl (by kernel_rfl) (by kernel_rfl) (by kernel_rfl) (fun _ _ _ h => h) (Or.inl ⟨by rfl, ?_⟩) hHeld ?_
      rotate_left
      · intro w hSw; have zs0 := keepc hSw s0; have zc1' := keepc hSw c1'; have zd1 := keepc hSw d1; clear hSw; go_simp <;> with_reducible rfl
      (try simp only [Act.put, List.setIfInBounds_toArray, List.set_cons_zero, List.set_cons_succ])
      refine tk (i := 13) (d := (some 83)) (v := ?_) rfl rfl (by kernel_rfl) (by kernel_rfl) (by kernel_rfl) (fun _ _ _ h => h) (Or.inl ⟨by rfl, ?_⟩) hHeld ?_
      rotate_left
      · intro w hSw; have zs0 := keepc hSw s0; have zc1' := keepc hSw c1'; have zd1 := keepc hSw d1; clear hSw; go_simp <;> with_reducible rfl
      (try simp only [Act.put, List.setIfInBounds_toArray, List.set_cons_zero, List.set_cons_succ])
      refine tk (i := 14) (d := (some 84)) (v := ?_) rfl rfl (by kernel_rfl) (by kernel_rfl) (by kernel_rfl) (fun _ _ _ h => h) (Or.inl ⟨by rfl, ?_⟩) hHeld ?_
      rotate_left
      · intro w hSw; have zs0 := keepc hSw s0; have zc1' := keepc hSw c1'; have zd1 := keepc hSw d1; clear hSw; go_simp <;> with_reducible rfl
      (try simp only [Act.put, List.setIfInBounds_toArray, List.set_cons_zero, List.set_cons_succ])
      refine tk (i := 15) (d := (some 85)) (v := ?_) rfl rfl (by kernel_rfl) (by kernel_rfl) (by kernel_rfl) (fun _ _ _ h => h) (Or.inl ⟨by rfl, ?_⟩) hHeld ?_
      rotate_left
      · intro w hSw; have zs0 := keepc hSw s0; have zc1' := keepc hSw c1'; have zd1 := keepc hSw d1; clear hSw; go_simp <;> with_reducible rfl
      (try simp only [Act.put, List.setIfInBounds_toArray, List.set_cons_zero, List.set_cons_succ])
      refine tk (i := 16) (d := (some 86)) (v := ?_) rfl rfl (by kernel_rfl) (by kernel_rfl) (by kernel_rfl) (fun _ _ _ h => h) (Or.inl ⟨by rfl, ?_⟩) hHeld ?_
      rotate_left
      · intro w hSw; have zs0 := keepc hSw s0; have zc1' := keepc hSw c1'; have zd1 := keepc hSw d1; clear hSw; go_simp <;> with_reducible rfl
      (try simp only [Act.put, List.setIfInBounds_toArray, List.set_cons_zero, List.set_cons_succ])
      refine tk (i := 17) (d := (some 87)) (v := ?_) rfl rfl (by kernel_rfl) (by kernel_rfl) (by kernel_rfl) (fun _ _ _ h => h) (Or.inl ⟨by rfl, ?_⟩) hHeld ?_
      rotate_left
      · intro w hSw; have zs0 := keepc hSw s0; have zc1' := keepc hSw c1'; have zd1 := keepc hSw d1; clear hSw; go_simp <;> with_reducible rfl
      (try simp only [Act.put, List.setIfInBounds_toArray, List.set_cons_zero, List.set_cons_succ])
      refine tk (i := 18) (d := (some 2)) (v := ?_) rfl rfl (by kernel_rfl) (by kernel_rfl) (by kernel_rfl) (fun _ _ _ h => h) (Or.inl ⟨by rfl, ?_⟩) hHeld ?_
      rotate_left
      · intro w hSw; have zs0 := keepc hSw s0; have zc1' := keepc hSw c1'; have zd1 := keepc hSw d1; clear hSw; go_simp <;> with_reducible rfl
      (try simp only [Act.put, List.setIfInBounds_toArray, List.set_cons_zero, List.set_cons_succ])
      refine wpAnyH_done (by kernel_rfl) ?_ _
      replace hb := chn hb hHeld; clear hHeld
      go_wp2
      go_ret
      exact ⟨rfl, hb⟩
    · obtain ⟨hl, hg⟩ := turn_2 HC.out HMS.out
      obtain rfl := HO.out.symm.trans hg
      obtain ⟨o2, ho2⟩ : ∃ o, tgetE xs P = o := ⟨_, rfl⟩
      have HG2 := Lib.hid (fun W (h : SlF En.cells W a1 xs) => getT_c a1 c1 n1 xs P o2 (Lib.hid ho2) W HN1.out h (by omega) HZ.out)
      rcases hl with ⟨hl, hg2⟩ | hl
      · obtain rfl : ss = [] := List.map_eq_nil_iff.1 (hss.trans hl)
        obtain rfl : kn = 0 := hkn.symm
        obtain rfl := ho2.symm.trans hg2
        have s0 := c0
        clear hl hg hss hg2 hsl
        replace c0 := keepc (bellow_alloc W (.cells #[.string P,.bool false,.string D] 31)) c0
        replace c1' := keepc (bellow_alloc W (.cells #[.string P,.bool false,.string D] 31)) c1'
        replace c2' := keepc (bellow_alloc W (.cells #[.string P,.bool false,.string D] 31)) c2'
        replace c3' := keepc (bellow_alloc W (.cells #[.string P,.bool false,.string D] 31)) c3'
        replace hR := hR.below (bellow_alloc W (.cells #[.string P,.bool false,.string D] 31))
        replace s0 := keepc (bellow_alloc W (.cells #[.string P,.bool false,.string D] 31)) s0
        have d0 := new_cell W #[.string P,.bool false,.string D] 31 0 _ rfl
        have d1 := new_cell W #[.string P,.bool false,.string D] 31 1 _ rfl
        have d2 := new_cell W #[.string P,.bool false,.string D] 31 2 _ rfl
        replace hb := hb.alloc hb.size (.cells #[.string P,.bool false,.string D] 31)
        go_wp2_with fail
        refine (HG2.out _ hR.sl).mono ?_; rintro e W ⟨rfl, hq⟩; replace hb := chn hb hq; replace c0 := keepc hq c0; replace c1' := keepc hq c1'; replace d0 := keepc hq d0; replace d1 := keepc hq d1; replace d2 := keepc hq d2; clear hq
        replace d0 := keepc (bellow_alloc W (.cells #[.string P, .bool false, .string D] 31)) d0
        replace d1 := keepc (bellow_alloc W (.cells #[.string P, .bool false, .string D] 31)) d1
        replace d2 := keepc (bellow_alloc W (.cells #[.string P, .bool false, .string D] 31)) d2
        have f0 := new_cell W #[.string P, .bool false, .string D] 31 0 _ rfl
        have f1 := new_cell W #[.string P, .bool false, .string D] 31 1 _ rfl
        have f2 := new_cell W #[.string P, .bool false, .string D] 31 2 _ rfl
        go_wp2
        go_ret
        exact ⟨rfl, by repeat (first | exact hb | refine Below.alloc ?_ (by have := hb.size; simp; try omega) _)⟩
      · obtain rfl := ss_one (hss.trans hl)
        obtain rfl : kn = 1 := hkn.symm
        obtain ⟨gp, gx, gd, gth, hgv, _⟩ := opt_one2 o2
        rw [hgv] at HG2
        obtain ⟨b5, off5, rfl, _, hc5⟩ := hsl (by simp)
        have s0 : _ = some (Value.string P) := hc5 0 P rfl
        rw [Nat.add_zero] at s0
        clear hl hg hss hc5 hsl hgv ho2
        replace c0 := keepc (bellow_alloc W (.cells #[.string P,.bool false,.string D] 31)) c0
        replace c1' := keepc (bellow_alloc W (.cells #[.string P,.bool false,.string D] 31)) c1'
        replace c2' := keepc (bellow_alloc W (.cells #[.string P,.bool false,.string D] 31)) c2'
        replace c3' := keepc (bellow_alloc W (.cells #[.string P,.bool false,.string D] 31)) c3'
        replace hR := hR.below (bellow_alloc W (.cells #[.string P,.bool false,.string D] 31))
        replace s0 := keepc (bellow_alloc W (.cells #[.string P,.bool false,.string D] 31)) s0
        have d0 := new_cell W #[.string P,.bool false,.string D] 31 0 _ rfl
        have d1 := new_cell W #[.string P,.bool false,.string D] 31 1 _ rfl
        have d2 := new_cell W #[.string P,.bool false,.string D] 31 2 _ rfl
        replace hb := hb.alloc hb.size (.cells #[.string P,.bool false,.string D] 31)
        go_wp2_with fail
        refine (HG2.out _ hR.sl).mono ?_; rintro e W ⟨rfl, hq⟩; replace hb := chn hb hq; replace s0 := keepc hq s0; replace c0 := keepc hq c0; replace c1' := keepc hq c1'; replace c3' := keepc hq c3'; replace d0 := keepc hq d0; replace d1 := keepc hq d1; replace d2 := keepc hq d2; clear hq
        replace s0 := keepc (bellow_alloc W (.cells #[.string gp, .bool gd, .string gx] 31)) s0
        replace c1' := keepc (bellow_alloc W (.cells #[.string gp, .bool gd, .string gx] 31)) c1'
        replace c3' := keepc (bellow_alloc W (.cells #[.string gp, .bool gd, .string gx] 31)) c3'
        replace d1 := keepc (bellow_alloc W (.cells #[.string gp, .bool gd, .string gx] 31)) d1
        replace d2 := keepc (bellow_alloc W (.cells #[.string gp, .bool gd, .string gx] 31)) d2
        replace hb := hb.alloc hb.size (.cells #[.string gp, .bool gd, .string gx] 31)
        clear c0 c2' d0
        go_wp2_with fail
        refine wp_region_held_drew (S := fun w' => Below _ _ w') (by kernel_rfl) (below_drew _) (fun hHeld => ?_)
        refine tk (i := 0) (d := (some 106)) (v := ?_) rfl rfl (by kernel_rfl) (by kernel_rfl) (by kernel_rfl) (fun _ _ _ h => h) (Or.inl ⟨by rfl, ?_⟩) hHeld ?_
        rotate_left
        · intro w hSw; have zs0 := keepc hSw s0; have zc1' := keepc hSw c1'; have zd1 := keepc hSw d1; have zd2 := keepc hSw d2; have zc3' := keepc hSw c3'; clear hSw; go_simp <;> with_reducible rfl
        (try simp only [Act.put, List.setIfInBounds_toArray, List.set_cons_zero, List.set_cons_succ])
        refine tk (i := 1) (d := (some 107)) (v := ?_) rfl rfl (by kernel_rfl) (by kernel_rfl) (by kernel_rfl) (fun _ _ _ h => h) (Or.inl ⟨by rfl, ?_⟩) hHeld ?_
        rotate_left
        · intro w hSw; have zs0 := keepc hSw s0; have zc1' := keepc hSw c1'; have zd1 := keepc hSw d1; have zd2 := keepc hSw d2; have zc3' := keepc hSw c3'; clear hSw; go_simp <;> with_reducible rfl
        (try simp only [Act.put, List.setIfInBounds_toArray, List.set_cons_zero, List.set_cons_succ])
        refine tk (i := 2) (d := (some 108)) (v := ?_) rfl rfl (by kernel_rfl) (by kernel_rfl) (by kernel_rfl) (fun _ _ _ h => h) (Or.inl ⟨by rfl, ?_⟩) hHeld ?_
        rotate_left
        · intro w hSw; have zs0 := keepc hSw s0; have zc1' := keepc hSw c1'; have zd1 := keepc hSw d1; have zd2 := keepc hSw d2; have zc3' := keepc hSw c3'; clear hSw; go_simp <;> with_reducible rfl
        (try simp only [Act.put, List.setIfInBounds_toArray, List.set_cons_zero, List.set_cons_succ])
        refine tk (i := 3) (d := (some 109)) (v := ?_) rfl rfl (by kernel_rfl) (by kernel_rfl) (by kernel_rfl) (fun _ _ _ h => h) (Or.inl ⟨by rfl, ?_⟩) hHeld ?_
        rotate_left
        · intro w hSw; have zs0 := keepc hSw s0; have zc1' := keepc hSw c1'; have zd1 := keepc hSw d1; have zd2 := keepc hSw d2; have zc3' := keepc hSw c3'; clear hSw; go_simp <;> with_reducible rfl
        (try simp only [Act.put, List.setIfInBounds_toArray, List.set_cons_zero, List.set_cons_succ])
        refine tk (i := 4) (d := (some 110)) (v := ?_) rfl rfl (by kernel_rfl) (by kernel_rfl) (by kernel_rfl) (fun _ _ _ h => h) (Or.inl ⟨by rfl, ?_⟩) hHeld ?_
        rotate_left
        · intro w hSw; have zs0 := keepc hSw s0; have zc1' := keepc hSw c1'; have zd1 := keepc hSw d1; have zd2 := keepc hSw d2; have zc3' := keepc hSw c3'; clear hSw; go_simp <;> with_reducible rfl
        (try simp only [Act.put, List.setIfInBounds_toArray, List.set_cons_zero, List.set_cons_succ])
        refine tk (i := 5) (d := (some 111)) (v := ?_) rfl rfl (by kernel_rfl) (by kernel_rfl) (by kernel_rfl) (fun _ _ _ h => h) (Or.inl ⟨by rfl, ?_⟩) hHeld ?_
        rotate_left
        · intro w hSw; have zs0 := keepc hSw s0; have zc1' := keepc hSw c1'; have zd1 := keepc hSw d1; have zd2 := keepc hSw d2; have zc3' := keepc hSw c3'; clear hSw; go_simp <;> with_reducible rfl
        (try simp only [Act.put, List.setIfInBounds_toArray, List.set_cons_zero, List.set_cons_succ])
        refine tk (i := 6) (d := (some 112)) (v := ?_) rfl rfl (by kernel_rfl) (by kernel_rfl) (by kernel_rfl) (fun _ _ _ h => h) (Or.inl ⟨by rfl, ?_⟩) hHeld ?_
        rotate_left
        · intro w hSw; have zs0 := keepc hSw s0; have zc1' := keepc hSw c1'; have zd1 := keepc hSw d1; have zd2 := keepc hSw d2; have zc3' := keepc hSw c3'; clear hSw; go_simp <;> with_reducible rfl
        (try simp only [Act.put, List.setIfInBounds_toArray, List.set_cons_zero, List.set_cons_succ])
        refine tk (i := 7) (d := (some 113)) (v := ?_) rfl rfl (by kernel_rfl) (by kernel_rfl) (by kernel_rfl) (fun _ _ _ h => h) (Or.inl ⟨by rfl, ?_⟩) hHeld ?_
        rotate_left
        · intro w hSw; have zs0 := keepc hSw s0; have zc1' := keepc hSw c1'; have zd1 := keepc hSw d1; have zd2 := keepc hSw d2; have zc3' := keepc hSw c3'; clear hSw; go_simp <;> with_reducible rfl
        (try simp only [Act.put, List.setIfInBounds_toArray, List.set_cons_zero, List.set_cons_succ])
        refine tk (i := 8) (d := (some 114)) (v := ?_) rfl rfl (by kernel_rfl) (by kernel_rfl) (by kernel_rfl) (fun _ _ _ h => h) (Or.inl ⟨by rfl, ?_⟩) hHeld ?_
        rotate_left
        · intro w hSw; have zs0 := keepc hSw s0; have zc1' := keepc hSw c1'; have zd1 := keepc hSw d1; have zd2 := keepc hSw d2; have zc3' := keepc hSw c3'; clear hSw; go_simp <;> with_reducible rfl
        (try simp only [Act.put, List.setIfInBounds_toArray, List.set_cons_zero, List.set_cons_succ])
        refine tk (i := 9) (d := (some 115)) (v := ?_) rfl rfl (by kernel_rfl) (by kernel_rfl) (by kernel_rfl) (fun _ _ _ h => h) (Or.inl ⟨by rfl, ?_⟩) hHeld ?_
        rotate_left
        · intro w hSw; have zs0 := keepc hSw s0; have zc1' := keepc hSw c1'; have zd1 := keepc hSw d1; have zd2 := keepc hSw d2; have zc3' := keepc hSw c3'; clear hSw; go_simp <;> with_reducible rfl
        (try simp only [Act.put, List.setIfInBounds_toArray, List.set_cons_zero, List.set_cons_succ])
        refine tk (i := 10) (d := (some 116)) (v := ?_) rfl rfl (by kernel_rfl) (by kernel_rfl) (by kernel_rfl) (fun _ _ _ h => h) (Or.inl ⟨by rfl, ?_⟩) hHeld ?_
        rotate_left
        · intro w hSw; have zs0 := keepc hSw s0; have zc1' := keepc hSw c1'; have zd1 := keepc hSw d1; have zd2 := keepc hSw d2; have zc3' := keepc hSw c3'; clear hSw; go_simp <;> with_reducible rfl
        (try simp only [Act.put, List.setIfInBounds_toArray, List.set_cons_zero, List.set_cons_succ])
        refine tk (i := 11) (d := (some 117)) (v := ?_) rfl rfl (by kernel_rfl) (by kernel_rfl) (by kernel_rfl) (fun _ _ _ h => h) (Or.inl ⟨by rfl, ?_⟩) hHeld ?_
        rotate_left
        · intro w hSw; have zs0 := keepc hSw s0; have zc1' := keepc hSw c1'; have zd1 := keepc hSw d1; have zd2 := keepc hSw d2; have zc3' := keepc hSw c3'; clear hSw; go_simp <;> with_reducible rfl
        (try simp only [Act.put, List.setIfInBounds_toArray, List.set_cons_zero, List.set_cons_succ])
        refine tk (i := 12) (d := (some 118)) (v := ?_) rfl rfl (by kernel_rfl) (by kernel_rfl) (by kernel_rfl) (fun _ _ _ h => h) (Or.inl ⟨by rfl, ?_⟩) hHeld ?_
        rotate_left
        · intro w hSw; have zs0 := keepc hSw s0; have zc1' := keepc hSw c1'; have zd1 := keepc hSw d1; have zd2 := keepc hSw d2; have zc3' := keepc hSw c3'; clear hSw; go_simp <;> with_reducible rfl
        (try simp only [Act.put, List.setIfInBounds_toArray, List.set_cons_zero, List.set_cons_succ])
        refine tk (i := 13) (d := (some 119)) (v := ?_) rfl rfl (by kernel_rfl) (by kernel_rfl) (by kernel_rfl) (fun _ _ _ h => h) (Or.inl ⟨by rfl, ?_⟩) hHeld ?_
        rotate_left
        · intro w hSw; have zs0 := keepc hSw s0; have zc1' := keepc hSw c1'; have zd1 := keepc hSw d1; have zd2 := keepc hSw d2; have zc3' := keepc hSw c3'; clear hSw; go_simp <;> with_reducible rfl
        (try simp only [Act.put, List.setIfInBounds_toArray, List.set_cons_zero, List.set_cons_succ])
        refine tk (i := 14) (d := (some 120)) (v := ?_) rfl rfl (by kernel_rfl) (by kernel_rfl) (by kernel_rfl) (fun _ _ _ h => h) (Or.inl ⟨by rfl, ?_⟩) hHeld ?_
        rotate_left
        · intro w hSw; have zs0 := keepc hSw s0; have zc1' := keepc hSw c1'; have zd1 := keepc hSw d1; have zd2 := keepc hSw d2; have zc3' := keepc hSw c3'; clear hSw; go_simp <;> with_reducible rfl
        (try simp only [Act.put, List.setIfInBounds_toArray, List.set_cons_zero, List.set_cons_succ])
        refine tk (i := 15) (d := (some 121)) (v := ?_) rfl rfl (by kernel_rfl) (by kernel_rfl) (by kernel_rfl) (fun _ _ _ h => h) (Or.inl ⟨by rfl, ?_⟩) hHeld ?_
        rotate_left
        · intro w hSw; have zs0 := keepc hSw s0; have zc1' := keepc hSw c1'; have zd1 := keepc hSw d1; have zd2 := keepc hSw d2; have zc3' := keepc hSw c3'; clear hSw; go_simp <;> with_reducible rfl
        (try simp only [Act.put, List.setIfInBounds_toArray, List.set_cons_zero, List.set_cons_succ])
        refine tk (i := 16) (d := (some 122)) (v := ?_) rfl rfl (by kernel_rfl) (by kernel_rfl) (by kernel_rfl) (fun _ _ _ h => h) (Or.inl ⟨by rfl, ?_⟩) hHeld ?_
        rotate_left
        · intro w hSw; have zs0 := keepc hSw s0; have zc1' := keepc hSw c1'; have zd1 := keepc hSw d1; have zd2 := keepc hSw d2; have zc3' := keepc hSw c3'; clear hSw; go_simp <;> with_reducible rfl
        (try simp only [Act.put, List.setIfInBounds_toArray, List.set_cons_zero, List.set_cons_succ])
        refine tk (i := 17) (d := (some 123)) (v := ?_) rfl rfl (by kernel_rfl) (by kernel_rfl) (by kernel_rfl) (fun _ _ _ h => h) (Or.inl ⟨by rfl, ?_⟩) hHeld ?_
        rotate_left
        · intro w hSw; have zs0 := keepc hSw s0; have zc1' := keepc hSw c1'; have zd1 := keepc hSw d1; have zd2 := keepc hSw d2; have zc3' := keepc hSw c3'; clear hSw; go_simp <;> with_reducible rfl
        (try simp only [Act.put, List.setIfInBounds_toArray, List.set_cons_zero, List.set_cons_succ])
        refine tk (i := 18) (d := (some 124)) (v := ?_) rfl rfl (by kernel_rfl) (by kernel_rfl) (by kernel_rfl) (fun _ _ _ h => h) (Or.inl ⟨by rfl, ?_⟩) hHeld ?_
        rotate_left
        · intro w hSw; have zs0 := keepc hSw s0; have zc1' := keepc hSw c1'; have zd1 := keepc hSw d1; have zd2 := keepc hSw d2; have zc3' := keepc hSw c3'; clear hSw; go_simp <;> with_reducible rfl
        (try simp only [Act.put, List.setIfInBounds_toArray, List.set_cons_zero, List.set_cons_succ])
        refine tk (i := 19) (d := (some 125)) (v := ?_) rfl rfl (by kernel_rfl) (by kernel_rfl) (by kernel_rfl) (fun _ _ _ h => h) (Or.inl ⟨by rfl, ?_⟩) hHeld ?_
        rotate_left
        · intro w hSw; have zs0 := keepc hSw s0; have zc1' := keepc hSw c1'; have zd1 := keepc hSw d1; have zd2 := keepc hSw d2; have zc3' := keepc hSw c3'; clear hSw; go_simp <;> with_reducible rfl
        (try simp only [Act.put, List.setIfInBounds_toArray, List.set_cons_zero, List.set_cons_succ])
        refine tk (i := 20) (d := (some 126)) (v := ?_) rfl rfl (by kernel_rfl) (by kernel_rfl) (by kernel_rfl) (fun _ _ _ h => h) (Or.inl ⟨by rfl, ?_⟩) hHeld ?_
        rotate_left
        · intro w hSw; have zs0 := keepc hSw s0; have zc1' := keepc hSw c1'; have zd1 := keepc hSw d1; have zd2 := keepc hSw d2; have zc3' := keepc hSw c3'; clear hSw; go_simp <;> with_reducible rfl
        (try simp only [Act.put, List.setIfInBounds_toArray, List.set_cons_zero, List.set_cons_succ])
        refine tk (i := 21) (d := (some 127)) (v := ?_) rfl rfl (by kernel_rfl) (by kernel_rfl) (by kernel_rfl) (fun _ _ _ h => h) (Or.inl ⟨by rfl, ?_⟩) hHeld ?_
        rotate_left
        · intro w hSw; have zs0 := keepc hSw s0; have zc1' := keepc hSw c1'; have zd1 := keepc hSw d1; have zd2 := keepc hSw d2; have zc3' := keepc hSw c3'; clear hSw; go_simp <;> with_reducible rfl
        (try simp only [Act.put, List.setIfInBounds_toArray, List.set_cons_zero, List.set_cons_succ])
        refine tk (i := 22) (d := (some 128)) (v := ?_) rfl rfl (by kernel_rfl) (by kernel_rfl) (by kernel_rfl) (fun _ _ _ h => h) (Or.inl ⟨by rfl, ?_⟩) hHeld ?_
        rotate_left
        · intro w hSw; have zs0 := keepc hSw s0; have zc1' := keepc hSw c1'; have zd1 := keepc hSw d1; have zd2 := keepc hSw d2; have zc3' := keepc hSw c3'; clear hSw; go_simp <;> with_reducible rfl
        (try simp only [Act.put, List.setIfInBounds_toArray, List.set_cons_zero, List.set_cons_succ])
        refine tk (i := 23) (d := (some 129)) (v := ?_) rfl rfl (by kernel_rfl) (by kernel_rfl) (by kernel_rfl) (fun _ _ _ h => h) (Or.inl ⟨by rfl, ?_⟩) hHeld ?_
        rotate_left
        · intro w hSw; have zs0 := keepc hSw s0; have zc1' := keepc hSw c1'; have zd1 := keepc hSw d1; have zd2 := keepc hSw d2; have zc3' := keepc hSw c3'; clear hSw; go_simp <;> with_reducible rfl
        (try simp only [Act.put, List.setIfInBounds_toArray, List.set_cons_zero, List.set_cons_succ])
        refine tk (i := 24) (d := (some 130)) (v := ?_) rfl rfl (by kernel_rfl) (by kernel_rfl) (by kernel_rfl) (fun _ _ _ h => h) (Or.inl ⟨by rfl, ?_⟩) hHeld ?_
        rotate_left
        · intro w hSw; have zs0 := keepc hSw s0; have zc1' := keepc hSw c1'; have zd1 := keepc hSw d1; have zd2 := keepc hSw d2; have zc3' := keepc hSw c3'; clear hSw; go_simp <;> with_reducible rfl
        (try simp only [Act.put, List.setIfInBounds_toArray, List.set_cons_zero, List.set_cons_succ])
        refine tk (i := 25) (d := (some 131)) (v := ?_) rfl rfl (by kernel_rfl) (by kernel_rfl) (by kernel_rfl) (fun _ _ _ h => h) (Or.inl ⟨by rfl, ?_⟩) hHeld ?_
        rotate_left
        · intro w hSw; have zs0 := keepc hSw s0; have zc1' := keepc hSw c1'; have zd1 := keepc hSw d1; have zd2 := keepc hSw d2; have zc3' := keepc hSw c3'; clear hSw; go_simp <;> with_reducible rfl
        (try simp only [Act.put, List.setIfInBounds_toArray, List.set_cons_zero, List.set_cons_succ])
        refine tk (i := 26) (d := (some 2)) (v := ?_) rfl rfl (by kernel_rfl) (by kernel_rfl) (by kernel_rfl) (fun _ _ _ h => h) (Or.inl ⟨by rfl, ?_⟩) hHeld ?_
        rotate_left
        · intro w hSw; have zs0 := keepc hSw s0; have zc1' := keepc hSw c1'; have zd1 := keepc hSw d1; have zd2 := keepc hSw d2; have zc3' := keepc hSw c3'; clear hSw; go_simp <;> with_reducible rfl
        (try simp only [Act.put, List.setIfInBounds_toArray, List.set_cons_zero, List.set_cons_succ])
        refine wpAnyH_done (by kernel_rfl) ?_ _
        replace hb := chn hb hHeld; clear hHeld
        go_wp2
        go_ret
        exact ⟨rfl, hb⟩
    · skip
      obtain ⟨hl, hg⟩ := turn_3 (.inl rfl) HC.out HMS.out
      obtain rfl := HO.out.symm.trans hg
      obtain rfl := ss_one (hss.trans hl)
      obtain rfl : kn = 1 := hkn.symm
      obtain ⟨b5, off5, rfl, _, hc5⟩ := hsl (by simp)
      have s0 : _ = some (Value.string P) := hc5 0 P rfl
      rw [Nat.add_zero] at s0
      clear hl hg hss hc5 hsl
      replace c0 := keepc (bellow_alloc W (.cells #[.string ⟨#[]⟩,.bool false,.string ⟨#[]⟩] 31)) c0
      replace c1' := keepc (bellow_alloc W (.cells #[.string ⟨#[]⟩,.bool false,.string ⟨#[]⟩] 31)) c1'
      replace c2' := keepc (bellow_alloc W (.cells #[.string ⟨#[]⟩,.bool false,.string ⟨#[]⟩] 31)) c2'
      replace c3' := keepc (bellow_alloc W (.cells #[.string ⟨#[]⟩,.bool false,.string ⟨#[]⟩] 31)) c3'
      replace hR := hR.below (bellow_alloc W (.cells #[.string ⟨#[]⟩,.bool false,.string ⟨#[]⟩] 31))
      replace s0 := keepc (bellow_alloc W (.cells #[.string ⟨#[]⟩,.bool false,.string ⟨#[]⟩] 31)) s0
      have d0 := new_cell W #[.string ⟨#[]⟩,.bool false,.string ⟨#[]⟩] 31 0 _ rfl
      have d1 := new_cell W #[.string ⟨#[]⟩,.bool false,.string ⟨#[]⟩] 31 1 _ rfl
      have d2 := new_cell W #[.string ⟨#[]⟩,.bool false,.string ⟨#[]⟩] 31 2 _ rfl
      replace hb := hb.alloc hb.size (.cells #[.string ⟨#[]⟩,.bool false,.string ⟨#[]⟩] 31)
      clear d0 d1 d2
      go_wp2_with fail
      refine wp_region_held_drew (S := fun w' => Below _ _ w') (by kernel_rfl) (below_drew _) (fun hHeld => ?_)
      refine tk (i := 0) (d := (some 135)) (v := ?_) rfl rfl (by kernel_rfl) (by kernel_rfl) (by kernel_rfl) (fun _ _ _ h => h) (Or.inl ⟨by rfl, ?_⟩) hHeld ?_
      rotate_left
      · intro w hSw; have zs0 := keepc hSw s0; have zc1' := keepc hSw c1'; clear hSw; go_simp <;> with_reducible rfl
      (try simp only [Act.put, List.setIfInBounds_toArray, List.set_cons_zero, List.set_cons_succ])
      refine tk (i := 1) (d := (some 136)) (v := ?_) rfl rfl (by kernel_rfl) (by kernel_rfl) (by kernel_rfl) (fun _ _ _ h => h) (Or.inl ⟨by rfl, ?_⟩) hHeld ?_
      rotate_left
      · intro w hSw; have zs0 := keepc hSw s0; have zc1' := keepc hSw c1'; clear hSw; go_simp <;> with_reducible rfl
      (try simp only [Act.put, List.setIfInBounds_toArray, List.set_cons_zero, List.set_cons_succ])
      refine tk (i := 2) (d := (some 137)) (v := ?_) rfl rfl (by kernel_rfl) (by kernel_rfl) (by kernel_rfl) (fun _ _ _ h => h) (Or.inl ⟨by rfl, ?_⟩) hHeld ?_
      rotate_left
      · intro w hSw; have zs0 := keepc hSw s0; have zc1' := keepc hSw c1'; clear hSw; go_simp <;> with_reducible rfl
      (try simp only [Act.put, List.setIfInBounds_toArray, List.set_cons_zero, List.set_cons_succ])
      refine tk (i := 3) (d := (some 138)) (v := ?_) rfl rfl (by kernel_rfl) (by kernel_rfl) (by kernel_rfl) (fun _ _ _ h => h) (Or.inl ⟨by rfl, ?_⟩) hHeld ?_
      rotate_left
      · intro w hSw; have zs0 := keepc hSw s0; have zc1' := keepc hSw c1'; clear hSw; go_simp <;> with_reducible rfl
      (try simp only [Act.put, List.setIfInBounds_toArray, List.set_cons_zero, List.set_cons_succ])
      refine tk (i := 4) (d := (some 139)) (v := ?_) rfl rfl (by kernel_rfl) (by kernel_rfl) (by kernel_rfl) (fun _ _ _ h => h) (Or.inl ⟨by rfl, ?_⟩) hHeld ?_
      rotate_left
      · intro w hSw; have zs0 := keepc hSw s0; have zc1' := keepc hSw c1'; clear hSw; go_simp <;> with_reducible rfl
      (try simp only [Act.put, List.setIfInBounds_toArray, List.set_cons_zero, List.set_cons_succ])
      refine tk (i := 5) (d := (some 140)) (v := ?_) rfl rfl (by kernel_rfl) (by kernel_rfl) (by kernel_rfl) (fun _ _ _ h => h) (Or.inl ⟨by rfl, ?_⟩) hHeld ?_
      rotate_left
      · intro w hSw; have zs0 := keepc hSw s0; have zc1' := keepc hSw c1'; clear hSw; go_simp <;> with_reducible rfl
      (try simp only [Act.put, List.setIfInBounds_toArray, List.set_cons_zero, List.set_cons_succ])
      refine tk (i := 6) (d := (some 141)) (v := ?_) rfl rfl (by kernel_rfl) (by kernel_rfl) (by kernel_rfl) (fun _ _ _ h => h) (Or.inl ⟨by rfl, ?_⟩) hHeld ?_
      rotate_left
      · intro w hSw; have zs0 := keepc hSw s0; have zc1' := keepc hSw c1'; clear hSw; go_simp <;> with_reducible rfl
      (try simp only [Act.put, List.setIfInBounds_toArray, List.set_cons_zero, List.set_cons_succ])
      refine tk (i := 7) (d := (some 142)) (v := ?_) rfl rfl (by kernel_rfl) (by kernel_rfl) (by kernel_rfl) (fun _ _ _ h => h) (Or.inl ⟨by rfl, ?_⟩) hHeld ?_
      rotate_left
      · intro w hSw; have zs0 := keepc hSw s0; have zc1' := keepc hSw c1'; clear hSw; go_simp <;> with_reducible rfl
      (try simp only [Act.put, List.setIfInBounds_toArray, List.set_cons_zero, List.set_cons_succ])
      refine tk (i := 8) (d := (some 143)) (v := ?_) rfl rfl (by kernel_rfl) (by kernel_rfl) (by kernel_rfl) (fun _ _ _ h => h) (Or.inl ⟨by rfl, ?_⟩) hHeld ?_
      rotate_left
      · intro w hSw; have zs0 := keepc hSw s0; have zc1' := keepc hSw c1'; clear hSw; go_simp <;> with_reducible rfl
      (try simp only [Act.put, List.setIfInBounds_toArray, List.set_cons_zero, List.set_cons_succ])
      refine tk (i := 9) (d := (some 144)) (v := ?_) rfl rfl (by kernel_rfl) (by kernel_rfl) (by kernel_rfl) (fun _ _ _ h => h) (Or.inl ⟨by rfl, ?_⟩) hHeld ?_
      rotate_left
      · intro w hSw; have zs0 := keepc hSw s0; have zc1' := keepc hSw c1'; clear hSw; go_simp <;> with_reducible rfl
      (try simp only [Act.put, List.setIfInBounds_toArray, List.set_cons_zero, List.set_cons_succ])
      refine tk (i := 10) (d := (some 145)) (v := ?_) rfl rfl (by kernel_rfl) (by kernel_rfl) (by kernel_rfl) (fun _ _ _ h => h) (Or.inl ⟨by rfl, ?_⟩) hHeld ?_
      rotate_left
      · intro w hSw; have zs0 := keepc hSw s0; have zc1' := keepc hSw c1'; clear hSw; go_simp <;> with_reducible rfl
      (try simp only [Act.put, List.setIfInBounds_toArray, List.set_cons_zero, List.set_cons_succ])
      refine tk (i := 11) (d := (some 146)) (v := ?_) rfl rfl (by kernel_rfl) (by kernel_rfl) (by kernel_rfl) (fun _ _ _ h => h) (Or.inl ⟨by rfl, ?_⟩) hHeld ?_
      rotate_left
      · intro w hSw; have zs0 := keepc hSw s0; have zc1' := keepc hSw c1'; clear hSw; go_simp <;> with_reducible rfl
      (try simp only [Act.put, List.setIfInBounds_toArray, List.set_cons_zero, List.set_cons_succ])
      refine tk (i := 12) (d := (some 147)) (v := ?_) rfl rfl (by kernel_rfl) (by kernel_rfl) (by kernel_rfl) (fun _ _ _ h => h) (Or.inl ⟨by rfl, ?_⟩) hHeld ?_
      rotate_left
      · intro w hSw; have zs0 := keepc hSw s0; have zc1' := keepc hSw c1'; clear hSw; go_simp <;> with_reducible rfl
      (try simp only [Act.put, List.setIfInBounds_toArray, List.set_cons_zero, List.set_cons_succ])
      refine tk (i := 13) (d := (some 148)) (v := ?_) rfl rfl (by kernel_rfl) (by kernel_rfl) (by kernel_rfl) (fun _ _ _ h => h) (Or.inl ⟨by rfl, ?_⟩) hHeld ?_
      rotate_left
      · intro w hSw; have zs0 := keepc hSw s0; have zc1' := keepc hSw c1'; clear hSw; go_simp <;> with_reducible rfl
      (try simp only [Act.put, List.setIfInBounds_toArray, List.set_cons_zero, List.set_cons_succ])
      refine tk (i := 14) (d := (some 149)) (v := ?_) rfl rfl (by kernel_rfl) (by kernel_rfl) (by kernel_rfl) (fun _ _ _ h => h) (Or.inl ⟨by rfl, ?_⟩) hHeld ?_
      rotate_left
      · intro w hSw; have zs0 := keepc hSw s0; have zc1' := keepc hSw c1'; clear hSw; go_simp <;> with_reducible rfl
      (try simp only [Act.put, List.setIfInBounds_toArray, List.set_cons_zero, List.set_cons_succ])
      refine tk (i := 15) (d := (some 2)) (v := ?_) rfl rfl (by kernel_rfl) (by kernel_rfl) (by kernel_rfl) (fun _ _ _ h => h) (Or.inl ⟨by rfl, ?_⟩) hHeld ?_
      rotate_left
      · intro w hSw; have zs0 := keepc hSw s0; have zc1' := keepc hSw c1'; clear hSw; go_simp <;> with_reducible rfl
      (try simp only [Act.put, List.setIfInBounds_toArray, List.set_cons_zero, List.set_cons_succ])
      refine wpAnyH_done (by kernel_rfl) ?_ _
      replace hb := chn hb hHeld; clear hHeld
      go_wp2
      go_ret
      exact ⟨rfl, hb⟩
    · skip
      obtain ⟨hl, hg⟩ := turn_3 (.inr rfl) HC.out HMS.out
      obtain rfl := HO.out.symm.trans hg
      obtain rfl := ss_one (hss.trans hl)
      obtain rfl : kn = 1 := hkn.symm
      obtain ⟨b5, off5, rfl, _, hc5⟩ := hsl (by simp)
      have s0 : _ = some (Value.string P) := hc5 0 P rfl
      rw [Nat.add_zero] at s0
      clear hl hg hss hc5 hsl
      replace c0 := keepc (bellow_alloc W (.cells #[.string ⟨#[]⟩,.bool false,.string ⟨#[]⟩] 31)) c0
      replace c1' := keepc (bellow_alloc W (.cells #[.string ⟨#[]⟩,.bool false,.string ⟨#[]⟩] 31)) c1'
      replace c2' := keepc (bellow_alloc W (.cells #[.string ⟨#[]⟩,.bool false,.string ⟨#[]⟩] 31)) c2'
      replace c3' := keepc (bellow_alloc W (.cells #[.string ⟨#[]⟩,.bool false,.string ⟨#[]⟩] 31)) c3'
      replace hR := hR.below (bellow_alloc W (.cells #[.string ⟨#[]⟩,.bool false,.string ⟨#[]⟩] 31))
      replace s0 := keepc (bellow_alloc W (.cells #[.string ⟨#[]⟩,.bool false,.string ⟨#[]⟩] 31)) s0
      have d0 := new_cell W #[.string ⟨#[]⟩,.bool false,.string ⟨#[]⟩] 31 0 _ rfl
      have d1 := new_cell W #[.string ⟨#[]⟩,.bool false,.string ⟨#[]⟩] 31 1 _ rfl
      have d2 := new_cell W #[.string ⟨#[]⟩,.bool false,.string ⟨#[]⟩] 31 2 _ rfl
      replace hb := hb.alloc hb.size (.cells #[.string ⟨#[]⟩,.bool false,.string ⟨#[]⟩] 31)
      clear d0 d1 d2
      go_wp2_with fail
      refine wp_region_held_drew (S := fun w' => Below _ _ w') (by kernel_rfl) (below_drew _) (fun hHeld => ?_)
      refine tk (i := 0) (d := (some 135)) (v := ?_) rfl rfl (by kernel_rfl) (by kernel_rfl) (by kernel_rfl) (fun _ _ _ h => h) (Or.inl ⟨by rfl, ?_⟩) hHeld ?_
      rotate_left
      · intro w hSw; have zs0 := keepc hSw s0; have zc1' := keepc hSw c1'; clear hSw; go_simp <;> with_reducible rfl
      (try simp only [Act.put, List.setIfInBounds_toArray, List.set_cons_zero, List.set_cons_succ])
      refine tk (i := 1) (d := (some 136)) (v := ?_) rfl rfl (by kernel_rfl) (by kernel_rfl) (by kernel_rfl) (fun _ _ _ h => h) (Or.inl ⟨by rfl, ?_⟩) hHeld ?_
      rotate_left
      · intro w hSw; have zs0 := keepc hSw s0; have zc1' := keepc hSw c1'; clear hSw; go_simp <;> with_reducible rfl
      (try simp only [Act.put, List.setIfInBounds_toArray, List.set_cons_zero, List.set_cons_succ])
      refine tk (i := 2) (d := (some 137)) (v := ?_) rfl rfl (by kernel_rfl) (by kernel_rfl) (by kernel_rfl) (fun _ _ _ h => h) (Or.inl ⟨by rfl, ?_⟩) hHeld ?_
      rotate_left
      · intro w hSw; have zs0 := keepc hSw s0; have zc1' := keepc hSw c1'; clear hSw; go_simp <;> with_reducible rfl
      (try simp only [Act.put, List.setIfInBounds_toArray, List.set_cons_zero, List.set_cons_succ])
      refine tk (i := 3) (d := (some 138)) (v := ?_) rfl rfl (by kernel_rfl) (by kernel_rfl) (by kernel_rfl) (fun _ _ _ h => h) (Or.inl ⟨by rfl, ?_⟩) hHeld ?_
      rotate_left
      · intro w hSw; have zs0 := keepc hSw s0; have zc1' := keepc hSw c1'; clear hSw; go_simp <;> with_reducible rfl
      (try simp only [Act.put, List.setIfInBounds_toArray, List.set_cons_zero, List.set_cons_succ])
      refine tk (i := 4) (d := (some 139)) (v := ?_) rfl rfl (by kernel_rfl) (by kernel_rfl) (by kernel_rfl) (fun _ _ _ h => h) (Or.inl ⟨by rfl, ?_⟩) hHeld ?_
      rotate_left
      · intro w hSw; have zs0 := keepc hSw s0; have zc1' := keepc hSw c1'; clear hSw; go_simp <;> with_reducible rfl
      (try simp only [Act.put, List.setIfInBounds_toArray, List.set_cons_zero, List.set_cons_succ])
      refine tk (i := 5) (d := (some 140)) (v := ?_) rfl rfl (by kernel_rfl) (by kernel_rfl) (by kernel_rfl) (fun _ _ _ h => h) (Or.inl ⟨by rfl, ?_⟩) hHeld ?_
      rotate_left
      · intro w hSw; have zs0 := keepc hSw s0; have zc1' := keepc hSw c1'; clear hSw; go_simp <;> with_reducible rfl
      (try simp only [Act.put, List.setIfInBounds_toArray, List.set_cons_zero, List.set_cons_succ])
      refine tk (i := 6) (d := (some 141)) (v := ?_) rfl rfl (by kernel_rfl) (by kernel_rfl) (by kernel_rfl) (fun _ _ _ h => h) (Or.inl ⟨by rfl, ?_⟩) hHeld ?_
      rotate_left
      · intro w hSw; have zs0 := keepc hSw s0; have zc1' := keepc hSw c1'; clear hSw; go_simp <;> with_reducible rfl
      (try simp only [Act.put, List.setIfInBounds_toArray, List.set_cons_zero, List.set_cons_succ])
      refine tk (i := 7) (d := (some 142)) (v := ?_) rfl rfl (by kernel_rfl) (by kernel_rfl) (by kernel_rfl) (fun _ _ _ h => h) (Or.inl ⟨by rfl, ?_⟩) hHeld ?_
      rotate_left
      · intro w hSw; have zs0 := keepc hSw s0; have zc1' := keepc hSw c1'; clear hSw; go_simp <;> with_reducible rfl
      (try simp only [Act.put, List.setIfInBounds_toArray, List.set_cons_zero, List.set_cons_succ])
      refine tk (i := 8) (d := (some 143)) (v := ?_) rfl rfl (by kernel_rfl) (by kernel_rfl) (by kernel_rfl) (fun _ _ _ h => h) (Or.inl ⟨by rfl, ?_⟩) hHeld ?_
      rotate_left
      · intro w hSw; have zs0 := keepc hSw s0; have zc1' := keepc hSw c1'; clear hSw; go_simp <;> with_reducible rfl
      (try simp only [Act.put, List.setIfInBounds_toArray, List.set_cons_zero, List.set_cons_succ])
      refine tk (i := 9) (d := (some 144)) (v := ?_) rfl rfl (by kernel_rfl) (by kernel_rfl) (by kernel_rfl) (fun _ _ _ h => h) (Or.inl ⟨by rfl, ?_⟩) hHeld ?_
      rotate_left
      · intro w hSw; have zs0 := keepc hSw s0; have zc1' := keepc hSw c1'; clear hSw; go_simp <;> with_reducible rfl
      (try simp only [Act.put, List.setIfInBounds_toArray, List.set_cons_zero, List.set_cons_succ])
      refine tk (i := 10) (d := (some 145)) (v := ?_) rfl rfl (by kernel_rfl) (by kernel_rfl) (by kernel_rfl) (fun _ _ _ h => h) (Or.inl ⟨by rfl, ?_⟩) hHeld ?_
      rotate_left
      · intro w hSw; have zs0 := keepc hSw s0; have zc1' := keepc hSw c1'; clear hSw; go_simp <;> with_reducible rfl
      (try simp only [Act.put, List.setIfInBounds_toArray, List.set_cons_zero, List.set_cons_succ])
      refine tk (i := 11) (d := (some 146)) (v := ?_) rfl rfl (by kernel_rfl) (by kernel_rfl) (by kernel_rfl) (fun _ _ _ h => h) (Or.inl ⟨by rfl, ?_⟩) hHeld ?_
      rotate_left
      · intro w hSw; have zs0 := keepc hSw s0; have zc1' := keepc hSw c1'; clear hSw; go_simp <;> with_reducible rfl
      (try simp only [Act.put, List.setIfInBounds_toArray, List.set_cons_zero, List.set_cons_succ])
      refine tk (i := 12) (d := (some 147)) (v := ?_) rfl rfl (by kernel_rfl) (by kernel_rfl) (by kernel_rfl) (fun _ _ _ h => h) (Or.inl ⟨by rfl, ?_⟩) hHeld ?_
      rotate_left
      · intro w hSw; have zs0 := keepc hSw s0; have zc1' := keepc hSw c1'; clear hSw; go_simp <;> with_reducible rfl
      (try simp only [Act.put, List.setIfInBounds_toArray, List.set_cons_zero, List.set_cons_succ])
      refine tk (i := 13) (d := (some 148)) (v := ?_) rfl rfl (by kernel_rfl) (by kernel_rfl) (by kernel_rfl) (fun _ _ _ h => h) (Or.inl ⟨by rfl, ?_⟩) hHeld ?_
      rotate_left
      · intro w hSw; have zs0 := keepc hSw s0; have zc1' := keepc hSw c1'; clear hSw; go_simp <;> with_reducible rfl
      (try simp only [Act.put, List.setIfInBounds_toArray, List.set_cons_zero, List.set_cons_succ])
      refine tk (i := 14) (d := (some 149)) (v := ?_) rfl rfl (by kernel_rfl) (by kernel_rfl) (by kernel_rfl) (fun _ _ _ h => h) (Or.inl ⟨by rfl, ?_⟩) hHeld ?_
      rotate_left
      · intro w hSw; have zs0 := keepc hSw s0; have zc1' := keepc hSw c1'; clear hSw; go_simp <;> with_reducible rfl
      (try simp only [Act.put, List.setIfInBounds_toArray, List.set_cons_zero, List.set_cons_succ])
      refine tk (i := 15) (d := (some 2)) (v := ?_) rfl rfl (by kernel_rfl) (by kernel_rfl) (by kernel_rfl) (fun _ _ _ h => h) (Or.inl ⟨by rfl, ?_⟩) hHeld ?_
      rotate_left
      · intro w hSw; have zs0 := keepc hSw s0; have zc1' := keepc hSw c1'; clear hSw; go_simp <;> with_reducible rfl
      (try simp only [Act.put, List.setIfInBounds_toArray, List.set_cons_zero, List.set_cons_succ])
      refine wpAnyH_done (by kernel_rfl) ?_ _
      replace hb := chn hb hHeld; clear hHeld
      go_wp2
      go_ret
      exact ⟨rfl, hb⟩
    · obtain ⟨hl, hg, hlen, hkb⟩ := turn_5 HC.out HMS.out
      rw [← hss, List.length_map] at hkb
      obtain rfl := HO.out.symm.trans hg
      rw [← hss] at hl
      obtain rfl : n3 = n1 := by have h1 := HN1.out; have h2 := HN2.out; omega
      have hkb2 : kn ≤ 200 := by have h1 := HN1.out; have h2 := HN2.out; omega
      have HSS := Lib.hid hl
      have HKN := Lib.hid hkn
      clear hl hg hss hlen hkn hkb
      replace c1' := keepc (bellow_alloc W (.cells #[.string ⟨#[]⟩, .bool false, .string ⟨#[]⟩] 31)) c1'
      replace c2' := keepc (bellow_alloc W (.cells #[.string ⟨#[]⟩, .bool false, .string ⟨#[]⟩] 31)) c2'
      replace c0 := keepc (bellow_alloc W (.cells #[.string ⟨#[]⟩, .bool false, .string ⟨#[]⟩] 31)) c0
      replace hsl := hsl.below (bellow_alloc W (.cells #[.string ⟨#[]⟩, .bool false, .string ⟨#[]⟩] 31))
      replace hb := hb.alloc hb.size (.cells #[.string ⟨#[]⟩, .bool false, .string ⟨#[]⟩] 31)
      obtain ⟨w0, hw0⟩ : ∃ w0, W.alloc (.cells #[.string ⟨#[]⟩, .bool false, .string ⟨#[]⟩] 31) = w0 := ⟨_, rfl⟩
      have HSL := Lib.hid (hw0 ▸ hsl : SlS w0 a5 ss)
      have HB0 := Lib.hid (hw0 ▸ hb : Below w.heap.size w w0)
      have C1 := Lib.hid (hw0 ▸ c1' : w0.cell? ⟨W1.heap.size, 1, none⟩ = some (opBox 5 P T D)[1])
      have C2 := Lib.hid (hw0 ▸ c2' : w0.cell? ⟨W1.heap.size, 2, none⟩ = some (opBox 5 P T D)[2])
      have HW0 := Lib.hid hw0
      clear c1' c2' c3' hb hsl hR hw0
      go_wp2
      rw [HW0.out]
      clear c0 HW0
      go_loopw [14] (fun i wr => ∃ j : Nat, j ≤ kn ∧ i = .int .i64 j ∧ Below w0.heap.size w0 wr) (fun i _ => kn - (intOf i).toNat)
      case atStart => exact ⟨0, Nat.zero_le _, rfl, Below.refl _ _⟩
      case round =>
        obtain ⟨j, hj, rfl, hb⟩ := hrel
        have k1c := keepc hb C1.out
        have k2c := keepc hb C2.out
        by_cases hlt : j < kn
        · obtain ⟨s, hs⟩ : ∃ s, ss[j]? = some s := ⟨_, List.getElem?_eq_getElem (by rw [HKN.out]; exact hlt)⟩
          obtain ⟨hsz, hsm⟩ := HSS.out s.data.toList (List.mem_map_of_mem (List.mem_of_getElem? hs))
          rw [size_data] at hsz
          obtain ⟨b, off, rfl, _, hcs⟩ := (HSL.out.below hb) (by rw [HKN.out]; omega)
          have d0 := hcs j s hs
          have i0 : (0 : Int) ≤ (j : Int) := by omega
          have i1 : (j : Int) < (kn : Int) := by omega
          have HU1 := Lib.hid (fun W => pathUnder_c s P (underL s.data.toList P.data.toList) (Lib.hid rfl) W (by omega) (by omega))
          have HU2 := Lib.hid (fun W => pathUnder_c s T (underL s.data.toList T.data.toList) (Lib.hid rfl) W (by omega) (by omega))
          clear hs hcs
          by_cases e1 : s = P
          · subst e1
            go_wp2
            go_roundw
            case rel => exact ⟨j + 1, by omega, by go_num, by first | exact hb | exact drw hb _⟩
            case measure => simp [intOf]; omega
          · have n1 := beqs_no (fun h => e1 (bytes_eq h))
            by_cases e2 : s = T
            · subst e2
              clear e1
              go_wp2
              go_roundw
              case rel => exact ⟨j + 1, by omega, by go_num, by first | exact hb | exact drw hb _⟩
              case measure => simp [intOf]; omega
            · have n2 := beqs_no (fun h => e2 (bytes_eq h))
              have hun : underL s.data.toList P.data.toList = true ∨ underL s.data.toList T.data.toList = true := by
                rcases hsm with h | h | h
                · exact absurd (bytes_eq h) e1
                · exact absurd (bytes_eq h) e2
                · exact h
              clear e1 e2 hsm
              cases hu1 : underL s.data.toList P.data.toList with
              | true =>
                rw [hu1] at HU1
                clear hun hu1
                go_wp2_with fail
                refine (HU1.out _).mono ?_; rintro e W ⟨rfl, hq⟩; replace hb := chn hb hq; clear hq
                go_wp2
                go_roundw
                case rel => exact ⟨j + 1, by omega, by go_num, by first | exact hb | exact drw hb _⟩
                case measure => simp [intOf]; omega
              | false =>
                rw [hu1] at HU1 hun
                have hu2 := hun.resolve_left (by simp)
                rw [hu2] at HU2
                clear hun hu1 hu2
                go_wp2_with fail
                refine (HU1.out _).mono ?_; rintro e W ⟨rfl, hq⟩; replace hb := chn hb hq; replace k2c := keepc hq k2c; clear hq
                go_wp2_with fail
                refine (HU2.out _).mono ?_; rintro e W ⟨rfl, hq⟩; replace hb := chn hb hq; clear hq
                go_wp2
                go_roundw
                case rel => exact ⟨j + 1, by omega, by go_num, by first | exact hb | exact drw hb _⟩
                case measure => simp [intOf]; omega
        · obtain rfl : j = kn := by omega
          have hbX := HB0.out.trans (hb.mono HB0.out.size)
          clear hb
          go_wp2
          go_ret
          exact ⟨rfl, hbX⟩
end Go.Proofs.YtakbngafhogcbaaGreatDoor
