/- The walk of the program's TreeTurned. Plain laws of what LayerDiff makes, as the walks meet it. The walk of the program's LayerDiff. The walks of the reference's l3Ups. The walk of the reference's l2Put. The walks of the reference's l2Turned and TreeTurned. The walks of the reference's l3Diff and LayerDiff. The walk of the exact law of LayerDiff. Conditions: each theorem's own. -/
import Derived.Test.YtnmjidjhloodbaaDoorB4
import Derived.Test.YtnmjidjhloodbaaDoorB3
import Derived.Test.YtnmjidjhloodbaaDoorB5
import Derived.Deep.Onto
namespace Go.Proofs.YtnmjidjhloodbaaDoor
open Go.RowKit
open Classical in
/-- What TreeTurned tells. -/
noncomputable def tturn (a b : List PE) : List Bs := if TOk a ∧ TOk b then turnedL a b else []
theorem tturn_bad {a b : List PE} (h : ¬ (TOk a ∧ TOk b)) : tturn a b = [] := by unfold tturn; rw [if_neg h]
theorem tturn_ok {a b : List PE} (h : TOk a) (h' : TOk b) : tturn a b = turnedL a b := by unfold tturn; rw [if_pos ⟨h, h'⟩]
theorem drop_cons {α : Type} {xs : List α} {k : Nat} {e : α} (h : xs[k]? = some e) : xs.drop k = e :: xs.drop (k + 1) := by
  obtain ⟨h1, h2⟩ := List.getElem?_eq_some_iff.1 h
  rw [List.drop_eq_getElem_cons h1, h2]
/-- What is left to merge at places i, j. -/
def restL (xs ys : List En) (i j : Nat) : List Bs := mergeL ((xs.drop i).map En.pl) ((ys.drop j).map En.pl)
theorem rest_a {xs ys : List En} {i j : Nat} {e : En} (he : xs[i]? = some e) (h : ys[j]? = none ∨ ∃ f, ys[j]? = some f ∧ Op.bytesLess e.p.toList f.p.toList = true) : restL xs ys i j = e.p.data.toList :: restL xs ys (i + 1) j := by
  unfold restL
  rw [drop_cons he]
  rcases h with h | ⟨f, hf, hl⟩
  · have : ys.drop j = [] := List.drop_eq_nil_of_le (by simpa using h)
    rw [this, List.map_cons]
    cases hx : (xs.drop (i + 1)).map En.pl with
    | nil => simp [mergeL, En.pl]
    | cons _ _ => simp [mergeL, En.pl]
  · rw [drop_cons hf, List.map_cons, List.map_cons, mergeL, if_pos (by show Op.bytesLess e.p.data.toList f.p.data.toList = true; rw [← less_of']; exact hl)]
    rfl
theorem rest_b {xs ys : List En} {i j : Nat} {f : En} (hf : ys[j]? = some f) (h : xs[i]? = none ∨ ∃ e, xs[i]? = some e ∧ Op.bytesLess e.p.toList f.p.toList = false ∧ Op.bytesLess f.p.toList e.p.toList = true) : restL xs ys i j = f.p.data.toList :: restL xs ys i (j + 1) := by
  unfold restL
  rw [drop_cons hf]
  rcases h with h | ⟨e, he, hl, hl2⟩
  · have : xs.drop i = [] := List.drop_eq_nil_of_le (by simpa using h)
    rw [this, List.map_cons]
    cases hx : (ys.drop (j + 1)).map En.pl with
    | nil => simp [mergeL, En.pl]
    | cons _ _ => simp [mergeL, En.pl]
  · rw [drop_cons he, List.map_cons, List.map_cons, mergeL, if_neg (by show ¬ Op.bytesLess e.p.data.toList f.p.data.toList = true; rw [← less_of', hl]; simp), if_pos (by show Op.bytesLess f.p.data.toList e.p.data.toList = true; rw [← less_of']; exact hl2)]
    rfl
theorem rest_c1 {xs ys : List En} {i j : Nat} {e : En} (he : xs[i]? = some e) (hf : ys[j]? = some e) : restL xs ys i j = restL xs ys (i + 1) (j + 1) := by
  unfold restL
  have hl : Op.bytesLess e.p.data.toList e.p.data.toList = false := less_irrefl _
  rw [drop_cons he, drop_cons hf, List.map_cons, List.map_cons, mergeL, if_neg (by show ¬ Op.bytesLess e.p.data.toList e.p.data.toList = true; rw [hl]; simp), if_neg (by show ¬ Op.bytesLess e.p.data.toList e.p.data.toList = true; rw [hl]; simp), if_pos rfl]
theorem rest_c2 {xs ys : List En} {i j : Nat} {e f : En} (he : xs[i]? = some e) (hf : ys[j]? = some f) (hp : e.p = f.p) (h : e ≠ f) : restL xs ys i j = e.p.data.toList :: restL xs ys (i + 1) (j + 1) := by
  unfold restL
  have hl : Op.bytesLess e.p.data.toList e.p.data.toList = false := less_irrefl _
  rw [drop_cons he, drop_cons hf, List.map_cons, List.map_cons, mergeL, if_neg (by show ¬ Op.bytesLess e.p.data.toList f.p.data.toList = true; rw [← hp, hl]; simp), if_neg (by show ¬ Op.bytesLess f.p.data.toList e.p.data.toList = true; rw [← hp, hl]; simp), if_neg (fun h' => h (En.pl_inj h'))]
  rfl
theorem same_p {e f : En} (h : Op.bytesLess e.p.toList f.p.toList = false) (h' : Op.bytesLess f.p.toList e.p.toList = false) : e.p = f.p := by
  rw [less_of'] at h h'
  rcases less_total e.p.data.toList f.p.data.toList with h1 | h1 | h1
  · rw [h] at h1; cases h1
  · exact bytes_eq h1
  · rw [h'] at h1; cases h1
theorem rest_end {xs ys : List En} {i j : Nat} (hi : xs.length ≤ i) (hj : ys.length ≤ j) : restL xs ys i j = [] := by
  unfold restL
  rw [List.drop_eq_nil_of_le hi, List.drop_eq_nil_of_le hj]; simp [mergeL]
set_option maxRecDepth 100000 in
set_option maxHeartbeats 8000000 in
theorem treeTurned_c (a a' : Option Addr) (c c' : Nat) (xs ys : List En) (w : World) (hs : SlF En.cells w a xs) (hs' : SlF En.cells w a' ys) (hx : xs.length ≤ maxLen) (hy : ys.length ≤ maxLen) (hz : ∀ e ∈ xs, e.p.size ≤ maxLen ∧ e.x.size ≤ maxLen) (hz' : ∀ e ∈ ys, e.p.size ≤ maxLen ∧ e.x.size ≤ maxLen) :
    Calls Tryd.prog 33 #[.slice a xs.length c, .slice a' ys.length c'] w (MadeSt (tturn (xs.map En.pl) (ys.map En.pl)) w) := by
  have hb := Below.refl w.heap.size w
  have HE := strElt
  obtain ⟨r, hr⟩ := tok_dec xs
  obtain ⟨r', hr'⟩ := tok_dec ys
  have HT := Lib.hid (treeOk_c a c xs r (Lib.hid hr) w hs hx hz)
  have HT' := fun W (h : SlF En.cells W a' ys) => Lib.hid (treeOk_c a' c' ys r' (Lib.hid hr') W h hy hz')
  obtain ⟨L, hL⟩ : ∃ L, tturn (xs.map En.pl) (ys.map En.pl) = L := ⟨_, rfl⟩
  have hx16 : TOk (xs.map En.pl) → xs.length ≤ 16 := fun h => by have := h.most; rw [List.length_map] at this; exact this
  have hy16 : TOk (ys.map En.pl) → ys.length ≤ 16 := fun h => by have := h.most; rw [List.length_map] at this; exact this
  have HLE : Hid (L = [] ∨ (TOk (xs.map En.pl) ∧ TOk (ys.map En.pl) ∧ L = restL xs ys 0 0)) := by
    by_cases h : TOk (xs.map En.pl) ∧ TOk (ys.map En.pl)
    · exact .inr ⟨h.1, h.2, by rw [← hL, tturn_ok h.1 h.2, ← merge_turned h.1.ordP h.2.ordP]; rfl⟩
    · exact .inl (by rw [← hL]; exact tturn_bad h)
  have HLB : Hid (¬ (r = true ∧ r' = true) → L = []) := fun h => by rw [← hL]; exact tturn_bad (fun h' => h ⟨hr.2 h'.1, hr'.2 h'.2⟩)
  have HLO : Hid (r = true → r' = true → L = restL xs ys 0 0) := fun h h' => by rw [← hL, tturn_ok (hr.1 h) (hr'.1 h'), ← merge_turned (hr.1 h).ordP (hr'.1 h').ordP]; rfl
  have HS := Lib.hid hs
  have HS' := Lib.hid hs'
  rw [hL]
  have HB16 : Hid (r = true → r' = true → xs.length ≤ 16 ∧ ys.length ≤ 16) := fun h h' => ⟨hx16 (hr.1 h), hy16 (hr'.1 h')⟩
  obtain ⟨n, hn⟩ : ∃ n, xs.length = n := ⟨_, rfl⟩
  obtain ⟨n', hn'⟩ : ∃ n, ys.length = n := ⟨_, rfl⟩
  have HN := Lib.hid hn
  have HN' := Lib.hid hn'
  rw [hn] at HT HB16 ⊢
  rw [hn'] at HT' HB16 ⊢
  have GT' := Lib.hid HT'
  clear hn hn' hL hs hs' hz hz' hx hy hr hr' HT' hx16 hy16 HLE
  cases r with
  | false =>
    obtain rfl : L = [] := HLB.out (by simp)
    go_enter Tryd.func33, Tryd.ntmps33
    go_wp2_with fail
    refine (HT.out).mono ?_; rintro e W ⟨rfl, hq⟩; replace hb := chn hb hq; clear hq
    go_wp2
    go_ret
    exact ⟨_, [], rfl, rfl, World.ownsRow_nil _ _ _ _, hb⟩
  | true =>
  cases r' with
  | false =>
    obtain rfl : L = [] := HLB.out (by simp)
    go_enter Tryd.func33, Tryd.ntmps33
    go_wp2_with fail
    refine (HT.out).mono ?_; rintro e W ⟨rfl, hq⟩; replace hb := chn hb hq; clear hq
    go_wp2_with fail
    refine ((GT'.out _ (HS'.out.below hb)).out).mono ?_; rintro e W ⟨rfl, hq⟩; replace hb := chn hb hq; clear hq
    go_wp2
    go_ret
    exact ⟨_, [], rfl, rfl, World.ownsRow_nil _ _ _ _, hb⟩
  | true =>
    have HLR := Lib.hid (HLO.out rfl rfl)
    obtain ⟨hn16, hn16'⟩ := HB16.out rfl rfl
    clear HLB HLO HB16
    go_enter Tryd.func33, Tryd.ntmps33
    go_wp2_with fail
    refine (HT.out).mono ?_; rintro e W ⟨rfl, hq⟩; replace hb := chn hb hq; clear hq
    go_wp2_with fail
    refine ((GT'.out _ (HS'.out.below hb)).out).mono ?_; rintro e W ⟨rfl, hq⟩; replace hb := chn hb hq; clear hq
    have HB0 := Lib.hid hb
    clear hb
    go_wp2
    go_loopw [5, 6, 7] (fun v i j wr => ∃ (k k' : Nat) (ss : List ByteArray), k ≤ n ∧ k' ≤ n' ∧ ss.length ≤ k + k' ∧ i = .int .i64 k ∧ j = .int .i64 k' ∧ L = ss.map (·.data.toList) ++ restL xs ys k k' ∧ wr.ownsRow w.heap.size 9 1 v ss.length (ss.map Value.string) ∧ Below w.heap.size w wr) (fun _ i j _ => n + n' - (intOf i).toNat - (intOf j).toNat)
    case atStart => exact ⟨0, 0, [], Nat.zero_le _, Nat.zero_le _, Nat.zero_le _, rfl, rfl, HLR.out, World.ownsRow_nil _ _ _ _, HB0.out⟩
    case round =>
      obtain ⟨k, k', ss, hk, hk', hsl, rfl, rfl, hss, hown, hb⟩ := hrel
      have HSS := Lib.hid hss
      clear hss
      have hsw := HS.out.below hb
      have hsw' := HS'.out.below hb
      have i0 : (0 : Int) ≤ (k : Int) := by omega
      have j0 : (0 : Int) ≤ (k' : Int) := by omega
      by_cases hlt : k < n
      · obtain ⟨e, hee⟩ : ∃ e, xs[k]? = some e := ⟨_, List.getElem?_eq_getElem (by rw [HN.out]; exact hlt)⟩
        obtain ⟨b, off, rfl, _⟩ := hsw.addr (by rw [HN.out]; omega)
        obtain ⟨d0, d1, d2⟩ := en_at hsw k e hee
        have i1 : (k : Int) < (n : Int) := by omega
        have i2 : ((k : Int) == (n : Int)) = false := by rw [beq_eq_false_iff_ne]; omega
        by_cases hlt' : k' < n'
        · obtain ⟨f, hff⟩ : ∃ f, ys[k']? = some f := ⟨_, List.getElem?_eq_getElem (by rw [HN'.out]; exact hlt')⟩
          obtain ⟨b', off', rfl, _⟩ := hsw'.addr (by rw [HN'.out]; omega)
          obtain ⟨g0, g1, g2⟩ := en_at hsw' k' f hff
          have j1 : (k' : Int) < (n' : Int) := by omega
          have j2 : ((k' : Int) == (n' : Int)) = false := by rw [beq_eq_false_iff_ne]; omega
          rcases Bool.eq_false_or_eq_true (Op.bytesLess e.p.toList f.p.toList) with hle | hle
          · have HR := Lib.hid (rest_a hee (.inr ⟨f, hff, hle⟩))
            clear hee hff
            go_wp2_with fail
            go_quiet (fail)
            go_wp2_with (at_builtin; go_must (refine wp_app1 (by rfl) _ _ 57 (by rfl) HE w.heap.size w.heap.size w _ #[.string e.p] _ _ _ (by rfl) (by rfl) hown (by rfl) (by simp [Value.oneCell']) (by omega) hb.size (drw hb _) (Nat.le_refl _) ?_); intro v' w1 hown1 hbel1 _ _)
            go_roundw
            case rel => exact ⟨(k+1), k', ss ++ [e.p], by omega, by omega, by simp; omega, by go_num, by go_num, by rw [List.map_append, List.append_assoc, HSS.out, HR.out]; rfl, by simpa using hown1, hbel1⟩
            case measure => simp [intOf]; omega
          · rcases Bool.eq_false_or_eq_true (Op.bytesLess f.p.toList e.p.toList) with hlf | hlf
            · have HR := Lib.hid (rest_b hff (.inr ⟨e, hee, hle, hlf⟩))
              clear hee hff
              go_wp2_with fail
              go_quiet (fail)
              go_wp2_with fail
              go_quiet (fail)
              go_wp2_with (at_builtin; go_must (refine wp_app1 (by rfl) _ _ 57 (by rfl) HE w.heap.size w.heap.size w _ #[.string f.p] _ _ _ (by rfl) (by rfl) hown (by rfl) (by simp [Value.oneCell']) (by omega) hb.size (drw hb _) (Nat.le_refl _) ?_); intro v' w1 hown1 hbel1 _ _)
              go_roundw
              case rel => exact ⟨k, (k'+1), ss ++ [f.p], by omega, by omega, by simp; omega, by go_num, by go_num, by rw [List.map_append, List.append_assoc, HSS.out, HR.out]; rfl, by simpa using hown1, hbel1⟩
              case measure => simp [intOf]; omega
            · have hpp := same_p hle hlf
              by_cases hef : e = f
              · subst hef
                have HR := Lib.hid (rest_c1 hee hff)
                clear hee hff hpp
                go_wp2_with fail
                go_quiet (fail)
                go_wp2_with fail
                go_quiet (fail)
                go_wp2_with fail
                go_quiet (fail)
                go_wp2
                go_roundw
                case rel => exact ⟨k + 1, k' + 1, ss, by omega, by omega, by omega, by go_num, by go_num, by rw [HSS.out, HR.out], hown, drw hb _⟩
                case measure => simp [intOf]; omega
              · have HR := Lib.hid (rest_c2 hee hff hpp hef)
                obtain ⟨p, d, x⟩ := e
                obtain ⟨p', d', x'⟩ := f
                obtain rfl : p = p' := hpp
                simp only at d0 d1 d2 g0 g1 g2 hle hlf
                clear hee hff
                by_cases h2 : d = d'
                · subst h2
                  have q := bq_no (s := x) (t := x') (fun h => hef (by rw [h]))
                  clear hef
                  go_wp2_with fail
                  go_quiet (fail)
                  go_wp2_with fail
                  go_quiet (fail)
                  go_wp2_with fail
                  go_quiet (fail)
                  go_wp2_with (at_builtin; go_must (refine wp_app1 (by rfl) _ _ 57 (by rfl) HE w.heap.size w.heap.size w _ #[.string p] _ _ _ (by rfl) (by rfl) hown (by rfl) (by simp [Value.oneCell']) (by omega) hb.size (drw hb _) (Nat.le_refl _) ?_); intro v' w1 hown1 hbel1 _ _)
                  go_roundw
                  case rel => exact ⟨(k+1), (k'+1), ss ++ [p], by omega, by omega, by simp; omega, by go_num, by go_num, by rw [List.map_append, List.append_assoc, HSS.out, HR.out]; rfl, by simpa using hown1, hbel1⟩
                  case measure => simp [intOf]; omega
                · have q : (d == d') = false := by rw [beq_eq_false_iff_ne]; exact h2
                  clear hef h2
                  go_wp2_with fail
                  go_quiet (fail)
                  go_wp2_with fail
                  go_quiet (fail)
                  go_wp2_with fail
                  go_quiet (fail)
                  go_wp2_with (at_builtin; go_must (refine wp_app1 (by rfl) _ _ 57 (by rfl) HE w.heap.size w.heap.size w _ #[.string p] _ _ _ (by rfl) (by rfl) hown (by rfl) (by simp [Value.oneCell']) (by omega) hb.size (drw hb _) (Nat.le_refl _) ?_); intro v' w1 hown1 hbel1 _ _)
                  go_roundw
                  case rel => exact ⟨(k+1), (k'+1), ss ++ [p], by omega, by omega, by simp; omega, by go_num, by go_num, by rw [List.map_append, List.append_assoc, HSS.out, HR.out]; rfl, by simpa using hown1, hbel1⟩
                  case measure => simp [intOf]; omega
        · obtain rfl : k' = n' := by omega
          have HR := Lib.hid (rest_a (ys := ys) (j := k') hee (.inl (List.getElem?_eq_none (by rw [HN'.out]; omega))))
          clear hee
          go_wp2_with fail
          go_quiet (fail)
          go_wp2_with (at_builtin; go_must (refine wp_app1 (by rfl) _ _ 57 (by rfl) HE w.heap.size w.heap.size w _ #[.string e.p] _ _ _ (by rfl) (by rfl) hown (by rfl) (by simp [Value.oneCell']) (by omega) hb.size (drw hb _) (Nat.le_refl _) ?_); intro v' w1 hown1 hbel1 _ _)
          go_roundw
          case rel => exact ⟨(k+1), k', ss ++ [e.p], by omega, by omega, by simp; omega, by go_num, by go_num, by rw [List.map_append, List.append_assoc, HSS.out, HR.out]; rfl, by simpa using hown1, hbel1⟩
          case measure => simp [intOf]; omega
      · obtain rfl : k = n := by omega
        by_cases hlt' : k' < n'
        · obtain ⟨f, hff⟩ : ∃ f, ys[k']? = some f := ⟨_, List.getElem?_eq_getElem (by rw [HN'.out]; exact hlt')⟩
          obtain ⟨b', off', rfl, _⟩ := hsw'.addr (by rw [HN'.out]; omega)
          obtain ⟨g0, g1, g2⟩ := en_at hsw' k' f hff
          have j1 : (k' : Int) < (n' : Int) := by omega
          have j2 : ((k' : Int) == (n' : Int)) = false := by rw [beq_eq_false_iff_ne]; omega
          have HR := Lib.hid (rest_b (xs := xs) (i := k) hff (.inl (List.getElem?_eq_none (by rw [HN.out]; omega))))
          clear hff
          have dk : decide ((k : Int) < (k : Int)) = false := by simp
          go_wp2_with fail
          go_quiet (fail)
          go_wp2_with fail
          go_quiet (fail)
          go_wp2_with (at_builtin; go_must (refine wp_app1 (by rfl) _ _ 57 (by rfl) HE w.heap.size w.heap.size w _ #[.string f.p] _ _ _ (by rfl) (by rfl) hown (by rfl) (by simp [Value.oneCell']) (by omega) hb.size (drw hb _) (Nat.le_refl _) ?_); intro v' w1 hown1 hbel1 _ _)
          go_roundw
          case rel => exact ⟨k, (k'+1), ss ++ [f.p], by omega, by omega, by simp; omega, by go_num, by go_num, by rw [List.map_append, List.append_assoc, HSS.out, HR.out]; rfl, by simpa using hown1, hbel1⟩
          case measure => simp [intOf]; omega
        · obtain rfl : k' = n' := by omega
          have HF : Hid (ss.map (·.data.toList) = L) := by rw [Hid, HSS.out, rest_end (by rw [HN.out]; omega) (by rw [HN'.out]; omega), List.append_nil]
          go_wp2
          go_ret
          exact ⟨_, ss, rfl, HF.out, hown, hb⟩
end Go.Proofs.YtnmjidjhloodbaaDoor
namespace Go.Proofs.YtnmjidjhloodbaaDoor
open Go.Op
open Classical in
/-- What LayerDiff tells. -/
noncomputable def tdiffL (a b : List PE) : List PM := if TOk a ∧ TOk b then diffL a b else []
/-- What the program has before it sorts. -/
def rawQ (b : List PE) (Q : List Bs) : List PM := (Q.filterMap (dmark b)).foldl (fun out m => upsR 3 out m.p) (Q.filterMap (dmark b))
theorem tdiff_of_raw {a b : List PE} {s : List PM} (hp : s.Perm (rawQ b (tturn a b))) (hs : s.Pairwise fun a b => bytesLess b.p a.p = false) : s = tdiffL a b := by
  by_cases h : TOk a ∧ TOk b
  · rw [tturn_ok h.1 h.2] at hp
    unfold tdiffL
    rw [if_pos h]
    exact diff_of_raw h.1 h.2 hp hs
  · rw [tturn_bad h] at hp
    unfold tdiffL
    rw [if_neg h]
    exact List.Perm.eq_nil hp
theorem upsL_len (n : Nat) : ∀ (l : List PM) (q : Bs), (upsL n l q).length ≤ l.length + n := by
  induction n with
  | zero => intro l q; exact Nat.le_refl _
  | succ n ih =>
    intro l q
    unfold upsL
    split
    · omega
    · split
      · have h1 := ih (putP PM.p l (updm (upL q))) (upL q)
        have h2 := put_len_le (f := PM.p) l (updm (upL q))
        omega
      · have h1 := ih l (upL q); omega
theorem upsR_len (n : Nat) : ∀ (l : List PM) (q : Bs), (upsR n l q).length ≤ l.length + n := by
  induction n with
  | zero => intro l q; exact Nat.le_refl _
  | succ n ih =>
    intro l q
    unfold upsR
    split
    · omega
    · split
      · have h1 := ih (l ++ [updm (upL q)]) (upL q)
        rw [List.length_append] at h1
        simp only [List.length_singleton] at h1
        omega
      · have h1 := ih l (upL q); omega
theorem tdiff_len (a b : List PE) : (tdiffL a b).length ≤ 200 := by
  unfold tdiffL
  split
  · next h =>
    have key : ∀ (Q : List Bs) (out : List PM), (Q.foldl (fun out q => match dmark b q with | some m => upsL 3 (putP PM.p out m) q | none => out) out).length ≤ out.length + 4 * Q.length := by
      intro Q
      induction Q with
      | nil => intro out; simp
      | cons q r ih =>
        intro out
        rw [List.foldl_cons, List.length_cons]
        refine Nat.le_trans (ih _) ?_
        cases dmark b q with
        | none => simp only; omega
        | some m =>
          have h1 := upsL_len 3 (putP PM.p out m) q
          have h2 := put_len_le (f := PM.p) out m
          simp only
          omega
    have h1 := key (turnedL a b) []
    have h2 := turned_len (a := a) (b := b)
    have h3 := h.1.most
    have h4 := h.2.most
    have h5 : (diffL a b).length ≤ 0 + 4 * (turnedL a b).length := h1
    omega
  · simp
/-- The mark at a path at which the trees differ, as it lies. -/
def dmk (ys : List En) (q : ByteArray) : Option Mk := match getE ys q with
  | some e => some (if e.d then ⟨q, 2, ⟨#[]⟩⟩ else ⟨q, 1, e.x⟩)
  | none => if upCodeL (ys.map En.pl) q.data.toList = 0 then some ⟨q, 3, ⟨#[]⟩⟩ else none
theorem dmk_pl (ys : List En) (q : ByteArray) : dmark (ys.map En.pl) q.data.toList = (dmk ys q).map Mk.pl := by
  unfold dmark dmk
  rw [getE_pl]
  cases getE ys q with
  | none => simp only [Option.map_none]; split <;> rfl
  | some e =>
    obtain ⟨p, d, x⟩ := e
    cases d <;> rfl
theorem take_sl (ss : List ByteArray) (k : Nat) (s : ByteArray) (h : ss[k]? = some s) : (ss.take (k + 1)).map (·.data.toList) = (ss.take k).map (·.data.toList) ++ [s.data.toList] := by
  have hk : k < ss.length := (List.getElem?_eq_some_iff.1 h).1
  have he : ss[k] = s := (List.getElem?_eq_some_iff.1 h).2
  rw [List.take_succ_eq_append_getElem hk, he]
  simp
theorem dmk_snoc (ys : List En) (ss : List ByteArray) (k : Nat) (s : ByteArray) (h : ss[k]? = some s) (ms : List Mk) (hm : ms.map Mk.pl = ((ss.take k).map (·.data.toList)).filterMap (dmark (ys.map En.pl))) :
    (ms ++ (dmk ys s).toList).map Mk.pl = ((ss.take (k + 1)).map (·.data.toList)).filterMap (dmark (ys.map En.pl)) := by
  rw [take_sl ss k s h, List.filterMap_append, List.map_append, hm]
  congr 1
  rw [List.filterMap_cons, dmk_pl]
  cases dmk ys s <;> rfl
theorem dmk_p {ys : List En} {q : ByteArray} {m : Mk} (h : dmk ys q = some m) : m.p = q := by
  unfold dmk at h
  split at h
  · injection h with h; subst h; split <;> rfl
  · split at h
    · injection h with h; subst h; rfl
    · cases h
/-- A text of bytes. -/
theorem str_of20 (l : Bs) : ∃ b : ByteArray, l = b.data.toList := ⟨⟨l.toArray⟩, by simp⟩
theorem up_nil {q : Bs} (h : pathOkL q = false) : upL q = [] := by simp [upL, h]
/-- One step up, while there is one. -/
theorem upsR_step {r : Nat} {l : List PM} {q : Bs} (hq : pathOkL q = true) (hl : levelsL q ≤ r) (hu : upL q ≠ [47]) :
    ∃ r', r = r' + 1 ∧ pathOkL (upL q) = true ∧ levelsL (upL q) ≤ r' ∧ upsR r l q = upsR r' (if atP PM.p l (upL q) = none then l ++ [updm (upL q)] else l) (upL q) := by
  have h1 := levels_up hq
  cases r with
  | zero => omega
  | succ r' => exact ⟨r', rfl, up_path hq hu, by omega, by conv => lhs; unfold upsR; rw [if_neg hu]⟩
theorem upsR_end {r : Nat} {l : List PM} {q : Bs} (hu : upL q = [47]) : upsR r l q = l := by
  cases r with
  | zero => rfl
  | succ r' => unfold upsR; rw [if_pos hu]
end Go.Proofs.YtnmjidjhloodbaaDoor
namespace Go.Proofs.YtnmjidjhloodbaaDoor
open Go.RowKit
def bsOf (v : Value) : Bs := match v with
  | .string s => s.data.toList
  | _ => []
theorem take_at {α : Type} {ns ms : List α} {n k : Nat} {e : α} (h : ns.take n = ms) (he : ms[k]? = some e) : ns[k]? = some e := by
  subst h
  rw [List.getElem?_take] at he
  split at he
  · exact he
  · cases he
theorem take_app {α : Type} {ns ms : List α} {n : Nat} (x : List α) (h : ns.take n = ms) (hn : n ≤ ns.length) : (ns ++ x).take n = ms := by
  rw [List.take_append_of_le_length hn, h]
theorem fold_snoc {ms : List Mk} {k : Nat} {e : Mk} (he : ms[k]? = some e) (l : List PM) :
    ((ms.take (k + 1)).map Mk.pl).foldl (fun out m => upsR 3 out m.p) l = upsR 3 (((ms.take k).map Mk.pl).foldl (fun out m => upsR 3 out m.p) l) e.p.data.toList := by
  rw [take_ml ms k e he, List.foldl_append]; rfl
set_option maxRecDepth 100000 in
set_option maxHeartbeats 8000000 in
theorem layerDiff_c (a a' : Option Addr) (c c' : Nat) (xs ys : List En) (w : World) (hs : SlF En.cells w a xs) (hs' : SlF En.cells w a' ys) (hx : xs.length ≤ maxLen) (hy : ys.length ≤ maxLen) (hz : ∀ e ∈ xs, e.p.size ≤ 2000000 ∧ e.x.size ≤ 2000000) (hz' : ∀ e ∈ ys, e.p.size ≤ 2000000 ∧ e.x.size ≤ 2000000) :
    Calls Tryd.prog 15 #[.slice a xs.length c, .slice a' ys.length c'] w (MadeMl (tdiffL (xs.map En.pl) (ys.map En.pl)) w) := by
  have HE := eltMk
  have hm2 : (2000000 : Nat) ≤ maxLen := by unfold maxLen; omega
  have HT := Lib.hid (treeTurned_c a a' c c' xs ys w hs hs' hx hy (fun e he => ⟨Nat.le_trans (hz e he).1 hm2, Nat.le_trans (hz e he).2 hm2⟩) (fun e he => ⟨Nat.le_trans (hz' e he).1 hm2, Nat.le_trans (hz' e he).2 hm2⟩))
  have HEA := fun (q : ByteArray) (o : Option En) (ho : Hid (getE ys q = o)) W (h : SlF En.cells W a' ys) => Lib.hid (entAt_c a' c' ys q o ho W h hy)
  have HUC := fun (q : ByteArray) (m : Nat) (hm : Hid (upCodeL (ys.map En.pl) q.data.toList = m)) (hq : q.size ≤ maxLen) W (h : SlF En.cells W a' ys) => Lib.hid (upCode_c a' c' ys q m hm W h hy hq)
  have HQ : Hid (∀ q ∈ tturn (xs.map En.pl) (ys.map En.pl), pathOkL q = true) := fun q hq => by
    unfold tturn at hq
    split at hq
    · next h => exact turned_path h.1 h.2 hq
    · cases hq
  have HQL : Hid ((tturn (xs.map En.pl) (ys.map En.pl)).length ≤ 32) := by
    show _ ≤ _
    unfold tturn
    split
    · next h => have h1 := turned_len (a := xs.map En.pl) (b := ys.map En.pl); have h2 := h.1.most; have h3 := h.2.most; omega
    · simp
  have HS' := Lib.hid hs'
  obtain ⟨n, hn⟩ : ∃ n, xs.length = n := ⟨_, rfl⟩
  obtain ⟨n', hn'⟩ : ∃ n, ys.length = n := ⟨_, rfl⟩
  rw [hn] at HT ⊢
  rw [hn'] at HT HEA HUC ⊢
  have GEA := Lib.hid HEA
  have GUC := Lib.hid HUC
  clear hn hn' hs hs' hx hy hz hz' HEA HUC hm2
  go_enter Tryd.func15, Tryd.ntmps15
  go_wp2_with fail
  refine HT.out.mono ?_; rintro e W1 ⟨v, ss, rfl, hss, oS, hq⟩
  have HB1 := Lib.hid hq
  obtain ⟨av, cv, rfl⟩ := own_shape oS
  have HSS := Lib.hid hss
  have HSL := Lib.hid (own_sls oS rfl)
  have HY1 := Lib.hid (HS'.out.below hq)
  have hp32 : ss.length ≤ 32 := by have := congrArg List.length hss; rw [List.length_map] at this; rw [this]; exact HQL.out
  have HPT : Hid (∀ s ∈ ss, pathOkL s.data.toList = true) := fun s h => HQ.out _ (by rw [← hss]; exact List.mem_map.2 ⟨s, h, rfl⟩)
  obtain ⟨p, hp⟩ : ∃ p, ss.length = p := ⟨_, rfl⟩
  have HP := Lib.hid hp
  have HALL : Hid (ss.take p = ss) := by rw [Hid, ← hp, List.take_length]
  rw [hp] at hp32 ⊢
  clear hss oS hq hp
  go_wp2
  go_loopw [5, 18] (fun v i wr => ∃ (k : Nat) (ms : List Mk), k ≤ p ∧ ms.length ≤ k ∧ i = .int .i64 k ∧ ms.map Mk.pl = ((ss.take k).map (·.data.toList)).filterMap (dmark (ys.map En.pl)) ∧ wr.ownsRow W1.heap.size 45 3 v ms.length (ms.flatMap Mk.cells) ∧ Below W1.heap.size W1 wr) (fun _ i _ => p - (intOf i).toNat)
  case atStart => exact ⟨0, [], Nat.zero_le _, Nat.zero_le _, rfl, rfl, World.ownsRow_nil _ _ _ _, Below.refl _ _⟩
  case round =>
    obtain ⟨k, ms, hk, hml, rfl, hms, hown, hb⟩ := hrel
    have HMS := Lib.hid hms
    clear hms
    by_cases hlt : k < p
    · obtain ⟨q, hqq⟩ : ∃ q, ss[k]? = some q := ⟨_, List.getElem?_eq_getElem (by rw [HP.out]; exact hlt)⟩
      have hqp := HPT.out q (List.mem_of_getElem? hqq)
      have hqs : q.size ≤ maxLen := by have := (path_len hqp).2; rw [size_data] at this; unfold maxLen; omega
      obtain ⟨b, off, rfl, _, hc⟩ := (HSL.out.below hb) (by rw [HP.out]; omega)
      have d0 := hc k q hqq
      have hsy := HY1.out.below hb
      obtain ⟨o, ho⟩ : ∃ o, getE ys q = o := ⟨_, rfl⟩
      have HO := Lib.hid ho
      have HSN0 := Lib.hid (dmk_snoc ys ss k q hqq ms HMS.out)
      have i0 : (0 : Int) ≤ (k : Int) := by omega
      have i1 : (k : Int) < (p : Int) := by omega
      clear hc hqq hqp
      go_wp2_with fail
      refine (GEA.out q o HO _ hsy).out.mono ?_; rintro e W ⟨rfl, hq⟩; replace hb := chn hb hq; replace hsy := SlF.below hsy hq; replace hown := own_below hown hq; clear hq d0
      cases o with
      | some e =>
        obtain ⟨ep, ed, ex⟩ := e
        have q1 := new_cell W #[.string ep, .bool ed, .string ex] 55 1 (.bool ed) rfl
        have q2 := new_cell W #[.string ep, .bool ed, .string ex] 55 2 (.string ex) rfl
        replace hown := own_below hown (bellow_alloc W (.cells #[.string ep, .bool ed, .string ex] 55))
        replace hb := hb.alloc hb.size (.cells #[.string ep, .bool ed, .string ex] 55); replace hsy := SlF.below hsy (bellow_alloc _ (.cells #[.string ep, .bool ed, .string ex] 55)); 
        cases ed with
        | true =>
          have HSN : Hid ((ms ++ [(⟨q, 2, ⟨#[]⟩⟩ : Mk)]).map Mk.pl = ((ss.take (k + 1)).map (·.data.toList)).filterMap (dmark (ys.map En.pl))) := by
            have h := HSN0.out; unfold dmk at h; rw [ho] at h; exact h
          clear ho
          go_wp2_with (at_builtin; go_must (refine wp_app1H (by rfl) _ _ 24 (by rfl) HE W1.heap.size W1.heap.size W1 _ #[.string q, .int .i64 2, .string ⟨#[]⟩] _ _ _ (by rfl) (W.heap.size + 1) (by simp) (by rfl) hown (by rfl) (by simp [Value.oneCell']) (by omega) hb.size hb (Nat.le_refl _) ?_); intro v' w1 hown1 hbel1 _ _)
          go_roundw
          case rel => exact ⟨k + 1, ms ++ [⟨q, 2, ⟨#[]⟩⟩], by omega, by simp; omega, by go_num, HSN.out, by rw [← flat_mk]; simpa using hown1, hbel1⟩
          case measure => simp [intOf]; omega
        | false =>
          have HSN : Hid ((ms ++ [(⟨q, 1, ex⟩ : Mk)]).map Mk.pl = ((ss.take (k + 1)).map (·.data.toList)).filterMap (dmark (ys.map En.pl))) := by
            have h := HSN0.out; unfold dmk at h; rw [ho] at h; exact h
          clear ho
          go_wp2_with (at_builtin; go_must (refine wp_app1H (by rfl) _ _ 24 (by rfl) HE W1.heap.size W1.heap.size W1 _ #[.string q, .int .i64 1, .string ex] _ _ _ (by rfl) (W.heap.size + 1) (by simp) (by rfl) hown (by rfl) (by simp [Value.oneCell']) (by omega) hb.size hb (Nat.le_refl _) ?_); intro v' w1 hown1 hbel1 _ _)
          go_roundw
          case rel => exact ⟨k + 1, ms ++ [⟨q, 1, ex⟩], by omega, by simp; omega, by go_num, HSN.out, by rw [← flat_mk]; simpa using hown1, hbel1⟩
          case measure => simp [intOf]; omega
      | none =>
        obtain ⟨m, hm⟩ : ∃ m, upCodeL (ys.map En.pl) q.data.toList = m := ⟨_, rfl⟩
        have HM := Lib.hid hm
        replace hown := own_below hown (bellow_alloc W (.cells #[.string ⟨#[]⟩, .bool false, .string ⟨#[]⟩] 55))
        replace hb := hb.alloc hb.size (.cells #[.string ⟨#[]⟩, .bool false, .string ⟨#[]⟩] 55); replace hsy := SlF.below hsy (bellow_alloc _ (.cells #[.string ⟨#[]⟩, .bool false, .string ⟨#[]⟩] 55)); 
        go_wp2_with fail
        refine (GUC.out q m HM hqs _ hsy).out.mono ?_; rintro e W2 ⟨rfl, hq⟩; replace hb := chn hb hq; replace hsy := SlF.below hsy hq; replace hown := own_below hown hq; clear hq
        by_cases hm0 : m = 0
        · subst hm0
          have HSN : Hid ((ms ++ [(⟨q, 3, ⟨#[]⟩⟩ : Mk)]).map Mk.pl = ((ss.take (k + 1)).map (·.data.toList)).filterMap (dmark (ys.map En.pl))) := by
            have h := HSN0.out; unfold dmk at h; rw [ho] at h; simp only [hm, if_true] at h; exact h
          clear ho hm
          go_wp2_with (at_builtin; go_must (refine wp_app1H (by rfl) _ _ 24 (by rfl) HE W1.heap.size W1.heap.size W1 _ #[.string q, .int .i64 3, .string ⟨#[]⟩] _ _ _ (by rfl) W2.heap.size (by simp) (by rfl) hown (by rfl) (by simp [Value.oneCell']) (by omega) hb.size hb (Nat.le_refl _) ?_); intro v' w1 hown1 hbel1 _ _)
          go_roundw
          case rel => exact ⟨k + 1, ms ++ [⟨q, 3, ⟨#[]⟩⟩], by omega, by simp; omega, by go_num, HSN.out, by rw [← flat_mk]; simpa using hown1, hbel1⟩
          case measure => simp [intOf]; omega
        · have HSN : Hid (ms.map Mk.pl = ((ss.take (k + 1)).map (·.data.toList)).filterMap (dmark (ys.map En.pl))) := by
            have h := HSN0.out; unfold dmk at h; rw [ho] at h; simp only [hm, if_neg hm0, Option.toList_none, List.append_nil] at h; exact h
          have hne : ((m : Int) == 0) = false := by rw [beq_eq_false_iff_ne]; omega
          clear ho hm hm0
          go_wp2
          go_roundw
          case rel => exact ⟨k + 1, ms, by omega, by omega, by go_num, HSN.out, hown, hb⟩
          case measure => simp [intOf]; omega
    · obtain rfl : k = p := by omega
      have HMK : Hid (ms.map Mk.pl = (tturn (xs.map En.pl) (ys.map En.pl)).filterMap (dmark (ys.map En.pl))) := by rw [Hid, HMS.out, HALL.out, HSS.out]
      have HMP : Hid (∀ e ∈ ms, pathOkL e.p.data.toList = true) := fun e he => by
        have h1 : e.pl ∈ ms.map Mk.pl := List.mem_map_of_mem he
        rw [HMK.out] at h1
        obtain ⟨q, h2, h3⟩ := List.mem_filterMap.1 h1
        have := dmark_p h3
        have h4 := HQ.out q h2
        rw [← this] at h4; exact h4
      have hml32 : ms.length ≤ 32 := by omega
      have HOWN := Lib.hid hown
      have HBB := Lib.hid hb
      obtain ⟨l, hl⟩ : ∃ l, ms.length = l := ⟨_, rfl⟩
      have HL := Lib.hid hl
      obtain ⟨v1, v2, rfl⟩ := own_shape hown
      rw [hl] at hml32 HOWN ⊢
      clear hown hb hml HMS hl
      go_wp2
      go_loopw [5, 61] (fun v i wr => ∃ (k : Nat) (ns : List Mk), k ≤ l ∧ l ≤ ns.length ∧ ns.length ≤ l + 3 * k ∧ i = .int .i64 k ∧ ns.take l = ms ∧ ns.map Mk.pl = ((ms.take k).map Mk.pl).foldl (fun out m => upsR 3 out m.p) (ms.map Mk.pl) ∧ wr.ownsRow W1.heap.size 45 3 v ns.length (ns.flatMap Mk.cells) ∧ Below W1.heap.size W1 wr) (fun _ i _ => l - (intOf i).toNat)
      case atStart => exact ⟨0, ms, Nat.zero_le _, Nat.le_of_eq HL.out.symm, Nat.le_of_eq HL.out, rfl, by rw [← HL.out, List.take_length], rfl, by rw [HL.out]; exact HOWN.out, HBB.out⟩
      case round =>
        obtain ⟨j, ns, hj, hnl0, hnl1, rfl, htk, hns, hown, hb⟩ := hrel
        have HTK := Lib.hid htk
        have HNS := Lib.hid hns
        clear htk hns
        by_cases hlt2 : j < l
        · obtain ⟨e, hee⟩ : ∃ e, ms[j]? = some e := ⟨_, List.getElem?_eq_getElem (by rw [HL.out]; exact hlt2)⟩
          have hep := HMP.out e (List.mem_of_getElem? hee)
          have hes : e.p.size ≤ maxLen := by have := (path_len hep).2; rw [size_data] at this; unfold maxLen; omega
          have HFS := Lib.hid (fold_snoc hee (ms.map Mk.pl))
          obtain ⟨g1, g2, rfl⟩ := own_shape hown
          have hsn := own_slf (fun _ => rfl) hown
          obtain ⟨b, off, rfl, _⟩ := hsn.addr (by omega)
          obtain ⟨d0, _, _⟩ := mk_at hsn j e (take_at HTK.out hee)
          obtain ⟨u, hu⟩ := str_of20 (upL e.p.data.toList)
          have HU := Lib.hid hu
          obtain ⟨T, hT⟩ : ∃ T, upsR 3 (ns.map Mk.pl) e.p.data.toList = T := ⟨_, rfl⟩
          have HTT := Lib.hid hT
          have HTF : Hid (((ms.take (j + 1)).map Mk.pl).foldl (fun out m => upsR 3 out m.p) (ms.map Mk.pl) = T) := by rw [Hid, HFS.out, ← HNS.out, hT]
          have HEP := Lib.hid hep
          obtain ⟨N, hN⟩ : ∃ N, ns.length = N := ⟨_, rfl⟩
          have i0 : (0 : Int) ≤ (j : Int) := by omega
          have i1 : (j : Int) < (N : Int) := by omega
          rw [hN] at hnl0 hnl1 ⊢
          have HOW := Lib.hid hown
          have HBW := Lib.hid hb
          have HNN := Lib.hid hN
          clear hee hep hsn hu hT hN hown hb
          go_wp2_with fail
          refine (pathUp_c e.p u HU _ hes).mono ?_; rintro e' W ⟨rfl, hq⟩
          have HB3 := Lib.hid (chn HBW.out hq)
          have HOW3 := Lib.hid (own_below HOW.out hq)
          clear hq d0
          go_wp2
          go_loopw [5, 11] (fun v i wr => ∃ (cur : List Mk) (s u : ByteArray) (r : Nat), l ≤ cur.length ∧ cur.length + r ≤ N + 3 ∧ cur.take l = ms ∧ i = .string u ∧ upL s.data.toList = u.data.toList ∧ pathOkL s.data.toList = true ∧ levelsL s.data.toList ≤ r ∧ upsR r (cur.map Mk.pl) s.data.toList = T ∧ wr.ownsRow W1.heap.size 45 3 v cur.length (cur.flatMap Mk.cells) ∧ Below W1.heap.size W1 wr) (fun _ i _ => levelsL (bsOf i))
          case atStart => exact ⟨ns, e.p, u, 3, by have := HNN.out; omega, by have := HNN.out; omega, HTK.out, rfl, HU.out, HEP.out, levels_3 _, HTT.out, by rw [HNN.out] at *; exact HOW3.out, HB3.out⟩
          case round =>
            obtain ⟨cur, s, u', r, hc0, hc1, hct, rfl, hsu, hsp, hsl, hsT, hown, hb⟩ := hrel
            have HCT := Lib.hid hct
            clear hct
            by_cases hroot : u'.data.toList = [47]
            · have hqr := beq_yes hroot
              have HTC : Hid (cur.map Mk.pl = ((ms.take (j + 1)).map Mk.pl).foldl (fun out m => upsR 3 out m.p) (ms.map Mk.pl)) := by rw [Hid, HTF.out, ← hsT, upsR_end (by rw [hsu]; exact hroot)]
              clear hroot hsu hsp hsl hsT
              go_wp2
              go_roundw
              case rel => exact ⟨j + 1, cur, by omega, by omega, by omega, by go_num, HCT.out, HTC.out, hown, hb⟩
              case measure => simp [intOf]; omega
            · have hqr := beq_no hroot
              obtain ⟨r', rfl, hup, hul, hstep⟩ := upsR_step (l := cur.map Mk.pl) hsp hsl (by rw [hsu]; exact hroot)
              rw [hsT, hsu] at hstep
              rw [hsu] at hup hul
              have hus : u'.size ≤ maxLen := by have := (path_len hup).2; rw [size_data] at this; unfold maxLen; omega
              obtain ⟨u2, hu2⟩ := str_of20 (upL u'.data.toList)
              have HU2 := Lib.hid hu2
              obtain ⟨o, ho⟩ : ∃ o, getM cur u' = o := ⟨_, rfl⟩
              have HO := Lib.hid ho
              rw [getM_pl, ho] at hstep
              have HST := Lib.hid hstep
              have HUP := Lib.hid hup
              have HUL := Lib.hid hul
              have HLV := Lib.hid (levels_up hup)
              have hcm : cur.length ≤ maxLen := by unfold maxLen; omega
              obtain ⟨x1, x2, rfl⟩ := own_shape hown
              have HMA := Lib.hid (markAt_c x1 x2 cur u' o HO _ (own_slf (fun _ => rfl) hown) hcm)
              clear hroot hsu hsp hsl hsT hu2 ho hstep hup hul
              go_wp2_with fail
              refine HMA.out.mono ?_; rintro e' W4 ⟨rfl, hq⟩; replace hb := chn hb hq; replace hown := own_below hown hq; clear hq HMA
              cases o with
              | some m =>
                obtain ⟨mp, mk, mx⟩ := m
                replace hown := own_below hown (bellow_alloc W4 (.cells #[.string mp, .int .i64 mk, .string mx] 45))
                replace hb := hb.alloc hb.size (.cells #[.string mp, .int .i64 mk, .string mx] 45); 
                go_wp2_with fail
                refine (pathUp_c u' u2 HU2 _ hus).mono ?_; rintro e' W5 ⟨rfl, hq⟩; replace hb := chn hb hq; replace hown := own_below hown hq; clear hq
                go_wp2
                go_roundw
                case rel => exact ⟨cur, u', u2, r', hc0, by omega, HCT.out, rfl, HU2.out, HUP.out, HUL.out, HST.out.symm, hown, hb⟩
                case measure => show levelsL u2.data.toList < levelsL u'.data.toList; rw [HLV.out, HU2.out]; omega
              | none =>
                replace hown := own_below hown (bellow_alloc W4 (.cells #[.string ⟨#[]⟩, .int .i64 0, .string ⟨#[]⟩] 45))
                replace hb := hb.alloc hb.size (.cells #[.string ⟨#[]⟩, .int .i64 0, .string ⟨#[]⟩] 45); 
                go_wp2_with (at_builtin; go_must (refine wp_app1H (by rfl) _ _ 24 (by rfl) HE W1.heap.size W1.heap.size W1 _ #[.string u', .int .i64 2, .string ⟨#[]⟩] _ _ _ (by rfl) (W4.heap.size + 1) (by simp) (by rfl) hown (by rfl) (by simp [Value.oneCell']) (by omega) hb.size hb (Nat.le_refl _) ?_); intro v' w1 hown1 hbel1 _ _)
                refine (pathUp_c u' u2 HU2 _ hus).mono ?_; rintro e' W5 ⟨rfl, hq⟩; replace hbel1 := chn hbel1 hq; replace hown1 := own_below hown1 hq; clear hq
                go_wp2
                go_roundw
                case rel => exact ⟨cur ++ [⟨u', 2, ⟨#[]⟩⟩], u', u2, r', by simp; omega, by simp; omega, take_app _ HCT.out hc0, rfl, HU2.out, HUP.out, HUL.out, by rw [List.map_append]; exact HST.out.symm, by rw [← flat_mk]; simpa using hown1, hbel1⟩
                case measure => show levelsL u2.data.toList < levelsL u'.data.toList; rw [HLV.out, HU2.out]; omega
        · obtain rfl : j = l := by omega
          have HRAW : Hid (ns.map Mk.pl = rawQ (ys.map En.pl) (tturn (xs.map En.pl) (ys.map En.pl))) := by
            rw [Hid, HNS.out, ← HL.out, List.take_length, HMK.out]; rfl
          obtain ⟨g1, g2, rfl⟩ := own_shape hown
          go_wp2_with fail
          refine (sortMk_c _ W1.heap.size g1 g2 ns hown (by omega)).mono ?_; rintro e W2 ⟨rfl, zs, hp, hso, _, hz2, hq⟩
          have hzl : ns.length = zs.length := hp.length_eq.symm
          have HEQ : Hid (zs.map Mk.pl = tdiffL (xs.map En.pl) (ys.map En.pl)) := by
            refine tdiff_of_raw (by rw [← HRAW.out]; exact hp.map _) ?_
            rw [List.pairwise_map]
            exact hso
          go_wp2
          go_ret
          exact ⟨g1, g2, zs, by first | rfl | rw [hzl], HEQ.out, own_mono hz2 HB1.out.size, (HB1.out.trans (hb.mono HB1.out.size)).trans (hq.mono HB1.out.size)⟩
end Go.Proofs.YtnmjidjhloodbaaDoor
namespace Go.Proofs.YtnmjidjhloodbaaDoor
open Go.RowKit
/-- A row of marks of the call's own, with an array behind it. -/
def OwnRd (w : World) (B : Nat) (v : Value) (ms : List Mk) : Prop :=
  ∃ g c, v = .slice (some ⟨g, 0, none⟩) ms.length c ∧ ms.length ≤ c ∧ c ≤ maxLen ∧ OwnMk w B (.slice (some ⟨g, 0, none⟩) ms.length c) ms
theorem OwnRd.below {w w' : World} {B : Nat} {v : Value} {ms : List Mk} (h : OwnRd w B v ms) (hq : Below w.heap.size w w') : OwnRd w' B v ms := by
  obtain ⟨g, c, h1, h2, h3, h4⟩ := h
  exact ⟨g, c, h1, h2, h3, own_below h4 hq⟩
/-- The contract of l3Put, as the rows of the call's own meet it. -/
theorem l3PutO_c (B : Nat) (v : Value) (ms : List Mk) (e : Mk) (w : World) (h : OwnRd w B v ms) (hB : B ≤ w.heap.size) (hn : ms.length ≤ 1000) :
    Calls Tryd.prog 45 #[v, e.val] w fun r w' => ∃ v', r = .returned v' ∧ OwnRd w' B v' (putP Mk.bs ms e) ∧ Below w.heap.size w w' := by
  obtain ⟨g, c, rfl, h2, h3, h4⟩ := h
  refine (l3Put_c g 0 c ms e _ (Lib.hid rfl) w (own_slf (fun _ => rfl) h4) (h4.lt g rfl).2 (by omega) h2 h3).mono ?_
  rintro r w' ⟨g', c', rfl, h5, h6, h7, h8⟩
  exact ⟨_, rfl, ⟨g', c', rfl, h5, h6, own_mono h7 hB⟩, h8⟩
theorem kinds_put {ms : List Mk} {e : Mk} (h : ∀ m ∈ ms, m.k ≠ 0) (he : e.k ≠ 0) : ∀ m ∈ putP Mk.bs ms e, m.k ≠ 0 := by
  induction ms with
  | nil => intro m hm; simp [putP] at hm; rw [hm]; exact he
  | cons x r ih =>
    intro m hm
    rw [putP] at hm
    split at hm
    · rcases List.mem_cons.1 hm with rfl | hm
      · exact h _ List.mem_cons_self
      · exact ih (fun m hm => h m (List.mem_cons_of_mem _ hm)) m hm
    · split at hm
      · rcases List.mem_cons.1 hm with rfl | hm
        · exact he
        · exact h _ (List.mem_cons_of_mem _ hm)
      · rcases List.mem_cons.1 hm with rfl | hm
        · exact he
        · exact h _ hm
/-- What l3Ups leaves. -/
def UpsPost (B : Nat) (l : List PM) (N : Nat) (w : World) (e : Ending) (w' : World) : Prop :=
  ∃ (v' : Value) (ns : List Mk), e = .returned v' ∧ ns.map Mk.pl = l ∧ (∀ m ∈ ns, m.k ≠ 0) ∧ ns.length ≤ N ∧ OwnRd w' B v' ns ∧ Below w.heap.size w w'
set_option maxRecDepth 100000 in
set_option maxHeartbeats 8000000 in
theorem l3Ups_c (n : Nat) : ∀ (v : Value) (ms : List Mk) (q : ByteArray) (B : Nat) (w : World), pathOkL q.data.toList = true → levelsL q.data.toList ≤ n → (∀ m ∈ ms, m.k ≠ 0) → OwnRd w B v ms → B ≤ w.heap.size → ms.length + n ≤ 1000 →
    Calls Tryd.prog 58 #[v, .string q] w (UpsPost B (upsL n (ms.map Mk.pl) q.data.toList) (ms.length + n) w) := by
  induction n with
  | zero =>
    intro v ms q B w hq hl _ _ _ _
    have := levels_up hq
    omega
  | succ n ih =>
    intro v ms q B w hq hl hk hv hB hn
    have hqs : q.size ≤ maxLen := by have := (path_len hq).2; rw [size_data] at this; unfold maxLen; omega
    obtain ⟨u, hu⟩ := str_of20 (upL q.data.toList)
    have HU := Lib.hid hu
    have hb := Below.refl w.heap.size w
    have HV := Lib.hid hv
    have HK := Lib.hid hk
    by_cases hr : upL q.data.toList = [47]
    · have q1 := beq_yes (hu ▸ hr)
      have HL : Hid (ms.map Mk.pl = upsL (n + 1) (ms.map Mk.pl) q.data.toList) := by rw [Hid]; conv => rhs; rw [upsL, if_pos hr]
      have HN : Hid (ms.length ≤ ms.length + (n + 1)) := Nat.le_add_right _ _
      obtain ⟨L, hL⟩ : ∃ L, upsL (n + 1) (ms.map Mk.pl) q.data.toList = L := ⟨_, rfl⟩
      rw [hL] at HL ⊢
      clear hr hu hq hl hk hv ih hL
      go_enter Tryd.func58, Tryd.ntmps58
      go_wp2_with fail
      refine (sPathUp_c q u HU _ hqs).mono ?_; rintro e W ⟨rfl, hq⟩; replace hb := chn hb hq; clear hq
      go_wp2
      go_ret
      exact ⟨_, ms, rfl, HL.out, HK.out, HN.out, HV.out.below hb, hb⟩
    · have q1 := beq_no (s := u) (by rw [← hu]; exact hr)
      have hlv := levels_up hq
      have hup := up_path hq hr
      rw [hu] at hlv hup
      obtain ⟨kk, hkk⟩ : ∃ kk, kindM ms u = kk := ⟨_, rfl⟩
      have HKK := Lib.hid hkk
      have hz := kind_zero hk u
      rw [hkk] at hz
      have HGK := Lib.hid (fun W (h : OwnRd W B v ms) => (by
        obtain ⟨g, c, rfl, h2, h3, h4⟩ := h
        exact l3Kind_c _ c ms u kk HKK W (own_slf (fun _ => rfl) h4) (by unfold maxLen; omega) : Calls Tryd.prog 44 #[v, .string u] W fun e w' => e = .returned (.int .i64 kk) ∧ W = w'))
      by_cases h0 : kk = 0
      · subst h0
        have hnone : getM ms u = none := by
          cases hg : getM ms u with
          | none => rfl
          | some m => rw [hg] at hz; simp at hz
        have HL : Hid (upsL n ((putP Mk.bs ms ⟨u, 2, ⟨#[]⟩⟩).map Mk.pl) u.data.toList = upsL (n + 1) (ms.map Mk.pl) q.data.toList) := by
          rw [Hid]
          conv => rhs; rw [upsL, if_neg hr]
          rw [hu, getM_pl, hnone, if_pos (by rfl), putP_map Mk.pl (f := Mk.bs) (g := PM.p) (fun _ => rfl)]; rfl
        have HP := Lib.hid (fun W (h : OwnRd W B v ms) (h' : B ≤ W.heap.size) => l3PutO_c B v ms ⟨u, 2, ⟨#[]⟩⟩ W h h' (by omega))
        have hpl := mput_len ms ⟨u, 2, ⟨#[]⟩⟩
        have HI := Lib.hid (fun v2 W (h : OwnRd W B v2 (putP Mk.bs ms ⟨u, 2, ⟨#[]⟩⟩)) (h' : B ≤ W.heap.size) => ih v2 _ u B W hup (by omega) (kinds_put hk (show (2 : Int) ≠ 0 by decide)) h h' (by omega))
        have HN : Hid ((putP Mk.bs ms ⟨u, 2, ⟨#[]⟩⟩).length + n ≤ ms.length + (n + 1)) := by rw [Hid]; omega
        obtain ⟨L, hL⟩ : ∃ L, upsL (n + 1) (ms.map Mk.pl) q.data.toList = L := ⟨_, rfl⟩
        rw [hL] at HL ⊢
        clear hr hu hq hl hk hv ih hL hlv hup hkk hz hnone hpl
        go_enter Tryd.func58, Tryd.ntmps58
        go_wp2_with fail
        refine (sPathUp_c q u HU _ hqs).mono ?_; rintro e W ⟨rfl, hq⟩; replace hb := chn hb hq; clear hq
        go_wp2_with fail
        refine (HGK.out _ (HV.out.below hb)).mono ?_; rintro e W ⟨rfl, rfl⟩
        go_wp2_with fail
        refine (HP.out _ (HV.out.below hb) (Nat.le_trans hB hb.size)).mono ?_; rintro e W ⟨v2, rfl, ho2, hq2⟩; replace hb := chn hb hq2
        go_wp2_with fail
        refine (HI.out v2 _ ho2 (Nat.le_trans hB hb.size)).mono ?_; rintro e W3 ⟨v3, ns, rfl, h1, h2, h3, h4, hq3⟩; replace hb := chn hb hq3
        go_wp2
        go_ret
        exact ⟨_, ns, rfl, h1.trans HL.out, h2, Nat.le_trans h3 HN.out, h4, hb⟩
      · have hsome : getM ms u ≠ none := fun hg => by rw [hg] at hz; simp at hz; exact h0 hz
        have HL : Hid (upsL n (ms.map Mk.pl) u.data.toList = upsL (n + 1) (ms.map Mk.pl) q.data.toList) := by
          rw [Hid]
          conv => rhs; rw [upsL, if_neg hr]
          rw [hu, getM_pl, if_neg (by cases hg : getM ms u with
            | none => exact absurd hg hsome
            | some m => simp)]
        have HI := Lib.hid (fun W (h : OwnRd W B v ms) (h' : B ≤ W.heap.size) => ih v ms u B W hup (by omega) hk h h' (by omega))
        have HN : Hid (ms.length + n ≤ ms.length + (n + 1)) := by rw [Hid]; omega
        obtain ⟨L, hL⟩ : ∃ L, upsL (n + 1) (ms.map Mk.pl) q.data.toList = L := ⟨_, rfl⟩
        rw [hL] at HL ⊢
        have hne : (kk == 0) = false := by rw [beq_eq_false_iff_ne]; exact h0
        clear hr hu hq hl hk hv ih hL hlv hup hkk hz hsome h0
        go_enter Tryd.func58, Tryd.ntmps58
        go_wp2_with fail
        refine (sPathUp_c q u HU _ hqs).mono ?_; rintro e W ⟨rfl, hq⟩; replace hb := chn hb hq; clear hq
        go_wp2_with fail
        refine (HGK.out _ (HV.out.below hb)).mono ?_; rintro e W ⟨rfl, rfl⟩
        go_wp2_with fail
        refine (HI.out _ (HV.out.below hb) (Nat.le_trans hB hb.size)).mono ?_; rintro e W3 ⟨v3, ns, rfl, h1, h2, h3, h4, hq3⟩; replace hb := chn hb hq3
        go_wp2
        go_ret
        exact ⟨_, ns, rfl, h1.trans HL.out, h2, Nat.le_trans h3 HN.out, h4, hb⟩
end Go.Proofs.YtnmjidjhloodbaaDoor
namespace Go.Proofs.YtnmjidjhloodbaaDoor
open Go.RowKit
/-- A slice of entries that the call made. -/
def MadeEn (ys : List En) (w : World) (e : Ending) (w' : World) : Prop :=
  ∃ g c, e = .returned (.slice (some ⟨g, 0, none⟩) ys.length c) ∧ ys.length ≤ c ∧ c ≤ maxLen ∧ OwnEn w' w.heap.size (.slice (some ⟨g, 0, none⟩) ys.length c) ys ∧ Below w.heap.size w w'
theorem own_slfEn' {w : World} {B g c : Nat} {xs : List En} (h : OwnEn w B (.slice (some ⟨g, 0, none⟩) xs.length c) xs) : SlF En.cells w (some ⟨g, 0, none⟩) xs := fun hn => by
  obtain ⟨g', c', hv, _, _, hlt, hc, _⟩ := own_form h hn
  have hg : g = g' := by injection hv with h1; injection h1 with h1; injection h1
  subst hg
  refine ⟨g, 0, rfl, hlt, fun k x hx j u hu => ?_⟩
  rw [Nat.zero_add]
  refine hc _ _ ?_
  have key : ∀ (ys : List En) (k : Nat) (y : En), ys[k]? = some y → (ys.flatMap En.cells)[k * 3 + j]? = (En.cells y)[j]? := by
    have hj : j < 3 := (List.getElem?_eq_some_iff.1 hu).1
    intro ys
    induction ys with
    | nil => intro k y hy; simp at hy
    | cons z r ih =>
      intro k y hy
      rw [List.flatMap_cons]
      cases k with
      | zero =>
        simp at hy; subst hy
        rw [Nat.zero_mul, Nat.zero_add, List.getElem?_append_left (by exact hj)]
      | succ k =>
        rw [List.getElem?_append_right (by show 3 ≤ _; omega), show (k + 1) * 3 + j - (En.cells z).length = k * 3 + j by show (k + 1) * 3 + j - 3 = _; omega]
        exact ih k y (by simpa using hy)
  rw [key xs k x hx]; exact hu
theorem made_of {w0 w : World} {B : Nat} {v : Value} {ys : List En} (h : w.ownsRow B 55 3 v ys.length (ys.flatMap En.cells)) (hB : w0.heap.size ≤ B) (hb : Below w0.heap.size w0 w) (hn : 0 < ys.length) : MadeEn ys w0 (.returned v) w := by
  have h0 := h
  rcases h.2 with ⟨_, h1⟩ | ⟨g, cap, cur, rfl, hg, hh, hnc, hm, h2, h3⟩
  · omega
  · exact ⟨g, cap, rfl, hnc, hm, ⟨h.1, .inr ⟨g, cap, cur, rfl, Nat.le_trans hB hg, hh, hnc, hm, h2, h3⟩⟩, hb⟩
theorem en_one (e : En) : ∀ u ∈ En.cells e, u.oneCell' = true := by intro u hu; simp [En.cells] at hu; rcases hu with rfl | rfl | rfl <;> rfl
theorem flat_one (e : En) : [e].flatMap En.cells = (#[.string e.p, .bool e.d, .string e.x] : Array Value).toList := by simp [En.cells]
theorem flat_app (xs : List En) (e : En) : xs.flatMap En.cells ++ (#[.string e.p, .bool e.d, .string e.x] : Array Value).toList = (xs ++ [e]).flatMap En.cells := by simp [En.cells]
theorem bs_less (e f : En) (b : Bool) : Op.bytesLess e.p.toList f.p.toList = b ↔ Op.bytesLess (En.bs e) (En.bs f) = b := by rw [less_of']
theorem drop_len {xs : List En} {n k : Nat} (h : xs.length = n) : (xs.drop k).length = n - k := by rw [List.length_drop, h]
theorem drop_len0 {xs : List En} {k : Nat} (h : xs.length = k) : (xs.drop k).length = 0 := by rw [List.length_drop, h]; omega
theorem put_rows {xs ys : List En} {k k1 : Nat} {e : En} (h : ys = xs.take k ++ e :: xs.drop k1) {w : World} {B : Nat} {t : TypeId} {v : Value}
    (ho : w.ownsRow B t 3 v ((xs.take k).length + 1 + (xs.drop k1).length) ((xs.take k).flatMap En.cells ++ (#[.string e.p, .bool e.d, .string e.x] : Array Value).toList ++ (xs.drop k1).flatMap En.cells)) : w.ownsRow B t 3 v ys.length (ys.flatMap En.cells) := by
  have e1 : ys.length = (xs.take k).length + 1 + (xs.drop k1).length := by rw [h]; simp; omega
  have e2 : ys.flatMap En.cells = (xs.take k).flatMap En.cells ++ (#[.string e.p, .bool e.d, .string e.x] : Array Value).toList ++ (xs.drop k1).flatMap En.cells := by rw [h]; simp [En.cells]
  rw [e1, e2]; exact ho
set_option maxRecDepth 100000 in
set_option maxHeartbeats 4000000 in
theorem l2Put_c (b off c : Nat) (xs : List En) (e : En) (ys : List En) (hy : Hid (putP En.bs xs e = ys)) (w : World) (hs : SlF En.cells w (some ⟨b, off, none⟩) xs) (_hblk : b < w.heap.size) (hx : xs.length ≤ 1000000) (hc : xs.length ≤ c) (hcm : c ≤ maxLen) :
    Calls Tryd.prog 74 #[.slice (some ⟨b, off, none⟩) xs.length c, e.val] w (MadeEn ys w) := by
  have HE := eltEn
  obtain ⟨ep, ed, ex⟩ := e
  unfold maxLen at hcm
  obtain ⟨n, hn⟩ : ∃ n, xs.length = n := ⟨_, rfl⟩
  have HN := Lib.hid hn
  rw [hn] at hx hc ⊢
  obtain ⟨z, hz⟩ : ∃ z, w.alloc (.cells #[.string ep, .bool ed, .string ex] 55) = z := ⟨_, rfl⟩
  have hzs : z.heap.size = w.heap.size + 1 := by rw [← hz]; simp
  have c0 : z.cell? ⟨w.heap.size, 0, none⟩ = some (.string ep) := by rw [← hz]; exact new_cell _ _ _ 0 _ rfl
  have c1 : z.cell? ⟨w.heap.size, 1, none⟩ = some (.bool ed) := by rw [← hz]; exact new_cell _ _ _ 1 _ rfl
  have c2 : z.cell? ⟨w.heap.size, 2, none⟩ = some (.string ex) := by rw [← hz]; exact new_cell _ _ _ 2 _ rfl
  have HW := Lib.hid (hz ▸ bellow_alloc w _ : Below w.heap.size w z)
  have HS := Lib.hid (hs.below HW.out)
  have HZ := Lib.hid hzs
  have HWZ := Lib.hid (show w.heap.size ≤ z.heap.size by rw [hzs]; omega)
  have HC0 := Lib.hid c0
  have HC1 := Lib.hid c1
  have HC2 := Lib.hid c2
  clear hn hs hzs c0 c1 c2
  go_enter Tryd.func74, Tryd.ntmps74
  go_wp2
  clear hz
  go_loopw [5, 6] (fun v i wr => ∃ k : Nat, k ≤ n ∧ i = .int .i64 k ∧ wr.ownsRow z.heap.size 55 3 v (xs.take k).length ((xs.take k).flatMap En.cells) ∧ (∀ (j : Nat) (f : En), j < k → xs[j]? = some f → Op.bytesLess (En.bs f) ep.data.toList = true) ∧ Below z.heap.size z wr) (fun _ i _ => n - (intOf i).toNat)
  case atStart => exact ⟨0, Nat.zero_le _, rfl, World.ownsRow_lit z #[] 0 (Nat.le_refl _) (Nat.zero_le _) rfl, fun j _ h => absurd h (by omega), bellow_alloc _ _⟩
  case round =>
    obtain ⟨k, hk, rfl, hown, hall, hb⟩ := hrel
    have HA := Lib.hid hall
    clear hall
    have g0 := keepc hb HC0.out
    have g1 := keepc hb HC1.out
    have g2 := keepc hb HC2.out
    have hsw := HS.out.below hb
    have hlen : (xs.take k).length = k := by rw [List.length_take, HN.out]; omega
    have HL := Lib.hid hlen
    clear hlen
    by_cases hlt : k < n
    · obtain ⟨f, hff⟩ : ∃ f, xs[k]? = some f := ⟨_, List.getElem?_eq_getElem (by rw [HN.out]; exact hlt)⟩
      obtain ⟨d0, d1, d2⟩ := en_at hsw k f hff
      have i0 : (0 : Int) ≤ (k : Int) := by omega
      have i1 : (k : Int) < (n : Int) := by omega
      rcases Bool.eq_false_or_eq_true (Op.bytesLess f.p.toList ep.toList) with hle | hle
      · have HLE := Lib.hid ((bs_less f ⟨ep, ed, ex⟩ true).1 hle)
        have HFF := Lib.hid hff
        clear hff
        go_wp2_with fail
        go_quiet (fail)
        go_wp2_with (at_builtin; go_must (refine wp_app1 (by rfl) _ _ 34 (by rfl) HE z.heap.size z.heap.size z _ #[.string f.p, .bool f.d, .string f.x] _ _ _ (by rfl) (by rfl) hown (by rfl) (by simp [Value.oneCell']) (by have := HL.out; omega) (drw hb _).size (drw hb _) (Nat.le_refl _) ?_); intro v' w1 hown1 hbel1 _ hg1)
        go_roundw
        case rel => exact ⟨k + 1, by omega, by go_num, by
          have e1 := List.take_succ_eq_append_getElem (l := xs) (i := k) (by rw [HN.out]; exact hlt)
          have e2 : xs[k]'(by rw [HN.out]; exact hlt) = f := (List.getElem?_eq_some_iff.1 HFF.out).2
          rw [e2] at e1
          rw [flat_app] at hown1
          rw [e1, List.length_append]
          exact hown1, fun j g hj hg => by
          by_cases ej : j = k
          · subst ej
            rw [HFF.out] at hg
            injection hg with hg
            exact hg ▸ HLE.out
          · exact HA.out j g (by omega) hg, hbel1⟩
        case measure => simp [intOf]; omega
      · have hnl : ∀ x, xs[k]? = some x → Op.bytesLess (En.bs x) (En.bs ⟨ep, ed, ex⟩) = false := fun x hx => by
          rw [hff] at hx; injection hx with hx; rw [← hx]; exact (bs_less f ⟨ep, ed, ex⟩ false).1 hle
        have HSP := Lib.hid (put_split (f := En.bs) xs ⟨ep, ed, ex⟩ k (by rw [HN.out]; omega) HA.out hnl)
        clear hnl
        by_cases heq : f.p.data.toList = ep.data.toList
        · have q1 := beqs_yes heq
          have HY : Hid (ys = xs.take k ++ ⟨ep, ed, ex⟩ :: xs.drop (k + 1)) := by
            rw [Hid, ← hy.out, HSP.out, hff, show (Option.map En.bs (some f)) = some (En.bs ⟨ep, ed, ex⟩) from congrArg some heq, if_pos rfl]
          have HFF := Lib.hid hff
          clear heq hff HSP
          have i2 : (k : Int) + 1 ≤ (n : Int) := by omega
          have i3 : (0 : Int) ≤ (k : Int) + 1 := by omega
          have i4 : (k : Int) + 1 ≤ (c : Int) := by omega
          go_wp2_with fail
          go_quiet (fail)
          go_wp2_with (at_builtin; go_must (refine wp_app1 (by rfl) _ _ 34 (by rfl) HE z.heap.size z.heap.size z _ #[.string ep, .bool ed, .string ex] _ _ _ (by rfl) (by rfl) hown (by rfl) (by simp [Value.oneCell']) (by have := HL.out; omega) (drw hb _).size (drw hb _) (Nat.le_refl _) ?_); intro v' w1 hown1 hbel1 _ hg1)
          have hsw1 := HS.out.below hbel1
          have HDL := Lib.hid (drop_len (k := (k+1)) HN.out)
          by_cases hck : c = (k+1)
          · have HSD : ∀ W, SlF En.cells W (some ⟨b, off, none⟩) (xs.drop (k+1)) := fun W h => absurd h (by rw [HDL.out]; omega)
            obtain ⟨d0, d1, d2⟩ := en_at hsw1 k f HFF.out
            have q0 := keepc hbel1 HC0.out
            have hown2 := hown1
            go_wp2_with fail
            go_quiet (fail)
            go_wp2_with (at_builtin; go_must (refine wp_appS (by rfl) _ _ 34 (by rfl) HE z.heap.size z.heap.size z _ _ _ _ (by rfl) En.cells (fun _ => rfl) en_one (xs.drop (k+1)) b off _ _ HDL.out (by rfl) (HSD _) hown2 (by have := HL.out; have := HDL.out; omega) hbel1.size (drw hbel1 _) (Nat.le_refl _) ?_); intro v2 w2 hown3 hbel3 _ _)
            go_ret
            exact made_of (put_rows HY.out hown3) HWZ.out (HW.out.trans (hbel3.mono HWZ.out)) (by rw [HY.out]; simp; omega)
          · have HSD0 := Lib.hid (hsw1.drop (k+1))
            obtain ⟨d0, d1, d2⟩ := en_at hsw1 k f HFF.out
            have q0 := keepc hbel1 HC0.out
            have hown2 := hown1
            go_wp2_with fail
            go_quiet (fail)
            go_wp2_with (at_builtin; go_must (refine wp_appS (by rfl) _ _ 34 (by rfl) HE z.heap.size z.heap.size z _ _ _ _ (by rfl) En.cells (fun _ => rfl) en_one (xs.drop (k+1)) b (off+(k+1)*3) _ _ HDL.out (by rfl) (HSD0.out.below (below_dr _ _)) hown2 (by have := HL.out; have := HDL.out; omega) hbel1.size (drw hbel1 _) (Nat.le_refl _) ?_); intro v2 w2 hown3 hbel3 _ _)
            go_ret
            exact made_of (put_rows HY.out hown3) HWZ.out (HW.out.trans (hbel3.mono HWZ.out)) (by rw [HY.out]; simp; omega)
        · have q1 := beqs_no heq
          have HY : Hid (ys = xs.take k ++ ⟨ep, ed, ex⟩ :: xs.drop k) := by
            rw [Hid, ← hy.out, HSP.out, hff, if_neg (by intro h; injection h with h; exact heq h)]; rfl
          have HFF := Lib.hid hff
          clear heq hff HSP
          have i4 : (k : Int) ≤ (c : Int) := by omega
          have i5 : (k : Int) ≤ (n : Int) := by omega
          go_wp2_with fail
          go_quiet (fail)
          go_wp2_with (at_builtin; go_must (refine wp_app1 (by rfl) _ _ 34 (by rfl) HE z.heap.size z.heap.size z _ #[.string ep, .bool ed, .string ex] _ _ _ (by rfl) (by rfl) hown (by rfl) (by simp [Value.oneCell']) (by have := HL.out; omega) (drw hb _).size (drw hb _) (Nat.le_refl _) ?_); intro v' w1 hown1 hbel1 _ hg1)
          have hsw1 := HS.out.below hbel1
          have HDL := Lib.hid (drop_len (k := k) HN.out)
          by_cases hck : c = k
          · have HSD : ∀ W, SlF En.cells W (some ⟨b, off, none⟩) (xs.drop k) := fun W h => absurd h (by rw [HDL.out]; omega)
            obtain ⟨d0, d1, d2⟩ := en_at hsw1 k f HFF.out
            have q0 := keepc hbel1 HC0.out
            have hown2 := hown1
            go_wp2_with fail
            go_quiet (fail)
            go_wp2_with (at_builtin; go_must (refine wp_appS (by rfl) _ _ 34 (by rfl) HE z.heap.size z.heap.size z _ _ _ _ (by rfl) En.cells (fun _ => rfl) en_one (xs.drop k) b off _ _ HDL.out (by rfl) (HSD _) hown2 (by have := HL.out; have := HDL.out; omega) hbel1.size (drw hbel1 _) (Nat.le_refl _) ?_); intro v2 w2 hown3 hbel3 _ _)
            go_ret
            exact made_of (put_rows HY.out hown3) HWZ.out (HW.out.trans (hbel3.mono HWZ.out)) (by rw [HY.out]; simp; omega)
          · have HSD0 := Lib.hid (hsw1.drop k)
            obtain ⟨d0, d1, d2⟩ := en_at hsw1 k f HFF.out
            have q0 := keepc hbel1 HC0.out
            have hown2 := hown1
            go_wp2_with fail
            go_quiet (fail)
            go_wp2_with (at_builtin; go_must (refine wp_appS (by rfl) _ _ 34 (by rfl) HE z.heap.size z.heap.size z _ _ _ _ (by rfl) En.cells (fun _ => rfl) en_one (xs.drop k) b (off+k*3) _ _ HDL.out (by rfl) (HSD0.out.below (below_dr _ _)) hown2 (by have := HL.out; have := HDL.out; omega) hbel1.size (drw hbel1 _) (Nat.le_refl _) ?_); intro v2 w2 hown3 hbel3 _ _)
            go_ret
            exact made_of (put_rows HY.out hown3) HWZ.out (HW.out.trans (hbel3.mono HWZ.out)) (by rw [HY.out]; simp; omega)
    · obtain rfl : k = n := by omega
      have hnl : ∀ x, xs[k]? = some x → Op.bytesLess (En.bs x) (En.bs ⟨ep, ed, ex⟩) = false := fun x hx => by
        have := (List.getElem?_eq_some_iff.1 hx).1; rw [HN.out] at this; omega
      have hff : xs[k]? = none := List.getElem?_eq_none (by rw [HN.out]; omega)
      have HY : Hid (ys = xs.take k ++ ⟨ep, ed, ex⟩ :: xs.drop k) := by
        rw [Hid, ← hy.out, put_split (f := En.bs) xs ⟨ep, ed, ex⟩ k (by rw [HN.out]; omega) HA.out hnl, hff, if_neg (by simp)]; rfl
      clear hnl hff
      have i4 : (k : Int) ≤ (c : Int) := by omega
      have i0 : (0 : Int) ≤ (k : Int) := by omega
      have dk : decide ((k : Int) < (k : Int)) = false := by simp
      go_wp2_with fail
      go_quiet (fail)
      go_wp2_with (at_builtin; go_must (refine wp_app1 (by rfl) _ _ 34 (by rfl) HE z.heap.size z.heap.size z _ #[.string ep, .bool ed, .string ex] _ _ _ (by rfl) (by rfl) hown (by rfl) (by simp [Value.oneCell']) (by have := HL.out; omega) (drw hb _).size (drw hb _) (Nat.le_refl _) ?_); intro v' w1 hown1 hbel1 _ hg1)
      have hsw1 := HS.out.below hbel1
      have HDL := Lib.hid (drop_len0 (k := k) HN.out)
      by_cases hck : c = k
      · have HSD : ∀ W, SlF En.cells W (some ⟨b, off, none⟩) (xs.drop k) := fun W h => absurd h (by rw [HDL.out]; omega)
        have hown2 := hown1
        go_wp2_with fail
        go_quiet (fail)
        go_wp2_with (at_builtin; go_must (refine wp_appS (by rfl) _ _ 34 (by rfl) HE z.heap.size z.heap.size z _ _ _ _ (by rfl) En.cells (fun _ => rfl) en_one (xs.drop k) b off _ _ HDL.out (by rfl) (HSD _) hown2 (by have := HL.out; have := HDL.out; omega) hbel1.size (drw hbel1 _) (Nat.le_refl _) ?_); intro v2 w2 hown3 hbel3 _ _)
        go_ret
        exact made_of (put_rows HY.out hown3) HWZ.out (HW.out.trans (hbel3.mono HWZ.out)) (by rw [HY.out]; simp; omega)
      · have HSD0 := Lib.hid (hsw1.drop k)
        have hown2 := hown1
        go_wp2_with fail
        go_quiet (fail)
        go_wp2_with (at_builtin; go_must (refine wp_appS (by rfl) _ _ 34 (by rfl) HE z.heap.size z.heap.size z _ _ _ _ (by rfl) En.cells (fun _ => rfl) en_one (xs.drop k) b (off+k*3) _ _ HDL.out (by rfl) (HSD0.out.below (below_dr _ _)) hown2 (by have := HL.out; have := HDL.out; omega) hbel1.size (drw hbel1 _) (Nat.le_refl _) ?_); intro v2 w2 hown3 hbel3 _ _)
        go_ret
        exact made_of (put_rows HY.out hown3) HWZ.out (HW.out.trans (hbel3.mono HWZ.out)) (by rw [HY.out]; simp; omega)
end Go.Proofs.YtnmjidjhloodbaaDoor
namespace Go.Proofs.YtnmjidjhloodbaaDoor
open Go.RowKit
abbrev zeroE : En := ⟨⟨#[]⟩, false, ⟨#[]⟩⟩
def optE : Option En → En
  | some e => e
  | none => zeroE
theorem optV_eq (o : Option En) : optV o = .tuple #[(optE o).val, .bool o.isSome] := by cases o <;> rfl
theorem fold_pl (xs ys : List En) : (ys.foldl (putP En.bs) xs).map En.pl = (ys.map En.pl).foldl (putP PE.p) (xs.map En.pl) := by
  induction ys generalizing xs with
  | nil => rfl
  | cons y r ih => rw [List.foldl_cons, ih, List.map_cons, List.foldl_cons, putP_map En.pl (f := En.bs) (g := PE.p) (fun _ => rfl)]
theorem fold_len2 (xs ys : List En) : (ys.foldl (putP En.bs) xs).length ≤ xs.length + ys.length := by
  induction ys generalizing xs with
  | nil => simp
  | cons y r ih =>
    rw [List.foldl_cons]
    have h1 := ih (putP En.bs xs y)
    have h2 : (putP En.bs xs y).length ≤ xs.length + 1 := by
      clear ih h1
      induction xs with
      | nil => simp [putP]
      | cons x a ih =>
        unfold putP
        split
        · simp only [List.length_cons]; omega
        · split <;> simp
    simp only [List.length_cons]; omega
/-- What is told of the first entries. -/
def diffs (xs ys : List En) (zs : List En) : List Bs := ((zs.map En.pl).filter fun e => decide (atP PE.p (xs.map En.pl) e.p ≠ atP PE.p (ys.map En.pl) e.p)).map PE.p
theorem getE_at (xs : List En) (q : ByteArray) : atP PE.p (xs.map En.pl) q.data.toList = (getE xs q).map En.pl := by rw [← getL_at]; exact getE_pl xs q
theorem pl_opt_inj {a b : Option En} (h : a.map En.pl = b.map En.pl) : a = b := by
  cases a with
  | none =>
    cases b with
    | none => rfl
    | some _ => cases h
  | some e =>
    cases b with
    | none => cases h
    | some f => rw [En.pl_inj (Option.some.inj h)]
theorem diffs_eq {xs ys zs : List En} {z : En} (h : getE xs z.p = getE ys z.p) : diffs xs ys (zs ++ [z]) = diffs xs ys zs := by
  unfold diffs
  rw [List.map_append, List.filter_append, List.map_append]
  have h1 : atP PE.p (xs.map En.pl) z.pl.p = atP PE.p (ys.map En.pl) z.pl.p := by
    show atP PE.p (xs.map En.pl) z.p.data.toList = atP PE.p (ys.map En.pl) z.p.data.toList
    rw [getE_at, getE_at, h]
  simp [h1]
theorem diffs_ne {xs ys zs : List En} {z : En} (h : getE xs z.p ≠ getE ys z.p) : diffs xs ys (zs ++ [z]) = diffs xs ys zs ++ [z.p.data.toList] := by
  unfold diffs
  rw [List.map_append, List.filter_append, List.map_append]
  have h1 : atP PE.p (xs.map En.pl) z.pl.p ≠ atP PE.p (ys.map En.pl) z.pl.p := by
    show atP PE.p (xs.map En.pl) z.p.data.toList ≠ atP PE.p (ys.map En.pl) z.p.data.toList
    rw [getE_at, getE_at]
    exact fun h2 => h (pl_opt_inj h2)
  simp [h1]; rfl
theorem take_snoc' {α : Type} {xs : List α} {k : Nat} {e : α} (he : xs[k]? = some e) : xs.take (k + 1) = xs.take k ++ [e] := by
  have h1 := List.take_succ_eq_append_getElem (l := xs) (i := k) (List.getElem?_eq_some_iff.1 he).1
  rw [(List.getElem?_eq_some_iff.1 he).2] at h1
  exact h1
/-- A slice of entries under way. -/
def ReadEn (w : World) (v : Value) (zs : List En) : Prop := ∃ b off c, v = .slice (some ⟨b, off, none⟩) zs.length c ∧ zs.length ≤ c ∧ c ≤ maxLen ∧ b < w.heap.size ∧ SlF En.cells w (some ⟨b, off, none⟩) zs
theorem made_read {ys : List En} {w : World} {e : Ending} {w' : World} (h : MadeEn ys w e w') : ∃ v, e = .returned v ∧ ReadEn w' v ys ∧ Below w.heap.size w w' := by
  obtain ⟨g, c, rfl, h1, h2, h3, h4⟩ := h
  exact ⟨_, rfl, ⟨g, 0, c, rfl, h1, h2, (h3.lt g rfl).2, own_slfEn' h3⟩, h4⟩
set_option maxRecDepth 100000 in
set_option maxHeartbeats 8000000 in
theorem l2Turned_c (b0 off0 c : Nat) (a' : Option Addr) (c' : Nat) (xs ys : List En) (w : World) (hs : SlF En.cells w (some ⟨b0, off0, none⟩) xs) (hs' : SlF En.cells w a' ys) (hb0 : b0 < w.heap.size) (hc : xs.length ≤ c) (hcm : c ≤ maxLen) (hx : TOk (xs.map En.pl)) (hy : TOk (ys.map En.pl)) :
    Calls Tryd.prog 56 #[.slice (some ⟨b0, off0, none⟩) xs.length c, .slice a' ys.length c'] w (MadeSt (turnedL (xs.map En.pl) (ys.map En.pl)) w) := by
  have HE := strElt
  have hx16 : xs.length ≤ 16 := by have := hx.most; rw [List.length_map] at this; exact this
  have hy16 : ys.length ≤ 16 := by have := hy.most; rw [List.length_map] at this; exact this
  have hx63 : xs.length ≤ maxLen := by unfold maxLen; omega
  have hy63 : ys.length ≤ maxLen := by unfold maxLen; omega
  have HL := Lib.hid (show turnedL (xs.map En.pl) (ys.map En.pl) = diffs xs ys (ys.foldl (putP En.bs) xs) by unfold turnedL diffs; rw [fold_pl])
  obtain ⟨L, hL⟩ : ∃ L, turnedL (xs.map En.pl) (ys.map En.pl) = L := ⟨_, rfl⟩
  have HLL := Lib.hid (hL.symm.trans HL.out)
  have HG := fun (q : ByteArray) (o : Option En) (ho : Hid (lgetE xs q = o)) W (h : SlF En.cells W (some ⟨b0, off0, none⟩) xs) => Lib.hid ((l2Get_c (some ⟨b0, off0, none⟩) c xs q o ho W h hx63).mono fun _ _ ⟨h1, h2⟩ => (⟨h1.trans (by rw [optV_eq]), h2⟩ : _ = Ending.returned (.tuple #[(optE o).val, .bool o.isSome]) ∧ _))
  have HG' := fun (q : ByteArray) (o : Option En) (ho : Hid (lgetE ys q = o)) W (h : SlF En.cells W a' ys) => Lib.hid ((l2Get_c a' c' ys q o ho W h hy63).mono fun _ _ ⟨h1, h2⟩ => (⟨h1.trans (by rw [optV_eq]), h2⟩ : _ = Ending.returned (.tuple #[(optE o).val, .bool o.isSome]) ∧ _))
  have HZP : Hid (∀ z ∈ ys.foldl (putP En.bs) xs, z.p.data.toList ≠ [47]) := fun z hz hr => by
    have h1 : z.pl ∈ (ys.map En.pl).foldl (putP PE.p) (xs.map En.pl) := by rw [← fold_pl]; exact List.mem_map.2 ⟨z, hz, rfl⟩
    rcases (mem_fold hy.ordP.dis hx.ordP z.pl).1 h1 with h2 | ⟨h2, _⟩
    · have := hy.pth h2; rw [show z.pl.p = [47] from hr, root_no] at this; cases this
    · have := hx.pth h2; rw [show z.pl.p = [47] from hr, root_no] at this; cases this
  have HS := Lib.hid hs
  have HS' := Lib.hid hs'
  have HR0 : Hid (ReadEn w (.slice (some ⟨b0, off0, none⟩) xs.length c) xs) := ⟨b0, off0, c, rfl, hc, hcm, hb0, hs⟩
  rw [hL]
  obtain ⟨n, hn⟩ : ∃ n, xs.length = n := ⟨_, rfl⟩
  obtain ⟨n', hn'⟩ : ∃ n, ys.length = n := ⟨_, rfl⟩
  have HN := Lib.hid hn
  have HN' := Lib.hid hn'
  rw [hn] at HG HR0 hx16 ⊢
  rw [hn'] at HG' hy16 ⊢
  have GG := Lib.hid HG
  have GG' := Lib.hid HG'
  clear hn hn' hL hs hs' HG HG' hx hy hx63 hy63 hc hcm HL
  go_enter Tryd.func56, Tryd.ntmps56
  go_wp2
  go_loopw [5, 6] (fun v i wr => ∃ k : Nat, k ≤ n' ∧ i = .int .i64 k ∧ ReadEn wr v ((ys.take k).foldl (putP En.bs) xs) ∧ Below w.heap.size w wr) (fun _ i _ => n' - (intOf i).toNat)
  case atStart => exact ⟨0, Nat.zero_le _, rfl, HR0.out, Below.refl _ _⟩
  case round =>
    obtain ⟨k, hk, rfl, hrd, hb⟩ := hrel
    by_cases hlt : k < n'
    · obtain ⟨f, hff⟩ : ∃ f, ys[k]? = some f := ⟨_, List.getElem?_eq_getElem (by rw [HN'.out]; exact hlt)⟩
      have hsw' := HS'.out.below hb
      obtain ⟨b', off', rfl, _⟩ := hsw'.addr (by rw [HN'.out]; omega)
      obtain ⟨g0, g1, g2⟩ := en_at hsw' k f hff
      obtain ⟨b, off, cz, rfl, hz1, hz2, hz3, hsz⟩ := hrd
      obtain ⟨zs, hzs⟩ : ∃ zs, (ys.take k).foldl (putP En.bs) xs = zs := ⟨_, rfl⟩
      rw [hzs] at hz1 hsz ⊢
      have HZN : Hid ((ys.take (k + 1)).foldl (putP En.bs) xs = putP En.bs zs f) := by rw [Hid, take_snoc' hff, List.foldl_append, hzs]; rfl
      have hzl : zs.length ≤ 1000000 := by
        have h1 := fold_len2 xs (ys.take k)
        rw [hzs, HN.out, List.length_take, HN'.out] at h1
        omega
      have HP := Lib.hid (l2Put_c b off cz zs f _ (Lib.hid rfl) wr hsz hz3 hzl hz1 hz2)
      obtain ⟨m, hm⟩ : ∃ m, zs.length = m := ⟨_, rfl⟩
      rw [hm] at HP ⊢
      clear hzs hz1 hz2 hz3 hzl hsz hm hff hsw'
      go_wp2_with fail
      refine HP.out.mono ?_
      intro e W hmade
      obtain ⟨v, rfl, hrd, hq⟩ := made_read hmade
      rw [← HZN.out] at hrd
      replace hb := chn hb hq
      clear hmade hq
      go_wp2
      go_roundw
      case rel => exact ⟨k + 1, by omega, by go_num, hrd, hb⟩
      case measure => simp [intOf]; omega
    · obtain rfl : k = n' := by omega
      obtain ⟨b, off, cz, rfl, hz1, hz2, hz3, hsz⟩ := hrd
      have hall : ys.take k = ys := by rw [← HN'.out, List.take_length]
      rw [hall] at hz1 hsz ⊢
      obtain ⟨zs, hzs⟩ : ∃ zs, ys.foldl (putP En.bs) xs = zs := ⟨_, rfl⟩
      have HZS := Lib.hid hzs
      rw [hzs] at hz1 hsz HLL HZP ⊢
      have hzl : zs.length ≤ 32 := by
        have h1 := fold_len2 xs ys
        rw [hzs, HN.out, HN'.out] at h1
        omega
      obtain ⟨m, hm⟩ : ∃ m, zs.length = m := ⟨_, rfl⟩
      have HM := Lib.hid hm
      rw [hm] at hz1 hzl ⊢
      have HSZ := Lib.hid hsz
      have HB0 := Lib.hid hb
      have HALLZ : Hid (zs.take m = zs) := by rw [Hid, ← hm, List.take_length]
      clear hzs hm hsz hall hb
      obtain ⟨wo, hwo⟩ : ∃ wo : World, wo = wr := ⟨_, rfl⟩
      subst hwo
      go_wp2
      go_loopw [7, 8, 9, 10, 11, 12] (fun v i _ _ _ _ wr => ∃ (k : Nat) (ss : List ByteArray), k ≤ m ∧ ss.length ≤ k ∧ i = .int .i64 k ∧ ss.map (·.data.toList) = diffs xs ys (zs.take k) ∧ wr.ownsRow wo.heap.size 9 1 v ss.length (ss.map Value.string) ∧ Below wo.heap.size wo wr) (fun _ i _ _ _ _ _ => m - (intOf i).toNat)
      case atStart => exact ⟨0, [], Nat.zero_le _, Nat.zero_le _, rfl, rfl, World.ownsRow_lit _ #[] 0 (Nat.le_refl _) (Nat.zero_le _) rfl, bellow_alloc _ _⟩
      case round =>
        clear hb0
        obtain ⟨k, ss, hk, hsl, rfl, hss, hown, hbo⟩ := hrel
        have hb := HB0.out.trans (hbo.mono HB0.out.size)
        have HSS := Lib.hid hss
        clear hss
        by_cases hlt : k < m
        · obtain ⟨z, hzz⟩ : ∃ z, zs[k]? = some z := ⟨_, List.getElem?_eq_getElem (by rw [HM.out]; exact hlt)⟩
          have hsz := HSZ.out.below hbo
          obtain ⟨d0, _, _⟩ := en_at hsz k z hzz
          have hzr := HZP.out z (List.mem_of_getElem? hzz)
          have HTK := Lib.hid (take_snoc' hzz)
          obtain ⟨zp, zd, zx⟩ := z
          obtain ⟨o1, ho1⟩ : ∃ o, getE xs zp = o := ⟨_, rfl⟩
          obtain ⟨o2, ho2⟩ : ∃ o, getE ys zp = o := ⟨_, rfl⟩
          have HQ1 : Hid (lgetE xs zp = o1) := by rw [Hid, lgetE, if_neg hzr]; exact ho1
          have HQ2 : Hid (lgetE ys zp = o2) := by rw [Hid, lgetE, if_neg hzr]; exact ho2
          have HH1 := Lib.hid ho1
          have HH2 := Lib.hid ho2
          have HA1 := GG.out zp o1 HQ1
          have HA2 := GG'.out zp o2 HQ2
          obtain ⟨⟨p1, dd1, x1⟩, hE1⟩ : ∃ e, optE o1 = e := ⟨_, rfl⟩
          obtain ⟨⟨p2, dd2, x2⟩, hE2⟩ : ∃ e, optE o2 = e := ⟨_, rfl⟩
          obtain ⟨s1, hs1⟩ : ∃ s, o1.isSome = s := ⟨_, rfl⟩
          obtain ⟨s2, hs2⟩ : ∃ s, o2.isSome = s := ⟨_, rfl⟩
          rw [hE1, hs1] at HA1
          rw [hE2, hs2] at HA2
          have GA1 := Lib.hid HA1
          have GA2 := Lib.hid HA2
          have HEQ : Hid ((s1 = s2 ∧ p1 = p2 ∧ dd1 = dd2 ∧ x1 = x2) ↔ o1 = o2) := by
            rw [Hid, ← hs1, ← hs2]
            constructor
            · rintro ⟨h1, h2, h3, h4⟩
              cases o1 with
              | none =>
                cases o2 with
                | none => rfl
                | some _ => cases h1
              | some e =>
                cases o2 with
                | none => cases h1
                | some f =>
                  have e1 : e = ⟨p1, dd1, x1⟩ := hE1
                  have e2 : f = ⟨p2, dd2, x2⟩ := hE2
                  rw [e1, e2, h2, h3, h4]
            · rintro rfl
              have := hE1.symm.trans hE2
              injection this with h1 h2 h3
              exact ⟨rfl, h1, h2, h3⟩
          clear hzr hzz ho1 ho2 hE1 hE2 hs1 hs2 HA1 HA2 hsz
          by_cases heq : o1 = o2
          · obtain ⟨rfl, rfl, rfl, rfl⟩ := HEQ.out.2 heq
            have HSN : Hid (diffs xs ys (zs.take (k + 1)) = diffs xs ys (zs.take k)) := by rw [Hid, HTK.out]; exact diffs_eq (HH1.out.trans (heq.trans HH2.out.symm))
            clear heq HEQ
            go_wp2_with fail
            refine (GA1.out _ (HS.out.below hb)).out.mono ?_; rintro e W ⟨rfl, hq⟩; replace hb := chn hb hq; replace hbo := chn hbo hq; replace hown := own_below hown hq; replace d0 := keepc hq d0; clear hq
            have a0 := new_cell W #[.string p1, .bool dd1, .string x1] 55 0 (.string p1) rfl
            have a1 := new_cell W #[.string p1, .bool dd1, .string x1] 55 1 (.bool dd1) rfl
            have a2 := new_cell W #[.string p1, .bool dd1, .string x1] 55 2 (.string x1) rfl
            replace hown := own_below hown (bellow_alloc _ (.cells #[.string p1, .bool dd1, .string x1] 55)); replace hbo := chn hbo (bellow_alloc _ (.cells #[.string p1, .bool dd1, .string x1] 55))
            replace hb := hb.alloc hb.size (.cells #[.string p1, .bool dd1, .string x1] 55); replace d0 := keepc (bellow_alloc _ (.cells #[.string p1, .bool dd1, .string x1] 55)) d0; 
            go_wp2_with fail
            refine (GA2.out _ (HS'.out.below hb)).out.mono ?_; rintro e W2 ⟨rfl, hq⟩; replace hb := chn hb hq; replace hbo := chn hbo hq; replace hown := own_below hown hq; replace d0 := keepc hq d0; replace a0 := keepc hq a0; replace a1 := keepc hq a1; replace a2 := keepc hq a2; clear hq
            replace hown := own_below hown (bellow_alloc _ (.cells #[.string p1, .bool dd1, .string x1] 55)); replace hbo := chn hbo (bellow_alloc _ (.cells #[.string p1, .bool dd1, .string x1] 55))
            replace hb := hb.alloc hb.size (.cells #[.string p1, .bool dd1, .string x1] 55); replace d0 := keepc (bellow_alloc _ (.cells #[.string p1, .bool dd1, .string x1] 55)) d0; replace a0 := keepc (bellow_alloc _ (.cells #[.string p1, .bool dd1, .string x1] 55)) a0; replace a1 := keepc (bellow_alloc _ (.cells #[.string p1, .bool dd1, .string x1] 55)) a1; replace a2 := keepc (bellow_alloc _ (.cells #[.string p1, .bool dd1, .string x1] 55)) a2; 
            go_wp2
            go_roundw
            case rel => exact ⟨k + 1, ss, by omega, by omega, by go_num, by rw [HSN.out]; exact HSS.out, hown, hbo⟩
            case measure => simp [intOf]; omega
          · have HSN : Hid (diffs xs ys (zs.take (k + 1)) = diffs xs ys (zs.take k) ++ [zp.data.toList]) := by rw [Hid, HTK.out]; exact diffs_ne (fun h => heq (HH1.out.symm.trans (h.trans HH2.out)))
            have HNE := Lib.hid (fun h => heq (HEQ.out.1 h))
            clear heq HEQ
            by_cases e1 : s1 = s2
            · subst e1
              by_cases e2 : p1 = p2
              · subst e2
                by_cases e3 : dd1 = dd2
                · subst e3
                  have q := bq_no (s := x1) (t := x2) (fun h => HNE.out ⟨rfl, rfl, rfl, h⟩)
                  go_wp2_with fail
                  refine (GA1.out _ (HS.out.below hb)).out.mono ?_; rintro e W ⟨rfl, hq⟩; replace hb := chn hb hq; replace hbo := chn hbo hq; replace hown := own_below hown hq; replace d0 := keepc hq d0; clear hq
                  have a0 := new_cell W #[.string p1, .bool dd1, .string x1] 55 0 (.string p1) rfl
                  have a1 := new_cell W #[.string p1, .bool dd1, .string x1] 55 1 (.bool dd1) rfl
                  have a2 := new_cell W #[.string p1, .bool dd1, .string x1] 55 2 (.string x1) rfl
                  replace hown := own_below hown (bellow_alloc _ (.cells #[.string p1, .bool dd1, .string x1] 55)); replace hbo := chn hbo (bellow_alloc _ (.cells #[.string p1, .bool dd1, .string x1] 55))
                  replace hb := hb.alloc hb.size (.cells #[.string p1, .bool dd1, .string x1] 55); replace d0 := keepc (bellow_alloc _ (.cells #[.string p1, .bool dd1, .string x1] 55)) d0; 
                  go_wp2_with fail
                  refine (GA2.out _ (HS'.out.below hb)).out.mono ?_; rintro e W2 ⟨rfl, hq⟩; replace hb := chn hb hq; replace hbo := chn hbo hq; replace hown := own_below hown hq; replace d0 := keepc hq d0; replace a0 := keepc hq a0; replace a1 := keepc hq a1; replace a2 := keepc hq a2; clear hq
                  replace hown := own_below hown (bellow_alloc _ (.cells #[.string p1, .bool dd1, .string x2] 55)); replace hbo := chn hbo (bellow_alloc _ (.cells #[.string p1, .bool dd1, .string x2] 55))
                  replace hb := hb.alloc hb.size (.cells #[.string p1, .bool dd1, .string x2] 55); replace d0 := keepc (bellow_alloc _ (.cells #[.string p1, .bool dd1, .string x2] 55)) d0; replace a0 := keepc (bellow_alloc _ (.cells #[.string p1, .bool dd1, .string x2] 55)) a0; replace a1 := keepc (bellow_alloc _ (.cells #[.string p1, .bool dd1, .string x2] 55)) a1; replace a2 := keepc (bellow_alloc _ (.cells #[.string p1, .bool dd1, .string x2] 55)) a2; 
                  go_wp2_with (at_builtin; go_must (refine wp_app1H (by rfl) _ _ 57 (by rfl) HE wo.heap.size wo.heap.size wo _ #[.string zp] _ _ _ (by rfl) (W2.heap.size + 1) (by simp) (by rfl) hown (by rfl) (by simp [Value.oneCell']) (by omega) hbo.size hbo (Nat.le_refl _) ?_); intro v' w1 hown1 hbel1 _ _)
                  go_roundw
                  case rel => exact ⟨k + 1, ss ++ [zp], by omega, by simp; omega, by go_num, by rw [List.map_append, HSS.out, HSN.out]; rfl, by simpa using hown1, hbel1⟩
                  case measure => simp [intOf]; omega
                · have q : (dd1 == dd2) = false := by rw [beq_eq_false_iff_ne]; exact e3
                  clear e3
                  go_wp2_with fail
                  refine (GA1.out _ (HS.out.below hb)).out.mono ?_; rintro e W ⟨rfl, hq⟩; replace hb := chn hb hq; replace hbo := chn hbo hq; replace hown := own_below hown hq; replace d0 := keepc hq d0; clear hq
                  have a0 := new_cell W #[.string p1, .bool dd1, .string x1] 55 0 (.string p1) rfl
                  have a1 := new_cell W #[.string p1, .bool dd1, .string x1] 55 1 (.bool dd1) rfl
                  have a2 := new_cell W #[.string p1, .bool dd1, .string x1] 55 2 (.string x1) rfl
                  replace hown := own_below hown (bellow_alloc _ (.cells #[.string p1, .bool dd1, .string x1] 55)); replace hbo := chn hbo (bellow_alloc _ (.cells #[.string p1, .bool dd1, .string x1] 55))
                  replace hb := hb.alloc hb.size (.cells #[.string p1, .bool dd1, .string x1] 55); replace d0 := keepc (bellow_alloc _ (.cells #[.string p1, .bool dd1, .string x1] 55)) d0; 
                  go_wp2_with fail
                  refine (GA2.out _ (HS'.out.below hb)).out.mono ?_; rintro e W2 ⟨rfl, hq⟩; replace hb := chn hb hq; replace hbo := chn hbo hq; replace hown := own_below hown hq; replace d0 := keepc hq d0; replace a0 := keepc hq a0; replace a1 := keepc hq a1; replace a2 := keepc hq a2; clear hq
                  replace hown := own_below hown (bellow_alloc _ (.cells #[.string p1, .bool dd2, .string x2] 55)); replace hbo := chn hbo (bellow_alloc _ (.cells #[.string p1, .bool dd2, .string x2] 55))
                  replace hb := hb.alloc hb.size (.cells #[.string p1, .bool dd2, .string x2] 55); replace d0 := keepc (bellow_alloc _ (.cells #[.string p1, .bool dd2, .string x2] 55)) d0; replace a0 := keepc (bellow_alloc _ (.cells #[.string p1, .bool dd2, .string x2] 55)) a0; replace a1 := keepc (bellow_alloc _ (.cells #[.string p1, .bool dd2, .string x2] 55)) a1; replace a2 := keepc (bellow_alloc _ (.cells #[.string p1, .bool dd2, .string x2] 55)) a2; 
                  go_wp2_with (at_builtin; go_must (refine wp_app1H (by rfl) _ _ 57 (by rfl) HE wo.heap.size wo.heap.size wo _ #[.string zp] _ _ _ (by rfl) (W2.heap.size + 1) (by simp) (by rfl) hown (by rfl) (by simp [Value.oneCell']) (by omega) hbo.size hbo (Nat.le_refl _) ?_); intro v' w1 hown1 hbel1 _ _)
                  go_roundw
                  case rel => exact ⟨k + 1, ss ++ [zp], by omega, by simp; omega, by go_num, by rw [List.map_append, HSS.out, HSN.out]; rfl, by simpa using hown1, hbel1⟩
                  case measure => simp [intOf]; omega
              · have q := bq_no e2
                clear e2
                go_wp2_with fail
                refine (GA1.out _ (HS.out.below hb)).out.mono ?_; rintro e W ⟨rfl, hq⟩; replace hb := chn hb hq; replace hbo := chn hbo hq; replace hown := own_below hown hq; replace d0 := keepc hq d0; clear hq
                have a0 := new_cell W #[.string p1, .bool dd1, .string x1] 55 0 (.string p1) rfl
                have a1 := new_cell W #[.string p1, .bool dd1, .string x1] 55 1 (.bool dd1) rfl
                have a2 := new_cell W #[.string p1, .bool dd1, .string x1] 55 2 (.string x1) rfl
                replace hown := own_below hown (bellow_alloc _ (.cells #[.string p1, .bool dd1, .string x1] 55)); replace hbo := chn hbo (bellow_alloc _ (.cells #[.string p1, .bool dd1, .string x1] 55))
                replace hb := hb.alloc hb.size (.cells #[.string p1, .bool dd1, .string x1] 55); replace d0 := keepc (bellow_alloc _ (.cells #[.string p1, .bool dd1, .string x1] 55)) d0; 
                go_wp2_with fail
                refine (GA2.out _ (HS'.out.below hb)).out.mono ?_; rintro e W2 ⟨rfl, hq⟩; replace hb := chn hb hq; replace hbo := chn hbo hq; replace hown := own_below hown hq; replace d0 := keepc hq d0; replace a0 := keepc hq a0; replace a1 := keepc hq a1; replace a2 := keepc hq a2; clear hq
                replace hown := own_below hown (bellow_alloc _ (.cells #[.string p2, .bool dd2, .string x2] 55)); replace hbo := chn hbo (bellow_alloc _ (.cells #[.string p2, .bool dd2, .string x2] 55))
                replace hb := hb.alloc hb.size (.cells #[.string p2, .bool dd2, .string x2] 55); replace d0 := keepc (bellow_alloc _ (.cells #[.string p2, .bool dd2, .string x2] 55)) d0; replace a0 := keepc (bellow_alloc _ (.cells #[.string p2, .bool dd2, .string x2] 55)) a0; replace a1 := keepc (bellow_alloc _ (.cells #[.string p2, .bool dd2, .string x2] 55)) a1; replace a2 := keepc (bellow_alloc _ (.cells #[.string p2, .bool dd2, .string x2] 55)) a2; 
                go_wp2_with (at_builtin; go_must (refine wp_app1H (by rfl) _ _ 57 (by rfl) HE wo.heap.size wo.heap.size wo _ #[.string zp] _ _ _ (by rfl) (W2.heap.size + 1) (by simp) (by rfl) hown (by rfl) (by simp [Value.oneCell']) (by omega) hbo.size hbo (Nat.le_refl _) ?_); intro v' w1 hown1 hbel1 _ _)
                go_roundw
                case rel => exact ⟨k + 1, ss ++ [zp], by omega, by simp; omega, by go_num, by rw [List.map_append, HSS.out, HSN.out]; rfl, by simpa using hown1, hbel1⟩
                case measure => simp [intOf]; omega
            · cases s1
              · cases s2
                · exact absurd rfl e1
                · clear e1
                  go_wp2_with fail
                  refine (GA1.out _ (HS.out.below hb)).out.mono ?_; rintro e W ⟨rfl, hq⟩; replace hb := chn hb hq; replace hbo := chn hbo hq; replace hown := own_below hown hq; replace d0 := keepc hq d0; clear hq
                  have a0 := new_cell W #[.string p1, .bool dd1, .string x1] 55 0 (.string p1) rfl
                  have a1 := new_cell W #[.string p1, .bool dd1, .string x1] 55 1 (.bool dd1) rfl
                  have a2 := new_cell W #[.string p1, .bool dd1, .string x1] 55 2 (.string x1) rfl
                  replace hown := own_below hown (bellow_alloc _ (.cells #[.string p1, .bool dd1, .string x1] 55)); replace hbo := chn hbo (bellow_alloc _ (.cells #[.string p1, .bool dd1, .string x1] 55))
                  replace hb := hb.alloc hb.size (.cells #[.string p1, .bool dd1, .string x1] 55); replace d0 := keepc (bellow_alloc _ (.cells #[.string p1, .bool dd1, .string x1] 55)) d0; 
                  go_wp2_with fail
                  refine (GA2.out _ (HS'.out.below hb)).out.mono ?_; rintro e W2 ⟨rfl, hq⟩; replace hb := chn hb hq; replace hbo := chn hbo hq; replace hown := own_below hown hq; replace d0 := keepc hq d0; replace a0 := keepc hq a0; replace a1 := keepc hq a1; replace a2 := keepc hq a2; clear hq
                  replace hown := own_below hown (bellow_alloc _ (.cells #[.string p2, .bool dd2, .string x2] 55)); replace hbo := chn hbo (bellow_alloc _ (.cells #[.string p2, .bool dd2, .string x2] 55))
                  replace hb := hb.alloc hb.size (.cells #[.string p2, .bool dd2, .string x2] 55); replace d0 := keepc (bellow_alloc _ (.cells #[.string p2, .bool dd2, .string x2] 55)) d0; replace a0 := keepc (bellow_alloc _ (.cells #[.string p2, .bool dd2, .string x2] 55)) a0; replace a1 := keepc (bellow_alloc _ (.cells #[.string p2, .bool dd2, .string x2] 55)) a1; replace a2 := keepc (bellow_alloc _ (.cells #[.string p2, .bool dd2, .string x2] 55)) a2; 
                  go_wp2_with (at_builtin; go_must (refine wp_app1H (by rfl) _ _ 57 (by rfl) HE wo.heap.size wo.heap.size wo _ #[.string zp] _ _ _ (by rfl) (W2.heap.size + 1) (by simp) (by rfl) hown (by rfl) (by simp [Value.oneCell']) (by omega) hbo.size hbo (Nat.le_refl _) ?_); intro v' w1 hown1 hbel1 _ _)
                  go_roundw
                  case rel => exact ⟨k + 1, ss ++ [zp], by omega, by simp; omega, by go_num, by rw [List.map_append, HSS.out, HSN.out]; rfl, by simpa using hown1, hbel1⟩
                  case measure => simp [intOf]; omega
              · cases s2
                · clear e1
                  go_wp2_with fail
                  refine (GA1.out _ (HS.out.below hb)).out.mono ?_; rintro e W ⟨rfl, hq⟩; replace hb := chn hb hq; replace hbo := chn hbo hq; replace hown := own_below hown hq; replace d0 := keepc hq d0; clear hq
                  have a0 := new_cell W #[.string p1, .bool dd1, .string x1] 55 0 (.string p1) rfl
                  have a1 := new_cell W #[.string p1, .bool dd1, .string x1] 55 1 (.bool dd1) rfl
                  have a2 := new_cell W #[.string p1, .bool dd1, .string x1] 55 2 (.string x1) rfl
                  replace hown := own_below hown (bellow_alloc _ (.cells #[.string p1, .bool dd1, .string x1] 55)); replace hbo := chn hbo (bellow_alloc _ (.cells #[.string p1, .bool dd1, .string x1] 55))
                  replace hb := hb.alloc hb.size (.cells #[.string p1, .bool dd1, .string x1] 55); replace d0 := keepc (bellow_alloc _ (.cells #[.string p1, .bool dd1, .string x1] 55)) d0; 
                  go_wp2_with fail
                  refine (GA2.out _ (HS'.out.below hb)).out.mono ?_; rintro e W2 ⟨rfl, hq⟩; replace hb := chn hb hq; replace hbo := chn hbo hq; replace hown := own_below hown hq; replace d0 := keepc hq d0; replace a0 := keepc hq a0; replace a1 := keepc hq a1; replace a2 := keepc hq a2; clear hq
                  replace hown := own_below hown (bellow_alloc _ (.cells #[.string p2, .bool dd2, .string x2] 55)); replace hbo := chn hbo (bellow_alloc _ (.cells #[.string p2, .bool dd2, .string x2] 55))
                  replace hb := hb.alloc hb.size (.cells #[.string p2, .bool dd2, .string x2] 55); replace d0 := keepc (bellow_alloc _ (.cells #[.string p2, .bool dd2, .string x2] 55)) d0; replace a0 := keepc (bellow_alloc _ (.cells #[.string p2, .bool dd2, .string x2] 55)) a0; replace a1 := keepc (bellow_alloc _ (.cells #[.string p2, .bool dd2, .string x2] 55)) a1; replace a2 := keepc (bellow_alloc _ (.cells #[.string p2, .bool dd2, .string x2] 55)) a2; 
                  go_wp2_with (at_builtin; go_must (refine wp_app1H (by rfl) _ _ 57 (by rfl) HE wo.heap.size wo.heap.size wo _ #[.string zp] _ _ _ (by rfl) (W2.heap.size + 1) (by simp) (by rfl) hown (by rfl) (by simp [Value.oneCell']) (by omega) hbo.size hbo (Nat.le_refl _) ?_); intro v' w1 hown1 hbel1 _ _)
                  go_roundw
                  case rel => exact ⟨k + 1, ss ++ [zp], by omega, by simp; omega, by go_num, by rw [List.map_append, HSS.out, HSN.out]; rfl, by simpa using hown1, hbel1⟩
                  case measure => simp [intOf]; omega
                · exact absurd rfl e1
        · obtain rfl : k = m := by omega
          have HF : Hid (ss.map (·.data.toList) = L) := by rw [Hid, HSS.out, HALLZ.out, HLL.out]
          go_wp2
          go_ret
          exact ⟨_, ss, rfl, HF.out, hown.mono HB0.out.size, hb⟩
end Go.Proofs.YtnmjidjhloodbaaDoor
namespace Go.Proofs.YtnmjidjhloodbaaDoor
open Go.RowKit
def dstep (b : List PE) (out : List PM) (q : Bs) : List PM := match dmark b q with
  | some m => upsL 3 (putP PM.p out m) q
  | none => out
theorem diffL_fold (a b : List PE) : diffL a b = (turnedL a b).foldl (dstep b) [] := rfl
theorem dstep_snoc (ys : List En) (ss : List ByteArray) (k : Nat) (s : ByteArray) (h : ss[k]? = some s) :
    ((ss.take (k + 1)).map (·.data.toList)).foldl (dstep (ys.map En.pl)) [] = dstep (ys.map En.pl) (((ss.take k).map (·.data.toList)).foldl (dstep (ys.map En.pl)) []) s.data.toList := by
  rw [take_sl ss k s h, List.foldl_append]; rfl
theorem dstep_some {ys : List En} {s : ByteArray} {mm : Mk} (h : dmk ys s = some mm) (ms : List Mk) : dstep (ys.map En.pl) (ms.map Mk.pl) s.data.toList = upsL 3 ((putP Mk.bs ms mm).map Mk.pl) s.data.toList := by
  unfold dstep
  rw [dmk_pl, h, putP_map Mk.pl (f := Mk.bs) (g := PM.p) (fun _ => rfl)]; rfl
theorem dstep_none {ys : List En} {s : ByteArray} (h : dmk ys s = none) (l : List PM) : dstep (ys.map En.pl) l s.data.toList = l := by
  unfold dstep
  rw [dmk_pl, h]; rfl
theorem dir_up (ys : List En) (q u : ByteArray) (hu : upL q.data.toList = u.data.toList) : dirE ys u = decide (upCodeL (ys.map En.pl) q.data.toList = 0) := by
  unfold dirE upCodeL
  rw [hu, getE_pl]
  by_cases h : u.data.toList = [47]
  · rw [if_pos h, h]; rfl
  · rw [if_neg h, show (u.data.toList == [47]) = false by rw [beq_eq_false_iff_ne]; exact h]
    cases getE ys u with
    | none => rfl
    | some e =>
      obtain ⟨p, d, x⟩ := e
      cases d <;> rfl
theorem getE_mem {xs : List En} {q : ByteArray} {m : En} (h : getE xs q = some m) : m ∈ xs := by
  induction xs with
  | nil => cases h
  | cons e r ih =>
    rw [getE] at h
    split at h
    · injection h with h; subst h; simp
    · exact List.mem_cons_of_mem _ (ih h)
set_option maxRecDepth 100000 in
set_option maxHeartbeats 8000000 in
theorem l3Diff_c (b0 c b1 c' : Nat) (xs ys : List En) (w : World) (hs : SlF En.cells w (some ⟨b0, 0, none⟩) xs) (hs' : SlF En.cells w (some ⟨b1, 0, none⟩) ys) (hb0 : b0 < w.heap.size) (hc : xs.length ≤ c) (hcm : c ≤ maxLen) (hx : TOk (xs.map En.pl)) (hy : TOk (ys.map En.pl)) :
    Calls Tryd.prog 31 #[.slice (some ⟨b0, 0, none⟩) xs.length c, .slice (some ⟨b1, 0, none⟩) ys.length c'] w (MadeMl (diffL (xs.map En.pl) (ys.map En.pl)) w) := by
  have hx16 : xs.length ≤ 16 := by have := hx.most; rw [List.length_map] at this; exact this
  have hy16 : ys.length ≤ 16 := by have := hy.most; rw [List.length_map] at this; exact this
  have hym : ys.length ≤ maxLen := by unfold maxLen; omega
  have hb := bellow_alloc w (.cells #[] 45)
  have hlt1 : b0 < (w.alloc (.cells #[] 45)).heap.size := Nat.lt_of_lt_of_le hb0 hb.size
  have HT := Lib.hid (l2Turned_c b0 0 c (some ⟨b1, 0, none⟩) c' xs ys (w.alloc (.cells #[] 45)) (hs.below hb) (hs'.below hb) hlt1 hc hcm hx hy)
  have HG := Lib.hid (fun (q : ByteArray) (o : Option En) (ho : Hid (lgetE ys q = o)) W (h : SlF En.cells W (some ⟨b1, 0, none⟩) ys) => l2Get_c (some ⟨b1, 0, none⟩) c' ys q o ho W h hym)
  have HD := Lib.hid (fun (q : ByteArray) (r : Bool) (hr : Hid (dirE ys q = r)) W (h : SlF En.cells W (some ⟨b1, 0, none⟩) ys) => l2Dir_c (some ⟨b1, 0, none⟩) c' ys q r hr W h hym)
  have HQ : Hid (∀ q ∈ turnedL (xs.map En.pl) (ys.map En.pl), pathOkL q = true) := fun q hq => turned_path hx hy hq
  have HQL : Hid ((turnedL (xs.map En.pl) (ys.map En.pl)).length ≤ 32) := by
    show _ ≤ _
    have h1 := turned_len (a := xs.map En.pl) (b := ys.map En.pl); have h2 := hx.most; have h3 := hy.most; omega
  have HDE : Hid (∀ e ∈ ys, e.d = true → e.x = ⟨#[]⟩) := fun e he hd => by
    have h := hy.ent e.pl (List.mem_map_of_mem he)
    unfold entOkL at h
    simp only [Bool.and_eq_true, Bool.or_eq_true, Bool.not_eq_true', beq_iff_eq] at h
    rcases h.2 with h | h
    · rw [show e.pl.d = e.d from rfl, hd] at h; cases h
    · exact bytes_eq h
  have HS' := Lib.hid hs'
  obtain ⟨n, hn⟩ : ∃ n, xs.length = n := ⟨_, rfl⟩
  obtain ⟨n', hn'⟩ : ∃ n, ys.length = n := ⟨_, rfl⟩
  rw [hn] at HT ⊢
  rw [hn'] at HT HG HD ⊢
  clear hn hn' hs hs' hx hy hx16 hy16 hym hb0 hc hcm hlt1
  go_enter Tryd.func31, Tryd.ntmps31
  go_wp2_with fail
  refine HT.out.mono ?_; rintro e W1 ⟨vv, ss, rfl, hss, oS, hq⟩
  have HB1 := Lib.hid (chn hb hq)
  have HB1S : Hid (w.heap.size ≤ W1.heap.size) := HB1.out.size
  obtain ⟨av, cv, rfl⟩ := own_shape oS
  have HSS := Lib.hid hss
  have HSL := Lib.hid (own_sls oS rfl)
  have HY1 := Lib.hid (HS'.out.below HB1.out)
  have HOW0 : Hid (OwnRd W1 w.heap.size (.slice (some ⟨w.heap.size, 0, none⟩) 0 0) []) := OwnRd.below ⟨w.heap.size, 0, rfl, Nat.zero_le _, Nat.zero_le _, World.ownsRow_lit w #[] 0 (Nat.le_refl _) (Nat.zero_le _) rfl⟩ hq
  have hp32 : ss.length ≤ 32 := by have := congrArg List.length hss; rw [List.length_map] at this; rw [this]; exact HQL.out
  have HPT : Hid (∀ s ∈ ss, pathOkL s.data.toList = true) := fun s h => HQ.out _ (by rw [← hss]; exact List.mem_map.2 ⟨s, h, rfl⟩)
  obtain ⟨p, hp⟩ : ∃ p, ss.length = p := ⟨_, rfl⟩
  have HP := Lib.hid hp
  have HALL : Hid (ss.take p = ss) := by rw [Hid, ← hp, List.take_length]
  rw [hp] at hp32 ⊢
  clear hss oS hq hp hb
  go_wp2
  go_loopw [5, 7] (fun v i wr => ∃ (k : Nat) (ms : List Mk), k ≤ p ∧ ms.length ≤ 4 * k ∧ i = .int .i64 k ∧ ms.map Mk.pl = ((ss.take k).map (·.data.toList)).foldl (dstep (ys.map En.pl)) [] ∧ (∀ m ∈ ms, m.k ≠ 0) ∧ OwnRd wr w.heap.size v ms ∧ Below W1.heap.size W1 wr) (fun _ i _ => p - (intOf i).toNat)
  case atStart => exact ⟨0, [], Nat.zero_le _, Nat.zero_le _, rfl, rfl, fun m hm => by simp at hm, HOW0.out, Below.refl _ _⟩
  case round =>
    obtain ⟨k, ms, hk, hml, rfl, hms, hkd, hown, hb⟩ := hrel
    have HMS := Lib.hid hms
    have HK := Lib.hid hkd
    clear hms hkd
    by_cases hlt : k < p
    · obtain ⟨q, hqq⟩ : ∃ q, ss[k]? = some q := ⟨_, List.getElem?_eq_getElem (by rw [HP.out]; exact hlt)⟩
      have hqp := HPT.out q (List.mem_of_getElem? hqq)
      have HQP := Lib.hid hqp
      have hqs : q.size ≤ maxLen := by have := (path_len hqp).2; rw [size_data] at this; unfold maxLen; omega
      obtain ⟨b, off, rfl, _, hc⟩ := (HSL.out.below hb) (by rw [HP.out]; omega)
      have d0 := hc k q hqq
      have hsy := HY1.out.below hb
      obtain ⟨o, ho⟩ : ∃ o, getE ys q = o := ⟨_, rfl⟩
      have HO : Hid (lgetE ys q = o) := by rw [Hid, lgetE, if_neg (path_ne_root hqp)]; exact ho
      have HSN0 := Lib.hid (dstep_snoc ys ss k q hqq)
      have i0 : (0 : Int) ≤ (k : Int) := by omega
      have i1 : (k : Int) < (p : Int) := by omega
      clear hc hqq hqp
      go_wp2_with fail
      refine (HG.out q o HO _ hsy).mono ?_; rintro e W ⟨rfl, hq⟩; replace hb := chn hb hq; replace hsy := SlF.below hsy hq; replace hown := hown.below hq; replace d0 := keepc hq d0; clear hq
      cases o with
      | some e =>
        obtain ⟨ep, ed, ex⟩ := e
        have hxe := HDE.out ⟨ep, ed, ex⟩ (getE_mem ho)
        cases ed with
        | true =>
          obtain rfl : ex = ⟨#[]⟩ := hxe rfl
          have HDM : Hid (dmk ys q = some ⟨q, 2, ⟨#[]⟩⟩) := by rw [Hid]; unfold dmk; rw [ho]; rfl
          clear ho
          obtain ⟨E, hE⟩ : ∃ E, Obj.cells #[.string ep, .bool true, .string ⟨#[]⟩] 55 = E := ⟨_, rfl⟩
          obtain ⟨M, hM⟩ : ∃ M, Obj.cells #[.string q, .int .i64 3, .string ⟨#[]⟩] 45 = M := ⟨_, rfl⟩
          have hsz : (W.alloc E).heap.size = W.heap.size + 1 := by simp
          have e1 : (W.alloc E).cell? ⟨W.heap.size, 1, none⟩ = some (.bool true) := hE ▸ new_cell W #[.string ep, .bool true, .string ⟨#[]⟩] 55 1 (.bool true) rfl
          have e2 : (W.alloc E).cell? ⟨W.heap.size, 2, none⟩ = some (.string ⟨#[]⟩) := hE ▸ new_cell W #[.string ep, .bool true, .string ⟨#[]⟩] 55 2 (.string ⟨#[]⟩) rfl
          have dE := keepc (bellow_alloc W E) d0
          have F2 := bellow_alloc (W.alloc E) M
          have F1 := (bellow_alloc W E).trans (F2.mono (by rw [hsz]; exact Nat.le_succ _))
          have m0 : ((W.alloc E).alloc M).cell? ⟨W.heap.size + 1, 0, none⟩ = some (.string q) := hsz ▸ hM ▸ new_cell (W.alloc E) #[.string q, .int .i64 3, .string ⟨#[]⟩] 45 0 (.string q) rfl
          have m1 : ((W.alloc E).alloc M).cell? ⟨W.heap.size + 1, 1, none⟩ = some (.int .i64 3) := hsz ▸ hM ▸ new_cell (W.alloc E) #[.string q, .int .i64 3, .string ⟨#[]⟩] 45 1 (.int .i64 3) rfl
          have m2 : ((W.alloc E).alloc M).cell? ⟨W.heap.size + 1, 2, none⟩ = some (.string ⟨#[]⟩) := hsz ▸ hM ▸ new_cell (W.alloc E) #[.string q, .int .i64 3, .string ⟨#[]⟩] 45 2 (.string ⟨#[]⟩) rfl
          have hfz : ∀ j, ((W.alloc E).alloc M).frozen? ⟨W.heap.size + 1, j, none⟩ = false := fun j => hsz ▸ hM ▸ new_free (W.alloc E) #[.string q, .int .i64 3, .string ⟨#[]⟩] 45 j
          have f0 := hfz 0
          have f1 := hfz 1
          have f2 := hfz 2
          clear hfz
          have dZ := keepc F1 d0
          have eZ1 := keepc F2 e1
          have eZ2 := keepc F2 e2
          have HSZ := Lib.hid hsz
          clear hsz
          subst hE hM
          go_wp2_with fail
          generalize (W.alloc (.cells #[.string ep, .bool true, .string ⟨#[]⟩] 55)).alloc (.cells #[.string q, .int .i64 3, .string ⟨#[]⟩] 45) = Z at F1 F2 m0 m1 m2 f0 f1 f2 dZ eZ1 eZ2 ⊢
          go_still_tail 7, (by kernel_rfl)
          repeat still_step
          (try refine wpStill_nil ?_)
          change wpList _ _ _ _ _ Z.drew
          replace F1 := F1.trans ((below_drew Z).mono F1.size)
          replace F2 := F2.trans ((below_drew Z).mono F2.size)
          replace m0 := keepc (below_drew Z) m0
          replace m1 := keepc (below_drew Z) m1
          replace m2 := keepc (below_drew Z) m2
          replace f0 : Z.drew.frozen? ⟨W.heap.size + 1, 0, none⟩ = false := f0
          replace f1 : Z.drew.frozen? ⟨W.heap.size + 1, 1, none⟩ = false := f1
          replace f2 : Z.drew.frozen? ⟨W.heap.size + 1, 2, none⟩ = false := f2
          generalize Z.drew = Z2 at F1 F2 m0 m1 m2 f0 f1 f2 ⊢
          clear dZ eZ1 eZ2 dE
          obtain ⟨p0, p1, p2⟩ := three_set0 Z2 (W.heap.size + 1) _ _ _ (.string q) (.int .i64 1) (.string ⟨#[]⟩) m0 m1 m2
          have G1 := ((F1.setCell (p := ⟨W.heap.size + 1, 0, none⟩) (Nat.le_succ _) (.string q)).setCell (p := ⟨W.heap.size + 1, 1, none⟩) (Nat.le_succ _) (.int .i64 1)).setCell (p := ⟨W.heap.size + 1, 2, none⟩) (Nat.le_succ _) (.string ⟨#[]⟩)
          have G2 := ((F2.setCell (p := ⟨W.heap.size + 1, 0, none⟩) (Nat.le_of_eq HSZ.out) (.string q)).setCell (p := ⟨W.heap.size + 1, 1, none⟩) (Nat.le_of_eq HSZ.out) (.int .i64 1)).setCell (p := ⟨W.heap.size + 1, 2, none⟩) (Nat.le_of_eq HSZ.out) (.string ⟨#[]⟩)
          have dG := keepc G1 d0
          have eG1 := keepc G2 e1
          have eG2 := keepc G2 e2
          go_wp2_with fail
          have G3 := G1.setCell (p := ⟨W.heap.size + 1, 1, none⟩) (Nat.le_succ _) (.int .i64 2)
          replace d0 := keepc G3 d0
          replace hb := chn hb G3
          replace hown := hown.below G3
          replace p0 := (World.cell?_setCell_other _ (a := ⟨W.heap.size + 1, 1, none⟩) (b := ⟨W.heap.size + 1, 0, none⟩) (.int .i64 2) (by simp)).trans p0
          replace p2 := (World.cell?_setCell_other _ (a := ⟨W.heap.size + 1, 1, none⟩) (b := ⟨W.heap.size + 1, 2, none⟩) (.int .i64 2) (by simp)).trans p2
          replace p1 := World.cell?_setCell_same _ _ (.int .i64 2) p1
          clear F1 F2 m0 m1 m2 f0 f1 f2 G1 G2 G3 dG eG1 eG2 e1 e2
          have HOWN := Lib.hid hown
          have HBB := Lib.hid hb
          clear hown hb
          refine wp_region_held_drew (S := fun w' => Below _ _ w') (by kernel_rfl) (below_drew _) (fun hHeld => ?_)
          refine tk (i := 0) (d := (some 59)) (v := ?_) rfl rfl (by kernel_rfl) (by kernel_rfl) (by kernel_rfl) (fun _ _ _ h => h) (Or.inl ⟨by rfl, ?_⟩) hHeld ?_
          rotate_left
          · intro w hSw; have zd0 := keepc hSw d0; have zp0 := keepc hSw p0; have zp1 := keepc hSw p1; have zp2 := keepc hSw p2; clear hSw; go_simp <;> with_reducible rfl
          (try simp only [Act.put, List.setIfInBounds_toArray, List.set_cons_zero, List.set_cons_succ])
          refine tk (i := 1) (d := (some 60)) (v := ?_) rfl rfl (by kernel_rfl) (by kernel_rfl) (by kernel_rfl) (fun _ _ _ h => h) (Or.inl ⟨by rfl, ?_⟩) hHeld ?_
          rotate_left
          · intro w hSw; have zd0 := keepc hSw d0; have zp0 := keepc hSw p0; have zp1 := keepc hSw p1; have zp2 := keepc hSw p2; clear hSw; go_simp <;> with_reducible rfl
          (try simp only [Act.put, List.setIfInBounds_toArray, List.set_cons_zero, List.set_cons_succ])
          refine tk (i := 3) (d := (some 62)) (v := ?_) rfl rfl (by kernel_rfl) (by kernel_rfl) (by kernel_rfl) (fun _ _ _ h => h) (Or.inl ⟨by rfl, ?_⟩) hHeld ?_
          rotate_left
          · intro w hSw; have zd0 := keepc hSw d0; have zp0 := keepc hSw p0; have zp1 := keepc hSw p1; have zp2 := keepc hSw p2; clear hSw; go_simp <;> with_reducible rfl
          (try simp only [Act.put, List.setIfInBounds_toArray, List.set_cons_zero, List.set_cons_succ])
          refine tk (i := 4) (d := (some 63)) (v := ?_) rfl rfl (by kernel_rfl) (by kernel_rfl) (by kernel_rfl) (fun _ _ _ h => h) (Or.inl ⟨by rfl, ?_⟩) hHeld ?_
          rotate_left
          · intro w hSw; have zd0 := keepc hSw d0; have zp0 := keepc hSw p0; have zp1 := keepc hSw p1; have zp2 := keepc hSw p2; clear hSw; go_simp <;> with_reducible rfl
          (try simp only [Act.put, List.setIfInBounds_toArray, List.set_cons_zero, List.set_cons_succ])
          refine tk (i := 5) (d := (some 64)) (v := ?_) rfl rfl (by kernel_rfl) (by kernel_rfl) (by kernel_rfl) (fun _ _ _ h => h) (Or.inl ⟨by rfl, ?_⟩) hHeld ?_
          rotate_left
          · intro w hSw; have zd0 := keepc hSw d0; have zp0 := keepc hSw p0; have zp1 := keepc hSw p1; have zp2 := keepc hSw p2; clear hSw; go_simp <;> with_reducible rfl
          (try simp only [Act.put, List.setIfInBounds_toArray, List.set_cons_zero, List.set_cons_succ])
          refine tk (i := 6) (d := (some 65)) (v := ?_) rfl rfl (by kernel_rfl) (by kernel_rfl) (by kernel_rfl) (fun _ _ _ h => h) (Or.inl ⟨by rfl, ?_⟩) hHeld ?_
          rotate_left
          · intro w hSw; have zd0 := keepc hSw d0; have zp0 := keepc hSw p0; have zp1 := keepc hSw p1; have zp2 := keepc hSw p2; clear hSw; go_simp <;> with_reducible rfl
          (try simp only [Act.put, List.setIfInBounds_toArray, List.set_cons_zero, List.set_cons_succ])
          refine wpAnyH_ready (rs := [2]) (by kernel_rfl) (by simp) ?_
          refine AllReadyH.cons rfl (fun K hK => ?_) AllReadyH.nil
          go_simp
          refine (l3PutO_c w.heap.size _ ms ⟨q,2,⟨#[]⟩⟩ _ (HOWN.out.below hHeld) (Nat.le_trans HB1S.out (chn HBB.out hHeld).size) (by omega)).mono ?_; rintro e W ⟨v2,rfl,ho2,hq⟩; have hm3 := mput_len ms ⟨q,2,⟨#[]⟩⟩
          go_simp
          refine hK.out _ _ (chn hHeld hq) (fun h => ?_)
          clear hK K; replace hHeld := h; clear h hq
          (try simp only [Act.put, List.setIfInBounds_toArray, List.set_cons_zero, List.set_cons_succ])
          refine wpAnyH_ready (rs := [7]) (by kernel_rfl) (by simp) ?_
          refine AllReadyH.cons rfl (fun K hK => ?_) AllReadyH.nil
          go_simp
          refine (l3Ups_c 3 v2 _ q w.heap.size _ HQP.out (levels_3 _) (kinds_put HK.out (show (2 : Int) ≠ 0 by decide)) ho2 (Nat.le_trans HB1S.out (chn HBB.out hHeld).size) (by omega)).mono ?_; rintro e W ⟨v3,ns,rfl,hns,hnk,hnl,ho3,hq⟩
          go_simp
          refine hK.out _ _ (chn hHeld hq) (fun h => ?_)
          clear hK K; replace hHeld := h; clear h hq
          (try simp only [Act.put, List.setIfInBounds_toArray, List.set_cons_zero, List.set_cons_succ])
          refine tk (i := 8) (d := (some 5)) (v := ?_) rfl rfl (by kernel_rfl) (by kernel_rfl) (by kernel_rfl) (fun _ _ _ h => h) (Or.inl ⟨by rfl, ?_⟩) hHeld ?_
          rotate_left
          · intro w hSw; have zd0 := keepc hSw d0; have zp0 := keepc hSw p0; have zp1 := keepc hSw p1; have zp2 := keepc hSw p2; clear hSw; go_simp <;> with_reducible rfl
          (try simp only [Act.put, List.setIfInBounds_toArray, List.set_cons_zero, List.set_cons_succ])
          refine wpAnyH_done (by kernel_rfl) ?_ _
          have hbf := chn HBB.out hHeld
          have HNS : Hid (ns.map Mk.pl = ((ss.take (k + 1)).map (·.data.toList)).foldl (dstep (ys.map En.pl)) []) := by
            rw [Hid, hns, HSN0.out, ← HMS.out, dstep_some (mm := ⟨q, 2, ⟨#[]⟩⟩) HDM.out]
          clear hns hHeld d0 p0 p1 p2
          go_wp2
          go_roundw
          case rel => exact ⟨k + 1, ns, by omega, by omega, by go_num, HNS.out, hnk, ho3, hbf⟩
          case measure => simp [intOf]; omega
        | false =>
          have HDM : Hid (dmk ys q = some ⟨q, 1, ex⟩) := by rw [Hid]; unfold dmk; rw [ho]; rfl
          clear ho
          obtain ⟨E, hE⟩ : ∃ E, Obj.cells #[.string ep, .bool false, .string ex] 55 = E := ⟨_, rfl⟩
          obtain ⟨M, hM⟩ : ∃ M, Obj.cells #[.string q, .int .i64 3, .string ⟨#[]⟩] 45 = M := ⟨_, rfl⟩
          have hsz : (W.alloc E).heap.size = W.heap.size + 1 := by simp
          have e1 : (W.alloc E).cell? ⟨W.heap.size, 1, none⟩ = some (.bool false) := hE ▸ new_cell W #[.string ep, .bool false, .string ex] 55 1 (.bool false) rfl
          have e2 : (W.alloc E).cell? ⟨W.heap.size, 2, none⟩ = some (.string ex) := hE ▸ new_cell W #[.string ep, .bool false, .string ex] 55 2 (.string ex) rfl
          have dE := keepc (bellow_alloc W E) d0
          have F2 := bellow_alloc (W.alloc E) M
          have F1 := (bellow_alloc W E).trans (F2.mono (by rw [hsz]; exact Nat.le_succ _))
          have m0 : ((W.alloc E).alloc M).cell? ⟨W.heap.size + 1, 0, none⟩ = some (.string q) := hsz ▸ hM ▸ new_cell (W.alloc E) #[.string q, .int .i64 3, .string ⟨#[]⟩] 45 0 (.string q) rfl
          have m1 : ((W.alloc E).alloc M).cell? ⟨W.heap.size + 1, 1, none⟩ = some (.int .i64 3) := hsz ▸ hM ▸ new_cell (W.alloc E) #[.string q, .int .i64 3, .string ⟨#[]⟩] 45 1 (.int .i64 3) rfl
          have m2 : ((W.alloc E).alloc M).cell? ⟨W.heap.size + 1, 2, none⟩ = some (.string ⟨#[]⟩) := hsz ▸ hM ▸ new_cell (W.alloc E) #[.string q, .int .i64 3, .string ⟨#[]⟩] 45 2 (.string ⟨#[]⟩) rfl
          have hfz : ∀ j, ((W.alloc E).alloc M).frozen? ⟨W.heap.size + 1, j, none⟩ = false := fun j => hsz ▸ hM ▸ new_free (W.alloc E) #[.string q, .int .i64 3, .string ⟨#[]⟩] 45 j
          have f0 := hfz 0
          have f1 := hfz 1
          have f2 := hfz 2
          clear hfz
          have dZ := keepc F1 d0
          have eZ1 := keepc F2 e1
          have eZ2 := keepc F2 e2
          have HSZ := Lib.hid hsz
          clear hsz
          subst hE hM
          go_wp2_with fail
          generalize (W.alloc (.cells #[.string ep, .bool false, .string ex] 55)).alloc (.cells #[.string q, .int .i64 3, .string ⟨#[]⟩] 45) = Z at F1 F2 m0 m1 m2 f0 f1 f2 dZ eZ1 eZ2 ⊢
          go_still_tail 7, (by kernel_rfl)
          repeat still_step
          (try refine wpStill_nil ?_)
          change wpList _ _ _ _ _ Z.drew
          replace F1 := F1.trans ((below_drew Z).mono F1.size)
          replace F2 := F2.trans ((below_drew Z).mono F2.size)
          replace m0 := keepc (below_drew Z) m0
          replace m1 := keepc (below_drew Z) m1
          replace m2 := keepc (below_drew Z) m2
          replace f0 : Z.drew.frozen? ⟨W.heap.size + 1, 0, none⟩ = false := f0
          replace f1 : Z.drew.frozen? ⟨W.heap.size + 1, 1, none⟩ = false := f1
          replace f2 : Z.drew.frozen? ⟨W.heap.size + 1, 2, none⟩ = false := f2
          generalize Z.drew = Z2 at F1 F2 m0 m1 m2 f0 f1 f2 ⊢
          clear dZ eZ1 eZ2 dE
          obtain ⟨p0, p1, p2⟩ := three_set0 Z2 (W.heap.size + 1) _ _ _ (.string q) (.int .i64 1) (.string ex) m0 m1 m2
          have G1 := ((F1.setCell (p := ⟨W.heap.size + 1, 0, none⟩) (Nat.le_succ _) (.string q)).setCell (p := ⟨W.heap.size + 1, 1, none⟩) (Nat.le_succ _) (.int .i64 1)).setCell (p := ⟨W.heap.size + 1, 2, none⟩) (Nat.le_succ _) (.string ex)
          have G2 := ((F2.setCell (p := ⟨W.heap.size + 1, 0, none⟩) (Nat.le_of_eq HSZ.out) (.string q)).setCell (p := ⟨W.heap.size + 1, 1, none⟩) (Nat.le_of_eq HSZ.out) (.int .i64 1)).setCell (p := ⟨W.heap.size + 1, 2, none⟩) (Nat.le_of_eq HSZ.out) (.string ex)
          have dG := keepc G1 d0
          have eG1 := keepc G2 e1
          have eG2 := keepc G2 e2
          go_wp2_with fail
          replace d0 := dG
          replace hb := chn hb G1
          replace hown := hown.below G1
          clear F1 F2 m0 m1 m2 f0 f1 f2 G1 G2 dG eG1 eG2 e1 e2
          have HOWN := Lib.hid hown
          have HBB := Lib.hid hb
          clear hown hb
          refine wp_region_held_drew (S := fun w' => Below _ _ w') (by kernel_rfl) (below_drew _) (fun hHeld => ?_)
          refine tk (i := 0) (d := (some 59)) (v := ?_) rfl rfl (by kernel_rfl) (by kernel_rfl) (by kernel_rfl) (fun _ _ _ h => h) (Or.inl ⟨by rfl, ?_⟩) hHeld ?_
          rotate_left
          · intro w hSw; have zd0 := keepc hSw d0; have zp0 := keepc hSw p0; have zp1 := keepc hSw p1; have zp2 := keepc hSw p2; clear hSw; go_simp <;> with_reducible rfl
          (try simp only [Act.put, List.setIfInBounds_toArray, List.set_cons_zero, List.set_cons_succ])
          refine tk (i := 1) (d := (some 60)) (v := ?_) rfl rfl (by kernel_rfl) (by kernel_rfl) (by kernel_rfl) (fun _ _ _ h => h) (Or.inl ⟨by rfl, ?_⟩) hHeld ?_
          rotate_left
          · intro w hSw; have zd0 := keepc hSw d0; have zp0 := keepc hSw p0; have zp1 := keepc hSw p1; have zp2 := keepc hSw p2; clear hSw; go_simp <;> with_reducible rfl
          (try simp only [Act.put, List.setIfInBounds_toArray, List.set_cons_zero, List.set_cons_succ])
          refine tk (i := 3) (d := (some 62)) (v := ?_) rfl rfl (by kernel_rfl) (by kernel_rfl) (by kernel_rfl) (fun _ _ _ h => h) (Or.inl ⟨by rfl, ?_⟩) hHeld ?_
          rotate_left
          · intro w hSw; have zd0 := keepc hSw d0; have zp0 := keepc hSw p0; have zp1 := keepc hSw p1; have zp2 := keepc hSw p2; clear hSw; go_simp <;> with_reducible rfl
          (try simp only [Act.put, List.setIfInBounds_toArray, List.set_cons_zero, List.set_cons_succ])
          refine tk (i := 4) (d := (some 63)) (v := ?_) rfl rfl (by kernel_rfl) (by kernel_rfl) (by kernel_rfl) (fun _ _ _ h => h) (Or.inl ⟨by rfl, ?_⟩) hHeld ?_
          rotate_left
          · intro w hSw; have zd0 := keepc hSw d0; have zp0 := keepc hSw p0; have zp1 := keepc hSw p1; have zp2 := keepc hSw p2; clear hSw; go_simp <;> with_reducible rfl
          (try simp only [Act.put, List.setIfInBounds_toArray, List.set_cons_zero, List.set_cons_succ])
          refine tk (i := 5) (d := (some 64)) (v := ?_) rfl rfl (by kernel_rfl) (by kernel_rfl) (by kernel_rfl) (fun _ _ _ h => h) (Or.inl ⟨by rfl, ?_⟩) hHeld ?_
          rotate_left
          · intro w hSw; have zd0 := keepc hSw d0; have zp0 := keepc hSw p0; have zp1 := keepc hSw p1; have zp2 := keepc hSw p2; clear hSw; go_simp <;> with_reducible rfl
          (try simp only [Act.put, List.setIfInBounds_toArray, List.set_cons_zero, List.set_cons_succ])
          refine tk (i := 6) (d := (some 65)) (v := ?_) rfl rfl (by kernel_rfl) (by kernel_rfl) (by kernel_rfl) (fun _ _ _ h => h) (Or.inl ⟨by rfl, ?_⟩) hHeld ?_
          rotate_left
          · intro w hSw; have zd0 := keepc hSw d0; have zp0 := keepc hSw p0; have zp1 := keepc hSw p1; have zp2 := keepc hSw p2; clear hSw; go_simp <;> with_reducible rfl
          (try simp only [Act.put, List.setIfInBounds_toArray, List.set_cons_zero, List.set_cons_succ])
          refine wpAnyH_ready (rs := [2]) (by kernel_rfl) (by simp) ?_
          refine AllReadyH.cons rfl (fun K hK => ?_) AllReadyH.nil
          go_simp
          refine (l3PutO_c w.heap.size _ ms ⟨q,1,ex⟩ _ (HOWN.out.below hHeld) (Nat.le_trans HB1S.out (chn HBB.out hHeld).size) (by omega)).mono ?_; rintro e W ⟨v2,rfl,ho2,hq⟩; have hm3 := mput_len ms ⟨q,1,ex⟩
          go_simp
          refine hK.out _ _ (chn hHeld hq) (fun h => ?_)
          clear hK K; replace hHeld := h; clear h hq
          (try simp only [Act.put, List.setIfInBounds_toArray, List.set_cons_zero, List.set_cons_succ])
          refine wpAnyH_ready (rs := [7]) (by kernel_rfl) (by simp) ?_
          refine AllReadyH.cons rfl (fun K hK => ?_) AllReadyH.nil
          go_simp
          refine (l3Ups_c 3 v2 _ q w.heap.size _ HQP.out (levels_3 _) (kinds_put HK.out (show (1 : Int) ≠ 0 by decide)) ho2 (Nat.le_trans HB1S.out (chn HBB.out hHeld).size) (by omega)).mono ?_; rintro e W ⟨v3,ns,rfl,hns,hnk,hnl,ho3,hq⟩
          go_simp
          refine hK.out _ _ (chn hHeld hq) (fun h => ?_)
          clear hK K; replace hHeld := h; clear h hq
          (try simp only [Act.put, List.setIfInBounds_toArray, List.set_cons_zero, List.set_cons_succ])
          refine tk (i := 8) (d := (some 5)) (v := ?_) rfl rfl (by kernel_rfl) (by kernel_rfl) (by kernel_rfl) (fun _ _ _ h => h) (Or.inl ⟨by rfl, ?_⟩) hHeld ?_
          rotate_left
          · intro w hSw; have zd0 := keepc hSw d0; have zp0 := keepc hSw p0; have zp1 := keepc hSw p1; have zp2 := keepc hSw p2; clear hSw; go_simp <;> with_reducible rfl
          (try simp only [Act.put, List.setIfInBounds_toArray, List.set_cons_zero, List.set_cons_succ])
          refine wpAnyH_done (by kernel_rfl) ?_ _
          have hbf := chn HBB.out hHeld
          have HNS : Hid (ns.map Mk.pl = ((ss.take (k + 1)).map (·.data.toList)).foldl (dstep (ys.map En.pl)) []) := by
            rw [Hid, hns, HSN0.out, ← HMS.out, dstep_some (mm := ⟨q, 1, ex⟩) HDM.out]
          clear hns hHeld d0 p0 p1 p2
          go_wp2
          go_roundw
          case rel => exact ⟨k + 1, ns, by omega, by omega, by go_num, HNS.out, hnk, ho3, hbf⟩
          case measure => simp [intOf]; omega
      | none =>
        obtain ⟨u, hu⟩ := str_of20 (upL q.data.toList)
        have HU := Lib.hid hu
        obtain ⟨r, hr⟩ : ∃ r, dirE ys u = r := ⟨_, rfl⟩
        have HR := Lib.hid hr
        have hud := dir_up ys q u hu
        rw [hr] at hud
        obtain ⟨E, hE⟩ : ∃ E, Obj.cells #[.string ⟨#[]⟩, .bool false, .string ⟨#[]⟩] 55 = E := ⟨_, rfl⟩
        obtain ⟨M, hM⟩ : ∃ M, Obj.cells #[.string q, .int .i64 3, .string ⟨#[]⟩] 45 = M := ⟨_, rfl⟩
        have hsz : (W.alloc E).heap.size = W.heap.size + 1 := by simp
        have e1 : (W.alloc E).cell? ⟨W.heap.size, 1, none⟩ = some (.bool false) := hE ▸ new_cell W #[.string ⟨#[]⟩, .bool false, .string ⟨#[]⟩] 55 1 (.bool false) rfl
        have e2 : (W.alloc E).cell? ⟨W.heap.size, 2, none⟩ = some (.string ⟨#[]⟩) := hE ▸ new_cell W #[.string ⟨#[]⟩, .bool false, .string ⟨#[]⟩] 55 2 (.string ⟨#[]⟩) rfl
        have dE := keepc (bellow_alloc W E) d0
        have F2 := bellow_alloc (W.alloc E) M
        have F1 := (bellow_alloc W E).trans (F2.mono (by rw [hsz]; exact Nat.le_succ _))
        have m0 : ((W.alloc E).alloc M).cell? ⟨W.heap.size + 1, 0, none⟩ = some (.string q) := hsz ▸ hM ▸ new_cell (W.alloc E) #[.string q, .int .i64 3, .string ⟨#[]⟩] 45 0 (.string q) rfl
        have m1 : ((W.alloc E).alloc M).cell? ⟨W.heap.size + 1, 1, none⟩ = some (.int .i64 3) := hsz ▸ hM ▸ new_cell (W.alloc E) #[.string q, .int .i64 3, .string ⟨#[]⟩] 45 1 (.int .i64 3) rfl
        have m2 : ((W.alloc E).alloc M).cell? ⟨W.heap.size + 1, 2, none⟩ = some (.string ⟨#[]⟩) := hsz ▸ hM ▸ new_cell (W.alloc E) #[.string q, .int .i64 3, .string ⟨#[]⟩] 45 2 (.string ⟨#[]⟩) rfl
        have hfz : ∀ j, ((W.alloc E).alloc M).frozen? ⟨W.heap.size + 1, j, none⟩ = false := fun j => hsz ▸ hM ▸ new_free (W.alloc E) #[.string q, .int .i64 3, .string ⟨#[]⟩] 45 j
        have f0 := hfz 0
        have f1 := hfz 1
        have f2 := hfz 2
        clear hfz
        have dZ := keepc F1 d0
        have eZ1 := keepc F2 e1
        have eZ2 := keepc F2 e2
        have HSZ := Lib.hid hsz
        clear hsz
        subst hE hM
        clear e1 e2 eZ1 eZ2 f0 f1 f2
        go_wp2_with fail
        refine (sPathUp_c q u HU _ hqs).mono ?_; rintro e W5 ⟨rfl, hq⟩
        replace F1 := F1.trans (hq.mono F1.size)
        replace m0 := keepc hq m0
        replace m1 := keepc hq m1
        replace m2 := keepc hq m2
        clear hq
        replace hsy := SlF.below hsy F1
        go_wp2_with fail
        refine (HD.out u r HR _ hsy).mono ?_; rintro e W6 ⟨rfl, rfl⟩
        cases r with
        | false =>
          have hdn : dmk ys q = none := by
            unfold dmk; rw [ho]
            have h : upCodeL (ys.map En.pl) q.data.toList ≠ 0 := by simpa using hud.symm
            simp only [if_neg h]
          have HNS : Hid (ms.map Mk.pl = ((ss.take (k + 1)).map (·.data.toList)).foldl (dstep (ys.map En.pl)) []) := by rw [Hid, HSN0.out, ← HMS.out, dstep_none hdn]
          clear hdn hud ho hu hr
          go_wp2
          go_roundw
          case rel => exact ⟨k + 1, ms, by omega, by omega, by go_num, HNS.out, HK.out, hown.below F1, chn hb F1⟩
          case measure => simp [intOf]; omega
        | true =>
          have HDM : Hid (dmk ys q = some ⟨q, 3, ⟨#[]⟩⟩) := by
            rw [Hid]; unfold dmk; rw [ho]
            have h : upCodeL (ys.map En.pl) q.data.toList = 0 := by simpa using hud.symm
            simp only [if_pos h]
          have p0 := m0
          have p1 := m1
          have p2 := m2
          replace d0 := keepc F1 d0
          replace hb := chn hb F1
          replace hown := hown.below F1
          clear hud ho hu hr m0 m1 m2 dE dZ F1 F2 hsy
          go_wp2_with fail
          have HOWN := Lib.hid hown
          have HBB := Lib.hid hb
          clear hown hb
          refine wp_region_held_drew (S := fun w' => Below _ _ w') (by kernel_rfl) (below_drew _) (fun hHeld => ?_)
          refine tk (i := 0) (d := (some 59)) (v := ?_) rfl rfl (by kernel_rfl) (by kernel_rfl) (by kernel_rfl) (fun _ _ _ h => h) (Or.inl ⟨by rfl, ?_⟩) hHeld ?_
          rotate_left
          · intro w hSw; have zd0 := keepc hSw d0; have zp0 := keepc hSw p0; have zp1 := keepc hSw p1; have zp2 := keepc hSw p2; clear hSw; go_simp <;> with_reducible rfl
          (try simp only [Act.put, List.setIfInBounds_toArray, List.set_cons_zero, List.set_cons_succ])
          refine tk (i := 1) (d := (some 60)) (v := ?_) rfl rfl (by kernel_rfl) (by kernel_rfl) (by kernel_rfl) (fun _ _ _ h => h) (Or.inl ⟨by rfl, ?_⟩) hHeld ?_
          rotate_left
          · intro w hSw; have zd0 := keepc hSw d0; have zp0 := keepc hSw p0; have zp1 := keepc hSw p1; have zp2 := keepc hSw p2; clear hSw; go_simp <;> with_reducible rfl
          (try simp only [Act.put, List.setIfInBounds_toArray, List.set_cons_zero, List.set_cons_succ])
          refine tk (i := 3) (d := (some 62)) (v := ?_) rfl rfl (by kernel_rfl) (by kernel_rfl) (by kernel_rfl) (fun _ _ _ h => h) (Or.inl ⟨by rfl, ?_⟩) hHeld ?_
          rotate_left
          · intro w hSw; have zd0 := keepc hSw d0; have zp0 := keepc hSw p0; have zp1 := keepc hSw p1; have zp2 := keepc hSw p2; clear hSw; go_simp <;> with_reducible rfl
          (try simp only [Act.put, List.setIfInBounds_toArray, List.set_cons_zero, List.set_cons_succ])
          refine tk (i := 4) (d := (some 63)) (v := ?_) rfl rfl (by kernel_rfl) (by kernel_rfl) (by kernel_rfl) (fun _ _ _ h => h) (Or.inl ⟨by rfl, ?_⟩) hHeld ?_
          rotate_left
          · intro w hSw; have zd0 := keepc hSw d0; have zp0 := keepc hSw p0; have zp1 := keepc hSw p1; have zp2 := keepc hSw p2; clear hSw; go_simp <;> with_reducible rfl
          (try simp only [Act.put, List.setIfInBounds_toArray, List.set_cons_zero, List.set_cons_succ])
          refine tk (i := 5) (d := (some 64)) (v := ?_) rfl rfl (by kernel_rfl) (by kernel_rfl) (by kernel_rfl) (fun _ _ _ h => h) (Or.inl ⟨by rfl, ?_⟩) hHeld ?_
          rotate_left
          · intro w hSw; have zd0 := keepc hSw d0; have zp0 := keepc hSw p0; have zp1 := keepc hSw p1; have zp2 := keepc hSw p2; clear hSw; go_simp <;> with_reducible rfl
          (try simp only [Act.put, List.setIfInBounds_toArray, List.set_cons_zero, List.set_cons_succ])
          refine tk (i := 6) (d := (some 65)) (v := ?_) rfl rfl (by kernel_rfl) (by kernel_rfl) (by kernel_rfl) (fun _ _ _ h => h) (Or.inl ⟨by rfl, ?_⟩) hHeld ?_
          rotate_left
          · intro w hSw; have zd0 := keepc hSw d0; have zp0 := keepc hSw p0; have zp1 := keepc hSw p1; have zp2 := keepc hSw p2; clear hSw; go_simp <;> with_reducible rfl
          (try simp only [Act.put, List.setIfInBounds_toArray, List.set_cons_zero, List.set_cons_succ])
          refine wpAnyH_ready (rs := [2]) (by kernel_rfl) (by simp) ?_
          refine AllReadyH.cons rfl (fun K hK => ?_) AllReadyH.nil
          go_simp
          refine (l3PutO_c w.heap.size _ ms ⟨q,3,⟨#[]⟩⟩ _ (HOWN.out.below hHeld) (Nat.le_trans HB1S.out (chn HBB.out hHeld).size) (by omega)).mono ?_; rintro e W ⟨v2,rfl,ho2,hq⟩; have hm3 := mput_len ms ⟨q,3,⟨#[]⟩⟩
          go_simp
          refine hK.out _ _ (chn hHeld hq) (fun h => ?_)
          clear hK K; replace hHeld := h; clear h hq
          (try simp only [Act.put, List.setIfInBounds_toArray, List.set_cons_zero, List.set_cons_succ])
          refine wpAnyH_ready (rs := [7]) (by kernel_rfl) (by simp) ?_
          refine AllReadyH.cons rfl (fun K hK => ?_) AllReadyH.nil
          go_simp
          refine (l3Ups_c 3 v2 _ q w.heap.size _ HQP.out (levels_3 _) (kinds_put HK.out (show (3 : Int) ≠ 0 by decide)) ho2 (Nat.le_trans HB1S.out (chn HBB.out hHeld).size) (by omega)).mono ?_; rintro e W ⟨v3,ns,rfl,hns,hnk,hnl,ho3,hq⟩
          go_simp
          refine hK.out _ _ (chn hHeld hq) (fun h => ?_)
          clear hK K; replace hHeld := h; clear h hq
          (try simp only [Act.put, List.setIfInBounds_toArray, List.set_cons_zero, List.set_cons_succ])
          refine tk (i := 8) (d := (some 5)) (v := ?_) rfl rfl (by kernel_rfl) (by kernel_rfl) (by kernel_rfl) (fun _ _ _ h => h) (Or.inl ⟨by rfl, ?_⟩) hHeld ?_
          rotate_left
          · intro w hSw; have zd0 := keepc hSw d0; have zp0 := keepc hSw p0; have zp1 := keepc hSw p1; have zp2 := keepc hSw p2; clear hSw; go_simp <;> with_reducible rfl
          (try simp only [Act.put, List.setIfInBounds_toArray, List.set_cons_zero, List.set_cons_succ])
          refine wpAnyH_done (by kernel_rfl) ?_ _
          have hbf := chn HBB.out hHeld
          have HNS : Hid (ns.map Mk.pl = ((ss.take (k + 1)).map (·.data.toList)).foldl (dstep (ys.map En.pl)) []) := by
            rw [Hid, hns, HSN0.out, ← HMS.out, dstep_some (mm := ⟨q, 3, ⟨#[]⟩⟩) HDM.out]
          clear hns hHeld d0 p0 p1 p2
          go_wp2
          go_roundw
          case rel => exact ⟨k + 1, ns, by omega, by omega, by go_num, HNS.out, hnk, ho3, hbf⟩
          case measure => simp [intOf]; omega
    · obtain rfl : k = p := by omega
      have HEQ : Hid (ms.map Mk.pl = diffL (xs.map En.pl) (ys.map En.pl)) := by rw [Hid, diffL_fold, ← HSS.out, HMS.out, HALL.out]
      obtain ⟨g, c2, rfl, g1, g2, g3⟩ := hown
      go_wp2
      go_ret
      exact ⟨_, c2, ms, rfl, HEQ.out, g3, HB1.out.trans (hb.mono HB1.out.size)⟩
set_option maxRecDepth 100000 in
set_option maxHeartbeats 8000000 in
theorem sLayerDiff_c (a a' : Option Addr) (c c' : Nat) (xs ys : List En) (w : World) (hA : ∃ b0 b1, a = some ⟨b0, 0, none⟩ ∧ a' = some ⟨b1, 0, none⟩ ∧ b0 < w.heap.size) (hs : SlF En.cells w a xs) (hs' : SlF En.cells w a' ys) (hx : xs.length ≤ maxLen) (hy : ys.length ≤ maxLen) (hc : xs.length ≤ c) (hcm : c ≤ maxLen) (hc' : ys.length ≤ c') (hz : ∀ e ∈ xs, e.p.size ≤ 2000000 ∧ e.x.size ≤ 2000000) (hz' : ∀ e ∈ ys, e.p.size ≤ 2000000 ∧ e.x.size ≤ 2000000) :
    Calls Tryd.prog 13 #[.slice a xs.length c, .slice a' ys.length c'] w (MadeMl (tdiffL (xs.map En.pl) (ys.map En.pl)) w) := by
  obtain ⟨b0, b1, rfl, rfl, hb0⟩ := hA
  have hm2 : (2000000 : Nat) ≤ maxLen := by unfold maxLen; omega
  have hb := Below.refl w.heap.size w
  obtain ⟨r, hr⟩ := tok_dec xs
  obtain ⟨r', hr'⟩ := tok_dec ys
  have HT := Lib.hid (sTreeOk_c (some ⟨b0, 0, none⟩) c xs r (Lib.hid hr) w hs hx hc (fun e he => ⟨Nat.le_trans (hz e he).1 hm2, Nat.le_trans (hz e he).2 hm2⟩))
  have HT' := Lib.hid (fun W (h : SlF En.cells W (some ⟨b1, 0, none⟩) ys) => sTreeOk_c (some ⟨b1, 0, none⟩) c' ys r' (Lib.hid hr') W h hy hc' (fun e he => ⟨Nat.le_trans (hz' e he).1 hm2, Nat.le_trans (hz' e he).2 hm2⟩))
  obtain ⟨L, hL⟩ : ∃ L, tdiffL (xs.map En.pl) (ys.map En.pl) = L := ⟨_, rfl⟩
  have HLD : Hid (¬ (r = true ∧ r' = true) → [] = L) := fun h => by
    rw [← hL]; unfold tdiffL; rw [if_neg (fun h' => h ⟨hr.2 h'.1, hr'.2 h'.2⟩)]
  have HLO : Hid (r = true → r' = true → diffL (xs.map En.pl) (ys.map En.pl) = L) := fun h h' => by
    rw [← hL]; unfold tdiffL; rw [if_pos ⟨hr.1 h, hr'.1 h'⟩]
  have HDF := Lib.hid (fun (h : r = true) (h' : r' = true) W (k : SlF En.cells W (some ⟨b0, 0, none⟩) xs) (k' : SlF En.cells W (some ⟨b1, 0, none⟩) ys) (k0 : b0 < W.heap.size) => l3Diff_c b0 c b1 c' xs ys W k k' k0 hc hcm (hr.1 h) (hr'.1 h'))
  have HS := Lib.hid hs
  have HS' := Lib.hid hs'
  have HB0 := Lib.hid hb0
  rw [hL]
  obtain ⟨n, hn⟩ : ∃ n, xs.length = n := ⟨_, rfl⟩
  obtain ⟨n', hn'⟩ : ∃ n, ys.length = n := ⟨_, rfl⟩
  rw [hn] at HT HDF ⊢
  rw [hn'] at HT' HDF ⊢
  clear hn hn' hr hr' hs hs' hL hz hz' hc hc' hcm hx hy hb0 hm2
  cases r with
  | false =>
    go_enter Tryd.func13, Tryd.ntmps13
    go_wp2_with fail
    refine HT.out.mono ?_; rintro e WS ⟨rfl, hq⟩; replace hb := chn hb hq; clear hq
    go_wp2
    go_ret
    exact ⟨some ⟨WS.heap.size, 0, none⟩, 0, [], rfl, HLD.out (by simp), World.ownsRow_lit _ #[] 0 hb.size (Nat.zero_le _) rfl, hb.alloc hb.size _⟩
  | true =>
  cases r' with
  | false =>
    go_enter Tryd.func13, Tryd.ntmps13
    go_wp2_with fail
    refine (HT.out).mono ?_; rintro e W ⟨rfl, hq⟩; replace hb := chn hb hq; clear hq
    go_wp2_with fail
    refine (HT'.out _ (HS'.out.below hb)).mono ?_; rintro e WS ⟨rfl, hq⟩; replace hb := chn hb hq; clear hq
    go_wp2
    go_ret
    exact ⟨some ⟨WS.heap.size, 0, none⟩, 0, [], rfl, HLD.out (by simp), World.ownsRow_lit _ #[] 0 hb.size (Nat.zero_le _) rfl, hb.alloc hb.size _⟩
  | true =>
    have HLX := Lib.hid (HLO.out rfl rfl)
    have HDX := Lib.hid (HDF.out rfl rfl)
    clear HLO HDF HLD
    go_enter Tryd.func13, Tryd.ntmps13
    go_wp2_with fail
    refine (HT.out).mono ?_; rintro e W ⟨rfl, hq⟩; replace hb := chn hb hq; clear hq
    go_wp2_with fail
    refine (HT'.out _ (HS'.out.below hb)).mono ?_; rintro e W ⟨rfl, hq⟩; replace hb := chn hb hq; clear hq
    go_wp2_with fail
    refine (HDX.out _ (HS.out.below hb) (HS'.out.below hb) (Nat.lt_of_lt_of_le HB0.out hb.size)).mono ?_; rintro e W ⟨a1, c1, ms, rfl, hms, how, hq⟩
    have HB := Lib.hid hb
    replace hb := chn hb hq
    have HMS : Hid (ms.map Mk.pl = L) := by rw [Hid, hms, HLX.out]
    clear hms hq
    go_wp2
    go_ret
    exact ⟨a1, c1, ms, rfl, HMS.out, own_mono how HB.out.size, hb⟩
end Go.Proofs.YtnmjidjhloodbaaDoor
namespace Go.Proofs.YtnmjidjhloodbaaDoor
open Go.RowKit
theorem exactLayerDiff_w_len (a b : List PE) : (tdiffL a b).length ≤ 200 := tdiff_len a b
set_option maxRecDepth 100000 in
set_option maxHeartbeats 16000000 in
theorem exactLayerDiff_w (a a' : Option Addr) (c c' : Nat) (xs : List En) (ys : List En) (w : World) (hs : SlF En.cells w a xs) (hs' : SlF En.cells w a' ys) (hx : xs.length ≤ maxLen) (hy : ys.length ≤ maxLen)
    (hz : ∀ e ∈ xs, e.p.size ≤ maxLen ∧ e.x.size ≤ maxLen) (hz' : ∀ e ∈ ys, e.p.size ≤ maxLen ∧ e.x.size ≤ maxLen) :
    Calls Tryd.prog 4 #[.slice a xs.length c, .slice a' ys.length c'] w (TrueS w) := by
  have hb := Below.refl w.heap.size w
  by_cases h1 : 1048576 < (xs.length : Int) + sumW enW xs
  · have H := Lib.hid (szEntS_no a c xs 1048576 (by omega) (by omega) h1 w hs hx hz)
    obtain ⟨n, hn⟩ : ∃ n, xs.length = n := ⟨_, rfl⟩
    obtain ⟨n', hn'⟩ : ∃ n, ys.length = n := ⟨_, rfl⟩
    rw [hn] at H ⊢
    rw [hn']
    clear hn hn' hs hs' hx hy hz hz' h1
    go_enter Tryd.func4, Tryd.ntmps4
    go_wp2_with fail
    refine (H.out).mono ?_; rintro e W ⟨rfl, hq⟩; replace hb := chn hb hq; clear hq
    go_wp2
    go_ret
    exact ⟨rfl, hb⟩
  have hl1 : (xs.length : Int) + sumW enW xs ≤ 1048576 := by omega
  have H1 := Lib.hid (szEntS_yes a c xs 1048576 (by omega) hl1 w hs)
  obtain ⟨l2, hl2⟩ : ∃ l2 : Int, (1048576 : Int) - xs.length - sumW enW xs = l2 := ⟨_, rfl⟩
  rw [hl2] at H1
  have hl20 : 0 ≤ l2 := by omega
  have hl21 : l2 ≤ 1048576 := by omega
  by_cases h2 : l2 < (ys.length : Int) + sumW enW ys
  · have H2 := fun W (h : SlF En.cells W a' ys) => Lib.hid (szEntS_no a' c' ys l2 (by omega) (by omega) h2 W h hy hz')
    have HS' := Lib.hid hs'
    obtain ⟨n, hn⟩ : ∃ n, xs.length = n := ⟨_, rfl⟩
    obtain ⟨n', hn'⟩ : ∃ n, ys.length = n := ⟨_, rfl⟩
    rw [hn] at H1 ⊢
    rw [hn'] at H2 ⊢
    have HH2 := Lib.hid H2
    clear hn hn' hs hs' hx hy hz hz' h1 h2 hl1 hl2 H2
    go_enter Tryd.func4, Tryd.ntmps4
    go_wp2_with fail
    refine (H1.out).mono ?_; rintro e W ⟨rfl, hq⟩; replace hb := chn hb hq; clear hq
    go_wp2_with fail
    refine ((HH2.out _ (HS'.out.below hb)).out).mono ?_; rintro e W ⟨rfl, hq⟩; replace hb := chn hb hq; clear hq
    go_wp2
    go_ret
    exact ⟨rfl, hb⟩
  have hl3 : (ys.length : Int) + sumW enW ys ≤ l2 := by omega
  have H2 := fun W (h : SlF En.cells W a' ys) => Lib.hid (szEntS_yes a' c' ys l2 (by omega) hl3 W h)
  obtain ⟨l4, hl4⟩ : ∃ l4 : Int, l2 - ys.length - sumW enW ys = l4 := ⟨_, rfl⟩
  rw [hl4] at H2
  have hl40 : 0 ≤ l4 := by omega
  have hxn : xs.length ≤ 1048576 := by omega
  have hyn : ys.length ≤ 1048576 := by omega
  have hZ := en_low hl1
  have hZ' := en_low (xs := ys) (by omega)
  obtain ⟨L, hL⟩ : ∃ L, tdiffL (xs.map En.pl) (ys.map En.pl) = L := ⟨_, rfl⟩
  have hll : L.length ≤ 200 := by rw [← hL]; exact exactLayerDiff_w_len _ _
  have hT := fun W (h : SlF En.cells W a xs) => Lib.hid (toEntS_d a c xs W h (by omega))
  have hT' := fun W (h : SlF En.cells W a' ys) => Lib.hid (toEntS_d a' c' ys W h (by omega))
  have hSs := fun W b0 b1 (h : SlF En.cells W (some ⟨b0, 0, none⟩) xs) (h' : SlF En.cells W (some ⟨b1, 0, none⟩) ys) (hb0 : b0 < W.heap.size) => Lib.hid (sLayerDiff_c (some ⟨b0, 0, none⟩) (some ⟨b1, 0, none⟩) xs.length ys.length xs ys W ⟨b0, b1, rfl, rfl, hb0⟩ h h' hx hy (Nat.le_refl _) hx (Nat.le_refl _) hZ hZ')
  have hSi := fun W a a' c c' (h : SlF En.cells W a xs) (h' : SlF En.cells W a' ys) => Lib.hid (layerDiff_c a a' c c' xs ys W h h' hx hy hZ hZ')
  have hE := fun W a a' c c' (h : SlF En.cells W a xs) (h' : SlF En.cells W a' xs) => Lib.hid (eqEntS_c a a' c c' xs xs true (Lib.hid ⟨fun _ => rfl, fun _ => rfl⟩) W h h' hx hx)
  have hE' := fun W a a' c c' (h : SlF En.cells W a ys) (h' : SlF En.cells W a' ys) => Lib.hid (eqEntS_c a a' c c' ys ys true (Lib.hid ⟨fun _ => rfl, fun _ => rfl⟩) W h h' hy hy)
  obtain ⟨n, hn⟩ : ∃ n, xs.length = n := ⟨_, rfl⟩
  obtain ⟨n', hn'⟩ : ∃ n, ys.length = n := ⟨_, rfl⟩
  rw [hL] at hSs hSi
  rw [hn] at H1 hT hSs hSi hE hxn ⊢
  rw [hn'] at H2 hT' hSs hSi hE' hyn ⊢
  have G2 := Lib.hid H2
  have GT := Lib.hid hT
  have GT' := Lib.hid hT'
  have GS := Lib.hid hSs
  have GI := Lib.hid hSi
  have GE := Lib.hid hE
  have GE' := Lib.hid hE'
  have HS := Lib.hid hs
  have HS' := Lib.hid hs'
  have HLL := Lib.hid hll
  have HQS := fun (a a' : Option Addr) (c c' n : Nat) (ss : List Mk) (hn : ss.length = n) (hx : n ≤ 2000000) => Lib.hid (fun (W : World) (h : SlF Mk.cells W a ss) (h' : SlF Mk.cells W a' ss) => eqMarkS_n a a' c c' n ss hn W h h' hx)
  have GQS := Lib.hid HQS
  clear hn hn' hx hy hz hz' hZ hZ' h1 h2 hl1 hl2 hl3 hl4 H2 hT hT' hSs hSi hE hE' hs hs' hL hll HQS
  go_enter Tryd.func4, Tryd.ntmps4
  go_wp2_with fail
  refine (H1.out).mono ?_; rintro e W ⟨rfl, hq⟩; replace hb := chn hb hq; clear hq
  go_wp2_with fail
  refine ((G2.out _ (HS'.out.below hb)).out).mono ?_; rintro e W ⟨rfl, hq⟩; replace hb := chn hb hq; clear hq
  go_wp2_with fail
  refine (GT.out _ (HS.out.below hb)).out.mono ?_; rintro e W ⟨rfl, oy, y0, hq⟩; replace hb := chn hb hq
  have hlt := lt_of_own oy
  clear oy hq
  go_wp2_with fail
  refine (GT'.out _ (HS'.out.below hb)).out.mono ?_; rintro e W ⟨rfl, _, y1, hq⟩; replace hb := chn hb hq; replace y0 := SlF.below y0 hq
  have HLT := Lib.hid (Nat.lt_of_lt_of_le hlt hq.size)
  clear hq hlt
  go_wp2_with fail
  refine (GS.out _ _ _ y0 y1 HLT.out).out.mono ?_
  rintro e W1 ⟨av, cs, ss, rfl, hss, oS, hq⟩
  replace hb := chn hb hq
  have HSS := Lib.hid hss
  have hpl : ss.length ≤ 200 := by have := congrArg List.length hss; rw [List.length_map] at this; rw [this]; exact HLL.out
  obtain ⟨p, hp⟩ : ∃ p, ss.length = p := ⟨_, rfl⟩
  unfold OwnMk at oS
  rw [hp] at oS hpl ⊢
  have HP := Lib.hid hp
  have LS := Lib.hid (lt_own oS)
  have HB1 := Lib.hid hb.size
  clear y0 y1 hq hss hp HLT
  go_wp2_with fail
  refine (GT.out _ (HS.out.below hb)).out.mono ?_; rintro e W2 ⟨rfl, oX, sX, hq⟩; replace hb := chn hb hq; replace oS := own_below oS hq
  have HX := Lib.hid (lt_of_own oX)
  have HX1 := Lib.hid hq.size
  clear hq
  go_wp2_with fail
  refine (GT'.out _ (HS'.out.below hb)).out.mono ?_; rintro e W3 ⟨rfl, oY, sY, hq⟩; replace hb := chn hb hq; replace oS := own_below oS hq; replace oX := own_below oX hq; replace sX := SlF.below sX hq
  have HY := Lib.hid (lt_of_own oY)
  clear hq
  go_wp2_with fail
  refine (GI.out _ _ _ _ _ sX sY).out.mono ?_
  rintro e W4 ⟨ag, cg, sg, rfl, hsg, oG, hq⟩
  obtain rfl : sg = ss := map_inj_ Mk.pl_inj (hsg.trans HSS.out.symm)
  replace hb := chn hb hq; replace oS := own_below oS hq; replace oX := own_below oX hq; replace oY := own_below oY hq; replace sX := SlF.below sX hq; replace sY := SlF.below sY hq
  unfold OwnMk at oG
  rw [HP.out] at oG ⊢
  have LG := Lib.hid (le_own oG)
  clear hsg hq
  go_wp2_with fail
  refine ((GQS.out ag av cg cs p sg HP.out (by omega)).out _ (own_slfN (fun _ => rfl) oG HP.out) (own_slfN (fun _ => rfl) oS HP.out)).mono ?_; rintro e W ⟨rfl, hq⟩; replace hb := chn hb hq; replace sX := SlF.below sX hq; replace sY := SlF.below sY hq; replace oS := own_below oS hq; replace oX := own_below oX hq; replace oY := own_below oY hq; replace oG := own_below oG hq; clear hq
  go_wp2_with fail
  refine (GT.out _ (HS.out.below hb)).out.mono ?_; rintro e W ⟨rfl, _, z0, hq⟩; replace hb := chn hb hq; replace oS := own_below oS hq; replace oX := own_below oX hq; replace oY := own_below oY hq; replace oG := own_below oG hq; replace sX := SlF.below sX hq; replace sY := SlF.below sY hq; clear hq
  go_wp2_with fail
  refine ((GE.out _ _ _ _ _ sX z0).out).mono ?_; rintro e W ⟨rfl, hq⟩; replace hb := chn hb hq; replace sY := SlF.below sY hq; replace oS := own_below oS hq; replace oX := own_below oX hq; replace oY := own_below oY hq; replace oG := own_below oG hq; clear hq
  clear sX z0
  go_wp2_with fail
  refine (GT'.out _ (HS'.out.below hb)).out.mono ?_; rintro e W ⟨rfl, _, z0, hq⟩; replace hb := chn hb hq; replace oS := own_below oS hq; replace oX := own_below oX hq; replace oY := own_below oY hq; replace oG := own_below oG hq; replace sY := SlF.below sY hq; clear hq
  go_wp2_with fail
  refine ((GE'.out _ _ _ _ _ sY z0).out).mono ?_; rintro e W ⟨rfl, hq⟩; replace hb := chn hb hq; replace oS := own_below oS hq; replace oX := own_below oX hq; replace oY := own_below oY hq; replace oG := own_below oG hq; clear hq
  clear sY z0
  go_wp2_with fail
  refine (markEntS_c W1.heap.size (some ⟨W1.heap.size, 0, none⟩) n n 1 _ _ oX (by omega) (by decide) (by decide)).mono ?_
  rintro e W5 ⟨rfl, _, hg⟩
  replace hb := below_grown hb hb.size hg (fun k hk => by injection hk with hk; rw [← hk]; exact HB1.out)
  replace oS := kept_lt oS hg LS.out
  replace oY := kept_gt oY hg (fun k hk => by injection hk with hk; rw [← hk]; exact HX.out)
  replace oG := kept_gt oG hg (fun k hk => Nat.lt_of_lt_of_le (Nat.lt_trans HX.out HY.out) (LG.out k hk))
  clear hg oX
  have HM2 := Lib.hid (markEntS_c W2.heap.size (some ⟨W2.heap.size, 0, none⟩) n' n' (1 + 3 * n) _ _ oY (by omega) (by omega) (by omega))
  rw [show ((1 + 3 * n : Nat) : Int) = 1 + 3 * (n : Int) by omega] at HM2
  go_wp2_with fail
  refine HM2.out.mono ?_
  rintro e W6 ⟨rfl, _, hg⟩
  replace hb := below_grown hb hb.size hg (fun k hk => by injection hk with hk; rw [← hk]; exact Nat.le_trans HB1.out HX1.out)
  replace oS := kept_lt oS hg (fun k hk => Nat.lt_trans (LS.out k hk) HX.out)
  replace oG := kept_gt oG hg (fun k hk => Nat.lt_of_lt_of_le HY.out (LG.out k hk))
  clear hg oY HM2
  go_wp2_with fail
  refine ((GQS.out ag av cg cs p sg HP.out (by omega)).out _ (own_slfN (fun _ => rfl) oG HP.out) (own_slfN (fun _ => rfl) oS HP.out)).mono ?_; rintro e W ⟨rfl, hq⟩; replace hb := chn hb hq; replace oS := own_below oS hq; replace oG := own_below oG hq; clear hq
  go_wp2_with fail
  refine (markMarkS_c W3.heap.size ag cg p 1 _ _ oG (by omega) (by decide) (by decide)).mono ?_
  rintro e W7 ⟨rfl, ⟨LM, oM, hM⟩, hg⟩
  replace hb := below_grown hb hb.size hg (fun k hk => Nat.le_trans HB1.out (Nat.le_trans (Nat.le_of_lt (Nat.lt_trans HX.out HY.out)) (LG.out k hk)))
  replace oS := kept_v oS hg LS.out (fun k hk => Nat.le_trans (Nat.le_of_lt (Nat.lt_trans HX.out HY.out)) (LG.out k hk))
  have HM := Lib.hid hM
  clear hg hM oG
  have HHS := Lib.hid (fun W (h : W.ownsRow W3.heap.size 45 3 (.slice ag p cg) p LM) => heldMarkS_c W3.heap.size ag cg p 1 LM W h HM.out (by omega) (by decide) (by decide))
  go_wp2_with fail
  refine (HHS.out _ oM).mono ?_; rintro e W ⟨rfl, hq⟩; replace hb := chn hb hq; replace oS := own_below oS hq; replace oM := own_below oM hq; clear hq
  go_wp2_with fail
  refine (GT.out _ (HS.out.below hb)).out.mono ?_; rintro e W ⟨rfl, _, z0, hq⟩; replace hb := chn hb hq; replace oS := own_below oS hq; replace oM := own_below oM hq; clear hq
  go_wp2_with fail
  refine (GT'.out _ (HS'.out.below hb)).out.mono ?_; rintro e W ⟨rfl, _, z1, hq⟩; replace hb := chn hb hq; replace oS := own_below oS hq; replace oM := own_below oM hq; replace z0 := SlF.below z0 hq; clear hq
  go_wp2_with fail
  refine (GI.out _ _ _ _ _ z0 z1).out.mono ?_
  rintro e W8 ⟨ah, ch, sh, rfl, hsh, oH, hq⟩
  obtain rfl : sh = sg := map_inj_ Mk.pl_inj (hsh.trans HSS.out.symm)
  unfold OwnMk at oH
  rw [HP.out] at oH ⊢
  replace hb := chn hb hq; replace oS := own_below oS hq; replace oM := own_below oM hq
  clear hsh hq z0 z1
  go_wp2_with fail
  refine ((GQS.out ah av ch cs p sh HP.out (by omega)).out _ (own_slfN (fun _ => rfl) oH HP.out) (own_slfN (fun _ => rfl) oS HP.out)).mono ?_; rintro e W ⟨rfl, hq⟩; replace hb := chn hb hq; replace oM := own_below oM hq; clear hq
  clear oS oH
  go_wp2_with fail
  refine (HHS.out _ oM).mono ?_; rintro e W ⟨rfl, hq⟩; replace hb := chn hb hq; clear hq
  go_wp2
  go_ret
  exact ⟨rfl, hb⟩
end Go.Proofs.YtnmjidjhloodbaaDoor
