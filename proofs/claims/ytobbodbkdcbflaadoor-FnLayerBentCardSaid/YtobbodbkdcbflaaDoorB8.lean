/- What the laws of layers share: LayerOk, LayerHides, LayerSame as the laws meet them. The walk of the law that malformed layers are refused: FnLayerBent. Conditions: each theorem's own. -/
import Derived.Test.YtobbodbkdcbflaaDoorB7
import Derived.Test.YtobbodbkdcbflaaDoorB6
namespace Go.Proofs.YtobbodbkdcbflaaDoor
open Go.RowKit
/-- Two layers held against one another. -/
theorem sameM_c (a a' : Option Addr) (c c' n n' : Nat) (xs ys : List Mk) (r : Bool) (hr : Hid (r = true ↔ xs = ys)) (w : World) (hn : xs.length = n) (hn' : ys.length = n') (hs : SlF Mk.cells w a xs) (hs' : SlF Mk.cells w a' ys) (hx : n ≤ 1000) (hy : n' ≤ 1000) :
    Calls Tryd.prog 11 #[.slice a n c, .slice a' n' c'] w fun e w' => e = .returned (.bool r) ∧ Below w.heap.size w w' := by
  subst hn hn'
  exact (layerSame_c a a' c c' xs ys r hr w hs hs' (by unfold maxLen; omega) (by unfold maxLen; omega)).mono fun _ _ ⟨h1, m, h2⟩ => ⟨h1, h2 ▸ below_dr w m⟩
theorem hidI_c (a : Option Addr) (c n : Nat) (xs : List Mk) (q : ByteArray) (r : Bool) (hr : Hid (r = true ↔ LOk (xs.map Mk.pl) ∧ hidesL (xs.map Mk.pl) q.data.toList = true)) (w : World) (hn : xs.length = n) (hs : SlF Mk.cells w a xs) (hx : n ≤ 1000) (hq : q.size ≤ 20) (hz : SmallM xs) :
    Calls Tryd.prog 16 #[.slice a n c, .string q] w fun e w' => e = .returned (.bool r) ∧ Below w.heap.size w w' := by
  subst hn
  exact layerHides_c a c xs q r hr w hs (by unfold maxLen; omega) (by omega) hz.mil
theorem hidS_c (a : Option Addr) (c n : Nat) (xs : List Mk) (q : ByteArray) (r : Bool) (hr : Hid (r = true ↔ LOk (xs.map Mk.pl) ∧ hidesL (xs.map Mk.pl) q.data.toList = true)) (w : World) (hn : xs.length = n) (hs : SlF Mk.cells w a xs) (hc : n ≤ c) (hx : n ≤ 1000) (hq : q.size ≤ 20) (hz : SmallM xs) :
    Calls Tryd.prog 17 #[.slice a n c, .string q] w fun e w' => e = .returned (.bool r) ∧ Below w.heap.size w w' := by
  subst hn
  exact sLayerHides_c a c xs q r hr w hs (by unfold maxLen; omega) hc (by omega) hz.mil
theorem lokI_c (a : Option Addr) (c n : Nat) (xs : List Mk) (r : Bool) (hr : Hid (r = true ↔ LOk (xs.map Mk.pl))) (w : World) (hn : xs.length = n) (hs : SlF Mk.cells w a xs) (hx : n ≤ 1000) (hz : SmallM xs) :
    Calls Tryd.prog 13 #[.slice a n c] w fun e w' => e = .returned (.bool r) ∧ Below w.heap.size w w' := by
  subst hn
  exact layerOk_c a c xs r hr w hs (by unfold maxLen; omega) hz.mil
theorem lokS_c (a : Option Addr) (c n : Nat) (xs : List Mk) (r : Bool) (hr : Hid (r = true ↔ LOk (xs.map Mk.pl))) (w : World) (hn : xs.length = n) (hs : SlF Mk.cells w a xs) (hc : n ≤ c) (hx : n ≤ 1000) (hz : SmallM xs) :
    Calls Tryd.prog 14 #[.slice a n c] w fun e w' => e = .returned (.bool r) ∧ Below w.heap.size w w' := by
  subst hn
  exact sLayerOk_c a c xs r hr w hs (by unfold maxLen; omega) hc hz.mil
theorem slf_nilM (w : World) : SlF Mk.cells w none [] := fun h => by simp at h
theorem hid_dec (xs : List Mk) (q : ByteArray) : ∃ r : Bool, r = true ↔ LOk (xs.map Mk.pl) ∧ hidesL (xs.map Mk.pl) q.data.toList = true := ⟨by classical exact decide (LOk (xs.map Mk.pl) ∧ hidesL (xs.map Mk.pl) q.data.toList = true), by simp⟩
end Go.Proofs.YtobbodbkdcbflaaDoor
namespace Go.Proofs.YtobbodbkdcbflaaDoor
open Go.RowKit
theorem mzz_up : upL [47, 122, 122, 47, 122] = [47, 122, 122] ∧ upL [47, 122, 122] = [47] := by decide
theorem mzz_under : underL [47, 122, 122, 47, 122] [47, 122, 122] = true := by decide
theorem mbent_x {l : List PM} (hz : LowZ l) : ¬ LOk (l ++ [⟨[47, 122, 122], 3, []⟩, ⟨[47, 122, 122, 47, 122], 1, []⟩]) := fun h => by
  rcases h.par (m := ⟨[47, 122, 122, 47, 122], 1, []⟩) (by simp) with h1 | ⟨f, hf, h1, h3⟩
  · rw [mzz_up.1] at h1; simp at h1
  · rw [mzz_up.1] at h1
    rcases List.mem_append.1 hf with h2 | h2
    · rcases hz f h2 with h4 | h4
      · rw [h1] at h4; cases h4
      · rw [h1] at h4; simp at h4
    · simp only [List.mem_cons, List.not_mem_nil, or_false] at h2
      rcases h2 with rfl | rfl
      · simp [dirM] at h3
      · simp at h1
theorem mbent_y {l : List PM} : ¬ LOk (l ++ [⟨[47, 122, 122], 4, []⟩, ⟨[47, 122, 122, 47, 122], 3, []⟩]) := fun h => by
  have h1 := h.bare ⟨[47, 122, 122, 47, 122], 3, []⟩ (by simp) (by decide)
  have h2 : bareL (l ++ [⟨[47, 122, 122], 4, []⟩, ⟨[47, 122, 122, 47, 122], 3, []⟩]) [47, 122, 122, 47, 122] = true := bare_iff.2 ⟨⟨[47, 122, 122], 4, []⟩, by simp, rfl, mzz_under⟩
  rw [h2] at h1; cases h1
theorem mbent_w {l : List PM} (hne : l ≠ []) : ¬ LOk (l ++ l) := fun h => by
  obtain ⟨e, r, rfl⟩ := List.exists_cons_of_ne_nil hne
  have h1 := (List.pairwise_append.1 h.ord).2.2 e (by simp) e (by simp)
  rw [less_irrefl] at h1; cases h1
theorem LOk.pthM {l : List PM} (h : LOk l) {m : PM} (hm : m ∈ l) : pathOkL m.p = true := by
  have h1 := h.mks m hm
  unfold markOkL at h1
  simp only [Bool.and_eq_true] at h1
  exact h1.1.1.2
theorem lowZ_all {l : List PM} (h : LOk l) (hz : LowZ l) : LowM l := fun m hm => by
  rcases hz m hm with h1 | h1
  · exact h1
  · rcases h.par hm with h2 | ⟨f, hf, h2, _⟩
    · rw [h1, mzz_up.1] at h2; simp at h2
    · rw [h1, mzz_up.1] at h2
      rcases hz f hf with h4 | h4
      · rw [h2] at h4; cases h4
      · rw [h2] at h4; simp at h4
theorem low_less {p r : Bs} (hp : pathOkL p = true) (hl : lowL p = true) : Op.bytesLess p (47 :: 122 :: r) = true := by
  unfold pathOkL at hp
  simp only [Bool.and_eq_true, beq_iff_eq] at hp
  have h2 := hp.1.1.2
  cases p with
  | nil => simp at h2
  | cons x q =>
    simp at h2
    subst h2
    cases q with
    | nil => simp [Op.bytesLess]
    | cons y s =>
      have h3 : y.toNat < 107 := by unfold lowL at hl; simpa using hl
      have h4 : y < 122 := by rw [UInt8.lt_iff_toNat_lt]; exact Nat.lt_of_lt_of_le h3 (by decide)
      rw [less_cons, less_cons]
      simp [h4]
theorem low_no_under {p : Bs} (hl : lowL p = true) : underL p [47, 122, 122] = false := by
  cases hu : underL p [47, 122, 122] with
  | false => rfl
  | true =>
    obtain ⟨x, hx⟩ := under_pre hu (by decide)
    rw [hx] at hl
    cases hl
theorem mbent_z {l : List PM} (h : LOk l) (hz : LowZ l) (hl : l.length + 2 ≤ 32) : LOk (l ++ [⟨[47, 122, 122], 4, []⟩, ⟨[47, 122, 122, 47, 122], 2, []⟩]) := by
  have hlow := lowZ_all h hz
  have hmem : ∀ m : PM, m ∈ l ++ [⟨[47, 122, 122], 4, []⟩, ⟨[47, 122, 122, 47, 122], 2, []⟩] ↔ m ∈ l ∨ m = ⟨[47, 122, 122], 4, []⟩ ∨ m = ⟨[47, 122, 122, 47, 122], 2, []⟩ := fun m => by simp
  have hord : OrdP PM.p (l ++ [⟨[47, 122, 122], 4, []⟩, ⟨[47, 122, 122, 47, 122], 2, []⟩]) := by
    refine List.pairwise_append.2 ⟨h.ord, ?_, fun a ha b hb => ?_⟩
    · simp; decide
    · simp only [List.mem_cons, List.not_mem_nil, or_false] at hb
      rcases hb with rfl | rfl <;> exact low_less (h.pthM ha) (hlow a ha)
  refine ⟨by rw [List.length_append]; exact hl, fun m hm => ?_, hord, fun m hm => ?_, fun m hm hk => ?_⟩
  · rcases (hmem m).1 hm with h1 | rfl | rfl
    · exact h.mks m h1
    · decide
    · decide
  · refine (upM_of hord).2 ?_
    rcases (hmem m).1 hm with h1 | rfl | rfl
    · rcases h.par h1 with h2 | ⟨f, hf, h2⟩
      · exact .inl h2
      · exact .inr ⟨f, (hmem f).2 (.inl hf), h2⟩
    · exact .inl mzz_up.2
    · exact .inr ⟨⟨[47, 122, 122], 4, []⟩, (hmem _).2 (.inr (.inl rfl)), mzz_up.1.symm, rfl⟩
  · cases hb : bareL (l ++ [⟨[47, 122, 122], 4, []⟩, ⟨[47, 122, 122, 47, 122], 2, []⟩]) m.p with
    | false => rfl
    | true =>
      obtain ⟨y, hy, hy4, hyu⟩ := bare_iff.1 hb
      rcases (hmem y).1 hy with h1 | rfl | rfl
      · rcases (hmem m).1 hm with h2 | rfl | rfl
        · have h3 := h.bare m h2 hk
          have h4 : bareL l m.p = true := bare_iff.2 ⟨y, h1, hy4, hyu⟩
          rw [h4] at h3; cases h3
        · have h3 := ups_root (q := [47, 122, 122]) (by decide) mzz_up.2 (h.pthM h1)
          rw [hyu] at h3; cases h3
        · simp at hk
      · rcases (hmem m).1 hm with h2 | rfl | rfl
        · have h3 := low_no_under (hlow m h2)
          rw [hyu] at h3; cases h3
        · have h3 := not_under_self [47, 122, 122]
          rw [hyu] at h3; cases h3
        · simp at hk
      · simp at hy4
/-- LayerOk of a list that is not right. -/
theorem lokNo_c (a : Option Addr) (c n : Nat) (xs : List Mk) (hno : ¬ LOk (xs.map Mk.pl)) (w : World) (hn : xs.length = n) (hs : SlF Mk.cells w a xs) (hx : n ≤ 1000) (hz : SmallM xs) :
    Calls Tryd.prog 13 #[.slice a n c] w fun e w' => e = .returned (.bool false) ∧ Below w.heap.size w w' :=
  lokI_c a c n xs false (Lib.hid ⟨fun h => (by cases h), fun h => absurd h hno⟩) w hn hs hx hz
theorem sameMS_c (a a' : Option Addr) (c c' n n' : Nat) (xs ys : List Mk) (r : Bool) (hr : Hid (r = true ↔ xs = ys)) (w : World) (hn : xs.length = n) (hn' : ys.length = n') (hs : SlF Mk.cells w a xs) (hs' : SlF Mk.cells w a' ys) (hx : n ≤ 1000) (hy : n' ≤ 1000) :
    Calls Tryd.prog 12 #[.slice a n c, .slice a' n' c'] w fun e w' => e = .returned (.bool r) ∧ Below w.heap.size w w' := by
  subst hn hn'
  exact (sLayerSame_c a a' c c' xs ys r hr w hs hs' (by unfold maxLen; omega) (by unfold maxLen; omega)).mono fun _ _ ⟨h1, m, h2⟩ => ⟨h1, h2 ▸ below_dr w m⟩
set_option maxRecDepth 100000 in
set_option maxHeartbeats 8000000 in
theorem lawLayerBent_w (w : World) (a : Option Addr) (n c : Nat) (h : Code w a n c) : Calls Tryd.prog 3 #[.slice a n c] w (TrueB w) := by
  have hn := h.2.2
  by_cases hbig : 1048576 < n
  · clear h
    go_enter Tryd.func3, Tryd.ntmps3
    go_wp2
    go_ret
    exact ⟨rfl, Below.refl _ _⟩
  have HE := eltMk
  have HD := Lib.hid (drawLayerSame_c w a n c h)
  have HC := Lib.hid h
  clear h
  go_enter Tryd.func3, Tryd.ntmps3
  go_wp2_with fail
  refine HD.out.mono ?_; rintro e W1 ⟨a3, c3, ps, a4, c4, qs, rfl, hP, hzp, hlp, hQ, hzq, hlq, hb⟩
  have HD2 := Lib.hid (drawLayerOk_c W1 a n c (HC.out.below hb))
  obtain ⟨n3, hn3⟩ : ∃ m, ps.length = m := ⟨_, rfl⟩
  obtain ⟨n4, hn4⟩ : ∃ m, qs.length = m := ⟨_, rfl⟩
  have HN3 := Lib.hid hn3
  have HN4 := Lib.hid hn4
  rw [hn3] at hlp ⊢
  rw [hn4] at hlq ⊢
  clear hn3 hn4 HD
  go_wp2_with fail
  refine HD2.out.mono ?_; rintro e W2 ⟨a1, c1, xs, rfl, hR, hz, hx, hzl, hq⟩; replace hb := chn hb hq; replace hP := hP.below hq; replace hQ := hQ.below hq; clear hq HD2
  have hcn := hR.cap
  obtain ⟨n1, hn1⟩ : ∃ m, xs.length = m := ⟨_, rfl⟩
  rw [hn1] at hx hcn ⊢
  have HN1 := Lib.hid hn1
  have HZ := Lib.hid hz
  have HZL := Lib.hid hzl
  obtain ⟨rs, hrs⟩ : ∃ r : Bool, r = true ↔ ps = qs := ⟨by classical exact decide (ps = qs), by simp⟩
  have HRS := Lib.hid hrs
  have HRS' : Hid (rs = true ↔ qs = ps) := hrs.trans ⟨Eq.symm, Eq.symm⟩
  obtain ⟨r, hr⟩ := mlok_dec xs
  have HRR := Lib.hid hr
  have h1 : (rs != rs) = false := by cases rs <;> rfl
  have h2 : (r != r) = false := by cases r <;> rfl
  clear hn1 hz hzl HC hrs hr
  go_wp2_with fail
  refine (sameM_c a3 a4 c3 c4 n3 n4 ps qs rs HRS _ HN3.out HN4.out hP.sl hQ.sl (by omega) (by omega)).mono ?_; rintro e V1 ⟨rfl, hq⟩; replace hb := chn hb hq; replace hP := hP.below hq; replace hQ := hQ.below hq; replace hR := hR.below hq; clear hq
  go_wp2_with fail
  refine (sameMS_c a3 a4 c3 c4 n3 n4 ps qs rs HRS _ HN3.out HN4.out hP.sl hQ.sl (by omega) (by omega)).mono ?_; rintro e V2 ⟨rfl, hq⟩; replace hb := chn hb hq; replace hP := hP.below hq; replace hQ := hQ.below hq; replace hR := hR.below hq; clear hq
  go_wp2_with fail
  refine (sameM_c a3 a4 c3 c4 n3 n4 ps qs rs HRS _ HN3.out HN4.out hP.sl hQ.sl (by omega) (by omega)).mono ?_; rintro e V3 ⟨rfl, hq⟩; replace hb := chn hb hq; replace hP := hP.below hq; replace hQ := hQ.below hq; replace hR := hR.below hq; clear hq
  go_wp2_with fail
  refine (sameM_c a4 a3 c4 c3 n4 n3 qs ps rs HRS' _ HN4.out HN3.out hQ.sl hP.sl (by omega) (by omega)).mono ?_; rintro e V4 ⟨rfl, hq⟩; replace hb := chn hb hq; replace hR := hR.below hq; clear hq hP hQ
  go_wp2_with fail
  refine (sameM_c a1 a1 c1 c1 n1 n1 xs xs true (Lib.hid ⟨fun _ => rfl, fun _ => rfl⟩) _ HN1.out HN1.out hR.sl hR.sl (by omega) (by omega)).mono ?_; rintro e V5 ⟨rfl, hq⟩; replace hb := chn hb hq; replace hR := hR.below hq; clear hq
  go_wp2_with fail
  refine (lokI_c a1 c1 n1 xs r HRR _ HN1.out hR.sl (by omega) HZ.out).mono ?_; rintro e V6 ⟨rfl, hq⟩; replace hb := chn hb hq; replace hR := hR.below hq; clear hq
  go_wp2_with fail
  refine (lokS_c a1 c1 n1 xs r HRR _ HN1.out hR.sl hcn (by omega) HZ.out).mono ?_; rintro e V7 ⟨rfl, hq⟩; replace hb := chn hb hq; replace hR := hR.below hq; clear hq
  go_wp2_with fail
  refine (lokS_c a1 c1 n1 xs r HRR _ HN1.out hR.sl hcn (by omega) HZ.out).mono ?_; rintro e W9 ⟨rfl, hq⟩; replace hb := chn hb hq; replace hR := hR.below hq; clear hq
  cases r with
  | false =>
    have HNIL := Lib.hid (fun W => lokI_c none 0 0 [] true (Lib.hid ⟨fun _ => lok_nil, fun _ => rfl⟩) W rfl (slf_nilM W) (by decide) (fun e he => by cases he))
    clear hR
    go_wp2_with fail
    refine (HNIL.out _).mono ?_; rintro e W10 ⟨rfl, hq⟩; replace hb := chn hb hq; clear hq
    go_wp2
    go_ret
    exact ⟨rfl, hb⟩
  | true =>
    have hlok := HRR.out.1 rfl
    obtain ⟨b, off, rfl, _, hsl, _⟩ := hR
    have HSX := Lib.hid hsl
    have hx32 : n1 ≤ 32 := by have := hlok.most; rw [List.length_map, HN1.out] at this; exact this
    have HSM := Lib.hid (lok_small hlok)
    have smallA : Hid (∀ ys : List Mk, SmallM ys → SmallM (xs ++ ys)) := fun ys hy e he => (List.mem_append.1 he).elim (HSM.out e) (hy e)
    have HBX : Hid (¬ LOk ((xs ++ [(⟨⟨#[47, 122, 122]⟩, 3, ⟨#[]⟩⟩ : Mk), (⟨⟨#[47, 122, 122, 47, 122]⟩, 1, ⟨#[]⟩⟩ : Mk)]).map Mk.pl)) := by rw [Hid, List.map_append]; exact mbent_x HZL.out
    have HBY : Hid (¬ LOk ((xs ++ [(⟨⟨#[47, 122, 122]⟩, 4, ⟨#[]⟩⟩ : Mk), (⟨⟨#[47, 122, 122, 47, 122]⟩, 3, ⟨#[]⟩⟩ : Mk)]).map Mk.pl)) := by rw [Hid, List.map_append]; exact mbent_y
    obtain ⟨rz, hrz⟩ := mlok_dec (xs ++ [(⟨⟨#[47, 122, 122]⟩, 4, ⟨#[]⟩⟩ : Mk), (⟨⟨#[47, 122, 122, 47, 122]⟩, 2, ⟨#[]⟩⟩ : Mk)])
    have HRZ := Lib.hid hrz
    have HBZ : Hid (n1 + 2 ≤ 32 → rz = true) := fun h => hrz.2 (by rw [List.map_append]; exact mbent_z hlok HZL.out (by rw [List.length_map, HN1.out]; exact h))
    have HBW : Hid (n1 ≠ 0 → ¬ LOk ((xs ++ xs).map Mk.pl)) := fun h0 => by
      rw [List.map_append]
      refine mbent_w (fun h => h0 ?_)
      rw [← HN1.out, List.map_eq_nil_iff.1 h]; rfl
    clear hsl hlok HRR hrz
    go_upto_region 10 with (at_builtin; first
      | (refine wp_appN (by rfl) _ _ 23 (by rfl) HE W9.heap.size W9.heap.size W9 _ _ 0 [] (by rfl) Mk.cells (fun _ => rfl) mk_one xs b off n1 c1 HN1.out (by rfl) ((HSX.out).below (bellow_alloc _ _)) (World.ownsRow_lit W9 #[] 0 (Nat.le_refl _) (Nat.zero_le _) rfl) (by rw [HN1.out]; omega) (bellow_alloc W9 _).size (bellow_alloc W9 _) (Nat.le_refl _) ?_; intro v2 w2 hown2 hbel2 _)
      | (refine wp_appN (by rfl) _ _ 23 (by rfl) HE W9.heap.size W9.heap.size W9 _ _ _ _ (by rfl) Mk.cells (fun _ => rfl) mk_one [(⟨⟨#[47, 122, 122]⟩, 3, ⟨#[]⟩⟩ : Mk), (⟨⟨#[47, 122, 122, 47, 122]⟩, 1, ⟨#[]⟩⟩ : Mk)] _ 0 _ _ (by rfl) (by rfl) (slf_lit (fun _ => rfl) w2 #[.string ⟨#[47, 122, 122]⟩, .int .i64 3, .string ⟨#[]⟩, .string ⟨#[47, 122, 122, 47, 122]⟩, .int .i64 1, .string ⟨#[]⟩] _ _ (by rfl)) (own_below hown2 (bellow_alloc w2 _)) (by rw [HN1.out]; simp; omega) (Nat.le_trans hbel2.size (bellow_alloc w2 _).size) (hbel2.alloc hbel2.size _) (Nat.le_refl _) ?_; intro v3 w3 hown3 hbel3 _))
    obtain ⟨a5, c5, rfl, hslx⟩ := row_of (N := n1 + 2) (fun _ => rfl) hown3 (by rw [HN1.out]; simp) (by rw [List.length_append, HN1.out]; rfl)
    replace hb := chn hb hbel3
    replace HSX := Lib.hid (HSX.out.below hbel3)
    skip
    have HROW := Lib.hid hslx
    clear hown2 hbel2 hown3 hbel3 hslx
    have HX1 := HROW
    clear HROW
    go_upto_region 11 with (at_builtin; first
      | (refine wp_appN (by rfl) _ _ 23 (by rfl) HE w3.heap.size w3.heap.size w3 _ _ 0 [] (by rfl) Mk.cells (fun _ => rfl) mk_one xs b off n1 c1 HN1.out (by rfl) ((HSX.out).below (bellow_alloc _ _)) (World.ownsRow_lit w3 #[] 0 (Nat.le_refl _) (Nat.zero_le _) rfl) (by rw [HN1.out]; omega) (bellow_alloc w3 _).size (bellow_alloc w3 _) (Nat.le_refl _) ?_; intro v2 w2 hown2 hbel2 _)
      | (refine wp_appN (by rfl) _ _ 23 (by rfl) HE w3.heap.size w3.heap.size w3 _ _ _ _ (by rfl) Mk.cells (fun _ => rfl) mk_one [(⟨⟨#[47, 122, 122]⟩, 4, ⟨#[]⟩⟩ : Mk), (⟨⟨#[47, 122, 122, 47, 122]⟩, 3, ⟨#[]⟩⟩ : Mk)] _ 0 _ _ (by rfl) (by rfl) (slf_lit (fun _ => rfl) w2 #[.string ⟨#[47, 122, 122]⟩, .int .i64 4, .string ⟨#[]⟩, .string ⟨#[47, 122, 122, 47, 122]⟩, .int .i64 3, .string ⟨#[]⟩] _ _ (by rfl)) (own_below hown2 (bellow_alloc w2 _)) (by rw [HN1.out]; simp; omega) (Nat.le_trans hbel2.size (bellow_alloc w2 _).size) (hbel2.alloc hbel2.size _) (Nat.le_refl _) ?_; intro v3 w3 hown3 hbel3 _))
    obtain ⟨a6, c6, rfl, hslx⟩ := row_of (N := n1 + 2) (fun _ => rfl) hown3 (by rw [HN1.out]; simp) (by rw [List.length_append, HN1.out]; rfl)
    replace hb := chn hb hbel3
    replace HSX := Lib.hid (HSX.out.below hbel3)
    replace HX1 := Lib.hid (HX1.out.below hbel3)
    have HROW := Lib.hid hslx
    clear hown2 hbel2 hown3 hbel3 hslx
    have HX2 := HROW
    clear HROW
    go_upto_region 12 with (at_builtin; first
      | (refine wp_appN (by rfl) _ _ 23 (by rfl) HE w3.heap.size w3.heap.size w3 _ _ 0 [] (by rfl) Mk.cells (fun _ => rfl) mk_one xs b off n1 c1 HN1.out (by rfl) ((HSX.out).below (bellow_alloc _ _)) (World.ownsRow_lit w3 #[] 0 (Nat.le_refl _) (Nat.zero_le _) rfl) (by rw [HN1.out]; omega) (bellow_alloc w3 _).size (bellow_alloc w3 _) (Nat.le_refl _) ?_; intro v2 w2 hown2 hbel2 _)
      | (refine wp_appN (by rfl) _ _ 23 (by rfl) HE w3.heap.size w3.heap.size w3 _ _ _ _ (by rfl) Mk.cells (fun _ => rfl) mk_one [(⟨⟨#[47, 122, 122]⟩, 4, ⟨#[]⟩⟩ : Mk), (⟨⟨#[47, 122, 122, 47, 122]⟩, 2, ⟨#[]⟩⟩ : Mk)] _ 0 _ _ (by rfl) (by rfl) (slf_lit (fun _ => rfl) w2 #[.string ⟨#[47, 122, 122]⟩, .int .i64 4, .string ⟨#[]⟩, .string ⟨#[47, 122, 122, 47, 122]⟩, .int .i64 2, .string ⟨#[]⟩] _ _ (by rfl)) (own_below hown2 (bellow_alloc w2 _)) (by rw [HN1.out]; simp; omega) (Nat.le_trans hbel2.size (bellow_alloc w2 _).size) (hbel2.alloc hbel2.size _) (Nat.le_refl _) ?_; intro v3 w3 hown3 hbel3 _))
    obtain ⟨a7, c7, rfl, hslx⟩ := row_of (N := n1 + 2) (fun _ => rfl) hown3 (by rw [HN1.out]; simp) (by rw [List.length_append, HN1.out]; rfl)
    replace hb := chn hb hbel3
    replace HSX := Lib.hid (HSX.out.below hbel3)
    replace HX1 := Lib.hid (HX1.out.below hbel3); replace HX2 := Lib.hid (HX2.out.below hbel3)
    have HROW := Lib.hid hslx
    clear hown2 hbel2 hown3 hbel3 hslx
    have HX3 := HROW
    clear HROW
    go_upto_region 13 with (at_builtin; first
      | (refine wp_appN (by rfl) _ _ 23 (by rfl) HE w3.heap.size w3.heap.size w3 _ _ 0 [] (by rfl) Mk.cells (fun _ => rfl) mk_one xs b off n1 c1 HN1.out (by rfl) ((HSX.out).below (bellow_alloc _ _)) (World.ownsRow_lit w3 #[] 0 (Nat.le_refl _) (Nat.zero_le _) rfl) (by rw [HN1.out]; omega) (bellow_alloc w3 _).size (bellow_alloc w3 _) (Nat.le_refl _) ?_; intro v2 w2 hown2 hbel2 _)
      | (refine wp_appN (by rfl) _ _ 23 (by rfl) HE w3.heap.size w3.heap.size w3 _ _ _ _ (by rfl) Mk.cells (fun _ => rfl) mk_one xs b off n1 c1 HN1.out (by rfl) ((HSX.out).below hbel2) hown2 (by rw [HN1.out]; omega) hbel2.size hbel2 (Nat.le_refl _) ?_; intro v3 w3 hown3 hbel3 _))
    obtain ⟨a8, c8, rfl, hslx⟩ := row_of (N := n1 + n1) (fun _ => rfl) hown3 (by rw [HN1.out]; omega) (by rw [List.length_append, HN1.out])
    replace hb := chn hb hbel3
    replace HSX := Lib.hid (HSX.out.below hbel3)
    replace HX1 := Lib.hid (HX1.out.below hbel3); replace HX2 := Lib.hid (HX2.out.below hbel3); replace HX3 := Lib.hid (HX3.out.below hbel3)
    have HROW := Lib.hid hslx
    clear hown2 hbel2 hown3 hbel3 hslx
    have HX4 := HROW
    clear HROW
    have m1 : SmallM [(⟨⟨#[47, 122, 122]⟩, 3, ⟨#[]⟩⟩ : Mk), (⟨⟨#[47, 122, 122, 47, 122]⟩, 1, ⟨#[]⟩⟩ : Mk)] := fun e he => by
      simp only [List.mem_cons, List.not_mem_nil, or_false] at he
      rcases he with rfl | rfl <;> decide
    have m2 : SmallM [(⟨⟨#[47, 122, 122]⟩, 4, ⟨#[]⟩⟩ : Mk), (⟨⟨#[47, 122, 122, 47, 122]⟩, 3, ⟨#[]⟩⟩ : Mk)] := fun e he => by
      simp only [List.mem_cons, List.not_mem_nil, or_false] at he
      rcases he with rfl | rfl <;> decide
    have m3 : SmallM [(⟨⟨#[47, 122, 122]⟩, 4, ⟨#[]⟩⟩ : Mk), (⟨⟨#[47, 122, 122, 47, 122]⟩, 2, ⟨#[]⟩⟩ : Mk)] := fun e he => by
      simp only [List.mem_cons, List.not_mem_nil, or_false] at he
      rcases he with rfl | rfl <;> decide
    have HK1 := Lib.hid (fun W h => lokNo_c a5 c5 (n1 + 2) _ HBX.out W (by rw [List.length_append, HN1.out]; rfl) h (by omega) (smallA.out _ m1))
    have HK2 := Lib.hid (fun W h => lokNo_c a6 c6 (n1 + 2) _ HBY.out W (by rw [List.length_append, HN1.out]; rfl) h (by omega) (smallA.out _ m2))
    have HK3 := Lib.hid (fun W h => lokI_c a7 c7 (n1 + 2) _ rz HRZ W (by rw [List.length_append, HN1.out]; rfl) h (by omega) (smallA.out _ m3))
    have HK4 := Lib.hid (fun (h0 : n1 ≠ 0) W h => lokNo_c a8 c8 (n1 + n1) _ (HBW.out h0) W (by rw [List.length_append, HN1.out]) h (by omega) (smallA.out _ HSM.out))
    have HSE := Lib.hid (fun W (h : SlF Mk.cells W (some ⟨b, off, none⟩) xs) (h' : SlF Mk.cells W a7 (xs ++ [(⟨⟨#[47, 122, 122]⟩, 4, ⟨#[]⟩⟩ : Mk), (⟨⟨#[47, 122, 122, 47, 122]⟩, 2, ⟨#[]⟩⟩ : Mk)])) => sameM_c (some ⟨b, off, none⟩) a7 c1 c7 n1 (n1 + 2) xs _ false (Lib.hid ⟨fun h => (by cases h), fun h => (by have := congrArg List.length h; simp at this)⟩) W HN1.out (by rw [List.length_append, HN1.out]; rfl) h h' (by omega) (by omega))
    clear m1 m2 m3 HBX HBY HBW HRZ smallA
    go_wp2_with fail
    refine (HK1.out _ HX1.out).mono ?_; rintro e U1 ⟨rfl, hq⟩; replace hb := chn hb hq; replace HX2 := Lib.hid (HX2.out.below hq); replace HX3 := Lib.hid (HX3.out.below hq); replace HX4 := Lib.hid (HX4.out.below hq); replace HSX := Lib.hid (HSX.out.below hq); clear hq HK1 HX1
    go_wp2_with fail
    refine (HK2.out _ HX2.out).mono ?_; rintro e U2 ⟨rfl, hq⟩; replace hb := chn hb hq; replace HX3 := Lib.hid (HX3.out.below hq); replace HX4 := Lib.hid (HX4.out.below hq); replace HSX := Lib.hid (HSX.out.below hq); clear hq HK2 HX2
    go_wp2_with fail
    refine (HK3.out _ HX3.out).mono ?_; rintro e U3 ⟨rfl, hq⟩; replace hb := chn hb hq; replace HX3 := Lib.hid (HX3.out.below hq); replace HX4 := Lib.hid (HX4.out.below hq); replace HSX := Lib.hid (HSX.out.below hq); clear hq HK3
    cases rz with
    | true =>
      clear HBZ
      by_cases h0 : n1 = 0
      · have h0' : ((n1 : Int) == 0) = true := by rw [beq_iff_eq]; omega
        clear HK4 HX4 h0
        go_wp2_with fail
        refine (HSE.out _ HSX.out HX3.out).mono ?_; rintro e V8 ⟨rfl, hq⟩; replace hb := chn hb hq; clear hq
        go_wp2
        go_ret
        exact ⟨rfl, hb⟩
      · have h0' : ((n1 : Int) == 0) = false := by rw [beq_eq_false_iff_ne]; omega
        have HK5 := Lib.hid (HK4.out h0)
        clear HK4
        go_wp2_with fail
        refine (HK5.out _ HX4.out).mono ?_; rintro e V9 ⟨rfl, hq⟩; replace hb := chn hb hq; replace HX3 := Lib.hid (HX3.out.below hq); replace HSX := Lib.hid (HSX.out.below hq); clear hq HX4
        go_wp2_with fail
        refine (HSE.out _ HSX.out HX3.out).mono ?_; rintro e V8 ⟨rfl, hq⟩; replace hb := chn hb hq; clear hq
        go_wp2
        go_ret
        exact ⟨rfl, hb⟩
    | false =>
      have hbig2 : (32 : Int) < ((n1 + 2 : Nat) : Int) := by
        rcases Nat.lt_or_ge 32 (n1 + 2) with h3 | h3
        · omega
        · have := HBZ.out h3; cases this
      clear HBZ
      by_cases h0 : n1 = 0
      · have h0' : ((n1 : Int) == 0) = true := by rw [beq_iff_eq]; omega
        clear HK4 HX4 h0
        go_wp2_with fail
        refine (HSE.out _ HSX.out HX3.out).mono ?_; rintro e V8 ⟨rfl, hq⟩; replace hb := chn hb hq; clear hq
        go_wp2
        go_ret
        exact ⟨rfl, hb⟩
      · have h0' : ((n1 : Int) == 0) = false := by rw [beq_eq_false_iff_ne]; omega
        have HK5 := Lib.hid (HK4.out h0)
        clear HK4
        go_wp2_with fail
        refine (HK5.out _ HX4.out).mono ?_; rintro e V9 ⟨rfl, hq⟩; replace hb := chn hb hq; replace HX3 := Lib.hid (HX3.out.below hq); replace HSX := Lib.hid (HSX.out.below hq); clear hq HX4
        go_wp2_with fail
        refine (HSE.out _ HSX.out HX3.out).mono ?_; rintro e V8 ⟨rfl, hq⟩; replace hb := chn hb hq; clear hq
        go_wp2
        go_ret
        exact ⟨rfl, hb⟩
end Go.Proofs.YtobbodbkdcbflaaDoor
