/- The walks of the reference's l2Turned and TreeTurned. Conditions: lists and texts are no longer than any can be. -/
import Derived.Test.YtkhbkhibjflgmaaDoorTurn
import Derived.Test.YtkhbkhibjflgmaaDoorPutE
import Derived.Deep.Onto
namespace Go.Proofs.YtkhbkhibjflgmaaDoor
open Go.RowKit
abbrev zeroE : En := ⟨⟨#[]⟩, false, ⟨#[]⟩⟩
def optE : Option En → En
  | some e => e
  | none => zeroE
theorem optV_eq (o : Option En) : optV o = .tuple #[(optE o).val, .bool o.isSome] := by cases o <;> rfl
theorem fold_pl (xs ys : List En) : (ys.foldl (putP En.bs) xs).map En.pl = (ys.map En.pl).foldl (putP PE.p) (xs.map En.pl) := by
  induction ys generalizing xs with
  | nil => rfl
  | cons y r ih => rw [List.foldl_cons, ih, List.map_cons, List.foldl_cons, putP_map En.pl (f := En.bs) (g := PE.p) (fun _ => rfl)]
theorem fold_len2 (xs ys : List En) : (ys.foldl (putP En.bs) xs).length ≤ xs.length + ys.length := by
  induction ys generalizing xs with
  | nil => simp
  | cons y r ih =>
    rw [List.foldl_cons]
    have h1 := ih (putP En.bs xs y)
    have h2 : (putP En.bs xs y).length ≤ xs.length + 1 := by
      clear ih h1
      induction xs with
      | nil => simp [putP]
      | cons x a ih =>
        unfold putP
        split
        · simp only [List.length_cons]; omega
        · split <;> simp
    simp only [List.length_cons]; omega
/-- What is told of the first entries. -/
def diffs (xs ys : List En) (zs : List En) : List Bs := ((zs.map En.pl).filter fun e => decide (atP PE.p (xs.map En.pl) e.p ≠ atP PE.p (ys.map En.pl) e.p)).map PE.p
theorem getE_at (xs : List En) (q : ByteArray) : atP PE.p (xs.map En.pl) q.data.toList = (getE xs q).map En.pl := by rw [← getL_at]; exact getE_pl xs q
theorem pl_opt_inj {a b : Option En} (h : a.map En.pl = b.map En.pl) : a = b := by
  cases a with
  | none =>
    cases b with
    | none => rfl
    | some _ => cases h
  | some e =>
    cases b with
    | none => cases h
    | some f => rw [En.pl_inj (Option.some.inj h)]
theorem diffs_eq {xs ys zs : List En} {z : En} (h : getE xs z.p = getE ys z.p) : diffs xs ys (zs ++ [z]) = diffs xs ys zs := by
  unfold diffs
  rw [List.map_append, List.filter_append, List.map_append]
  have h1 : atP PE.p (xs.map En.pl) z.pl.p = atP PE.p (ys.map En.pl) z.pl.p := by
    show atP PE.p (xs.map En.pl) z.p.data.toList = atP PE.p (ys.map En.pl) z.p.data.toList
    rw [getE_at, getE_at, h]
  simp [h1]
theorem diffs_ne {xs ys zs : List En} {z : En} (h : getE xs z.p ≠ getE ys z.p) : diffs xs ys (zs ++ [z]) = diffs xs ys zs ++ [z.p.data.toList] := by
  unfold diffs
  rw [List.map_append, List.filter_append, List.map_append]
  have h1 : atP PE.p (xs.map En.pl) z.pl.p ≠ atP PE.p (ys.map En.pl) z.pl.p := by
    show atP PE.p (xs.map En.pl) z.p.data.toList ≠ atP PE.p (ys.map En.pl) z.p.data.toList
    rw [getE_at, getE_at]
    exact fun h2 => h (pl_opt_inj h2)
  simp [h1]; rfl
theorem take_snoc' {α : Type} {xs : List α} {k : Nat} {e : α} (he : xs[k]? = some e) : xs.take (k + 1) = xs.take k ++ [e] := by
  have h1 := List.take_succ_eq_append_getElem (l := xs) (i := k) (List.getElem?_eq_some_iff.1 he).1
  rw [(List.getElem?_eq_some_iff.1 he).2] at h1
  exact h1
/-- A slice of entries under way. -/
def ReadEn (w : World) (v : Value) (zs : List En) : Prop := ∃ b off c, v = .slice (some ⟨b, off, none⟩) zs.length c ∧ zs.length ≤ c ∧ c ≤ maxLen ∧ b < w.heap.size ∧ SlF En.cells w (some ⟨b, off, none⟩) zs
theorem made_read {ys : List En} {w : World} {e : Ending} {w' : World} (h : MadeEn ys w e w') : ∃ v, e = .returned v ∧ ReadEn w' v ys ∧ Below w.heap.size w w' := by
  obtain ⟨g, c, rfl, h1, h2, h3, h4⟩ := h
  exact ⟨_, rfl, ⟨g, 0, c, rfl, h1, h2, (h3.lt g rfl).2, own_slfEn' h3⟩, h4⟩
set_option maxRecDepth 100000 in
set_option maxHeartbeats 8000000 in
theorem l2Turned_c (b0 off0 c : Nat) (a' : Option Addr) (c' : Nat) (xs ys : List En) (w : World) (hs : SlF En.cells w (some ⟨b0, off0, none⟩) xs) (hs' : SlF En.cells w a' ys) (hb0 : b0 < w.heap.size) (hc : xs.length ≤ c) (hcm : c ≤ maxLen) (hx : TOk (xs.map En.pl)) (hy : TOk (ys.map En.pl)) :
    Calls Tryd.prog 98 #[.slice (some ⟨b0, off0, none⟩) xs.length c, .slice a' ys.length c'] w (MadeSt (turnedL (xs.map En.pl) (ys.map En.pl)) w) := by
  have HE := strElt
  have hx16 : xs.length ≤ 16 := by have := hx.most; rw [List.length_map] at this; exact this
  have hy16 : ys.length ≤ 16 := by have := hy.most; rw [List.length_map] at this; exact this
  have hx63 : xs.length ≤ maxLen := by unfold maxLen; omega
  have hy63 : ys.length ≤ maxLen := by unfold maxLen; omega
  have HL := Lib.hid (show turnedL (xs.map En.pl) (ys.map En.pl) = diffs xs ys (ys.foldl (putP En.bs) xs) by unfold turnedL diffs; rw [fold_pl])
  obtain ⟨L, hL⟩ : ∃ L, turnedL (xs.map En.pl) (ys.map En.pl) = L := ⟨_, rfl⟩
  have HLL := Lib.hid (hL.symm.trans HL.out)
  have HG := fun (q : ByteArray) (o : Option En) (ho : Hid (lgetE xs q = o)) W (h : SlF En.cells W (some ⟨b0, off0, none⟩) xs) => Lib.hid ((l2Get_c (some ⟨b0, off0, none⟩) c xs q o ho W h hx63).mono fun _ _ ⟨h1, h2⟩ => (⟨h1.trans (by rw [optV_eq]), h2⟩ : _ = Ending.returned (.tuple #[(optE o).val, .bool o.isSome]) ∧ _))
  have HG' := fun (q : ByteArray) (o : Option En) (ho : Hid (lgetE ys q = o)) W (h : SlF En.cells W a' ys) => Lib.hid ((l2Get_c a' c' ys q o ho W h hy63).mono fun _ _ ⟨h1, h2⟩ => (⟨h1.trans (by rw [optV_eq]), h2⟩ : _ = Ending.returned (.tuple #[(optE o).val, .bool o.isSome]) ∧ _))
  have HZP : Hid (∀ z ∈ ys.foldl (putP En.bs) xs, z.p.data.toList ≠ [47]) := fun z hz hr => by
    have h1 : z.pl ∈ (ys.map En.pl).foldl (putP PE.p) (xs.map En.pl) := by rw [← fold_pl]; exact List.mem_map.2 ⟨z, hz, rfl⟩
    rcases (mem_fold hy.ordP.dis hx.ordP z.pl).1 h1 with h2 | ⟨h2, _⟩
    · have := hy.pth h2; rw [show z.pl.p = [47] from hr, root_no] at this; cases this
    · have := hx.pth h2; rw [show z.pl.p = [47] from hr, root_no] at this; cases this
  have HS := Lib.hid hs
  have HS' := Lib.hid hs'
  have HR0 : Hid (ReadEn w (.slice (some ⟨b0, off0, none⟩) xs.length c) xs) := ⟨b0, off0, c, rfl, hc, hcm, hb0, hs⟩
  rw [hL]
  obtain ⟨n, hn⟩ : ∃ n, xs.length = n := ⟨_, rfl⟩
  obtain ⟨n', hn'⟩ : ∃ n, ys.length = n := ⟨_, rfl⟩
  have HN := Lib.hid hn
  have HN' := Lib.hid hn'
  rw [hn] at HG HR0 hx16 ⊢
  rw [hn'] at HG' hy16 ⊢
  have GG := Lib.hid HG
  have GG' := Lib.hid HG'
  clear hn hn' hL hs hs' HG HG' hx hy hx63 hy63 hc hcm HL
  go_enter Tryd.func98, Tryd.ntmps98
  go_wp2
  go_loopw [5, 6] (fun v i wr => ∃ k : Nat, k ≤ n' ∧ i = .int .i64 k ∧ ReadEn wr v ((ys.take k).foldl (putP En.bs) xs) ∧ Below w.heap.size w wr) (fun _ i _ => n' - (intOf i).toNat)
  case atStart => exact ⟨0, Nat.zero_le _, rfl, HR0.out, Below.refl _ _⟩
  case round =>
    obtain ⟨k, hk, rfl, hrd, hb⟩ := hrel
    by_cases hlt : k < n'
    · obtain ⟨f, hff⟩ : ∃ f, ys[k]? = some f := ⟨_, List.getElem?_eq_getElem (by rw [HN'.out]; exact hlt)⟩
      have hsw' := HS'.out.below hb
      obtain ⟨b', off', rfl, _⟩ := hsw'.addr (by rw [HN'.out]; omega)
      obtain ⟨g0, g1, g2⟩ := en_at hsw' k f hff
      obtain ⟨b, off, cz, rfl, hz1, hz2, hz3, hsz⟩ := hrd
      obtain ⟨zs, hzs⟩ : ∃ zs, (ys.take k).foldl (putP En.bs) xs = zs := ⟨_, rfl⟩
      rw [hzs] at hz1 hsz ⊢
      have HZN : Hid ((ys.take (k + 1)).foldl (putP En.bs) xs = putP En.bs zs f) := by rw [Hid, take_snoc' hff, List.foldl_append, hzs]; rfl
      have hzl : zs.length ≤ 1000000 := by
        have h1 := fold_len2 xs (ys.take k)
        rw [hzs, HN.out, List.length_take, HN'.out] at h1
        omega
      have HP := Lib.hid (l2Put_c b off cz zs f _ (Lib.hid rfl) wr hsz hz3 hzl hz1 hz2)
      obtain ⟨m, hm⟩ : ∃ m, zs.length = m := ⟨_, rfl⟩
      rw [hm] at HP ⊢
      clear hzs hz1 hz2 hz3 hzl hsz hm hff hsw'
      go_wp2_with fail
      refine HP.out.mono ?_
      intro e W hmade
      obtain ⟨v, rfl, hrd, hq⟩ := made_read hmade
      rw [← HZN.out] at hrd
      replace hb := chn hb hq
      clear hmade hq
      go_wp2
      go_roundw
      case rel => exact ⟨k + 1, by omega, by go_num, hrd, hb⟩
      case measure => simp [intOf]; omega
    · obtain rfl : k = n' := by omega
      obtain ⟨b, off, cz, rfl, hz1, hz2, hz3, hsz⟩ := hrd
      have hall : ys.take k = ys := by rw [← HN'.out, List.take_length]
      rw [hall] at hz1 hsz ⊢
      obtain ⟨zs, hzs⟩ : ∃ zs, ys.foldl (putP En.bs) xs = zs := ⟨_, rfl⟩
      have HZS := Lib.hid hzs
      rw [hzs] at hz1 hsz HLL HZP ⊢
      have hzl : zs.length ≤ 32 := by
        have h1 := fold_len2 xs ys
        rw [hzs, HN.out, HN'.out] at h1
        omega
      obtain ⟨m, hm⟩ : ∃ m, zs.length = m := ⟨_, rfl⟩
      have HM := Lib.hid hm
      rw [hm] at hz1 hzl ⊢
      have HSZ := Lib.hid hsz
      have HB0 := Lib.hid hb
      have HALLZ : Hid (zs.take m = zs) := by rw [Hid, ← hm, List.take_length]
      clear hzs hm hsz hall hb
      obtain ⟨wo, hwo⟩ : ∃ wo : World, wo = wr := ⟨_, rfl⟩
      subst hwo
      go_wp2
      go_loopw [7, 8, 9, 10, 11, 12] (fun v i _ _ _ _ wr => ∃ (k : Nat) (ss : List ByteArray), k ≤ m ∧ ss.length ≤ k ∧ i = .int .i64 k ∧ ss.map (·.data.toList) = diffs xs ys (zs.take k) ∧ wr.ownsRow wo.heap.size 9 1 v ss.length (ss.map Value.string) ∧ Below wo.heap.size wo wr) (fun _ i _ _ _ _ _ => m - (intOf i).toNat)
      case atStart => exact ⟨0, [], Nat.zero_le _, Nat.zero_le _, rfl, rfl, World.ownsRow_lit _ #[] 0 (Nat.le_refl _) (Nat.zero_le _) rfl, bellow_alloc _ _⟩
      case round =>
        clear hb0
        obtain ⟨k, ss, hk, hsl, rfl, hss, hown, hbo⟩ := hrel
        have hb := HB0.out.trans (hbo.mono HB0.out.size)
        have HSS := Lib.hid hss
        clear hss
        by_cases hlt : k < m
        · obtain ⟨z, hzz⟩ : ∃ z, zs[k]? = some z := ⟨_, List.getElem?_eq_getElem (by rw [HM.out]; exact hlt)⟩
          have hsz := HSZ.out.below hbo
          obtain ⟨d0, _, _⟩ := en_at hsz k z hzz
          have hzr := HZP.out z (List.mem_of_getElem? hzz)
          have HTK := Lib.hid (take_snoc' hzz)
          obtain ⟨zp, zd, zx⟩ := z
          obtain ⟨o1, ho1⟩ : ∃ o, getE xs zp = o := ⟨_, rfl⟩
          obtain ⟨o2, ho2⟩ : ∃ o, getE ys zp = o := ⟨_, rfl⟩
          have HQ1 : Hid (lgetE xs zp = o1) := by rw [Hid, lgetE, if_neg hzr]; exact ho1
          have HQ2 : Hid (lgetE ys zp = o2) := by rw [Hid, lgetE, if_neg hzr]; exact ho2
          have HH1 := Lib.hid ho1
          have HH2 := Lib.hid ho2
          have HA1 := GG.out zp o1 HQ1
          have HA2 := GG'.out zp o2 HQ2
          obtain ⟨⟨p1, dd1, x1⟩, hE1⟩ : ∃ e, optE o1 = e := ⟨_, rfl⟩
          obtain ⟨⟨p2, dd2, x2⟩, hE2⟩ : ∃ e, optE o2 = e := ⟨_, rfl⟩
          obtain ⟨s1, hs1⟩ : ∃ s, o1.isSome = s := ⟨_, rfl⟩
          obtain ⟨s2, hs2⟩ : ∃ s, o2.isSome = s := ⟨_, rfl⟩
          rw [hE1, hs1] at HA1
          rw [hE2, hs2] at HA2
          have GA1 := Lib.hid HA1
          have GA2 := Lib.hid HA2
          have HEQ : Hid ((s1 = s2 ∧ p1 = p2 ∧ dd1 = dd2 ∧ x1 = x2) ↔ o1 = o2) := by
            rw [Hid, ← hs1, ← hs2]
            constructor
            · rintro ⟨h1, h2, h3, h4⟩
              cases o1 with
              | none =>
                cases o2 with
                | none => rfl
                | some _ => cases h1
              | some e =>
                cases o2 with
                | none => cases h1
                | some f =>
                  have e1 : e = ⟨p1, dd1, x1⟩ := hE1
                  have e2 : f = ⟨p2, dd2, x2⟩ := hE2
                  rw [e1, e2, h2, h3, h4]
            · rintro rfl
              have := hE1.symm.trans hE2
              injection this with h1 h2 h3
              exact ⟨rfl, h1, h2, h3⟩
          clear hzr hzz ho1 ho2 hE1 hE2 hs1 hs2 HA1 HA2 hsz
          by_cases heq : o1 = o2
          · obtain ⟨rfl, rfl, rfl, rfl⟩ := HEQ.out.2 heq
            have HSN : Hid (diffs xs ys (zs.take (k + 1)) = diffs xs ys (zs.take k)) := by rw [Hid, HTK.out]; exact diffs_eq (HH1.out.trans (heq.trans HH2.out.symm))
            clear heq HEQ
            go_wp2_with fail
            refine (GA1.out _ (HS.out.below hb)).out.mono ?_; rintro e W ⟨rfl, hq⟩; replace hb := chn hb hq; replace hbo := chn hbo hq; replace hown := own_below hown hq; replace d0 := keepc hq d0; clear hq
            have a0 := new_cell W #[.string p1, .bool dd1, .string x1] 30 0 (.string p1) rfl
            have a1 := new_cell W #[.string p1, .bool dd1, .string x1] 30 1 (.bool dd1) rfl
            have a2 := new_cell W #[.string p1, .bool dd1, .string x1] 30 2 (.string x1) rfl
            replace hown := own_below hown (bellow_alloc _ (.cells #[.string p1, .bool dd1, .string x1] 30)); replace hbo := chn hbo (bellow_alloc _ (.cells #[.string p1, .bool dd1, .string x1] 30))
            replace hb := hb.alloc hb.size (.cells #[.string p1, .bool dd1, .string x1] 30); replace d0 := keepc (bellow_alloc _ (.cells #[.string p1, .bool dd1, .string x1] 30)) d0; 
            go_wp2_with fail
            refine (GA2.out _ (HS'.out.below hb)).out.mono ?_; rintro e W2 ⟨rfl, hq⟩; replace hb := chn hb hq; replace hbo := chn hbo hq; replace hown := own_below hown hq; replace d0 := keepc hq d0; replace a0 := keepc hq a0; replace a1 := keepc hq a1; replace a2 := keepc hq a2; clear hq
            replace hown := own_below hown (bellow_alloc _ (.cells #[.string p1, .bool dd1, .string x1] 30)); replace hbo := chn hbo (bellow_alloc _ (.cells #[.string p1, .bool dd1, .string x1] 30))
            replace hb := hb.alloc hb.size (.cells #[.string p1, .bool dd1, .string x1] 30); replace d0 := keepc (bellow_alloc _ (.cells #[.string p1, .bool dd1, .string x1] 30)) d0; replace a0 := keepc (bellow_alloc _ (.cells #[.string p1, .bool dd1, .string x1] 30)) a0; replace a1 := keepc (bellow_alloc _ (.cells #[.string p1, .bool dd1, .string x1] 30)) a1; replace a2 := keepc (bellow_alloc _ (.cells #[.string p1, .bool dd1, .string x1] 30)) a2; 
            go_wp2
            go_roundw
            case rel => exact ⟨k + 1, ss, by omega, by omega, by go_num, by rw [HSN.out]; exact HSS.out, hown, hbo⟩
            case measure => simp [intOf]; omega
          · have HSN : Hid (diffs xs ys (zs.take (k + 1)) = diffs xs ys (zs.take k) ++ [zp.data.toList]) := by rw [Hid, HTK.out]; exact diffs_ne (fun h => heq (HH1.out.symm.trans (h.trans HH2.out)))
            have HNE := Lib.hid (fun h => heq (HEQ.out.1 h))
            clear heq HEQ
            by_cases e1 : s1 = s2
            · subst e1
              by_cases e2 : p1 = p2
              · subst e2
                by_cases e3 : dd1 = dd2
                · subst e3
                  have q := bq_no (s := x1) (t := x2) (fun h => HNE.out ⟨rfl, rfl, rfl, h⟩)
                  go_wp2_with fail
                  refine (GA1.out _ (HS.out.below hb)).out.mono ?_; rintro e W ⟨rfl, hq⟩; replace hb := chn hb hq; replace hbo := chn hbo hq; replace hown := own_below hown hq; replace d0 := keepc hq d0; clear hq
                  have a0 := new_cell W #[.string p1, .bool dd1, .string x1] 30 0 (.string p1) rfl
                  have a1 := new_cell W #[.string p1, .bool dd1, .string x1] 30 1 (.bool dd1) rfl
                  have a2 := new_cell W #[.string p1, .bool dd1, .string x1] 30 2 (.string x1) rfl
                  replace hown := own_below hown (bellow_alloc _ (.cells #[.string p1, .bool dd1, .string x1] 30)); replace hbo := chn hbo (bellow_alloc _ (.cells #[.string p1, .bool dd1, .string x1] 30))
                  replace hb := hb.alloc hb.size (.cells #[.string p1, .bool dd1, .string x1] 30); replace d0 := keepc (bellow_alloc _ (.cells #[.string p1, .bool dd1, .string x1] 30)) d0; 
                  go_wp2_with fail
                  refine (GA2.out _ (HS'.out.below hb)).out.mono ?_; rintro e W2 ⟨rfl, hq⟩; replace hb := chn hb hq; replace hbo := chn hbo hq; replace hown := own_below hown hq; replace d0 := keepc hq d0; replace a0 := keepc hq a0; replace a1 := keepc hq a1; replace a2 := keepc hq a2; clear hq
                  replace hown := own_below hown (bellow_alloc _ (.cells #[.string p1, .bool dd1, .string x2] 30)); replace hbo := chn hbo (bellow_alloc _ (.cells #[.string p1, .bool dd1, .string x2] 30))
                  replace hb := hb.alloc hb.size (.cells #[.string p1, .bool dd1, .string x2] 30); replace d0 := keepc (bellow_alloc _ (.cells #[.string p1, .bool dd1, .string x2] 30)) d0; replace a0 := keepc (bellow_alloc _ (.cells #[.string p1, .bool dd1, .string x2] 30)) a0; replace a1 := keepc (bellow_alloc _ (.cells #[.string p1, .bool dd1, .string x2] 30)) a1; replace a2 := keepc (bellow_alloc _ (.cells #[.string p1, .bool dd1, .string x2] 30)) a2; 
                  go_wp2_with (at_builtin; go_must (refine wp_app1H (by rfl) _ _ 55 (by rfl) HE wo.heap.size wo.heap.size wo _ #[.string zp] _ _ _ (by rfl) (W2.heap.size + 1) (by simp) (by rfl) hown (by rfl) (by simp [Value.oneCell']) (by omega) hbo.size hbo (Nat.le_refl _) ?_); intro v' w1 hown1 hbel1 _ _)
                  go_roundw
                  case rel => exact ⟨k + 1, ss ++ [zp], by omega, by simp; omega, by go_num, by rw [List.map_append, HSS.out, HSN.out]; rfl, by simpa using hown1, hbel1⟩
                  case measure => simp [intOf]; omega
                · have q : (dd1 == dd2) = false := by rw [beq_eq_false_iff_ne]; exact e3
                  clear e3
                  go_wp2_with fail
                  refine (GA1.out _ (HS.out.below hb)).out.mono ?_; rintro e W ⟨rfl, hq⟩; replace hb := chn hb hq; replace hbo := chn hbo hq; replace hown := own_below hown hq; replace d0 := keepc hq d0; clear hq
                  have a0 := new_cell W #[.string p1, .bool dd1, .string x1] 30 0 (.string p1) rfl
                  have a1 := new_cell W #[.string p1, .bool dd1, .string x1] 30 1 (.bool dd1) rfl
                  have a2 := new_cell W #[.string p1, .bool dd1, .string x1] 30 2 (.string x1) rfl
                  replace hown := own_below hown (bellow_alloc _ (.cells #[.string p1, .bool dd1, .string x1] 30)); replace hbo := chn hbo (bellow_alloc _ (.cells #[.string p1, .bool dd1, .string x1] 30))
                  replace hb := hb.alloc hb.size (.cells #[.string p1, .bool dd1, .string x1] 30); replace d0 := keepc (bellow_alloc _ (.cells #[.string p1, .bool dd1, .string x1] 30)) d0; 
                  go_wp2_with fail
                  refine (GA2.out _ (HS'.out.below hb)).out.mono ?_; rintro e W2 ⟨rfl, hq⟩; replace hb := chn hb hq; replace hbo := chn hbo hq; replace hown := own_below hown hq; replace d0 := keepc hq d0; replace a0 := keepc hq a0; replace a1 := keepc hq a1; replace a2 := keepc hq a2; clear hq
                  replace hown := own_below hown (bellow_alloc _ (.cells #[.string p1, .bool dd2, .string x2] 30)); replace hbo := chn hbo (bellow_alloc _ (.cells #[.string p1, .bool dd2, .string x2] 30))
                  replace hb := hb.alloc hb.size (.cells #[.string p1, .bool dd2, .string x2] 30); replace d0 := keepc (bellow_alloc _ (.cells #[.string p1, .bool dd2, .string x2] 30)) d0; replace a0 := keepc (bellow_alloc _ (.cells #[.string p1, .bool dd2, .string x2] 30)) a0; replace a1 := keepc (bellow_alloc _ (.cells #[.string p1, .bool dd2, .string x2] 30)) a1; replace a2 := keepc (bellow_alloc _ (.cells #[.string p1, .bool dd2, .string x2] 30)) a2; 
                  go_wp2_with (at_builtin; go_must (refine wp_app1H (by rfl) _ _ 55 (by rfl) HE wo.heap.size wo.heap.size wo _ #[.string zp] _ _ _ (by rfl) (W2.heap.size + 1) (by simp) (by rfl) hown (by rfl) (by simp [Value.oneCell']) (by omega) hbo.size hbo (Nat.le_refl _) ?_); intro v' w1 hown1 hbel1 _ _)
                  go_roundw
                  case rel => exact ⟨k + 1, ss ++ [zp], by omega, by simp; omega, by go_num, by rw [List.map_append, HSS.out, HSN.out]; rfl, by simpa using hown1, hbel1⟩
                  case measure => simp [intOf]; omega
              · have q := bq_no e2
                clear e2
                go_wp2_with fail
                refine (GA1.out _ (HS.out.below hb)).out.mono ?_; rintro e W ⟨rfl, hq⟩; replace hb := chn hb hq; replace hbo := chn hbo hq; replace hown := own_below hown hq; replace d0 := keepc hq d0; clear hq
                have a0 := new_cell W #[.string p1, .bool dd1, .string x1] 30 0 (.string p1) rfl
                have a1 := new_cell W #[.string p1, .bool dd1, .string x1] 30 1 (.bool dd1) rfl
                have a2 := new_cell W #[.string p1, .bool dd1, .string x1] 30 2 (.string x1) rfl
                replace hown := own_below hown (bellow_alloc _ (.cells #[.string p1, .bool dd1, .string x1] 30)); replace hbo := chn hbo (bellow_alloc _ (.cells #[.string p1, .bool dd1, .string x1] 30))
                replace hb := hb.alloc hb.size (.cells #[.string p1, .bool dd1, .string x1] 30); replace d0 := keepc (bellow_alloc _ (.cells #[.string p1, .bool dd1, .string x1] 30)) d0; 
                go_wp2_with fail
                refine (GA2.out _ (HS'.out.below hb)).out.mono ?_; rintro e W2 ⟨rfl, hq⟩; replace hb := chn hb hq; replace hbo := chn hbo hq; replace hown := own_below hown hq; replace d0 := keepc hq d0; replace a0 := keepc hq a0; replace a1 := keepc hq a1; replace a2 := keepc hq a2; clear hq
                replace hown := own_below hown (bellow_alloc _ (.cells #[.string p2, .bool dd2, .string x2] 30)); replace hbo := chn hbo (bellow_alloc _ (.cells #[.string p2, .bool dd2, .string x2] 30))
                replace hb := hb.alloc hb.size (.cells #[.string p2, .bool dd2, .string x2] 30); replace d0 := keepc (bellow_alloc _ (.cells #[.string p2, .bool dd2, .string x2] 30)) d0; replace a0 := keepc (bellow_alloc _ (.cells #[.string p2, .bool dd2, .string x2] 30)) a0; replace a1 := keepc (bellow_alloc _ (.cells #[.string p2, .bool dd2, .string x2] 30)) a1; replace a2 := keepc (bellow_alloc _ (.cells #[.string p2, .bool dd2, .string x2] 30)) a2; 
                go_wp2_with (at_builtin; go_must (refine wp_app1H (by rfl) _ _ 55 (by rfl) HE wo.heap.size wo.heap.size wo _ #[.string zp] _ _ _ (by rfl) (W2.heap.size + 1) (by simp) (by rfl) hown (by rfl) (by simp [Value.oneCell']) (by omega) hbo.size hbo (Nat.le_refl _) ?_); intro v' w1 hown1 hbel1 _ _)
                go_roundw
                case rel => exact ⟨k + 1, ss ++ [zp], by omega, by simp; omega, by go_num, by rw [List.map_append, HSS.out, HSN.out]; rfl, by simpa using hown1, hbel1⟩
                case measure => simp [intOf]; omega
            · cases s1
              · cases s2
                · exact absurd rfl e1
                · clear e1
                  go_wp2_with fail
                  refine (GA1.out _ (HS.out.below hb)).out.mono ?_; rintro e W ⟨rfl, hq⟩; replace hb := chn hb hq; replace hbo := chn hbo hq; replace hown := own_below hown hq; replace d0 := keepc hq d0; clear hq
                  have a0 := new_cell W #[.string p1, .bool dd1, .string x1] 30 0 (.string p1) rfl
                  have a1 := new_cell W #[.string p1, .bool dd1, .string x1] 30 1 (.bool dd1) rfl
                  have a2 := new_cell W #[.string p1, .bool dd1, .string x1] 30 2 (.string x1) rfl
                  replace hown := own_below hown (bellow_alloc _ (.cells #[.string p1, .bool dd1, .string x1] 30)); replace hbo := chn hbo (bellow_alloc _ (.cells #[.string p1, .bool dd1, .string x1] 30))
                  replace hb := hb.alloc hb.size (.cells #[.string p1, .bool dd1, .string x1] 30); replace d0 := keepc (bellow_alloc _ (.cells #[.string p1, .bool dd1, .string x1] 30)) d0; 
                  go_wp2_with fail
                  refine (GA2.out _ (HS'.out.below hb)).out.mono ?_; rintro e W2 ⟨rfl, hq⟩; replace hb := chn hb hq; replace hbo := chn hbo hq; replace hown := own_below hown hq; replace d0 := keepc hq d0; replace a0 := keepc hq a0; replace a1 := keepc hq a1; replace a2 := keepc hq a2; clear hq
                  replace hown := own_below hown (bellow_alloc _ (.cells #[.string p2, .bool dd2, .string x2] 30)); replace hbo := chn hbo (bellow_alloc _ (.cells #[.string p2, .bool dd2, .string x2] 30))
                  replace hb := hb.alloc hb.size (.cells #[.string p2, .bool dd2, .string x2] 30); replace d0 := keepc (bellow_alloc _ (.cells #[.string p2, .bool dd2, .string x2] 30)) d0; replace a0 := keepc (bellow_alloc _ (.cells #[.string p2, .bool dd2, .string x2] 30)) a0; replace a1 := keepc (bellow_alloc _ (.cells #[.string p2, .bool dd2, .string x2] 30)) a1; replace a2 := keepc (bellow_alloc _ (.cells #[.string p2, .bool dd2, .string x2] 30)) a2; 
                  go_wp2_with (at_builtin; go_must (refine wp_app1H (by rfl) _ _ 55 (by rfl) HE wo.heap.size wo.heap.size wo _ #[.string zp] _ _ _ (by rfl) (W2.heap.size + 1) (by simp) (by rfl) hown (by rfl) (by simp [Value.oneCell']) (by omega) hbo.size hbo (Nat.le_refl _) ?_); intro v' w1 hown1 hbel1 _ _)
                  go_roundw
                  case rel => exact ⟨k + 1, ss ++ [zp], by omega, by simp; omega, by go_num, by rw [List.map_append, HSS.out, HSN.out]; rfl, by simpa using hown1, hbel1⟩
                  case measure => simp [intOf]; omega
              · cases s2
                · clear e1
                  go_wp2_with fail
                  refine (GA1.out _ (HS.out.below hb)).out.mono ?_; rintro e W ⟨rfl, hq⟩; replace hb := chn hb hq; replace hbo := chn hbo hq; replace hown := own_below hown hq; replace d0 := keepc hq d0; clear hq
                  have a0 := new_cell W #[.string p1, .bool dd1, .string x1] 30 0 (.string p1) rfl
                  have a1 := new_cell W #[.string p1, .bool dd1, .string x1] 30 1 (.bool dd1) rfl
                  have a2 := new_cell W #[.string p1, .bool dd1, .string x1] 30 2 (.string x1) rfl
                  replace hown := own_below hown (bellow_alloc _ (.cells #[.string p1, .bool dd1, .string x1] 30)); replace hbo := chn hbo (bellow_alloc _ (.cells #[.string p1, .bool dd1, .string x1] 30))
                  replace hb := hb.alloc hb.size (.cells #[.string p1, .bool dd1, .string x1] 30); replace d0 := keepc (bellow_alloc _ (.cells #[.string p1, .bool dd1, .string x1] 30)) d0; 
                  go_wp2_with fail
                  refine (GA2.out _ (HS'.out.below hb)).out.mono ?_; rintro e W2 ⟨rfl, hq⟩; replace hb := chn hb hq; replace hbo := chn hbo hq; replace hown := own_below hown hq; replace d0 := keepc hq d0; replace a0 := keepc hq a0; replace a1 := keepc hq a1; replace a2 := keepc hq a2; clear hq
                  replace hown := own_below hown (bellow_alloc _ (.cells #[.string p2, .bool dd2, .string x2] 30)); replace hbo := chn hbo (bellow_alloc _ (.cells #[.string p2, .bool dd2, .string x2] 30))
                  replace hb := hb.alloc hb.size (.cells #[.string p2, .bool dd2, .string x2] 30); replace d0 := keepc (bellow_alloc _ (.cells #[.string p2, .bool dd2, .string x2] 30)) d0; replace a0 := keepc (bellow_alloc _ (.cells #[.string p2, .bool dd2, .string x2] 30)) a0; replace a1 := keepc (bellow_alloc _ (.cells #[.string p2, .bool dd2, .string x2] 30)) a1; replace a2 := keepc (bellow_alloc _ (.cells #[.string p2, .bool dd2, .string x2] 30)) a2; 
                  go_wp2_with (at_builtin; go_must (refine wp_app1H (by rfl) _ _ 55 (by rfl) HE wo.heap.size wo.heap.size wo _ #[.string zp] _ _ _ (by rfl) (W2.heap.size + 1) (by simp) (by rfl) hown (by rfl) (by simp [Value.oneCell']) (by omega) hbo.size hbo (Nat.le_refl _) ?_); intro v' w1 hown1 hbel1 _ _)
                  go_roundw
                  case rel => exact ⟨k + 1, ss ++ [zp], by omega, by simp; omega, by go_num, by rw [List.map_append, HSS.out, HSN.out]; rfl, by simpa using hown1, hbel1⟩
                  case measure => simp [intOf]; omega
                · exact absurd rfl e1
        · obtain rfl : k = m := by omega
          have HF : Hid (ss.map (·.data.toList) = L) := by rw [Hid, HSS.out, HALLZ.out, HLL.out]
          go_wp2
          go_ret
          exact ⟨_, ss, rfl, HF.out, hown.mono HB0.out.size, hb⟩
end Go.Proofs.YtkhbkhibjflgmaaDoor
