/- The walk of the exact law of TreeList. Conditions: lists and texts are no longer than any can be. -/
import Derived.Test.YtkhbkhibjflgmaaDoorExactT
import Derived.Test.YtkhbkhibjflgmaaDoorMarkS
import Derived.Test.YtkhbkhibjflgmaaDoorTreeL
namespace Go.Proofs.YtkhbkhibjflgmaaDoor
open Go.RowKit
theorem map_data_inj : ∀ {a b : List ByteArray}, a.map (·.data.toList) = b.map (·.data.toList) → a = b
  | [], [], _ => rfl
  | [], _ :: _, h => by simp at h
  | _ :: _, [], h => by simp at h
  | x :: a, y :: b, h => by
    simp only [List.map_cons, List.cons.injEq] at h
    rw [bytes_eq h.1, map_data_inj h.2]
/-- A row whose block is not the one that grew. -/
theorem own_kept {w w' : World} {B : Nat} {e : TypeId} {size : Nat} {v : Value} {n : Nat} {xs : List Value} {own : Option Nat} (h : w.ownsRow B e size v n xs) (hg : w.grownBy w' own) (hne : ∀ k, v.ownBlock = some k → own ≠ some k) : w'.ownsRow B e size v n xs := by
  refine h.kept hg ?_
  cases ho : v.ownBlock with
  | none => exact .inl rfl
  | some k => exact .inr fun e => hne k ho e.symm
theorem below_grown {w0 w w' : World} {B : Nat} {own : Option Nat} (h : Below B w0 w) (hB : B ≤ w.heap.size) (hg : w.grownBy w' own) (ho : ∀ k, own = some k → B ≤ k) : Below B w0 w' := h.grown hg hB ho
theorem toEntS_d (a : Option Addr) (c : Nat) (xs : List En) (w : World) (hs : SlF En.cells w a xs) (hn : xs.length ≤ 2000000) :
    Calls Tryd.prog 21 #[.slice a xs.length c] w fun r w' => r = .returned (.slice (some ⟨w.heap.size, 0, none⟩) xs.length xs.length) ∧ w'.ownsRow w.heap.size 30 3 (.slice (some ⟨w.heap.size, 0, none⟩) xs.length xs.length) xs.length (xs.flatMap En.cells) ∧ SlF En.cells w' (some ⟨w.heap.size, 0, none⟩) xs ∧ Below w.heap.size w w' :=
  (toEntS_c a c xs w hs hn).mono fun _ _ ⟨h1, h2, h3⟩ => ⟨h1, h2, own_slfEn h2, h3⟩
set_option maxRecDepth 100000 in
set_option maxHeartbeats 8000000 in
theorem exactTreeList_w (a : Option Addr) (c : Nat) (xs : List En) (q : ByteArray) (w : World) (hs : SlF En.cells w a xs) (hx : xs.length ≤ maxLen) (hz : ∀ e ∈ xs, e.p.size ≤ maxLen ∧ e.x.size ≤ maxLen) (hq0 : q.size ≤ maxLen) :
    Calls Tryd.prog 10 #[.slice a xs.length c, .string q] w (TrueS w) := by
  have hb := Below.refl w.heap.size w
  unfold maxLen at hq0
  by_cases hq1 : 1048576 < q.size
  · clear hs hx hz
    go_enter Tryd.func10, Tryd.ntmps10
    go_wp2
    go_ret
    exact ⟨rfl, hb⟩
  have hqm : q.size ≤ maxLen := by unfold maxLen; omega
  by_cases h1 : 1048576 < (xs.length : Int) + sumW enW xs
  · have H := Lib.hid (szEntS_no a c xs 1048576 (by omega) (by omega) h1 w hs hx hz)
    obtain ⟨n, hn⟩ : ∃ n, xs.length = n := ⟨_, rfl⟩
    rw [hn] at H ⊢
    clear hn hs hx hz h1
    go_enter Tryd.func10, Tryd.ntmps10
    go_wp2_with fail
    refine (H.out).mono ?_; rintro e W ⟨rfl, hq⟩; replace hb := chn hb hq; clear hq
    go_wp2
    go_ret
    exact ⟨rfl, hb⟩
  have hl1 : (xs.length : Int) + sumW enW xs ≤ 1048576 := by omega
  have H1 := Lib.hid (szEntS_yes a c xs 1048576 (by omega) hl1 w hs)
  obtain ⟨l2, hl2⟩ : ∃ l2 : Int, (1048576 : Int) - xs.length - sumW enW xs = l2 := ⟨_, rfl⟩
  rw [hl2] at H1
  have hl20 : 0 ≤ l2 := by omega
  have hxn : xs.length ≤ 2000000 := by omega
  have hxm : xs.length ≤ 1048576 := by omega
  obtain ⟨mc, hmc⟩ : ∃ m, tlistC (xs.map En.pl) q.data.toList = m := ⟨_, rfl⟩
  obtain ⟨L, hL⟩ : ∃ L, tlistL (xs.map En.pl) q.data.toList = L := ⟨_, rfl⟩
  have hll : L.length ≤ 1048576 := by
    rw [← hL]; unfold tlistL
    split
    · have := kids_len (xs.map En.pl) q.data.toList; rw [List.length_map] at this; omega
    · simp
  have hT := fun W (h : SlF En.cells W a xs) => Lib.hid (toEntS_b a c xs W h hxn)
  have hT3 := fun W (h : SlF En.cells W a xs) => Lib.hid (toEntS_d a c xs W h hxn)
  have hSs := fun W a (h : SlF En.cells W a xs) => Lib.hid (sTreeList_c a xs.length xs q W h hx (Nat.le_refl _) hqm hz)
  have hSi := fun W a c (h : SlF En.cells W a xs) => Lib.hid (treeList_c a c xs q W h hx hqm hz)
  have hE := fun W a a' c c' (h : SlF En.cells W a xs) (h' : SlF En.cells W a' xs) => Lib.hid (eqEntS_c a a' c c' xs xs true (Lib.hid ⟨fun _ => rfl, fun _ => rfl⟩) W h h' hx hx)
  obtain ⟨n, hn⟩ : ∃ n, xs.length = n := ⟨_, rfl⟩
  rw [hmc, hL] at hSs hSi
  rw [hn] at H1 hT hT3 hSs hSi hE hxn ⊢
  have GT := Lib.hid hT
  have GT3 := Lib.hid hT3
  have GS := Lib.hid hSs
  have GI := Lib.hid hSi
  have GE := Lib.hid hE
  have HS := Lib.hid hs
  have HLL := Lib.hid hll
  have HQS := fun (a a' : Option Addr) (c c' n : Nat) (ss : List ByteArray) (hn : ss.length = n) (hx : n ≤ 2000000) => Lib.hid (fun (W : World) (h : SlS W a ss) (h' : SlS W a' ss) => eqStringS_c a a' c c' n ss hn W h h' hx)
  have GQS := Lib.hid HQS
  clear hn hx hz h1 hl1 hl2 hT hT3 hSs hSi hE hs hmc hL hll HQS hqm
  go_enter Tryd.func10, Tryd.ntmps10
  go_wp2_with fail
  refine (H1.out).mono ?_; rintro e W ⟨rfl, hq⟩; replace hb := chn hb hq; clear hq
  go_wp2_with fail
  refine ((GT.out _ (HS.out.below hb)).out).mono ?_; rintro e W ⟨rfl, y0, hq⟩; replace hb := chn hb hq; clear hq
  go_wp2_with fail
  refine (GS.out _ _ y0).out.mono ?_
  rintro e W1 ⟨vs, ss, rfl, hss, oS, hq⟩
  obtain ⟨av, cs, rfl⟩ := own_shape oS
  replace hb := chn hb hq
  have HSS := Lib.hid hss
  have hpl : ss.length ≤ 1048576 := by have := congrArg List.length hss; rw [List.length_map] at this; rw [this]; exact HLL.out
  obtain ⟨p, hp⟩ : ∃ p, ss.length = p := ⟨_, rfl⟩
  rw [hp] at oS hpl ⊢
  have HP := Lib.hid hp
  have HB1 := Lib.hid hb.size
  have OS := Lib.hid oS
  have LS := Lib.hid (fun k hk => (oS.lt k hk).2)
  clear y0 hq hss oS hp
  go_wp2_with fail
  refine (GT3.out _ (HS.out.below hb)).out.mono ?_
  rintro e W2 ⟨rfl, oX, sX, hq⟩
  replace hb := chn hb hq
  have OS2 := Lib.hid (own_below OS.out hq)
  have OX := Lib.hid oX
  have HXB := Lib.hid hq.size
  have HXL := Lib.hid (oX.lt W1.heap.size rfl).2
  clear oX hq
  go_wp2_with fail
  refine (GI.out _ _ _ sX).out.mono ?_
  rintro e W3 ⟨vg, sg, rfl, hsg, oG, hq⟩
  obtain rfl : sg = ss := map_data_inj (hsg.trans HSS.out.symm)
  obtain ⟨ag, cg, rfl⟩ := own_shape oG
  replace hb := chn hb hq
  rw [HP.out] at oG ⊢
  have OS3 := Lib.hid (own_below OS2.out hq)
  have OX3 := Lib.hid (own_below OX.out hq)
  have OG := Lib.hid oG
  have LG := Lib.hid (fun k hk => (oG.lt k hk).1)
  replace sX := SlF.below sX hq
  clear hsg oG hq
  go_wp2_with fail
  refine (GQS.out ag av cg cs p sg HP.out (by omega)).out _ (own_sls OG.out HP.out) (own_sls OS3.out HP.out) |>.mono ?_
  rintro e W4 ⟨rfl, hq⟩
  replace hb := chn hb hq
  have OS4 := Lib.hid (own_below OS3.out hq)
  have OX4 := Lib.hid (own_below OX3.out hq)
  have OG4 := Lib.hid (own_below OG.out hq)
  replace sX := SlF.below sX hq
  clear hq
  go_wp2_with fail
  refine (GT.out _ (HS.out.below hb)).out.mono ?_
  rintro e W5 ⟨rfl, z0, hq⟩
  replace hb := chn hb hq
  have OS5 := Lib.hid (own_below OS4.out hq)
  have OX5 := Lib.hid (own_below OX4.out hq)
  have OG5 := Lib.hid (own_below OG4.out hq)
  replace sX := SlF.below sX hq
  clear hq
  go_wp2_with fail
  refine (GE.out _ _ _ _ _ sX z0).out.mono ?_
  rintro e W6 ⟨rfl, hq⟩
  replace hb := chn hb hq
  have OS6 := Lib.hid (own_below OS5.out hq)
  have OX6 := Lib.hid (own_below OX5.out hq)
  have OG6 := Lib.hid (own_below OG5.out hq)
  clear hq sX z0
  have HME := Lib.hid (markEntS_c W1.heap.size (some ⟨W1.heap.size, 0, none⟩) n n 1 _ W6 OX6.out hxn (by decide) (by decide))
  go_wp2_with fail
  refine HME.out.mono ?_
  rintro e W7 ⟨rfl, _, hg⟩
  have HB7 := Lib.hid (below_grown hb hb.size hg (fun k hk => by injection hk with hk; rw [← hk]; exact HB1.out))
  have OS7 := Lib.hid (own_kept OS6.out hg (fun k hk e => by injection e with e; exact absurd (LS.out k hk) (by rw [← e]; exact Nat.lt_irrefl _)))
  have OG7 := Lib.hid (own_kept OG6.out hg (fun k hk e => by injection e with e; have h1 := LG.out k hk; have h2 := HXL.out; rw [← e] at h1; exact absurd (Nat.lt_of_lt_of_le h2 h1) (Nat.lt_irrefl _)))
  clear hg hb
  go_wp2_with fail
  refine (GQS.out ag av cg cs p sg HP.out (by omega)).out _ (own_sls OG7.out HP.out) (own_sls OS7.out HP.out) |>.mono ?_
  rintro e W8 ⟨rfl, hq⟩
  have HB8 := Lib.hid (chn HB7.out hq)
  have OS8 := Lib.hid (own_below OS7.out hq)
  have OG8 := Lib.hid (own_below OG7.out hq)
  clear hq
  have HMS := Lib.hid (markStringS_c W2.heap.size ag cg p 1 _ W8 OG8.out (by omega) (by decide) (by decide))
  go_wp2_with fail
  refine HMS.out.mono ?_
  rintro e W9 ⟨rfl, ⟨LM, oM, hM⟩, hg⟩
  have HB9 := Lib.hid (below_grown HB8.out HB8.out.size hg (fun k hk => Nat.le_trans HB1.out (Nat.le_trans (Nat.le_of_lt HXL.out) (LG.out k hk))))
  have OS9 := Lib.hid (own_kept OS8.out hg (fun k hk e => by have h1 := LG.out k e; have h2 := HXL.out; have h3 := LS.out k hk; exact absurd (Nat.lt_of_lt_of_le h2 h1) (Nat.not_lt.2 (Nat.le_of_lt h3))))
  have OM9 := Lib.hid oM
  have HM := Lib.hid hM
  clear hg oM hM
  have HHS := Lib.hid (fun W (h : W.ownsRow W2.heap.size 9 1 (.slice ag p cg) p LM) => heldStringS_c W2.heap.size ag cg p 1 LM W h HM.out (by omega) (by decide) (by decide))
  go_wp2_with fail
  refine (HHS.out _ OM9.out).mono ?_
  rintro e W10 ⟨rfl, hq⟩
  have HB10 := Lib.hid (chn HB9.out hq)
  have OS10 := Lib.hid (own_below OS9.out hq)
  have OM10 := Lib.hid (own_below OM9.out hq)
  clear hq
  go_wp2_with fail
  refine (GT.out _ (HS.out.below HB10.out)).out.mono ?_
  rintro e W11 ⟨rfl, z0, hq⟩
  have HB11 := Lib.hid (chn HB10.out hq)
  have OS11 := Lib.hid (own_below OS10.out hq)
  have OM11 := Lib.hid (own_below OM10.out hq)
  clear hq
  go_wp2_with fail
  refine (GI.out _ _ _ z0).out.mono ?_
  rintro e W12 ⟨vh, sh, rfl, hsh, oH, hq⟩
  obtain rfl : sh = sg := map_data_inj (hsh.trans HSS.out.symm)
  obtain ⟨ah, ch, rfl⟩ := own_shape oH
  rw [HP.out] at oH ⊢
  have HB12 := Lib.hid (chn HB11.out hq)
  have OS12 := Lib.hid (own_below OS11.out hq)
  have OM12 := Lib.hid (own_below OM11.out hq)
  have OH := Lib.hid oH
  clear hsh oH hq z0
  go_wp2_with fail
  refine (GQS.out ah av ch cs p sh HP.out (by omega)).out _ (own_sls OH.out HP.out) (own_sls OS12.out HP.out) |>.mono ?_
  rintro e W13 ⟨rfl, hq⟩
  have HB13 := Lib.hid (chn HB12.out hq)
  have OM13 := Lib.hid (own_below OM12.out hq)
  clear hq
  go_wp2_with fail
  refine (HHS.out _ OM13.out).mono ?_
  rintro e W14 ⟨rfl, hq⟩
  have HB14 := Lib.hid (chn HB13.out hq)
  clear hq
  go_wp2
  go_ret
  exact ⟨rfl, HB14.out⟩
end Go.Proofs.YtkhbkhibjflgmaaDoor
