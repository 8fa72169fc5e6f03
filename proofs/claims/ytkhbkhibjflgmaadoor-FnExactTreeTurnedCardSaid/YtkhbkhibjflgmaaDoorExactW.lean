/- The walk of the exact law of TreeTurned. Conditions: lists and texts are no longer than any can be. -/
import Derived.Test.YtkhbkhibjflgmaaDoorExactV
namespace Go.Proofs.YtkhbkhibjflgmaaDoor
open Go.RowKit
theorem lt_of_own {w : World} {B : Nat} {e : TypeId} {size : Nat} {g n c : Nat} {xs : List Value} (h : w.ownsRow B e size (.slice (some ⟨g, 0, none⟩) n c) n xs) : g < w.heap.size := (h.lt g rfl).2
theorem lt_own {w : World} {B : Nat} {e : TypeId} {size : Nat} {v : Value} {n : Nat} {xs : List Value} (h : w.ownsRow B e size v n xs) : ∀ k, v.ownBlock = some k → k < w.heap.size := fun k hk => (h.lt k hk).2
theorem le_own {w : World} {B : Nat} {e : TypeId} {size : Nat} {v : Value} {n : Nat} {xs : List Value} (h : w.ownsRow B e size v n xs) : ∀ k, v.ownBlock = some k → B ≤ k := fun k hk => (h.lt k hk).1
theorem kept_lt {w w' : World} {B : Nat} {e : TypeId} {size : Nat} {v : Value} {n : Nat} {xs : List Value} {g : Nat} (h : w.ownsRow B e size v n xs) (hg : w.grownBy w' (some g)) (hl : ∀ k, v.ownBlock = some k → k < g) : w'.ownsRow B e size v n xs :=
  own_kept h hg (fun k hk e => by injection e with e; have := hl k hk; omega)
theorem kept_gt {w w' : World} {B : Nat} {e : TypeId} {size : Nat} {v : Value} {n : Nat} {xs : List Value} {g : Nat} (h : w.ownsRow B e size v n xs) (hg : w.grownBy w' (some g)) (hl : ∀ k, v.ownBlock = some k → g < k) : w'.ownsRow B e size v n xs :=
  own_kept h hg (fun k hk e => by injection e with e; have := hl k hk; omega)
theorem kept_v {w w' : World} {B : Nat} {e : TypeId} {size : Nat} {v u : Value} {n : Nat} {xs : List Value} (h : w.ownsRow B e size v n xs) (hg : w.grownBy w' u.ownBlock) {m : Nat} (hl : ∀ k, v.ownBlock = some k → k < m) (hu : ∀ k, u.ownBlock = some k → m ≤ k) : w'.ownsRow B e size v n xs :=
  own_kept h hg (fun k hk e => by have h1 := hl k hk; have h2 := hu k e; omega)
theorem turn_len (a b : List PE) (ha : a.length ≤ 1048576) (hb : b.length ≤ 1048576) : (tturn a b).length ≤ 2100000 := by
  unfold tturn
  split
  · have := turned_len (a := a) (b := b); omega
  · simp
set_option maxRecDepth 100000 in
set_option maxHeartbeats 16000000 in
theorem exactTreeTurned_w (a a' : Option Addr) (c c' : Nat) (xs ys : List En) (w : World) (hs : SlF En.cells w a xs) (hs' : SlF En.cells w a' ys) (hx : xs.length ≤ maxLen) (hy : ys.length ≤ maxLen)
    (hz : ∀ e ∈ xs, e.p.size ≤ maxLen ∧ e.x.size ≤ maxLen) (hz' : ∀ e ∈ ys, e.p.size ≤ maxLen ∧ e.x.size ≤ maxLen) :
    Calls Tryd.prog 9 #[.slice a xs.length c, .slice a' ys.length c'] w (TrueS w) := by
  have hb := Below.refl w.heap.size w
  by_cases h1 : 1048576 < (xs.length : Int) + sumW enW xs
  · have H := Lib.hid (szEntS_no a c xs 1048576 (by omega) (by omega) h1 w hs hx hz)
    obtain ⟨n, hn⟩ : ∃ n, xs.length = n := ⟨_, rfl⟩
    obtain ⟨n', hn'⟩ : ∃ n, ys.length = n := ⟨_, rfl⟩
    rw [hn] at H ⊢
    rw [hn']
    clear hn hn' hs hs' hx hy hz hz' h1
    go_enter Tryd.func9, Tryd.ntmps9
    go_wp2_with fail
    refine (H.out).mono ?_; rintro e W ⟨rfl, hq⟩; replace hb := chn hb hq; clear hq
    go_wp2
    go_ret
    exact ⟨rfl, hb⟩
  have hl1 : (xs.length : Int) + sumW enW xs ≤ 1048576 := by omega
  have H1 := Lib.hid (szEntS_yes a c xs 1048576 (by omega) hl1 w hs)
  obtain ⟨l2, hl2⟩ : ∃ l2 : Int, (1048576 : Int) - xs.length - sumW enW xs = l2 := ⟨_, rfl⟩
  rw [hl2] at H1
  have hl20 : 0 ≤ l2 := by omega
  have hl21 : l2 ≤ 1048576 := by omega
  by_cases h2 : l2 < (ys.length : Int) + sumW enW ys
  · have H2 := fun W (h : SlF En.cells W a' ys) => Lib.hid (szEntS_no a' c' ys l2 (by omega) (by omega) h2 W h hy hz')
    have HS' := Lib.hid hs'
    obtain ⟨n, hn⟩ : ∃ n, xs.length = n := ⟨_, rfl⟩
    obtain ⟨n', hn'⟩ : ∃ n, ys.length = n := ⟨_, rfl⟩
    rw [hn] at H1 ⊢
    rw [hn'] at H2 ⊢
    have HH2 := Lib.hid H2
    clear hn hn' hs hs' hx hy hz hz' h1 h2 hl1 hl2 H2
    go_enter Tryd.func9, Tryd.ntmps9
    go_wp2_with fail
    refine (H1.out).mono ?_; rintro e W ⟨rfl, hq⟩; replace hb := chn hb hq; clear hq
    go_wp2_with fail
    refine ((HH2.out _ (HS'.out.below hb)).out).mono ?_; rintro e W ⟨rfl, hq⟩; replace hb := chn hb hq; clear hq
    go_wp2
    go_ret
    exact ⟨rfl, hb⟩
  have hl3 : (ys.length : Int) + sumW enW ys ≤ l2 := by omega
  have H2 := fun W (h : SlF En.cells W a' ys) => Lib.hid (szEntS_yes a' c' ys l2 (by omega) hl3 W h)
  obtain ⟨l4, hl4⟩ : ∃ l4 : Int, l2 - ys.length - sumW enW ys = l4 := ⟨_, rfl⟩
  rw [hl4] at H2
  have hl40 : 0 ≤ l4 := by omega
  have hxn : xs.length ≤ 1048576 := by omega
  have hyn : ys.length ≤ 1048576 := by omega
  obtain ⟨L, hL⟩ : ∃ L, tturn (xs.map En.pl) (ys.map En.pl) = L := ⟨_, rfl⟩
  have hll : L.length ≤ 32 := by
    rw [← hL]; unfold tturn
    split
    · next h => have h1 := turned_len (a := xs.map En.pl) (b := ys.map En.pl); have h2 := h.1.most; have h3 := h.2.most; omega
    · simp
  have hT := fun W (h : SlF En.cells W a xs) => Lib.hid (toEntS_d a c xs W h (by omega))
  have hT' := fun W (h : SlF En.cells W a' ys) => Lib.hid (toEntS_d a' c' ys W h (by omega))
  have hSs := fun W b0 b1 (h : SlF En.cells W (some ⟨b0, 0, none⟩) xs) (h' : SlF En.cells W (some ⟨b1, 0, none⟩) ys) (hb0 : b0 < W.heap.size) => Lib.hid (sTreeTurned_c b0 0 xs.length b1 0 ys.length xs ys W h h' hb0 (Nat.le_refl _) hx (Nat.le_refl _) hx hy hz hz')
  have hSi := fun W a a' c c' (h : SlF En.cells W a xs) (h' : SlF En.cells W a' ys) => Lib.hid (treeTurned_c a a' c c' xs ys W h h' hx hy hz hz')
  have hE := fun W a a' c c' (h : SlF En.cells W a xs) (h' : SlF En.cells W a' xs) => Lib.hid (eqEntS_c a a' c c' xs xs true (Lib.hid ⟨fun _ => rfl, fun _ => rfl⟩) W h h' hx hx)
  have hE' := fun W a a' c c' (h : SlF En.cells W a ys) (h' : SlF En.cells W a' ys) => Lib.hid (eqEntS_c a a' c c' ys ys true (Lib.hid ⟨fun _ => rfl, fun _ => rfl⟩) W h h' hy hy)
  obtain ⟨n, hn⟩ : ∃ n, xs.length = n := ⟨_, rfl⟩
  obtain ⟨n', hn'⟩ : ∃ n, ys.length = n := ⟨_, rfl⟩
  rw [hL] at hSs hSi
  rw [hn] at H1 hT hSs hSi hE hxn ⊢
  rw [hn'] at H2 hT' hSs hSi hE' hyn ⊢
  have G2 := Lib.hid H2
  have GT := Lib.hid hT
  have GT' := Lib.hid hT'
  have GS := Lib.hid hSs
  have GI := Lib.hid hSi
  have GE := Lib.hid hE
  have GE' := Lib.hid hE'
  have HS := Lib.hid hs
  have HS' := Lib.hid hs'
  have HLL := Lib.hid hll
  have HQS := fun (a a' : Option Addr) (c c' n : Nat) (ss : List ByteArray) (hn : ss.length = n) (hx : n ≤ 2000000) => Lib.hid (fun (W : World) (h : SlS W a ss) (h' : SlS W a' ss) => eqStringS_c a a' c c' n ss hn W h h' hx)
  have GQS := Lib.hid HQS
  clear hn hn' hx hy hz hz' h1 h2 hl1 hl2 hl3 hl4 H2 hT hT' hSs hSi hE hE' hs hs' hL hll HQS
  go_enter Tryd.func9, Tryd.ntmps9
  go_wp2_with fail
  refine (H1.out).mono ?_; rintro e W ⟨rfl, hq⟩; replace hb := chn hb hq; clear hq
  go_wp2_with fail
  refine ((G2.out _ (HS'.out.below hb)).out).mono ?_; rintro e W ⟨rfl, hq⟩; replace hb := chn hb hq; clear hq
  go_wp2_with fail
  refine (GT.out _ (HS.out.below hb)).out.mono ?_; rintro e W ⟨rfl, oy, y0, hq⟩; replace hb := chn hb hq
  have hlt := lt_of_own oy
  clear oy hq
  go_wp2_with fail
  refine (GT'.out _ (HS'.out.below hb)).out.mono ?_; rintro e W ⟨rfl, _, y1, hq⟩; replace hb := chn hb hq; replace y0 := SlF.below y0 hq
  have HLT := Lib.hid (Nat.lt_of_lt_of_le hlt hq.size)
  clear hq hlt
  go_wp2_with fail
  refine (GS.out _ _ _ y0 y1 HLT.out).out.mono ?_
  rintro e W1 ⟨vs, ss, rfl, hss, oS, hq⟩
  obtain ⟨av, cs, rfl⟩ := own_shape oS
  replace hb := chn hb hq
  have HSS := Lib.hid hss
  have hpl : ss.length ≤ 32 := by have := congrArg List.length hss; rw [List.length_map] at this; rw [this]; exact HLL.out
  obtain ⟨p, hp⟩ : ∃ p, ss.length = p := ⟨_, rfl⟩
  rw [hp] at oS hpl ⊢
  have HP := Lib.hid hp
  have LS := Lib.hid (lt_own oS)
  have HB1 := Lib.hid hb.size
  clear y0 y1 hq hss hp HLT
  go_wp2_with fail
  refine (GT.out _ (HS.out.below hb)).out.mono ?_; rintro e W2 ⟨rfl, oX, sX, hq⟩; replace hb := chn hb hq; replace oS := own_below oS hq
  have HX := Lib.hid (lt_of_own oX)
  have HX1 := Lib.hid hq.size
  clear hq
  go_wp2_with fail
  refine (GT'.out _ (HS'.out.below hb)).out.mono ?_; rintro e W3 ⟨rfl, oY, sY, hq⟩; replace hb := chn hb hq; replace oS := own_below oS hq; replace oX := own_below oX hq; replace sX := SlF.below sX hq
  have HY := Lib.hid (lt_of_own oY)
  clear hq
  go_wp2_with fail
  refine (GI.out _ _ _ _ _ sX sY).out.mono ?_
  rintro e W4 ⟨vg, sg, rfl, hsg, oG, hq⟩
  obtain rfl : sg = ss := map_data_inj (hsg.trans HSS.out.symm)
  obtain ⟨ag, cg, rfl⟩ := own_shape oG
  replace hb := chn hb hq; replace oS := own_below oS hq; replace oX := own_below oX hq; replace oY := own_below oY hq; replace sX := SlF.below sX hq; replace sY := SlF.below sY hq
  rw [HP.out] at oG ⊢
  have LG := Lib.hid (le_own oG)
  clear hsg hq
  go_wp2_with fail
  refine ((GQS.out ag av cg cs p sg HP.out (by omega)).out _ (own_sls oG HP.out) (own_sls oS HP.out)).mono ?_; rintro e W ⟨rfl, hq⟩; replace hb := chn hb hq; replace sX := SlF.below sX hq; replace sY := SlF.below sY hq; replace oS := own_below oS hq; replace oX := own_below oX hq; replace oY := own_below oY hq; replace oG := own_below oG hq; clear hq
  go_wp2_with fail
  refine (GT.out _ (HS.out.below hb)).out.mono ?_; rintro e W ⟨rfl, _, z0, hq⟩; replace hb := chn hb hq; replace oS := own_below oS hq; replace oX := own_below oX hq; replace oY := own_below oY hq; replace oG := own_below oG hq; replace sX := SlF.below sX hq; replace sY := SlF.below sY hq; clear hq
  go_wp2_with fail
  refine ((GE.out _ _ _ _ _ sX z0).out).mono ?_; rintro e W ⟨rfl, hq⟩; replace hb := chn hb hq; replace sY := SlF.below sY hq; replace oS := own_below oS hq; replace oX := own_below oX hq; replace oY := own_below oY hq; replace oG := own_below oG hq; clear hq
  clear sX z0
  go_wp2_with fail
  refine (GT'.out _ (HS'.out.below hb)).out.mono ?_; rintro e W ⟨rfl, _, z0, hq⟩; replace hb := chn hb hq; replace oS := own_below oS hq; replace oX := own_below oX hq; replace oY := own_below oY hq; replace oG := own_below oG hq; replace sY := SlF.below sY hq; clear hq
  go_wp2_with fail
  refine ((GE'.out _ _ _ _ _ sY z0).out).mono ?_; rintro e W ⟨rfl, hq⟩; replace hb := chn hb hq; replace oS := own_below oS hq; replace oX := own_below oX hq; replace oY := own_below oY hq; replace oG := own_below oG hq; clear hq
  clear sY z0
  go_wp2_with fail
  refine (markEntS_c W1.heap.size (some ⟨W1.heap.size, 0, none⟩) n n 1 _ _ oX (by omega) (by decide) (by decide)).mono ?_
  rintro e W5 ⟨rfl, _, hg⟩
  replace hb := below_grown hb hb.size hg (fun k hk => by injection hk with hk; rw [← hk]; exact HB1.out)
  replace oS := kept_lt oS hg LS.out
  replace oY := kept_gt oY hg (fun k hk => by injection hk with hk; rw [← hk]; exact HX.out)
  replace oG := kept_gt oG hg (fun k hk => Nat.lt_of_lt_of_le (Nat.lt_trans HX.out HY.out) (LG.out k hk))
  clear hg oX
  have HM2 := Lib.hid (markEntS_c W2.heap.size (some ⟨W2.heap.size, 0, none⟩) n' n' (1 + 3 * n) _ _ oY (by omega) (by omega) (by omega))
  rw [show ((1 + 3 * n : Nat) : Int) = 1 + 3 * (n : Int) by omega] at HM2
  go_wp2_with fail
  refine HM2.out.mono ?_
  rintro e W6 ⟨rfl, _, hg⟩
  replace hb := below_grown hb hb.size hg (fun k hk => by injection hk with hk; rw [← hk]; exact Nat.le_trans HB1.out HX1.out)
  replace oS := kept_lt oS hg (fun k hk => Nat.lt_trans (LS.out k hk) HX.out)
  replace oG := kept_gt oG hg (fun k hk => Nat.lt_of_lt_of_le HY.out (LG.out k hk))
  clear hg oY HM2
  go_wp2_with fail
  refine ((GQS.out ag av cg cs p sg HP.out (by omega)).out _ (own_sls oG HP.out) (own_sls oS HP.out)).mono ?_; rintro e W ⟨rfl, hq⟩; replace hb := chn hb hq; replace oS := own_below oS hq; replace oG := own_below oG hq; clear hq
  go_wp2_with fail
  refine (markStringS_c W3.heap.size ag cg p 1 _ _ oG (by omega) (by decide) (by decide)).mono ?_
  rintro e W7 ⟨rfl, ⟨LM, oM, hM⟩, hg⟩
  replace hb := below_grown hb hb.size hg (fun k hk => Nat.le_trans HB1.out (Nat.le_trans (Nat.le_of_lt (Nat.lt_trans HX.out HY.out)) (LG.out k hk)))
  replace oS := kept_v oS hg LS.out (fun k hk => Nat.le_trans (Nat.le_of_lt (Nat.lt_trans HX.out HY.out)) (LG.out k hk))
  have HM := Lib.hid hM
  clear hg hM oG
  have HHS := Lib.hid (fun W (h : W.ownsRow W3.heap.size 9 1 (.slice ag p cg) p LM) => heldStringS_c W3.heap.size ag cg p 1 LM W h HM.out (by omega) (by decide) (by decide))
  go_wp2_with fail
  refine (HHS.out _ oM).mono ?_; rintro e W ⟨rfl, hq⟩; replace hb := chn hb hq; replace oS := own_below oS hq; replace oM := own_below oM hq; clear hq
  go_wp2_with fail
  refine (GT.out _ (HS.out.below hb)).out.mono ?_; rintro e W ⟨rfl, _, z0, hq⟩; replace hb := chn hb hq; replace oS := own_below oS hq; replace oM := own_below oM hq; clear hq
  go_wp2_with fail
  refine (GT'.out _ (HS'.out.below hb)).out.mono ?_; rintro e W ⟨rfl, _, z1, hq⟩; replace hb := chn hb hq; replace oS := own_below oS hq; replace oM := own_below oM hq; replace z0 := SlF.below z0 hq; clear hq
  go_wp2_with fail
  refine (GI.out _ _ _ _ _ z0 z1).out.mono ?_
  rintro e W8 ⟨vh, sh, rfl, hsh, oH, hq⟩
  obtain rfl : sh = sg := map_data_inj (hsh.trans HSS.out.symm)
  obtain ⟨ah, ch, rfl⟩ := own_shape oH
  rw [HP.out] at oH ⊢
  replace hb := chn hb hq; replace oS := own_below oS hq; replace oM := own_below oM hq
  clear hsh hq z0 z1
  go_wp2_with fail
  refine ((GQS.out ah av ch cs p sh HP.out (by omega)).out _ (own_sls oH HP.out) (own_sls oS HP.out)).mono ?_; rintro e W ⟨rfl, hq⟩; replace hb := chn hb hq; replace oM := own_below oM hq; clear hq
  clear oS oH
  go_wp2_with fail
  refine (HHS.out _ oM).mono ?_; rintro e W ⟨rfl, hq⟩; replace hb := chn hb hq; clear hq
  go_wp2
  go_ret
  exact ⟨rfl, hb⟩
end Go.Proofs.YtkhbkhibjflgmaaDoor
