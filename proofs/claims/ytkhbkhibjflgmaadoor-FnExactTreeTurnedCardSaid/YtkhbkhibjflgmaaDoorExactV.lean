/- The walks of the reference's TreeTurned and of the exact law of TreeTurned. Conditions: lists and texts are no longer than any can be. -/
import Derived.Test.YtkhbkhibjflgmaaDoorExactU
import Derived.Test.YtkhbkhibjflgmaaDoorTurnS
namespace Go.Proofs.YtkhbkhibjflgmaaDoor
open Go.RowKit
set_option maxRecDepth 100000 in
set_option maxHeartbeats 4000000 in
theorem sTreeTurned_c (b0 off0 c : Nat) (b1 off1 c' : Nat) (xs ys : List En) (w : World) (hs : SlF En.cells w (some ⟨b0, off0, none⟩) xs) (hs' : SlF En.cells w (some ⟨b1, off1, none⟩) ys) (hb0 : b0 < w.heap.size) (hc : xs.length ≤ c) (hcm : c ≤ maxLen) (hc' : ys.length ≤ c') (hx : xs.length ≤ maxLen) (hy : ys.length ≤ maxLen) (hz : ∀ e ∈ xs, e.p.size ≤ maxLen ∧ e.x.size ≤ maxLen) (hz' : ∀ e ∈ ys, e.p.size ≤ maxLen ∧ e.x.size ≤ maxLen) :
    Calls Tryd.prog 40 #[.slice (some ⟨b0, off0, none⟩) xs.length c, .slice (some ⟨b1, off1, none⟩) ys.length c'] w (MadeSt (tturn (xs.map En.pl) (ys.map En.pl)) w) := by
  have hb := Below.refl w.heap.size w
  obtain ⟨r, hr⟩ := tok_dec xs
  obtain ⟨r', hr'⟩ := tok_dec ys
  have HT := Lib.hid (sTreeOk_c _ c xs r (Lib.hid hr) w hs hx hc hz)
  have HT' := fun W (h : SlF En.cells W (some ⟨b1, off1, none⟩) ys) => Lib.hid (sTreeOk_c _ c' ys r' (Lib.hid hr') W h hy hc' hz')
  obtain ⟨L, hL⟩ : ∃ L, tturn (xs.map En.pl) (ys.map En.pl) = L := ⟨_, rfl⟩
  have HLB : Hid (¬ (r = true ∧ r' = true) → L = []) := fun h => by rw [← hL]; exact tturn_bad (fun h' => h ⟨hr.2 h'.1, hr'.2 h'.2⟩)
  have HLO : Hid (r = true → r' = true → ∀ W, SlF En.cells W (some ⟨b0, off0, none⟩) xs → SlF En.cells W (some ⟨b1, off1, none⟩) ys → b0 < W.heap.size → Hid (Calls Tryd.prog 98 #[.slice (some ⟨b0, off0, none⟩) xs.length c, .slice (some ⟨b1, off1, none⟩) ys.length c'] W (MadeSt L W))) := fun h h' W g1 g2 g3 => by
    rw [← hL, tturn_ok (hr.1 h) (hr'.1 h')]
    exact l2Turned_c b0 off0 c _ c' xs ys W g1 g2 g3 hc hcm (hr.1 h) (hr'.1 h')
  have HS := Lib.hid hs
  have HS' := Lib.hid hs'
  rw [hL]
  obtain ⟨n, hn⟩ : ∃ n, xs.length = n := ⟨_, rfl⟩
  obtain ⟨n', hn'⟩ : ∃ n, ys.length = n := ⟨_, rfl⟩
  rw [hn] at HT HLO ⊢
  rw [hn'] at HT' HLO ⊢
  have GT' := Lib.hid HT'
  clear hn hn' hL hs hs' hz hz' hx hy hr hr' HT' hc hcm hc'
  cases r with
  | false =>
    obtain rfl : L = [] := HLB.out (by simp)
    go_enter Tryd.func40, Tryd.ntmps40
    go_wp2_with fail
    refine (HT.out).mono ?_; rintro e W ⟨rfl, hq⟩; replace hb := chn hb hq; clear hq
    go_wp2
    go_ret
    exact ⟨_, [], rfl, rfl, World.ownsRow_lit _ #[] 0 hb.size (Nat.zero_le _) rfl, hb.alloc hb.size _⟩
  | true =>
  cases r' with
  | false =>
    obtain rfl : L = [] := HLB.out (by simp)
    go_enter Tryd.func40, Tryd.ntmps40
    go_wp2_with fail
    refine (HT.out).mono ?_; rintro e W ⟨rfl, hq⟩; replace hb := chn hb hq; clear hq
    go_wp2_with fail
    refine ((GT'.out _ (HS'.out.below hb)).out).mono ?_; rintro e W ⟨rfl, hq⟩; replace hb := chn hb hq; clear hq
    go_wp2
    go_ret
    exact ⟨_, [], rfl, rfl, World.ownsRow_lit _ #[] 0 hb.size (Nat.zero_le _) rfl, hb.alloc hb.size _⟩
  | true =>
    have HLR := Lib.hid (HLO.out rfl rfl)
    clear HLO HLB
    go_enter Tryd.func40, Tryd.ntmps40
    go_wp2_with fail
    refine (HT.out).mono ?_; rintro e W ⟨rfl, hq⟩; replace hb := chn hb hq; clear hq
    go_wp2_with fail
    refine ((GT'.out _ (HS'.out.below hb)).out).mono ?_; rintro e W ⟨rfl, hq⟩; replace hb := chn hb hq; clear hq
    go_wp2_with fail
    refine (HLR.out _ (HS.out.below hb) (HS'.out.below hb) (Nat.lt_of_lt_of_le hb0 hb.size)).out.mono ?_
    rintro e W' ⟨v, ss, rfl, hss, hown, hq⟩
    have HSS := Lib.hid hss
    have HSZ := Lib.hid hb.size
    clear hss
    replace hb := chn hb hq
    go_wp2
    go_ret
    exact ⟨_, ss, rfl, HSS.out, hown.mono HSZ.out, hb⟩
end Go.Proofs.YtkhbkhibjflgmaaDoor
