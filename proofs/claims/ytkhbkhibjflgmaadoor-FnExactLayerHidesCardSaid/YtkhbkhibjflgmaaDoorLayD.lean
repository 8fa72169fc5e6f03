/- The walks of LayerHides, of the program and of the reference. Conditions: texts are shorter than two million bytes, lists no longer than any can be. -/
import Derived.Test.YtkhbkhibjflgmaaDoorLayC
namespace Go.Proofs.YtkhbkhibjflgmaaDoor
open Go.RowKit
set_option maxHeartbeats 4000000 in
theorem layerHides_c (a : Option Addr) (c : Nat) (xs : List Mk) (q : ByteArray) (r : Bool) (hr : Hid (r = true ↔ LOk (xs.map Mk.pl) ∧ hidesL (xs.map Mk.pl) q.data.toList = true)) (w : World) (hs : SlF Mk.cells w a xs) (hx : xs.length ≤ maxLen) (hq : q.size ≤ 2000000) (hz : ∀ e ∈ xs, e.p.size ≤ 2000000 ∧ e.x.size ≤ 2000000) :
    Calls Tryd.prog 33 #[.slice a xs.length c, .string q] w fun e w' => e = .returned (.bool r) ∧ Below w.heap.size w w' := by
  have hb := Below.refl w.heap.size w
  obtain ⟨k, hk⟩ := lok_dec xs
  have HT := Lib.hid (layerOk_c a c xs k (Lib.hid hk) w hs hx hz)
  obtain ⟨v, hv⟩ : ∃ v, hidesL (xs.map Mk.pl) q.data.toList = v := ⟨_, rfl⟩
  have HH := fun W (h : SlF Mk.cells W a xs) => Lib.hid (hides_c a c xs q v (Lib.hid hv) W h hx hq hz)
  have HR : Hid (r = (k && v)) := by
    rw [Hid, Bool.eq_iff_iff, hr.out, ← hk, hv, Bool.and_eq_true]
  have HS := Lib.hid hs
  obtain ⟨n, hn⟩ : ∃ n, xs.length = n := ⟨_, rfl⟩
  rw [hn] at HT HH ⊢
  have GH := Lib.hid HH
  clear hn HH hx hz hs hr hk hv hq
  cases k with
  | false =>
    obtain rfl : r = false := HR.out
    go_enter Tryd.func33, Tryd.ntmps33
    go_wp2_with fail
    refine (HT.out).mono ?_; rintro e W ⟨rfl, hq⟩; replace hb := chn hb hq; clear hq
    go_wp2
    go_ret
    exact ⟨rfl, hb⟩
  | true =>
    obtain rfl : r = v := by rw [HR.out]; simp
    go_enter Tryd.func33, Tryd.ntmps33
    go_wp2_with fail
    refine (HT.out).mono ?_; rintro e W ⟨rfl, hq⟩; replace hb := chn hb hq; clear hq
    go_wp2_with fail
    refine ((GH.out _ (HS.out.below hb)).out).mono ?_; rintro e W ⟨rfl, hq⟩; replace hb := chn hb hq; clear hq
    go_wp2
    go_ret
    exact ⟨rfl, hb⟩
set_option maxHeartbeats 4000000 in
theorem sLayerHides_c (a : Option Addr) (c : Nat) (xs : List Mk) (q : ByteArray) (r : Bool) (hr : Hid (r = true ↔ LOk (xs.map Mk.pl) ∧ hidesL (xs.map Mk.pl) q.data.toList = true)) (w : World) (hs : SlF Mk.cells w a xs) (hx : xs.length ≤ maxLen) (hc : xs.length ≤ c) (hq : q.size ≤ 2000000) (hz : ∀ e ∈ xs, e.p.size ≤ 2000000 ∧ e.x.size ≤ 2000000) :
    Calls Tryd.prog 32 #[.slice a xs.length c, .string q] w fun e w' => e = .returned (.bool r) ∧ Below w.heap.size w w' := by
  have hb := Below.refl w.heap.size w
  have hqm : q.size ≤ maxLen := by unfold maxLen; omega
  obtain ⟨k, hk⟩ := lok_dec xs
  have HT := Lib.hid (sLayerOk_c a c xs k (Lib.hid hk) w hs hx hc hz)
  obtain ⟨p, hp⟩ : ∃ p, pathOkL q.data.toList = p := ⟨_, rfl⟩
  have HP := fun W => Lib.hid (sPathOk_c q p (Lib.hid hp) W hqm)
  obtain ⟨v, hv⟩ : ∃ v, (xs.map Mk.pl).any (hideQ q.data.toList) = v := ⟨_, rfl⟩
  have HH := fun W (h : SlF Mk.cells W a xs) => Lib.hid (l3Hides_c a c xs q v (Lib.hid hv) W h hx hq hz)
  have HR : Hid (r = (k && (p && v))) := by
    rw [Hid, Bool.eq_iff_iff, hr.out, ← hk, Bool.and_eq_true, Bool.and_eq_true]
    constructor
    · rintro ⟨h1, h2⟩
      have h3 := hides_path (hk.1 h1) h2
      refine ⟨h1, hp ▸ h3, ?_⟩
      rw [← hv, hideQ_eq h3 (fun m hm => (hk.1 h1).pth hm)]; exact h2
    · rintro ⟨h1, h2, h3⟩
      refine ⟨h1, ?_⟩
      rw [← hideQ_eq (hp.trans h2) (fun m hm => (hk.1 h1).pth hm), hv]; exact h3
  have HS := Lib.hid hs
  obtain ⟨n, hn⟩ : ∃ n, xs.length = n := ⟨_, rfl⟩
  rw [hn] at HT HH ⊢
  have GH := Lib.hid HH
  have GP := Lib.hid HP
  clear hn HH HP hx hz hs hr hk hv hq hp hqm hc
  cases k with
  | false =>
    obtain rfl : r = false := HR.out
    go_enter Tryd.func32, Tryd.ntmps32
    go_wp2_with fail
    refine (HT.out).mono ?_; rintro e W ⟨rfl, hq⟩; replace hb := chn hb hq; clear hq
    go_wp2
    go_ret
    exact ⟨rfl, hb⟩
  | true =>
    cases p with
    | false =>
      obtain rfl : r = false := HR.out
      go_enter Tryd.func32, Tryd.ntmps32
      go_wp2_with fail
      refine (HT.out).mono ?_; rintro e W ⟨rfl, hq⟩; replace hb := chn hb hq; clear hq
      go_wp2_with fail
      refine ((GP.out _).out).mono ?_; rintro e W ⟨rfl, hq⟩; replace hb := chn hb hq; clear hq
      go_wp2
      go_ret
      exact ⟨rfl, hb⟩
    | true =>
      obtain rfl : r = v := by rw [HR.out]; simp
      go_enter Tryd.func32, Tryd.ntmps32
      go_wp2_with fail
      refine (HT.out).mono ?_; rintro e W ⟨rfl, hq⟩; replace hb := chn hb hq; clear hq
      go_wp2_with fail
      refine ((GP.out _).out).mono ?_; rintro e W ⟨rfl, hq⟩; replace hb := chn hb hq; clear hq
      go_wp2_with fail
      refine ((GH.out _ (HS.out.below hb)).out).mono ?_; rintro e W ⟨rfl, hq⟩; replace hb := chn hb hq; clear hq
      go_wp2
      go_ret
      exact ⟨rfl, hb⟩
end Go.Proofs.YtkhbkhibjflgmaaDoor
