/- The walk of the program's LayerJoin. The walk of the reference's LayerJoin. The walk of the law that the empty layer is neutral: FnLayerNone. Conditions: each theorem's own. -/
import Derived.Test.YtobbodbkdcbflabDoorB5
import Derived.Test.YtobbodbkdcbflabDoorB6
import Derived.Test.YtobbodbkdcbflabDoorB3
import Derived.Test.YtobbodbkdcbflabDoorB2
namespace Go.Proofs.YtobbodbkdcbflabDoor
open Go.RowKit
set_option maxRecDepth 100000 in
set_option maxHeartbeats 8000000 in
theorem layerJoin_c (a a' : Option Addr) (c c' : Nat) (xs ys : List Mk) (w : World) (hs : SlF Mk.cells w a xs) (hs' : SlF Mk.cells w a' ys) (hx : xs.length ≤ maxLen) (hy : ys.length ≤ maxLen) (hz : ∀ e ∈ xs, e.p.size ≤ 2000000 ∧ e.x.size ≤ 2000000) (hz' : ∀ e ∈ ys, e.p.size ≤ 2000000 ∧ e.x.size ≤ 2000000) :
    Calls Tryd.prog 13 #[.slice a xs.length c, .slice a' ys.length c'] w (MadeMb (ljoinL (xs.map Mk.pl) (ys.map Mk.pl)) (ljoinB (xs.map Mk.pl) (ys.map Mk.pl)) w) := by
  have HE := eltMk
  have hb := Below.refl w.heap.size w
  obtain ⟨r, hr⟩ := lok_dec xs
  obtain ⟨r', hr'⟩ := lok_dec ys
  have HT := Lib.hid (layerOk_c a c xs r (Lib.hid hr) w hs hx hz)
  have HT' := Lib.hid (fun W (h : SlF Mk.cells W a' ys) => layerOk_c a' c' ys r' (Lib.hid hr') W h hy hz')
  obtain ⟨L, hL⟩ : ∃ L, ljoinL (xs.map Mk.pl) (ys.map Mk.pl) = L := ⟨_, rfl⟩
  obtain ⟨B, hB⟩ : ∃ B, ljoinB (xs.map Mk.pl) (ys.map Mk.pl) = B := ⟨_, rfl⟩
  have hbd : ¬ (r = true ∧ r' = true) → B = false := fun h => by rw [← hB]; exact ljoin_bad fun h' => h ⟨hr.2 h'.1, hr'.2 h'.2⟩
  have HBD := Lib.hid hbd
  have HLD : Hid (¬ (r = true ∧ r' = true) → [] = L) := fun h => by rw [← hL]; unfold ljoinL; rw [hB, hbd h]; rfl
  rw [hL, hB]
  have HR := Lib.hid hr
  have HR' := Lib.hid hr'
  have HS := Lib.hid hs
  have HS' := Lib.hid hs'
  have HLL := Lib.hid hL
  have HBB := Lib.hid hB
  have HZ := Lib.hid hz
  have HZ' := Lib.hid hz'
  clear hr hr' hs hs' hL hB hbd hz hz'
  cases r with
  | false =>
    go_enter Tryd.func13, Tryd.ntmps13
    go_wp2_with fail
    refine (HT.out).mono ?_; rintro e W ⟨rfl, hq⟩; replace hb := chn hb hq; clear hq
    go_wp2
    refine bodyPost_ret (v := .tuple #[.slice none 0 0, .bool false]) (by simp [results, Tryd.results13, go_sem]) rfl ⟨none, 0, [], by rw [HBD.out (by simp)]; rfl, HLD.out (by simp), World.ownsRow_nil _ _ _ _, hb⟩
  | true =>
  cases r' with
  | false =>
    go_enter Tryd.func13, Tryd.ntmps13
    go_wp2_with fail
    refine (HT.out).mono ?_; rintro e W ⟨rfl, hq⟩; replace hb := chn hb hq; clear hq
    go_wp2_with fail
    refine (HT'.out _ (HS'.out.below hb)).mono ?_; rintro e W ⟨rfl, hq⟩; replace hb := chn hb hq; clear hq
    go_wp2
    refine bodyPost_ret (v := .tuple #[.slice none 0 0, .bool false]) (by simp [results, Tryd.results13, go_sem]) rfl ⟨none, 0, [], by rw [HBD.out (by simp)]; rfl, HLD.out (by simp), World.ownsRow_nil _ _ _ _, hb⟩
  | true =>
    have HLX := Lib.hid (HR.out.1 rfl)
    have HLY := Lib.hid (HR'.out.1 rfl)
    have hx32 : xs.length ≤ 32 := by have := HLX.out.most; rw [List.length_map] at this; exact this
    have hy32 : ys.length ≤ 32 := by have := HLY.out.most; rw [List.length_map] at this; exact this
    obtain ⟨U, hU⟩ : ∃ U, joinRaw (xs.map Mk.pl) (ys.map Mk.pl) = U := ⟨_, rfl⟩
    have HU := Lib.hid hU
    have HUB := Lib.hid (hU ▸ bound_join (bound_pl HZ.out) (bound_pl HZ'.out))
    have HULEN : Hid (U.length ≤ 64) := by
      have := len_join (xs.map Mk.pl) (ys.map Mk.pl)
      rw [List.length_map, List.length_map, hU] at this
      rw [Hid]; omega
    have HJ := Lib.hid (fun W (h : SlF Mk.cells W a xs) (h' : SlF Mk.cells W a' ys) => hU ▸ joinMarks_c a a' c c' xs ys W h h' hx32 hy32 HZ.out HZ'.out)
    clear hU
    go_enter Tryd.func13, Tryd.ntmps13
    go_wp2_with fail
    refine (HT.out).mono ?_; rintro e W ⟨rfl, hq⟩; replace hb := chn hb hq; clear hq
    go_wp2_with fail
    refine (HT'.out _ (HS'.out.below hb)).mono ?_; rintro e W ⟨rfl, hq⟩; replace hb := chn hb hq; clear hq
    go_wp2_with fail
    refine (HJ.out _ (HS.out.below hb) (HS'.out.below hb)).mono ?_; rintro e W1 ⟨a2, c2, ms, rfl, hms, hown2, hq⟩
    have hsm := own_slf (fun _ => rfl) hown2
    replace hb := chn hb hq
    have HB1 := Lib.hid hb
    have HSM := Lib.hid hsm
    have HMB := Lib.hid (bound_of hms HUB.out)
    have hm64 : ms.length ≤ 64 := by rw [← List.length_map (f := Mk.pl), hms]; exact HULEN.out
    have hm64' : (64 : Nat) ≤ maxLen := by unfold maxLen; omega
    have HBR := Lib.hid (fun (q : ByteArray) (hq : q.size ≤ 2000000) (r : Bool) (hr : Hid (bareL U q.data.toList = r)) W (h : SlF Mk.cells W a2 ms) => belowBare_c a2 c2 ms q r (by rw [Hid, hms]; exact hr) W h (Nat.le_trans hm64 hm64') hq HMB.out)
    obtain ⟨n, hn⟩ : ∃ n, ms.length = n := ⟨_, rfl⟩
    have HN := Lib.hid hn
    have HMS := Lib.hid hms
    have HALL : Hid (ms.take n = ms) := by rw [Hid, ← hn, List.take_length]
    rw [hn] at hm64 HBR ⊢
    clear hms hown2 hq hsm hn hb hm64'
    go_wp2
    go_loopw [7, 23] (fun v i wr => ∃ (k : Nat) (ns : List Mk), k ≤ n ∧ ns.length ≤ k ∧ i = .int .i64 k ∧ ns.map Mk.pl = ((ms.take k).map Mk.pl).filterMap (tidyM U) ∧ wr.ownsRow W1.heap.size 60 3 v ns.length (ns.flatMap Mk.cells) ∧ Below W1.heap.size W1 wr) (fun _ i _ => n - (intOf i).toNat)
    case atStart => exact ⟨0, [], Nat.zero_le _, Nat.zero_le _, rfl, rfl, World.ownsRow_nil _ _ _ _, Below.refl _ _⟩
    case round =>
      obtain ⟨k, ns, hk, hnl, rfl, hns, hown, hb⟩ := hrel
      have HNS := Lib.hid hns
      clear hns
      by_cases hlt : k < n
      · obtain ⟨e, hee⟩ : ∃ e, ms[k]? = some e := ⟨_, List.getElem?_eq_getElem (by rw [HN.out]; exact hlt)⟩
        have hzz := HMB.out e (List.mem_of_getElem? hee)
        have hsx := HSM.out.below hb
        obtain ⟨b, off, rfl, _⟩ := hsx.addr (by rw [HN.out]; omega)
        obtain ⟨d0, d1, d2⟩ := mk_at hsx k e hee
        obtain ⟨r, hr⟩ : ∃ r, Hid (bareL U e.p.data.toList = r) := ⟨_, rfl⟩
        have HSN := Lib.hid (tidy_snoc U ms k e hee ns HNS.out)
        rw [hr.out] at HSN
        obtain ⟨ep, ek, ex⟩ := e
        clear hee
        have i0 : (0 : Int) ≤ (k : Int) := by omega
        have i1 : (k : Int) < (n : Int) := by omega
        have q0 := new_cell wr #[.string ep, .int .i64 ek, .string ex] 60 0 (.string ep) rfl
        have q1 := new_cell wr #[.string ep, .int .i64 ek, .string ex] 60 1 (.int .i64 ek) rfl
        have q2 := new_cell wr #[.string ep, .int .i64 ek, .string ex] 60 2 (.string ex) rfl
        have f1 := new_free wr #[.string ep, .int .i64 ek, .string ex] 60 1
        have HOW := Lib.hid hown
        have HLW1 := Lib.hid hb.size
        have hbw := bellow_alloc wr (.cells #[.string ep, .int .i64 ek, .string ex] 60)
        replace hown := own_below hown (bellow_alloc wr (.cells #[.string ep, .int .i64 ek, .string ex] 60))
        replace hb := hb.alloc hb.size (.cells #[.string ep, .int .i64 ek, .string ex] 60); replace hsx := SlF.below hsx (bellow_alloc _ (.cells #[.string ep, .int .i64 ek, .string ex] 60)); 
        go_wp2_with fail
        refine (HBR.out ep hzz.1 r hr _ hsx).mono ?_; rintro e W ⟨rfl, hq⟩; replace hb := chn hb hq; replace hbw := chn hbw hq; replace f1 := (hq.frozen (p := ⟨wr.heap.size, 1, none⟩) (by simp)).trans f1; replace hsx := SlF.below hsx hq; replace hown := own_below hown hq; replace q0 := keepc hq q0; replace q1 := keepc hq q1; replace q2 := keepc hq q2; clear hq
        cases r with
        | false =>
          have HSM1 : Hid ((ns ++ [(⟨ep, ek, ex⟩ : Mk)]).map Mk.pl = ((ms.take (k + 1)).map Mk.pl).filterMap (tidyM U)) := HSN
          go_wp2_with (at_builtin; go_must (refine wp_app1H (by rfl) _ _ 36 (by rfl) HE W1.heap.size W1.heap.size W1 _ #[.string ep, .int .i64 ek, .string ex] _ _ _ (by rfl) W.heap.size (by simp) (by rfl) hown (by rfl) (by simp [Value.oneCell']) (by omega) hb.size hb (Nat.le_refl _) ?_); intro v' w1 hown1 hbel1 _ _)
          go_roundw
          case rel => exact ⟨k + 1, ns ++ [⟨ep, ek, ex⟩], by omega, by simp; omega, by go_num, HSM1.out, by rw [← flat_mk]; simpa using hown1, hbel1⟩
          case measure => simp [intOf]; omega
        | true =>
          by_cases h3 : ek = 3
          · subst h3
            have HSM1 : Hid (ns.map Mk.pl = ((ms.take (k + 1)).map Mk.pl).filterMap (tidyM U)) := by
              have h := HSN.out
              rw [show tidyK true ⟨ep, 3, ex⟩ = none from rfl, Option.toList_none, List.append_nil] at h
              exact h
            go_wp2
            go_roundw
            case rel => exact ⟨k + 1, ns, by omega, by omega, by go_num, HSM1.out, hown, hb⟩
            case measure => simp [intOf]; omega
          · have n3 : (ek == 3) = false := by simpa using h3
            by_cases h4 : ek = 4
            · subst h4
              have HSM1 : Hid ((ns ++ [(⟨ep, 2, ex⟩ : Mk)]).map Mk.pl = ((ms.take (k + 1)).map Mk.pl).filterMap (tidyM U)) := HSN
              have hown1 := own_below HOW.out (hbw.setCell (p := ⟨wr.heap.size, 1, none⟩) (Nat.le_refl _) (.int .i64 2))
              replace hown := hown1
              clear hown1
              have hb1 := hb.setCell (p := ⟨wr.heap.size, 1, none⟩) HLW1.out (.int .i64 2)
              replace hb := hb1
              clear hb1 h3
              go_wp2_with (at_builtin; go_must (refine wp_app1H (by rfl) _ _ 36 (by rfl) HE W1.heap.size W1.heap.size W1 _ #[.string ep, .int .i64 2, .string ex] _ _ _ (by rfl) W.heap.size (by simp) (by rfl) hown (by rfl) (by simp [Value.oneCell']) (by omega) hb.size hb (Nat.le_refl _) ?_); intro v' w1 hown1 hbel1 _ _)
              go_roundw
              case rel => exact ⟨k + 1, ns ++ [⟨ep, 2, ex⟩], by omega, by simp; omega, by go_num, HSM1.out, by rw [← flat_mk]; simpa using hown1, hbel1⟩
              case measure => simp [intOf]; omega
            · have n4 : (ek == 4) = false := by simpa using h4
              have HSM1 : Hid ((ns ++ [(⟨ep, ek, ex⟩ : Mk)]).map Mk.pl = ((ms.take (k + 1)).map Mk.pl).filterMap (tidyM U)) := by
                have h := HSN.out
                unfold tidyK at h
                rw [if_pos rfl] at h
                dsimp only at h
                rw [if_neg h3, if_neg h4] at h
                exact h
              clear h3 h4
              go_wp2_with (at_builtin; go_must (refine wp_app1H (by rfl) _ _ 36 (by rfl) HE W1.heap.size W1.heap.size W1 _ #[.string ep, .int .i64 ek, .string ex] _ _ _ (by rfl) W.heap.size (by simp) (by rfl) hown (by rfl) (by simp [Value.oneCell']) (by omega) hb.size hb (Nat.le_refl _) ?_); intro v' w1 hown1 hbel1 _ _)
              go_roundw
              case rel => exact ⟨k + 1, ns ++ [⟨ep, ek, ex⟩], by omega, by simp; omega, by go_num, HSM1.out, by rw [← flat_mk]; simpa using hown1, hbel1⟩
              case measure => simp [intOf]; omega
      · obtain rfl : k = n := by omega
        have HRAW : Hid (ns.map Mk.pl = tidyRaw U) := by rw [Hid, HNS.out, HALL.out, HMS.out]; rfl
        have HLEN : Hid (ns.length = (joinLy (xs.map Mk.pl) (ys.map Mk.pl)).length) := by
          rw [Hid, ← join_len HLX.out HLY.out, HU.out, ← HRAW.out, List.length_map]
        have HBE : Hid (decide (ns.length ≤ 32) = B) := by rw [Hid, ← HBB.out, ljoin_ok HLX.out HLY.out, HLEN.out]
        have HBX := Lib.hid (HB1.out.trans (hb.mono HB1.out.size))
        by_cases h32 : 32 < ns.length
        · have hg : (32 : Int) < (ns.length : Int) := by omega
          obtain rfl : B = false := by rw [← HBE.out, decide_eq_false_iff_not]; omega
          have HL0 : Hid ([] = L) := by rw [Hid, ← HLL.out]; unfold ljoinL; rw [HBB.out]; rfl
          obtain ⟨v1, v2, rfl⟩ := own_shape hown
          go_wp2
          refine bodyPost_ret (v := .tuple #[.slice none 0 0, .bool false]) (by simp [results, Tryd.results13, go_sem]) rfl ⟨none, 0, [], rfl, HL0.out, World.ownsRow_nil _ _ _ _, HBX.out⟩
        · have hg : decide ((32 : Int) < (ns.length : Int)) = false := by rw [decide_eq_false_iff_not]; omega
          obtain rfl : B = true := by rw [← HBE.out, decide_eq_true_iff]; omega
          have HL1 : Hid (joinLy (xs.map Mk.pl) (ys.map Mk.pl) = L) := by rw [Hid, ← HLL.out]; unfold ljoinL; rw [HBB.out]; rfl
          obtain ⟨v1, v2, rfl⟩ := own_shape hown
          go_wp2_with fail
          refine (sortMk_c _ W1.heap.size v1 v2 ns hown (by omega)).mono ?_; rintro e W2 ⟨rfl, zs, hp, hso, _, hz2, hq⟩
          have hzl : ns.length = zs.length := hp.length_eq.symm
          have HEQ : Hid (zs.map Mk.pl = L) := by
            rw [Hid, ← HL1.out]
            refine join_of_raw HLX.out HLY.out (by rw [HU.out, ← HRAW.out]; exact hp.map _) ?_
            rw [List.pairwise_map]
            exact hso
          go_wp2
          refine bodyPost_ret (v := .tuple #[.slice v1 zs.length v2, .bool true]) (by simp [results, Tryd.results13, go_sem]) rfl ⟨v1, v2, zs, rfl, HEQ.out, own_mono hz2 HB1.out.size, HBX.out.trans (hq.mono HB1.out.size)⟩
end Go.Proofs.YtobbodbkdcbflabDoor
namespace Go.Proofs.YtobbodbkdcbflabDoor
open Go.RowKit
set_option maxRecDepth 100000 in
set_option maxHeartbeats 8000000 in
theorem sLayerJoin_c (a a' : Option Addr) (c c' : Nat) (xs ys : List Mk) (w : World) (hs : SlF Mk.cells w a xs) (hs' : SlF Mk.cells w a' ys) (hx : xs.length ≤ maxLen) (hy : ys.length ≤ maxLen) (hc : xs.length ≤ c) (hc' : ys.length ≤ c') (hz : ∀ e ∈ xs, e.p.size ≤ 2000000 ∧ e.x.size ≤ 2000000) (hz' : ∀ e ∈ ys, e.p.size ≤ 2000000 ∧ e.x.size ≤ 2000000) :
    Calls Tryd.prog 14 #[.slice a xs.length c, .slice a' ys.length c'] w (MadeMb (ljoinL (xs.map Mk.pl) (ys.map Mk.pl)) (ljoinB (xs.map Mk.pl) (ys.map Mk.pl)) w) := by
  have hb := Below.refl w.heap.size w
  obtain ⟨r, hr⟩ := lok_dec xs
  obtain ⟨r', hr'⟩ := lok_dec ys
  have HT := Lib.hid (sLayerOk_c a c xs r (Lib.hid hr) w hs hx hc hz)
  have HT' := Lib.hid (fun W (h : SlF Mk.cells W a' ys) => sLayerOk_c a' c' ys r' (Lib.hid hr') W h hy hc' hz')
  obtain ⟨L, hL⟩ : ∃ L, ljoinL (xs.map Mk.pl) (ys.map Mk.pl) = L := ⟨_, rfl⟩
  obtain ⟨B, hB⟩ : ∃ B, ljoinB (xs.map Mk.pl) (ys.map Mk.pl) = B := ⟨_, rfl⟩
  have hbd : ¬ (r = true ∧ r' = true) → B = false := fun h => by rw [← hB]; exact ljoin_bad fun h' => h ⟨hr.2 h'.1, hr'.2 h'.2⟩
  have HBD := Lib.hid hbd
  have HLD : Hid (¬ (r = true ∧ r' = true) → [] = L) := fun h => by rw [← hL]; unfold ljoinL; rw [hB, hbd h]; rfl
  rw [hL, hB]
  have HR := Lib.hid hr
  have HR' := Lib.hid hr'
  have HS := Lib.hid hs
  have HS' := Lib.hid hs'
  have HLL := Lib.hid hL
  have HBB := Lib.hid hB
  have HZ := Lib.hid hz
  have HZ' := Lib.hid hz'
  clear hr hr' hs hs' hL hB hbd hz hz' hc hc'
  cases r with
  | false =>
    go_enter Tryd.func14, Tryd.ntmps14
    go_wp2_with fail
    refine HT.out.mono ?_; rintro e WS ⟨rfl, hq⟩; replace hb := chn hb hq; clear hq
    go_wp2
    refine bodyPost_ret (v := .tuple #[.slice (some ⟨WS.heap.size, 0, none⟩) 0 0, .bool false]) (by simp [results, Tryd.results14, go_sem]) rfl ⟨some ⟨WS.heap.size, 0, none⟩, 0, [], by rw [HBD.out (by simp)]; rfl, HLD.out (by simp), World.ownsRow_lit _ #[] 0 hb.size (Nat.zero_le _) rfl, hb.alloc hb.size _⟩
  | true =>
  cases r' with
  | false =>
    go_enter Tryd.func14, Tryd.ntmps14
    go_wp2_with fail
    refine (HT.out).mono ?_; rintro e W ⟨rfl, hq⟩; replace hb := chn hb hq; clear hq
    go_wp2_with fail
    refine (HT'.out _ (HS'.out.below hb)).mono ?_; rintro e WS ⟨rfl, hq⟩; replace hb := chn hb hq; clear hq
    go_wp2
    refine bodyPost_ret (v := .tuple #[.slice (some ⟨WS.heap.size, 0, none⟩) 0 0, .bool false]) (by simp [results, Tryd.results14, go_sem]) rfl ⟨some ⟨WS.heap.size, 0, none⟩, 0, [], by rw [HBD.out (by simp)]; rfl, HLD.out (by simp), World.ownsRow_lit _ #[] 0 hb.size (Nat.zero_le _) rfl, hb.alloc hb.size _⟩
  | true =>
    have HLX := Lib.hid (HR.out.1 rfl)
    have HLY := Lib.hid (HR'.out.1 rfl)
    have hx32 : xs.length ≤ 32 := by have := HLX.out.most; rw [List.length_map] at this; exact this
    have hy32 : ys.length ≤ 32 := by have := HLY.out.most; rw [List.length_map] at this; exact this
    have hp : ∀ e ∈ xs, pathOkL e.p.data.toList = true := fun e he => HLX.out.pth (m := e.pl) (List.mem_map_of_mem he)
    have hp' : ∀ e ∈ ys, pathOkL e.p.data.toList = true := fun e he => HLY.out.pth (m := e.pl) (List.mem_map_of_mem he)
    have hk : ∀ m ∈ xs, m.k ≠ 0 := fun e he => by have := (markOk_kind (HLX.out.mks e.pl (List.mem_map_of_mem he))).1; show e.pl.k ≠ 0; omega
    have hk' : ∀ m ∈ ys, m.k ≠ 0 := fun e he => by have := (markOk_kind (HLY.out.mks e.pl (List.mem_map_of_mem he))).1; show e.pl.k ≠ 0; omega
    have HJ := Lib.hid (fun W (h : SlF Mk.cells W a xs) (h' : SlF Mk.cells W a' ys) => l3Join_c a a' c c' xs ys W h h' hx32 hy32 HZ.out HZ'.out hp hp' hk hk')
    have HMEM := Lib.hid (join_mem HLX.out HLY.out)
    have HPTH := Lib.hid (join_path_ HLX.out HLY.out)
    have HUB := Lib.hid (bound_join (bound_pl HZ.out) (bound_pl HZ'.out))
    have HLEN : Hid (((joinRaw (xs.map Mk.pl) (ys.map Mk.pl)).foldl (putP PM.p) []).length ≤ 64) := by
      have h1 := len_join (xs.map Mk.pl) (ys.map Mk.pl)
      have h2 := fold_len_le (f := PM.p) (joinRaw (xs.map Mk.pl) (ys.map Mk.pl)) []
      rw [List.length_map, List.length_map] at h1
      simp only [List.length_nil] at h2
      rw [Hid]; omega
    have HLYD : Hid (tidyL [] ((joinRaw (xs.map Mk.pl) (ys.map Mk.pl)).foldl (putP PM.p) []) = joinLy (xs.map Mk.pl) (ys.map Mk.pl)) := rfl
    clear hp hp' hk hk' hx32 hy32
    go_enter Tryd.func14, Tryd.ntmps14
    go_wp2_with fail
    refine (HT.out).mono ?_; rintro e W ⟨rfl, hq⟩; replace hb := chn hb hq; clear hq
    go_wp2_with fail
    refine (HT'.out _ (HS'.out.below hb)).mono ?_; rintro e W ⟨rfl, hq⟩; replace hb := chn hb hq; clear hq
    go_wp2_with fail
    refine (HJ.out _ (HS.out.below hb) (HS'.out.below hb)).mono ?_; rintro e W1 ⟨v, zs, rfl, hzs, ⟨b, off, cz, rfl, _, _, _, hsz⟩, hq⟩
    replace hb := chn hb hq
    have hz64 : zs.length ≤ 64 := by rw [← List.length_map (f := Mk.pl), hzs]; exact HLEN.out
    have hzb : ∀ e ∈ zs, e.p.size ≤ 2000000 ∧ e.x.size ≤ 2000000 := bound_of hzs fun m hm => HUB.out m ((HMEM.out m).1 hm)
    have hzp : ∀ e ∈ zs, pathOkL e.p.data.toList = true := fun e he => HPTH.out e.pl ((HMEM.out e.pl).1 (by rw [← hzs]; exact List.mem_map_of_mem he))
    have HTD := Lib.hid (l3Tidy_c (some ⟨b, off, none⟩) cz zs W1 hsz hz64 hzb hzp)
    rw [hzs, HLYD.out] at HTD
    have HB1 := Lib.hid hb.size
    obtain ⟨n, hn⟩ : ∃ n, zs.length = n := ⟨_, rfl⟩
    rw [hn] at HTD ⊢
    clear hz64 hzb hzp hsz hzs hq hn
    go_wp2_with fail
    refine HTD.out.mono ?_; rintro e W2 ⟨a2, c2, ms, rfl, hms, hown, hq⟩
    replace hb := chn hb hq
    have HML : Hid (ms.length = (joinLy (xs.map Mk.pl) (ys.map Mk.pl)).length) := by rw [Hid, ← hms, List.length_map]
    have HBE : Hid (decide (ms.length ≤ 32) = B) := by rw [Hid, ← HBB.out, ljoin_ok HLX.out HLY.out, HML.out]
    have HMS := Lib.hid hms
    clear hms hq
    by_cases h32 : 32 < ms.length
    · have hg : (32 : Int) < (ms.length : Int) := by omega
      obtain rfl : B = false := by rw [← HBE.out, decide_eq_false_iff_not]; omega
      have HL0 : Hid ([] = L) := by rw [Hid, ← HLL.out]; unfold ljoinL; rw [HBB.out]; rfl
      go_wp2
      refine bodyPost_ret (v := .tuple #[.slice (some ⟨W2.heap.size, 0, none⟩) 0 0, .bool false]) (by simp [results, Tryd.results14, go_sem]) rfl ⟨some ⟨W2.heap.size, 0, none⟩, 0, [], rfl, HL0.out, World.ownsRow_lit _ #[] 0 hb.size (Nat.zero_le _) rfl, hb.alloc hb.size _⟩
    · have hg : decide ((32 : Int) < (ms.length : Int)) = false := by rw [decide_eq_false_iff_not]; omega
      obtain rfl : B = true := by rw [← HBE.out, decide_eq_true_iff]; omega
      have HL1 : Hid (joinLy (xs.map Mk.pl) (ys.map Mk.pl) = L) := by rw [Hid, ← HLL.out]; unfold ljoinL; rw [HBB.out]; rfl
      go_wp2
      refine bodyPost_ret (v := .tuple #[.slice a2 ms.length c2, .bool true]) (by simp [results, Tryd.results14, go_sem]) rfl ⟨a2, c2, ms, rfl, HMS.out.trans HL1.out, own_mono hown HB1.out, hb⟩
end Go.Proofs.YtobbodbkdcbflabDoor
namespace Go.Proofs.YtobbodbkdcbflabDoor
open Go.RowKit
theorem none_r {l : List PM} (h : LOk l) : ljoinB l [] = true ∧ ljoinL l [] = l := by
  have h1 : ljoinB l [] = true := by rw [ljoin_ok h lok_nil, join_nil_r h, decide_eq_true_eq]; exact h.most
  exact ⟨h1, by unfold ljoinL; rw [h1, if_pos rfl, join_nil_r h]⟩
theorem none_l {l : List PM} (h : LOk l) : ljoinB [] l = true ∧ ljoinL [] l = l := by
  have h1 : ljoinB [] l = true := by rw [ljoin_ok lok_nil h, join_nil_l h, decide_eq_true_eq]; exact h.most
  exact ⟨h1, by unfold ljoinL; rw [h1, if_pos rfl, join_nil_l h]⟩
/-- LayerJoin, as the laws meet it. -/
theorem joinI_c (a a' : Option Addr) (c c' n n' : Nat) (xs ys : List Mk) (l : List PM) (b : Bool) (hb : Hid (ljoinB (xs.map Mk.pl) (ys.map Mk.pl) = b)) (hl : Hid (ljoinL (xs.map Mk.pl) (ys.map Mk.pl) = l)) (w : World) (hn : xs.length = n) (hn' : ys.length = n') (hs : SlF Mk.cells w a xs) (hs' : SlF Mk.cells w a' ys) (hx : n ≤ 1000) (hy : n' ≤ 1000) (hz : SmallM xs) (hz' : SmallM ys) :
    Calls Tryd.prog 13 #[.slice a n c, .slice a' n' c'] w (MadeMb l b w) := by
  subst hn hn'
  rw [← hb.out, ← hl.out]
  exact layerJoin_c a a' c c' xs ys w hs hs' (by unfold maxLen; omega) (by unfold maxLen; omega) hz.mil hz'.mil
theorem joinS_c (a a' : Option Addr) (c c' n n' : Nat) (xs ys : List Mk) (l : List PM) (b : Bool) (hb : Hid (ljoinB (xs.map Mk.pl) (ys.map Mk.pl) = b)) (hl : Hid (ljoinL (xs.map Mk.pl) (ys.map Mk.pl) = l)) (w : World) (hn : xs.length = n) (hn' : ys.length = n') (hs : SlF Mk.cells w a xs) (hs' : SlF Mk.cells w a' ys) (hc : n ≤ c) (hc' : n' ≤ c') (hx : n ≤ 1000) (hy : n' ≤ 1000) (hz : SmallM xs) (hz' : SmallM ys) :
    Calls Tryd.prog 14 #[.slice a n c, .slice a' n' c'] w (MadeMb l b w) := by
  subst hn hn'
  rw [← hb.out, ← hl.out]
  exact sLayerJoin_c a a' c c' xs ys w hs hs' (by unfold maxLen; omega) (by unfold maxLen; omega) hc hc' hz.mil hz'.mil
set_option maxRecDepth 100000 in
set_option maxHeartbeats 8000000 in
theorem lawLayerNone_w (w : World) (a : Option Addr) (n c : Nat) (h : Code w a n c) : Calls Tryd.prog 4 #[.slice a n c] w (TrueB w) := by
  have hn := h.2.2
  by_cases hbig : 1048576 < n
  · clear h
    go_enter Tryd.func4, Tryd.ntmps4
    go_wp2
    go_ret
    exact ⟨rfl, Below.refl _ _⟩
  have HD := Lib.hid (drawLayerJoin_c w a n c h)
  clear h
  go_enter Tryd.func4, Tryd.ntmps4
  go_wp2_with fail
  refine HD.out.mono ?_; rintro e W1 ⟨a1, c1, xs, a2, c2, ys, rfl, hR, hz, hx, hR2, hz2, hy, hb⟩
  have hcn := hR.cap
  have hcn2 := hR2.cap
  obtain ⟨n1, hn1⟩ : ∃ m, xs.length = m := ⟨_, rfl⟩
  obtain ⟨n2, hn2⟩ : ∃ m, ys.length = m := ⟨_, rfl⟩
  rw [hn1] at hx hcn ⊢
  rw [hn2] at hy hcn2 ⊢
  have HN1 := Lib.hid hn1
  have HN2 := Lib.hid hn2
  have HZ := Lib.hid hz
  have HZ2 := Lib.hid hz2
  obtain ⟨B, hB⟩ : ∃ b, ljoinB (xs.map Mk.pl) (ys.map Mk.pl) = b := ⟨_, rfl⟩
  obtain ⟨L, hL⟩ : ∃ b, ljoinL (xs.map Mk.pl) (ys.map Mk.pl) = b := ⟨_, rfl⟩
  have HI := Lib.hid (fun W (h : SlF Mk.cells W a1 xs) (h' : SlF Mk.cells W a2 ys) => joinI_c a1 a2 c1 c2 n1 n2 xs ys L B (Lib.hid hB) (Lib.hid hL) W HN1.out HN2.out h h' (by omega) (by omega) HZ.out HZ2.out)
  have HS := Lib.hid (fun W (h : SlF Mk.cells W a1 xs) (h' : SlF Mk.cells W a2 ys) => joinS_c a1 a2 c1 c2 n1 n2 xs ys L B (Lib.hid hB) (Lib.hid hL) W HN1.out HN2.out h h' hcn hcn2 (by omega) (by omega) HZ.out HZ2.out)
  obtain ⟨r, hr⟩ := mlok_dec xs
  have HR := Lib.hid hr
  have HK := Lib.hid (fun W (h : SlF Mk.cells W a1 xs) => lokS_c a1 c1 n1 xs r (Lib.hid hr) W HN1.out h hcn (by omega) HZ.out)
  clear hn1 hn2 hz hz2 HD hB hL hr
  go_wp2_with fail
  refine (HI.out _ hR.sl hR2.sl).mono ?_; rintro e W2 ⟨a3, c3, ms3, rfl, _, _, hq⟩; replace hb := chn hb hq; replace hR := hR.below hq; replace hR2 := hR2.below hq; clear hq HI
  obtain ⟨n3, hn3⟩ : ∃ m, ms3.length = m := ⟨_, rfl⟩
  rw [hn3]
  clear hn3
  go_wp2_with fail
  refine (HS.out _ hR.sl hR2.sl).mono ?_; rintro e W3 ⟨a4, c4, ms4, rfl, _, _, hq⟩; replace hb := chn hb hq; replace hR := hR.below hq; clear hq HS hR2
  obtain ⟨n4, hn4⟩ : ∃ m, ms4.length = m := ⟨_, rfl⟩
  rw [hn4]
  clear hn4
  have hBB : (B != B) = false := by cases B <;> rfl
  have hBE : (B == B) = true := by cases B <;> rfl
  go_wp2_with fail
  refine (HK.out _ hR.sl).mono ?_; rintro e W4 ⟨rfl, hq⟩; replace hb := chn hb hq; replace hR := hR.below hq; clear hq HK
  cases r with
  | false =>
    go_wp2
    go_ret
    exact ⟨rfl, hb⟩
  | true =>
    have hlk := HR.out.1 rfl
    obtain ⟨h1, h2⟩ := none_r hlk
    obtain ⟨h3, h4⟩ := none_l hlk
    have HJ := Lib.hid (fun W (h : SlF Mk.cells W a1 xs) => joinI_c a1 none c1 0 n1 0 xs [] (xs.map Mk.pl) true (Lib.hid h1) (Lib.hid h2) W HN1.out rfl h (slf_nilM W) (by omega) (by decide) HZ.out (fun e he => by cases he))
    have HJ2 := Lib.hid (fun W (h : SlF Mk.cells W a1 xs) => joinI_c none a1 0 c1 0 n1 [] xs (xs.map Mk.pl) true (Lib.hid h3) (Lib.hid h4) W rfl HN1.out (slf_nilM W) h (by decide) (by omega) (fun e he => by cases he) HZ.out)
    have HSM := Lib.hid (fun a5 c5 W (h : SlF Mk.cells W a5 xs) (h' : SlF Mk.cells W a1 xs) => sameM_c a5 a1 c5 c1 n1 n1 xs xs true (Lib.hid ⟨fun _ => rfl, fun _ => rfl⟩) W HN1.out HN1.out h h' (by omega) (by omega))
    clear HR hlk h1 h2 h3 h4
    go_wp2_with fail
    refine (HJ.out _ hR.sl).mono ?_; rintro e W5 ⟨a5, c5, ms5, rfl, hm5, ho5, hq⟩; replace hb := chn hb hq; replace hR := hR.below hq; clear hq HJ
    obtain rfl : ms5 = xs := map_inj_ Mk.pl_inj hm5
    have hsl5 : SlF Mk.cells W5 a5 ms5 := own_slf (fun _ => rfl) ho5
    rw [HN1.out]
    clear hm5 ho5
    go_wp2_with fail
    refine (HJ2.out _ hR.sl).mono ?_; rintro e W6 ⟨a6, c6, ms6, rfl, hm6, ho6, hq⟩; replace hb := chn hb hq; replace hR := hR.below hq; replace hsl5 := hsl5.below hq; clear hq HJ2
    obtain rfl : ms6 = ms5 := map_inj_ Mk.pl_inj hm6
    have hsl6 : SlF Mk.cells W6 a6 ms6 := own_slf (fun _ => rfl) ho6
    rw [HN1.out]
    clear hm6 ho6
    go_wp2_with fail
    refine (HSM.out a5 c5 _ hsl5 hR.sl).mono ?_; rintro e W7 ⟨rfl, hq⟩; replace hb := chn hb hq; replace hR := hR.below hq; replace hsl6 := hsl6.below hq; clear hq hsl5
    go_wp2_with fail
    refine (HSM.out a6 c6 _ hsl6 hR.sl).mono ?_; rintro e W8 ⟨rfl, hq⟩; replace hb := chn hb hq; clear hq
    go_wp2
    go_ret
    exact ⟨rfl, hb⟩
end Go.Proofs.YtobbodbkdcbflabDoor
