/- The walks of l2Kids and of TreeList of both. Conditions: lists and texts are no longer than any can be; lists are shorter than a million. -/
import Derived.Test.YtkhbkhibjflgmaaDoorTreeW
import Derived.Test.YtkhbkhibjflgmaaDoorPathH
import Derived.Test.YtkhbkhibjflgmaaDoorReg
import Derived.Test.YtkhbkhibjflgmaaDoorPlT
import Derived.Test.YtkhbkhibjflgmaaDoorCut
namespace Go.Proofs.YtkhbkhibjflgmaaDoor
open Go.RowKit
/-- A slice of texts that the call made. -/
def MadeSt (L : List Bs) (w : World) (e : Ending) (w' : World) : Prop :=
  ∃ (v : Value) (ss : List ByteArray), e = .returned v ∧ ss.map (·.data.toList) = L ∧ w'.ownsRow w.heap.size 9 1 v ss.length (ss.map Value.string) ∧ Below w.heap.size w w'
theorem kids_snoc (t : List PE) (e : PE) (q : Bs) : kidsL (t ++ [e]) q = kidsL t q ++ if upL e.p = q then [nameL e.p] else [] := by
  unfold kidsL
  rw [List.filter_append, List.map_append]
  by_cases h : upL e.p = q
  · rw [if_pos h]; simp [h]
  · rw [if_neg h]; simp [h]
theorem kids_len (t : List PE) (q : Bs) : (kidsL t q).length ≤ t.length := by unfold kidsL; rw [List.length_map]; exact List.length_filter_le _ _
theorem take_pl (xs : List En) (k : Nat) (e : En) (he : xs[k]? = some e) : (xs.take (k + 1)).map En.pl = (xs.take k).map En.pl ++ [e.pl] := by
  have h1 := List.take_succ_eq_append_getElem (l := xs) (i := k) (List.getElem?_eq_some_iff.1 he).1
  rw [(List.getElem?_eq_some_iff.1 he).2] at h1
  rw [h1, List.map_append]; rfl
theorem name_str20 (s : ByteArray) : ∃ r : ByteArray, Hid (nameL s.data.toList = r.data.toList) := ⟨⟨(nameL s.data.toList).toArray⟩, by simp [Hid]⟩
set_option maxRecDepth 100000 in
set_option maxHeartbeats 4000000 in
theorem l2Kids_c (a : Option Addr) (c : Nat) (xs : List En) (q : ByteArray) (w : World) (hs : SlF En.cells w a xs) (hx : xs.length ≤ 1000000) (hz : ∀ e ∈ xs, e.p.size ≤ maxLen ∧ e.x.size ≤ maxLen) :
    Calls Tryd.prog 100 #[.slice a xs.length c, .string q] w (MadeSt (kidsL (xs.map En.pl) q.data.toList) w) := by
  have HE := strElt
  obtain ⟨n, hn⟩ : ∃ n, xs.length = n := ⟨_, rfl⟩
  have HN := Lib.hid hn
  have HZ := Lib.hid hz
  have HS := Lib.hid hs
  have HALL : Hid (xs.take n = xs) := by rw [Hid, ← hn, List.take_length]
  rw [hn] at hx ⊢
  clear hn hz hs
  go_enter Tryd.func100, Tryd.ntmps100
  go_wp2
  go_loopw [5, 6] (fun v i wr => ∃ (k : Nat) (ss : List ByteArray), k ≤ n ∧ i = .int .i64 k ∧ ss.map (·.data.toList) = kidsL ((xs.take k).map En.pl) q.data.toList ∧ wr.ownsRow w.heap.size 9 1 v ss.length (ss.map Value.string) ∧ Below w.heap.size w wr) (fun _ i _ => n - (intOf i).toNat)
  case atStart => exact ⟨0, [], Nat.zero_le _, rfl, rfl, World.ownsRow_lit w #[] 0 (Nat.le_refl _) (Nat.zero_le _) rfl, bellow_alloc _ _⟩
  case round =>
    obtain ⟨k, ss, hk, rfl, hss, hown, hb⟩ := hrel
    have HSS := Lib.hid hss
    clear hss
    by_cases hlt : k < n
    · skip
      obtain ⟨e, hee⟩ : ∃ e, xs[k]? = some e := ⟨_, List.getElem?_eq_getElem (by rw [HN.out]; exact hlt)⟩
      have hzz := HZ.out e (List.mem_of_getElem? hee)
      have h2 := HS.out.below hb
      obtain ⟨b, off, rfl, _⟩ := h2.addr (by rw [HN.out]; omega)
      obtain ⟨d0, d1, d2⟩ := en_at h2 k e hee
      have HSN : Hid (kidsL ((xs.take (k + 1)).map En.pl) q.data.toList = kidsL ((xs.take k).map En.pl) q.data.toList ++ if upL e.p.data.toList = q.data.toList then [nameL e.p.data.toList] else []) := by rw [Hid, take_pl xs k e hee, kids_snoc]; rfl
      have hsl : ss.length ≤ k := by
        have h3 := congrArg List.length HSS.out
        have h4 := kids_len ((xs.take k).map En.pl) q.data.toList
        simp only [List.length_map, List.length_take] at h3 h4
        omega
      obtain ⟨ep, ed, ex⟩ := e
      obtain ⟨u, hu, hus⟩ := up_str20 ep
      obtain ⟨m, hm⟩ := name_str20 ep
      clear h2 hee
      by_cases hq : u.data.toList = q.data.toList
      · have q1 := beqs_yes hq
        have HSM : Hid ((ss ++ [m]).map (·.data.toList) = kidsL ((xs.take (k + 1)).map En.pl) q.data.toList) := by
          rw [Hid, HSN.out, if_pos (by rw [hu.out]; exact hq), List.map_append, HSS.out, hm.out]; rfl
        clear hq
        go_wp2_with fail
        refine (sPathUp_c ep u hu _ hzz.1).mono ?_; rintro e W ⟨rfl, hq⟩; replace hb := chn hb hq; replace d0 := keepc hq d0; replace hown := own_below hown hq; clear hq
        go_wp2_with fail
        refine (sPathName_c ep m hm _ hzz.1).mono ?_; rintro e W ⟨rfl, hq⟩; replace hb := chn hb hq; replace hown := own_below hown hq; clear hq
        go_wp2_with (at_builtin; go_must (refine wp_app1 (by rfl) _ _ 55 (by rfl) HE w.heap.size w.heap.size w _ #[.string m] _ _ _ (by rfl) (by rfl) hown (by rfl) (by simp [Value.oneCell']) (by omega) hb.size hb (Nat.le_refl _) ?_); intro v' w1 hown1 hbel1 _ _)
        go_roundw
        case rel => exact ⟨k + 1, ss ++ [m], by omega, by go_num, HSM.out, by simpa using hown1, hbel1⟩
        case measure => simp [intOf]; omega
      · have q1 := beqs_no hq
        have HSM : Hid (ss.map (·.data.toList) = kidsL ((xs.take (k + 1)).map En.pl) q.data.toList) := by
          rw [Hid, HSN.out, if_neg (by rw [hu.out]; exact hq), List.append_nil]; exact HSS.out
        clear hq
        go_wp2_with fail
        refine (sPathUp_c ep u hu _ hzz.1).mono ?_; rintro e W ⟨rfl, hq⟩; replace hb := chn hb hq; replace hown := own_below hown hq; clear hq
        go_wp2
        go_roundw
        case rel => exact ⟨k + 1, ss, by omega, by go_num, HSM.out, hown, hb⟩
        case measure => simp [intOf]; omega
    · obtain rfl : k = n := by omega
      have HF : Hid (ss.map (·.data.toList) = kidsL (xs.map En.pl) q.data.toList) := by rw [Hid, HSS.out, HALL.out]
      go_wp2
      go_ret
      exact ⟨_, ss, rfl, HF.out, hown, hb⟩
end Go.Proofs.YtkhbkhibjflgmaaDoor
