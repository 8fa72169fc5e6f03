/- The walks of the reference's l3Diff and LayerDiff. What draws two trees: the walks of DrawTreeTurned and DrawLayerDiff. The walks of what looks through lists of texts: wpIn, wpWords. What draws a tree and what is done to it: the walk of DrawTreeDo. Plain laws of what is done to a tree: what the statements of chapter 2 ask. No program in sight. Rows that are laid side by side: what two appends leave. Conditions: each theorem's own. -/
import Derived.Test.YtdhbdcmnbhjjaaaGreatDoorB6
import Derived.Test.YtdhbdcmnbhjjaaaGreatDoorB7
import Derived.Test.YtdhbdcmnbhjjaaaGreatDoorB2
import Derived.Test.YtdhbdcmnbhjjaaaGreatDoorB1
import Derived.Deep.QuietTactic
import Derived.BigQuiet
import Derived.Test.YtdhbdcmnbhjjaaaGreatDoorB4
namespace Go.Proofs.YtdhbdcmnbhjjaaaGreatDoor
open Go.RowKit
def dstep (b : List PE) (out : List PM) (q : Bs) : List PM := match dmark b q with
  | some m => upsL 3 (putP PM.p out m) q
  | none => out
theorem diffL_fold (a b : List PE) : diffL a b = (turnedL a b).foldl (dstep b) [] := rfl
theorem dstep_snoc (ys : List En) (ss : List ByteArray) (k : Nat) (s : ByteArray) (h : ss[k]? = some s) :
    ((ss.take (k + 1)).map (·.data.toList)).foldl (dstep (ys.map En.pl)) [] = dstep (ys.map En.pl) (((ss.take k).map (·.data.toList)).foldl (dstep (ys.map En.pl)) []) s.data.toList := by
  rw [take_sl ss k s h, List.foldl_append]; rfl
theorem dstep_some {ys : List En} {s : ByteArray} {mm : Mk} (h : dmk ys s = some mm) (ms : List Mk) : dstep (ys.map En.pl) (ms.map Mk.pl) s.data.toList = upsL 3 ((putP Mk.bs ms mm).map Mk.pl) s.data.toList := by
  unfold dstep
  rw [dmk_pl, h, putP_map Mk.pl (f := Mk.bs) (g := PM.p) (fun _ => rfl)]; rfl
theorem dstep_none {ys : List En} {s : ByteArray} (h : dmk ys s = none) (l : List PM) : dstep (ys.map En.pl) l s.data.toList = l := by
  unfold dstep
  rw [dmk_pl, h]; rfl
theorem dir_up (ys : List En) (q u : ByteArray) (hu : upL q.data.toList = u.data.toList) : dirE ys u = decide (upCodeL (ys.map En.pl) q.data.toList = 0) := by
  unfold dirE upCodeL
  rw [hu, getE_pl]
  by_cases h : u.data.toList = [47]
  · rw [if_pos h, h]; rfl
  · rw [if_neg h, show (u.data.toList == [47]) = false by rw [beq_eq_false_iff_ne]; exact h]
    cases getE ys u with
    | none => rfl
    | some e =>
      obtain ⟨p, d, x⟩ := e
      cases d <;> rfl
theorem getE_mem {xs : List En} {q : ByteArray} {m : En} (h : getE xs q = some m) : m ∈ xs := by
  induction xs with
  | nil => cases h
  | cons e r ih =>
    rw [getE] at h
    split at h
    · injection h with h; subst h; simp
    · exact List.mem_cons_of_mem _ (ih h)
set_option maxRecDepth 100000 in
set_option maxHeartbeats 8000000 in
theorem l3Diff_c (b0 o0 c b1 o1 c' : Nat) (xs ys : List En) (w : World) (hs : SlF En.cells w (some ⟨b0, o0, none⟩) xs) (hs' : SlF En.cells w (some ⟨b1, o1, none⟩) ys) (hb0 : b0 < w.heap.size) (hc : xs.length ≤ c) (hcm : c ≤ maxLen) (hx : TOk (xs.map En.pl)) (hy : TOk (ys.map En.pl)) :
    Calls Tryz.prog 61 #[.slice (some ⟨b0, o0, none⟩) xs.length c, .slice (some ⟨b1, o1, none⟩) ys.length c'] w (MadeMl (diffL (xs.map En.pl) (ys.map En.pl)) w) := by
  have hx16 : xs.length ≤ 16 := by have := hx.most; rw [List.length_map] at this; exact this
  have hy16 : ys.length ≤ 16 := by have := hy.most; rw [List.length_map] at this; exact this
  have hym : ys.length ≤ maxLen := by unfold maxLen; omega
  have hb := bellow_alloc w (.cells #[] 43)
  have hlt1 : b0 < (w.alloc (.cells #[] 43)).heap.size := Nat.lt_of_lt_of_le hb0 hb.size
  have HT := Lib.hid (l2Turned_c b0 o0 c (some ⟨b1, o1, none⟩) c' xs ys (w.alloc (.cells #[] 43)) (hs.below hb) (hs'.below hb) hlt1 hc hcm hx hy)
  have HG := Lib.hid (fun (q : ByteArray) (o : Option En) (ho : Hid (lgetE ys q = o)) W (h : SlF En.cells W (some ⟨b1, o1, none⟩) ys) => l2Get_c (some ⟨b1, o1, none⟩) c' ys q o ho W h hym)
  have HD := Lib.hid (fun (q : ByteArray) (r : Bool) (hr : Hid (dirE ys q = r)) W (h : SlF En.cells W (some ⟨b1, o1, none⟩) ys) => l2Dir_c (some ⟨b1, o1, none⟩) c' ys q r hr W h hym)
  have HQ : Hid (∀ q ∈ turnedL (xs.map En.pl) (ys.map En.pl), pathOkL q = true) := fun q hq => turned_path hx hy hq
  have HQL : Hid ((turnedL (xs.map En.pl) (ys.map En.pl)).length ≤ 32) := by
    show _ ≤ _
    have h1 := turned_len (a := xs.map En.pl) (b := ys.map En.pl); have h2 := hx.most; have h3 := hy.most; omega
  have HDE : Hid (∀ e ∈ ys, e.d = true → e.x = ⟨#[]⟩) := fun e he hd => by
    have h := hy.ent e.pl (List.mem_map_of_mem he)
    unfold entOkL at h
    simp only [Bool.and_eq_true, Bool.or_eq_true, Bool.not_eq_true', beq_iff_eq] at h
    rcases h.2 with h | h
    · rw [show e.pl.d = e.d from rfl, hd] at h; cases h
    · exact bytes_eq h
  have HS' := Lib.hid hs'
  obtain ⟨n, hn⟩ : ∃ n, xs.length = n := ⟨_, rfl⟩
  obtain ⟨n', hn'⟩ : ∃ n, ys.length = n := ⟨_, rfl⟩
  rw [hn] at HT ⊢
  rw [hn'] at HT HG HD ⊢
  clear hn hn' hs hs' hx hy hx16 hy16 hym hb0 hc hcm hlt1
  go_enter Tryz.func61, Tryz.ntmps61
  go_wp2_with fail
  refine HT.out.mono ?_; rintro e W1 ⟨vv, ss, rfl, hss, oS, hq⟩
  have HB1 := Lib.hid (chn hb hq)
  have HB1S : Hid (w.heap.size ≤ W1.heap.size) := HB1.out.size
  obtain ⟨av, cv, rfl⟩ := own_shape oS
  have HSS := Lib.hid hss
  have HSL := Lib.hid (own_sls oS rfl)
  have HY1 := Lib.hid (HS'.out.below HB1.out)
  have HOW0 : Hid (OwnRd W1 w.heap.size (.slice (some ⟨w.heap.size, 0, none⟩) 0 0) []) := OwnRd.below ⟨w.heap.size, 0, rfl, Nat.zero_le _, Nat.zero_le _, World.ownsRow_lit w #[] 0 (Nat.le_refl _) (Nat.zero_le _) rfl⟩ hq
  have hp32 : ss.length ≤ 32 := by have := congrArg List.length hss; rw [List.length_map] at this; rw [this]; exact HQL.out
  have HPT : Hid (∀ s ∈ ss, pathOkL s.data.toList = true) := fun s h => HQ.out _ (by rw [← hss]; exact List.mem_map.2 ⟨s, h, rfl⟩)
  obtain ⟨p, hp⟩ : ∃ p, ss.length = p := ⟨_, rfl⟩
  have HP := Lib.hid hp
  have HALL : Hid (ss.take p = ss) := by rw [Hid, ← hp, List.take_length]
  rw [hp] at hp32 ⊢
  clear hss oS hq hp hb
  go_wp2
  go_loopw [5, 7] (fun v i wr => ∃ (k : Nat) (ms : List Mk), k ≤ p ∧ ms.length ≤ 4 * k ∧ i = .int .i64 k ∧ ms.map Mk.pl = ((ss.take k).map (·.data.toList)).foldl (dstep (ys.map En.pl)) [] ∧ (∀ m ∈ ms, m.k ≠ 0) ∧ OwnRd wr w.heap.size v ms ∧ Below W1.heap.size W1 wr) (fun _ i _ => p - (intOf i).toNat)
  case atStart => exact ⟨0, [], Nat.zero_le _, Nat.zero_le _, rfl, rfl, fun m hm => by simp at hm, HOW0.out, Below.refl _ _⟩
  case round =>
    obtain ⟨k, ms, hk, hml, rfl, hms, hkd, hown, hb⟩ := hrel
    have HMS := Lib.hid hms
    have HK := Lib.hid hkd
    clear hms hkd
    by_cases hlt : k < p
    · obtain ⟨q, hqq⟩ : ∃ q, ss[k]? = some q := ⟨_, List.getElem?_eq_getElem (by rw [HP.out]; exact hlt)⟩
      have hqp := HPT.out q (List.mem_of_getElem? hqq)
      have HQP := Lib.hid hqp
      have hqs : q.size ≤ maxLen := by have := (path_len hqp).2; rw [size_data] at this; unfold maxLen; omega
      obtain ⟨b, off, rfl, _, hc⟩ := (HSL.out.below hb) (by rw [HP.out]; omega)
      have d0 := hc k q hqq
      have hsy := HY1.out.below hb
      obtain ⟨o, ho⟩ : ∃ o, getE ys q = o := ⟨_, rfl⟩
      have HO : Hid (lgetE ys q = o) := by rw [Hid, lgetE, if_neg (path_ne_root hqp)]; exact ho
      have HSN0 := Lib.hid (dstep_snoc ys ss k q hqq)
      have i0 : (0 : Int) ≤ (k : Int) := by omega
      have i1 : (k : Int) < (p : Int) := by omega
      clear hc hqq hqp
      go_wp2_with fail
      refine (HG.out q o HO _ hsy).mono ?_; rintro e W ⟨rfl, hq⟩; replace hb := chn hb hq; replace hsy := SlF.below hsy hq; replace hown := hown.below hq; replace d0 := keepc hq d0; clear hq
      cases o with
      | some e =>
        obtain ⟨ep, ed, ex⟩ := e
        have hxe := HDE.out ⟨ep, ed, ex⟩ (getE_mem ho)
        cases ed with
        | true =>
          obtain rfl : ex = ⟨#[]⟩ := hxe rfl
          have HDM : Hid (dmk ys q = some ⟨q, 2, ⟨#[]⟩⟩) := by rw [Hid]; unfold dmk; rw [ho]; rfl
          clear ho
          obtain ⟨E, hE⟩ : ∃ E, Obj.cells #[.string ep, .bool true, .string ⟨#[]⟩] 39 = E := ⟨_, rfl⟩
          obtain ⟨M, hM⟩ : ∃ M, Obj.cells #[.string q, .int .i64 3, .string ⟨#[]⟩] 43 = M := ⟨_, rfl⟩
          have hsz : (W.alloc E).heap.size = W.heap.size + 1 := by simp
          have e1 : (W.alloc E).cell? ⟨W.heap.size, 1, none⟩ = some (.bool true) := hE ▸ new_cell W #[.string ep, .bool true, .string ⟨#[]⟩] 39 1 (.bool true) rfl
          have e2 : (W.alloc E).cell? ⟨W.heap.size, 2, none⟩ = some (.string ⟨#[]⟩) := hE ▸ new_cell W #[.string ep, .bool true, .string ⟨#[]⟩] 39 2 (.string ⟨#[]⟩) rfl
          have dE := keepc (bellow_alloc W E) d0
          have F2 := bellow_alloc (W.alloc E) M
          have F1 := (bellow_alloc W E).trans (F2.mono (by rw [hsz]; exact Nat.le_succ _))
          have m0 : ((W.alloc E).alloc M).cell? ⟨W.heap.size + 1, 0, none⟩ = some (.string q) := hsz ▸ hM ▸ new_cell (W.alloc E) #[.string q, .int .i64 3, .string ⟨#[]⟩] 43 0 (.string q) rfl
          have m1 : ((W.alloc E).alloc M).cell? ⟨W.heap.size + 1, 1, none⟩ = some (.int .i64 3) := hsz ▸ hM ▸ new_cell (W.alloc E) #[.string q, .int .i64 3, .string ⟨#[]⟩] 43 1 (.int .i64 3) rfl
          have m2 : ((W.alloc E).alloc M).cell? ⟨W.heap.size + 1, 2, none⟩ = some (.string ⟨#[]⟩) := hsz ▸ hM ▸ new_cell (W.alloc E) #[.string q, .int .i64 3, .string ⟨#[]⟩] 43 2 (.string ⟨#[]⟩) rfl
          have hfz : ∀ j, ((W.alloc E).alloc M).frozen? ⟨W.heap.size + 1, j, none⟩ = false := fun j => hsz ▸ hM ▸ new_free (W.alloc E) #[.string q, .int .i64 3, .string ⟨#[]⟩] 43 j
          have f0 := hfz 0
          have f1 := hfz 1
          have f2 := hfz 2
          clear hfz
          have dZ := keepc F1 d0
          have eZ1 := keepc F2 e1
          have eZ2 := keepc F2 e2
          have HSZ := Lib.hid hsz
          clear hsz
          subst hE hM
          go_wp2_with fail
          generalize (W.alloc (.cells #[.string ep, .bool true, .string ⟨#[]⟩] 39)).alloc (.cells #[.string q, .int .i64 3, .string ⟨#[]⟩] 43) = Z at F1 F2 m0 m1 m2 f0 f1 f2 dZ eZ1 eZ2 ⊢
          go_still_tail 7, (by kernel_rfl)
          repeat still_step
          (try refine wpStill_nil ?_)
          change wpList _ _ _ _ _ Z.drew
          replace F1 := F1.trans ((below_drew Z).mono F1.size)
          replace F2 := F2.trans ((below_drew Z).mono F2.size)
          replace m0 := keepc (below_drew Z) m0
          replace m1 := keepc (below_drew Z) m1
          replace m2 := keepc (below_drew Z) m2
          replace f0 : Z.drew.frozen? ⟨W.heap.size + 1, 0, none⟩ = false := f0
          replace f1 : Z.drew.frozen? ⟨W.heap.size + 1, 1, none⟩ = false := f1
          replace f2 : Z.drew.frozen? ⟨W.heap.size + 1, 2, none⟩ = false := f2
          generalize Z.drew = Z2 at F1 F2 m0 m1 m2 f0 f1 f2 ⊢
          clear dZ eZ1 eZ2 dE
          obtain ⟨p0, p1, p2⟩ := three_set0 Z2 (W.heap.size + 1) _ _ _ (.string q) (.int .i64 1) (.string ⟨#[]⟩) m0 m1 m2
          have G1 := ((F1.setCell (p := ⟨W.heap.size + 1, 0, none⟩) (Nat.le_succ _) (.string q)).setCell (p := ⟨W.heap.size + 1, 1, none⟩) (Nat.le_succ _) (.int .i64 1)).setCell (p := ⟨W.heap.size + 1, 2, none⟩) (Nat.le_succ _) (.string ⟨#[]⟩)
          have G2 := ((F2.setCell (p := ⟨W.heap.size + 1, 0, none⟩) (Nat.le_of_eq HSZ.out) (.string q)).setCell (p := ⟨W.heap.size + 1, 1, none⟩) (Nat.le_of_eq HSZ.out) (.int .i64 1)).setCell (p := ⟨W.heap.size + 1, 2, none⟩) (Nat.le_of_eq HSZ.out) (.string ⟨#[]⟩)
          have dG := keepc G1 d0
          have eG1 := keepc G2 e1
          have eG2 := keepc G2 e2
          go_wp2_with fail
          have G3 := G1.setCell (p := ⟨W.heap.size + 1, 1, none⟩) (Nat.le_succ _) (.int .i64 2)
          replace d0 := keepc G3 d0
          replace hb := chn hb G3
          replace hown := hown.below G3
          replace p0 := (World.cell?_setCell_other _ (a := ⟨W.heap.size + 1, 1, none⟩) (b := ⟨W.heap.size + 1, 0, none⟩) (.int .i64 2) (by simp)).trans p0
          replace p2 := (World.cell?_setCell_other _ (a := ⟨W.heap.size + 1, 1, none⟩) (b := ⟨W.heap.size + 1, 2, none⟩) (.int .i64 2) (by simp)).trans p2
          replace p1 := World.cell?_setCell_same _ _ (.int .i64 2) p1
          clear F1 F2 m0 m1 m2 f0 f1 f2 G1 G2 G3 dG eG1 eG2 e1 e2
          have HOWN := Lib.hid hown
          have HBB := Lib.hid hb
          clear hown hb
          refine wp_region_held_drew (S := fun w' => Below _ _ w') (by kernel_rfl) (below_drew _) (fun hHeld => ?_)
          refine tk (i := 0) (d := (some 59)) (v := ?_) rfl rfl (by kernel_rfl) (by kernel_rfl) (by kernel_rfl) (fun _ _ _ h => h) (Or.inl ⟨by rfl, ?_⟩) hHeld ?_
          rotate_left
          · intro w hSw; have zd0 := keepc hSw d0; have zp0 := keepc hSw p0; have zp1 := keepc hSw p1; have zp2 := keepc hSw p2; clear hSw; go_simp <;> with_reducible rfl
          (try simp only [Act.put, List.setIfInBounds_toArray, List.set_cons_zero, List.set_cons_succ])
          refine tk (i := 1) (d := (some 60)) (v := ?_) rfl rfl (by kernel_rfl) (by kernel_rfl) (by kernel_rfl) (fun _ _ _ h => h) (Or.inl ⟨by rfl, ?_⟩) hHeld ?_
          rotate_left
          · intro w hSw; have zd0 := keepc hSw d0; have zp0 := keepc hSw p0; have zp1 := keepc hSw p1; have zp2 := keepc hSw p2; clear hSw; go_simp <;> with_reducible rfl
          (try simp only [Act.put, List.setIfInBounds_toArray, List.set_cons_zero, List.set_cons_succ])
          refine tk (i := 3) (d := (some 62)) (v := ?_) rfl rfl (by kernel_rfl) (by kernel_rfl) (by kernel_rfl) (fun _ _ _ h => h) (Or.inl ⟨by rfl, ?_⟩) hHeld ?_
          rotate_left
          · intro w hSw; have zd0 := keepc hSw d0; have zp0 := keepc hSw p0; have zp1 := keepc hSw p1; have zp2 := keepc hSw p2; clear hSw; go_simp <;> with_reducible rfl
          (try simp only [Act.put, List.setIfInBounds_toArray, List.set_cons_zero, List.set_cons_succ])
          refine tk (i := 4) (d := (some 63)) (v := ?_) rfl rfl (by kernel_rfl) (by kernel_rfl) (by kernel_rfl) (fun _ _ _ h => h) (Or.inl ⟨by rfl, ?_⟩) hHeld ?_
          rotate_left
          · intro w hSw; have zd0 := keepc hSw d0; have zp0 := keepc hSw p0; have zp1 := keepc hSw p1; have zp2 := keepc hSw p2; clear hSw; go_simp <;> with_reducible rfl
          (try simp only [Act.put, List.setIfInBounds_toArray, List.set_cons_zero, List.set_cons_succ])
          refine tk (i := 5) (d := (some 64)) (v := ?_) rfl rfl (by kernel_rfl) (by kernel_rfl) (by kernel_rfl) (fun _ _ _ h => h) (Or.inl ⟨by rfl, ?_⟩) hHeld ?_
          rotate_left
          · intro w hSw; have zd0 := keepc hSw d0; have zp0 := keepc hSw p0; have zp1 := keepc hSw p1; have zp2 := keepc hSw p2; clear hSw; go_simp <;> with_reducible rfl
          (try simp only [Act.put, List.setIfInBounds_toArray, List.set_cons_zero, List.set_cons_succ])
          refine tk (i := 6) (d := (some 65)) (v := ?_) rfl rfl (by kernel_rfl) (by kernel_rfl) (by kernel_rfl) (fun _ _ _ h => h) (Or.inl ⟨by rfl, ?_⟩) hHeld ?_
          rotate_left
          · intro w hSw; have zd0 := keepc hSw d0; have zp0 := keepc hSw p0; have zp1 := keepc hSw p1; have zp2 := keepc hSw p2; clear hSw; go_simp <;> with_reducible rfl
          (try simp only [Act.put, List.setIfInBounds_toArray, List.set_cons_zero, List.set_cons_succ])
          refine wpAnyH_ready (rs := [2]) (by kernel_rfl) (by simp) ?_
          refine AllReadyH.cons rfl (fun K hK => ?_) AllReadyH.nil
          go_simp
          refine (l3PutO_c w.heap.size _ ms ⟨q,2,⟨#[]⟩⟩ _ (HOWN.out.below hHeld) (Nat.le_trans HB1S.out (chn HBB.out hHeld).size) (by omega)).mono ?_; rintro e W ⟨v2,rfl,ho2,hq⟩; have hm3 := mput_len ms ⟨q,2,⟨#[]⟩⟩
          go_simp
          refine hK.out _ _ (chn hHeld hq) (fun h => ?_)
          clear hK K; replace hHeld := h; clear h hq
          (try simp only [Act.put, List.setIfInBounds_toArray, List.set_cons_zero, List.set_cons_succ])
          refine wpAnyH_ready (rs := [7]) (by kernel_rfl) (by simp) ?_
          refine AllReadyH.cons rfl (fun K hK => ?_) AllReadyH.nil
          go_simp
          refine (l3Ups_c 3 v2 _ q w.heap.size _ HQP.out (levels_3 _) (kinds_put HK.out (show (2 : Int) ≠ 0 by decide)) ho2 (Nat.le_trans HB1S.out (chn HBB.out hHeld).size) (by omega)).mono ?_; rintro e W ⟨v3,ns,rfl,hns,hnk,hnl,ho3,hq⟩
          go_simp
          refine hK.out _ _ (chn hHeld hq) (fun h => ?_)
          clear hK K; replace hHeld := h; clear h hq
          (try simp only [Act.put, List.setIfInBounds_toArray, List.set_cons_zero, List.set_cons_succ])
          refine tk (i := 8) (d := (some 5)) (v := ?_) rfl rfl (by kernel_rfl) (by kernel_rfl) (by kernel_rfl) (fun _ _ _ h => h) (Or.inl ⟨by rfl, ?_⟩) hHeld ?_
          rotate_left
          · intro w hSw; have zd0 := keepc hSw d0; have zp0 := keepc hSw p0; have zp1 := keepc hSw p1; have zp2 := keepc hSw p2; clear hSw; go_simp <;> with_reducible rfl
          (try simp only [Act.put, List.setIfInBounds_toArray, List.set_cons_zero, List.set_cons_succ])
          refine wpAnyH_done (by kernel_rfl) ?_ _
          have hbf := chn HBB.out hHeld
          have HNS : Hid (ns.map Mk.pl = ((ss.take (k + 1)).map (·.data.toList)).foldl (dstep (ys.map En.pl)) []) := by
            rw [Hid, hns, HSN0.out, ← HMS.out, dstep_some (mm := ⟨q, 2, ⟨#[]⟩⟩) HDM.out]
          clear hns hHeld d0 p0 p1 p2
          go_wp2
          go_roundw
          case rel => exact ⟨k + 1, ns, by omega, by omega, by go_num, HNS.out, hnk, ho3, hbf⟩
          case measure => simp [intOf]; omega
        | false =>
          have HDM : Hid (dmk ys q = some ⟨q, 1, ex⟩) := by rw [Hid]; unfold dmk; rw [ho]; rfl
          clear ho
          obtain ⟨E, hE⟩ : ∃ E, Obj.cells #[.string ep, .bool false, .string ex] 39 = E := ⟨_, rfl⟩
          obtain ⟨M, hM⟩ : ∃ M, Obj.cells #[.string q, .int .i64 3, .string ⟨#[]⟩] 43 = M := ⟨_, rfl⟩
          have hsz : (W.alloc E).heap.size = W.heap.size + 1 := by simp
          have e1 : (W.alloc E).cell? ⟨W.heap.size, 1, none⟩ = some (.bool false) := hE ▸ new_cell W #[.string ep, .bool false, .string ex] 39 1 (.bool false) rfl
          have e2 : (W.alloc E).cell? ⟨W.heap.size, 2, none⟩ = some (.string ex) := hE ▸ new_cell W #[.string ep, .bool false, .string ex] 39 2 (.string ex) rfl
          have dE := keepc (bellow_alloc W E) d0
          have F2 := bellow_alloc (W.alloc E) M
          have F1 := (bellow_alloc W E).trans (F2.mono (by rw [hsz]; exact Nat.le_succ _))
          have m0 : ((W.alloc E).alloc M).cell? ⟨W.heap.size + 1, 0, none⟩ = some (.string q) := hsz ▸ hM ▸ new_cell (W.alloc E) #[.string q, .int .i64 3, .string ⟨#[]⟩] 43 0 (.string q) rfl
          have m1 : ((W.alloc E).alloc M).cell? ⟨W.heap.size + 1, 1, none⟩ = some (.int .i64 3) := hsz ▸ hM ▸ new_cell (W.alloc E) #[.string q, .int .i64 3, .string ⟨#[]⟩] 43 1 (.int .i64 3) rfl
          have m2 : ((W.alloc E).alloc M).cell? ⟨W.heap.size + 1, 2, none⟩ = some (.string ⟨#[]⟩) := hsz ▸ hM ▸ new_cell (W.alloc E) #[.string q, .int .i64 3, .string ⟨#[]⟩] 43 2 (.string ⟨#[]⟩) rfl
          have hfz : ∀ j, ((W.alloc E).alloc M).frozen? ⟨W.heap.size + 1, j, none⟩ = false := fun j => hsz ▸ hM ▸ new_free (W.alloc E) #[.string q, .int .i64 3, .string ⟨#[]⟩] 43 j
          have f0 := hfz 0
          have f1 := hfz 1
          have f2 := hfz 2
          clear hfz
          have dZ := keepc F1 d0
          have eZ1 := keepc F2 e1
          have eZ2 := keepc F2 e2
          have HSZ := Lib.hid hsz
          clear hsz
          subst hE hM
          go_wp2_with fail
          generalize (W.alloc (.cells #[.string ep, .bool false, .string ex] 39)).alloc (.cells #[.string q, .int .i64 3, .string ⟨#[]⟩] 43) = Z at F1 F2 m0 m1 m2 f0 f1 f2 dZ eZ1 eZ2 ⊢
          go_still_tail 7, (by kernel_rfl)
          repeat still_step
          (try refine wpStill_nil ?_)
          change wpList _ _ _ _ _ Z.drew
          replace F1 := F1.trans ((below_drew Z).mono F1.size)
          replace F2 := F2.trans ((below_drew Z).mono F2.size)
          replace m0 := keepc (below_drew Z) m0
          replace m1 := keepc (below_drew Z) m1
          replace m2 := keepc (below_drew Z) m2
          replace f0 : Z.drew.frozen? ⟨W.heap.size + 1, 0, none⟩ = false := f0
          replace f1 : Z.drew.frozen? ⟨W.heap.size + 1, 1, none⟩ = false := f1
          replace f2 : Z.drew.frozen? ⟨W.heap.size + 1, 2, none⟩ = false := f2
          generalize Z.drew = Z2 at F1 F2 m0 m1 m2 f0 f1 f2 ⊢
          clear dZ eZ1 eZ2 dE
          obtain ⟨p0, p1, p2⟩ := three_set0 Z2 (W.heap.size + 1) _ _ _ (.string q) (.int .i64 1) (.string ex) m0 m1 m2
          have G1 := ((F1.setCell (p := ⟨W.heap.size + 1, 0, none⟩) (Nat.le_succ _) (.string q)).setCell (p := ⟨W.heap.size + 1, 1, none⟩) (Nat.le_succ _) (.int .i64 1)).setCell (p := ⟨W.heap.size + 1, 2, none⟩) (Nat.le_succ _) (.string ex)
          have G2 := ((F2.setCell (p := ⟨W.heap.size + 1, 0, none⟩) (Nat.le_of_eq HSZ.out) (.string q)).setCell (p := ⟨W.heap.size + 1, 1, none⟩) (Nat.le_of_eq HSZ.out) (.int .i64 1)).setCell (p := ⟨W.heap.size + 1, 2, none⟩) (Nat.le_of_eq HSZ.out) (.string ex)
          have dG := keepc G1 d0
          have eG1 := keepc G2 e1
          have eG2 := keepc G2 e2
          go_wp2_with fail
          replace d0 := dG
          replace hb := chn hb G1
          replace hown := hown.below G1
          clear F1 F2 m0 m1 m2 f0 f1 f2 G1 G2 dG eG1 eG2 e1 e2
          have HOWN := Lib.hid hown
          have HBB := Lib.hid hb
          clear hown hb
          refine wp_region_held_drew (S := fun w' => Below _ _ w') (by kernel_rfl) (below_drew _) (fun hHeld => ?_)
          refine tk (i := 0) (d := (some 59)) (v := ?_) rfl rfl (by kernel_rfl) (by kernel_rfl) (by kernel_rfl) (fun _ _ _ h => h) (Or.inl ⟨by rfl, ?_⟩) hHeld ?_
          rotate_left
          · intro w hSw; have zd0 := keepc hSw d0; have zp0 := keepc hSw p0; have zp1 := keepc hSw p1; have zp2 := keepc hSw p2; clear hSw; go_simp <;> with_reducible rfl
          (try simp only [Act.put, List.setIfInBounds_toArray, List.set_cons_zero, List.set_cons_succ])
          refine tk (i := 1) (d := (some 60)) (v := ?_) rfl rfl (by kernel_rfl) (by kernel_rfl) (by kernel_rfl) (fun _ _ _ h => h) (Or.inl ⟨by rfl, ?_⟩) hHeld ?_
          rotate_left
          · intro w hSw; have zd0 := keepc hSw d0; have zp0 := keepc hSw p0; have zp1 := keepc hSw p1; have zp2 := keepc hSw p2; clear hSw; go_simp <;> with_reducible rfl
          (try simp only [Act.put, List.setIfInBounds_toArray, List.set_cons_zero, List.set_cons_succ])
          refine tk (i := 3) (d := (some 62)) (v := ?_) rfl rfl (by kernel_rfl) (by kernel_rfl) (by kernel_rfl) (fun _ _ _ h => h) (Or.inl ⟨by rfl, ?_⟩) hHeld ?_
          rotate_left
          · intro w hSw; have zd0 := keepc hSw d0; have zp0 := keepc hSw p0; have zp1 := keepc hSw p1; have zp2 := keepc hSw p2; clear hSw; go_simp <;> with_reducible rfl
          (try simp only [Act.put, List.setIfInBounds_toArray, List.set_cons_zero, List.set_cons_succ])
          refine tk (i := 4) (d := (some 63)) (v := ?_) rfl rfl (by kernel_rfl) (by kernel_rfl) (by kernel_rfl) (fun _ _ _ h => h) (Or.inl ⟨by rfl, ?_⟩) hHeld ?_
          rotate_left
          · intro w hSw; have zd0 := keepc hSw d0; have zp0 := keepc hSw p0; have zp1 := keepc hSw p1; have zp2 := keepc hSw p2; clear hSw; go_simp <;> with_reducible rfl
          (try simp only [Act.put, List.setIfInBounds_toArray, List.set_cons_zero, List.set_cons_succ])
          refine tk (i := 5) (d := (some 64)) (v := ?_) rfl rfl (by kernel_rfl) (by kernel_rfl) (by kernel_rfl) (fun _ _ _ h => h) (Or.inl ⟨by rfl, ?_⟩) hHeld ?_
          rotate_left
          · intro w hSw; have zd0 := keepc hSw d0; have zp0 := keepc hSw p0; have zp1 := keepc hSw p1; have zp2 := keepc hSw p2; clear hSw; go_simp <;> with_reducible rfl
          (try simp only [Act.put, List.setIfInBounds_toArray, List.set_cons_zero, List.set_cons_succ])
          refine tk (i := 6) (d := (some 65)) (v := ?_) rfl rfl (by kernel_rfl) (by kernel_rfl) (by kernel_rfl) (fun _ _ _ h => h) (Or.inl ⟨by rfl, ?_⟩) hHeld ?_
          rotate_left
          · intro w hSw; have zd0 := keepc hSw d0; have zp0 := keepc hSw p0; have zp1 := keepc hSw p1; have zp2 := keepc hSw p2; clear hSw; go_simp <;> with_reducible rfl
          (try simp only [Act.put, List.setIfInBounds_toArray, List.set_cons_zero, List.set_cons_succ])
          refine wpAnyH_ready (rs := [2]) (by kernel_rfl) (by simp) ?_
          refine AllReadyH.cons rfl (fun K hK => ?_) AllReadyH.nil
          go_simp
          refine (l3PutO_c w.heap.size _ ms ⟨q,1,ex⟩ _ (HOWN.out.below hHeld) (Nat.le_trans HB1S.out (chn HBB.out hHeld).size) (by omega)).mono ?_; rintro e W ⟨v2,rfl,ho2,hq⟩; have hm3 := mput_len ms ⟨q,1,ex⟩
          go_simp
          refine hK.out _ _ (chn hHeld hq) (fun h => ?_)
          clear hK K; replace hHeld := h; clear h hq
          (try simp only [Act.put, List.setIfInBounds_toArray, List.set_cons_zero, List.set_cons_succ])
          refine wpAnyH_ready (rs := [7]) (by kernel_rfl) (by simp) ?_
          refine AllReadyH.cons rfl (fun K hK => ?_) AllReadyH.nil
          go_simp
          refine (l3Ups_c 3 v2 _ q w.heap.size _ HQP.out (levels_3 _) (kinds_put HK.out (show (1 : Int) ≠ 0 by decide)) ho2 (Nat.le_trans HB1S.out (chn HBB.out hHeld).size) (by omega)).mono ?_; rintro e W ⟨v3,ns,rfl,hns,hnk,hnl,ho3,hq⟩
          go_simp
          refine hK.out _ _ (chn hHeld hq) (fun h => ?_)
          clear hK K; replace hHeld := h; clear h hq
          (try simp only [Act.put, List.setIfInBounds_toArray, List.set_cons_zero, List.set_cons_succ])
          refine tk (i := 8) (d := (some 5)) (v := ?_) rfl rfl (by kernel_rfl) (by kernel_rfl) (by kernel_rfl) (fun _ _ _ h => h) (Or.inl ⟨by rfl, ?_⟩) hHeld ?_
          rotate_left
          · intro w hSw; have zd0 := keepc hSw d0; have zp0 := keepc hSw p0; have zp1 := keepc hSw p1; have zp2 := keepc hSw p2; clear hSw; go_simp <;> with_reducible rfl
          (try simp only [Act.put, List.setIfInBounds_toArray, List.set_cons_zero, List.set_cons_succ])
          refine wpAnyH_done (by kernel_rfl) ?_ _
          have hbf := chn HBB.out hHeld
          have HNS : Hid (ns.map Mk.pl = ((ss.take (k + 1)).map (·.data.toList)).foldl (dstep (ys.map En.pl)) []) := by
            rw [Hid, hns, HSN0.out, ← HMS.out, dstep_some (mm := ⟨q, 1, ex⟩) HDM.out]
          clear hns hHeld d0 p0 p1 p2
          go_wp2
          go_roundw
          case rel => exact ⟨k + 1, ns, by omega, by omega, by go_num, HNS.out, hnk, ho3, hbf⟩
          case measure => simp [intOf]; omega
      | none =>
        obtain ⟨u, hu⟩ := str_of20 (upL q.data.toList)
        have HU := Lib.hid hu
        obtain ⟨r, hr⟩ : ∃ r, dirE ys u = r := ⟨_, rfl⟩
        have HR := Lib.hid hr
        have hud := dir_up ys q u hu
        rw [hr] at hud
        obtain ⟨E, hE⟩ : ∃ E, Obj.cells #[.string ⟨#[]⟩, .bool false, .string ⟨#[]⟩] 39 = E := ⟨_, rfl⟩
        obtain ⟨M, hM⟩ : ∃ M, Obj.cells #[.string q, .int .i64 3, .string ⟨#[]⟩] 43 = M := ⟨_, rfl⟩
        have hsz : (W.alloc E).heap.size = W.heap.size + 1 := by simp
        have e1 : (W.alloc E).cell? ⟨W.heap.size, 1, none⟩ = some (.bool false) := hE ▸ new_cell W #[.string ⟨#[]⟩, .bool false, .string ⟨#[]⟩] 39 1 (.bool false) rfl
        have e2 : (W.alloc E).cell? ⟨W.heap.size, 2, none⟩ = some (.string ⟨#[]⟩) := hE ▸ new_cell W #[.string ⟨#[]⟩, .bool false, .string ⟨#[]⟩] 39 2 (.string ⟨#[]⟩) rfl
        have dE := keepc (bellow_alloc W E) d0
        have F2 := bellow_alloc (W.alloc E) M
        have F1 := (bellow_alloc W E).trans (F2.mono (by rw [hsz]; exact Nat.le_succ _))
        have m0 : ((W.alloc E).alloc M).cell? ⟨W.heap.size + 1, 0, none⟩ = some (.string q) := hsz ▸ hM ▸ new_cell (W.alloc E) #[.string q, .int .i64 3, .string ⟨#[]⟩] 43 0 (.string q) rfl
        have m1 : ((W.alloc E).alloc M).cell? ⟨W.heap.size + 1, 1, none⟩ = some (.int .i64 3) := hsz ▸ hM ▸ new_cell (W.alloc E) #[.string q, .int .i64 3, .string ⟨#[]⟩] 43 1 (.int .i64 3) rfl
        have m2 : ((W.alloc E).alloc M).cell? ⟨W.heap.size + 1, 2, none⟩ = some (.string ⟨#[]⟩) := hsz ▸ hM ▸ new_cell (W.alloc E) #[.string q, .int .i64 3, .string ⟨#[]⟩] 43 2 (.string ⟨#[]⟩) rfl
        have hfz : ∀ j, ((W.alloc E).alloc M).frozen? ⟨W.heap.size + 1, j, none⟩ = false := fun j => hsz ▸ hM ▸ new_free (W.alloc E) #[.string q, .int .i64 3, .string ⟨#[]⟩] 43 j
        have f0 := hfz 0
        have f1 := hfz 1
        have f2 := hfz 2
        clear hfz
        have dZ := keepc F1 d0
        have eZ1 := keepc F2 e1
        have eZ2 := keepc F2 e2
        have HSZ := Lib.hid hsz
        clear hsz
        subst hE hM
        clear e1 e2 eZ1 eZ2 f0 f1 f2
        go_wp2_with fail
        refine (sPathUp_c q u HU _ hqs).mono ?_; rintro e W5 ⟨rfl, hq⟩
        replace F1 := F1.trans (hq.mono F1.size)
        replace m0 := keepc hq m0
        replace m1 := keepc hq m1
        replace m2 := keepc hq m2
        clear hq
        replace hsy := SlF.below hsy F1
        go_wp2_with fail
        refine (HD.out u r HR _ hsy).mono ?_; rintro e W6 ⟨rfl, rfl⟩
        cases r with
        | false =>
          have hdn : dmk ys q = none := by
            unfold dmk; rw [ho]
            have h : upCodeL (ys.map En.pl) q.data.toList ≠ 0 := by simpa using hud.symm
            simp only [if_neg h]
          have HNS : Hid (ms.map Mk.pl = ((ss.take (k + 1)).map (·.data.toList)).foldl (dstep (ys.map En.pl)) []) := by rw [Hid, HSN0.out, ← HMS.out, dstep_none hdn]
          clear hdn hud ho hu hr
          go_wp2
          go_roundw
          case rel => exact ⟨k + 1, ms, by omega, by omega, by go_num, HNS.out, HK.out, hown.below F1, chn hb F1⟩
          case measure => simp [intOf]; omega
        | true =>
          have HDM : Hid (dmk ys q = some ⟨q, 3, ⟨#[]⟩⟩) := by
            rw [Hid]; unfold dmk; rw [ho]
            have h : upCodeL (ys.map En.pl) q.data.toList = 0 := by simpa using hud.symm
            simp only [if_pos h]
          have p0 := m0
          have p1 := m1
          have p2 := m2
          replace d0 := keepc F1 d0
          replace hb := chn hb F1
          replace hown := hown.below F1
          clear hud ho hu hr m0 m1 m2 dE dZ F1 F2 hsy
          go_wp2_with fail
          have HOWN := Lib.hid hown
          have HBB := Lib.hid hb
          clear hown hb
          refine wp_region_held_drew (S := fun w' => Below _ _ w') (by kernel_rfl) (below_drew _) (fun hHeld => ?_)
          refine tk (i := 0) (d := (some 59)) (v := ?_) rfl rfl (by kernel_rfl) (by kernel_rfl) (by kernel_rfl) (fun _ _ _ h => h) (Or.inl ⟨by rfl, ?_⟩) hHeld ?_
          rotate_left
          · intro w hSw; have zd0 := keepc hSw d0; have zp0 := keepc hSw p0; have zp1 := keepc hSw p1; have zp2 := keepc hSw p2; clear hSw; go_simp <;> with_reducible rfl
          (try simp only [Act.put, List.setIfInBounds_toArray, List.set_cons_zero, List.set_cons_succ])
          refine tk (i := 1) (d := (some 60)) (v := ?_) rfl rfl (by kernel_rfl) (by kernel_rfl) (by kernel_rfl) (fun _ _ _ h => h) (Or.inl ⟨by rfl, ?_⟩) hHeld ?_
          rotate_left
          · intro w hSw; have zd0 := keepc hSw d0; have zp0 := keepc hSw p0; have zp1 := keepc hSw p1; have zp2 := keepc hSw p2; clear hSw; go_simp <;> with_reducible rfl
          (try simp only [Act.put, List.setIfInBounds_toArray, List.set_cons_zero, List.set_cons_succ])
          refine tk (i := 3) (d := (some 62)) (v := ?_) rfl rfl (by kernel_rfl) (by kernel_rfl) (by kernel_rfl) (fun _ _ _ h => h) (Or.inl ⟨by rfl, ?_⟩) hHeld ?_
          rotate_left
          · intro w hSw; have zd0 := keepc hSw d0; have zp0 := keepc hSw p0; have zp1 := keepc hSw p1; have zp2 := keepc hSw p2; clear hSw; go_simp <;> with_reducible rfl
          (try simp only [Act.put, List.setIfInBounds_toArray, List.set_cons_zero, List.set_cons_succ])
          refine tk (i := 4) (d := (some 63)) (v := ?_) rfl rfl (by kernel_rfl) (by kernel_rfl) (by kernel_rfl) (fun _ _ _ h => h) (Or.inl ⟨by rfl, ?_⟩) hHeld ?_
          rotate_left
          · intro w hSw; have zd0 := keepc hSw d0; have zp0 := keepc hSw p0; have zp1 := keepc hSw p1; have zp2 := keepc hSw p2; clear hSw; go_simp <;> with_reducible rfl
          (try simp only [Act.put, List.setIfInBounds_toArray, List.set_cons_zero, List.set_cons_succ])
          refine tk (i := 5) (d := (some 64)) (v := ?_) rfl rfl (by kernel_rfl) (by kernel_rfl) (by kernel_rfl) (fun _ _ _ h => h) (Or.inl ⟨by rfl, ?_⟩) hHeld ?_
          rotate_left
          · intro w hSw; have zd0 := keepc hSw d0; have zp0 := keepc hSw p0; have zp1 := keepc hSw p1; have zp2 := keepc hSw p2; clear hSw; go_simp <;> with_reducible rfl
          (try simp only [Act.put, List.setIfInBounds_toArray, List.set_cons_zero, List.set_cons_succ])
          refine tk (i := 6) (d := (some 65)) (v := ?_) rfl rfl (by kernel_rfl) (by kernel_rfl) (by kernel_rfl) (fun _ _ _ h => h) (Or.inl ⟨by rfl, ?_⟩) hHeld ?_
          rotate_left
          · intro w hSw; have zd0 := keepc hSw d0; have zp0 := keepc hSw p0; have zp1 := keepc hSw p1; have zp2 := keepc hSw p2; clear hSw; go_simp <;> with_reducible rfl
          (try simp only [Act.put, List.setIfInBounds_toArray, List.set_cons_zero, List.set_cons_succ])
          refine wpAnyH_ready (rs := [2]) (by kernel_rfl) (by simp) ?_
          refine AllReadyH.cons rfl (fun K hK => ?_) AllReadyH.nil
          go_simp
          refine (l3PutO_c w.heap.size _ ms ⟨q,3,⟨#[]⟩⟩ _ (HOWN.out.below hHeld) (Nat.le_trans HB1S.out (chn HBB.out hHeld).size) (by omega)).mono ?_; rintro e W ⟨v2,rfl,ho2,hq⟩; have hm3 := mput_len ms ⟨q,3,⟨#[]⟩⟩
          go_simp
          refine hK.out _ _ (chn hHeld hq) (fun h => ?_)
          clear hK K; replace hHeld := h; clear h hq
          (try simp only [Act.put, List.setIfInBounds_toArray, List.set_cons_zero, List.set_cons_succ])
          refine wpAnyH_ready (rs := [7]) (by kernel_rfl) (by simp) ?_
          refine AllReadyH.cons rfl (fun K hK => ?_) AllReadyH.nil
          go_simp
          refine (l3Ups_c 3 v2 _ q w.heap.size _ HQP.out (levels_3 _) (kinds_put HK.out (show (3 : Int) ≠ 0 by decide)) ho2 (Nat.le_trans HB1S.out (chn HBB.out hHeld).size) (by omega)).mono ?_; rintro e W ⟨v3,ns,rfl,hns,hnk,hnl,ho3,hq⟩
          go_simp
          refine hK.out _ _ (chn hHeld hq) (fun h => ?_)
          clear hK K; replace hHeld := h; clear h hq
          (try simp only [Act.put, List.setIfInBounds_toArray, List.set_cons_zero, List.set_cons_succ])
          refine tk (i := 8) (d := (some 5)) (v := ?_) rfl rfl (by kernel_rfl) (by kernel_rfl) (by kernel_rfl) (fun _ _ _ h => h) (Or.inl ⟨by rfl, ?_⟩) hHeld ?_
          rotate_left
          · intro w hSw; have zd0 := keepc hSw d0; have zp0 := keepc hSw p0; have zp1 := keepc hSw p1; have zp2 := keepc hSw p2; clear hSw; go_simp <;> with_reducible rfl
          (try simp only [Act.put, List.setIfInBounds_toArray, List.set_cons_zero, List.set_cons_succ])
          refine wpAnyH_done (by kernel_rfl) ?_ _
          have hbf := chn HBB.out hHeld
          have HNS : Hid (ns.map Mk.pl = ((ss.take (k + 1)).map (·.data.toList)).foldl (dstep (ys.map En.pl)) []) := by
            rw [Hid, hns, HSN0.out, ← HMS.out, dstep_some (mm := ⟨q, 3, ⟨#[]⟩⟩) HDM.out]
          clear hns hHeld d0 p0 p1 p2
          go_wp2
          go_roundw
          case rel => exact ⟨k + 1, ns, by omega, by omega, by go_num, HNS.out, hnk, ho3, hbf⟩
          case measure => simp [intOf]; omega
    · obtain rfl : k = p := by omega
      have HEQ : Hid (ms.map Mk.pl = diffL (xs.map En.pl) (ys.map En.pl)) := by rw [Hid, diffL_fold, ← HSS.out, HMS.out, HALL.out]
      obtain ⟨g, c2, rfl, g1, g2, g3⟩ := hown
      go_wp2
      go_ret
      exact ⟨_, c2, ms, rfl, HEQ.out, g3, HB1.out.trans (hb.mono HB1.out.size)⟩
set_option maxRecDepth 100000 in
set_option maxHeartbeats 8000000 in
theorem sLayerDiff_c (a a' : Option Addr) (c c' : Nat) (xs ys : List En) (w : World) (hA : ∃ b0 o0 b1 o1, a = some ⟨b0, o0, none⟩ ∧ a' = some ⟨b1, o1, none⟩ ∧ b0 < w.heap.size) (hs : SlF En.cells w a xs) (hs' : SlF En.cells w a' ys) (hx : xs.length ≤ maxLen) (hy : ys.length ≤ maxLen) (hc : xs.length ≤ c) (hcm : c ≤ maxLen) (hc' : ys.length ≤ c') (hz : ∀ e ∈ xs, e.p.size ≤ 2000000 ∧ e.x.size ≤ 2000000) (hz' : ∀ e ∈ ys, e.p.size ≤ 2000000 ∧ e.x.size ≤ 2000000) :
    Calls Tryz.prog 24 #[.slice a xs.length c, .slice a' ys.length c'] w (MadeMl (tdiffL (xs.map En.pl) (ys.map En.pl)) w) := by
  obtain ⟨b0, o0, b1, o1, rfl, rfl, hb0⟩ := hA
  have hm2 : (2000000 : Nat) ≤ maxLen := by unfold maxLen; omega
  have hb := Below.refl w.heap.size w
  obtain ⟨r, hr⟩ := tok_dec xs
  obtain ⟨r', hr'⟩ := tok_dec ys
  have HT := Lib.hid (sTreeOk_c (some ⟨b0, o0, none⟩) c xs r (Lib.hid hr) w hs hx hc (fun e he => ⟨Nat.le_trans (hz e he).1 hm2, Nat.le_trans (hz e he).2 hm2⟩))
  have HT' := Lib.hid (fun W (h : SlF En.cells W (some ⟨b1, o1, none⟩) ys) => sTreeOk_c (some ⟨b1, o1, none⟩) c' ys r' (Lib.hid hr') W h hy hc' (fun e he => ⟨Nat.le_trans (hz' e he).1 hm2, Nat.le_trans (hz' e he).2 hm2⟩))
  obtain ⟨L, hL⟩ : ∃ L, tdiffL (xs.map En.pl) (ys.map En.pl) = L := ⟨_, rfl⟩
  have HLD : Hid (¬ (r = true ∧ r' = true) → [] = L) := fun h => by
    rw [← hL]; unfold tdiffL; rw [if_neg (fun h' => h ⟨hr.2 h'.1, hr'.2 h'.2⟩)]
  have HLO : Hid (r = true → r' = true → diffL (xs.map En.pl) (ys.map En.pl) = L) := fun h h' => by
    rw [← hL]; unfold tdiffL; rw [if_pos ⟨hr.1 h, hr'.1 h'⟩]
  have HDF := Lib.hid (fun (h : r = true) (h' : r' = true) W (k : SlF En.cells W (some ⟨b0, o0, none⟩) xs) (k' : SlF En.cells W (some ⟨b1, o1, none⟩) ys) (k0 : b0 < W.heap.size) => l3Diff_c b0 o0 c b1 o1 c' xs ys W k k' k0 hc hcm (hr.1 h) (hr'.1 h'))
  have HS := Lib.hid hs
  have HS' := Lib.hid hs'
  have HB0 := Lib.hid hb0
  rw [hL]
  obtain ⟨n, hn⟩ : ∃ n, xs.length = n := ⟨_, rfl⟩
  obtain ⟨n', hn'⟩ : ∃ n, ys.length = n := ⟨_, rfl⟩
  rw [hn] at HT HDF ⊢
  rw [hn'] at HT' HDF ⊢
  clear hn hn' hr hr' hs hs' hL hz hz' hc hc' hcm hx hy hb0 hm2
  cases r with
  | false =>
    go_enter Tryz.func24, Tryz.ntmps24
    go_wp2_with fail
    refine HT.out.mono ?_; rintro e WS ⟨rfl, hq⟩; replace hb := chn hb hq; clear hq
    go_wp2
    go_ret
    exact ⟨some ⟨WS.heap.size, 0, none⟩, 0, [], rfl, HLD.out (by simp), World.ownsRow_lit _ #[] 0 hb.size (Nat.zero_le _) rfl, hb.alloc hb.size _⟩
  | true =>
  cases r' with
  | false =>
    go_enter Tryz.func24, Tryz.ntmps24
    go_wp2_with fail
    refine (HT.out).mono ?_; rintro e W ⟨rfl, hq⟩; replace hb := chn hb hq; clear hq
    go_wp2_with fail
    refine (HT'.out _ (HS'.out.below hb)).mono ?_; rintro e WS ⟨rfl, hq⟩; replace hb := chn hb hq; clear hq
    go_wp2
    go_ret
    exact ⟨some ⟨WS.heap.size, 0, none⟩, 0, [], rfl, HLD.out (by simp), World.ownsRow_lit _ #[] 0 hb.size (Nat.zero_le _) rfl, hb.alloc hb.size _⟩
  | true =>
    have HLX := Lib.hid (HLO.out rfl rfl)
    have HDX := Lib.hid (HDF.out rfl rfl)
    clear HLO HDF HLD
    go_enter Tryz.func24, Tryz.ntmps24
    go_wp2_with fail
    refine (HT.out).mono ?_; rintro e W ⟨rfl, hq⟩; replace hb := chn hb hq; clear hq
    go_wp2_with fail
    refine (HT'.out _ (HS'.out.below hb)).mono ?_; rintro e W ⟨rfl, hq⟩; replace hb := chn hb hq; clear hq
    go_wp2_with fail
    refine (HDX.out _ (HS.out.below hb) (HS'.out.below hb) (Nat.lt_of_lt_of_le HB0.out hb.size)).mono ?_; rintro e W ⟨a1, c1, ms, rfl, hms, how, hq⟩
    have HB := Lib.hid hb
    replace hb := chn hb hq
    have HMS : Hid (ms.map Mk.pl = L) := by rw [Hid, hms, HLX.out]
    clear hms hq
    go_wp2
    go_ret
    exact ⟨a1, c1, ms, rfl, HMS.out, own_mono how HB.out.size, hb⟩
end Go.Proofs.YtdhbdcmnbhjjaaaGreatDoor
namespace Go.Proofs.YtdhbdcmnbhjjaaaGreatDoor
open Go.RowKit
/-- Two trees, drawn; the first is right. -/
def TurnedPost (w : World) (e : Ending) (w' : World) : Prop :=
  ∃ (a : Option Addr) (c : Nat) (xs : List En) (a' : Option Addr) (c' : Nat) (ys : List En), e = .returned (.tuple #[.slice a xs.length c, .slice a' ys.length c']) ∧ ReadEn w' a c xs ∧ TOk (xs.map En.pl) ∧ ReadEn w' a' c' ys ∧ Small ys ∧ ys.length ≤ 25 ∧ Below w.heap.size w w'
set_option maxRecDepth 100000 in
set_option maxHeartbeats 4000000 in
theorem drawTreeTurned_c (w : World) (a : Option Addr) (n c : Nat) (h : Code w a n c) : Calls Tryz.prog 58 #[.slice a n c] w (TurnedPost w) := by
  obtain ⟨rb, hrb⟩ : ∃ rb, w.heap.size = rb := ⟨_, rfl⟩
  have ho0 := open_c' w a n c h
  rw [hrb] at ho0
  have HO := Lib.hid ho0
  clear h ho0
  go_enter Tryz.func58, Tryz.ntmps58
  go_wp2_with fail
  refine HO.out.mono ?_; rintro e w1 ⟨rfl, hrd, hb⟩
  have HB1 := Lib.hid (hb.mono (by rw [hrb]; exact Nat.le_refl _) : Below w.heap.size w w1)
  have HT := Lib.hid (l2Tree_c w1 rb 0 hrd (by omega))
  clear hrd hb HO
  go_wp2_with fail
  refine HT.out.mono ?_; rintro e w2 ⟨a2, c2, ts, p2, rfl, hd2, htok, hzl, hp2, hrd2, ho2⟩
  have hts : ts.length ≤ 16 := by have := htok.most; rw [List.length_map] at this; exact this
  have HDA := Lib.hid hd2
  have HTA := Lib.hid htok
  have HO2 := Lib.hid ho2
  have HP := Lib.hid (pick_c w2 rb p2 5 hrd2 (by omega) (by omega) (by omega))
  clear hd2 htok hzl hrd2 ho2 HT
  obtain ⟨na, hna⟩ : ∃ n, ts.length = n := ⟨_, rfl⟩
  have HNA := Lib.hid hna
  rw [hna] at hts ⊢
  clear hna
  go_wp2_with fail
  refine HP.out.mono ?_; rintro e w3 ⟨z, rfl, _, hz5, hrd3, ho3⟩
  have hz5' : z < 5 := by have := hz5 (by omega); omega
  have HT3 : Hid (TreeIn (fun _ => True) w2 w3 rb (p2 + 1) (.slice a2 na c2)) := ⟨a2, c2, ts, by rw [HNA.out], HDA.out.only ho3, HTA.out, trivial, hrd3, ho3⟩
  clear hz5 hrd3 ho3 HP
  go_wp2
  go_loopw [6, 7] (fun v i wr => ∃ (j : Nat) (p' : Nat), i = .int .i64 j ∧ j ≤ 5 ∧ p' + 10 * j ≤ p2 + 60 ∧ TreeIn (fun _ => True) w2 wr rb p' v) (fun _ i _ => (intOf i).toNat)
  case atStart => exact ⟨z, p2 + 1, rfl, by omega, by omega, HT3.out⟩
  case round =>
    obtain ⟨j, p', rfl, hj, hpj, a', c', us, rfl, hdt, hut, _, hrd, ho⟩ := hrel
    have hus : us.length ≤ 16 := by have := hut.most; rw [List.length_map] at this; exact this
    have HTK := Lib.hid hut
    have HO := Lib.hid ho
    clear hut ho
    by_cases hpos : 0 < j
    · have HL := Lib.hid (l2Op_c le20 le20_good wr rb p' hrd (by omega) a' c' us hdt (fun e he => (small_le (tok_small HTK.out) e he).2) (by omega))
      have HDT := Lib.hid hdt
      have hjp : (0 : Int) < (j : Int) := by omega
      obtain ⟨n, hn⟩ : ∃ n, us.length = n := ⟨_, rfl⟩
      have HN := Lib.hid hn
      rw [hn] at HL hus ⊢
      clear hrd hdt hn
      go_wp2_with fail
      refine HL.out.mono ?_; rintro e w4 ⟨k, P, T, D, p4, rfl, hP0, hT, hD, hp4, hrd4, ho4⟩; replace hT := goodT_size hT; have hP := le20_of hP0
      have HD4 := Lib.hid (HDT.out.only ho4)
      have HS := Lib.hid (sTreeDo_c a' c' us k P T D w4 HD4.out.read (by have := HN.out; omega) (by omega) (by omega) (by omega) (tok_small HTK.out).mil)
      have hg4 := hrd4.lt
      have HRD4 := Lib.hid hrd4
      have HO4 := Lib.hid (HO.out.trans ho4)
      rw [HN.out] at HS
      clear hrd4 ho4 HL hP0
      go_wp2_with fail
      refine HS.out.mono ?_; rintro e w5 ⟨v5, ms, rfl, hms, how, hq5⟩
      obtain ⟨a5, c5, rfl, hd5⟩ := how.drawn hg4
      have HX : Hid (TreeIn (fun _ => True) w2 w5 rb p4 (.slice a5 ms.length c5)) := ⟨a5, c5, ms, rfl, hd5, by rw [hms]; exact tdo_tok HTK.out, trivial, HRD4.out.keep hq5 hg4, HO4.out.trans (Only.of_below hq5)⟩
      clear hms how hd5 hq5 HS
      go_wp2
      go_roundw
      case rel => exact ⟨j - 1, p4, by go_num, by omega, by omega, HX.out⟩
      case measure => simp [intOf]; omega
    · obtain rfl : j = 0 := by omega
      have HK := Lib.hid (pick_c wr rb p' 4 hrd (by omega) (by omega) (by omega))
      have HDT := Lib.hid hdt
      clear hrd hdt
      obtain ⟨nb, hnb⟩ : ∃ n, us.length = n := ⟨_, rfl⟩
      have HNB := Lib.hid hnb
      rw [hnb] at hus ⊢
      clear hnb
      go_wp2_with fail
      refine HK.out.mono ?_; rintro e w4 ⟨m, rfl, _, _, hrd4, ho4⟩
      by_cases hm : m = 0
      · subst hm
        have HTR := Lib.hid (l2Tree_c w4 rb (p' + 1) hrd4 (by omega))
        have HO4 := Lib.hid (HO.out.trans ho4)
        clear hrd4 ho4 HK
        go_wp2_with fail
        refine HTR.out.mono ?_; rintro e w5 ⟨a5, c5, vs, p5, rfl, hd5, hvt, _, hp5, hrd5, ho5⟩
        have hvs : vs.length ≤ 16 := by have := hvt.most; rw [List.length_map] at this; exact this
        have HBT := Lib.hid (l2Bent_c le20 le20_good w5 rb p5 hrd5 (by omega) a5 c5 vs hd5 (small_le (tok_small hvt)) (by omega))
        have HO5 := Lib.hid (HO4.out.trans ho5)
        obtain ⟨n5, hn5⟩ : ∃ n, vs.length = n := ⟨_, rfl⟩
        rw [hn5] at HBT hvs ⊢
        clear hd5 hvt hrd5 ho5 HTR hn5
        go_wp2_with fail
        refine HBT.out.mono ?_; rintro e w6 ⟨a6, c6, zs, p6, rfl, hd6, hs6, hl6, _, _, ho6⟩
        have HB6 := Lib.hid ((HO2.out.trans (HO5.out.trans ho6)).below HB1.out (by omega) HB1.out.size)
        have HR2 := Lib.hid (HDA.out.only (HO5.out.trans ho6)).read
        have HR6 := Lib.hid hd6.read
        clear ho6 hd6 HBT
        obtain ⟨n6, hn6⟩ : ∃ n, zs.length = n := ⟨_, rfl⟩
        have HN6 := Lib.hid hn6
        rw [hn6] at hl6 ⊢
        clear hn6
        go_wp2
        go_ret2
        exact ⟨a2, c2, ts, a6, c6, zs, by rw [HN6.out, HNA.out]; rfl, HR2.out, HTA.out, HR6.out, hs6.small, by rw [HN6.out]; omega, HB6.out⟩
      · have hmz : ((m : Int) == 0) = false := by rw [beq_eq_false_iff_ne]; omega
        have HBT := Lib.hid (l2Bent_c le20 le20_good w4 rb (p' + 1) hrd4 (by omega) a' c' us (HDT.out.only ho4) (small_le (tok_small HTK.out)) (by have := HNB.out; omega))
        have HO5 := Lib.hid (HO.out.trans ho4)
        rw [HNB.out] at HBT
        clear hrd4 ho4 HK
        go_wp2_with fail
        refine HBT.out.mono ?_; rintro e w6 ⟨a6, c6, zs, p6, rfl, hd6, hs6, hl6, _, _, ho6⟩
        have HB6 := Lib.hid ((HO2.out.trans (HO5.out.trans ho6)).below HB1.out (by omega) HB1.out.size)
        have HR2 := Lib.hid (HDA.out.only (HO5.out.trans ho6)).read
        have HR6 := Lib.hid hd6.read
        clear ho6 hd6 HBT
        obtain ⟨n6, hn6⟩ : ∃ n, zs.length = n := ⟨_, rfl⟩
        have HN6 := Lib.hid hn6
        rw [hn6] at hl6 ⊢
        clear hn6
        go_wp2
        go_ret2
        exact ⟨a2, c2, ts, a6, c6, zs, by rw [HN6.out, HNA.out]; rfl, HR2.out, HTA.out, HR6.out, hs6.small, by rw [HN6.out]; omega, HB6.out⟩
set_option maxRecDepth 100000 in
theorem drawLayerDiff_c (w : World) (a : Option Addr) (n c : Nat) (h : Code w a n c) : Calls Tryz.prog 21 #[.slice a n c] w (TurnedPost w) := by
  have HD := Lib.hid (drawTreeTurned_c w a n c h)
  clear h
  go_enter Tryz.func21, Tryz.ntmps21
  go_wp2_with fail
  refine HD.out.mono ?_; rintro e w1 ⟨a1, c1, xs, a2, c2, ys, rfl, hrest⟩
  go_wp2
  go_ret2
  exact ⟨a1, c1, xs, a2, c2, ys, rfl, hrest⟩
end Go.Proofs.YtdhbdcmnbhjjaaaGreatDoor
namespace Go.Proofs.YtdhbdcmnbhjjaaaGreatDoor
open Go.RowKit
theorem strs_inj : ∀ {a b : List ByteArray}, a.map (·.data.toList) = b.map (·.data.toList) → a = b
  | [], [], _ => rfl
  | [], _ :: _, h => by simp at h
  | _ :: _, [], h => by simp at h
  | x :: a, y :: b, h => by
    simp only [List.map_cons, List.cons.injEq] at h
    rw [bytes_eq h.1, strs_inj h.2]
theorem mem_strs {ss : List ByteArray} {s : ByteArray} : s.data.toList ∈ ss.map (·.data.toList) ↔ s ∈ ss := by
  rw [List.mem_map]
  constructor
  · rintro ⟨x, hx, he⟩; rw [← bytes_eq he]; exact hx
  · exact fun h => ⟨s, h, rfl⟩
set_option maxHeartbeats 2000000 in
theorem wpIn_c (a : Option Addr) (c n : Nat) (ss : List ByteArray) (s : ByteArray) (r : Bool) (hr : Hid (r = true ↔ s ∈ ss)) (w : World) (hn : ss.length = n) (hs : SlS w a ss) (hx : n ≤ 2000000) :
    Calls Tryz.prog 28 #[.slice a n c, .string s] w fun e w' => e = .returned (.bool r) ∧ Below w.heap.size w w' := by
  have HS := Lib.hid hs
  have HN := Lib.hid hn
  clear hs hn
  go_enter Tryz.func28, Tryz.ntmps28
  go_wp2
  go_loopw [5] (fun i wr => ∃ j : Nat, j ≤ n ∧ i = .int .i64 j ∧ s ∉ ss.take j ∧ Below w.heap.size w wr) (fun i _ => n - (intOf i).toNat)
  case atStart => exact ⟨0, Nat.zero_le _, rfl, by simp, Below.refl _ _⟩
  case round =>
    obtain ⟨j, hj, rfl, hno, hb⟩ := hrel
    have HNO := Lib.hid hno
    clear hno
    by_cases hlt : j < n
    · obtain ⟨x, hxx⟩ : ∃ x, ss[j]? = some x := ⟨_, List.getElem?_eq_getElem (by rw [HN.out]; exact hlt)⟩
      obtain ⟨b, off, rfl, _, hcs⟩ := (HS.out.below hb) (by rw [HN.out]; omega)
      have d0 := hcs j x hxx
      have i0 : (0 : Int) ≤ (j : Int) := by omega
      have i1 : (j : Int) < (n : Int) := by omega
      have HM := Lib.hid (List.mem_of_getElem? hxx)
      have HTS : Hid (ss.take (j + 1) = ss.take j ++ [x]) := by rw [Hid, List.take_add_one, hxx]; rfl
      clear hcs hxx
      by_cases he : x = s
      · obtain rfl : r = true := hr.out.2 (he ▸ HM.out)
        have hbe := beqs_yes (congrArg (·.data.toList) he)
        clear he
        go_wp2
        go_ret
        exact ⟨rfl, by first | exact hb | exact drw hb _⟩
      · have hbe := beqs_no (fun h => he (bytes_eq h))
        go_wp2
        go_roundw
        case rel => exact ⟨j + 1, by omega, by go_num, by rw [HTS.out, List.mem_append, List.mem_singleton]; exact fun h => h.elim HNO.out (fun h => he h.symm), by first | exact hb | exact drw hb _⟩
        case measure => simp [intOf]; omega
    · obtain rfl : j = n := by omega
      obtain rfl : r = false := by
        cases r with
        | false => rfl
        | true => have h1 := HNO.out; rw [List.take_of_length_le (by rw [HN.out]; exact Nat.le_refl _)] at h1; exact absurd (hr.out.1 rfl) h1
      go_wp2
      go_ret
      exact ⟨rfl, hb⟩
end Go.Proofs.YtdhbdcmnbhjjaaaGreatDoor
namespace Go.Proofs.YtdhbdcmnbhjjaaaGreatDoor
open Go.RowKit
/-- A tree and what is done to it, drawn. -/
def TreeOpPost (w : World) (e : Ending) (w' : World) : Prop :=
  ∃ (a : Option Addr) (c : Nat) (xs : List En) (k : Int) (P T D : ByteArray), e = .returned (.tuple #[.slice a xs.length c, opV k P T D]) ∧ ReadEn w' a c xs ∧ Small xs ∧ xs.length ≤ 20 ∧ P.size ≤ 20 ∧ goodT T = true ∧ D.size ≤ 20 ∧ Below w.heap.size w w'
set_option maxRecDepth 100000 in
set_option maxHeartbeats 4000000 in
theorem drawTreeDo_c (w : World) (a : Option Addr) (n c : Nat) (h : Code w a n c) : Calls Tryz.prog 9 #[.slice a n c] w (TreeOpPost w) := by
  obtain ⟨rb, hrb⟩ : ∃ rb, w.heap.size = rb := ⟨_, rfl⟩
  have hb0 := bellow_alloc w (.cells #[.int .i64 0, .string ⟨#[]⟩, .string ⟨#[]⟩, .string ⟨#[]⟩] 25)
  have hs0 : (w.alloc (.cells #[.int .i64 0, .string ⟨#[]⟩, .string ⟨#[]⟩, .string ⟨#[]⟩] 25)).heap.size = rb + 1 := by rw [← hrb]; simp
  have HBX : Hid (Box4 (w.alloc (.cells #[.int .i64 0, .string ⟨#[]⟩, .string ⟨#[]⟩, .string ⟨#[]⟩] 25)) rb (.int .i64 0) (.string ⟨#[]⟩) (.string ⟨#[]⟩) (.string ⟨#[]⟩)) := by rw [Hid, ← hrb]; exact Box4.new w _ _ _ _ _
  have ho0 := open_c' _ a n c (h.below hb0)
  rw [hs0] at ho0
  have HO := Lib.hid ho0
  have HB0 := Lib.hid hb0
  have HSZ := Lib.hid hs0
  clear h hs0 hb0 ho0
  go_enter Tryz.func9, Tryz.ntmps9
  go_wp2_with fail
  refine HO.out.mono ?_; rintro e w1 ⟨rfl, hrd, hb⟩
  have HX1 := Lib.hid (HBX.out.only (Only.of_below (by rw [HSZ.out]; exact hb) : Only (rb + 1) _ w1) (by omega))
  have HB1 := Lib.hid (HB0.out.trans (hb.mono (by rw [hrb]; omega)))
  have HT := Lib.hid (l2Tree_c w1 (rb + 1) 0 hrd (by omega))
  clear hrd hb HO HBX HB0
  go_wp2_with fail
  refine HT.out.mono ?_; rintro e w2 ⟨a2, c2, ts, p2, rfl, hd2, htok, _, hp2, hrd2, ho2⟩
  have hts : ts.length ≤ 16 := by have := htok.most; rw [List.length_map] at this; exact this
  have HBT := Lib.hid (l2Bent_c le20 le20_good w2 (rb + 1) p2 hrd2 (by omega) a2 c2 ts hd2 (small_le (tok_small htok)) (by omega))
  have HO2 := Lib.hid ho2
  clear hd2 htok hrd2 ho2 HT
  obtain ⟨n2, hn2⟩ : ∃ n, ts.length = n := ⟨_, rfl⟩
  rw [hn2] at HBT hts ⊢
  clear hn2
  go_wp2_with fail
  refine HBT.out.mono ?_; rintro e w3 ⟨a3, c3, us, p3, rfl, hd3, hsm0, hus, hp3, hrd3, ho3⟩
  have hsm := hsm0.small
  have HL := Lib.hid (l2Op_c le20 le20_good w3 (rb + 1) p3 hrd3 (by omega) a3 c3 us hd3 (fun e he => (hsm0 e he).2) (by omega))
  have HO3 := Lib.hid (HO2.out.trans ho3)
  have HD3 := Lib.hid hd3
  have HSM := Lib.hid hsm
  clear hd3 hsm hsm0 hrd3 ho3 HBT HO2
  obtain ⟨n3, hn3⟩ : ∃ n, us.length = n := ⟨_, rfl⟩
  have HN3 := Lib.hid hn3
  rw [hn3] at HL hus ⊢
  clear hn3
  go_wp2_with fail
  refine HL.out.mono ?_; rintro e w4 ⟨k, P, T, D, p4, rfl, hP0, hT, hD, _, _, ho4⟩
  have hP := le20_of hP0
  have HO4 := HO3.out.trans ho4
  have HX4 := Lib.hid (HX1.out.only HO4 (by omega))
  have hb4 : Below w.heap.size w w4 := HO4.below HB1.out (by omega) HB1.out.size
  have HB8 := Lib.hid ((((hb4.setCell (p := ⟨rb, 0, none⟩) (Nat.le_of_eq hrb) (.int .i64 k)).setCell (p := ⟨rb, 1, none⟩) (Nat.le_of_eq hrb) (.string P)).setCell (p := ⟨rb, 2, none⟩) (Nat.le_of_eq hrb) (.string T)).setCell (p := ⟨rb, 3, none⟩) (Nat.le_of_eq hrb) (.string D))
  have hO8 : Only rb w4 ((((w4.setCell ⟨rb, 0, none⟩ (.int .i64 k)).setCell ⟨rb, 1, none⟩ (.string P)).setCell ⟨rb, 2, none⟩ (.string T)).setCell ⟨rb, 3, none⟩ (.string D)) :=
    ((((Only.refl rb w4).setCell (p := ⟨rb, 0, none⟩) (.inl rfl) _).setCell (p := ⟨rb, 1, none⟩) (.inl rfl) _).setCell (p := ⟨rb, 2, none⟩) (.inl rfl) _).setCell (p := ⟨rb, 3, none⟩) (.inl rfl) _
  have HD4 := HD3.out.only ho4
  have HRE : Hid (ReadEn ((((w4.setCell ⟨rb, 0, none⟩ (.int .i64 k)).setCell ⟨rb, 1, none⟩ (.string P)).setCell ⟨rb, 2, none⟩ (.string T)).setCell ⟨rb, 3, none⟩ (.string D)) a3 c3 us) := by
    obtain ⟨b, off, rfl, h1, h2, h3, h4⟩ := HD4
    exact ⟨b, off, rfl, Nat.lt_of_lt_of_le h2 hO8.size, h3.grown hO8 (fun b' hb' e => by injection hb' with hb'; injection e with e; simp at hb'; omega), h4⟩
  have hR8 := Lib.hid ((((HX4.out.set0 (.int .i64 k)).set1 (.string P)).set2 (.string T)).set3 (.string D))
  obtain ⟨r0, r1, r2, r3, rf⟩ := HX4.out
  have rf0 := rf 0
  have rf1 := rf 1
  have rf2 := rf 2
  have rf3 := rf 3
  clear rf ho4 HO4 HD4 hO8 hb4 HL
  go_wp2
  obtain ⟨q0, q1, q2, q3, _⟩ := hR8.out
  refine bodyPost_ret (v := .tuple #[.slice a3 us.length c3, opV k P T D]) (by simp [results, Tryz.results9, go_sem, q0, q1, q2, q3, HN3.out]) rfl ⟨a3, c3, us, k, P, T, D, rfl, HRE.out, HSM.out, by rw [HN3.out]; omega, hP, hT, hD, HB8.out⟩
end Go.Proofs.YtdhbdcmnbhjjaaaGreatDoor
namespace Go.Proofs.YtdhbdcmnbhjjaaaGreatDoor
open Go.Op
theorem put_back {t : List PE} (h : TOk t) {p : Bs} {d : Bool} {x : Bs} (hn : atP PE.p t p = none) : (putP PE.p t ⟨p, d, x⟩).filter (fun e => !(e.p == p)) = t := by
  refine ord_ext ((ord_putP h.ordP _).filter _) h.ordP fun e => ?_
  rw [List.mem_filter, mem_putP h.ordP]
  simp only [Bool.not_eq_true', beq_eq_false_iff_ne]
  constructor
  · rintro ⟨rfl | ⟨h1, _⟩, h2⟩
    · exact absurd rfl h2
    · exact h1
  · intro h1
    have := atP_none.1 hn e h1
    exact ⟨.inr ⟨h1, this⟩, this⟩
theorem off_back {t : List PE} (h : TOk t) {e : PE} (he : e ∈ t) : putP PE.p (t.filter fun f => !(f.p == e.p)) e = t := by
  refine ord_ext (ord_putP (h.ordP.filter _) _) h.ordP fun f => ?_
  rw [mem_putP (h.ordP.filter _), List.mem_filter]
  simp only [Bool.not_eq_true', beq_eq_false_iff_ne]
  constructor
  · rintro (rfl | ⟨⟨h1, _⟩, _⟩)
    · exact he
    · exact h1
  · intro h1
    by_cases hp : f.p = e.p
    · exact .inl (h.same h1 he hp)
    · exact .inr ⟨⟨h1, hp⟩, hp⟩
theorem put_over {t : List PE} (h : TOk t) {e : PE} (he : e ∈ t) {f : PE} (hf : f.p = e.p) : putP PE.p (putP PE.p t f) e = t := by
  have h1 := ord_putP h.ordP f
  refine ord_ext (ord_putP h1 _) h.ordP fun g => ?_
  rw [mem_putP h1, mem_putP h.ordP]
  constructor
  · rintro (rfl | ⟨rfl | ⟨h2, _⟩, h3⟩)
    · exact he
    · exact absurd hf h3
    · exact h2
  · intro h2
    by_cases hp : g.p = e.p
    · exact .inl (h.same h2 he hp)
    · exact .inr ⟨.inr ⟨h2, by rw [hf]; exact hp⟩, hp⟩
theorem put_twice {t : List PE} (h : TOk t) (e : PE) : putP PE.p (putP PE.p t e) e = putP PE.p t e := by
  have h1 := ord_putP h.ordP e
  refine ord_ext (ord_putP h1 _) h1 fun g => ?_
  rw [mem_putP h1, mem_putP h.ordP]
  constructor
  · rintro (h2 | ⟨h2, _⟩)
    · exact .inl h2
    · exact h2
  · intro h2
    by_cases hp : g = e
    · exact .inl hp
    · refine .inr ⟨h2, ?_⟩
      rcases h2 with h2 | h2
      · exact absurd h2 hp
      · exact h2.2
theorem off_len {t : List PE} (h : TOk t) {e : PE} (he : e ∈ t) : (t.filter fun f => !(f.p == e.p)).length + 1 = t.length := by
  have h1 := off_back h he
  have h2 : atP PE.p (t.filter fun f => !(f.p == e.p)) e.p = none := by rw [at_off h, if_pos rfl]
  have h3 := len_putP (h.ordP.filter fun f => !(f.p == e.p)) e
  rw [h1, h2] at h3
  simp at h3
  exact h3.symm
/-- Where something would be in, behind a turn at another path. -/
theorem upCode_keep {t s : List PE} (_ht : OrdP PE.p t) (_hs : OrdP PE.p s) {q : Bs} (h : upL q = [47] ∨ atP PE.p s (upL q) = atP PE.p t (upL q)) : upCodeL s q = upCodeL t q := by
  unfold upCodeL
  by_cases hr : upL q = [47]
  · rw [if_pos hr, if_pos hr]
  · rw [if_neg hr, if_neg hr, getL_at, getL_at, h.resolve_left hr]
section
variable {t : List PE} {k : Int} {p r x : Bs}
/-- Lookups behind what was done: all but moves. -/
theorem at_do_put (h : TOk t) (d : Bool) (q : Bs) : atP PE.p (putP PE.p t ⟨p, d, x⟩) q = if p = q then some ⟨p, d, x⟩ else atP PE.p t q := atP_putP h.ordP _ q
theorem law_turned_1 (h : TOk t) (hc : makeC t p = 0) : turnedL t (putP PE.p t ⟨p, true, x⟩) = [p] := by
  obtain ⟨_, h2, _⟩ := makeC_0 hc
  rw [getL_at] at h2
  refine turned_one h.ordP (ord_putP h.ordP _) ?_ fun q hq => ?_
  · rw [at_do_put h, if_pos rfl, h2]; simp
  · rw [at_do_put h, if_neg hq]
theorem law_turned_2 (h : TOk t) : (turnedL t (putP PE.p t ⟨p, false, x⟩) = [] ∧ atP PE.p t p = some ⟨p, false, x⟩) ∨ turnedL t (putP PE.p t ⟨p, false, x⟩) = [p] := by
  by_cases he : atP PE.p t p = some ⟨p, false, x⟩
  · refine .inl ⟨?_, he⟩
    rw [turned_nil h.ordP (ord_putP h.ordP _)]
    refine ord_ext_at h.ordP (ord_putP h.ordP _) fun q => ?_
    rw [at_do_put h]
    by_cases hq : p = q
    · rw [if_pos hq, ← hq, he]
    · rw [if_neg hq]
  · refine .inr (turned_one h.ordP (ord_putP h.ordP _) ?_ fun q hq => ?_)
    · rw [at_do_put h, if_pos rfl]; exact he
    · rw [at_do_put h, if_neg hq]
theorem law_turned_off (h : TOk t) (he : ∃ e, getL t p = some e) : turnedL t (t.filter fun e => !(e.p == p)) = [p] := by
  obtain ⟨e, he⟩ := he
  rw [getL_at] at he
  refine turned_one h.ordP (h.ordP.filter _) ?_ fun q hq => ?_
  · rw [at_off h, if_pos rfl, he]; simp
  · rw [at_off h, if_neg hq]
theorem law_turned_5 (m : MV t p r) {s : Bs} (hs : s ∈ turnedL t (mvL t p r)) : s = p ∨ s = r ∨ underL s p = true ∨ underL s r = true := by
  rw [mem_turned m.tok.ordP (mv_ord _ _ _)] at hs
  refine Classical.byContradiction fun hn => hs ?_
  simp only [not_or] at hn
  obtain ⟨h1, h2, h3, h4⟩ := hn
  refine opt_ext fun e => ?_
  rw [atP_iff m.tok.ordP, atP_iff (mv_ord _ _ _), m.mem]
  constructor
  · rintro ⟨he, rfl⟩
    refine ⟨⟨e, he, ?_⟩, rfl⟩
    have := move_stay (m.all e he) (by rintro (h | h); exact h1 h; exact h3 h)
    obtain ⟨a, b, c⟩ := e
    show PE.mk (moveL a p r) b c = _
    rw [this]
  · rintro ⟨⟨f, hf, rfl⟩, rfl⟩
    by_cases hm : f.p = p ∨ underL f.p p = true
    · rcases mv_in (m.all f hf) hm with h | h
      · exact absurd h h2
      · exact absurd h h4
    · have := move_stay (m.all f hf) hm
      obtain ⟨a, b, c⟩ := f
      have e : movedE p r ⟨a, b, c⟩ = ⟨a, b, c⟩ := by show PE.mk (moveL a p r) b c = _; rw [this]
      rw [e]
      exact ⟨hf, rfl⟩
/-- What is undone. -/
theorem back_1 (h : TOk t) (hc : makeC t p = 0) (hp : pathOkL p = true) : rmdirC (putP PE.p t ⟨p, true, x⟩) p = 0 ∧ (putP PE.p t ⟨p, true, x⟩).filter (fun e => !(e.p == p)) = t := by
  obtain ⟨_, h2, _⟩ := makeC_0 hc
  refine ⟨?_, put_back h (by rw [← getL_at]; exact h2)⟩
  unfold rmdirC
  rw [getL_at, at_do_put h, if_pos rfl]
  show (if true = true then _ else _) = 0
  rw [if_pos rfl, if_neg]
  rw [List.any_eq_true]
  rintro ⟨e, he, hu⟩
  rcases (mem_putP h.ordP).1 he with rfl | ⟨he, _⟩
  · rw [not_under_self] at hu; cases hu
  · obtain ⟨f, hf, hfp, _⟩ := h.anc he hp hu
    exact getL_none.1 h2 f hf hfp
theorem back_2a (h : TOk t) (hc : putC t p = 0) (hp : pathOkL p = true) (hx : dataOkL x = true) {e : PE} (he : getL t p = some e) : e.d = false ∧ putC (putP PE.p t ⟨p, false, x⟩) p = 0 ∧ putP PE.p (putP PE.p t ⟨p, false, x⟩) ⟨p, false, e.x⟩ = t := by
  obtain ⟨h1, h2⟩ := putC_0 hc
  have hd : e.d = false := by
    rcases h2 with ⟨f, hf, hfd⟩ | ⟨hn, _⟩
    · rw [he] at hf; injection hf with hf; rw [hf]; exact hfd
    · rw [he] at hn; cases hn
  obtain ⟨h3, h4⟩ := h.get.1 he
  have e0 : e = ⟨p, false, e.x⟩ := by
    obtain ⟨a, b, c⟩ := e
    have hd : b = false := hd
    have h4 : a = p := h4
    subst hd; subst h4; rfl
  have ht := tok_put (d := false) h hp hx (fun h => (by cases h)) h1 h2
  refine ⟨hd, ?_, ?_⟩
  · unfold putC
    rw [upCode_keep h.ordP ht.ordP (.inr (by rw [at_do_put h, if_neg (Ne.symm (up_ne hp))])), getL_at, at_do_put h, if_pos rfl]
    rw [h1]; rfl
  · rw [← e0]
    exact put_over h h3 (by rw [h4])
theorem back_2b (h : TOk t) (hn : getL t p = none) : rmC (putP PE.p t ⟨p, false, x⟩) p = 0 ∧ (putP PE.p t ⟨p, false, x⟩).filter (fun e => !(e.p == p)) = t := by
  refine ⟨?_, put_back h (by rw [← getL_at]; exact hn)⟩
  unfold rmC
  rw [getL_at, at_do_put h, if_pos rfl]
  rfl
theorem back_off (h : TOk t) (hp : pathOkL p = true) {e : PE} (he : getL t p = some e) : upCodeL (t.filter fun e => !(e.p == p)) p = 0 ∧ getL (t.filter fun e => !(e.p == p)) p = none ∧ (t.filter fun e => !(e.p == p)).length < 16 ∧ putP PE.p (t.filter fun e => !(e.p == p)) e = t := by
  obtain ⟨h3, rfl⟩ := h.get.1 he
  refine ⟨?_, ?_, ?_, off_back h h3⟩
  · rw [upCode_keep h.ordP (h.ordP.filter _) (.inr (by rw [at_off h, if_neg (Ne.symm (up_ne hp))]))]
    exact h.up e h3
  · rw [getL_at, at_off h, if_pos rfl]
  · have := off_len h h3
    have := h.most
    omega
theorem back_3 (h : TOk t) (hc : rmC t p = 0) (hp : pathOkL p = true) {e : PE} (he : getL t p = some e) : putC (t.filter fun e => !(e.p == p)) p = 0 ∧ putP PE.p (t.filter fun e => !(e.p == p)) ⟨p, false, e.x⟩ = t := by
  obtain ⟨f, hf, hd⟩ := rmC_0 hc
  rw [he] at hf; injection hf with hf; subst hf
  obtain ⟨h1, h2, h3, h4⟩ := back_off h hp he
  have e0 : e = ⟨p, false, e.x⟩ := by
    have h5 := (h.get.1 he).2
    obtain ⟨a, b, c⟩ := e
    have hd : b = false := hd
    have h5 : a = p := h5
    subst hd; subst h5; rfl
  refine ⟨?_, by rw [← e0]; exact h4⟩
  unfold putC
  rw [h1, h2]
  show (if (16 : Nat) ≤ _ then 8 else 0) = 0
  rw [if_neg (by omega)]
theorem back_4 (h : TOk t) (hc : rmdirC t p = 0) (hp : pathOkL p = true) : makeC (t.filter fun e => !(e.p == p)) p = 0 ∧ putP PE.p (t.filter fun e => !(e.p == p)) ⟨p, true, []⟩ = t := by
  obtain ⟨e, he, hd, _⟩ := rmdirC_0 hc
  obtain ⟨h1, h2, h3, h4⟩ := back_off h hp he
  have e0 : e = ⟨p, true, []⟩ := by
    have h5 := (h.get.1 he).2
    have := ent_dir h (h.get.1 he).1 hd
    rw [h5] at this; exact this
  refine ⟨?_, by rw [← e0]; exact h4⟩
  unfold makeC
  rw [h1, h2]
  show (if (16 : Nat) ≤ _ then 8 else 0) = 0
  rw [if_neg (by omega)]
/-- What is done once more. -/
theorem again_1 (h : TOk t) (hc : makeC t p = 0) (hp : pathOkL p = true) : makeC (putP PE.p t ⟨p, true, []⟩) p = 4 := by
  obtain ⟨h1, h2, h3⟩ := makeC_0 hc
  have ht := tok_put h hp (x := []) (d := true) (by decide) (fun _ => rfl) h1 (.inr ⟨h2, h3⟩)
  unfold makeC
  rw [upCode_keep h.ordP ht.ordP (.inr (by rw [at_do_put h, if_neg (Ne.symm (up_ne hp))])), h1, getL_at, at_do_put h, if_pos rfl]
  rfl
theorem again_2 (h : TOk t) (hc : putC t p = 0) (hp : pathOkL p = true) (hx : dataOkL x = true) : putC (putP PE.p t ⟨p, false, x⟩) p = 0 ∧ putP PE.p (putP PE.p t ⟨p, false, x⟩) ⟨p, false, x⟩ = putP PE.p t ⟨p, false, x⟩ := by
  obtain ⟨h1, h2⟩ := putC_0 hc
  have ht := tok_put (d := false) h hp hx (fun h => (by cases h)) h1 h2
  refine ⟨?_, put_twice h _⟩
  unfold putC
  rw [upCode_keep h.ordP ht.ordP (.inr (by rw [at_do_put h, if_neg (Ne.symm (up_ne hp))])), h1, getL_at, at_do_put h, if_pos rfl]
  rfl
theorem again_off (h : TOk t) : rmC (t.filter fun e => !(e.p == p)) p = 2 ∧ rmdirC (t.filter fun e => !(e.p == p)) p = 2 := by
  have : getL (t.filter fun e => !(e.p == p)) p = none := by rw [getL_at, at_off h, if_pos rfl]
  unfold rmC rmdirC
  rw [this]
  exact ⟨rfl, rfl⟩
theorem again_5 (m : MV t p r) : moveC (mvL t p r) p r = 2 := by
  have : getL (mvL t p r) p = none := getL_none.2 fun x hx => m.gone hx
  unfold moveC
  rw [if_pos this]
/-- By way of a place in the root. -/
theorem via_code (_h : TOk t) {v : Bs} (hv : upL v = [47]) (hvp : pathOkL v = true) (hp : pathOkL p = true) (he : ∃ e, getL t p = some e) : moveC t p v = 0 ∨ moveC t p v = 4 ∨ moveC t p v = 8 := by
  obtain ⟨e, he⟩ := he
  have h1 : upCodeL t v = 0 := by unfold upCodeL; rw [if_pos hv]
  have h2 : underL v p = false := ups_root hvp hv hp
  unfold moveC
  rw [if_neg (by rw [he]; simp), if_neg (by rw [h1]; simp), h2]
  split
  · exact .inr (.inl rfl)
  · rw [if_neg (by simp)]
    split
    · exact .inl rfl
    · exact .inr (.inr rfl)
end
end Go.Proofs.YtdhbdcmnbhjjaaaGreatDoor
namespace Go.Proofs.YtdhbdcmnbhjjaaaGreatDoor
open Go.RowKit
theorem slf_lit {α : Type} {f : α → List Value} (hf : ∀ x, (f x).length = 3) (w : World) (cs : Array Value) (t : TypeId) (ys : List α) (h : cs.toList = ys.flatMap f) : SlF f (w.alloc (.cells cs t)) (some ⟨w.heap.size, 0, none⟩) ys := fun _ =>
  ⟨w.heap.size, 0, rfl, by simp, fun k x hx j u hu => by
    rw [Nat.zero_add]
    have hj : j < 3 := by have := (List.getElem?_eq_some_iff.1 hu).1; rw [hf] at this; exact this
    exact new_cell w cs t (k * 3 + j) u (by rw [← Array.getElem?_toList, h, flat_of hf hj ys k x hx]; exact hu)⟩
theorem row_of {α : Type} {f : α → List Value} (hf : ∀ x, (f x).length = 3) {w : World} {B m N : Nat} {t : TypeId} {v : Value} {xs ys : List α} (h : w.ownsRow B t 3 v m ([] ++ xs.flatMap f ++ ys.flatMap f)) (hm : m = N) (hN : (xs ++ ys).length = N) :
    ∃ a c, v = .slice a N c ∧ SlF f w a (xs ++ ys) := by
  subst hm
  obtain ⟨a, c, rfl⟩ := own_shape h
  refine ⟨a, c, rfl, ?_⟩
  rw [List.nil_append, ← List.flatMap_append] at h
  exact own_slfN hf h hN
/-- An append of many structs, inside a region. -/
theorem op_appN {P : Program} {o : Oper} {a : Act} {K : Act → World → Prop} {Q : Exit → Act → World → Prop} (s x : Operand) (t : TypeId)
    (ho : o.op = .call { callee := .builtin .append, args := #[s, x], argTypes := #[t, t] }) {e : TypeId} {bytes : Nat} (E : Elt P t e 3 bytes)
    (base B : Nat) (w0 w : World) (v : Value) (n : Nat) (xs : List Value) (hs : a.eval s = v) {α : Type} (f : α → List Value) (hf : ∀ x, (f x).length = 3) (h1 : ∀ x, ∀ u ∈ f x, u.oneCell' = true) (ys : List α) (b off m c : Nat) (hm : ys.length = m) (hx : a.eval x = .slice (some ⟨b, off, none⟩) m c)
    (hsl : SlF f w (some ⟨b, off, none⟩) ys) (hown : w.ownsRow base e 3 v n xs) (hn : n + ys.length ≤ 2000000) (hbase : base ≤ w.heap.size) (hB : Below B w0 w) (hBb : B ≤ base)
    (h : ∀ v' w', w'.ownsRow base e 3 v' (n + ys.length) (xs ++ ys.flatMap f) → Below B w0 w' → K (a.put o.dst v') w') : o.wp P a w K Q := by
  subst hm
  obtain ⟨i, z, hi, hz, hsz, hby, hzs⟩ := E.info
  have hsm := E.small
  refine wp_append_own _ s x t ho base e i z 3 bytes E.und hi hz hsz hby hzs E.pos v n xs hs hown ⟨b, off, none⟩ ys.length c (ys.flatMap f) hx (flatMap_len hf ys) (hsl.cells_at hf) (fun u hu => ?_) (by unfold maxLen; omega) ?_ hbase ?_
  · obtain ⟨y, hy, hu⟩ := List.mem_flatMap.1 hu
    exact h1 y u hu
  · have : (n + ys.length) * bytes ≤ 2000000 * 64 := Nat.mul_le_mul hn hsm
    omega
  · intro v' w' h2 h3 _
    refine h v' w' h2 (hB.grown h3 (Nat.le_trans hBb hbase) ?_)
    intro k hk
    rcases hown.2 with ⟨rfl, _⟩ | ⟨g, cap, cur, rfl, hg, _⟩
    · simp [Value.ownBlock] at hk
    · simp [Value.ownBlock] at hk; omega
end Go.Proofs.YtdhbdcmnbhjjaaaGreatDoor
