/- What draws layers: the walks of DrawLayerOk, DrawLayerSame, DrawLayerHides, DrawLayerOn, DrawLayerJoin. The walks of LayerHides, of the program and of the reference. What the laws of layers share: LayerOk, LayerHides, LayerSame as the laws meet them. The walk of the law that hiding extends to all descendants: FnLayerHides. The walk of the law that listings partition the tree: FnTreeList. Rows that are laid side by side: what two appends leave. The walk of the law that malformed trees are refused: FnTreeBent. The walk of the law that malformed layers are refused: FnLayerBent. Conditions: each theorem's own. -/
import Derived.Test.YtobbodbkdcbflaaDoorB7
import Derived.Test.YtobbodbkdcbflaaDoorB6
import Derived.Test.YtobbodbkdcbflaaDoorB4
namespace Go.Proofs.YtobbodbkdcbflaaDoor
open Go.RowKit
theorem small_leM {xs : List Mk} (h : SmallM xs) : SmM le20 xs := fun e he => ⟨h e he, by unfold le20; rw [decide_eq_true_eq]; exact (h e he).1⟩
/-- A short text that is low, or z in zz. -/
def lowZ (s : ByteArray) : Bool := goodT s || (s.data.toList == [47, 122, 122, 47, 122])
theorem lowZ_good (s : ByteArray) (h : goodT s = true) : lowZ s = true := by unfold lowZ; rw [h]; rfl
theorem lowZ_z : lowZ ⟨#[47, 122, 122, 47, 122]⟩ = true := by decide
theorem le20_z : le20 ⟨#[47, 122, 122, 47, 122]⟩ = true := by decide
/-- All that stands in a layer is low, or z in zz. -/
def LowZ (l : List PM) : Prop := ∀ m ∈ l, lowL m.p = true ∨ m.p = [47, 122, 122, 47, 122]
theorem low_lowZ {xs : List Mk} (h : LowM (xs.map Mk.pl)) (hz : SmallM xs) : SmM lowZ xs := fun e he => ⟨hz e he, lowZ_good _ (good_low.2 ⟨(hz e he).1, h e.pl (List.mem_map_of_mem he)⟩)⟩
theorem lowZ_low {xs : List Mk} (h : SmM lowZ xs) : LowZ (xs.map Mk.pl) := fun m hm => by
  obtain ⟨e, he, rfl⟩ := List.mem_map.1 hm
  have h1 := (h e he).2
  unfold lowZ at h1
  rw [Bool.or_eq_true, beq_iff_eq] at h1
  exact h1.imp (fun h2 => (good_low.1 h2).2) (fun h2 => h2)
/-- A layer, drawn. -/
def OneLayerPost (w : World) (e : Ending) (w' : World) : Prop :=
  ∃ (a : Option Addr) (c : Nat) (xs : List Mk), e = .returned (.slice a xs.length c) ∧ RdMk w' a c xs ∧ SmallM xs ∧ xs.length ≤ 40 ∧ LowZ (xs.map Mk.pl) ∧ Below w.heap.size w w'
/-- Two layers, drawn. -/
def TwoLayerPost (w : World) (e : Ending) (w' : World) : Prop :=
  ∃ (a : Option Addr) (c : Nat) (xs : List Mk) (a' : Option Addr) (c' : Nat) (ys : List Mk), e = .returned (.tuple #[.slice a xs.length c, .slice a' ys.length c']) ∧ RdMk w' a c xs ∧ SmallM xs ∧ xs.length ≤ 40 ∧ RdMk w' a' c' ys ∧ SmallM ys ∧ ys.length ≤ 40 ∧ Below w.heap.size w w'
/-- A layer and a text, drawn. -/
def LayerTextPost (w : World) (e : Ending) (w' : World) : Prop :=
  ∃ (a : Option Addr) (c : Nat) (xs : List Mk) (s : ByteArray), e = .returned (.tuple #[.slice a xs.length c, .string s]) ∧ RdMk w' a c xs ∧ SmallM xs ∧ xs.length ≤ 40 ∧ s.size ≤ 20 ∧ Below w.heap.size w w'
/-- A layer and a tree, drawn. -/
def LayerTreePost (w : World) (e : Ending) (w' : World) : Prop :=
  ∃ (a : Option Addr) (c : Nat) (xs : List Mk) (a' : Option Addr) (c' : Nat) (ys : List En), e = .returned (.tuple #[.slice a xs.length c, .slice a' ys.length c']) ∧ RdMk w' a c xs ∧ SmallM xs ∧ xs.length ≤ 40 ∧ ReadEn w' a' c' ys ∧ Small ys ∧ ys.length ≤ 25 ∧ Below w.heap.size w w'
set_option maxRecDepth 100000 in
set_option maxHeartbeats 4000000 in
theorem drawLayerOk_c (w : World) (a : Option Addr) (n c : Nat) (h : Code w a n c) : Calls Tryd.prog 10 #[.slice a n c] w (OneLayerPost w) := by
  obtain ⟨rb, hrb⟩ : ∃ rb, w.heap.size = rb := ⟨_, rfl⟩
  have ho0 := open_c' w a n c h
  rw [hrb] at ho0
  have HO := Lib.hid ho0
  clear h ho0
  go_enter Tryd.func10, Tryd.ntmps10
  go_wp2_with fail
  refine HO.out.mono ?_; rintro e w1 ⟨rfl, hrd, hb⟩
  have HB1 := Lib.hid (hb.mono (by rw [hrb]; exact Nat.le_refl _) : Below w.heap.size w w1)
  have HT := Lib.hid (l3Layer_c w1 rb 0 hrd (by omega))
  clear hrd hb HO
  go_wp2_with fail
  refine HT.out.mono ?_; rintro e w2 ⟨a2, c2, ts, p2, rfl, hd2, hlok, hlow, hp2, hrd2, ho2⟩
  have hts : ts.length ≤ 32 := by have := hlok.most; rw [List.length_map] at this; exact this
  have hsa := low_lowZ hlow (lok_small hlok)
  have HBT := Lib.hid (l3Bent_c lowZ lowZ_good lowZ_z w2 rb p2 hrd2 (by omega) a2 c2 ts hd2 hsa (by omega))
  clear hd2 hrd2
  obtain ⟨m2, hn2⟩ : ∃ n, ts.length = n := ⟨_, rfl⟩
  have HLB2 := Lib.hid hn2
  rw [hn2] at HBT ⊢
  clear hn2
  go_wp2_with fail
  refine HBT.out.mono ?_; rintro e w3 ⟨a3, c3, us, p3, rfl, hd3, hs3, hl3, hp3, hrd3, ho3⟩
  have hm2 := HLB2.out
  clear HBT
  have HBT := Lib.hid (l3Bent_c lowZ lowZ_good lowZ_z w3 rb p3 hrd3 (by omega) a3 c3 us hd3 hs3 (by omega))
  clear hd3 hrd3
  obtain ⟨m3, hn2⟩ : ∃ n, us.length = n := ⟨_, rfl⟩
  have HLB3 := Lib.hid hn2
  rw [hn2] at HBT ⊢
  clear hn2
  go_wp2_with fail
  refine HBT.out.mono ?_; rintro e w4 ⟨a4, c4, vs, p4, rfl, hd4, hs4, hl4, hp4, hrd4, ho4⟩
  have hm3 := HLB3.out
  clear HBT
  have HB4 := Lib.hid (((ho2.trans ho3).trans ho4).below HB1.out (by omega) HB1.out.size)
  have HR4 := Lib.hid hd4.read
  clear ho2 ho3 ho4 hd4 hrd4 HT
  obtain ⟨m4, hn4⟩ : ∃ n, vs.length = n := ⟨_, rfl⟩
  have HN4 := Lib.hid hn4
  rw [hn4] at hl4 ⊢
  clear hn4
  go_wp2
  go_ret
  exact ⟨a4, c4, vs, by rw [HN4.out]; rfl, HR4.out, hs4.small, by rw [HN4.out]; omega, lowZ_low hs4, HB4.out⟩
set_option maxRecDepth 100000 in
set_option maxHeartbeats 4000000 in
theorem drawLayerSame_c (w : World) (a : Option Addr) (n c : Nat) (h : Code w a n c) : Calls Tryd.prog 9 #[.slice a n c] w (TwoLayerPost w) := by
  obtain ⟨rb, hrb⟩ : ∃ rb, w.heap.size = rb := ⟨_, rfl⟩
  have ho0 := open_c' w a n c h
  rw [hrb] at ho0
  have HO := Lib.hid ho0
  clear h ho0
  go_enter Tryd.func9, Tryd.ntmps9
  go_wp2_with fail
  refine HO.out.mono ?_; rintro e w1 ⟨rfl, hrd, hb⟩
  have HB1 := Lib.hid (hb.mono (by rw [hrb]; exact Nat.le_refl _) : Below w.heap.size w w1)
  have HT := Lib.hid (l3Layer_c w1 rb 0 hrd (by omega))
  clear hrd hb HO
  go_wp2_with fail
  refine HT.out.mono ?_; rintro e w2 ⟨a2, c2, ts, p2, rfl, hd2, hlok, hlow, hp2, hrd2, ho2⟩
  have hts : ts.length ≤ 32 := by have := hlok.most; rw [List.length_map] at this; exact this
  have hsa := small_leM (lok_small hlok)
  have HDT := Lib.hid hd2
  have HBT := Lib.hid (l3Bent_c le20 le20_good le20_z w2 rb p2 hrd2 (by omega) a2 c2 ts hd2 hsa (by omega))
  clear hd2 hrd2
  obtain ⟨m2, hn2⟩ : ∃ n, ts.length = n := ⟨_, rfl⟩
  have HLB2 := Lib.hid hn2
  rw [hn2] at HBT ⊢
  clear hn2
  go_wp2_with fail
  refine HBT.out.mono ?_; rintro e w3 ⟨a3, c3, us, p3, rfl, hd3, hs3, hl3, hp3, hrd3, ho3⟩
  have hm2 := HLB2.out
  clear HBT
  have HBT := Lib.hid (l3Bent_c le20 le20_good le20_z w3 rb p3 hrd3 (by omega) a3 c3 us hd3 hs3 (by omega))
  clear hd3 hrd3
  obtain ⟨m3, hn2⟩ : ∃ n, us.length = n := ⟨_, rfl⟩
  have HLB3 := Lib.hid hn2
  rw [hn2] at HBT ⊢
  clear hn2
  go_wp2_with fail
  refine HBT.out.mono ?_; rintro e w4 ⟨a4, c4, vs, p4, rfl, hd4, hs4, hl4, hp4, hrd4, ho4⟩
  have hm3 := HLB3.out
  clear HBT
  have HBT := Lib.hid (l3Bent_c le20 le20_good le20_z w4 rb p4 hrd4 (by omega) a4 c4 vs hd4 hs4 (by omega))
  clear hd4 hrd4
  obtain ⟨m4, hn2⟩ : ∃ n, vs.length = n := ⟨_, rfl⟩
  have HLB4 := Lib.hid hn2
  rw [hn2] at HBT ⊢
  clear hn2
  go_wp2_with fail
  refine HBT.out.mono ?_; rintro e w5 ⟨a5, c5, ys, p5, rfl, hd5, hs5, hl5, hp5, hrd5, ho5⟩
  have hm4 := HLB4.out
  clear HBT
  have HBT := Lib.hid (l3Bent_c le20 le20_good le20_z w5 rb p5 hrd5 (by omega) a5 c5 ys hd5 hs5 (by omega))
  clear hd5 hrd5
  obtain ⟨m5, hn2⟩ : ∃ n, ys.length = n := ⟨_, rfl⟩
  have HLB5 := Lib.hid hn2
  rw [hn2] at HBT ⊢
  clear hn2
  go_wp2_with fail
  refine HBT.out.mono ?_; rintro e w6 ⟨a6, c6, zs, p6, rfl, hd6, hs6, hl6, hp6, hrd6, ho6⟩
  have hm5 := HLB5.out
  clear HBT
  have HO6 := ((ho3.trans ho4).trans ho5).trans ho6
  have HB6 := Lib.hid ((ho2.trans HO6).below HB1.out (by omega) HB1.out.size)
  have HR2 := Lib.hid (HDT.out.only HO6).read
  have HR6 := Lib.hid hd6.read
  clear ho2 ho3 ho4 ho5 ho6 HO6 hd6 hrd6 HT
  obtain ⟨m6, hn6⟩ : ∃ n, zs.length = n := ⟨_, rfl⟩
  have HN6 := Lib.hid hn6
  rw [hn6] at hl6 ⊢
  clear hn6
  go_wp2
  go_ret2
  exact ⟨a2, c2, ts, a6, c6, zs, by rw [HN6.out, HLB2.out]; rfl, HR2.out, hsa.small, by rw [HLB2.out]; omega, HR6.out, hs6.small, by rw [HN6.out]; omega, HB6.out⟩
set_option maxRecDepth 100000 in
set_option maxHeartbeats 4000000 in
theorem drawLayerHides_c (w : World) (a : Option Addr) (n c : Nat) (h : Code w a n c) : Calls Tryd.prog 15 #[.slice a n c] w (LayerTextPost w) := by
  obtain ⟨rb, hrb⟩ : ∃ rb, w.heap.size = rb := ⟨_, rfl⟩
  have ho0 := open_c' w a n c h
  rw [hrb] at ho0
  have HO := Lib.hid ho0
  clear h ho0
  go_enter Tryd.func15, Tryd.ntmps15
  go_wp2_with fail
  refine HO.out.mono ?_; rintro e w1 ⟨rfl, hrd, hb⟩
  have HB1 := Lib.hid (hb.mono (by rw [hrb]; exact Nat.le_refl _) : Below w.heap.size w w1)
  have HT := Lib.hid (l3Layer_c w1 rb 0 hrd (by omega))
  clear hrd hb HO
  go_wp2_with fail
  refine HT.out.mono ?_; rintro e w2 ⟨a2, c2, ts, p2, rfl, hd2, hlok, hlow, hp2, hrd2, ho2⟩
  have hts : ts.length ≤ 32 := by have := hlok.most; rw [List.length_map] at this; exact this
  have hsa := small_leM (lok_small hlok)
  have HBT := Lib.hid (l3Bent_c le20 le20_good le20_z w2 rb p2 hrd2 (by omega) a2 c2 ts hd2 hsa (by omega))
  clear hd2 hrd2
  obtain ⟨m2, hn2⟩ : ∃ n, ts.length = n := ⟨_, rfl⟩
  have HLB2 := Lib.hid hn2
  rw [hn2] at HBT ⊢
  clear hn2
  go_wp2_with fail
  refine HBT.out.mono ?_; rintro e w3 ⟨a3, c3, us, p3, rfl, hd3, hs3, hl3, hp3, hrd3, ho3⟩
  have hm2 := HLB2.out
  clear HBT
  have HL := Lib.hid (l1Text_c w3 rb p3 hrd3 (by omega))
  have HO3 := Lib.hid (ho2.trans ho3)
  have HD3 := Lib.hid hd3
  clear hd3 hrd3 ho2 ho3
  obtain ⟨n3, hn3⟩ : ∃ n, us.length = n := ⟨_, rfl⟩
  have HN3 := Lib.hid hn3
  rw [hn3] at hl3 ⊢
  clear hn3
  go_wp2_with fail
  refine HL.out.mono ?_; rintro e w4 ⟨s, p4, rfl, hs, _, _, ho4⟩
  have HB4 := Lib.hid ((HO3.out.trans ho4).below HB1.out (by omega) HB1.out.size)
  have HR4 := Lib.hid (HD3.out.only ho4).read
  clear ho4 HL
  go_wp2
  go_ret2
  exact ⟨a3, c3, us, s, by rw [HN3.out]; rfl, HR4.out, hs3.small, by rw [HN3.out]; omega, hs, HB4.out⟩
end Go.Proofs.YtobbodbkdcbflaaDoor
namespace Go.Proofs.YtobbodbkdcbflaaDoor
open Go.RowKit
set_option maxHeartbeats 4000000 in
theorem layerHides_c (a : Option Addr) (c : Nat) (xs : List Mk) (q : ByteArray) (r : Bool) (hr : Hid (r = true ↔ LOk (xs.map Mk.pl) ∧ hidesL (xs.map Mk.pl) q.data.toList = true)) (w : World) (hs : SlF Mk.cells w a xs) (hx : xs.length ≤ maxLen) (hq : q.size ≤ 2000000) (hz : ∀ e ∈ xs, e.p.size ≤ 2000000 ∧ e.x.size ≤ 2000000) :
    Calls Tryd.prog 16 #[.slice a xs.length c, .string q] w fun e w' => e = .returned (.bool r) ∧ Below w.heap.size w w' := by
  have hb := Below.refl w.heap.size w
  obtain ⟨k, hk⟩ := lok_dec xs
  have HT := Lib.hid (layerOk_c a c xs k (Lib.hid hk) w hs hx hz)
  obtain ⟨v, hv⟩ : ∃ v, hidesL (xs.map Mk.pl) q.data.toList = v := ⟨_, rfl⟩
  have HH := fun W (h : SlF Mk.cells W a xs) => Lib.hid (hides_c a c xs q v (Lib.hid hv) W h hx hq hz)
  have HR : Hid (r = (k && v)) := by
    rw [Hid, Bool.eq_iff_iff, hr.out, ← hk, hv, Bool.and_eq_true]
  have HS := Lib.hid hs
  obtain ⟨n, hn⟩ : ∃ n, xs.length = n := ⟨_, rfl⟩
  rw [hn] at HT HH ⊢
  have GH := Lib.hid HH
  clear hn HH hx hz hs hr hk hv hq
  cases k with
  | false =>
    obtain rfl : r = false := HR.out
    go_enter Tryd.func16, Tryd.ntmps16
    go_wp2_with fail
    refine (HT.out).mono ?_; rintro e W ⟨rfl, hq⟩; replace hb := chn hb hq; clear hq
    go_wp2
    go_ret
    exact ⟨rfl, hb⟩
  | true =>
    obtain rfl : r = v := by rw [HR.out]; simp
    go_enter Tryd.func16, Tryd.ntmps16
    go_wp2_with fail
    refine (HT.out).mono ?_; rintro e W ⟨rfl, hq⟩; replace hb := chn hb hq; clear hq
    go_wp2_with fail
    refine ((GH.out _ (HS.out.below hb)).out).mono ?_; rintro e W ⟨rfl, hq⟩; replace hb := chn hb hq; clear hq
    go_wp2
    go_ret
    exact ⟨rfl, hb⟩
set_option maxHeartbeats 4000000 in
theorem sLayerHides_c (a : Option Addr) (c : Nat) (xs : List Mk) (q : ByteArray) (r : Bool) (hr : Hid (r = true ↔ LOk (xs.map Mk.pl) ∧ hidesL (xs.map Mk.pl) q.data.toList = true)) (w : World) (hs : SlF Mk.cells w a xs) (hx : xs.length ≤ maxLen) (hc : xs.length ≤ c) (hq : q.size ≤ 2000000) (hz : ∀ e ∈ xs, e.p.size ≤ 2000000 ∧ e.x.size ≤ 2000000) :
    Calls Tryd.prog 17 #[.slice a xs.length c, .string q] w fun e w' => e = .returned (.bool r) ∧ Below w.heap.size w w' := by
  have hb := Below.refl w.heap.size w
  have hqm : q.size ≤ maxLen := by unfold maxLen; omega
  obtain ⟨k, hk⟩ := lok_dec xs
  have HT := Lib.hid (sLayerOk_c a c xs k (Lib.hid hk) w hs hx hc hz)
  obtain ⟨p, hp⟩ : ∃ p, pathOkL q.data.toList = p := ⟨_, rfl⟩
  have HP := fun W => Lib.hid (sPathOk_c q p (Lib.hid hp) W hqm)
  obtain ⟨v, hv⟩ : ∃ v, (xs.map Mk.pl).any (hideQ q.data.toList) = v := ⟨_, rfl⟩
  have HH := fun W (h : SlF Mk.cells W a xs) => Lib.hid (l3Hides_c a c xs q v (Lib.hid hv) W h hx hq hz)
  have HR : Hid (r = (k && (p && v))) := by
    rw [Hid, Bool.eq_iff_iff, hr.out, ← hk, Bool.and_eq_true, Bool.and_eq_true]
    constructor
    · rintro ⟨h1, h2⟩
      have h3 := hides_path (hk.1 h1) h2
      refine ⟨h1, hp ▸ h3, ?_⟩
      rw [← hv, hideQ_eq h3 (fun m hm => (hk.1 h1).pth hm)]; exact h2
    · rintro ⟨h1, h2, h3⟩
      refine ⟨h1, ?_⟩
      rw [← hideQ_eq (hp.trans h2) (fun m hm => (hk.1 h1).pth hm), hv]; exact h3
  have HS := Lib.hid hs
  obtain ⟨n, hn⟩ : ∃ n, xs.length = n := ⟨_, rfl⟩
  rw [hn] at HT HH ⊢
  have GH := Lib.hid HH
  have GP := Lib.hid HP
  clear hn HH HP hx hz hs hr hk hv hq hp hqm hc
  cases k with
  | false =>
    obtain rfl : r = false := HR.out
    go_enter Tryd.func17, Tryd.ntmps17
    go_wp2_with fail
    refine (HT.out).mono ?_; rintro e W ⟨rfl, hq⟩; replace hb := chn hb hq; clear hq
    go_wp2
    go_ret
    exact ⟨rfl, hb⟩
  | true =>
    cases p with
    | false =>
      obtain rfl : r = false := HR.out
      go_enter Tryd.func17, Tryd.ntmps17
      go_wp2_with fail
      refine (HT.out).mono ?_; rintro e W ⟨rfl, hq⟩; replace hb := chn hb hq; clear hq
      go_wp2_with fail
      refine ((GP.out _).out).mono ?_; rintro e W ⟨rfl, hq⟩; replace hb := chn hb hq; clear hq
      go_wp2
      go_ret
      exact ⟨rfl, hb⟩
    | true =>
      obtain rfl : r = v := by rw [HR.out]; simp
      go_enter Tryd.func17, Tryd.ntmps17
      go_wp2_with fail
      refine (HT.out).mono ?_; rintro e W ⟨rfl, hq⟩; replace hb := chn hb hq; clear hq
      go_wp2_with fail
      refine ((GP.out _).out).mono ?_; rintro e W ⟨rfl, hq⟩; replace hb := chn hb hq; clear hq
      go_wp2_with fail
      refine ((GH.out _ (HS.out.below hb)).out).mono ?_; rintro e W ⟨rfl, hq⟩; replace hb := chn hb hq; clear hq
      go_wp2
      go_ret
      exact ⟨rfl, hb⟩
end Go.Proofs.YtobbodbkdcbflaaDoor
namespace Go.Proofs.YtobbodbkdcbflaaDoor
open Go.RowKit
/-- Two layers held against one another. -/
theorem sameM_c (a a' : Option Addr) (c c' n n' : Nat) (xs ys : List Mk) (r : Bool) (hr : Hid (r = true ↔ xs = ys)) (w : World) (hn : xs.length = n) (hn' : ys.length = n') (hs : SlF Mk.cells w a xs) (hs' : SlF Mk.cells w a' ys) (hx : n ≤ 1000) (hy : n' ≤ 1000) :
    Calls Tryd.prog 11 #[.slice a n c, .slice a' n' c'] w fun e w' => e = .returned (.bool r) ∧ Below w.heap.size w w' := by
  subst hn hn'
  exact (layerSame_c a a' c c' xs ys r hr w hs hs' (by unfold maxLen; omega) (by unfold maxLen; omega)).mono fun _ _ ⟨h1, m, h2⟩ => ⟨h1, h2 ▸ below_dr w m⟩
theorem hidI_c (a : Option Addr) (c n : Nat) (xs : List Mk) (q : ByteArray) (r : Bool) (hr : Hid (r = true ↔ LOk (xs.map Mk.pl) ∧ hidesL (xs.map Mk.pl) q.data.toList = true)) (w : World) (hn : xs.length = n) (hs : SlF Mk.cells w a xs) (hx : n ≤ 1000) (hq : q.size ≤ 20) (hz : SmallM xs) :
    Calls Tryd.prog 16 #[.slice a n c, .string q] w fun e w' => e = .returned (.bool r) ∧ Below w.heap.size w w' := by
  subst hn
  exact layerHides_c a c xs q r hr w hs (by unfold maxLen; omega) (by omega) hz.mil
theorem hidS_c (a : Option Addr) (c n : Nat) (xs : List Mk) (q : ByteArray) (r : Bool) (hr : Hid (r = true ↔ LOk (xs.map Mk.pl) ∧ hidesL (xs.map Mk.pl) q.data.toList = true)) (w : World) (hn : xs.length = n) (hs : SlF Mk.cells w a xs) (hc : n ≤ c) (hx : n ≤ 1000) (hq : q.size ≤ 20) (hz : SmallM xs) :
    Calls Tryd.prog 17 #[.slice a n c, .string q] w fun e w' => e = .returned (.bool r) ∧ Below w.heap.size w w' := by
  subst hn
  exact sLayerHides_c a c xs q r hr w hs (by unfold maxLen; omega) hc (by omega) hz.mil
theorem lokI_c (a : Option Addr) (c n : Nat) (xs : List Mk) (r : Bool) (hr : Hid (r = true ↔ LOk (xs.map Mk.pl))) (w : World) (hn : xs.length = n) (hs : SlF Mk.cells w a xs) (hx : n ≤ 1000) (hz : SmallM xs) :
    Calls Tryd.prog 13 #[.slice a n c] w fun e w' => e = .returned (.bool r) ∧ Below w.heap.size w w' := by
  subst hn
  exact layerOk_c a c xs r hr w hs (by unfold maxLen; omega) hz.mil
theorem lokS_c (a : Option Addr) (c n : Nat) (xs : List Mk) (r : Bool) (hr : Hid (r = true ↔ LOk (xs.map Mk.pl))) (w : World) (hn : xs.length = n) (hs : SlF Mk.cells w a xs) (hc : n ≤ c) (hx : n ≤ 1000) (hz : SmallM xs) :
    Calls Tryd.prog 14 #[.slice a n c] w fun e w' => e = .returned (.bool r) ∧ Below w.heap.size w w' := by
  subst hn
  exact sLayerOk_c a c xs r hr w hs (by unfold maxLen; omega) hc hz.mil
theorem slf_nilM (w : World) : SlF Mk.cells w none [] := fun h => by simp at h
theorem hid_dec (xs : List Mk) (q : ByteArray) : ∃ r : Bool, r = true ↔ LOk (xs.map Mk.pl) ∧ hidesL (xs.map Mk.pl) q.data.toList = true := ⟨by classical exact decide (LOk (xs.map Mk.pl) ∧ hidesL (xs.map Mk.pl) q.data.toList = true), by simp⟩
end Go.Proofs.YtobbodbkdcbflaaDoor
namespace Go.Proofs.YtobbodbkdcbflaaDoor
open Go.RowKit
set_option maxRecDepth 100000 in
set_option maxHeartbeats 8000000 in
theorem lawLayerHides_w (w : World) (a : Option Addr) (n c : Nat) (a' : Option Addr) (n' c' : Nat) (h : Code w a n c) (h' : Code w a' n' c') : Calls Tryd.prog 4 #[.slice a n c, .slice a' n' c'] w (TrueB w) := by
  have hn := h.2.2
  have hn' := h'.2.2
  by_cases hbig : 1048576 < n
  · clear h h'
    go_enter Tryd.func4, Tryd.ntmps4
    go_wp2
    go_ret
    exact ⟨rfl, Below.refl _ _⟩
  by_cases hbig' : 1048576 < n'
  · clear h h'
    go_enter Tryd.func4, Tryd.ntmps4
    go_wp2
    go_ret
    exact ⟨rfl, Below.refl _ _⟩
  have HD := Lib.hid (drawLayerHides_c w a n c h)
  have HC := Lib.hid h'
  clear h h'
  go_enter Tryd.func4, Tryd.ntmps4
  go_wp2_with fail
  refine HD.out.mono ?_; rintro e W1 ⟨a1, c1, xs, s, rfl, hR, hz, hx, hs, hb⟩
  have HD2 := Lib.hid (drawLayerHides_c W1 a' n' c' (HC.out.below hb))
  have hcn := hR.cap
  obtain ⟨n1, hn1⟩ : ∃ m, xs.length = m := ⟨_, rfl⟩
  rw [hn1] at hx hcn ⊢
  have HN1 := Lib.hid hn1
  have HZ := Lib.hid hz
  clear hn1 hz HD HC
  go_wp2_with fail
  refine HD2.out.mono ?_; rintro e W2 ⟨a2, c2, ys, s2, rfl, _, _, _, hs2, hq⟩; replace hb := chn hb hq; replace hR := hR.below hq; clear hq
  obtain ⟨n2, hn2⟩ : ∃ m, ys.length = m := ⟨_, rfl⟩
  rw [hn2]
  clear hn2 HD2
  obtain ⟨r, hr⟩ := hid_dec xs s
  have HR := Lib.hid hr
  have HI := Lib.hid (fun W (h : SlF Mk.cells W a1 xs) => hidI_c a1 c1 n1 xs s r (Lib.hid hr) W HN1.out h (by omega) hs HZ.out)
  have HS := Lib.hid (fun W (h : SlF Mk.cells W a1 xs) => hidS_c a1 c1 n1 xs s r (Lib.hid hr) W HN1.out h hcn (by omega) hs HZ.out)
  have HNIL := Lib.hid (fun W => hidI_c none 0 0 [] s false (Lib.hid ⟨fun h => (by cases h), fun h => (by have := h.2; simp [hidesL] at this)⟩) W rfl (slf_nilM W) (by decide) hs (fun e he => by cases he))
  clear hr
  go_wp2_with fail
  refine (HI.out _ hR.sl).mono ?_; rintro e W3 ⟨rfl, hq⟩; replace hb := chn hb hq; replace hR := hR.below hq; clear hq HI
  go_wp2_with fail
  refine (HS.out _ hR.sl).mono ?_; rintro e W4 ⟨rfl, hq⟩; replace hb := chn hb hq; replace hR := hR.below hq; clear hq HS
  cases r with
  | false =>
    clear HR
    go_wp2_with fail
    refine (HNIL.out _).mono ?_; rintro e W5 ⟨rfl, hq⟩; replace hb := chn hb hq; clear hq
    go_wp2
    go_ret
    exact ⟨rfl, hb⟩
  | true =>
    obtain ⟨hlk, hhd⟩ := HR.out.1 rfl
    obtain ⟨u, hu⟩ : ∃ u, underL s2.data.toList s.data.toList = u := ⟨_, rfl⟩
    have HU := Lib.hid (pathUnder_c s2 s u (Lib.hid hu) W4 (by omega) (by omega))
    have HH : Hid (u = true → ∀ W, SlF Mk.cells W a1 xs → Calls Tryd.prog 16 #[.slice a1 n1 c1, .string s2] W fun e w' => e = .returned (.bool true) ∧ Below W.heap.size W w') := fun hu1 W h => hidI_c a1 c1 n1 xs s2 true (Lib.hid ⟨fun _ => ⟨hlk, hides_down hhd (by rw [hu, hu1])⟩, fun _ => rfl⟩) W HN1.out h (by omega) hs2 HZ.out
    clear HR hlk hhd hu
    go_wp2_with fail
    refine HU.out.mono ?_; rintro e W5 ⟨rfl, hq⟩; replace hb := chn hb hq; replace hR := hR.below hq; clear hq HU
    cases u with
    | false =>
      go_wp2_with fail
      refine (HNIL.out _).mono ?_; rintro e W6 ⟨rfl, hq⟩; replace hb := chn hb hq; clear hq
      go_wp2
      go_ret
      exact ⟨rfl, hb⟩
    | true =>
      go_wp2_with fail
      refine (HH.out (by trivial) _ hR.sl).mono ?_; rintro e W6 ⟨rfl, hq⟩; replace hb := chn hb hq; clear hq
      go_wp2_with fail
      refine (HNIL.out _).mono ?_; rintro e W7 ⟨rfl, hq⟩; replace hb := chn hb hq; clear hq
      go_wp2
      go_ret
      exact ⟨rfl, hb⟩
end Go.Proofs.YtobbodbkdcbflaaDoor
namespace Go.Proofs.YtobbodbkdcbflaaDoor
open Go.RowKit
theorem less_pre (c a b : Bs) : Op.bytesLess (c ++ a) (c ++ b) = Op.bytesLess a b := by
  induction c with
  | nil => rfl
  | cons x r ih =>
    rw [List.cons_append, List.cons_append, less_cons, ih]
    simp
theorem name_less {p q : Bs} (hp : pathOkL p = true) (hq : pathOkL q = true) (hu : upL p = upL q) (h : Op.bytesLess p q = true) : Op.bytesLess (nameL p) (nameL q) = true := by
  obtain ⟨h1, h2, _⟩ := law_path hp
  obtain ⟨k1, k2, _⟩ := law_path hq
  rw [← h2, ← k2] at h
  unfold joinL at h
  rw [if_pos h1, if_pos k1, hu] at h
  split at h
  · have := less_pre [47] (nameL p) (nameL q); rw [← this]; exact h
  · have := less_pre (upL q ++ [47]) (nameL p) (nameL q)
    rw [List.append_assoc, List.append_assoc] at this
    rw [← this]; exact h
theorem kids_in {t : List PE} (h : TOk t) {q n : Bs} (hn : n ∈ kidsL t q) : joinOkL q n = true ∧ ∃ e ∈ t, e.p = joinL q n := by
  unfold kidsL at hn
  obtain ⟨e, he, rfl⟩ := List.mem_map.1 hn
  obtain ⟨h1, h2⟩ := List.mem_filter.1 he
  rw [beq_iff_eq] at h2
  obtain ⟨h3, h4, _⟩ := law_path (h.pth h1)
  rw [h2] at h3 h4
  exact ⟨h3, e, h1, h4.symm⟩
theorem kids_ord {t : List PE} (h : TOk t) (q : Bs) : (kidsL t q).Pairwise fun a b => Op.bytesLess a b = true := by
  unfold kidsL
  rw [List.pairwise_map]
  have h1 : (t.filter fun e => upL e.p == q).Pairwise fun a b => Op.bytesLess a.p b.p = true := List.Pairwise.filter _ h.ordP
  refine List.Pairwise.imp_of_mem ?_ h1
  intro a b ha hb hl
  obtain ⟨ha1, ha2⟩ := List.mem_filter.1 ha
  obtain ⟨hb1, hb2⟩ := List.mem_filter.1 hb
  rw [beq_iff_eq] at ha2 hb2
  exact name_less (h.pth ha1) (h.pth hb1) (ha2.trans hb2.symm) hl
theorem kids_cons (e : PE) (s : List PE) (q : Bs) : (kidsL (e :: s) q).length = (if upL e.p = q then 1 else 0) + (kidsL s q).length := by
  unfold kidsL
  rw [List.filter_cons]
  by_cases h : upL e.p = q
  · rw [if_pos (by simpa using h), if_pos h, List.map_cons, List.length_cons]; omega
  · rw [if_neg (by simpa using h), if_neg h]; omega
theorem sum_add {α : Type} (f g : α → Nat) (t : List α) : (t.map fun x => f x + g x).sum = (t.map f).sum + (t.map g).sum := by
  induction t with
  | nil => rfl
  | cons a r ih => simp only [List.map_cons, List.sum_cons, ih]; omega
theorem sum_zero {α : Type} (f : α → Nat) (t : List α) (h : ∀ x ∈ t, f x = 0) : (t.map f).sum = 0 := by
  induction t with
  | nil => rfl
  | cons a r ih => rw [List.map_cons, List.sum_cons, h a (by simp), ih (fun x hx => h x (by simp [hx]))]
theorem sum_one {t : List PE} (h : OrdP PE.p t) (q : Bs) : (t.map fun f => if q = f.p then 1 else 0).sum = if (∃ f ∈ t, f.p = q) then 1 else 0 := by
  induction t with
  | nil => simp
  | cons a r ih =>
    obtain ⟨h1, h2⟩ := ordP_cons.1 h
    rw [List.map_cons, List.sum_cons, ih h2]
    have hx : (∃ f ∈ a :: r, f.p = q) ↔ a.p = q ∨ ∃ f ∈ r, f.p = q := by
      constructor
      · rintro ⟨f, hf, hp⟩
        rcases List.mem_cons.1 hf with rfl | hf
        · exact .inl hp
        · exact .inr ⟨f, hf, hp⟩
      · rintro (hp | ⟨f, hf, hp⟩)
        · exact ⟨a, List.mem_cons_self, hp⟩
        · exact ⟨f, List.mem_cons_of_mem _ hf, hp⟩
    by_cases hq : q = a.p
    · have hn : ¬ ∃ f ∈ r, f.p = q := fun ⟨f, hf, hp⟩ => less_ne (h1 f hf) (by rw [hp, hq])
      simp only [hq.symm, hx, hn, if_true, or_false, if_false]
    · have hq' : ¬ a.p = q := fun e => hq e.symm
      simp only [hq, hx, hq', false_or, if_false, Nat.zero_add]
theorem kids_total {t : List PE} (h : OrdP PE.p t) (hr : ∀ f ∈ t, f.p ≠ [47]) : ∀ s : List PE, (∀ e ∈ s, upL e.p = [47] ∨ ∃ f ∈ t, f.p = upL e.p) → (kidsL s [47]).length + (t.map fun f => (kidsL s f.p).length).sum = s.length
  | [], _ => by
    have := sum_zero (fun f : PE => (kidsL [] f.p).length) t (fun _ _ => rfl)
    rw [this]; rfl
  | e :: s, hs => by
    have ih := kids_total h hr s (fun x hx => hs x (by simp [hx]))
    have h1 : (t.map fun f => (kidsL (e :: s) f.p).length) = t.map fun f => (if upL e.p = f.p then 1 else 0) + (kidsL s f.p).length := List.map_congr_left fun f _ => kids_cons e s f.p
    rw [h1, sum_add, kids_cons, sum_one h, List.length_cons]
    rcases hs e (by simp) with h2 | ⟨f, hf, h2⟩
    · rw [if_pos h2, if_neg (by rintro ⟨f, hf, hp⟩; exact hr f hf (hp.trans h2))]; omega
    · rw [if_neg (fun h3 => hr f hf (h2.trans h3)), if_pos ⟨f, hf, h2⟩]; omega
/-- How many stand in the root and in the first directories. -/
def sumT (t : List PE) (j : Nat) : Nat := (kidsL t [47]).length + ((t.take j).map fun f => (kidsL t f.p).length).sum
theorem sumT_all {t : List PE} (h : TOk t) {n : Nat} (hn : t.length = n) : sumT t n = n := by
  have h1 := kids_total h.ordP (fun f hf => path_ne_root (h.pth hf)) t (fun e he => (h.par he).imp id (fun ⟨f, hf, h2, _⟩ => ⟨f, hf, h2⟩))
  unfold sumT
  rw [List.take_of_length_le (by omega), h1, hn]
theorem sumT_snoc {t : List PE} {j : Nat} {e : PE} (he : t[j]? = some e) : sumT t (j + 1) = sumT t j + (kidsL t e.p).length := by
  unfold sumT
  rw [List.take_add_one, he]
  simp; omega
theorem sumT_le {t : List PE} (h : TOk t) (j : Nat) : sumT t j ≤ t.length := by
  have h1 := sumT_all h rfl
  have h2 : sumT t t.length = sumT t j + ((t.drop j).map fun f => (kidsL t f.p).length).sum := by
    unfold sumT
    rw [List.take_of_length_le (Nat.le_refl _)]
    have h3 : (t.map fun f => (kidsL t f.p).length).sum = ((t.take j ++ t.drop j).map fun f => (kidsL t f.p).length).sum := by rw [List.take_append_drop]
    rw [h3, List.map_append, List.sum_append]; omega
  omega
theorem tlist_entry {t : List PE} (h : TOk t) {e : PE} (he : e ∈ t) : tlistC t e.p = (if e.d = true then 0 else 3) ∧ tlistL t e.p = kidsL t e.p := by
  have hp := h.pth he
  have hg : getL t e.p = some e := h.get.2 ⟨he, rfl⟩
  have hc : tlistC t e.p = if e.d = true then 0 else 3 := by
    unfold tlistC
    rw [if_pos ⟨h, .inr hp⟩, if_neg (path_ne_root hp), hg]
  refine ⟨hc, ?_⟩
  by_cases hd : e.d = true
  · exact tlist_0 (by rw [hc, if_pos hd])
  · rw [kids_file h hp hg (by simpa using hd)]
    unfold tlistL
    rw [if_neg (by rw [hc, if_neg hd]; decide)]
theorem tlist_root {t : List PE} (h : TOk t) : tlistC t [47] = 0 ∧ tlistL t [47] = kidsL t [47] := by
  have hc : tlistC t [47] = 0 := by unfold tlistC; rw [if_pos ⟨h, .inl rfl⟩, if_pos rfl]
  exact ⟨hc, tlist_0 hc⟩
theorem name_len {q n : Bs} (h : joinOkL q n = true) : n.length ≤ 3 := by
  obtain ⟨_, _, _, h1, _⟩ := (joinOk_iff q n).1 h
  exact ((nameOkL_iff n).1 h1).2.1
theorem pair_at {α : Type} {R : α → α → Prop} {l : List α} (h : l.Pairwise R) {j : Nat} {x y : α} (hx : l[j]? = some x) (hy : l[j + 1]? = some y) : R x y := by
  obtain ⟨h1, h2⟩ := List.getElem?_eq_some_iff.1 hx
  obtain ⟨h3, h4⟩ := List.getElem?_eq_some_iff.1 hy
  rw [← h2, ← h4]
  exact List.pairwise_iff_getElem.1 h j (j + 1) h1 h3 (by omega)
set_option maxRecDepth 100000 in
set_option maxHeartbeats 8000000 in
theorem lawTreeList_w (w : World) (a : Option Addr) (n c : Nat) (h : Code w a n c) : Calls Tryd.prog 8 #[.slice a n c] w (TrueB w) := by
  have hn := h.2.2
  by_cases hbig : 1048576 < n
  · clear h
    go_enter Tryd.func8, Tryd.ntmps8
    go_wp2
    go_ret
    exact ⟨rfl, Below.refl _ _⟩
  have HD := Lib.hid (drawTreeList_c w a n c h)
  clear h
  go_enter Tryd.func8, Tryd.ntmps8
  go_wp2_with fail
  refine HD.out.mono ?_; rintro e W1 ⟨a1, c1, xs, s, rfl, hR, hz, hx, hs, hb⟩
  have hcn := hR.cap
  obtain ⟨n1, hn1⟩ : ∃ m, xs.length = m := ⟨_, rfl⟩
  rw [hn1] at hx hcn ⊢
  have HN1 := Lib.hid hn1
  have HZ := Lib.hid hz
  obtain ⟨o, ho⟩ : ∃ o, tgetE xs s = o := ⟨_, rfl⟩
  obtain ⟨ep, ex, ed, th, hov, hos⟩ := opt_one o
  have HO := Lib.hid ho
  have HOS := Lib.hid hos
  obtain ⟨rt, hrt⟩ := tok_dec xs
  have HRT := Lib.hid hrt
  have HG := Lib.hid (fun W (h : SlF En.cells W a1 xs) => getT_c a1 c1 n1 xs s o (Lib.hid ho) W HN1.out h (by omega) HZ.out)
  have HSG := Lib.hid (fun W (h : SlF En.cells W a1 xs) => sGetT_c a1 c1 n1 xs s o (Lib.hid ho) W HN1.out h hcn (by omega) HZ.out)
  have HTK := Lib.hid (fun W (h : SlF En.cells W a1 xs) => okS_c a1 c1 n1 xs rt (Lib.hid hrt) W HN1.out h hcn (by omega) HZ.out)
  rw [hov] at HG HSG
  clear hn1 hz HD ho hov hos hrt
  have hsm : s.size ≤ maxLen := by unfold maxLen; omega
  have HTL := Lib.hid (fun (q : ByteArray) (hq : q.size ≤ maxLen) W (h : SlF En.cells W a1 xs) => treeList_c a1 c1 xs q W h (by rw [HN1.out]; unfold maxLen; omega) hq HZ.out.max)
  have HTS := Lib.hid (fun W (h : SlF En.cells W a1 xs) => sTreeList_c a1 c1 xs s W h (by rw [HN1.out]; unfold maxLen; omega) (by rw [HN1.out]; exact hcn) hsm HZ.out.max)
  rw [HN1.out] at HTL HTS
  obtain ⟨C, hC⟩ : ∃ C, tlistC (xs.map En.pl) s.data.toList = C := ⟨_, rfl⟩
  obtain ⟨L, hL⟩ : ∃ L, tlistL (xs.map En.pl) s.data.toList = L := ⟨_, rfl⟩
  have HC := Lib.hid hC
  have HL := Lib.hid hL
  have HT1 := Lib.hid (fun W h => HTL.out s hsm W h)
  rw [hC, hL] at HTS HT1
  clear hC hL
  go_wp2_with fail
  refine (HT1.out _ hR.sl).mono ?_; rintro e W2 ⟨v2, ss, rfl, hss, hov, hq⟩; replace hb := chn hb hq; replace hR := hR.below hq; clear hq HT1
  obtain ⟨a2, c2, rfl⟩ := own_shape hov
  have hsl := own_sls hov rfl
  have HSS := Lib.hid hss
  have hkb : ss.length ≤ 25 := by
    have h1 := congrArg List.length (hss.trans HL.out.symm)
    have h2 : (tlistL (xs.map En.pl) s.data.toList).length ≤ xs.length := by
      unfold tlistL
      split
      · have := kids_len (xs.map En.pl) s.data.toList; rwa [List.length_map] at this
      · exact Nat.zero_le _
    have h3 := HN1.out
    rw [List.length_map] at h1
    omega
  obtain ⟨m, hm⟩ : ∃ m, ss.length = m := ⟨_, rfl⟩
  have HM := Lib.hid hm
  rw [hm] at hkb ⊢
  clear hss hov hm
  go_wp2_with fail
  refine (HTS.out _ hR.sl).mono ?_; rintro e W3 ⟨v3, ss3, rfl, hss3, hov3, hq⟩; replace hb := chn hb hq; replace hR := hR.below hq; replace hsl := hsl.below hq; clear hq HTS
  obtain ⟨a3, c3, rfl⟩ := own_shape hov3
  have hsl3 := own_sls hov3 rfl
  obtain rfl : ss3 = ss := strs_inj (hss3.trans HSS.out.symm)
  rw [HM.out]
  clear hss3 hov3
  have hcc : ((C : Int) != (C : Int)) = false := by rw [bne_eq_false_iff_eq]
  go_wp2_with fail
  refine (wpWords_c a2 a3 c2 c3 m m ss3 ss3 true (Lib.hid ⟨fun _ => rfl, fun _ => rfl⟩) _ HM.out HM.out hsl hsl3 (by omega)).mono ?_; rintro e W4 ⟨rfl, hq⟩; replace hb := chn hb hq; replace hR := hR.below hq; replace hsl := hsl.below hq; clear hq hsl3
  go_wp2_with fail
  refine (HG.out _ hR.sl).mono ?_; rintro e W5 ⟨rfl, hq⟩; replace hb := chn hb hq; replace hR := hR.below hq; replace hsl := hsl.below hq; clear hq HG HSG
  have y0 := new_cell W5 #[.string ep, .bool ed, .string ex] 41 0 _ rfl
  have y1 := new_cell W5 #[.string ep, .bool ed, .string ex] 41 1 _ rfl
  have y2 := new_cell W5 #[.string ep, .bool ed, .string ex] 41 2 _ rfl
  replace hb := hb.alloc hb.size (.cells #[.string ep, .bool ed, .string ex] 41)
  replace hR := hR.below (bellow_alloc W5 (.cells #[.string ep, .bool ed, .string ex] 41))
  replace hsl := hsl.below (bellow_alloc W5 (.cells #[.string ep, .bool ed, .string ex] 41))
  go_wp2_with fail
  refine (HTK.out _ hR.sl).mono ?_; rintro e W6 ⟨rfl, hq⟩; replace hb := chn hb hq; replace hR := hR.below hq; replace hsl := hsl.below hq; replace y1 := keepc hq y1; clear hq HTK y0 y2
  by_cases hgood : TOk (xs.map En.pl) ∧ (s.data.toList = [47] ∨ pathOkL s.data.toList = true)
  · obtain ⟨htok, hsp⟩ := hgood
    obtain rfl : rt = true := HRT.out.2 htok
    have hCU := tlist_ok htok hsp
    rw [HC.out, ← tget_ok s htok, HO.out] at hCU
    have HTOK := Lib.hid htok
    have HCU := Lib.hid hCU
    have HSP := Lib.hid hsp
    clear HRT hCU htok hsp
    have HPK : Hid (pathOkL s.data.toList = true → Calls Tryd.prog 38 #[.string s] W6 fun e w' => e = .returned (.bool true) ∧ Below W6.heap.size W6 w') := fun h => pathOk_c s true (Lib.hid h) W6 hsm
    by_cases hroot : s = ⟨#[47]⟩
    · have hbe := beq_yes (s := s) (t := [47]) (by rw [hroot])
      clear hroot
      have hCU := HCU.out
      have htok := HTOK.out
      have hsp := HSP.out
      clear HCU HSP
      rcases HOS.out with ⟨h1, h2⟩ | ⟨h1, h2⟩
      · subst h2
        rw [h1] at hCU
        obtain rfl : C = 2 := hCU
        obtain rfl : m = 0 := by
          have h3 := HSS.out
          rw [← HL.out, tlist_n HC.out (by decide)] at h3
          rw [← HM.out, List.map_eq_nil_iff.1 h3]; rfl
        clear h1 hsp htok
        go_wp2
        go_ret
        exact ⟨rfl, hb⟩
      · subst h1
        rw [h2] at hCU
        cases ed with
        | false =>
          obtain rfl : C = 3 := hCU
          obtain rfl : m = 0 := by
            have h3 := HSS.out
            rw [← HL.out, tlist_n HC.out (by decide)] at h3
            rw [← HM.out, List.map_eq_nil_iff.1 h3]; rfl
          clear h2 hsp htok
          go_wp2
          go_ret
          exact ⟨rfl, hb⟩
        | true =>
          obtain rfl : C = 0 := hCU
          have hkl := HSS.out
          rw [← HL.out, tlist_0 HC.out] at hkl
          have HKI : Hid (∀ x ∈ ss3, joinOkL s.data.toList x.data.toList = true ∧ ∃ e ∈ xs, joinL s.data.toList x.data.toList = e.p.data.toList) := fun x hx => by
            have h3 : x.data.toList ∈ kidsL (xs.map En.pl) s.data.toList := by rw [← hkl]; exact List.mem_map_of_mem hx
            obtain ⟨h4, f, hf, h5⟩ := kids_in htok h3
            obtain ⟨e, he, rfl⟩ := List.mem_map.1 hf
            exact ⟨h4, e, he, h5.symm⟩
          have HKO : Hid (∀ (j : Nat) (x y : ByteArray), ss3[j]? = some x → ss3[j + 1]? = some y → Op.bytesLess x.toList y.toList = true) := fun j x y hx hy => by
            rw [less_of']
            have h3 := kids_ord htok s.data.toList
            rw [← hkl, List.pairwise_map] at h3
            exact pair_at h3 hx hy
          have HTR := Lib.hid (HTL.out ⟨#[47]⟩ (by decide))
          have hroot := tlist_root htok
          rw [show (⟨#[47]⟩ : ByteArray).data.toList = [47] from rfl, hroot.1, hroot.2] at HTR
          have HR0 := Lib.hid hR
          have HB0 := Lib.hid hb
          have HSL := Lib.hid hsl
          clear h2 hsp htok hkl hroot hR hb hsl HPK
          go_wp2
          go_loopw [11] (fun i wr => ∃ j : Nat, j ≤ m ∧ i = .int .i64 j ∧ Below W6.heap.size W6 wr) (fun i _ => m - (intOf i).toNat)
          case atStart => exact ⟨0, Nat.zero_le _, rfl, Below.refl _ _⟩
          case round =>
            obtain ⟨j, hj, rfl, hb⟩ := hrel
            by_cases hlt : j < m
            · obtain ⟨x, hxx⟩ : ∃ x, ss3[j]? = some x := ⟨_, List.getElem?_eq_getElem (by rw [HM.out]; exact hlt)⟩
              obtain ⟨hjo, e, hee, hej⟩ := HKI.out x (List.mem_of_getElem? hxx)
              have hxl : x.size ≤ 3 := by have := name_len hjo; rwa [size_data] at this
              have hHS := HSL.out.below hb
              obtain ⟨b, off, rfl, _, hcs⟩ := hHS (by rw [HM.out]; omega)
              have d0 := hcs j x hxx
              have HPJ := Lib.hid (fun W => pathJoin_c s x e.p true (Lib.hid hej) (Lib.hid hjo) W (by omega) (by omega))
              have HGE := Lib.hid (fun W (h : SlF En.cells W a1 xs) => getT_c a1 c1 n1 xs e.p (some e) (Lib.hid (by rw [tget_right HTOK.out (HTOK.out.pth (List.mem_map_of_mem hee)), getE_ok HTOK.out hee])) W HN1.out h (by omega) HZ.out)
              obtain ⟨fp, fd, fx⟩ := e
              have HXX := Lib.hid hxx
              have hRR := HR0.out.below hb
              have i0 : (0 : Int) ≤ (j : Int) := by omega
              have i1 : (j : Int) < (m : Int) := by omega
              clear hee hej hjo hxx hHS
              cases j with
              | zero =>
                rw [Nat.add_zero] at d0
                clear hcs
                go_wp2_with fail
                refine (HPJ.out _).mono ?_; rintro e V1 ⟨rfl, hq⟩; replace hb := chn hb hq; replace hRR := hRR.below hq; replace d0 := keepc hq d0; clear hq HPJ
                go_wp2_with fail
                refine (HGE.out _ hRR.sl).mono ?_; rintro e V2 ⟨rfl, hq⟩; replace hb := chn hb hq; replace d0 := keepc hq d0; clear hq HGE hRR
                have hq := bellow_alloc V2 (.cells #[.string fp, .bool fd, .string fx] 41)
                replace hb := hb.alloc hb.size (.cells #[.string fp, .bool fd, .string fx] 41); replace d0 := keepc hq d0; clear hq
                go_wp2_with fail
                go_quiet (fail)
                go_wp2
                go_roundw
                case rel => exact ⟨1, by omega, by go_num, by first | exact hb | exact drw hb _⟩
                case measure => simp [intOf]; omega
              | succ k =>
                obtain ⟨y, hyy⟩ : ∃ y, ss3[k]? = some y := ⟨_, List.getElem?_eq_getElem (by rw [HM.out]; omega)⟩
                have d1 := hcs k y hyy
                have hle := HKO.out k y x hyy HXX.out
                have i2 : ((k + 1 : Nat) : Int) - 1 = (k : Int) := by omega
                have i3 : (0 : Int) ≤ (k : Int) := by omega
                have i4 : (k : Int) < (m : Int) := by omega
                have i5 : (0 : Int) < ((k + 1 : Nat) : Int) := by omega
                clear hcs hyy
                go_wp2_with fail
                refine (HPJ.out _).mono ?_; rintro e V1 ⟨rfl, hq⟩; replace hb := chn hb hq; replace hRR := hRR.below hq; replace d0 := keepc hq d0; replace d1 := keepc hq d1; clear hq HPJ
                go_wp2_with fail
                refine (HGE.out _ hRR.sl).mono ?_; rintro e V2 ⟨rfl, hq⟩; replace hb := chn hb hq; replace d0 := keepc hq d0; replace d1 := keepc hq d1; clear hq HGE hRR
                have hq := bellow_alloc V2 (.cells #[.string fp, .bool fd, .string fx] 41)
                replace hb := hb.alloc hb.size (.cells #[.string fp, .bool fd, .string fx] 41); replace d0 := keepc hq d0; replace d1 := keepc hq d1; clear hq
                go_wp2_with fail
                go_quiet (fail)
                go_wp2
                go_roundw
                case rel => exact ⟨k + 1 + 1, by omega, by go_num, by first | exact hb | exact drw hb _⟩
                case measure => simp [intOf]; omega
            · obtain rfl : j = m := by omega
              have hbX := chn HB0.out hb
              have hRR := HR0.out.below hb
              clear hb
              go_wp2_with fail
              refine (HTR.out _ hRR.sl).mono ?_; rintro e V1 ⟨v7, ss7, rfl, hss7, hov7, hq⟩; replace hbX := chn hbX hq; replace hRR := hRR.below hq; clear hq HTR
              obtain ⟨a7, c7, rfl⟩ := own_shape hov7
              have h0 : ss7.length = sumT (xs.map En.pl) 0 := by
                have := congrArg List.length hss7
                rw [List.length_map] at this
                rw [this]; rfl
              rw [h0]
              have HR7 := Lib.hid hRR
              have HB7 := Lib.hid hbX
              clear hss7 hov7 h0 hRR hbX
              go_wp2
              go_loopw [18, 19] (fun k i wr => ∃ j : Nat, j ≤ n1 ∧ i = .int .i64 j ∧ k = .int .i64 (sumT (xs.map En.pl) j : Nat) ∧ Below V1.heap.size V1 wr) (fun _ i _ => n1 - (intOf i).toNat)
              case atStart => exact ⟨0, Nat.zero_le _, rfl, rfl, Below.refl _ _⟩
              case round =>
                obtain ⟨j, hj, rfl, rfl, hb⟩ := hrel
                by_cases hlt : j < n1
                · obtain ⟨e, hee⟩ : ∃ e, xs[j]? = some e := ⟨_, List.getElem?_eq_getElem (by rw [HN1.out]; exact hlt)⟩
                  have hem := List.mem_of_getElem? hee
                  have hemp : e.pl ∈ xs.map En.pl := List.mem_map_of_mem hem
                  obtain ⟨hc1, hl1⟩ := tlist_entry HTOK.out hemp
                  have hep : e.p.size ≤ maxLen := (HZ.out.max e hem).1
                  have HTE := Lib.hid (HTL.out e.p hep)
                  rw [show e.p.data.toList = e.pl.p from rfl, hc1, hl1] at HTE
                  have hS1 := sumT_snoc (t := xs.map En.pl) (j := j) (e := e.pl) (by rw [List.getElem?_map, hee]; rfl)
                  have hS2 := sumT_le HTOK.out (j + 1)
                  rw [List.length_map, HN1.out] at hS2
                  have hRR := HR7.out.below hb
                  have hslx := hRR.sl
                  obtain ⟨b, off, rfl, _⟩ := hslx.addr (by rw [HN1.out]; omega)
                  obtain ⟨d0, d1, d2⟩ := en_at hslx j e hee
                  have i0 : (0 : Int) ≤ (j : Int) := by omega
                  have i1 : (j : Int) < (n1 : Int) := by omega
                  have hpd : e.pl.d = e.d := rfl
                  rw [hpd] at HTE
                  obtain ⟨fp, fd, fx⟩ := e
                  clear hee hem hemp hc1 hl1 hslx hpd d2
                  go_wp2_with fail
                  refine (HTE.out _ hRR.sl).mono ?_; rintro e V2 ⟨v8, ss8, rfl, hss8, hov8, hq⟩; replace hb := chn hb hq; replace d0 := keepc hq d0; replace d1 := keepc hq d1; clear hq HTE hRR
                  obtain ⟨a8, c8, rfl⟩ := own_shape hov8
                  obtain ⟨l8, hl8⟩ : ∃ l, ss8.length = l := ⟨_, rfl⟩
                  have h8 : (kidsL (xs.map En.pl) (En.pl ⟨fp, fd, fx⟩).p).length = l8 := by rw [← hss8, List.length_map, hl8]
                  rw [h8] at hS1
                  rw [hl8]
                  rw [hS1] at hS2
                  have HS1 := Lib.hid hS1
                  obtain ⟨S, hS⟩ : ∃ S, sumT (xs.map En.pl) j = S := ⟨_, rfl⟩
                  rw [hS] at HS1 hS2 ⊢
                  clear hss8 hov8 h8 hl8 hS1 hS
                  cases fd with
                  | true =>
                    go_wp2
                    go_roundw
                    case rel => exact ⟨j + 1, by omega, by go_num, by rw [HS1.out]; go_num, by first | exact hb | exact drw hb _⟩
                    case measure => simp [intOf]; omega
                  | false =>
                    go_wp2
                    go_roundw
                    case rel => exact ⟨j + 1, by omega, by go_num, by rw [HS1.out]; go_num, by first | exact hb | exact drw hb _⟩
                    case measure => simp [intOf]; omega
                · obtain rfl : j = n1 := by omega
                  have hbX := chn HB7.out hb
                  have hfin := sumT_all HTOK.out (show (xs.map En.pl).length = j by rw [List.length_map]; exact HN1.out)
                  rw [hfin]
                  clear hb hfin
                  go_wp2
                  go_ret
                  exact ⟨rfl, hbX⟩
    · have hbe : (s.toList == [47]) = false := by rw [Lib.toList_data]; simpa using fun h => hroot (bytes_eq h)
      have hpk := HPK.out (HSP.out.resolve_left (fun h => hroot (bytes_eq h)))
      have HPK2 := Lib.hid hpk
      clear hpk
      go_wp2_with fail
      refine HPK2.out.mono ?_; rintro e W7 ⟨rfl, hq⟩; replace hb := chn hb hq; replace hR := hR.below hq; replace hsl := hsl.below hq; replace y1 := keepc hq y1; clear hq HPK2
      have hCU := HCU.out
      have htok := HTOK.out
      have hsp := HSP.out
      clear HCU HSP
      rcases HOS.out with ⟨h1, h2⟩ | ⟨h1, h2⟩
      · subst h2
        rw [h1] at hCU
        obtain rfl : C = 2 := hCU
        obtain rfl : m = 0 := by
          have h3 := HSS.out
          rw [← HL.out, tlist_n HC.out (by decide)] at h3
          rw [← HM.out, List.map_eq_nil_iff.1 h3]; rfl
        clear h1 hsp htok
        go_wp2
        go_ret
        exact ⟨rfl, hb⟩
      · subst h1
        rw [h2] at hCU
        cases ed with
        | false =>
          obtain rfl : C = 3 := hCU
          obtain rfl : m = 0 := by
            have h3 := HSS.out
            rw [← HL.out, tlist_n HC.out (by decide)] at h3
            rw [← HM.out, List.map_eq_nil_iff.1 h3]; rfl
          clear h2 hsp htok
          go_wp2
          go_ret
          exact ⟨rfl, hb⟩
        | true =>
          obtain rfl : C = 0 := hCU
          have hkl := HSS.out
          rw [← HL.out, tlist_0 HC.out] at hkl
          have HKI : Hid (∀ x ∈ ss3, joinOkL s.data.toList x.data.toList = true ∧ ∃ e ∈ xs, joinL s.data.toList x.data.toList = e.p.data.toList) := fun x hx => by
            have h3 : x.data.toList ∈ kidsL (xs.map En.pl) s.data.toList := by rw [← hkl]; exact List.mem_map_of_mem hx
            obtain ⟨h4, f, hf, h5⟩ := kids_in htok h3
            obtain ⟨e, he, rfl⟩ := List.mem_map.1 hf
            exact ⟨h4, e, he, h5.symm⟩
          have HKO : Hid (∀ (j : Nat) (x y : ByteArray), ss3[j]? = some x → ss3[j + 1]? = some y → Op.bytesLess x.toList y.toList = true) := fun j x y hx hy => by
            rw [less_of']
            have h3 := kids_ord htok s.data.toList
            rw [← hkl, List.pairwise_map] at h3
            exact pair_at h3 hx hy
          have HTR := Lib.hid (HTL.out ⟨#[47]⟩ (by decide))
          have hroot := tlist_root htok
          rw [show (⟨#[47]⟩ : ByteArray).data.toList = [47] from rfl, hroot.1, hroot.2] at HTR
          have HR0 := Lib.hid hR
          have HB0 := Lib.hid hb
          have HSL := Lib.hid hsl
          clear h2 hsp htok hkl hroot hR hb hsl HPK
          go_wp2
          go_loopw [11] (fun i wr => ∃ j : Nat, j ≤ m ∧ i = .int .i64 j ∧ Below W7.heap.size W7 wr) (fun i _ => m - (intOf i).toNat)
          case atStart => exact ⟨0, Nat.zero_le _, rfl, Below.refl _ _⟩
          case round =>
            obtain ⟨j, hj, rfl, hb⟩ := hrel
            by_cases hlt : j < m
            · obtain ⟨x, hxx⟩ : ∃ x, ss3[j]? = some x := ⟨_, List.getElem?_eq_getElem (by rw [HM.out]; exact hlt)⟩
              obtain ⟨hjo, e, hee, hej⟩ := HKI.out x (List.mem_of_getElem? hxx)
              have hxl : x.size ≤ 3 := by have := name_len hjo; rwa [size_data] at this
              have hHS := HSL.out.below hb
              obtain ⟨b, off, rfl, _, hcs⟩ := hHS (by rw [HM.out]; omega)
              have d0 := hcs j x hxx
              have HPJ := Lib.hid (fun W => pathJoin_c s x e.p true (Lib.hid hej) (Lib.hid hjo) W (by omega) (by omega))
              have HGE := Lib.hid (fun W (h : SlF En.cells W a1 xs) => getT_c a1 c1 n1 xs e.p (some e) (Lib.hid (by rw [tget_right HTOK.out (HTOK.out.pth (List.mem_map_of_mem hee)), getE_ok HTOK.out hee])) W HN1.out h (by omega) HZ.out)
              obtain ⟨fp, fd, fx⟩ := e
              have HXX := Lib.hid hxx
              have hRR := HR0.out.below hb
              have i0 : (0 : Int) ≤ (j : Int) := by omega
              have i1 : (j : Int) < (m : Int) := by omega
              clear hee hej hjo hxx hHS
              cases j with
              | zero =>
                rw [Nat.add_zero] at d0
                clear hcs
                go_wp2_with fail
                refine (HPJ.out _).mono ?_; rintro e V1 ⟨rfl, hq⟩; replace hb := chn hb hq; replace hRR := hRR.below hq; replace d0 := keepc hq d0; clear hq HPJ
                go_wp2_with fail
                refine (HGE.out _ hRR.sl).mono ?_; rintro e V2 ⟨rfl, hq⟩; replace hb := chn hb hq; replace d0 := keepc hq d0; clear hq HGE hRR
                have hq := bellow_alloc V2 (.cells #[.string fp, .bool fd, .string fx] 41)
                replace hb := hb.alloc hb.size (.cells #[.string fp, .bool fd, .string fx] 41); replace d0 := keepc hq d0; clear hq
                go_wp2_with fail
                go_quiet (fail)
                go_wp2
                go_roundw
                case rel => exact ⟨1, by omega, by go_num, by first | exact hb | exact drw hb _⟩
                case measure => simp [intOf]; omega
              | succ k =>
                obtain ⟨y, hyy⟩ : ∃ y, ss3[k]? = some y := ⟨_, List.getElem?_eq_getElem (by rw [HM.out]; omega)⟩
                have d1 := hcs k y hyy
                have hle := HKO.out k y x hyy HXX.out
                have i2 : ((k + 1 : Nat) : Int) - 1 = (k : Int) := by omega
                have i3 : (0 : Int) ≤ (k : Int) := by omega
                have i4 : (k : Int) < (m : Int) := by omega
                have i5 : (0 : Int) < ((k + 1 : Nat) : Int) := by omega
                clear hcs hyy
                go_wp2_with fail
                refine (HPJ.out _).mono ?_; rintro e V1 ⟨rfl, hq⟩; replace hb := chn hb hq; replace hRR := hRR.below hq; replace d0 := keepc hq d0; replace d1 := keepc hq d1; clear hq HPJ
                go_wp2_with fail
                refine (HGE.out _ hRR.sl).mono ?_; rintro e V2 ⟨rfl, hq⟩; replace hb := chn hb hq; replace d0 := keepc hq d0; replace d1 := keepc hq d1; clear hq HGE hRR
                have hq := bellow_alloc V2 (.cells #[.string fp, .bool fd, .string fx] 41)
                replace hb := hb.alloc hb.size (.cells #[.string fp, .bool fd, .string fx] 41); replace d0 := keepc hq d0; replace d1 := keepc hq d1; clear hq
                go_wp2_with fail
                go_quiet (fail)
                go_wp2
                go_roundw
                case rel => exact ⟨k + 1 + 1, by omega, by go_num, by first | exact hb | exact drw hb _⟩
                case measure => simp [intOf]; omega
            · obtain rfl : j = m := by omega
              have hbX := chn HB0.out hb
              have hRR := HR0.out.below hb
              clear hb
              go_wp2_with fail
              refine (HTR.out _ hRR.sl).mono ?_; rintro e V1 ⟨v7, ss7, rfl, hss7, hov7, hq⟩; replace hbX := chn hbX hq; replace hRR := hRR.below hq; clear hq HTR
              obtain ⟨a7, c7, rfl⟩ := own_shape hov7
              have h0 : ss7.length = sumT (xs.map En.pl) 0 := by
                have := congrArg List.length hss7
                rw [List.length_map] at this
                rw [this]; rfl
              rw [h0]
              have HR7 := Lib.hid hRR
              have HB7 := Lib.hid hbX
              clear hss7 hov7 h0 hRR hbX
              go_wp2
              go_loopw [18, 19] (fun k i wr => ∃ j : Nat, j ≤ n1 ∧ i = .int .i64 j ∧ k = .int .i64 (sumT (xs.map En.pl) j : Nat) ∧ Below V1.heap.size V1 wr) (fun _ i _ => n1 - (intOf i).toNat)
              case atStart => exact ⟨0, Nat.zero_le _, rfl, rfl, Below.refl _ _⟩
              case round =>
                obtain ⟨j, hj, rfl, rfl, hb⟩ := hrel
                by_cases hlt : j < n1
                · obtain ⟨e, hee⟩ : ∃ e, xs[j]? = some e := ⟨_, List.getElem?_eq_getElem (by rw [HN1.out]; exact hlt)⟩
                  have hem := List.mem_of_getElem? hee
                  have hemp : e.pl ∈ xs.map En.pl := List.mem_map_of_mem hem
                  obtain ⟨hc1, hl1⟩ := tlist_entry HTOK.out hemp
                  have hep : e.p.size ≤ maxLen := (HZ.out.max e hem).1
                  have HTE := Lib.hid (HTL.out e.p hep)
                  rw [show e.p.data.toList = e.pl.p from rfl, hc1, hl1] at HTE
                  have hS1 := sumT_snoc (t := xs.map En.pl) (j := j) (e := e.pl) (by rw [List.getElem?_map, hee]; rfl)
                  have hS2 := sumT_le HTOK.out (j + 1)
                  rw [List.length_map, HN1.out] at hS2
                  have hRR := HR7.out.below hb
                  have hslx := hRR.sl
                  obtain ⟨b, off, rfl, _⟩ := hslx.addr (by rw [HN1.out]; omega)
                  obtain ⟨d0, d1, d2⟩ := en_at hslx j e hee
                  have i0 : (0 : Int) ≤ (j : Int) := by omega
                  have i1 : (j : Int) < (n1 : Int) := by omega
                  have hpd : e.pl.d = e.d := rfl
                  rw [hpd] at HTE
                  obtain ⟨fp, fd, fx⟩ := e
                  clear hee hem hemp hc1 hl1 hslx hpd d2
                  go_wp2_with fail
                  refine (HTE.out _ hRR.sl).mono ?_; rintro e V2 ⟨v8, ss8, rfl, hss8, hov8, hq⟩; replace hb := chn hb hq; replace d0 := keepc hq d0; replace d1 := keepc hq d1; clear hq HTE hRR
                  obtain ⟨a8, c8, rfl⟩ := own_shape hov8
                  obtain ⟨l8, hl8⟩ : ∃ l, ss8.length = l := ⟨_, rfl⟩
                  have h8 : (kidsL (xs.map En.pl) (En.pl ⟨fp, fd, fx⟩).p).length = l8 := by rw [← hss8, List.length_map, hl8]
                  rw [h8] at hS1
                  rw [hl8]
                  rw [hS1] at hS2
                  have HS1 := Lib.hid hS1
                  obtain ⟨S, hS⟩ : ∃ S, sumT (xs.map En.pl) j = S := ⟨_, rfl⟩
                  rw [hS] at HS1 hS2 ⊢
                  clear hss8 hov8 h8 hl8 hS1 hS
                  cases fd with
                  | true =>
                    go_wp2
                    go_roundw
                    case rel => exact ⟨j + 1, by omega, by go_num, by rw [HS1.out]; go_num, by first | exact hb | exact drw hb _⟩
                    case measure => simp [intOf]; omega
                  | false =>
                    go_wp2
                    go_roundw
                    case rel => exact ⟨j + 1, by omega, by go_num, by rw [HS1.out]; go_num, by first | exact hb | exact drw hb _⟩
                    case measure => simp [intOf]; omega
                · obtain rfl : j = n1 := by omega
                  have hbX := chn HB7.out hb
                  have hfin := sumT_all HTOK.out (show (xs.map En.pl).length = j by rw [List.length_map]; exact HN1.out)
                  rw [hfin]
                  clear hb hfin
                  go_wp2
                  go_ret
                  exact ⟨rfl, hbX⟩
  · have HBAD := hgood
    cases rt with
    | false =>
      clear hgood
      obtain ⟨h1, h2⟩ := tlist_bad HBAD
      obtain rfl : C = 1 := HC.out.symm.trans h1
      obtain rfl : m = 0 := by
        have h3 := HSS.out
        rw [← HL.out, h2] at h3
        rw [← HM.out, List.map_eq_nil_iff.1 h3]; rfl
      clear h1 h2
      go_wp2
      go_ret
      exact ⟨rfl, hb⟩
    | true =>
      have htok := HRT.out.1 rfl
      have hsr : ¬ s.data.toList = [47] := fun h => hgood ⟨htok, .inl h⟩
      have hbe := beq_no hsr
      have hpk : pathOkL s.data.toList = false := by
        cases hp : pathOkL s.data.toList with
        | false => rfl
        | true => exact absurd ⟨htok, .inr hp⟩ hgood
      have HPK := Lib.hid (pathOk_c s false (Lib.hid hpk) W6 hsm)
      clear hgood htok hsr hpk
      go_wp2_with fail
      refine HPK.out.mono ?_; rintro e W7 ⟨rfl, hq⟩; replace hb := chn hb hq; clear hq HPK hR hsl y1
      obtain ⟨h1, h2⟩ := tlist_bad HBAD
      obtain rfl : C = 1 := HC.out.symm.trans h1
      obtain rfl : m = 0 := by
        have h3 := HSS.out
        rw [← HL.out, h2] at h3
        rw [← HM.out, List.map_eq_nil_iff.1 h3]; rfl
      clear h1 h2
      go_wp2
      go_ret
      exact ⟨rfl, hb⟩
end Go.Proofs.YtobbodbkdcbflaaDoor
namespace Go.Proofs.YtobbodbkdcbflaaDoor
open Go.RowKit
theorem slf_lit {α : Type} {f : α → List Value} (hf : ∀ x, (f x).length = 3) (w : World) (cs : Array Value) (t : TypeId) (ys : List α) (h : cs.toList = ys.flatMap f) : SlF f (w.alloc (.cells cs t)) (some ⟨w.heap.size, 0, none⟩) ys := fun _ =>
  ⟨w.heap.size, 0, rfl, by simp, fun k x hx j u hu => by
    rw [Nat.zero_add]
    have hj : j < 3 := by have := (List.getElem?_eq_some_iff.1 hu).1; rw [hf] at this; exact this
    exact new_cell w cs t (k * 3 + j) u (by rw [← Array.getElem?_toList, h, flat_of hf hj ys k x hx]; exact hu)⟩
theorem row_of {α : Type} {f : α → List Value} (hf : ∀ x, (f x).length = 3) {w : World} {B m N : Nat} {t : TypeId} {v : Value} {xs ys : List α} (h : w.ownsRow B t 3 v m ([] ++ xs.flatMap f ++ ys.flatMap f)) (hm : m = N) (hN : (xs ++ ys).length = N) :
    ∃ a c, v = .slice a N c ∧ SlF f w a (xs ++ ys) := by
  subst hm
  obtain ⟨a, c, rfl⟩ := own_shape h
  refine ⟨a, c, rfl, ?_⟩
  rw [List.nil_append, ← List.flatMap_append] at h
  exact own_slfN hf h hN
end Go.Proofs.YtobbodbkdcbflaaDoor
namespace Go.Proofs.YtobbodbkdcbflaaDoor
open Go.RowKit
theorem zz_up : upL [47, 122, 122, 47, 122] = [47, 122, 122] := by decide
theorem bent_x {t : List PE} (hz : ZL t) : ¬ TOk (t ++ [⟨[47, 122, 122, 47, 122], false, []⟩]) := fun h => by
  rcases h.par (e := ⟨[47, 122, 122, 47, 122], false, []⟩) (by simp) with h1 | ⟨f, hf, h1, _⟩
  · rw [zz_up] at h1; simp at h1
  · rw [zz_up] at h1
    rcases List.mem_append.1 hf with h2 | h2
    · exact hz f h2 h1
    · rw [List.mem_singleton.1 h2] at h1; simp at h1
theorem bent_y {t : List PE} : ¬ TOk (t ++ [⟨[47, 122, 122, 122], true, [120]⟩]) := fun h => by
  have h1 := h.ent ⟨[47, 122, 122, 122], true, [120]⟩ (by simp)
  unfold entOkL at h1
  simp at h1
theorem bent_z {t : List PE} (hz : ZL t) : ¬ TOk (t ++ [⟨[47, 122, 122], false, []⟩, ⟨[47, 122, 122, 47, 122], false, []⟩]) := fun h => by
  rcases h.par (e := ⟨[47, 122, 122, 47, 122], false, []⟩) (by simp) with h1 | ⟨f, hf, h1, h3⟩
  · rw [zz_up] at h1; simp at h1
  · rw [zz_up] at h1
    rcases List.mem_append.1 hf with h2 | h2
    · exact hz f h2 h1
    · simp only [List.mem_cons, List.not_mem_nil, or_false] at h2
      rcases h2 with rfl | rfl
      · simp at h3
      · simp at h1
theorem bent_w {t : List PE} (hne : t ≠ []) : ¬ TOk (t ++ t) := fun h => by
  obtain ⟨e, r, rfl⟩ := List.exists_cons_of_ne_nil hne
  have h1 := (List.pairwise_append.1 h.ordP).2.2 e (by simp) e (by simp)
  rw [less_irrefl] at h1; cases h1
/-- TreeOk of a list that is not right. -/
theorem okNo_c (a : Option Addr) (c n : Nat) (xs : List En) (hno : ¬ TOk (xs.map En.pl)) (w : World) (hn : xs.length = n) (hs : SlF En.cells w a xs) (hx : n ≤ 1000) (hz : Small xs) :
    Calls Tryd.prog 28 #[.slice a n c] w fun e w' => e = .returned (.bool false) ∧ Below w.heap.size w w' :=
  okI_c a c n xs false (Lib.hid ⟨fun h => (by cases h), fun h => absurd h hno⟩) w hn hs hx hz
theorem sameS_c (a a' : Option Addr) (c c' n n' : Nat) (xs ys : List En) (r : Bool) (hr : Hid (r = true ↔ xs = ys)) (w : World) (hn : xs.length = n) (hn' : ys.length = n') (hs : SlF En.cells w a xs) (hs' : SlF En.cells w a' ys) (hx : n ≤ 1000) (hy : n' ≤ 1000) :
    Calls Tryd.prog 27 #[.slice a n c, .slice a' n' c'] w fun e w' => e = .returned (.bool r) ∧ Below w.heap.size w w' := by
  subst hn hn'
  exact (sTreeSame_c a a' c c' xs ys r hr w hs hs' (by unfold maxLen; omega) (by unfold maxLen; omega)).mono fun _ _ ⟨h1, m, h2⟩ => ⟨h1, h2 ▸ below_dr w m⟩
theorem tok_nil : TOk [] := ⟨by simp, fun e h => (by cases h), List.Pairwise.nil, fun e h => (by cases h)⟩
set_option maxRecDepth 100000 in
set_option maxHeartbeats 8000000 in
theorem lawTreeBent_w (w : World) (a : Option Addr) (n c : Nat) (h : Code w a n c) : Calls Tryd.prog 6 #[.slice a n c] w (TrueB w) := by
  have hn := h.2.2
  by_cases hbig : 1048576 < n
  · clear h
    go_enter Tryd.func6, Tryd.ntmps6
    go_wp2
    go_ret
    exact ⟨rfl, Below.refl _ _⟩
  have HE := eltEn
  have HD := Lib.hid (drawTreeSame_c w a n c h)
  have HC := Lib.hid h
  clear h
  go_enter Tryd.func6, Tryd.ntmps6
  go_wp2_with fail
  refine HD.out.mono ?_; rintro e W1 ⟨a3, c3, ps, a4, c4, qs, rfl, hP, hzp, hlp, hQ, hzq, hlq, hb⟩
  have HD2 := Lib.hid (drawTreeOk_c W1 a n c (HC.out.below hb))
  obtain ⟨n3, hn3⟩ : ∃ m, ps.length = m := ⟨_, rfl⟩
  obtain ⟨n4, hn4⟩ : ∃ m, qs.length = m := ⟨_, rfl⟩
  have HN3 := Lib.hid hn3
  have HN4 := Lib.hid hn4
  rw [hn3] at hlp ⊢
  rw [hn4] at hlq ⊢
  clear hn3 hn4 HD
  go_wp2_with fail
  refine HD2.out.mono ?_; rintro e W2 ⟨a1, c1, xs, rfl, hR, hz, hx, hzl, hq⟩; replace hb := chn hb hq; replace hP := hP.below hq; replace hQ := hQ.below hq; clear hq HD2
  have HD3 := Lib.hid (drawOpOk_c W2 a n c (HC.out.below hb))
  have hcn := hR.cap
  obtain ⟨n1, hn1⟩ : ∃ m, xs.length = m := ⟨_, rfl⟩
  rw [hn1] at hx hcn ⊢
  have HN1 := Lib.hid hn1
  have HZ := Lib.hid hz
  have HZL := Lib.hid hzl
  clear hn1 hz hzl HC
  go_wp2_with fail
  refine HD3.out.mono ?_; rintro e W3 ⟨k, P, T, D, rfl, hPs, hTs, hDs, hq⟩; replace hb := chn hb hq; replace hP := hP.below hq; replace hQ := hQ.below hq; replace hR := hR.below hq; clear hq HD3
  have o0 := new_cell W3 (opBox k P T D) 49 0 _ rfl
  have o1 := new_cell W3 (opBox k P T D) 49 1 _ rfl
  have o2 := new_cell W3 (opBox k P T D) 49 2 _ rfl
  have o3 := new_cell W3 (opBox k P T D) 49 3 _ rfl
  replace hb := hb.alloc hb.size (.cells (opBox k P T D) 49)
  have HP := Lib.hid (hP.below (bellow_alloc W3 (.cells (opBox k P T D) 49)))
  have HQ := Lib.hid (hQ.below (bellow_alloc W3 (.cells (opBox k P T D) 49)))
  have HR := Lib.hid (hR.below (bellow_alloc W3 (.cells (opBox k P T D) 49)))
  obtain ⟨rs, hrs⟩ : ∃ r : Bool, r = true ↔ ps = qs := ⟨by classical exact decide (ps = qs), by simp⟩
  have HRS := Lib.hid hrs
  have HRS' : Hid (rs = true ↔ qs = ps) := hrs.trans ⟨Eq.symm, Eq.symm⟩
  obtain ⟨r, hr⟩ := tok_dec xs
  have HRR := Lib.hid hr
  obtain ⟨ok, hok⟩ : ∃ r, opOkL k P.data.toList T.data.toList D.data.toList = r := ⟨_, rfl⟩
  have HOK := Lib.hid hok
  have hpm : P.size ≤ maxLen := by unfold maxLen; omega
  have htm : T.size ≤ maxLen := by unfold maxLen; omega
  have hdm : D.size ≤ maxLen := by unfold maxLen; omega
  have h1 : (rs != rs) = false := by cases rs <;> rfl
  have h2 : (r != r) = false := by cases r <;> rfl
  have h3 : (ok != ok) = false := by cases ok <;> rfl
  clear hrs hr hok hP hQ hR
  go_wp2_with fail
  refine wp_region_held_drew (S := fun w' => Below _ _ w') (by kernel_rfl) (below_drew _) (fun hHeld => ?_)
  refine tk (i := 0) (d := (some 23)) (v := ?_) rfl rfl (by kernel_rfl) (by kernel_rfl) (by kernel_rfl) (fun _ _ _ h => h) (Or.inl ⟨by rfl, ?_⟩) hHeld ?_
  rotate_left
  · intro w hSw; have zo0 := keepc hSw o0; have zo1 := keepc hSw o1; have zo2 := keepc hSw o2; have zo3 := keepc hSw o3; clear hSw; go_simp <;> with_reducible rfl
  (try simp only [Act.put, List.setIfInBounds_toArray, List.set_cons_zero, List.set_cons_succ])
  refine tk (i := 1) (d := (some 24)) (v := ?_) rfl rfl (by kernel_rfl) (by kernel_rfl) (by kernel_rfl) (fun _ _ _ h => h) (Or.inl ⟨by rfl, ?_⟩) hHeld ?_
  rotate_left
  · intro w hSw; have zo0 := keepc hSw o0; have zo1 := keepc hSw o1; have zo2 := keepc hSw o2; have zo3 := keepc hSw o3; clear hSw; go_simp <;> with_reducible rfl
  (try simp only [Act.put, List.setIfInBounds_toArray, List.set_cons_zero, List.set_cons_succ])
  refine tk (i := 3) (d := (some 26)) (v := ?_) rfl rfl (by kernel_rfl) (by kernel_rfl) (by kernel_rfl) (fun _ _ _ h => h) (Or.inl ⟨by rfl, ?_⟩) hHeld ?_
  rotate_left
  · intro w hSw; have zo0 := keepc hSw o0; have zo1 := keepc hSw o1; have zo2 := keepc hSw o2; have zo3 := keepc hSw o3; clear hSw; go_simp <;> with_reducible rfl
  (try simp only [Act.put, List.setIfInBounds_toArray, List.set_cons_zero, List.set_cons_succ])
  refine tk (i := 4) (d := (some 27)) (v := ?_) rfl rfl (by kernel_rfl) (by kernel_rfl) (by kernel_rfl) (fun _ _ _ h => h) (Or.inl ⟨by rfl, ?_⟩) hHeld ?_
  rotate_left
  · intro w hSw; have zo0 := keepc hSw o0; have zo1 := keepc hSw o1; have zo2 := keepc hSw o2; have zo3 := keepc hSw o3; clear hSw; go_simp <;> with_reducible rfl
  (try simp only [Act.put, List.setIfInBounds_toArray, List.set_cons_zero, List.set_cons_succ])
  refine wpAnyH_ready (rs := [2]) (by kernel_rfl) (by simp) ?_
  refine AllReadyH.cons rfl (fun K hK => ?_) AllReadyH.nil
  go_simp
  refine (sameR_c a3 a4 c3 c4 n3 n4 ps qs rs HRS _ HN3.out HN4.out (HP.out.below hHeld).sl (HQ.out.below hHeld).sl (by omega) (by omega)).mono ?_; rintro e W ⟨rfl, hq⟩
  go_simp
  refine hK.out _ _ (chn hHeld hq) (fun h => ?_)
  clear hK K; replace hHeld := h; clear h hq
  (try simp only [Act.put, List.setIfInBounds_toArray, List.set_cons_zero, List.set_cons_succ])
  refine wpAnyH_ready (rs := [5]) (by kernel_rfl) (by simp) ?_
  refine AllReadyH.cons rfl (fun K hK => ?_) AllReadyH.nil
  go_simp
  refine (sameS_c a3 a4 c3 c4 n3 n4 ps qs rs HRS _ HN3.out HN4.out (HP.out.below hHeld).sl (HQ.out.below hHeld).sl (by omega) (by omega)).mono ?_; rintro e W ⟨rfl, hq⟩
  go_simp
  refine hK.out _ _ (chn hHeld hq) (fun h => ?_)
  clear hK K; replace hHeld := h; clear h hq
  (try simp only [Act.put, List.setIfInBounds_toArray, List.set_cons_zero, List.set_cons_succ])
  refine tk (i := 6) (d := (some 29)) (v := ?_) rfl rfl (by kernel_rfl) (by kernel_rfl) (by kernel_rfl) (fun _ _ _ h => h) (Or.inl ⟨by rfl, ?_⟩) hHeld ?_
  rotate_left
  · intro w hSw; have zo0 := keepc hSw o0; have zo1 := keepc hSw o1; have zo2 := keepc hSw o2; have zo3 := keepc hSw o3; clear hSw; go_simp <;> with_reducible rfl
  (try simp only [Act.put, List.setIfInBounds_toArray, List.set_cons_zero, List.set_cons_succ])
  refine tk (i := 7) (d := (some 30)) (v := ?_) rfl rfl (by kernel_rfl) (by kernel_rfl) (by kernel_rfl) (fun _ _ _ h => h) (Or.inl ⟨by rfl, ?_⟩) hHeld ?_
  rotate_left
  · intro w hSw; have zo0 := keepc hSw o0; have zo1 := keepc hSw o1; have zo2 := keepc hSw o2; have zo3 := keepc hSw o3; clear hSw; go_simp <;> with_reducible rfl
  (try simp only [Act.put, List.setIfInBounds_toArray, List.set_cons_zero, List.set_cons_succ])
  refine tk (i := 8) (d := (some 31)) (v := ?_) rfl rfl (by kernel_rfl) (by kernel_rfl) (by kernel_rfl) (fun _ _ _ h => h) (Or.inl ⟨by rfl, ?_⟩) hHeld ?_
  rotate_left
  · intro w hSw; have zo0 := keepc hSw o0; have zo1 := keepc hSw o1; have zo2 := keepc hSw o2; have zo3 := keepc hSw o3; clear hSw; go_simp <;> with_reducible rfl
  (try simp only [Act.put, List.setIfInBounds_toArray, List.set_cons_zero, List.set_cons_succ])
  refine tk (i := 9) (d := (some 32)) (v := ?_) rfl rfl (by kernel_rfl) (by kernel_rfl) (by kernel_rfl) (fun _ _ _ h => h) (Or.inl ⟨by rfl, ?_⟩) hHeld ?_
  rotate_left
  · intro w hSw; have zo0 := keepc hSw o0; have zo1 := keepc hSw o1; have zo2 := keepc hSw o2; have zo3 := keepc hSw o3; clear hSw; go_simp <;> with_reducible rfl
  (try simp only [Act.put, List.setIfInBounds_toArray, List.set_cons_zero, List.set_cons_succ])
  refine tk (i := 11) (d := (some 34)) (v := ?_) rfl rfl (by kernel_rfl) (by kernel_rfl) (by kernel_rfl) (fun _ _ _ h => h) (Or.inl ⟨by rfl, ?_⟩) hHeld ?_
  rotate_left
  · intro w hSw; have zo0 := keepc hSw o0; have zo1 := keepc hSw o1; have zo2 := keepc hSw o2; have zo3 := keepc hSw o3; clear hSw; go_simp <;> with_reducible rfl
  (try simp only [Act.put, List.setIfInBounds_toArray, List.set_cons_zero, List.set_cons_succ])
  refine tk (i := 12) (d := (some 35)) (v := ?_) rfl rfl (by kernel_rfl) (by kernel_rfl) (by kernel_rfl) (fun _ _ _ h => h) (Or.inl ⟨by rfl, ?_⟩) hHeld ?_
  rotate_left
  · intro w hSw; have zo0 := keepc hSw o0; have zo1 := keepc hSw o1; have zo2 := keepc hSw o2; have zo3 := keepc hSw o3; clear hSw; go_simp <;> with_reducible rfl
  (try simp only [Act.put, List.setIfInBounds_toArray, List.set_cons_zero, List.set_cons_succ])
  refine wpAnyH_ready (rs := [10]) (by kernel_rfl) (by simp) ?_
  refine AllReadyH.cons rfl (fun K hK => ?_) AllReadyH.nil
  go_simp
  refine (sameR_c a3 a4 c3 c4 n3 n4 ps qs rs HRS _ HN3.out HN4.out (HP.out.below hHeld).sl (HQ.out.below hHeld).sl (by omega) (by omega)).mono ?_; rintro e W ⟨rfl, hq⟩
  go_simp
  refine hK.out _ _ (chn hHeld hq) (fun h => ?_)
  clear hK K; replace hHeld := h; clear h hq
  (try simp only [Act.put, List.setIfInBounds_toArray, List.set_cons_zero, List.set_cons_succ])
  refine wpAnyH_ready (rs := [13]) (by kernel_rfl) (by simp) ?_
  refine AllReadyH.cons rfl (fun K hK => ?_) AllReadyH.nil
  go_simp
  refine (sameR_c a4 a3 c4 c3 n4 n3 qs ps rs HRS' _ HN4.out HN3.out (HQ.out.below hHeld).sl (HP.out.below hHeld).sl (by omega) (by omega)).mono ?_; rintro e W ⟨rfl, hq⟩
  go_simp
  refine hK.out _ _ (chn hHeld hq) (fun h => ?_)
  clear hK K; replace hHeld := h; clear h hq
  (try simp only [Act.put, List.setIfInBounds_toArray, List.set_cons_zero, List.set_cons_succ])
  refine tk (i := 14) (d := (some 37)) (v := ?_) rfl rfl (by kernel_rfl) (by kernel_rfl) (by kernel_rfl) (fun _ _ _ h => h) (Or.inl ⟨by rfl, ?_⟩) hHeld ?_
  rotate_left
  · intro w hSw; have zo0 := keepc hSw o0; have zo1 := keepc hSw o1; have zo2 := keepc hSw o2; have zo3 := keepc hSw o3; clear hSw; go_simp <;> with_reducible rfl
  (try simp only [Act.put, List.setIfInBounds_toArray, List.set_cons_zero, List.set_cons_succ])
  refine tk (i := 15) (d := (some 38)) (v := ?_) rfl rfl (by kernel_rfl) (by kernel_rfl) (by kernel_rfl) (fun _ _ _ h => h) (Or.inl ⟨by rfl, ?_⟩) hHeld ?_
  rotate_left
  · intro w hSw; have zo0 := keepc hSw o0; have zo1 := keepc hSw o1; have zo2 := keepc hSw o2; have zo3 := keepc hSw o3; clear hSw; go_simp <;> with_reducible rfl
  (try simp only [Act.put, List.setIfInBounds_toArray, List.set_cons_zero, List.set_cons_succ])
  refine tk (i := 16) (d := (some 39)) (v := ?_) rfl rfl (by kernel_rfl) (by kernel_rfl) (by kernel_rfl) (fun _ _ _ h => h) (Or.inl ⟨by rfl, ?_⟩) hHeld ?_
  rotate_left
  · intro w hSw; have zo0 := keepc hSw o0; have zo1 := keepc hSw o1; have zo2 := keepc hSw o2; have zo3 := keepc hSw o3; clear hSw; go_simp <;> with_reducible rfl
  (try simp only [Act.put, List.setIfInBounds_toArray, List.set_cons_zero, List.set_cons_succ])
  refine tk (i := 17) (d := (some 40)) (v := ?_) rfl rfl (by kernel_rfl) (by kernel_rfl) (by kernel_rfl) (fun _ _ _ h => h) (Or.inl ⟨by rfl, ?_⟩) hHeld ?_
  rotate_left
  · intro w hSw; have zo0 := keepc hSw o0; have zo1 := keepc hSw o1; have zo2 := keepc hSw o2; have zo3 := keepc hSw o3; clear hSw; go_simp <;> with_reducible rfl
  (try simp only [Act.put, List.setIfInBounds_toArray, List.set_cons_zero, List.set_cons_succ])
  refine tk (i := 18) (d := (some 41)) (v := ?_) rfl rfl (by kernel_rfl) (by kernel_rfl) (by kernel_rfl) (fun _ _ _ h => h) (Or.inl ⟨by rfl, ?_⟩) hHeld ?_
  rotate_left
  · intro w hSw; have zo0 := keepc hSw o0; have zo1 := keepc hSw o1; have zo2 := keepc hSw o2; have zo3 := keepc hSw o3; clear hSw; go_simp <;> with_reducible rfl
  (try simp only [Act.put, List.setIfInBounds_toArray, List.set_cons_zero, List.set_cons_succ])
  refine wpAnyH_ready (rs := [19]) (by kernel_rfl) (by simp) ?_
  refine AllReadyH.cons rfl (fun K hK => ?_) AllReadyH.nil
  go_simp
  refine (sameR_c a1 a1 c1 c1 n1 n1 xs xs true (Lib.hid ⟨fun _ => rfl, fun _ => rfl⟩) _ HN1.out HN1.out (HR.out.below hHeld).sl (HR.out.below hHeld).sl (by omega) (by omega)).mono ?_; rintro e W ⟨rfl, hq⟩
  go_simp
  refine hK.out _ _ (chn hHeld hq) (fun h => ?_)
  clear hK K; replace hHeld := h; clear h hq
  (try simp only [Act.put, List.setIfInBounds_toArray, List.set_cons_zero, List.set_cons_succ])
  refine tk (i := 20) (d := (some 43)) (v := ?_) rfl rfl (by kernel_rfl) (by kernel_rfl) (by kernel_rfl) (fun _ _ _ h => h) (Or.inl ⟨by rfl, ?_⟩) hHeld ?_
  rotate_left
  · intro w hSw; have zo0 := keepc hSw o0; have zo1 := keepc hSw o1; have zo2 := keepc hSw o2; have zo3 := keepc hSw o3; clear hSw; go_simp <;> with_reducible rfl
  (try simp only [Act.put, List.setIfInBounds_toArray, List.set_cons_zero, List.set_cons_succ])
  refine tk (i := 21) (d := (some 44)) (v := ?_) rfl rfl (by kernel_rfl) (by kernel_rfl) (by kernel_rfl) (fun _ _ _ h => h) (Or.inl ⟨by rfl, ?_⟩) hHeld ?_
  rotate_left
  · intro w hSw; have zo0 := keepc hSw o0; have zo1 := keepc hSw o1; have zo2 := keepc hSw o2; have zo3 := keepc hSw o3; clear hSw; go_simp <;> with_reducible rfl
  (try simp only [Act.put, List.setIfInBounds_toArray, List.set_cons_zero, List.set_cons_succ])
  refine tk (i := 22) (d := (some 45)) (v := ?_) rfl rfl (by kernel_rfl) (by kernel_rfl) (by kernel_rfl) (fun _ _ _ h => h) (Or.inl ⟨by rfl, ?_⟩) hHeld ?_
  rotate_left
  · intro w hSw; have zo0 := keepc hSw o0; have zo1 := keepc hSw o1; have zo2 := keepc hSw o2; have zo3 := keepc hSw o3; clear hSw; go_simp <;> with_reducible rfl
  (try simp only [Act.put, List.setIfInBounds_toArray, List.set_cons_zero, List.set_cons_succ])
  refine tk (i := 23) (d := (some 46)) (v := ?_) rfl rfl (by kernel_rfl) (by kernel_rfl) (by kernel_rfl) (fun _ _ _ h => h) (Or.inl ⟨by rfl, ?_⟩) hHeld ?_
  rotate_left
  · intro w hSw; have zo0 := keepc hSw o0; have zo1 := keepc hSw o1; have zo2 := keepc hSw o2; have zo3 := keepc hSw o3; clear hSw; go_simp <;> with_reducible rfl
  (try simp only [Act.put, List.setIfInBounds_toArray, List.set_cons_zero, List.set_cons_succ])
  refine tk (i := 25) (d := (some 48)) (v := ?_) rfl rfl (by kernel_rfl) (by kernel_rfl) (by kernel_rfl) (fun _ _ _ h => h) (Or.inl ⟨by rfl, ?_⟩) hHeld ?_
  rotate_left
  · intro w hSw; have zo0 := keepc hSw o0; have zo1 := keepc hSw o1; have zo2 := keepc hSw o2; have zo3 := keepc hSw o3; clear hSw; go_simp <;> with_reducible rfl
  (try simp only [Act.put, List.setIfInBounds_toArray, List.set_cons_zero, List.set_cons_succ])
  refine wpAnyH_ready (rs := [24]) (by kernel_rfl) (by simp) ?_
  refine AllReadyH.cons rfl (fun K hK => ?_) AllReadyH.nil
  go_simp
  refine (okI_c a1 c1 n1 xs r HRR _ HN1.out (HR.out.below hHeld).sl (by omega) HZ.out).mono ?_; rintro e W ⟨rfl, hq⟩
  go_simp
  refine hK.out _ _ (chn hHeld hq) (fun h => ?_)
  clear hK K; replace hHeld := h; clear h hq
  (try simp only [Act.put, List.setIfInBounds_toArray, List.set_cons_zero, List.set_cons_succ])
  refine wpAnyH_ready (rs := [26]) (by kernel_rfl) (by simp) ?_
  refine AllReadyH.cons rfl (fun K hK => ?_) AllReadyH.nil
  go_simp
  refine (okS_c a1 c1 n1 xs r HRR _ HN1.out (HR.out.below hHeld).sl hcn (by omega) HZ.out).mono ?_; rintro e W ⟨rfl, hq⟩
  go_simp
  refine hK.out _ _ (chn hHeld hq) (fun h => ?_)
  clear hK K; replace hHeld := h; clear h hq
  (try simp only [Act.put, List.setIfInBounds_toArray, List.set_cons_zero, List.set_cons_succ])
  refine tk (i := 27) (d := (some 50)) (v := ?_) rfl rfl (by kernel_rfl) (by kernel_rfl) (by kernel_rfl) (fun _ _ _ h => h) (Or.inl ⟨by rfl, ?_⟩) hHeld ?_
  rotate_left
  · intro w hSw; have zo0 := keepc hSw o0; have zo1 := keepc hSw o1; have zo2 := keepc hSw o2; have zo3 := keepc hSw o3; clear hSw; go_simp <;> with_reducible rfl
  (try simp only [Act.put, List.setIfInBounds_toArray, List.set_cons_zero, List.set_cons_succ])
  refine tk (i := 28) (d := (some 51)) (v := ?_) rfl rfl (by kernel_rfl) (by kernel_rfl) (by kernel_rfl) (fun _ _ _ h => h) (Or.inl ⟨by rfl, ?_⟩) hHeld ?_
  rotate_left
  · intro w hSw; have zo0 := keepc hSw o0; have zo1 := keepc hSw o1; have zo2 := keepc hSw o2; have zo3 := keepc hSw o3; clear hSw; go_simp <;> with_reducible rfl
  (try simp only [Act.put, List.setIfInBounds_toArray, List.set_cons_zero, List.set_cons_succ])
  refine tk (i := 29) (d := (some 52)) (v := ?_) rfl rfl (by kernel_rfl) (by kernel_rfl) (by kernel_rfl) (fun _ _ _ h => h) (Or.inl ⟨by rfl, ?_⟩) hHeld ?_
  rotate_left
  · intro w hSw; have zo0 := keepc hSw o0; have zo1 := keepc hSw o1; have zo2 := keepc hSw o2; have zo3 := keepc hSw o3; clear hSw; go_simp <;> with_reducible rfl
  (try simp only [Act.put, List.setIfInBounds_toArray, List.set_cons_zero, List.set_cons_succ])
  refine tk (i := 30) (d := (some 53)) (v := ?_) rfl rfl (by kernel_rfl) (by kernel_rfl) (by kernel_rfl) (fun _ _ _ h => h) (Or.inl ⟨by rfl, ?_⟩) hHeld ?_
  rotate_left
  · intro w hSw; have zo0 := keepc hSw o0; have zo1 := keepc hSw o1; have zo2 := keepc hSw o2; have zo3 := keepc hSw o3; clear hSw; go_simp <;> with_reducible rfl
  (try simp only [Act.put, List.setIfInBounds_toArray, List.set_cons_zero, List.set_cons_succ])
  refine tk (i := 32) (d := (some 55)) (v := ?_) rfl rfl (by kernel_rfl) (by kernel_rfl) (by kernel_rfl) (fun _ _ _ h => h) (Or.inl ⟨by rfl, ?_⟩) hHeld ?_
  rotate_left
  · intro w hSw; have zo0 := keepc hSw o0; have zo1 := keepc hSw o1; have zo2 := keepc hSw o2; have zo3 := keepc hSw o3; clear hSw; go_simp <;> with_reducible rfl
  (try simp only [Act.put, List.setIfInBounds_toArray, List.set_cons_zero, List.set_cons_succ])
  refine wpAnyH_ready (rs := [31]) (by kernel_rfl) (by simp) ?_
  refine AllReadyH.cons rfl (fun K hK => ?_) AllReadyH.nil
  go_simp
  refine (opOk_c k P T D ok HOK _ hpm htm hdm).mono ?_; rintro e W ⟨rfl, hq⟩
  go_simp
  refine hK.out _ _ (chn hHeld hq) (fun h => ?_)
  clear hK K; replace hHeld := h; clear h hq
  (try simp only [Act.put, List.setIfInBounds_toArray, List.set_cons_zero, List.set_cons_succ])
  refine wpAnyH_ready (rs := [33]) (by kernel_rfl) (by simp) ?_
  refine AllReadyH.cons rfl (fun K hK => ?_) AllReadyH.nil
  go_simp
  refine (sOpOk_c k P T D ok HOK _ hpm htm hdm).mono ?_; rintro e W ⟨rfl, hq⟩
  go_simp
  refine hK.out _ _ (chn hHeld hq) (fun h => ?_)
  clear hK K; replace hHeld := h; clear h hq
  (try simp only [Act.put, List.setIfInBounds_toArray, List.set_cons_zero, List.set_cons_succ])
  refine tk (i := 34) (d := (some 57)) (v := ?_) rfl rfl (by kernel_rfl) (by kernel_rfl) (by kernel_rfl) (fun _ _ _ h => h) (Or.inl ⟨by rfl, ?_⟩) hHeld ?_
  rotate_left
  · intro w hSw; have zo0 := keepc hSw o0; have zo1 := keepc hSw o1; have zo2 := keepc hSw o2; have zo3 := keepc hSw o3; clear hSw; go_simp <;> with_reducible rfl
  (try simp only [Act.put, List.setIfInBounds_toArray, List.set_cons_zero, List.set_cons_succ])
  refine tk (i := 35) (d := (some 58)) (v := ?_) rfl rfl (by kernel_rfl) (by kernel_rfl) (by kernel_rfl) (fun _ _ _ h => h) (Or.inl ⟨by rfl, ?_⟩) hHeld ?_
  rotate_left
  · intro w hSw; have zo0 := keepc hSw o0; have zo1 := keepc hSw o1; have zo2 := keepc hSw o2; have zo3 := keepc hSw o3; clear hSw; go_simp <;> with_reducible rfl
  (try simp only [Act.put, List.setIfInBounds_toArray, List.set_cons_zero, List.set_cons_succ])
  refine wpAnyH_done (by kernel_rfl) ?_ _
  replace hb := chn hb hHeld
  have hR := HR.out.below hHeld
  clear hHeld HP HQ HR o0 o1 o2 o3 h1 h2 h3
  go_wp2_with fail
  refine (okS_c a1 c1 n1 xs r HRR _ HN1.out hR.sl hcn (by omega) HZ.out).mono ?_; rintro e W8 ⟨rfl, hq⟩; replace hb := chn hb hq; replace hR := hR.below hq; clear hq
  have HNIL := Lib.hid (fun W => okI_c none 0 0 [] true (Lib.hid ⟨fun _ => tok_nil, fun _ => rfl⟩) W rfl (fun h => by simp at h) (by decide) (fun e he => by cases he))
  cases r with
  | false =>
    clear hR
    go_wp2_with fail
    refine (HNIL.out _).mono ?_; rintro e W9 ⟨rfl, hq⟩; replace hb := chn hb hq; clear hq
    go_wp2
    go_ret
    exact ⟨rfl, hb⟩
  | true =>
    have htok := HRR.out.1 rfl
    go_wp2_with fail
    refine (HNIL.out _).mono ?_; rintro e W9 ⟨rfl, hq⟩; replace hb := chn hb hq; replace hR := hR.below hq; clear hq HNIL
    obtain ⟨b, off, rfl, _, hsl, _⟩ := hR
    have HSX := Lib.hid hsl
    have hx16 : n1 ≤ 16 := by have := htok.most; rw [List.length_map, HN1.out] at this; exact this
    have HSM := Lib.hid (tok_small htok)
    have smallA : Hid (∀ ys : List En, Small ys → Small (xs ++ ys)) := fun ys hy e he => (List.mem_append.1 he).elim (HSM.out e) (hy e)
    have HBX : Hid (¬ TOk ((xs ++ [(⟨⟨#[47, 122, 122, 47, 122]⟩, false, ⟨#[]⟩⟩ : En)]).map En.pl)) := by rw [Hid, List.map_append]; exact bent_x HZL.out
    have HBY : Hid (¬ TOk ((xs ++ [(⟨⟨#[47, 122, 122, 122]⟩, true, ⟨#[120]⟩⟩ : En)]).map En.pl)) := by rw [Hid, List.map_append]; exact bent_y
    have HBZ : Hid (¬ TOk ((xs ++ [(⟨⟨#[47, 122, 122]⟩, false, ⟨#[]⟩⟩ : En), (⟨⟨#[47, 122, 122, 47, 122]⟩, false, ⟨#[]⟩⟩ : En)]).map En.pl)) := by rw [Hid, List.map_append]; exact bent_z HZL.out
    have HBW : Hid (n1 ≠ 0 → ¬ TOk ((xs ++ xs).map En.pl)) := fun h0 => by
      rw [List.map_append]
      refine bent_w (fun h => h0 ?_)
      rw [← HN1.out, List.map_eq_nil_iff.1 h]; rfl
    clear hsl htok HRR
    go_upto_region 11 with (at_builtin; first
      | (refine wp_appN (by rfl) _ _ 37 (by rfl) HE W9.heap.size W9.heap.size W9 _ _ 0 [] (by rfl) En.cells (fun _ => rfl) en_one xs b off n1 c1 HN1.out (by rfl) ((HSX.out).below (bellow_alloc _ _)) (World.ownsRow_lit W9 #[] 0 (Nat.le_refl _) (Nat.zero_le _) rfl) (by rw [HN1.out]; omega) (bellow_alloc W9 _).size (bellow_alloc W9 _) (Nat.le_refl _) ?_; intro v2 w2 hown2 hbel2 _)
      | (refine wp_appN (by rfl) _ _ 37 (by rfl) HE W9.heap.size W9.heap.size W9 _ _ _ _ (by rfl) En.cells (fun _ => rfl) en_one [(⟨⟨#[47, 122, 122, 47, 122]⟩, false, ⟨#[]⟩⟩ : En)] _ 0 _ _ (by rfl) (by rfl) (slf_lit (fun _ => rfl) w2 #[.string ⟨#[47, 122, 122, 47, 122]⟩, .bool false, .string ⟨#[]⟩] _ _ (by rfl)) (own_below hown2 (bellow_alloc w2 _)) (by rw [HN1.out]; simp; omega) (Nat.le_trans hbel2.size (bellow_alloc w2 _).size) (hbel2.alloc hbel2.size _) (Nat.le_refl _) ?_; intro v3 w3 hown3 hbel3 _))
    obtain ⟨a5, c5, rfl, hslx⟩ := row_of (N := n1 + 1) (fun _ => rfl) hown3 (by rw [HN1.out]; simp) (by rw [List.length_append, HN1.out]; rfl)
    replace hb := chn hb hbel3
    replace HSX := Lib.hid (HSX.out.below hbel3)
    skip
    have HROW := Lib.hid hslx
    clear hown2 hbel2 hown3 hbel3 hslx
    have HX1 := HROW
    clear HROW
    go_upto_region 12 with (at_builtin; first
      | (refine wp_appN (by rfl) _ _ 37 (by rfl) HE w3.heap.size w3.heap.size w3 _ _ 0 [] (by rfl) En.cells (fun _ => rfl) en_one xs b off n1 c1 HN1.out (by rfl) ((HSX.out).below (bellow_alloc _ _)) (World.ownsRow_lit w3 #[] 0 (Nat.le_refl _) (Nat.zero_le _) rfl) (by rw [HN1.out]; omega) (bellow_alloc w3 _).size (bellow_alloc w3 _) (Nat.le_refl _) ?_; intro v2 w2 hown2 hbel2 _)
      | (refine wp_appN (by rfl) _ _ 37 (by rfl) HE w3.heap.size w3.heap.size w3 _ _ _ _ (by rfl) En.cells (fun _ => rfl) en_one [(⟨⟨#[47, 122, 122, 122]⟩, true, ⟨#[120]⟩⟩ : En)] _ 0 _ _ (by rfl) (by rfl) (slf_lit (fun _ => rfl) w2 #[.string ⟨#[47, 122, 122, 122]⟩, .bool true, .string ⟨#[120]⟩] _ _ (by rfl)) (own_below hown2 (bellow_alloc w2 _)) (by rw [HN1.out]; simp; omega) (Nat.le_trans hbel2.size (bellow_alloc w2 _).size) (hbel2.alloc hbel2.size _) (Nat.le_refl _) ?_; intro v3 w3 hown3 hbel3 _))
    obtain ⟨a6, c6, rfl, hslx⟩ := row_of (N := n1 + 1) (fun _ => rfl) hown3 (by rw [HN1.out]; simp) (by rw [List.length_append, HN1.out]; rfl)
    replace hb := chn hb hbel3
    replace HSX := Lib.hid (HSX.out.below hbel3)
    replace HX1 := Lib.hid (HX1.out.below hbel3)
    have HROW := Lib.hid hslx
    clear hown2 hbel2 hown3 hbel3 hslx
    have HX2 := HROW
    clear HROW
    go_upto_region 13 with (at_builtin; first
      | (refine wp_appN (by rfl) _ _ 37 (by rfl) HE w3.heap.size w3.heap.size w3 _ _ 0 [] (by rfl) En.cells (fun _ => rfl) en_one xs b off n1 c1 HN1.out (by rfl) ((HSX.out).below (bellow_alloc _ _)) (World.ownsRow_lit w3 #[] 0 (Nat.le_refl _) (Nat.zero_le _) rfl) (by rw [HN1.out]; omega) (bellow_alloc w3 _).size (bellow_alloc w3 _) (Nat.le_refl _) ?_; intro v2 w2 hown2 hbel2 _)
      | (refine wp_appN (by rfl) _ _ 37 (by rfl) HE w3.heap.size w3.heap.size w3 _ _ _ _ (by rfl) En.cells (fun _ => rfl) en_one [(⟨⟨#[47, 122, 122]⟩, false, ⟨#[]⟩⟩ : En), (⟨⟨#[47, 122, 122, 47, 122]⟩, false, ⟨#[]⟩⟩ : En)] _ 0 _ _ (by rfl) (by rfl) (slf_lit (fun _ => rfl) w2 #[.string ⟨#[47, 122, 122]⟩, .bool false, .string ⟨#[]⟩, .string ⟨#[47, 122, 122, 47, 122]⟩, .bool false, .string ⟨#[]⟩] _ _ (by rfl)) (own_below hown2 (bellow_alloc w2 _)) (by rw [HN1.out]; simp; omega) (Nat.le_trans hbel2.size (bellow_alloc w2 _).size) (hbel2.alloc hbel2.size _) (Nat.le_refl _) ?_; intro v3 w3 hown3 hbel3 _))
    obtain ⟨a7, c7, rfl, hslx⟩ := row_of (N := n1 + 2) (fun _ => rfl) hown3 (by rw [HN1.out]; simp) (by rw [List.length_append, HN1.out]; rfl)
    replace hb := chn hb hbel3
    replace HSX := Lib.hid (HSX.out.below hbel3)
    replace HX1 := Lib.hid (HX1.out.below hbel3); replace HX2 := Lib.hid (HX2.out.below hbel3)
    have HROW := Lib.hid hslx
    clear hown2 hbel2 hown3 hbel3 hslx
    have HX3 := HROW
    clear HROW
    go_upto_region 14 with (at_builtin; first
      | (refine wp_appN (by rfl) _ _ 37 (by rfl) HE w3.heap.size w3.heap.size w3 _ _ 0 [] (by rfl) En.cells (fun _ => rfl) en_one xs b off n1 c1 HN1.out (by rfl) ((HSX.out).below (bellow_alloc _ _)) (World.ownsRow_lit w3 #[] 0 (Nat.le_refl _) (Nat.zero_le _) rfl) (by rw [HN1.out]; omega) (bellow_alloc w3 _).size (bellow_alloc w3 _) (Nat.le_refl _) ?_; intro v2 w2 hown2 hbel2 _)
      | (refine wp_appN (by rfl) _ _ 37 (by rfl) HE w3.heap.size w3.heap.size w3 _ _ _ _ (by rfl) En.cells (fun _ => rfl) en_one xs b off n1 c1 HN1.out (by rfl) ((HSX.out).below hbel2) hown2 (by rw [HN1.out]; omega) hbel2.size hbel2 (Nat.le_refl _) ?_; intro v3 w3 hown3 hbel3 _))
    obtain ⟨a8, c8, rfl, hslx⟩ := row_of (N := n1 + n1) (fun _ => rfl) hown3 (by rw [HN1.out]; omega) (by rw [List.length_append, HN1.out])
    replace hb := chn hb hbel3
    replace HSX := Lib.hid (HSX.out.below hbel3)
    replace HX1 := Lib.hid (HX1.out.below hbel3); replace HX2 := Lib.hid (HX2.out.below hbel3); replace HX3 := Lib.hid (HX3.out.below hbel3)
    have HROW := Lib.hid hslx
    clear hown2 hbel2 hown3 hbel3 hslx
    have HX4 := HROW
    clear HROW HSX
    have m1 : Small [(⟨⟨#[47, 122, 122, 47, 122]⟩, false, ⟨#[]⟩⟩ : En)] := fun e he => by rw [List.mem_singleton.1 he]; decide
    have m2 : Small [(⟨⟨#[47, 122, 122, 122]⟩, true, ⟨#[120]⟩⟩ : En)] := fun e he => by rw [List.mem_singleton.1 he]; decide
    have m3 : Small [(⟨⟨#[47, 122, 122]⟩, false, ⟨#[]⟩⟩ : En), (⟨⟨#[47, 122, 122, 47, 122]⟩, false, ⟨#[]⟩⟩ : En)] := fun e he => by
      simp only [List.mem_cons, List.not_mem_nil, or_false] at he
      rcases he with rfl | rfl <;> decide
    have HK1 := Lib.hid (fun W h => okNo_c a5 c5 (n1 + 1) _ HBX.out W (by rw [List.length_append, HN1.out]; rfl) h (by omega) (smallA.out _ m1))
    have HK2 := Lib.hid (fun W h => okNo_c a6 c6 (n1 + 1) _ HBY.out W (by rw [List.length_append, HN1.out]; rfl) h (by omega) (smallA.out _ m2))
    have HK3 := Lib.hid (fun W h => okNo_c a7 c7 (n1 + 2) _ HBZ.out W (by rw [List.length_append, HN1.out]; rfl) h (by omega) (smallA.out _ m3))
    have HK4 := Lib.hid (fun (h0 : n1 ≠ 0) W h => okNo_c a8 c8 (n1 + n1) _ (HBW.out h0) W (by rw [List.length_append, HN1.out]) h (by omega) (smallA.out _ HSM.out))
    clear m1 m2 m3 HBX HBY HBZ HBW smallA
    go_wp2_with fail
    refine (HK1.out _ HX1.out).mono ?_; rintro e V1 ⟨rfl, hq⟩; replace hb := chn hb hq; replace HX2 := Lib.hid (HX2.out.below hq); replace HX3 := Lib.hid (HX3.out.below hq); replace HX4 := Lib.hid (HX4.out.below hq); clear hq HK1 HX1
    go_wp2_with fail
    refine (HK2.out _ HX2.out).mono ?_; rintro e V2 ⟨rfl, hq⟩; replace hb := chn hb hq; replace HX3 := Lib.hid (HX3.out.below hq); replace HX4 := Lib.hid (HX4.out.below hq); clear hq HK2 HX2
    go_wp2_with fail
    refine (HK3.out _ HX3.out).mono ?_; rintro e V3 ⟨rfl, hq⟩; replace hb := chn hb hq; replace HX4 := Lib.hid (HX4.out.below hq); clear hq HK3 HX3
    by_cases h0 : n1 = 0
    · have h0' : ((n1 : Int) == 0) = true := by rw [beq_iff_eq]; omega
      clear HK4
      go_wp2
      go_ret
      exact ⟨rfl, hb⟩
    · have h0' : ((n1 : Int) == 0) = false := by rw [beq_eq_false_iff_ne]; omega
      have HK5 := Lib.hid (HK4.out h0)
      clear HK4
      go_wp2_with fail
      refine (HK5.out _ HX4.out).mono ?_; rintro e V4 ⟨rfl, hq⟩; replace hb := chn hb hq; clear hq
      go_wp2
      go_ret
      exact ⟨rfl, hb⟩
end Go.Proofs.YtobbodbkdcbflaaDoor
namespace Go.Proofs.YtobbodbkdcbflaaDoor
open Go.RowKit
theorem mzz_up : upL [47, 122, 122, 47, 122] = [47, 122, 122] ∧ upL [47, 122, 122] = [47] := by decide
theorem mzz_under : underL [47, 122, 122, 47, 122] [47, 122, 122] = true := by decide
theorem mbent_x {l : List PM} (hz : LowZ l) : ¬ LOk (l ++ [⟨[47, 122, 122], 3, []⟩, ⟨[47, 122, 122, 47, 122], 1, []⟩]) := fun h => by
  rcases h.par (m := ⟨[47, 122, 122, 47, 122], 1, []⟩) (by simp) with h1 | ⟨f, hf, h1, h3⟩
  · rw [mzz_up.1] at h1; simp at h1
  · rw [mzz_up.1] at h1
    rcases List.mem_append.1 hf with h2 | h2
    · rcases hz f h2 with h4 | h4
      · rw [h1] at h4; cases h4
      · rw [h1] at h4; simp at h4
    · simp only [List.mem_cons, List.not_mem_nil, or_false] at h2
      rcases h2 with rfl | rfl
      · simp [dirM] at h3
      · simp at h1
theorem mbent_y {l : List PM} : ¬ LOk (l ++ [⟨[47, 122, 122], 4, []⟩, ⟨[47, 122, 122, 47, 122], 3, []⟩]) := fun h => by
  have h1 := h.bare ⟨[47, 122, 122, 47, 122], 3, []⟩ (by simp) (by decide)
  have h2 : bareL (l ++ [⟨[47, 122, 122], 4, []⟩, ⟨[47, 122, 122, 47, 122], 3, []⟩]) [47, 122, 122, 47, 122] = true := bare_iff.2 ⟨⟨[47, 122, 122], 4, []⟩, by simp, rfl, mzz_under⟩
  rw [h2] at h1; cases h1
theorem mbent_w {l : List PM} (hne : l ≠ []) : ¬ LOk (l ++ l) := fun h => by
  obtain ⟨e, r, rfl⟩ := List.exists_cons_of_ne_nil hne
  have h1 := (List.pairwise_append.1 h.ord).2.2 e (by simp) e (by simp)
  rw [less_irrefl] at h1; cases h1
theorem LOk.pthM {l : List PM} (h : LOk l) {m : PM} (hm : m ∈ l) : pathOkL m.p = true := by
  have h1 := h.mks m hm
  unfold markOkL at h1
  simp only [Bool.and_eq_true] at h1
  exact h1.1.1.2
theorem lowZ_all {l : List PM} (h : LOk l) (hz : LowZ l) : LowM l := fun m hm => by
  rcases hz m hm with h1 | h1
  · exact h1
  · rcases h.par hm with h2 | ⟨f, hf, h2, _⟩
    · rw [h1, mzz_up.1] at h2; simp at h2
    · rw [h1, mzz_up.1] at h2
      rcases hz f hf with h4 | h4
      · rw [h2] at h4; cases h4
      · rw [h2] at h4; simp at h4
theorem low_less {p r : Bs} (hp : pathOkL p = true) (hl : lowL p = true) : Op.bytesLess p (47 :: 122 :: r) = true := by
  unfold pathOkL at hp
  simp only [Bool.and_eq_true, beq_iff_eq] at hp
  have h2 := hp.1.1.2
  cases p with
  | nil => simp at h2
  | cons x q =>
    simp at h2
    subst h2
    cases q with
    | nil => simp [less_cons, Op.bytesLess]
    | cons y s =>
      have h3 : y.toNat < 107 := by unfold lowL at hl; simpa using hl
      have h4 : y < 122 := by rw [UInt8.lt_iff_toNat_lt]; exact Nat.lt_of_lt_of_le h3 (by decide)
      rw [less_cons, less_cons]
      simp [h4]
theorem low_no_under {p : Bs} (hl : lowL p = true) : underL p [47, 122, 122] = false := by
  cases hu : underL p [47, 122, 122] with
  | false => rfl
  | true =>
    obtain ⟨x, hx⟩ := under_pre hu (by decide)
    rw [hx] at hl
    cases hl
theorem mbent_z {l : List PM} (h : LOk l) (hz : LowZ l) (hl : l.length + 2 ≤ 32) : LOk (l ++ [⟨[47, 122, 122], 4, []⟩, ⟨[47, 122, 122, 47, 122], 2, []⟩]) := by
  have hlow := lowZ_all h hz
  have hmem : ∀ m : PM, m ∈ l ++ [⟨[47, 122, 122], 4, []⟩, ⟨[47, 122, 122, 47, 122], 2, []⟩] ↔ m ∈ l ∨ m = ⟨[47, 122, 122], 4, []⟩ ∨ m = ⟨[47, 122, 122, 47, 122], 2, []⟩ := fun m => by simp
  have hord : OrdP PM.p (l ++ [⟨[47, 122, 122], 4, []⟩, ⟨[47, 122, 122, 47, 122], 2, []⟩]) := by
    refine List.pairwise_append.2 ⟨h.ord, ?_, fun a ha b hb => ?_⟩
    · simp; decide
    · simp only [List.mem_cons, List.not_mem_nil, or_false] at hb
      rcases hb with rfl | rfl <;> exact low_less (h.pthM ha) (hlow a ha)
  refine ⟨by rw [List.length_append]; exact hl, fun m hm => ?_, hord, fun m hm => ?_, fun m hm hk => ?_⟩
  · rcases (hmem m).1 hm with h1 | rfl | rfl
    · exact h.mks m h1
    · decide
    · decide
  · refine (upM_of hord).2 ?_
    rcases (hmem m).1 hm with h1 | rfl | rfl
    · rcases h.par h1 with h2 | ⟨f, hf, h2⟩
      · exact .inl h2
      · exact .inr ⟨f, (hmem f).2 (.inl hf), h2⟩
    · exact .inl mzz_up.2
    · exact .inr ⟨⟨[47, 122, 122], 4, []⟩, (hmem _).2 (.inr (.inl rfl)), mzz_up.1.symm, rfl⟩
  · cases hb : bareL (l ++ [⟨[47, 122, 122], 4, []⟩, ⟨[47, 122, 122, 47, 122], 2, []⟩]) m.p with
    | false => rfl
    | true =>
      obtain ⟨y, hy, hy4, hyu⟩ := bare_iff.1 hb
      rcases (hmem y).1 hy with h1 | rfl | rfl
      · rcases (hmem m).1 hm with h2 | rfl | rfl
        · have h3 := h.bare m h2 hk
          have h4 : bareL l m.p = true := bare_iff.2 ⟨y, h1, hy4, hyu⟩
          rw [h4] at h3; cases h3
        · have h3 := ups_root (q := [47, 122, 122]) (by decide) mzz_up.2 (h.pthM h1)
          rw [hyu] at h3; cases h3
        · simp at hk
      · rcases (hmem m).1 hm with h2 | rfl | rfl
        · have h3 := low_no_under (hlow m h2)
          rw [hyu] at h3; cases h3
        · have h3 := not_under_self [47, 122, 122]
          rw [hyu] at h3; cases h3
        · simp at hk
      · simp at hy4
/-- LayerOk of a list that is not right. -/
theorem lokNo_c (a : Option Addr) (c n : Nat) (xs : List Mk) (hno : ¬ LOk (xs.map Mk.pl)) (w : World) (hn : xs.length = n) (hs : SlF Mk.cells w a xs) (hx : n ≤ 1000) (hz : SmallM xs) :
    Calls Tryd.prog 13 #[.slice a n c] w fun e w' => e = .returned (.bool false) ∧ Below w.heap.size w w' :=
  lokI_c a c n xs false (Lib.hid ⟨fun h => (by cases h), fun h => absurd h hno⟩) w hn hs hx hz
theorem sameMS_c (a a' : Option Addr) (c c' n n' : Nat) (xs ys : List Mk) (r : Bool) (hr : Hid (r = true ↔ xs = ys)) (w : World) (hn : xs.length = n) (hn' : ys.length = n') (hs : SlF Mk.cells w a xs) (hs' : SlF Mk.cells w a' ys) (hx : n ≤ 1000) (hy : n' ≤ 1000) :
    Calls Tryd.prog 12 #[.slice a n c, .slice a' n' c'] w fun e w' => e = .returned (.bool r) ∧ Below w.heap.size w w' := by
  subst hn hn'
  exact (sLayerSame_c a a' c c' xs ys r hr w hs hs' (by unfold maxLen; omega) (by unfold maxLen; omega)).mono fun _ _ ⟨h1, m, h2⟩ => ⟨h1, h2 ▸ below_dr w m⟩
set_option maxRecDepth 100000 in
set_option maxHeartbeats 8000000 in
theorem lawLayerBent_w (w : World) (a : Option Addr) (n c : Nat) (h : Code w a n c) : Calls Tryd.prog 3 #[.slice a n c] w (TrueB w) := by
  have hn := h.2.2
  by_cases hbig : 1048576 < n
  · clear h
    go_enter Tryd.func3, Tryd.ntmps3
    go_wp2
    go_ret
    exact ⟨rfl, Below.refl _ _⟩
  have HE := eltMk
  have HD := Lib.hid (drawLayerSame_c w a n c h)
  have HC := Lib.hid h
  clear h
  go_enter Tryd.func3, Tryd.ntmps3
  go_wp2_with fail
  refine HD.out.mono ?_; rintro e W1 ⟨a3, c3, ps, a4, c4, qs, rfl, hP, hzp, hlp, hQ, hzq, hlq, hb⟩
  have HD2 := Lib.hid (drawLayerOk_c W1 a n c (HC.out.below hb))
  obtain ⟨n3, hn3⟩ : ∃ m, ps.length = m := ⟨_, rfl⟩
  obtain ⟨n4, hn4⟩ : ∃ m, qs.length = m := ⟨_, rfl⟩
  have HN3 := Lib.hid hn3
  have HN4 := Lib.hid hn4
  rw [hn3] at hlp ⊢
  rw [hn4] at hlq ⊢
  clear hn3 hn4 HD
  go_wp2_with fail
  refine HD2.out.mono ?_; rintro e W2 ⟨a1, c1, xs, rfl, hR, hz, hx, hzl, hq⟩; replace hb := chn hb hq; replace hP := hP.below hq; replace hQ := hQ.below hq; clear hq HD2
  have hcn := hR.cap
  obtain ⟨n1, hn1⟩ : ∃ m, xs.length = m := ⟨_, rfl⟩
  rw [hn1] at hx hcn ⊢
  have HN1 := Lib.hid hn1
  have HZ := Lib.hid hz
  have HZL := Lib.hid hzl
  obtain ⟨rs, hrs⟩ : ∃ r : Bool, r = true ↔ ps = qs := ⟨by classical exact decide (ps = qs), by simp⟩
  have HRS := Lib.hid hrs
  have HRS' : Hid (rs = true ↔ qs = ps) := hrs.trans ⟨Eq.symm, Eq.symm⟩
  obtain ⟨r, hr⟩ := mlok_dec xs
  have HRR := Lib.hid hr
  have h1 : (rs != rs) = false := by cases rs <;> rfl
  have h2 : (r != r) = false := by cases r <;> rfl
  clear hn1 hz hzl HC hrs hr
  go_wp2_with fail
  refine (sameM_c a3 a4 c3 c4 n3 n4 ps qs rs HRS _ HN3.out HN4.out hP.sl hQ.sl (by omega) (by omega)).mono ?_; rintro e V1 ⟨rfl, hq⟩; replace hb := chn hb hq; replace hP := hP.below hq; replace hQ := hQ.below hq; replace hR := hR.below hq; clear hq
  go_wp2_with fail
  refine (sameMS_c a3 a4 c3 c4 n3 n4 ps qs rs HRS _ HN3.out HN4.out hP.sl hQ.sl (by omega) (by omega)).mono ?_; rintro e V2 ⟨rfl, hq⟩; replace hb := chn hb hq; replace hP := hP.below hq; replace hQ := hQ.below hq; replace hR := hR.below hq; clear hq
  go_wp2_with fail
  refine (sameM_c a3 a4 c3 c4 n3 n4 ps qs rs HRS _ HN3.out HN4.out hP.sl hQ.sl (by omega) (by omega)).mono ?_; rintro e V3 ⟨rfl, hq⟩; replace hb := chn hb hq; replace hP := hP.below hq; replace hQ := hQ.below hq; replace hR := hR.below hq; clear hq
  go_wp2_with fail
  refine (sameM_c a4 a3 c4 c3 n4 n3 qs ps rs HRS' _ HN4.out HN3.out hQ.sl hP.sl (by omega) (by omega)).mono ?_; rintro e V4 ⟨rfl, hq⟩; replace hb := chn hb hq; replace hR := hR.below hq; clear hq hP hQ
  go_wp2_with fail
  refine (sameM_c a1 a1 c1 c1 n1 n1 xs xs true (Lib.hid ⟨fun _ => rfl, fun _ => rfl⟩) _ HN1.out HN1.out hR.sl hR.sl (by omega) (by omega)).mono ?_; rintro e V5 ⟨rfl, hq⟩; replace hb := chn hb hq; replace hR := hR.below hq; clear hq
  go_wp2_with fail
  refine (lokI_c a1 c1 n1 xs r HRR _ HN1.out hR.sl (by omega) HZ.out).mono ?_; rintro e V6 ⟨rfl, hq⟩; replace hb := chn hb hq; replace hR := hR.below hq; clear hq
  go_wp2_with fail
  refine (lokS_c a1 c1 n1 xs r HRR _ HN1.out hR.sl hcn (by omega) HZ.out).mono ?_; rintro e V7 ⟨rfl, hq⟩; replace hb := chn hb hq; replace hR := hR.below hq; clear hq
  go_wp2_with fail
  refine (lokS_c a1 c1 n1 xs r HRR _ HN1.out hR.sl hcn (by omega) HZ.out).mono ?_; rintro e W9 ⟨rfl, hq⟩; replace hb := chn hb hq; replace hR := hR.below hq; clear hq
  cases r with
  | false =>
    have HNIL := Lib.hid (fun W => lokI_c none 0 0 [] true (Lib.hid ⟨fun _ => lok_nil, fun _ => rfl⟩) W rfl (slf_nilM W) (by decide) (fun e he => by cases he))
    clear hR
    go_wp2_with fail
    refine (HNIL.out _).mono ?_; rintro e W10 ⟨rfl, hq⟩; replace hb := chn hb hq; clear hq
    go_wp2
    go_ret
    exact ⟨rfl, hb⟩
  | true =>
    have hlok := HRR.out.1 rfl
    obtain ⟨b, off, rfl, _, hsl, _⟩ := hR
    have HSX := Lib.hid hsl
    have hx32 : n1 ≤ 32 := by have := hlok.most; rw [List.length_map, HN1.out] at this; exact this
    have HSM := Lib.hid (lok_small hlok)
    have smallA : Hid (∀ ys : List Mk, SmallM ys → SmallM (xs ++ ys)) := fun ys hy e he => (List.mem_append.1 he).elim (HSM.out e) (hy e)
    have HBX : Hid (¬ LOk ((xs ++ [(⟨⟨#[47, 122, 122]⟩, 3, ⟨#[]⟩⟩ : Mk), (⟨⟨#[47, 122, 122, 47, 122]⟩, 1, ⟨#[]⟩⟩ : Mk)]).map Mk.pl)) := by rw [Hid, List.map_append]; exact mbent_x HZL.out
    have HBY : Hid (¬ LOk ((xs ++ [(⟨⟨#[47, 122, 122]⟩, 4, ⟨#[]⟩⟩ : Mk), (⟨⟨#[47, 122, 122, 47, 122]⟩, 3, ⟨#[]⟩⟩ : Mk)]).map Mk.pl)) := by rw [Hid, List.map_append]; exact mbent_y
    obtain ⟨rz, hrz⟩ := mlok_dec (xs ++ [(⟨⟨#[47, 122, 122]⟩, 4, ⟨#[]⟩⟩ : Mk), (⟨⟨#[47, 122, 122, 47, 122]⟩, 2, ⟨#[]⟩⟩ : Mk)])
    have HRZ := Lib.hid hrz
    have HBZ : Hid (n1 + 2 ≤ 32 → rz = true) := fun h => hrz.2 (by rw [List.map_append]; exact mbent_z hlok HZL.out (by rw [List.length_map, HN1.out]; exact h))
    have HBW : Hid (n1 ≠ 0 → ¬ LOk ((xs ++ xs).map Mk.pl)) := fun h0 => by
      rw [List.map_append]
      refine mbent_w (fun h => h0 ?_)
      rw [← HN1.out, List.map_eq_nil_iff.1 h]; rfl
    clear hsl hlok HRR hrz
    go_upto_region 10 with (at_builtin; first
      | (refine wp_appN (by rfl) _ _ 23 (by rfl) HE W9.heap.size W9.heap.size W9 _ _ 0 [] (by rfl) Mk.cells (fun _ => rfl) mk_one xs b off n1 c1 HN1.out (by rfl) ((HSX.out).below (bellow_alloc _ _)) (World.ownsRow_lit W9 #[] 0 (Nat.le_refl _) (Nat.zero_le _) rfl) (by rw [HN1.out]; omega) (bellow_alloc W9 _).size (bellow_alloc W9 _) (Nat.le_refl _) ?_; intro v2 w2 hown2 hbel2 _)
      | (refine wp_appN (by rfl) _ _ 23 (by rfl) HE W9.heap.size W9.heap.size W9 _ _ _ _ (by rfl) Mk.cells (fun _ => rfl) mk_one [(⟨⟨#[47, 122, 122]⟩, 3, ⟨#[]⟩⟩ : Mk), (⟨⟨#[47, 122, 122, 47, 122]⟩, 1, ⟨#[]⟩⟩ : Mk)] _ 0 _ _ (by rfl) (by rfl) (slf_lit (fun _ => rfl) w2 #[.string ⟨#[47, 122, 122]⟩, .int .i64 3, .string ⟨#[]⟩, .string ⟨#[47, 122, 122, 47, 122]⟩, .int .i64 1, .string ⟨#[]⟩] _ _ (by rfl)) (own_below hown2 (bellow_alloc w2 _)) (by rw [HN1.out]; simp; omega) (Nat.le_trans hbel2.size (bellow_alloc w2 _).size) (hbel2.alloc hbel2.size _) (Nat.le_refl _) ?_; intro v3 w3 hown3 hbel3 _))
    obtain ⟨a5, c5, rfl, hslx⟩ := row_of (N := n1 + 2) (fun _ => rfl) hown3 (by rw [HN1.out]; simp) (by rw [List.length_append, HN1.out]; rfl)
    replace hb := chn hb hbel3
    replace HSX := Lib.hid (HSX.out.below hbel3)
    skip
    have HROW := Lib.hid hslx
    clear hown2 hbel2 hown3 hbel3 hslx
    have HX1 := HROW
    clear HROW
    go_upto_region 11 with (at_builtin; first
      | (refine wp_appN (by rfl) _ _ 23 (by rfl) HE w3.heap.size w3.heap.size w3 _ _ 0 [] (by rfl) Mk.cells (fun _ => rfl) mk_one xs b off n1 c1 HN1.out (by rfl) ((HSX.out).below (bellow_alloc _ _)) (World.ownsRow_lit w3 #[] 0 (Nat.le_refl _) (Nat.zero_le _) rfl) (by rw [HN1.out]; omega) (bellow_alloc w3 _).size (bellow_alloc w3 _) (Nat.le_refl _) ?_; intro v2 w2 hown2 hbel2 _)
      | (refine wp_appN (by rfl) _ _ 23 (by rfl) HE w3.heap.size w3.heap.size w3 _ _ _ _ (by rfl) Mk.cells (fun _ => rfl) mk_one [(⟨⟨#[47, 122, 122]⟩, 4, ⟨#[]⟩⟩ : Mk), (⟨⟨#[47, 122, 122, 47, 122]⟩, 3, ⟨#[]⟩⟩ : Mk)] _ 0 _ _ (by rfl) (by rfl) (slf_lit (fun _ => rfl) w2 #[.string ⟨#[47, 122, 122]⟩, .int .i64 4, .string ⟨#[]⟩, .string ⟨#[47, 122, 122, 47, 122]⟩, .int .i64 3, .string ⟨#[]⟩] _ _ (by rfl)) (own_below hown2 (bellow_alloc w2 _)) (by rw [HN1.out]; simp; omega) (Nat.le_trans hbel2.size (bellow_alloc w2 _).size) (hbel2.alloc hbel2.size _) (Nat.le_refl _) ?_; intro v3 w3 hown3 hbel3 _))
    obtain ⟨a6, c6, rfl, hslx⟩ := row_of (N := n1 + 2) (fun _ => rfl) hown3 (by rw [HN1.out]; simp) (by rw [List.length_append, HN1.out]; rfl)
    replace hb := chn hb hbel3
    replace HSX := Lib.hid (HSX.out.below hbel3)
    replace HX1 := Lib.hid (HX1.out.below hbel3)
    have HROW := Lib.hid hslx
    clear hown2 hbel2 hown3 hbel3 hslx
    have HX2 := HROW
    clear HROW
    go_upto_region 12 with (at_builtin; first
      | (refine wp_appN (by rfl) _ _ 23 (by rfl) HE w3.heap.size w3.heap.size w3 _ _ 0 [] (by rfl) Mk.cells (fun _ => rfl) mk_one xs b off n1 c1 HN1.out (by rfl) ((HSX.out).below (bellow_alloc _ _)) (World.ownsRow_lit w3 #[] 0 (Nat.le_refl _) (Nat.zero_le _) rfl) (by rw [HN1.out]; omega) (bellow_alloc w3 _).size (bellow_alloc w3 _) (Nat.le_refl _) ?_; intro v2 w2 hown2 hbel2 _)
      | (refine wp_appN (by rfl) _ _ 23 (by rfl) HE w3.heap.size w3.heap.size w3 _ _ _ _ (by rfl) Mk.cells (fun _ => rfl) mk_one [(⟨⟨#[47, 122, 122]⟩, 4, ⟨#[]⟩⟩ : Mk), (⟨⟨#[47, 122, 122, 47, 122]⟩, 2, ⟨#[]⟩⟩ : Mk)] _ 0 _ _ (by rfl) (by rfl) (slf_lit (fun _ => rfl) w2 #[.string ⟨#[47, 122, 122]⟩, .int .i64 4, .string ⟨#[]⟩, .string ⟨#[47, 122, 122, 47, 122]⟩, .int .i64 2, .string ⟨#[]⟩] _ _ (by rfl)) (own_below hown2 (bellow_alloc w2 _)) (by rw [HN1.out]; simp; omega) (Nat.le_trans hbel2.size (bellow_alloc w2 _).size) (hbel2.alloc hbel2.size _) (Nat.le_refl _) ?_; intro v3 w3 hown3 hbel3 _))
    obtain ⟨a7, c7, rfl, hslx⟩ := row_of (N := n1 + 2) (fun _ => rfl) hown3 (by rw [HN1.out]; simp) (by rw [List.length_append, HN1.out]; rfl)
    replace hb := chn hb hbel3
    replace HSX := Lib.hid (HSX.out.below hbel3)
    replace HX1 := Lib.hid (HX1.out.below hbel3); replace HX2 := Lib.hid (HX2.out.below hbel3)
    have HROW := Lib.hid hslx
    clear hown2 hbel2 hown3 hbel3 hslx
    have HX3 := HROW
    clear HROW
    go_upto_region 13 with (at_builtin; first
      | (refine wp_appN (by rfl) _ _ 23 (by rfl) HE w3.heap.size w3.heap.size w3 _ _ 0 [] (by rfl) Mk.cells (fun _ => rfl) mk_one xs b off n1 c1 HN1.out (by rfl) ((HSX.out).below (bellow_alloc _ _)) (World.ownsRow_lit w3 #[] 0 (Nat.le_refl _) (Nat.zero_le _) rfl) (by rw [HN1.out]; omega) (bellow_alloc w3 _).size (bellow_alloc w3 _) (Nat.le_refl _) ?_; intro v2 w2 hown2 hbel2 _)
      | (refine wp_appN (by rfl) _ _ 23 (by rfl) HE w3.heap.size w3.heap.size w3 _ _ _ _ (by rfl) Mk.cells (fun _ => rfl) mk_one xs b off n1 c1 HN1.out (by rfl) ((HSX.out).below hbel2) hown2 (by rw [HN1.out]; omega) hbel2.size hbel2 (Nat.le_refl _) ?_; intro v3 w3 hown3 hbel3 _))
    obtain ⟨a8, c8, rfl, hslx⟩ := row_of (N := n1 + n1) (fun _ => rfl) hown3 (by rw [HN1.out]; omega) (by rw [List.length_append, HN1.out])
    replace hb := chn hb hbel3
    replace HSX := Lib.hid (HSX.out.below hbel3)
    replace HX1 := Lib.hid (HX1.out.below hbel3); replace HX2 := Lib.hid (HX2.out.below hbel3); replace HX3 := Lib.hid (HX3.out.below hbel3)
    have HROW := Lib.hid hslx
    clear hown2 hbel2 hown3 hbel3 hslx
    have HX4 := HROW
    clear HROW
    have m1 : SmallM [(⟨⟨#[47, 122, 122]⟩, 3, ⟨#[]⟩⟩ : Mk), (⟨⟨#[47, 122, 122, 47, 122]⟩, 1, ⟨#[]⟩⟩ : Mk)] := fun e he => by
      simp only [List.mem_cons, List.not_mem_nil, or_false] at he
      rcases he with rfl | rfl <;> decide
    have m2 : SmallM [(⟨⟨#[47, 122, 122]⟩, 4, ⟨#[]⟩⟩ : Mk), (⟨⟨#[47, 122, 122, 47, 122]⟩, 3, ⟨#[]⟩⟩ : Mk)] := fun e he => by
      simp only [List.mem_cons, List.not_mem_nil, or_false] at he
      rcases he with rfl | rfl <;> decide
    have m3 : SmallM [(⟨⟨#[47, 122, 122]⟩, 4, ⟨#[]⟩⟩ : Mk), (⟨⟨#[47, 122, 122, 47, 122]⟩, 2, ⟨#[]⟩⟩ : Mk)] := fun e he => by
      simp only [List.mem_cons, List.not_mem_nil, or_false] at he
      rcases he with rfl | rfl <;> decide
    have HK1 := Lib.hid (fun W h => lokNo_c a5 c5 (n1 + 2) _ HBX.out W (by rw [List.length_append, HN1.out]; rfl) h (by omega) (smallA.out _ m1))
    have HK2 := Lib.hid (fun W h => lokNo_c a6 c6 (n1 + 2) _ HBY.out W (by rw [List.length_append, HN1.out]; rfl) h (by omega) (smallA.out _ m2))
    have HK3 := Lib.hid (fun W h => lokI_c a7 c7 (n1 + 2) _ rz HRZ W (by rw [List.length_append, HN1.out]; rfl) h (by omega) (smallA.out _ m3))
    have HK4 := Lib.hid (fun (h0 : n1 ≠ 0) W h => lokNo_c a8 c8 (n1 + n1) _ (HBW.out h0) W (by rw [List.length_append, HN1.out]) h (by omega) (smallA.out _ HSM.out))
    have HSE := Lib.hid (fun W (h : SlF Mk.cells W (some ⟨b, off, none⟩) xs) (h' : SlF Mk.cells W a7 (xs ++ [(⟨⟨#[47, 122, 122]⟩, 4, ⟨#[]⟩⟩ : Mk), (⟨⟨#[47, 122, 122, 47, 122]⟩, 2, ⟨#[]⟩⟩ : Mk)])) => sameM_c (some ⟨b, off, none⟩) a7 c1 c7 n1 (n1 + 2) xs _ false (Lib.hid ⟨fun h => (by cases h), fun h => (by have := congrArg List.length h; simp at this)⟩) W HN1.out (by rw [List.length_append, HN1.out]; rfl) h h' (by omega) (by omega))
    clear m1 m2 m3 HBX HBY HBW HRZ smallA
    go_wp2_with fail
    refine (HK1.out _ HX1.out).mono ?_; rintro e U1 ⟨rfl, hq⟩; replace hb := chn hb hq; replace HX2 := Lib.hid (HX2.out.below hq); replace HX3 := Lib.hid (HX3.out.below hq); replace HX4 := Lib.hid (HX4.out.below hq); replace HSX := Lib.hid (HSX.out.below hq); clear hq HK1 HX1
    go_wp2_with fail
    refine (HK2.out _ HX2.out).mono ?_; rintro e U2 ⟨rfl, hq⟩; replace hb := chn hb hq; replace HX3 := Lib.hid (HX3.out.below hq); replace HX4 := Lib.hid (HX4.out.below hq); replace HSX := Lib.hid (HSX.out.below hq); clear hq HK2 HX2
    go_wp2_with fail
    refine (HK3.out _ HX3.out).mono ?_; rintro e U3 ⟨rfl, hq⟩; replace hb := chn hb hq; replace HX3 := Lib.hid (HX3.out.below hq); replace HX4 := Lib.hid (HX4.out.below hq); replace HSX := Lib.hid (HSX.out.below hq); clear hq HK3
    cases rz with
    | true =>
      clear HBZ
      by_cases h0 : n1 = 0
      · have h0' : ((n1 : Int) == 0) = true := by rw [beq_iff_eq]; omega
        clear HK4 HX4 h0
        go_wp2_with fail
        refine (HSE.out _ HSX.out HX3.out).mono ?_; rintro e V8 ⟨rfl, hq⟩; replace hb := chn hb hq; clear hq
        go_wp2
        go_ret
        exact ⟨rfl, hb⟩
      · have h0' : ((n1 : Int) == 0) = false := by rw [beq_eq_false_iff_ne]; omega
        have HK5 := Lib.hid (HK4.out h0)
        clear HK4
        go_wp2_with fail
        refine (HK5.out _ HX4.out).mono ?_; rintro e V9 ⟨rfl, hq⟩; replace hb := chn hb hq; replace HX3 := Lib.hid (HX3.out.below hq); replace HSX := Lib.hid (HSX.out.below hq); clear hq HX4
        go_wp2_with fail
        refine (HSE.out _ HSX.out HX3.out).mono ?_; rintro e V8 ⟨rfl, hq⟩; replace hb := chn hb hq; clear hq
        go_wp2
        go_ret
        exact ⟨rfl, hb⟩
    | false =>
      have hbig2 : (32 : Int) < ((n1 + 2 : Nat) : Int) := by
        rcases Nat.lt_or_ge 32 (n1 + 2) with h3 | h3
        · omega
        · have := HBZ.out h3; cases this
      clear HBZ
      by_cases h0 : n1 = 0
      · have h0' : ((n1 : Int) == 0) = true := by rw [beq_iff_eq]; omega
        clear HK4 HX4 h0
        go_wp2_with fail
        refine (HSE.out _ HSX.out HX3.out).mono ?_; rintro e V8 ⟨rfl, hq⟩; replace hb := chn hb hq; clear hq
        go_wp2
        go_ret
        exact ⟨rfl, hb⟩
      · have h0' : ((n1 : Int) == 0) = false := by rw [beq_eq_false_iff_ne]; omega
        have HK5 := Lib.hid (HK4.out h0)
        clear HK4
        go_wp2_with fail
        refine (HK5.out _ HX4.out).mono ?_; rintro e V9 ⟨rfl, hq⟩; replace hb := chn hb hq; replace HX3 := Lib.hid (HX3.out.below hq); replace HSX := Lib.hid (HSX.out.below hq); clear hq HX4
        go_wp2_with fail
        refine (HSE.out _ HSX.out HX3.out).mono ?_; rintro e V8 ⟨rfl, hq⟩; replace hb := chn hb hq; clear hq
        go_wp2
        go_ret
        exact ⟨rfl, hb⟩
end Go.Proofs.YtobbodbkdcbflaaDoor
