/- The walks of what draws texts: of, l1Path, l1Text. Conditions: fewer than a million bytes have been picked. -/
import Derived.Test.YtacmebjlbghloaaDoorRd
namespace Go.Proofs.YtacmebjlbghloaaDoor
open Go.RowKit
/-- A short text. -/
def smallStr (v : Value) : Bool := match v with | .string s => decide (s.size ≤ 20) | _ => false
/-- What a drawing of a text leaves. -/
def StrPost (w : World) (g p q : Nat) (e : Ending) (w' : World) : Prop :=
  ∃ (s : ByteArray) (p' : Nat), e = .returned (.string s) ∧ s.size ≤ 20 ∧ p' ≤ p + q ∧ Rd w' g p' ∧ Only g w w'
theorem small_at {cs : Array Value} (h : cs.toList.all smallStr = true) {k : Nat} (hk : k < cs.size) : ∃ s : ByteArray, cs[k]? = some (.string s) ∧ s.size ≤ 20 := by
  have h1 := List.all_eq_true.1 h cs[k] (by simp)
  have h2 : cs[k]? = some cs[k] := Array.getElem?_eq_getElem hk
  cases hv : cs[k] with
  | string s => exact ⟨s, by rw [h2, hv], by rw [hv] at h1; simpa [smallStr] using h1⟩
  | _ => rw [hv] at h1; simp [smallStr] at h1
set_option maxHeartbeats 1000000 in
theorem of_c (w : World) (g p b n : Nat) (cs : Array Value) (t : TypeId) (hr : Rd w g p) (hp : p ≤ 1000000) (hb : w.heap[b]? = some (.cells cs t (0, 0))) (hbg : b ≠ g) (hn : cs.size = n) (h0 : 0 < n) (hn1 : n ≤ 1000) (hs : cs.toList.all smallStr = true) :
    Calls Tryd.prog 54 #[.pointer (some ⟨g, 0, none⟩), .slice (some ⟨b, 0, none⟩) n n] w (StrPost w g p 1) := by
  have hbl : b < w.heap.size := by
    rcases Nat.lt_or_ge b w.heap.size with h | h
    · exact h
    · rw [Array.getElem?_eq_none h] at hb; cases hb
  have HP := Lib.hid (pick_c w g p (n : Int) hr hp (by omega) (by omega))
  have HC : Hid (∀ w1 (m : Nat), Only g w w1 → m < n → ∃ s : ByteArray, w1.cell? ⟨b, m, none⟩ = some (.string s) ∧ s.size ≤ 20) := fun w1 m ho hm => by
    obtain ⟨s, h1, h2⟩ := small_at hs (k := m) (by omega)
    refine ⟨s, ?_, h2⟩
    rw [cell_of_row w1 b m cs t (0, 0) ((ho.block b hbl (by simpa using hbg)).trans hb)]
    exact h1
  clear hb hs hn hbg hr
  go_enter Tryd.func54, Tryd.ntmps54
  go_wp2_with fail
  refine HP.out.mono ?_
  rintro e w1 ⟨m, rfl, _, hm, hrd, ho⟩
  have hm' : m < n := by have := hm (by omega); omega
  obtain ⟨s, hc, hsz⟩ := HC.out w1 m ho hm'
  clear hm
  go_wp2
  go_ret
  exact ⟨s, p + 1, rfl, hsz, Nat.le_refl _, hrd, ho⟩
theorem Rd.alloc {w : World} {g p : Nat} (h : Rd w g p) (o : Obj) : Rd (w.alloc o) g p := h.keep (bellow_alloc w o) h.lt
theorem Only.alloc {g : Nat} {a b : World} (h : Only g a b) (o : Obj) : Only g a (b.alloc o) := h.trans (Only.of_below (bellow_alloc b o))
set_option maxHeartbeats 1000000 in
theorem l1Path_c (w : World) (g p : Nat) (hr : Rd w g p) (hp : p ≤ 1000000) :
    Calls Tryd.prog 58 #[.pointer (some ⟨g, 0, none⟩)] w (StrPost w g p 1) := by
  have hg := hr.lt
  have HO := Lib.hid (fun (cs : Array Value) (n : Nat) (hn : Hid (cs.size = n)) h0 h1 hs => of_c (w.alloc (.cells cs 9)) g p w.heap.size n cs 9 (hr.alloc _) hp (heap_alloc_new w _) (by omega) hn.out h0 h1 hs)
  clear hr
  go_enter Tryd.func58, Tryd.ntmps58
  go_wp2_with fail
  refine (HO.out _ _ (by exact Lib.hid rfl) (by decide) (by decide) (by rfl)).mono ?_
  rintro e w1 ⟨s, p', rfl, hs, hp', hrd, ho⟩
  go_wp2
  go_ret
  exact ⟨s, p', rfl, hs, hp', hrd, ((Only.refl g w).alloc _).trans ho⟩
set_option maxHeartbeats 1000000 in
theorem l1Text_c (w : World) (g p : Nat) (hr : Rd w g p) (hp : p ≤ 900000) :
    Calls Tryd.prog 51 #[.pointer (some ⟨g, 0, none⟩)] w (StrPost w g p 2) := by
  have hg := hr.lt
  have HP := Lib.hid (pick_c w g p 4 hr (by omega) (by omega) (by omega))
  clear hr
  go_enter Tryd.func51, Tryd.ntmps51
  go_wp2_with fail
  refine HP.out.mono ?_
  rintro e w1 ⟨m, rfl, _, _, hrd, ho⟩
  by_cases hm : 0 < m
  · have HL := Lib.hid (l1Path_c w1 g (p + 1) hrd (by omega))
    clear hrd
    go_wp2_with fail
    refine HL.out.mono ?_
    rintro e w2 ⟨s, p', rfl, hs, hp', hrd2, ho2⟩
    go_wp2
    go_ret
    exact ⟨s, p', rfl, hs, by omega, hrd2, ho.trans ho2⟩
  · have hg1 := hrd.lt
    have HO := Lib.hid (fun (cs : Array Value) (n : Nat) (hn : Hid (cs.size = n)) h0 h1 hs => of_c (w1.alloc (.cells cs 9)) g (p + 1) w1.heap.size n cs 9 (hrd.alloc _) (by omega) (heap_alloc_new w1 _) (by omega) hn.out h0 h1 hs)
    clear hrd
    go_wp2_with fail
    refine (HO.out _ _ (by exact Lib.hid rfl) (by decide) (by decide) (by rfl)).mono ?_
    rintro e w2 ⟨s, p', rfl, hs, hp', hrd2, ho2⟩
    go_wp2
    go_ret
    exact ⟨s, p', rfl, hs, by omega, hrd2, (ho.alloc _).trans ho2⟩
end Go.Proofs.YtacmebjlbghloaaDoor
