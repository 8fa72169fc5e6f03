/- The walks of what looks into a layer: markAt, belowBare, hides, markOk, isDir of the program; l3Find, l3Kind, l3Bare, l3Hides, l3In of the reference. Conditions: lists and texts are no longer than any can be. -/
import Derived.Test.YtkhbkhibjflgmaaDoorTreeG
import Derived.Test.YtkhbkhibjflgmaaDoorPlF
import Derived.Test.YtkhbkhibjflgmaaDoorOps
namespace Go.Proofs.YtkhbkhibjflgmaaDoor
open Go.RowKit
def Mk.pl (m : Mk) : PM := ⟨m.p.data.toList, m.k, m.x.data.toList⟩
theorem Mk.pl_inj {e f : Mk} (h : e.pl = f.pl) : e = f := by
  obtain ⟨p, d, x⟩ := e
  obtain ⟨p', d', x'⟩ := f
  simp only [Mk.pl, PM.mk.injEq] at h
  rw [bytes_eq h.1, h.2.1, bytes_eq h.2.2]
/-- What is at a path, among marks as they lie. -/
def getM : List Mk → ByteArray → Option Mk
  | [], _ => none
  | e :: r, q => if e.p.data.toList = q.data.toList then some e else getM r q
theorem getM_pl (xs : List Mk) (q : ByteArray) : atP PM.p (xs.map Mk.pl) q.data.toList = (getM xs q).map Mk.pl := by
  induction xs with
  | nil => rfl
  | cons e r ih =>
    rw [List.map_cons, atP, getM]
    show (if e.p.data.toList = q.data.toList then some e.pl else atP PM.p (List.map Mk.pl r) q.data.toList) = _
    by_cases h : e.p.data.toList = q.data.toList
    · rw [if_pos h, if_pos h]; rfl
    · rw [if_neg h, if_neg h]; exact ih
theorem getM_skip (xs : List Mk) (q : ByteArray) (k : Nat) (e : Mk) (he : xs[k]? = some e) (h : ∀ (j : Nat) (f : Mk), j < k → xs[j]? = some f → f.p.data.toList ≠ q.data.toList) :
    getM xs q = if e.p.data.toList = q.data.toList then some e else getM (xs.drop (k + 1)) q := by
  induction xs generalizing k with
  | nil => simp at he
  | cons a r ih =>
    cases k with
    | zero => simp at he; subst he; rfl
    | succ k =>
      rw [getM, if_neg (h 0 a (by omega) rfl)]
      have := ih k (by simpa using he) (fun j f hj hf => h (j + 1) f (by omega) (by simpa using hf))
      simpa using this
theorem getM_none (xs : List Mk) (q : ByteArray) (h : ∀ (j : Nat) (f : Mk), xs[j]? = some f → f.p.data.toList ≠ q.data.toList) : getM xs q = none := by
  induction xs with
  | nil => rfl
  | cons a r ih =>
    rw [getM, if_neg (h 0 a rfl)]
    exact ih (fun j f hf => h (j + 1) f (by simpa using hf))
def findM (xs : List Mk) (q : ByteArray) : Option Nat := xs.findIdx? fun e => e.p.data.toList == q.data.toList
theorem findM_at (xs : List Mk) (q : ByteArray) (k : Nat) (e : Mk) (he : xs[k]? = some e) (h : ∀ (j : Nat) (f : Mk), j < k → xs[j]? = some f → f.p.data.toList ≠ q.data.toList) (hq : e.p.data.toList = q.data.toList) : findM xs q = some k := by
  obtain ⟨h1, h2⟩ := List.getElem?_eq_some_iff.1 he
  unfold findM
  rw [List.findIdx?_eq_some_iff_getElem]
  refine ⟨h1, by rw [h2]; simpa using hq, fun j hj => ?_⟩
  have := h j _ hj (List.getElem?_eq_getElem (by omega))
  simpa using this
theorem findM_none (xs : List Mk) (q : ByteArray) (h : ∀ (j : Nat) (f : Mk), xs[j]? = some f → f.p.data.toList ≠ q.data.toList) : findM xs q = none := by
  unfold findM
  rw [List.findIdx?_eq_none_iff]
  intro e he
  obtain ⟨j, hj⟩ := List.getElem?_of_mem he
  have := h j e hj
  simpa using this
theorem findM_get (xs : List Mk) (q : ByteArray) : getM xs q = match findM xs q with
    | some k => xs[k]?
    | none => none := by
  cases hf : findM xs q with
  | none =>
    unfold findM at hf
    rw [List.findIdx?_eq_none_iff] at hf
    exact getM_none xs q fun j f hj => by have := hf f (List.mem_of_getElem? hj); simpa using this
  | some k =>
    unfold findM at hf
    rw [List.findIdx?_eq_some_iff_getElem] at hf
    obtain ⟨h1, h2, h3⟩ := hf
    rw [getM_skip xs q k xs[k] (List.getElem?_eq_getElem h1) (fun j f hj hf => by
      obtain ⟨h4, h5⟩ := List.getElem?_eq_some_iff.1 hf
      have := h3 j hj
      rw [h5] at this
      simpa using this), if_pos (by simpa using h2)]
    exact (List.getElem?_eq_getElem h1).symm
theorem findM_lt (xs : List Mk) (q : ByteArray) (k : Nat) (h : findM xs q = some k) : ∃ e, xs[k]? = some e ∧ getM xs q = some e := by
  have hg := findM_get xs q
  rw [h] at hg
  unfold findM at h
  rw [List.findIdx?_eq_some_iff_getElem] at h
  obtain ⟨h1, _⟩ := h
  exact ⟨xs[k], List.getElem?_eq_getElem h1, by rw [hg]; exact List.getElem?_eq_getElem h1⟩
set_option maxHeartbeats 2000000 in
theorem l3Find_c (a : Option Addr) (c : Nat) (xs : List Mk) (q : ByteArray) (o : Option Nat) (ho : Hid (findM xs q = o)) (w : World) (hs : SlF Mk.cells w a xs) (hx : xs.length ≤ maxLen) :
    Calls Tryd.prog 142 #[.slice a xs.length c, .string q] w fun r w' => r = .returned (.int .i64 (findV o)) ∧ w = w' := by
  obtain ⟨n, hn⟩ : ∃ n, xs.length = n := ⟨_, rfl⟩
  rw [hn] at hx ⊢
  unfold maxLen at hx
  have HN := Lib.hid hn
  have HS := Lib.hid hs
  clear hn hs
  go_enter Tryd.func142, Tryd.ntmps142
  go_wp2
  go_loop [5] (fun i => ∃ k : Nat, k ≤ n ∧ i = .int .i64 k ∧ (∀ (j : Nat) (f : Mk), j < k → xs[j]? = some f → f.p.data.toList ≠ q.data.toList)) (fun i => n - (intOf i).toNat)
  case atStart => exact ⟨0, Nat.zero_le _, rfl, fun j _ h => absurd h (by omega)⟩
  case round =>
    obtain ⟨k, hk, rfl, hall⟩ := hrel
    have HA := Lib.hid hall
    clear hall
    by_cases hlt : k < n
    · obtain ⟨e, hee⟩ : ∃ e, xs[k]? = some e := ⟨_, List.getElem?_eq_getElem (by rw [HN.out]; exact hlt)⟩
      have h2 := HS.out
      obtain ⟨b, off, rfl, _⟩ := h2.addr (by rw [HN.out]; omega)
      obtain ⟨c0, c1, c2⟩ := mk_at h2 k e hee
      have HEE := Lib.hid hee
      clear h2 hee
      by_cases heq : e.p.data.toList = q.data.toList
      · have hq := beqs_yes heq
        obtain rfl : o = some k := by rw [← ho.out]; exact findM_at xs q k e HEE.out HA.out heq
        clear heq
        go_wp2
        go_ret
        exact ⟨rfl, rfl⟩
      · have hq := beqs_no heq
        have HQ := Lib.hid heq
        clear heq
        go_wp2
        go_round
        case rel => exact ⟨k + 1, by omega, by go_num, fun j f hj hf => by
          by_cases ej : j = k
          · subst ej
            rw [HEE.out] at hf
            injection hf with hf
            exact hf ▸ HQ.out
          · exact HA.out j f (by omega) hf⟩
        case measure => simp [intOf]; omega
    · obtain rfl : o = none := by
        rw [← ho.out]
        exact findM_none xs q (fun j f hf => HA.out j f (by have := (List.getElem?_eq_some_iff.1 hf).1; rw [HN.out] at this; omega) hf)
      go_wp2
      go_ret
      exact ⟨rfl, rfl⟩
/-- The kind of a mark at a path, or 0. -/
def kindM (xs : List Mk) (q : ByteArray) : Int := match getM xs q with
  | some m => m.k
  | none => 0
set_option maxHeartbeats 2000000 in
theorem l3Kind_c (a : Option Addr) (c : Nat) (xs : List Mk) (q : ByteArray) (r : Int) (hr : Hid (kindM xs q = r)) (w : World) (hs : SlF Mk.cells w a xs) (hx : xs.length ≤ maxLen) :
    Calls Tryd.prog 120 #[.slice a xs.length c, .string q] w fun e w' => e = .returned (.int .i64 r) ∧ w = w' := by
  obtain ⟨o, ho⟩ : ∃ o, findM xs q = o := ⟨_, rfl⟩
  have HC := Lib.hid (l3Find_c a c xs q o (Lib.hid ho) w hs hx)
  have hg := findM_get xs q
  rw [ho] at hg
  obtain ⟨n, hn⟩ : ∃ n, xs.length = n := ⟨_, rfl⟩
  rw [hn] at HC hx ⊢
  unfold maxLen at hx
  cases o with
  | none =>
    obtain rfl : r = 0 := by rw [← hr.out, kindM, hg]
    clear hg ho hn hs
    go_enter Tryd.func120, Tryd.ntmps120
    go_wp2_with fail
    refine HC.out.mono ?_; rintro e W ⟨rfl, rfl⟩
    go_wp2
    go_ret
    exact ⟨rfl, rfl⟩
  | some k =>
    obtain ⟨e, he, hge⟩ := findM_lt xs q k ho
    obtain ⟨b, off, rfl, _⟩ := hs.addr (by have := (List.getElem?_eq_some_iff.1 he).1; omega)
    obtain ⟨c0, c1, c2⟩ := mk_at hs k e he
    have hkn : k < n := by rw [← hn]; exact (List.getElem?_eq_some_iff.1 he).1
    obtain rfl : r = e.k := by rw [← hr.out, kindM, hge]
    clear hg ho hn hs he hge
    go_enter Tryd.func120, Tryd.ntmps120
    go_wp2_with fail
    refine HC.out.mono ?_; rintro q' W ⟨rfl, rfl⟩
    go_wp2
    go_ret
    exact ⟨rfl, rfl⟩
theorem upM_E (xs : List Mk) (q u : ByteArray) (hu : upL q.data.toList = u.data.toList) : upM (xs.map Mk.pl) q.data.toList = (u.data.toList == [47] || (decide (kindM xs u = 2) || decide (kindM xs u = 4))) := by
  unfold upM kindM
  rw [hu, getM_pl]
  cases getM xs u with
  | none => simp
  | some m => rfl
set_option maxHeartbeats 2000000 in
theorem l3In_c (a : Option Addr) (c : Nat) (xs : List Mk) (q : ByteArray) (r : Bool) (hr : Hid (upM (xs.map Mk.pl) q.data.toList = r)) (w : World) (hs : SlF Mk.cells w a xs) (hx : xs.length ≤ maxLen) (hq : q.size ≤ maxLen) :
    Calls Tryd.prog 82 #[.slice a xs.length c, .string q] w fun e w' => e = .returned (.bool r) ∧ Below w.heap.size w w' := by
  have hb := Below.refl w.heap.size w
  obtain ⟨u, hu, hus⟩ := up_str20 q
  obtain ⟨k, hk⟩ : ∃ k, kindM xs u = k := ⟨_, rfl⟩
  have HR : Hid (r = (u.data.toList == [47] || (decide (k = 2) || decide (k = 4)))) := by rw [Hid, ← hr.out, upM_E xs q u hu.out, hk]
  have HE := fun W (h : SlF Mk.cells W a xs) => Lib.hid (l3Kind_c a c xs u k (Lib.hid hk) W h hx)
  obtain ⟨n, hn⟩ : ∃ n, xs.length = n := ⟨_, rfl⟩
  rw [hn] at HE ⊢
  have GE := Lib.hid HE
  have HS := Lib.hid hs
  clear hk hs hx hn hr HE
  by_cases hrt : u.data.toList = [47]
  · have q2 := beq_yes hrt
    obtain rfl : r = true := by rw [HR.out, hrt]; rfl
    clear hrt
    go_enter Tryd.func82, Tryd.ntmps82
    go_wp2_with fail
    refine (sPathUp_c q u hu _ hq).mono ?_; rintro e W ⟨rfl, hq⟩; replace hb := chn hb hq; clear hq
    go_wp2_with fail
    refine (GE.out _ (HS.out.below hb)).out.mono ?_; rintro e W ⟨rfl, rfl⟩
    go_wp2
    go_ret
    exact ⟨rfl, hb⟩
  · have q2 := beq_no hrt
    have HR2 : Hid (r = (decide (k = 2) || decide (k = 4))) := by
      have e1 : (u.data.toList == [47]) = false := by simpa using hrt
      rw [Hid, HR.out, e1, Bool.false_or]
    clear hrt HR
    by_cases k2 : k = 2
    · obtain rfl : r = true := by rw [HR2.out]; simp [k2]
      subst k2
      go_enter Tryd.func82, Tryd.ntmps82
      go_wp2_with fail
      refine (sPathUp_c q u hu _ hq).mono ?_; rintro e W ⟨rfl, hq⟩; replace hb := chn hb hq; clear hq
      go_wp2_with fail
      refine (GE.out _ (HS.out.below hb)).out.mono ?_; rintro e W ⟨rfl, rfl⟩
      go_wp2
      go_ret
      exact ⟨rfl, hb⟩
    · have n2 : (k == 2) = false := by rw [beq_eq_false_iff_ne]; exact k2
      by_cases k4 : k = 4
      · obtain rfl : r = true := by rw [HR2.out]; simp [k4]
        subst k4
        clear k2
        go_enter Tryd.func82, Tryd.ntmps82
        go_wp2_with fail
        refine (sPathUp_c q u hu _ hq).mono ?_; rintro e W ⟨rfl, hq⟩; replace hb := chn hb hq; clear hq
        go_wp2_with fail
        refine (GE.out _ (HS.out.below hb)).out.mono ?_; rintro e W ⟨rfl, rfl⟩
        go_wp2
        go_ret
        exact ⟨rfl, hb⟩
      · have n4 : (k == 4) = false := by rw [beq_eq_false_iff_ne]; exact k4
        obtain rfl : r = false := by rw [HR2.out]; simp [k2, k4]
        clear k2 k4
        go_enter Tryd.func82, Tryd.ntmps82
        go_wp2_with fail
        refine (sPathUp_c q u hu _ hq).mono ?_; rintro e W ⟨rfl, hq⟩; replace hb := chn hb hq; clear hq
        go_wp2_with fail
        refine (GE.out _ (HS.out.below hb)).out.mono ?_; rintro e W ⟨rfl, rfl⟩
        go_wp2
        go_ret
        exact ⟨rfl, hb⟩
/-- What asks of the marks one by one: a mark that meets it, at place k; or none. -/
theorem any_at {xs : List Mk} {P : PM → Bool} (k : Nat) (e : Mk) (he : xs[k]? = some e) (h : P e.pl = true) : (xs.map Mk.pl).any P = true := List.any_eq_true.2 ⟨e.pl, List.mem_map.2 ⟨e, List.mem_of_getElem? he, rfl⟩, h⟩
theorem any_no {xs : List Mk} {P : PM → Bool} (h : ∀ (j : Nat) (f : Mk), xs[j]? = some f → P f.pl = false) : (xs.map Mk.pl).any P = false := by
  rw [List.any_eq_false]
  intro x hx
  obtain ⟨f, hf, rfl⟩ := List.mem_map.1 hx
  obtain ⟨j, hj⟩ := List.getElem?_of_mem hf
  rw [h j f hj]; simp
def bareP (q : Bs) (m : PM) : Bool := decide (m.k = 4) && underL q m.p
def hideP (q : Bs) (m : PM) : Bool := decide (m.k ≠ 2) && (m.p == q || underL q m.p)
set_option maxHeartbeats 4000000 in
theorem belowBare_c (a : Option Addr) (c : Nat) (xs : List Mk) (q : ByteArray) (r : Bool) (hr : Hid (bareL (xs.map Mk.pl) q.data.toList = r)) (w : World) (hs : SlF Mk.cells w a xs) (hx : xs.length ≤ maxLen) (hq : q.size ≤ 2000000) (hz : ∀ e ∈ xs, e.p.size ≤ 2000000 ∧ e.x.size ≤ 2000000) :
    Calls Tryd.prog 88 #[.slice a xs.length c, .string q] w fun e w' => e = .returned (.bool r) ∧ Below w.heap.size w w' := by
  obtain ⟨n, hn⟩ : ∃ n, xs.length = n := ⟨_, rfl⟩
  have HZ := Lib.hid hz
  rw [hn] at hx ⊢
  unfold maxLen at hx
  have HN := Lib.hid hn
  have HS := Lib.hid hs
  clear hn hs hz
  have HR : Hid ((xs.map Mk.pl).any (bareP q.data.toList) = r) := hr
  clear hr
  go_enter Tryd.func88, Tryd.ntmps88
  go_wp2
  go_loopw [6,9] (fun _ i wr => ∃ k : Nat, k ≤ n ∧ i = .int .i64 k ∧ (∀ (j : Nat) (f : Mk), j < k → xs[j]? = some f → bareP q.data.toList f.pl = false) ∧ Below w.heap.size w wr) (fun _ i _ => n - (intOf i).toNat)
  case atStart => exact ⟨0, Nat.zero_le _, rfl, fun j _ h => absurd h (by omega), Below.refl _ _⟩
  case round =>
    obtain ⟨k, hk, rfl, hall, hb⟩ := hrel
    have HA := Lib.hid hall
    clear hall
    by_cases hlt : k < n
    · obtain ⟨e, hee⟩ : ∃ e, xs[k]? = some e := ⟨_, List.getElem?_eq_getElem (by rw [HN.out]; exact hlt)⟩
      have hzz := HZ.out e (List.mem_of_getElem? hee)
      have h2 := (HS.out.below hb)
      obtain ⟨b, off, rfl, _⟩ := h2.addr (by rw [HN.out]; omega)
      obtain ⟨d0, d1, d2⟩ := mk_at h2 k e hee
      have HYES := Lib.hid (fun (h : bareP q.data.toList e.pl = true) => (HR.out.symm.trans (any_at k e hee h) : r = true))
      have HNO := Lib.hid (fun (h : bareP q.data.toList e.pl = false) => fun (j : Nat) (f : Mk) (hj : j < k + 1) (hf : xs[j]? = some f) => (by
        by_cases ej : j = k
        · subst ej
          rw [hee] at hf
          injection hf with hf
          exact hf ▸ h
        · exact HA.out j f (by omega) hf : bareP q.data.toList f.pl = false))
      obtain ⟨ep, ek, ex⟩ := e
      clear h2 hee
      have c0 := new_cell wr #[.string ep, .int .i64 ek, .string ex] 49 0 _ rfl
      have c1 := new_cell wr #[.string ep, .int .i64 ek, .string ex] 49 1 _ rfl
      have c2 := new_cell wr #[.string ep, .int .i64 ek, .string ex] 49 2 _ rfl
      replace hb := hb.alloc hb.size (.cells #[.string ep, .int .i64 ek, .string ex] 49)
      by_cases k4 : ek = 4
      · subst k4
        obtain ⟨u, hu⟩ : ∃ u, underL q.data.toList ep.data.toList = u := ⟨_, rfl⟩
        have HU := Lib.hid hu
        have HP : Hid (bareP q.data.toList (Mk.pl ⟨ep, 4, ex⟩) = u) := by rw [Hid, ← hu]; simp [bareP, Mk.pl]
        clear hu
        go_wp2_with fail
        refine (pathUnder_c q ep u HU _ hq hzz.1).mono ?_; rintro e W ⟨rfl, hq⟩; replace hb := chn hb hq; replace c0 := keepc hq c0; replace c1 := keepc hq c1; replace c2 := keepc hq c2; clear hq
        cases u with
        | true =>
          obtain rfl : r = true := HYES.out HP.out
          go_wp2
          go_ret
          exact ⟨rfl, hb⟩
        | false =>
          go_wp2
          go_roundw
          case rel => exact ⟨k + 1, by omega, by go_num, HNO.out HP.out, hb⟩
          case measure => simp [intOf]; omega
      · have n4 : (ek == 4) = false := by rw [beq_eq_false_iff_ne]; exact k4
        have HP : Hid (bareP q.data.toList (Mk.pl ⟨ep, ek, ex⟩) = false) := by simp [Hid, bareP, Mk.pl, k4]
        clear k4
        go_wp2
        go_roundw
        case rel => exact ⟨k + 1, by omega, by go_num, HNO.out HP.out, hb⟩
        case measure => simp [intOf]; omega
    · obtain rfl : r = false := by
        rw [← HR.out]
        exact any_no (fun j f hf => HA.out j f (by have := (List.getElem?_eq_some_iff.1 hf).1; rw [HN.out] at this; omega) hf)
      go_wp2
      go_ret
      exact ⟨rfl, hb⟩
set_option maxHeartbeats 4000000 in
theorem hides_c (a : Option Addr) (c : Nat) (xs : List Mk) (q : ByteArray) (r : Bool) (hr : Hid (hidesL (xs.map Mk.pl) q.data.toList = r)) (w : World) (hs : SlF Mk.cells w a xs) (hx : xs.length ≤ maxLen) (hq : q.size ≤ 2000000) (hz : ∀ e ∈ xs, e.p.size ≤ 2000000 ∧ e.x.size ≤ 2000000) :
    Calls Tryd.prog 91 #[.slice a xs.length c, .string q] w fun e w' => e = .returned (.bool r) ∧ Below w.heap.size w w' := by
  obtain ⟨n, hn⟩ : ∃ n, xs.length = n := ⟨_, rfl⟩
  have HZ := Lib.hid hz
  rw [hn] at hx ⊢
  unfold maxLen at hx
  have HN := Lib.hid hn
  have HS := Lib.hid hs
  clear hn hs hz
  have HR : Hid ((xs.map Mk.pl).any (hideP q.data.toList) = r) := hr
  clear hr
  go_enter Tryd.func91, Tryd.ntmps91
  go_wp2
  go_loopw [6,9] (fun _ i wr => ∃ k : Nat, k ≤ n ∧ i = .int .i64 k ∧ (∀ (j : Nat) (f : Mk), j < k → xs[j]? = some f → hideP q.data.toList f.pl = false) ∧ Below w.heap.size w wr) (fun _ i _ => n - (intOf i).toNat)
  case atStart => exact ⟨0, Nat.zero_le _, rfl, fun j _ h => absurd h (by omega), Below.refl _ _⟩
  case round =>
    obtain ⟨k, hk, rfl, hall, hb⟩ := hrel
    have HA := Lib.hid hall
    clear hall
    by_cases hlt : k < n
    · obtain ⟨e, hee⟩ : ∃ e, xs[k]? = some e := ⟨_, List.getElem?_eq_getElem (by rw [HN.out]; exact hlt)⟩
      have hzz := HZ.out e (List.mem_of_getElem? hee)
      have h2 := (HS.out.below hb)
      obtain ⟨b, off, rfl, _⟩ := h2.addr (by rw [HN.out]; omega)
      obtain ⟨d0, d1, d2⟩ := mk_at h2 k e hee
      have HYES := Lib.hid (fun (h : hideP q.data.toList e.pl = true) => (HR.out.symm.trans (any_at k e hee h) : r = true))
      have HNO := Lib.hid (fun (h : hideP q.data.toList e.pl = false) => fun (j : Nat) (f : Mk) (hj : j < k + 1) (hf : xs[j]? = some f) => (by
        by_cases ej : j = k
        · subst ej
          rw [hee] at hf
          injection hf with hf
          exact hf ▸ h
        · exact HA.out j f (by omega) hf : hideP q.data.toList f.pl = false))
      obtain ⟨ep, ek, ex⟩ := e
      clear h2 hee
      have c0 := new_cell wr #[.string ep, .int .i64 ek, .string ex] 49 0 _ rfl
      have c1 := new_cell wr #[.string ep, .int .i64 ek, .string ex] 49 1 _ rfl
      have c2 := new_cell wr #[.string ep, .int .i64 ek, .string ex] 49 2 _ rfl
      replace hb := hb.alloc hb.size (.cells #[.string ep, .int .i64 ek, .string ex] 49)
      by_cases k2 : ek = 2
      · have n2 : (ek != 2) = false := by simp [k2]
        have HP : Hid (hideP q.data.toList (Mk.pl ⟨ep, ek, ex⟩) = false) := by simp [Hid, hideP, Mk.pl, k2]
        clear k2
        go_wp2
        go_roundw
        case rel => exact ⟨k + 1, by omega, by go_num, HNO.out HP.out, hb⟩
        case measure => simp [intOf]; omega
      · have n2 : (ek != 2) = true := by rw [bne_iff_ne]; exact k2
        by_cases heq : ep.data.toList = q.data.toList
        · have q1 := beqs_yes heq
          have HP : Hid (hideP q.data.toList (Mk.pl ⟨ep, ek, ex⟩) = true) := by
            rw [Hid]
            show (decide (ek ≠ 2) && (ep.data.toList == q.data.toList || underL q.data.toList ep.data.toList)) = _
            rw [decide_eq_true k2, beq_iff_eq.2 heq]; rfl
          clear k2 heq
          obtain rfl : r = true := HYES.out HP.out
          go_wp2
          go_ret
          exact ⟨rfl, hb⟩
        · have q1 := beqs_no heq
          obtain ⟨u, hu⟩ : ∃ u, underL q.data.toList ep.data.toList = u := ⟨_, rfl⟩
          have HU := Lib.hid hu
          have HP : Hid (hideP q.data.toList (Mk.pl ⟨ep, ek, ex⟩) = u) := by
            rw [Hid, ← hu]
            show (decide (ek ≠ 2) && (ep.data.toList == q.data.toList || underL q.data.toList ep.data.toList)) = _
            rw [decide_eq_true k2, beq_eq_false_iff_ne.2 heq]; rfl
          clear hu k2 heq
          go_wp2_with fail
          refine (pathUnder_c q ep u HU _ hq hzz.1).mono ?_; rintro e W ⟨rfl, hq⟩; replace hb := chn hb hq; replace c0 := keepc hq c0; replace c1 := keepc hq c1; replace c2 := keepc hq c2; clear hq
          cases u with
          | true =>
            obtain rfl : r = true := HYES.out HP.out
            go_wp2
            go_ret
            exact ⟨rfl, hb⟩
          | false =>
            go_wp2
            go_roundw
            case rel => exact ⟨k + 1, by omega, by go_num, HNO.out HP.out, hb⟩
            case measure => simp [intOf]; omega
    · obtain rfl : r = false := by
        rw [← HR.out]
        exact any_no (fun j f hf => HA.out j f (by have := (List.getElem?_eq_some_iff.1 hf).1; rw [HN.out] at this; omega) hf)
      go_wp2
      go_ret
      exact ⟨rfl, hb⟩
def bareQ (q : Bs) (m : PM) : Bool := decide (m.k = 4) && l1UnderL q m.p
def hideQ (q : Bs) (m : PM) : Bool := decide (m.k ≠ 2) && (m.p == q || l1UnderL q m.p)
set_option maxHeartbeats 4000000 in
theorem l3Bare_c (a : Option Addr) (c : Nat) (xs : List Mk) (q : ByteArray) (r : Bool) (hr : Hid ((xs.map Mk.pl).any (bareQ q.data.toList) = r)) (w : World) (hs : SlF Mk.cells w a xs) (hx : xs.length ≤ maxLen) (hq : q.size ≤ 2000000) (hz : ∀ e ∈ xs, e.p.size ≤ 2000000 ∧ e.x.size ≤ 2000000) :
    Calls Tryd.prog 83 #[.slice a xs.length c, .string q] w fun e w' => e = .returned (.bool r) ∧ Below w.heap.size w w' := by
  obtain ⟨n, hn⟩ : ∃ n, xs.length = n := ⟨_, rfl⟩
  have HZ := Lib.hid hz
  rw [hn] at hx ⊢
  unfold maxLen at hx
  have HN := Lib.hid hn
  have HS := Lib.hid hs
  clear hn hs hz
  have HR : Hid ((xs.map Mk.pl).any (bareQ q.data.toList) = r) := hr
  clear hr
  go_enter Tryd.func83, Tryd.ntmps83
  go_wp2
  go_loopw [5] (fun i wr => ∃ k : Nat, k ≤ n ∧ i = .int .i64 k ∧ (∀ (j : Nat) (f : Mk), j < k → xs[j]? = some f → bareQ q.data.toList f.pl = false) ∧ Below w.heap.size w wr) (fun i _ => n - (intOf i).toNat)
  case atStart => exact ⟨0, Nat.zero_le _, rfl, fun j _ h => absurd h (by omega), Below.refl _ _⟩
  case round =>
    obtain ⟨k, hk, rfl, hall, hb⟩ := hrel
    have HA := Lib.hid hall
    clear hall
    by_cases hlt : k < n
    · obtain ⟨e, hee⟩ : ∃ e, xs[k]? = some e := ⟨_, List.getElem?_eq_getElem (by rw [HN.out]; exact hlt)⟩
      have hzz := HZ.out e (List.mem_of_getElem? hee)
      have h2 := (HS.out.below hb)
      obtain ⟨b, off, rfl, _⟩ := h2.addr (by rw [HN.out]; omega)
      obtain ⟨d0, d1, d2⟩ := mk_at h2 k e hee
      have HYES := Lib.hid (fun (h : bareQ q.data.toList e.pl = true) => (HR.out.symm.trans (any_at k e hee h) : r = true))
      have HNO := Lib.hid (fun (h : bareQ q.data.toList e.pl = false) => fun (j : Nat) (f : Mk) (hj : j < k + 1) (hf : xs[j]? = some f) => (by
        by_cases ej : j = k
        · subst ej
          rw [hee] at hf
          injection hf with hf
          exact hf ▸ h
        · exact HA.out j f (by omega) hf : bareQ q.data.toList f.pl = false))
      obtain ⟨ep, ek, ex⟩ := e
      clear h2 hee
      by_cases k4 : ek = 4
      · subst k4
        obtain ⟨u, hu⟩ : ∃ u, l1UnderL q.data.toList ep.data.toList = u := ⟨_, rfl⟩
        have HU := Lib.hid hu
        have HP : Hid (bareQ q.data.toList (Mk.pl ⟨ep, 4, ex⟩) = u) := by rw [Hid, ← hu]; simp [bareQ, Mk.pl]
        clear hu
        go_wp2_with fail
        refine (l1Under_c q ep u HU _ hq hzz.1).mono ?_; rintro e W ⟨rfl, rfl⟩
        cases u with
        | true =>
          obtain rfl : r = true := HYES.out HP.out
          go_wp2
          go_ret
          exact ⟨rfl, hb⟩
        | false =>
          go_wp2
          go_roundw
          case rel => exact ⟨k + 1, by omega, by go_num, HNO.out HP.out, hb⟩
          case measure => simp [intOf]; omega
      · have n4 : (ek == 4) = false := by rw [beq_eq_false_iff_ne]; exact k4
        have HP : Hid (bareQ q.data.toList (Mk.pl ⟨ep, ek, ex⟩) = false) := by simp [Hid, bareQ, Mk.pl, k4]
        clear k4
        go_wp2
        go_roundw
        case rel => exact ⟨k + 1, by omega, by go_num, HNO.out HP.out, hb⟩
        case measure => simp [intOf]; omega
    · obtain rfl : r = false := by
        rw [← HR.out]
        exact any_no (fun j f hf => HA.out j f (by have := (List.getElem?_eq_some_iff.1 hf).1; rw [HN.out] at this; omega) hf)
      go_wp2
      go_ret
      exact ⟨rfl, hb⟩
set_option maxHeartbeats 4000000 in
theorem l3Hides_c (a : Option Addr) (c : Nat) (xs : List Mk) (q : ByteArray) (r : Bool) (hr : Hid ((xs.map Mk.pl).any (hideQ q.data.toList) = r)) (w : World) (hs : SlF Mk.cells w a xs) (hx : xs.length ≤ maxLen) (hq : q.size ≤ 2000000) (hz : ∀ e ∈ xs, e.p.size ≤ 2000000 ∧ e.x.size ≤ 2000000) :
    Calls Tryd.prog 90 #[.slice a xs.length c, .string q] w fun e w' => e = .returned (.bool r) ∧ Below w.heap.size w w' := by
  obtain ⟨n, hn⟩ : ∃ n, xs.length = n := ⟨_, rfl⟩
  have HZ := Lib.hid hz
  rw [hn] at hx ⊢
  unfold maxLen at hx
  have HN := Lib.hid hn
  have HS := Lib.hid hs
  clear hn hs hz
  have HR : Hid ((xs.map Mk.pl).any (hideQ q.data.toList) = r) := hr
  clear hr
  go_enter Tryd.func90, Tryd.ntmps90
  go_wp2
  go_loopw [5] (fun i wr => ∃ k : Nat, k ≤ n ∧ i = .int .i64 k ∧ (∀ (j : Nat) (f : Mk), j < k → xs[j]? = some f → hideQ q.data.toList f.pl = false) ∧ Below w.heap.size w wr) (fun i _ => n - (intOf i).toNat)
  case atStart => exact ⟨0, Nat.zero_le _, rfl, fun j _ h => absurd h (by omega), Below.refl _ _⟩
  case round =>
    obtain ⟨k, hk, rfl, hall, hb⟩ := hrel
    have HA := Lib.hid hall
    clear hall
    by_cases hlt : k < n
    · obtain ⟨e, hee⟩ : ∃ e, xs[k]? = some e := ⟨_, List.getElem?_eq_getElem (by rw [HN.out]; exact hlt)⟩
      have hzz := HZ.out e (List.mem_of_getElem? hee)
      have h2 := (HS.out.below hb)
      obtain ⟨b, off, rfl, _⟩ := h2.addr (by rw [HN.out]; omega)
      obtain ⟨d0, d1, d2⟩ := mk_at h2 k e hee
      have HYES := Lib.hid (fun (h : hideQ q.data.toList e.pl = true) => (HR.out.symm.trans (any_at k e hee h) : r = true))
      have HNO := Lib.hid (fun (h : hideQ q.data.toList e.pl = false) => fun (j : Nat) (f : Mk) (hj : j < k + 1) (hf : xs[j]? = some f) => (by
        by_cases ej : j = k
        · subst ej
          rw [hee] at hf
          injection hf with hf
          exact hf ▸ h
        · exact HA.out j f (by omega) hf : hideQ q.data.toList f.pl = false))
      obtain ⟨ep, ek, ex⟩ := e
      clear h2 hee
      by_cases k2 : ek = 2
      · have n2 : (ek != 2) = false := by simp [k2]
        have HP : Hid (hideQ q.data.toList (Mk.pl ⟨ep, ek, ex⟩) = false) := by simp [Hid, hideQ, Mk.pl, k2]
        clear k2
        by_cases heq : ep.data.toList = q.data.toList
        · have q1 := beqs_yes heq
          clear heq
          go_wp2
          go_roundw
          case rel => exact ⟨k + 1, by omega, by go_num, HNO.out HP.out, hb⟩
          case measure => simp [intOf]; omega
        · have q1 := beqs_no heq
          clear heq
          go_wp2
          go_roundw
          case rel => exact ⟨k + 1, by omega, by go_num, HNO.out HP.out, hb⟩
          case measure => simp [intOf]; omega
      · have n2 : (ek != 2) = true := by rw [bne_iff_ne]; exact k2
        by_cases heq : ep.data.toList = q.data.toList
        · have q1 := beqs_yes heq
          have HP : Hid (hideQ q.data.toList (Mk.pl ⟨ep, ek, ex⟩) = true) := by
            rw [Hid]
            show (decide (ek ≠ 2) && (ep.data.toList == q.data.toList || l1UnderL q.data.toList ep.data.toList)) = _
            rw [decide_eq_true k2, beq_iff_eq.2 heq]; rfl
          clear k2 heq
          obtain rfl : r = true := HYES.out HP.out
          go_wp2
          go_ret
          exact ⟨rfl, hb⟩
        · have q1 := beqs_no heq
          obtain ⟨u, hu⟩ : ∃ u, l1UnderL q.data.toList ep.data.toList = u := ⟨_, rfl⟩
          have HU := Lib.hid hu
          have HP : Hid (hideQ q.data.toList (Mk.pl ⟨ep, ek, ex⟩) = u) := by
            rw [Hid, ← hu]
            show (decide (ek ≠ 2) && (ep.data.toList == q.data.toList || l1UnderL q.data.toList ep.data.toList)) = _
            rw [decide_eq_true k2, beq_eq_false_iff_ne.2 heq]; rfl
          clear hu k2 heq
          go_wp2_with fail
          refine (l1Under_c q ep u HU _ hq hzz.1).mono ?_; rintro e W ⟨rfl, rfl⟩
          cases u with
          | true =>
            obtain rfl : r = true := HYES.out HP.out
            go_wp2
            go_ret
            exact ⟨rfl, hb⟩
          | false =>
            go_wp2
            go_roundw
            case rel => exact ⟨k + 1, by omega, by go_num, HNO.out HP.out, hb⟩
            case measure => simp [intOf]; omega
    · obtain rfl : r = false := by
        rw [← HR.out]
        exact any_no (fun j f hf => HA.out j f (by have := (List.getElem?_eq_some_iff.1 hf).1; rw [HN.out] at this; omega) hf)
      go_wp2
      go_ret
      exact ⟨rfl, hb⟩
theorem under_l1 {s d : Bs} (hs : pathOkL s = true) (hd : pathOkL d = true) : underL s d = l1UnderL s d := by rw [under_eq, hs, hd]; simp
theorem bareQ_eq {l : List PM} {q : Bs} (hq : pathOkL q = true) (hl : ∀ m ∈ l, pathOkL m.p = true) : l.any (bareQ q) = bareL l q := by
  unfold bareL
  rw [Bool.eq_iff_iff, List.any_eq_true, List.any_eq_true]
  constructor
  · rintro ⟨m, hm, h⟩; exact ⟨m, hm, by unfold bareQ at h; rw [under_l1 hq (hl m hm)]; exact h⟩
  · rintro ⟨m, hm, h⟩; exact ⟨m, hm, by unfold bareQ; rw [← under_l1 hq (hl m hm)]; exact h⟩
theorem hideQ_eq {l : List PM} {q : Bs} (hq : pathOkL q = true) (hl : ∀ m ∈ l, pathOkL m.p = true) : l.any (hideQ q) = hidesL l q := by
  unfold hidesL
  rw [Bool.eq_iff_iff, List.any_eq_true, List.any_eq_true]
  constructor
  · rintro ⟨m, hm, h⟩; exact ⟨m, hm, by unfold hideQ at h; rw [under_l1 hq (hl m hm)]; exact h⟩
  · rintro ⟨m, hm, h⟩; exact ⟨m, hm, by unfold hideQ; rw [← under_l1 hq (hl m hm)]; exact h⟩
set_option maxHeartbeats 2000000 in
theorem isDir_c (m : Mk) (r : Bool) (hr : Hid (dirM m.pl = r)) (w : World) :
    Calls Tryd.prog 87 #[m.val] w fun e w' => e = .returned (.bool r) ∧ Below w.heap.size w w' := by
  obtain ⟨p, k, x⟩ := m
  have hb := bellow_alloc w (.cells #[.string p, .int .i64 k, .string x] 49)
  by_cases k2 : k = 2
  · obtain rfl : r = true := by rw [← hr.out]; simp [dirM, Mk.pl, k2]
    subst k2
    go_enter Tryd.func87, Tryd.ntmps87
    go_wp2
    go_ret
    exact ⟨rfl, hb⟩
  · have n2 : (k == 2) = false := by rw [beq_eq_false_iff_ne]; exact k2
    by_cases k4 : k = 4
    · obtain rfl : r = true := by rw [← hr.out]; simp [dirM, Mk.pl, k4]
      subst k4
      clear k2
      go_enter Tryd.func87, Tryd.ntmps87
      go_wp2
      go_ret
      exact ⟨rfl, hb⟩
    · have n4 : (k == 4) = false := by rw [beq_eq_false_iff_ne]; exact k4
      obtain rfl : r = false := by rw [← hr.out]; simp [dirM, Mk.pl, k2, k4]
      clear k2 k4 hr
      go_enter Tryd.func87, Tryd.ntmps87
      go_wp2
      go_ret
      exact ⟨rfl, hb⟩
set_option maxHeartbeats 4000000 in
theorem markOk_c (m : Mk) (r : Bool) (hr : Hid (markOkL m.pl = r)) (w : World) (hp : m.p.size ≤ maxLen) (hx : m.x.size ≤ maxLen) :
    Calls Tryd.prog 85 #[m.val] w fun e w' => e = .returned (.bool r) ∧ Below w.heap.size w w' := by
  obtain ⟨p, k, x⟩ := m
  have hb := bellow_alloc w (.cells #[.string p, .int .i64 k, .string x] 49)
  have c0 := new_cell w #[.string p, .int .i64 k, .string x] 49 0 _ rfl
  have c1 := new_cell w #[.string p, .int .i64 k, .string x] 49 1 _ rfl
  have c2 := new_cell w #[.string p, .int .i64 k, .string x] 49 2 _ rfl
  have HR : Hid (r = (decide (1 ≤ k) && decide (k ≤ 4) && pathOkL p.data.toList && dataOkL x.data.toList && (decide (k = 1) || x.data.toList == []))) := by rw [Hid, ← hr.out]; rfl
  clear hr
  by_cases klo : k < 1
  · obtain rfl : r = false := by rw [HR.out, decide_eq_false (p := 1 ≤ k) (by omega)]; rfl
    go_enter Tryd.func85, Tryd.ntmps85
    go_wp2
    go_ret
    exact ⟨rfl, hb⟩
  by_cases khi : 4 < k
  · obtain rfl : r = false := by rw [HR.out, decide_eq_false (p := k ≤ 4) (by omega), Bool.and_false]; rfl
    go_enter Tryd.func85, Tryd.ntmps85
    go_wp2
    go_ret
    exact ⟨rfl, hb⟩
  have HR2 : Hid (r = (pathOkL p.data.toList && dataOkL x.data.toList && (decide (k = 1) || x.data.toList == []))) := by rw [Hid, HR.out, decide_eq_true (p := 1 ≤ k) (by omega), decide_eq_true (p := k ≤ 4) (by omega)]; rfl
  clear HR
  obtain ⟨u, hu⟩ : ∃ u, pathOkL p.data.toList = u := ⟨_, rfl⟩
  have HU := Lib.hid hu
  have h4 : decide (4 < k) = false := by simp; omega
  cases u with
  | false =>
    obtain rfl : r = false := by rw [HR2.out, hu]; rfl
    clear hu
    go_enter Tryd.func85, Tryd.ntmps85
    go_wp2_with fail
    refine (pathOk_c p false HU _ hp).mono ?_; rintro e W ⟨rfl, hq⟩; replace hb := chn hb hq; clear hq
    go_wp2
    go_ret
    exact ⟨rfl, hb⟩
  | true =>
    have HR3 : Hid (r = (dataOkL x.data.toList && (decide (k = 1) || x.data.toList == []))) := by rw [Hid, HR2.out, hu, Bool.true_and]
    clear hu HR2
    by_cases k1 : k = 1
    · subst k1
      have HD : Hid (dataOkL x.data.toList = r) := by rw [Hid, HR3.out]; simp
      clear HR3 h4 klo khi
      go_enter Tryd.func85, Tryd.ntmps85
      go_wp2_with fail
      refine (pathOk_c p true HU _ hp).mono ?_; rintro e W ⟨rfl, hq⟩; replace hb := chn hb hq; replace c0 := keepc hq c0; replace c1 := keepc hq c1; replace c2 := keepc hq c2; clear hq
      go_wp2_with fail
      refine (dataOk_c x r HD _ hx).mono ?_; rintro e W ⟨rfl, rfl⟩
      go_wp2
      go_ret
      exact ⟨rfl, hb⟩
    · have n1 : (k != 1) = true := by rw [bne_iff_ne]; exact k1
      by_cases hx0 : x.data.toList = []
      · have q1 := isE_yes hx0
        obtain rfl : r = true := by rw [HR3.out, hx0]; simp; decide
        clear hx0 k1 HR3
        go_enter Tryd.func85, Tryd.ntmps85
        go_wp2_with fail
        refine (pathOk_c p true HU _ hp).mono ?_; rintro e W ⟨rfl, hq⟩; replace hb := chn hb hq; replace c0 := keepc hq c0; replace c1 := keepc hq c1; replace c2 := keepc hq c2; clear hq
        go_wp2
        go_ret
        exact ⟨rfl, hb⟩
      · have q1 := isE_no hx0
        obtain rfl : r = false := by rw [HR3.out, beqE_no hx0, decide_eq_false k1]; simp
        clear hx0 k1 HR3
        go_enter Tryd.func85, Tryd.ntmps85
        go_wp2_with fail
        refine (pathOk_c p true HU _ hp).mono ?_; rintro e W ⟨rfl, hq⟩; replace hb := chn hb hq; replace c0 := keepc hq c0; replace c1 := keepc hq c1; replace c2 := keepc hq c2; clear hq
        go_wp2
        go_ret
        exact ⟨rfl, hb⟩
end Go.Proofs.YtkhbkhibjflgmaaDoor
