/- The walks of what looks into a layer: markAt, belowBare, hides, markOk, isDir of the program; l3Find, l3Kind, l3Bare, l3Hides, l3In of the reference. The walks of l2Kids and of TreeList of both. The walks of the reference's l2Up, l2New, l2PutCode, l2OffCode, l2MoveCode, l2Code: how something ends that is done to a right tree. The walks of the reference's l2MoveCode and l2Code. What calls tell that make lists of entries or of marks. The walks of the reference's l2Off, l2Move, l2Do, TreeDo. The walk of the reference's TreeDo. What draws trees: shapes and small laws; the walks of num, l2Some. What draws what is done to a tree: the walk of l2Op. What draws trees: the walks of l2Tree and l2Bent. Conditions: each theorem's own. -/
import Derived.Test.YtobbodbkdcbflabDoorB2
import Derived.Test.YtobbodbkdcbflabDoorB3
import Derived.Test.YtobbodbkdcbflabDoorB1
import Derived.Deep.DeepCutAuto
import Derived.Laws.BytesArg
namespace Go.Proofs.YtobbodbkdcbflabDoor
open Go.RowKit
def Mk.pl (m : Mk) : PM := ⟨m.p.data.toList, m.k, m.x.data.toList⟩
theorem Mk.pl_inj {e f : Mk} (h : e.pl = f.pl) : e = f := by
  obtain ⟨p, d, x⟩ := e
  obtain ⟨p', d', x'⟩ := f
  simp only [Mk.pl, PM.mk.injEq] at h
  rw [bytes_eq h.1, h.2.1, bytes_eq h.2.2]
/-- What is at a path, among marks as they lie. -/
def getM : List Mk → ByteArray → Option Mk
  | [], _ => none
  | e :: r, q => if e.p.data.toList = q.data.toList then some e else getM r q
theorem getM_pl (xs : List Mk) (q : ByteArray) : atP PM.p (xs.map Mk.pl) q.data.toList = (getM xs q).map Mk.pl := by
  induction xs with
  | nil => rfl
  | cons e r ih =>
    rw [List.map_cons, atP, getM]
    show (if e.p.data.toList = q.data.toList then some e.pl else atP PM.p (List.map Mk.pl r) q.data.toList) = _
    by_cases h : e.p.data.toList = q.data.toList
    · rw [if_pos h, if_pos h]; rfl
    · rw [if_neg h, if_neg h]; exact ih
theorem getM_skip (xs : List Mk) (q : ByteArray) (k : Nat) (e : Mk) (he : xs[k]? = some e) (h : ∀ (j : Nat) (f : Mk), j < k → xs[j]? = some f → f.p.data.toList ≠ q.data.toList) :
    getM xs q = if e.p.data.toList = q.data.toList then some e else getM (xs.drop (k + 1)) q := by
  induction xs generalizing k with
  | nil => simp at he
  | cons a r ih =>
    cases k with
    | zero => simp at he; subst he; rfl
    | succ k =>
      rw [getM, if_neg (h 0 a (by omega) rfl)]
      have := ih k (by simpa using he) (fun j f hj hf => h (j + 1) f (by omega) (by simpa using hf))
      simpa using this
theorem getM_none (xs : List Mk) (q : ByteArray) (h : ∀ (j : Nat) (f : Mk), xs[j]? = some f → f.p.data.toList ≠ q.data.toList) : getM xs q = none := by
  induction xs with
  | nil => rfl
  | cons a r ih =>
    rw [getM, if_neg (h 0 a rfl)]
    exact ih (fun j f hf => h (j + 1) f (by simpa using hf))
def findM (xs : List Mk) (q : ByteArray) : Option Nat := xs.findIdx? fun e => e.p.data.toList == q.data.toList
theorem findM_at (xs : List Mk) (q : ByteArray) (k : Nat) (e : Mk) (he : xs[k]? = some e) (h : ∀ (j : Nat) (f : Mk), j < k → xs[j]? = some f → f.p.data.toList ≠ q.data.toList) (hq : e.p.data.toList = q.data.toList) : findM xs q = some k := by
  obtain ⟨h1, h2⟩ := List.getElem?_eq_some_iff.1 he
  unfold findM
  rw [List.findIdx?_eq_some_iff_getElem]
  refine ⟨h1, by rw [h2]; simpa using hq, fun j hj => ?_⟩
  have := h j _ hj (List.getElem?_eq_getElem (by omega))
  simpa using this
theorem findM_none (xs : List Mk) (q : ByteArray) (h : ∀ (j : Nat) (f : Mk), xs[j]? = some f → f.p.data.toList ≠ q.data.toList) : findM xs q = none := by
  unfold findM
  rw [List.findIdx?_eq_none_iff]
  intro e he
  obtain ⟨j, hj⟩ := List.getElem?_of_mem he
  have := h j e hj
  simpa using this
theorem findM_get (xs : List Mk) (q : ByteArray) : getM xs q = match findM xs q with
    | some k => xs[k]?
    | none => none := by
  cases hf : findM xs q with
  | none =>
    unfold findM at hf
    rw [List.findIdx?_eq_none_iff] at hf
    exact getM_none xs q fun j f hj => by have := hf f (List.mem_of_getElem? hj); simpa using this
  | some k =>
    unfold findM at hf
    rw [List.findIdx?_eq_some_iff_getElem] at hf
    obtain ⟨h1, h2, h3⟩ := hf
    rw [getM_skip xs q k xs[k] (List.getElem?_eq_getElem h1) (fun j f hj hf => by
      obtain ⟨h4, h5⟩ := List.getElem?_eq_some_iff.1 hf
      have := h3 j hj
      rw [h5] at this
      simpa using this), if_pos (by simpa using h2)]
    exact (List.getElem?_eq_getElem h1).symm
theorem findM_lt (xs : List Mk) (q : ByteArray) (k : Nat) (h : findM xs q = some k) : ∃ e, xs[k]? = some e ∧ getM xs q = some e := by
  have hg := findM_get xs q
  rw [h] at hg
  unfold findM at h
  rw [List.findIdx?_eq_some_iff_getElem] at h
  obtain ⟨h1, _⟩ := h
  exact ⟨xs[k], List.getElem?_eq_getElem h1, by rw [hg]; exact List.getElem?_eq_getElem h1⟩
set_option maxHeartbeats 2000000 in
theorem l3Find_c (a : Option Addr) (c : Nat) (xs : List Mk) (q : ByteArray) (o : Option Nat) (ho : Hid (findM xs q = o)) (w : World) (hs : SlF Mk.cells w a xs) (hx : xs.length ≤ maxLen) :
    Calls Tryd.prog 86 #[.slice a xs.length c, .string q] w fun r w' => r = .returned (.int .i64 (findV o)) ∧ w = w' := by
  obtain ⟨n, hn⟩ : ∃ n, xs.length = n := ⟨_, rfl⟩
  rw [hn] at hx ⊢
  unfold maxLen at hx
  have HN := Lib.hid hn
  have HS := Lib.hid hs
  clear hn hs
  go_enter Tryd.func86, Tryd.ntmps86
  go_wp2
  go_loop [5] (fun i => ∃ k : Nat, k ≤ n ∧ i = .int .i64 k ∧ (∀ (j : Nat) (f : Mk), j < k → xs[j]? = some f → f.p.data.toList ≠ q.data.toList)) (fun i => n - (intOf i).toNat)
  case atStart => exact ⟨0, Nat.zero_le _, rfl, fun j _ h => absurd h (by omega)⟩
  case round =>
    obtain ⟨k, hk, rfl, hall⟩ := hrel
    have HA := Lib.hid hall
    clear hall
    by_cases hlt : k < n
    · obtain ⟨e, hee⟩ : ∃ e, xs[k]? = some e := ⟨_, List.getElem?_eq_getElem (by rw [HN.out]; exact hlt)⟩
      have h2 := HS.out
      obtain ⟨b, off, rfl, _⟩ := h2.addr (by rw [HN.out]; omega)
      obtain ⟨c0, c1, c2⟩ := mk_at h2 k e hee
      have HEE := Lib.hid hee
      clear h2 hee
      by_cases heq : e.p.data.toList = q.data.toList
      · have hq := beqs_yes heq
        obtain rfl : o = some k := by rw [← ho.out]; exact findM_at xs q k e HEE.out HA.out heq
        clear heq
        go_wp2
        go_ret
        exact ⟨rfl, rfl⟩
      · have hq := beqs_no heq
        have HQ := Lib.hid heq
        clear heq
        go_wp2
        go_round
        case rel => exact ⟨k + 1, by omega, by go_num, fun j f hj hf => by
          by_cases ej : j = k
          · subst ej
            rw [HEE.out] at hf
            injection hf with hf
            exact hf ▸ HQ.out
          · exact HA.out j f (by omega) hf⟩
        case measure => simp [intOf]; omega
    · obtain rfl : o = none := by
        rw [← ho.out]
        exact findM_none xs q (fun j f hf => HA.out j f (by have := (List.getElem?_eq_some_iff.1 hf).1; rw [HN.out] at this; omega) hf)
      go_wp2
      go_ret
      exact ⟨rfl, rfl⟩
/-- The kind of a mark at a path, or 0. -/
def kindM (xs : List Mk) (q : ByteArray) : Int := match getM xs q with
  | some m => m.k
  | none => 0
set_option maxHeartbeats 2000000 in
theorem l3Kind_c (a : Option Addr) (c : Nat) (xs : List Mk) (q : ByteArray) (r : Int) (hr : Hid (kindM xs q = r)) (w : World) (hs : SlF Mk.cells w a xs) (hx : xs.length ≤ maxLen) :
    Calls Tryd.prog 70 #[.slice a xs.length c, .string q] w fun e w' => e = .returned (.int .i64 r) ∧ w = w' := by
  obtain ⟨o, ho⟩ : ∃ o, findM xs q = o := ⟨_, rfl⟩
  have HC := Lib.hid (l3Find_c a c xs q o (Lib.hid ho) w hs hx)
  have hg := findM_get xs q
  rw [ho] at hg
  obtain ⟨n, hn⟩ : ∃ n, xs.length = n := ⟨_, rfl⟩
  rw [hn] at HC hx ⊢
  unfold maxLen at hx
  cases o with
  | none =>
    obtain rfl : r = 0 := by rw [← hr.out, kindM, hg]
    clear hg ho hn hs
    go_enter Tryd.func70, Tryd.ntmps70
    go_wp2_with fail
    refine HC.out.mono ?_; rintro e W ⟨rfl, rfl⟩
    go_wp2
    go_ret
    exact ⟨rfl, rfl⟩
  | some k =>
    obtain ⟨e, he, hge⟩ := findM_lt xs q k ho
    obtain ⟨b, off, rfl, _⟩ := hs.addr (by have := (List.getElem?_eq_some_iff.1 he).1; omega)
    obtain ⟨c0, c1, c2⟩ := mk_at hs k e he
    have hkn : k < n := by rw [← hn]; exact (List.getElem?_eq_some_iff.1 he).1
    obtain rfl : r = e.k := by rw [← hr.out, kindM, hge]
    clear hg ho hn hs he hge
    go_enter Tryd.func70, Tryd.ntmps70
    go_wp2_with fail
    refine HC.out.mono ?_; rintro q' W ⟨rfl, rfl⟩
    go_wp2
    go_ret
    exact ⟨rfl, rfl⟩
theorem upM_E (xs : List Mk) (q u : ByteArray) (hu : upL q.data.toList = u.data.toList) : upM (xs.map Mk.pl) q.data.toList = (u.data.toList == [47] || (decide (kindM xs u = 2) || decide (kindM xs u = 4))) := by
  unfold upM kindM
  rw [hu, getM_pl]
  cases getM xs u with
  | none => simp
  | some m => rfl
set_option maxHeartbeats 2000000 in
theorem l3In_c (a : Option Addr) (c : Nat) (xs : List Mk) (q : ByteArray) (r : Bool) (hr : Hid (upM (xs.map Mk.pl) q.data.toList = r)) (w : World) (hs : SlF Mk.cells w a xs) (hx : xs.length ≤ maxLen) (hq : q.size ≤ maxLen) :
    Calls Tryd.prog 39 #[.slice a xs.length c, .string q] w fun e w' => e = .returned (.bool r) ∧ Below w.heap.size w w' := by
  have hb := Below.refl w.heap.size w
  obtain ⟨u, hu, hus⟩ := up_str20 q
  obtain ⟨k, hk⟩ : ∃ k, kindM xs u = k := ⟨_, rfl⟩
  have HR : Hid (r = (u.data.toList == [47] || (decide (k = 2) || decide (k = 4)))) := by rw [Hid, ← hr.out, upM_E xs q u hu.out, hk]
  have HE := fun W (h : SlF Mk.cells W a xs) => Lib.hid (l3Kind_c a c xs u k (Lib.hid hk) W h hx)
  obtain ⟨n, hn⟩ : ∃ n, xs.length = n := ⟨_, rfl⟩
  rw [hn] at HE ⊢
  have GE := Lib.hid HE
  have HS := Lib.hid hs
  clear hk hs hx hn hr HE
  by_cases hrt : u.data.toList = [47]
  · have q2 := beq_yes hrt
    obtain rfl : r = true := by rw [HR.out, hrt]; rfl
    clear hrt
    go_enter Tryd.func39, Tryd.ntmps39
    go_wp2_with fail
    refine (sPathUp_c q u hu _ hq).mono ?_; rintro e W ⟨rfl, hq⟩; replace hb := chn hb hq; clear hq
    go_wp2_with fail
    refine (GE.out _ (HS.out.below hb)).out.mono ?_; rintro e W ⟨rfl, rfl⟩
    go_wp2
    go_ret
    exact ⟨rfl, hb⟩
  · have q2 := beq_no hrt
    have HR2 : Hid (r = (decide (k = 2) || decide (k = 4))) := by
      have e1 : (u.data.toList == [47]) = false := by simpa using hrt
      rw [Hid, HR.out, e1, Bool.false_or]
    clear hrt HR
    by_cases k2 : k = 2
    · obtain rfl : r = true := by rw [HR2.out]; simp [k2]
      subst k2
      go_enter Tryd.func39, Tryd.ntmps39
      go_wp2_with fail
      refine (sPathUp_c q u hu _ hq).mono ?_; rintro e W ⟨rfl, hq⟩; replace hb := chn hb hq; clear hq
      go_wp2_with fail
      refine (GE.out _ (HS.out.below hb)).out.mono ?_; rintro e W ⟨rfl, rfl⟩
      go_wp2
      go_ret
      exact ⟨rfl, hb⟩
    · have n2 : (k == 2) = false := by rw [beq_eq_false_iff_ne]; exact k2
      by_cases k4 : k = 4
      · obtain rfl : r = true := by rw [HR2.out]; simp [k4]
        subst k4
        clear k2
        go_enter Tryd.func39, Tryd.ntmps39
        go_wp2_with fail
        refine (sPathUp_c q u hu _ hq).mono ?_; rintro e W ⟨rfl, hq⟩; replace hb := chn hb hq; clear hq
        go_wp2_with fail
        refine (GE.out _ (HS.out.below hb)).out.mono ?_; rintro e W ⟨rfl, rfl⟩
        go_wp2
        go_ret
        exact ⟨rfl, hb⟩
      · have n4 : (k == 4) = false := by rw [beq_eq_false_iff_ne]; exact k4
        obtain rfl : r = false := by rw [HR2.out]; simp [k2, k4]
        clear k2 k4
        go_enter Tryd.func39, Tryd.ntmps39
        go_wp2_with fail
        refine (sPathUp_c q u hu _ hq).mono ?_; rintro e W ⟨rfl, hq⟩; replace hb := chn hb hq; clear hq
        go_wp2_with fail
        refine (GE.out _ (HS.out.below hb)).out.mono ?_; rintro e W ⟨rfl, rfl⟩
        go_wp2
        go_ret
        exact ⟨rfl, hb⟩
/-- What asks of the marks one by one: a mark that meets it, at place k; or none. -/
theorem any_at {xs : List Mk} {P : PM → Bool} (k : Nat) (e : Mk) (he : xs[k]? = some e) (h : P e.pl = true) : (xs.map Mk.pl).any P = true := List.any_eq_true.2 ⟨e.pl, List.mem_map.2 ⟨e, List.mem_of_getElem? he, rfl⟩, h⟩
theorem any_no {xs : List Mk} {P : PM → Bool} (h : ∀ (j : Nat) (f : Mk), xs[j]? = some f → P f.pl = false) : (xs.map Mk.pl).any P = false := by
  rw [List.any_eq_false]
  intro x hx
  obtain ⟨f, hf, rfl⟩ := List.mem_map.1 hx
  obtain ⟨j, hj⟩ := List.getElem?_of_mem hf
  rw [h j f hj]; simp
def bareP (q : Bs) (m : PM) : Bool := decide (m.k = 4) && underL q m.p
def hideP (q : Bs) (m : PM) : Bool := decide (m.k ≠ 2) && (m.p == q || underL q m.p)
set_option maxHeartbeats 4000000 in
theorem belowBare_c (a : Option Addr) (c : Nat) (xs : List Mk) (q : ByteArray) (r : Bool) (hr : Hid (bareL (xs.map Mk.pl) q.data.toList = r)) (w : World) (hs : SlF Mk.cells w a xs) (hx : xs.length ≤ maxLen) (hq : q.size ≤ 2000000) (hz : ∀ e ∈ xs, e.p.size ≤ 2000000 ∧ e.x.size ≤ 2000000) :
    Calls Tryd.prog 35 #[.slice a xs.length c, .string q] w fun e w' => e = .returned (.bool r) ∧ Below w.heap.size w w' := by
  obtain ⟨n, hn⟩ : ∃ n, xs.length = n := ⟨_, rfl⟩
  have HZ := Lib.hid hz
  rw [hn] at hx ⊢
  unfold maxLen at hx
  have HN := Lib.hid hn
  have HS := Lib.hid hs
  clear hn hs hz
  have HR : Hid ((xs.map Mk.pl).any (bareP q.data.toList) = r) := hr
  clear hr
  go_enter Tryd.func35, Tryd.ntmps35
  go_wp2
  go_loopw [6,9] (fun _ i wr => ∃ k : Nat, k ≤ n ∧ i = .int .i64 k ∧ (∀ (j : Nat) (f : Mk), j < k → xs[j]? = some f → bareP q.data.toList f.pl = false) ∧ Below w.heap.size w wr) (fun _ i _ => n - (intOf i).toNat)
  case atStart => exact ⟨0, Nat.zero_le _, rfl, fun j _ h => absurd h (by omega), Below.refl _ _⟩
  case round =>
    obtain ⟨k, hk, rfl, hall, hb⟩ := hrel
    have HA := Lib.hid hall
    clear hall
    by_cases hlt : k < n
    · obtain ⟨e, hee⟩ : ∃ e, xs[k]? = some e := ⟨_, List.getElem?_eq_getElem (by rw [HN.out]; exact hlt)⟩
      have hzz := HZ.out e (List.mem_of_getElem? hee)
      have h2 := (HS.out.below hb)
      obtain ⟨b, off, rfl, _⟩ := h2.addr (by rw [HN.out]; omega)
      obtain ⟨d0, d1, d2⟩ := mk_at h2 k e hee
      have HYES := Lib.hid (fun (h : bareP q.data.toList e.pl = true) => (HR.out.symm.trans (any_at k e hee h) : r = true))
      have HNO := Lib.hid (fun (h : bareP q.data.toList e.pl = false) => fun (j : Nat) (f : Mk) (hj : j < k + 1) (hf : xs[j]? = some f) => (by
        by_cases ej : j = k
        · subst ej
          rw [hee] at hf
          injection hf with hf
          exact hf ▸ h
        · exact HA.out j f (by omega) hf : bareP q.data.toList f.pl = false))
      obtain ⟨ep, ek, ex⟩ := e
      clear h2 hee
      have c0 := new_cell wr #[.string ep, .int .i64 ek, .string ex] 60 0 _ rfl
      have c1 := new_cell wr #[.string ep, .int .i64 ek, .string ex] 60 1 _ rfl
      have c2 := new_cell wr #[.string ep, .int .i64 ek, .string ex] 60 2 _ rfl
      replace hb := hb.alloc hb.size (.cells #[.string ep, .int .i64 ek, .string ex] 60)
      by_cases k4 : ek = 4
      · subst k4
        obtain ⟨u, hu⟩ : ∃ u, underL q.data.toList ep.data.toList = u := ⟨_, rfl⟩
        have HU := Lib.hid hu
        have HP : Hid (bareP q.data.toList (Mk.pl ⟨ep, 4, ex⟩) = u) := by rw [Hid, ← hu]; simp [bareP, Mk.pl]
        clear hu
        go_wp2_with fail
        refine (pathUnder_c q ep u HU _ hq hzz.1).mono ?_; rintro e W ⟨rfl, hq⟩; replace hb := chn hb hq; replace c0 := keepc hq c0; replace c1 := keepc hq c1; replace c2 := keepc hq c2; clear hq
        cases u with
        | true =>
          obtain rfl : r = true := HYES.out HP.out
          go_wp2
          go_ret
          exact ⟨rfl, hb⟩
        | false =>
          go_wp2
          go_roundw
          case rel => exact ⟨k + 1, by omega, by go_num, HNO.out HP.out, hb⟩
          case measure => simp [intOf]; omega
      · have n4 : (ek == 4) = false := by rw [beq_eq_false_iff_ne]; exact k4
        have HP : Hid (bareP q.data.toList (Mk.pl ⟨ep, ek, ex⟩) = false) := by simp [Hid, bareP, Mk.pl, k4]
        clear k4
        go_wp2
        go_roundw
        case rel => exact ⟨k + 1, by omega, by go_num, HNO.out HP.out, hb⟩
        case measure => simp [intOf]; omega
    · obtain rfl : r = false := by
        rw [← HR.out]
        exact any_no (fun j f hf => HA.out j f (by have := (List.getElem?_eq_some_iff.1 hf).1; rw [HN.out] at this; omega) hf)
      go_wp2
      go_ret
      exact ⟨rfl, hb⟩
set_option maxHeartbeats 4000000 in
theorem hides_c (a : Option Addr) (c : Nat) (xs : List Mk) (q : ByteArray) (r : Bool) (hr : Hid (hidesL (xs.map Mk.pl) q.data.toList = r)) (w : World) (hs : SlF Mk.cells w a xs) (hx : xs.length ≤ maxLen) (hq : q.size ≤ 2000000) (hz : ∀ e ∈ xs, e.p.size ≤ 2000000 ∧ e.x.size ≤ 2000000) :
    Calls Tryd.prog 64 #[.slice a xs.length c, .string q] w fun e w' => e = .returned (.bool r) ∧ Below w.heap.size w w' := by
  obtain ⟨n, hn⟩ : ∃ n, xs.length = n := ⟨_, rfl⟩
  have HZ := Lib.hid hz
  rw [hn] at hx ⊢
  unfold maxLen at hx
  have HN := Lib.hid hn
  have HS := Lib.hid hs
  clear hn hs hz
  have HR : Hid ((xs.map Mk.pl).any (hideP q.data.toList) = r) := hr
  clear hr
  go_enter Tryd.func64, Tryd.ntmps64
  go_wp2
  go_loopw [6,9] (fun _ i wr => ∃ k : Nat, k ≤ n ∧ i = .int .i64 k ∧ (∀ (j : Nat) (f : Mk), j < k → xs[j]? = some f → hideP q.data.toList f.pl = false) ∧ Below w.heap.size w wr) (fun _ i _ => n - (intOf i).toNat)
  case atStart => exact ⟨0, Nat.zero_le _, rfl, fun j _ h => absurd h (by omega), Below.refl _ _⟩
  case round =>
    obtain ⟨k, hk, rfl, hall, hb⟩ := hrel
    have HA := Lib.hid hall
    clear hall
    by_cases hlt : k < n
    · obtain ⟨e, hee⟩ : ∃ e, xs[k]? = some e := ⟨_, List.getElem?_eq_getElem (by rw [HN.out]; exact hlt)⟩
      have hzz := HZ.out e (List.mem_of_getElem? hee)
      have h2 := (HS.out.below hb)
      obtain ⟨b, off, rfl, _⟩ := h2.addr (by rw [HN.out]; omega)
      obtain ⟨d0, d1, d2⟩ := mk_at h2 k e hee
      have HYES := Lib.hid (fun (h : hideP q.data.toList e.pl = true) => (HR.out.symm.trans (any_at k e hee h) : r = true))
      have HNO := Lib.hid (fun (h : hideP q.data.toList e.pl = false) => fun (j : Nat) (f : Mk) (hj : j < k + 1) (hf : xs[j]? = some f) => (by
        by_cases ej : j = k
        · subst ej
          rw [hee] at hf
          injection hf with hf
          exact hf ▸ h
        · exact HA.out j f (by omega) hf : hideP q.data.toList f.pl = false))
      obtain ⟨ep, ek, ex⟩ := e
      clear h2 hee
      have c0 := new_cell wr #[.string ep, .int .i64 ek, .string ex] 60 0 _ rfl
      have c1 := new_cell wr #[.string ep, .int .i64 ek, .string ex] 60 1 _ rfl
      have c2 := new_cell wr #[.string ep, .int .i64 ek, .string ex] 60 2 _ rfl
      replace hb := hb.alloc hb.size (.cells #[.string ep, .int .i64 ek, .string ex] 60)
      by_cases k2 : ek = 2
      · have n2 : (ek != 2) = false := by simp [k2]
        have HP : Hid (hideP q.data.toList (Mk.pl ⟨ep, ek, ex⟩) = false) := by simp [Hid, hideP, Mk.pl, k2]
        clear k2
        go_wp2
        go_roundw
        case rel => exact ⟨k + 1, by omega, by go_num, HNO.out HP.out, hb⟩
        case measure => simp [intOf]; omega
      · have n2 : (ek != 2) = true := by rw [bne_iff_ne]; exact k2
        by_cases heq : ep.data.toList = q.data.toList
        · have q1 := beqs_yes heq
          have HP : Hid (hideP q.data.toList (Mk.pl ⟨ep, ek, ex⟩) = true) := by
            rw [Hid]
            show (decide (ek ≠ 2) && (ep.data.toList == q.data.toList || underL q.data.toList ep.data.toList)) = _
            rw [decide_eq_true k2, beq_iff_eq.2 heq]; rfl
          clear k2 heq
          obtain rfl : r = true := HYES.out HP.out
          go_wp2
          go_ret
          exact ⟨rfl, hb⟩
        · have q1 := beqs_no heq
          obtain ⟨u, hu⟩ : ∃ u, underL q.data.toList ep.data.toList = u := ⟨_, rfl⟩
          have HU := Lib.hid hu
          have HP : Hid (hideP q.data.toList (Mk.pl ⟨ep, ek, ex⟩) = u) := by
            rw [Hid, ← hu]
            show (decide (ek ≠ 2) && (ep.data.toList == q.data.toList || underL q.data.toList ep.data.toList)) = _
            rw [decide_eq_true k2, beq_eq_false_iff_ne.2 heq]; rfl
          clear hu k2 heq
          go_wp2_with fail
          refine (pathUnder_c q ep u HU _ hq hzz.1).mono ?_; rintro e W ⟨rfl, hq⟩; replace hb := chn hb hq; replace c0 := keepc hq c0; replace c1 := keepc hq c1; replace c2 := keepc hq c2; clear hq
          cases u with
          | true =>
            obtain rfl : r = true := HYES.out HP.out
            go_wp2
            go_ret
            exact ⟨rfl, hb⟩
          | false =>
            go_wp2
            go_roundw
            case rel => exact ⟨k + 1, by omega, by go_num, HNO.out HP.out, hb⟩
            case measure => simp [intOf]; omega
    · obtain rfl : r = false := by
        rw [← HR.out]
        exact any_no (fun j f hf => HA.out j f (by have := (List.getElem?_eq_some_iff.1 hf).1; rw [HN.out] at this; omega) hf)
      go_wp2
      go_ret
      exact ⟨rfl, hb⟩
def bareQ (q : Bs) (m : PM) : Bool := decide (m.k = 4) && l1UnderL q m.p
def hideQ (q : Bs) (m : PM) : Bool := decide (m.k ≠ 2) && (m.p == q || l1UnderL q m.p)
set_option maxHeartbeats 4000000 in
theorem l3Bare_c (a : Option Addr) (c : Nat) (xs : List Mk) (q : ByteArray) (r : Bool) (hr : Hid ((xs.map Mk.pl).any (bareQ q.data.toList) = r)) (w : World) (hs : SlF Mk.cells w a xs) (hx : xs.length ≤ maxLen) (hq : q.size ≤ 2000000) (hz : ∀ e ∈ xs, e.p.size ≤ 2000000 ∧ e.x.size ≤ 2000000) :
    Calls Tryd.prog 40 #[.slice a xs.length c, .string q] w fun e w' => e = .returned (.bool r) ∧ Below w.heap.size w w' := by
  obtain ⟨n, hn⟩ : ∃ n, xs.length = n := ⟨_, rfl⟩
  have HZ := Lib.hid hz
  rw [hn] at hx ⊢
  unfold maxLen at hx
  have HN := Lib.hid hn
  have HS := Lib.hid hs
  clear hn hs hz
  have HR : Hid ((xs.map Mk.pl).any (bareQ q.data.toList) = r) := hr
  clear hr
  go_enter Tryd.func40, Tryd.ntmps40
  go_wp2
  go_loopw [5] (fun i wr => ∃ k : Nat, k ≤ n ∧ i = .int .i64 k ∧ (∀ (j : Nat) (f : Mk), j < k → xs[j]? = some f → bareQ q.data.toList f.pl = false) ∧ Below w.heap.size w wr) (fun i _ => n - (intOf i).toNat)
  case atStart => exact ⟨0, Nat.zero_le _, rfl, fun j _ h => absurd h (by omega), Below.refl _ _⟩
  case round =>
    obtain ⟨k, hk, rfl, hall, hb⟩ := hrel
    have HA := Lib.hid hall
    clear hall
    by_cases hlt : k < n
    · obtain ⟨e, hee⟩ : ∃ e, xs[k]? = some e := ⟨_, List.getElem?_eq_getElem (by rw [HN.out]; exact hlt)⟩
      have hzz := HZ.out e (List.mem_of_getElem? hee)
      have h2 := (HS.out.below hb)
      obtain ⟨b, off, rfl, _⟩ := h2.addr (by rw [HN.out]; omega)
      obtain ⟨d0, d1, d2⟩ := mk_at h2 k e hee
      have HYES := Lib.hid (fun (h : bareQ q.data.toList e.pl = true) => (HR.out.symm.trans (any_at k e hee h) : r = true))
      have HNO := Lib.hid (fun (h : bareQ q.data.toList e.pl = false) => fun (j : Nat) (f : Mk) (hj : j < k + 1) (hf : xs[j]? = some f) => (by
        by_cases ej : j = k
        · subst ej
          rw [hee] at hf
          injection hf with hf
          exact hf ▸ h
        · exact HA.out j f (by omega) hf : bareQ q.data.toList f.pl = false))
      obtain ⟨ep, ek, ex⟩ := e
      clear h2 hee
      by_cases k4 : ek = 4
      · subst k4
        obtain ⟨u, hu⟩ : ∃ u, l1UnderL q.data.toList ep.data.toList = u := ⟨_, rfl⟩
        have HU := Lib.hid hu
        have HP : Hid (bareQ q.data.toList (Mk.pl ⟨ep, 4, ex⟩) = u) := by rw [Hid, ← hu]; simp [bareQ, Mk.pl]
        clear hu
        go_wp2_with fail
        refine (l1Under_c q ep u HU _ hq hzz.1).mono ?_; rintro e W ⟨rfl, rfl⟩
        cases u with
        | true =>
          obtain rfl : r = true := HYES.out HP.out
          go_wp2
          go_ret
          exact ⟨rfl, hb⟩
        | false =>
          go_wp2
          go_roundw
          case rel => exact ⟨k + 1, by omega, by go_num, HNO.out HP.out, hb⟩
          case measure => simp [intOf]; omega
      · have n4 : (ek == 4) = false := by rw [beq_eq_false_iff_ne]; exact k4
        have HP : Hid (bareQ q.data.toList (Mk.pl ⟨ep, ek, ex⟩) = false) := by simp [Hid, bareQ, Mk.pl, k4]
        clear k4
        go_wp2
        go_roundw
        case rel => exact ⟨k + 1, by omega, by go_num, HNO.out HP.out, hb⟩
        case measure => simp [intOf]; omega
    · obtain rfl : r = false := by
        rw [← HR.out]
        exact any_no (fun j f hf => HA.out j f (by have := (List.getElem?_eq_some_iff.1 hf).1; rw [HN.out] at this; omega) hf)
      go_wp2
      go_ret
      exact ⟨rfl, hb⟩
set_option maxHeartbeats 4000000 in
theorem l3Hides_c (a : Option Addr) (c : Nat) (xs : List Mk) (q : ByteArray) (r : Bool) (hr : Hid ((xs.map Mk.pl).any (hideQ q.data.toList) = r)) (w : World) (hs : SlF Mk.cells w a xs) (hx : xs.length ≤ maxLen) (hq : q.size ≤ 2000000) (hz : ∀ e ∈ xs, e.p.size ≤ 2000000 ∧ e.x.size ≤ 2000000) :
    Calls Tryd.prog 69 #[.slice a xs.length c, .string q] w fun e w' => e = .returned (.bool r) ∧ Below w.heap.size w w' := by
  obtain ⟨n, hn⟩ : ∃ n, xs.length = n := ⟨_, rfl⟩
  have HZ := Lib.hid hz
  rw [hn] at hx ⊢
  unfold maxLen at hx
  have HN := Lib.hid hn
  have HS := Lib.hid hs
  clear hn hs hz
  have HR : Hid ((xs.map Mk.pl).any (hideQ q.data.toList) = r) := hr
  clear hr
  go_enter Tryd.func69, Tryd.ntmps69
  go_wp2
  go_loopw [5] (fun i wr => ∃ k : Nat, k ≤ n ∧ i = .int .i64 k ∧ (∀ (j : Nat) (f : Mk), j < k → xs[j]? = some f → hideQ q.data.toList f.pl = false) ∧ Below w.heap.size w wr) (fun i _ => n - (intOf i).toNat)
  case atStart => exact ⟨0, Nat.zero_le _, rfl, fun j _ h => absurd h (by omega), Below.refl _ _⟩
  case round =>
    obtain ⟨k, hk, rfl, hall, hb⟩ := hrel
    have HA := Lib.hid hall
    clear hall
    by_cases hlt : k < n
    · obtain ⟨e, hee⟩ : ∃ e, xs[k]? = some e := ⟨_, List.getElem?_eq_getElem (by rw [HN.out]; exact hlt)⟩
      have hzz := HZ.out e (List.mem_of_getElem? hee)
      have h2 := (HS.out.below hb)
      obtain ⟨b, off, rfl, _⟩ := h2.addr (by rw [HN.out]; omega)
      obtain ⟨d0, d1, d2⟩ := mk_at h2 k e hee
      have HYES := Lib.hid (fun (h : hideQ q.data.toList e.pl = true) => (HR.out.symm.trans (any_at k e hee h) : r = true))
      have HNO := Lib.hid (fun (h : hideQ q.data.toList e.pl = false) => fun (j : Nat) (f : Mk) (hj : j < k + 1) (hf : xs[j]? = some f) => (by
        by_cases ej : j = k
        · subst ej
          rw [hee] at hf
          injection hf with hf
          exact hf ▸ h
        · exact HA.out j f (by omega) hf : hideQ q.data.toList f.pl = false))
      obtain ⟨ep, ek, ex⟩ := e
      clear h2 hee
      by_cases k2 : ek = 2
      · have n2 : (ek != 2) = false := by simp [k2]
        have HP : Hid (hideQ q.data.toList (Mk.pl ⟨ep, ek, ex⟩) = false) := by simp [Hid, hideQ, Mk.pl, k2]
        clear k2
        by_cases heq : ep.data.toList = q.data.toList
        · have q1 := beqs_yes heq
          clear heq
          go_wp2
          go_roundw
          case rel => exact ⟨k + 1, by omega, by go_num, HNO.out HP.out, hb⟩
          case measure => simp [intOf]; omega
        · have q1 := beqs_no heq
          clear heq
          go_wp2
          go_roundw
          case rel => exact ⟨k + 1, by omega, by go_num, HNO.out HP.out, hb⟩
          case measure => simp [intOf]; omega
      · have n2 : (ek != 2) = true := by rw [bne_iff_ne]; exact k2
        by_cases heq : ep.data.toList = q.data.toList
        · have q1 := beqs_yes heq
          have HP : Hid (hideQ q.data.toList (Mk.pl ⟨ep, ek, ex⟩) = true) := by
            rw [Hid]
            show (decide (ek ≠ 2) && (ep.data.toList == q.data.toList || l1UnderL q.data.toList ep.data.toList)) = _
            rw [decide_eq_true k2, beq_iff_eq.2 heq]; rfl
          clear k2 heq
          obtain rfl : r = true := HYES.out HP.out
          go_wp2
          go_ret
          exact ⟨rfl, hb⟩
        · have q1 := beqs_no heq
          obtain ⟨u, hu⟩ : ∃ u, l1UnderL q.data.toList ep.data.toList = u := ⟨_, rfl⟩
          have HU := Lib.hid hu
          have HP : Hid (hideQ q.data.toList (Mk.pl ⟨ep, ek, ex⟩) = u) := by
            rw [Hid, ← hu]
            show (decide (ek ≠ 2) && (ep.data.toList == q.data.toList || l1UnderL q.data.toList ep.data.toList)) = _
            rw [decide_eq_true k2, beq_eq_false_iff_ne.2 heq]; rfl
          clear hu k2 heq
          go_wp2_with fail
          refine (l1Under_c q ep u HU _ hq hzz.1).mono ?_; rintro e W ⟨rfl, rfl⟩
          cases u with
          | true =>
            obtain rfl : r = true := HYES.out HP.out
            go_wp2
            go_ret
            exact ⟨rfl, hb⟩
          | false =>
            go_wp2
            go_roundw
            case rel => exact ⟨k + 1, by omega, by go_num, HNO.out HP.out, hb⟩
            case measure => simp [intOf]; omega
    · obtain rfl : r = false := by
        rw [← HR.out]
        exact any_no (fun j f hf => HA.out j f (by have := (List.getElem?_eq_some_iff.1 hf).1; rw [HN.out] at this; omega) hf)
      go_wp2
      go_ret
      exact ⟨rfl, hb⟩
theorem under_l1 {s d : Bs} (hs : pathOkL s = true) (hd : pathOkL d = true) : underL s d = l1UnderL s d := by rw [under_eq, hs, hd]; simp
theorem bareQ_eq {l : List PM} {q : Bs} (hq : pathOkL q = true) (hl : ∀ m ∈ l, pathOkL m.p = true) : l.any (bareQ q) = bareL l q := by
  unfold bareL
  rw [Bool.eq_iff_iff, List.any_eq_true, List.any_eq_true]
  constructor
  · rintro ⟨m, hm, h⟩; exact ⟨m, hm, by unfold bareQ at h; rw [under_l1 hq (hl m hm)]; exact h⟩
  · rintro ⟨m, hm, h⟩; exact ⟨m, hm, by unfold bareQ; rw [← under_l1 hq (hl m hm)]; exact h⟩
theorem hideQ_eq {l : List PM} {q : Bs} (hq : pathOkL q = true) (hl : ∀ m ∈ l, pathOkL m.p = true) : l.any (hideQ q) = hidesL l q := by
  unfold hidesL
  rw [Bool.eq_iff_iff, List.any_eq_true, List.any_eq_true]
  constructor
  · rintro ⟨m, hm, h⟩; exact ⟨m, hm, by unfold hideQ at h; rw [under_l1 hq (hl m hm)]; exact h⟩
  · rintro ⟨m, hm, h⟩; exact ⟨m, hm, by unfold hideQ; rw [← under_l1 hq (hl m hm)]; exact h⟩
set_option maxHeartbeats 2000000 in
theorem isDir_c (m : Mk) (r : Bool) (hr : Hid (dirM m.pl = r)) (w : World) :
    Calls Tryd.prog 63 #[m.val] w fun e w' => e = .returned (.bool r) ∧ Below w.heap.size w w' := by
  obtain ⟨p, k, x⟩ := m
  have hb := bellow_alloc w (.cells #[.string p, .int .i64 k, .string x] 60)
  by_cases k2 : k = 2
  · obtain rfl : r = true := by rw [← hr.out]; simp [dirM, Mk.pl, k2]
    subst k2
    go_enter Tryd.func63, Tryd.ntmps63
    go_wp2
    go_ret
    exact ⟨rfl, hb⟩
  · have n2 : (k == 2) = false := by rw [beq_eq_false_iff_ne]; exact k2
    by_cases k4 : k = 4
    · obtain rfl : r = true := by rw [← hr.out]; simp [dirM, Mk.pl, k4]
      subst k4
      clear k2
      go_enter Tryd.func63, Tryd.ntmps63
      go_wp2
      go_ret
      exact ⟨rfl, hb⟩
    · have n4 : (k == 4) = false := by rw [beq_eq_false_iff_ne]; exact k4
      obtain rfl : r = false := by rw [← hr.out]; simp [dirM, Mk.pl, k2, k4]
      clear k2 k4 hr
      go_enter Tryd.func63, Tryd.ntmps63
      go_wp2
      go_ret
      exact ⟨rfl, hb⟩
set_option maxHeartbeats 4000000 in
theorem markOk_c (m : Mk) (r : Bool) (hr : Hid (markOkL m.pl = r)) (w : World) (hp : m.p.size ≤ maxLen) (hx : m.x.size ≤ maxLen) :
    Calls Tryd.prog 60 #[m.val] w fun e w' => e = .returned (.bool r) ∧ Below w.heap.size w w' := by
  obtain ⟨p, k, x⟩ := m
  have hb := bellow_alloc w (.cells #[.string p, .int .i64 k, .string x] 60)
  have c0 := new_cell w #[.string p, .int .i64 k, .string x] 60 0 _ rfl
  have c1 := new_cell w #[.string p, .int .i64 k, .string x] 60 1 _ rfl
  have c2 := new_cell w #[.string p, .int .i64 k, .string x] 60 2 _ rfl
  have HR : Hid (r = (decide (1 ≤ k) && decide (k ≤ 4) && pathOkL p.data.toList && dataOkL x.data.toList && (decide (k = 1) || x.data.toList == []))) := by rw [Hid, ← hr.out]; rfl
  clear hr
  by_cases klo : k < 1
  · obtain rfl : r = false := by rw [HR.out, decide_eq_false (p := 1 ≤ k) (by omega)]; rfl
    go_enter Tryd.func60, Tryd.ntmps60
    go_wp2
    go_ret
    exact ⟨rfl, hb⟩
  by_cases khi : 4 < k
  · obtain rfl : r = false := by rw [HR.out, decide_eq_false (p := k ≤ 4) (by omega), Bool.and_false]; rfl
    go_enter Tryd.func60, Tryd.ntmps60
    go_wp2
    go_ret
    exact ⟨rfl, hb⟩
  have HR2 : Hid (r = (pathOkL p.data.toList && dataOkL x.data.toList && (decide (k = 1) || x.data.toList == []))) := by rw [Hid, HR.out, decide_eq_true (p := 1 ≤ k) (by omega), decide_eq_true (p := k ≤ 4) (by omega)]; rfl
  clear HR
  obtain ⟨u, hu⟩ : ∃ u, pathOkL p.data.toList = u := ⟨_, rfl⟩
  have HU := Lib.hid hu
  have h4 : decide (4 < k) = false := by simp; omega
  cases u with
  | false =>
    obtain rfl : r = false := by rw [HR2.out, hu]; rfl
    clear hu
    go_enter Tryd.func60, Tryd.ntmps60
    go_wp2_with fail
    refine (pathOk_c p false HU _ hp).mono ?_; rintro e W ⟨rfl, hq⟩; replace hb := chn hb hq; clear hq
    go_wp2
    go_ret
    exact ⟨rfl, hb⟩
  | true =>
    have HR3 : Hid (r = (dataOkL x.data.toList && (decide (k = 1) || x.data.toList == []))) := by rw [Hid, HR2.out, hu, Bool.true_and]
    clear hu HR2
    by_cases k1 : k = 1
    · subst k1
      have HD : Hid (dataOkL x.data.toList = r) := by rw [Hid, HR3.out]; simp
      clear HR3 h4 klo khi
      go_enter Tryd.func60, Tryd.ntmps60
      go_wp2_with fail
      refine (pathOk_c p true HU _ hp).mono ?_; rintro e W ⟨rfl, hq⟩; replace hb := chn hb hq; replace c0 := keepc hq c0; replace c1 := keepc hq c1; replace c2 := keepc hq c2; clear hq
      go_wp2_with fail
      refine (dataOk_c x r HD _ hx).mono ?_; rintro e W ⟨rfl, rfl⟩
      go_wp2
      go_ret
      exact ⟨rfl, hb⟩
    · have n1 : (k != 1) = true := by rw [bne_iff_ne]; exact k1
      by_cases hx0 : x.data.toList = []
      · have q1 := isE_yes hx0
        obtain rfl : r = true := by rw [HR3.out, hx0]; simp; decide
        clear hx0 k1 HR3
        go_enter Tryd.func60, Tryd.ntmps60
        go_wp2_with fail
        refine (pathOk_c p true HU _ hp).mono ?_; rintro e W ⟨rfl, hq⟩; replace hb := chn hb hq; replace c0 := keepc hq c0; replace c1 := keepc hq c1; replace c2 := keepc hq c2; clear hq
        go_wp2
        go_ret
        exact ⟨rfl, hb⟩
      · have q1 := isE_no hx0
        obtain rfl : r = false := by rw [HR3.out, beqE_no hx0, decide_eq_false k1]; simp
        clear hx0 k1 HR3
        go_enter Tryd.func60, Tryd.ntmps60
        go_wp2_with fail
        refine (pathOk_c p true HU _ hp).mono ?_; rintro e W ⟨rfl, hq⟩; replace hb := chn hb hq; replace c0 := keepc hq c0; replace c1 := keepc hq c1; replace c2 := keepc hq c2; clear hq
        go_wp2
        go_ret
        exact ⟨rfl, hb⟩
end Go.Proofs.YtobbodbkdcbflabDoor
namespace Go.Proofs.YtobbodbkdcbflabDoor
open Go.RowKit
/-- A slice of texts that the call made. -/
def MadeSt (L : List Bs) (w : World) (e : Ending) (w' : World) : Prop :=
  ∃ (v : Value) (ss : List ByteArray), e = .returned v ∧ ss.map (·.data.toList) = L ∧ w'.ownsRow w.heap.size 9 1 v ss.length (ss.map Value.string) ∧ Below w.heap.size w w'
theorem kids_snoc (t : List PE) (e : PE) (q : Bs) : kidsL (t ++ [e]) q = kidsL t q ++ if upL e.p = q then [nameL e.p] else [] := by
  unfold kidsL
  rw [List.filter_append, List.map_append]
  by_cases h : upL e.p = q
  · rw [if_pos h]; simp [h]
  · rw [if_neg h]; simp [h]
theorem kids_len (t : List PE) (q : Bs) : (kidsL t q).length ≤ t.length := by unfold kidsL; rw [List.length_map]; exact List.length_filter_le _ _
theorem take_pl (xs : List En) (k : Nat) (e : En) (he : xs[k]? = some e) : (xs.take (k + 1)).map En.pl = (xs.take k).map En.pl ++ [e.pl] := by
  have h1 := List.take_succ_eq_append_getElem (l := xs) (i := k) (List.getElem?_eq_some_iff.1 he).1
  rw [(List.getElem?_eq_some_iff.1 he).2] at h1
  rw [h1, List.map_append]; rfl
theorem name_str20 (s : ByteArray) : ∃ r : ByteArray, Hid (nameL s.data.toList = r.data.toList) := ⟨⟨(nameL s.data.toList).toArray⟩, by simp [Hid]⟩
set_option maxRecDepth 100000 in
set_option maxHeartbeats 4000000 in
theorem l2Kids_c (a : Option Addr) (c : Nat) (xs : List En) (q : ByteArray) (w : World) (hs : SlF En.cells w a xs) (hx : xs.length ≤ 1000000) (hz : ∀ e ∈ xs, e.p.size ≤ maxLen ∧ e.x.size ≤ maxLen) :
    Calls Tryd.prog 89 #[.slice a xs.length c, .string q] w (MadeSt (kidsL (xs.map En.pl) q.data.toList) w) := by
  have HE := strElt
  obtain ⟨n, hn⟩ : ∃ n, xs.length = n := ⟨_, rfl⟩
  have HN := Lib.hid hn
  have HZ := Lib.hid hz
  have HS := Lib.hid hs
  have HALL : Hid (xs.take n = xs) := by rw [Hid, ← hn, List.take_length]
  rw [hn] at hx ⊢
  clear hn hz hs
  go_enter Tryd.func89, Tryd.ntmps89
  go_wp2
  go_loopw [5, 6] (fun v i wr => ∃ (k : Nat) (ss : List ByteArray), k ≤ n ∧ i = .int .i64 k ∧ ss.map (·.data.toList) = kidsL ((xs.take k).map En.pl) q.data.toList ∧ wr.ownsRow w.heap.size 9 1 v ss.length (ss.map Value.string) ∧ Below w.heap.size w wr) (fun _ i _ => n - (intOf i).toNat)
  case atStart => exact ⟨0, [], Nat.zero_le _, rfl, rfl, World.ownsRow_lit w #[] 0 (Nat.le_refl _) (Nat.zero_le _) rfl, bellow_alloc _ _⟩
  case round =>
    obtain ⟨k, ss, hk, rfl, hss, hown, hb⟩ := hrel
    have HSS := Lib.hid hss
    clear hss
    by_cases hlt : k < n
    · skip
      obtain ⟨e, hee⟩ : ∃ e, xs[k]? = some e := ⟨_, List.getElem?_eq_getElem (by rw [HN.out]; exact hlt)⟩
      have hzz := HZ.out e (List.mem_of_getElem? hee)
      have h2 := HS.out.below hb
      obtain ⟨b, off, rfl, _⟩ := h2.addr (by rw [HN.out]; omega)
      obtain ⟨d0, d1, d2⟩ := en_at h2 k e hee
      have HSN : Hid (kidsL ((xs.take (k + 1)).map En.pl) q.data.toList = kidsL ((xs.take k).map En.pl) q.data.toList ++ if upL e.p.data.toList = q.data.toList then [nameL e.p.data.toList] else []) := by rw [Hid, take_pl xs k e hee, kids_snoc]; rfl
      have hsl : ss.length ≤ k := by
        have h3 := congrArg List.length HSS.out
        have h4 := kids_len ((xs.take k).map En.pl) q.data.toList
        simp only [List.length_map, List.length_take] at h3 h4
        omega
      obtain ⟨ep, ed, ex⟩ := e
      obtain ⟨u, hu, hus⟩ := up_str20 ep
      obtain ⟨m, hm⟩ := name_str20 ep
      clear h2 hee
      by_cases hq : u.data.toList = q.data.toList
      · have q1 := beqs_yes hq
        have HSM : Hid ((ss ++ [m]).map (·.data.toList) = kidsL ((xs.take (k + 1)).map En.pl) q.data.toList) := by
          rw [Hid, HSN.out, if_pos (by rw [hu.out]; exact hq), List.map_append, HSS.out, hm.out]; rfl
        clear hq
        go_wp2_with fail
        refine (sPathUp_c ep u hu _ hzz.1).mono ?_; rintro e W ⟨rfl, hq⟩; replace hb := chn hb hq; replace d0 := keepc hq d0; replace hown := own_below hown hq; clear hq
        go_wp2_with fail
        refine (sPathName_c ep m hm _ hzz.1).mono ?_; rintro e W ⟨rfl, hq⟩; replace hb := chn hb hq; replace hown := own_below hown hq; clear hq
        go_wp2_with (at_builtin; go_must (refine wp_app1 (by rfl) _ _ 26 (by rfl) HE w.heap.size w.heap.size w _ #[.string m] _ _ _ (by rfl) (by rfl) hown (by rfl) (by simp [Value.oneCell']) (by omega) hb.size hb (Nat.le_refl _) ?_); intro v' w1 hown1 hbel1 _ _)
        go_roundw
        case rel => exact ⟨k + 1, ss ++ [m], by omega, by go_num, HSM.out, by simpa using hown1, hbel1⟩
        case measure => simp [intOf]; omega
      · have q1 := beqs_no hq
        have HSM : Hid (ss.map (·.data.toList) = kidsL ((xs.take (k + 1)).map En.pl) q.data.toList) := by
          rw [Hid, HSN.out, if_neg (by rw [hu.out]; exact hq), List.append_nil]; exact HSS.out
        clear hq
        go_wp2_with fail
        refine (sPathUp_c ep u hu _ hzz.1).mono ?_; rintro e W ⟨rfl, hq⟩; replace hb := chn hb hq; replace hown := own_below hown hq; clear hq
        go_wp2
        go_roundw
        case rel => exact ⟨k + 1, ss, by omega, by go_num, HSM.out, hown, hb⟩
        case measure => simp [intOf]; omega
    · obtain rfl : k = n := by omega
      have HF : Hid (ss.map (·.data.toList) = kidsL (xs.map En.pl) q.data.toList) := by rw [Hid, HSS.out, HALL.out]
      go_wp2
      go_ret
      exact ⟨_, ss, rfl, HF.out, hown, hb⟩
end Go.Proofs.YtobbodbkdcbflabDoor
namespace Go.Proofs.YtobbodbkdcbflabDoor
open Go.RowKit
theorem lget_of {xs : List En} {q : ByteArray} (h : q.data.toList ≠ [47]) : lgetE xs q = getE xs q := by unfold lgetE; rw [if_neg h]
theorem path_no_root {q : Bs} (h : pathOkL q = true) : q ≠ [47] := path_ne_root h
set_option maxHeartbeats 4000000 in
theorem l2Up_c (a : Option Addr) (c : Nat) (xs : List En) (q : ByteArray) (m : Nat) (hm : Hid (upCodeL (xs.map En.pl) q.data.toList = m)) (w : World) (hs : SlF En.cells w a xs) (hx : xs.length ≤ maxLen) (hq : q.size ≤ maxLen) :
    Calls Tryd.prog 87 #[.slice a xs.length c, .string q] w fun r w' => r = .returned (.int .i64 m) ∧ Below w.heap.size w w' := by
  have hb := Below.refl w.heap.size w
  obtain ⟨u, hu, hus⟩ := up_str20 q
  obtain ⟨o, ho⟩ : ∃ o, lgetE xs u = o := ⟨_, rfl⟩
  have HM : Hid (m = upC o) := by
    rw [Hid, ← hm.out, upCodeL, hu.out, ← ho, lgetE]
    by_cases h : u.data.toList = [47]
    · rw [if_pos h, if_pos h]; rfl
    · rw [if_neg h, if_neg h, getE_pl]
      cases getE xs u <;> rfl
  have HO := Lib.hid ho
  have HS := Lib.hid hs
  have HG := Lib.hid (fun (q : ByteArray) (o' : Option En) (ho' : Hid (lgetE xs q = o')) W (h : SlF En.cells W a xs) => l2Get_c a c xs q o' ho' W h hx)
  obtain ⟨n, hn⟩ : ∃ n, xs.length = n := ⟨_, rfl⟩
  have HN := Lib.hid hn
  rw [hn] at HG ⊢
  clear ho hs hx hn hm
  cases o with
  | none =>
    obtain rfl : m = 2 := HM.out
    go_enter Tryd.func87, Tryd.ntmps87
    go_wp2_with fail
    refine (sPathUp_c q u hu _ hq).mono ?_; rintro e W ⟨rfl, hq⟩; replace hb := chn hb hq; clear hq
    go_wp2_with fail
    refine (HG.out u _ HO _ (HS.out.below hb)).mono ?_; rintro e W ⟨rfl, hq⟩; replace hb := chn hb hq; clear hq
    go_wp2
    go_ret
    exact ⟨rfl, by repeat (first | exact hb | refine Below.alloc ?_ (by have := hb.size; simp; try omega) _)⟩
  | some e =>
    obtain ⟨ep, ed, ex⟩ := e
    cases ed with
    | true =>
      obtain rfl : m = 0 := HM.out
      go_enter Tryd.func87, Tryd.ntmps87
      go_wp2_with fail
      refine (sPathUp_c q u hu _ hq).mono ?_; rintro e W ⟨rfl, hq⟩; replace hb := chn hb hq; clear hq
      go_wp2_with fail
      refine (HG.out u _ HO _ (HS.out.below hb)).mono ?_; rintro e W ⟨rfl, hq⟩; replace hb := chn hb hq; clear hq
      go_wp2
      go_ret
      exact ⟨rfl, by repeat (first | exact hb | refine Below.alloc ?_ (by have := hb.size; simp; try omega) _)⟩
    | false =>
      obtain rfl : m = 3 := HM.out
      go_enter Tryd.func87, Tryd.ntmps87
      go_wp2_with fail
      refine (sPathUp_c q u hu _ hq).mono ?_; rintro e W ⟨rfl, hq⟩; replace hb := chn hb hq; clear hq
      go_wp2_with fail
      refine (HG.out u _ HO _ (HS.out.below hb)).mono ?_; rintro e W ⟨rfl, hq⟩; replace hb := chn hb hq; clear hq
      go_wp2
      go_ret
      exact ⟨rfl, by repeat (first | exact hb | refine Below.alloc ?_ (by have := hb.size; simp; try omega) _)⟩
set_option maxHeartbeats 4000000 in
theorem l2New_c (a : Option Addr) (c : Nat) (xs : List En) (q : ByteArray) (m : Nat) (hm : Hid (makeC (xs.map En.pl) q.data.toList = m)) (w : World) (hs : SlF En.cells w a xs) (hx : xs.length ≤ maxLen) (hq : q.size ≤ maxLen) (hr : q.data.toList ≠ [47]) :
    Calls Tryd.prog 73 #[.slice a xs.length c, .string q] w fun r w' => r = .returned (.int .i64 m) ∧ Below w.heap.size w w' := by
  have hb := Below.refl w.heap.size w
  obtain ⟨u, hu⟩ : ∃ u, upCodeL (xs.map En.pl) q.data.toList = u := ⟨_, rfl⟩
  obtain ⟨o, ho⟩ : ∃ o, getE xs q = o := ⟨_, rfl⟩
  obtain ⟨n, hn⟩ : ∃ n, xs.length = n := ⟨_, rfl⟩
  have HN := Lib.hid hn
  have HM : Hid (m = if u ≠ 0 then u else if o.isSome = true then 4 else if 16 ≤ n then 8 else 0) := by
    rw [Hid, ← hm.out, makeC, hu, getE_pl, ho, List.length_map, hn, Option.isSome_map]
  have HO : Hid (lgetE xs q = o) := by rw [Hid, lget_of hr]; exact ho
  have HU := Lib.hid (fun W (h : SlF En.cells W a xs) => l2Up_c a c xs q u (Lib.hid hu) W h hx hq)
  have HS := Lib.hid hs
  have HG := Lib.hid (fun (q : ByteArray) (o' : Option En) (ho' : Hid (lgetE xs q = o')) W (h : SlF En.cells W a xs) => l2Get_c a c xs q o' ho' W h hx)
  rw [hn] at HG HU hx ⊢
  clear ho hs hn hm hr hu
  by_cases h0 : u = 0
  · subst h0
    cases o with
    | some e =>
      obtain ⟨ep, ed, ex⟩ := e
      obtain rfl : m = 4 := by rw [HM.out]; rfl
      go_enter Tryd.func73, Tryd.ntmps73
      go_wp2_with fail
      refine (HU.out _ (HS.out.below hb)).mono ?_; rintro e W ⟨rfl, hq⟩; replace hb := chn hb hq; clear hq
      go_wp2_with fail
      refine (HG.out q _ HO _ (HS.out.below hb)).mono ?_; rintro e W ⟨rfl, hq⟩; replace hb := chn hb hq; clear hq
      go_wp2
      go_ret
      exact ⟨rfl, by repeat (first | exact hb | refine Below.alloc ?_ (by have := hb.size; simp; try omega) _)⟩
    | none =>
      by_cases h16 : 16 ≤ n
      · obtain rfl : m = 8 := by rw [HM.out]; simp [h16]
        have g : (16 : Int) ≤ (n : Int) := by omega
        go_enter Tryd.func73, Tryd.ntmps73
        go_wp2_with fail
        refine (HU.out _ (HS.out.below hb)).mono ?_; rintro e W ⟨rfl, hq⟩; replace hb := chn hb hq; clear hq
        go_wp2_with fail
        refine (HG.out q _ HO _ (HS.out.below hb)).mono ?_; rintro e W ⟨rfl, hq⟩; replace hb := chn hb hq; clear hq
        go_wp2
        go_ret
        exact ⟨rfl, by repeat (first | exact hb | refine Below.alloc ?_ (by have := hb.size; simp; try omega) _)⟩
      · obtain rfl : m = 0 := by rw [HM.out]; simp [h16]
        have g : decide ((16 : Int) ≤ (n : Int)) = false := by rw [decide_eq_false_iff_not]; omega
        go_enter Tryd.func73, Tryd.ntmps73
        go_wp2_with fail
        refine (HU.out _ (HS.out.below hb)).mono ?_; rintro e W ⟨rfl, hq⟩; replace hb := chn hb hq; clear hq
        go_wp2_with fail
        refine (HG.out q _ HO _ (HS.out.below hb)).mono ?_; rintro e W ⟨rfl, hq⟩; replace hb := chn hb hq; clear hq
        go_wp2
        go_ret
        exact ⟨rfl, by repeat (first | exact hb | refine Below.alloc ?_ (by have := hb.size; simp; try omega) _)⟩
  · obtain rfl : m = u := by rw [HM.out, if_pos h0]
    have hne : ((m : Int) != 0) = true := by rw [bne_iff_ne]; omega
    cases o with
    | some e =>
      obtain ⟨ep, ed, ex⟩ := e
      go_enter Tryd.func73, Tryd.ntmps73
      go_wp2_with fail
      refine (HU.out _ (HS.out.below hb)).mono ?_; rintro e W ⟨rfl, hq⟩; replace hb := chn hb hq; clear hq
      go_wp2_with fail
      refine (HG.out q _ HO _ (HS.out.below hb)).mono ?_; rintro e W ⟨rfl, hq⟩; replace hb := chn hb hq; clear hq
      go_wp2
      go_ret
      exact ⟨rfl, by repeat (first | exact hb | refine Below.alloc ?_ (by have := hb.size; simp; try omega) _)⟩
    | none =>
      go_enter Tryd.func73, Tryd.ntmps73
      go_wp2_with fail
      refine (HU.out _ (HS.out.below hb)).mono ?_; rintro e W ⟨rfl, hq⟩; replace hb := chn hb hq; clear hq
      go_wp2_with fail
      refine (HG.out q _ HO _ (HS.out.below hb)).mono ?_; rintro e W ⟨rfl, hq⟩; replace hb := chn hb hq; clear hq
      go_wp2
      go_ret
      exact ⟨rfl, by repeat (first | exact hb | refine Below.alloc ?_ (by have := hb.size; simp; try omega) _)⟩
set_option maxHeartbeats 4000000 in
theorem l2PutCode_c (a : Option Addr) (c : Nat) (xs : List En) (q : ByteArray) (m : Nat) (hm : Hid (putC (xs.map En.pl) q.data.toList = m)) (w : World) (hs : SlF En.cells w a xs) (hx : xs.length ≤ maxLen) (hq : q.size ≤ maxLen) (hr : q.data.toList ≠ [47]) :
    Calls Tryd.prog 74 #[.slice a xs.length c, .string q] w fun r w' => r = .returned (.int .i64 m) ∧ Below w.heap.size w w' := by
  have hb := Below.refl w.heap.size w
  obtain ⟨v, hv⟩ : ∃ v, makeC (xs.map En.pl) q.data.toList = v := ⟨_, rfl⟩
  obtain ⟨o, ho⟩ : ∃ o, getE xs q = o := ⟨_, rfl⟩
  have HM : Hid (m = if v = 4 then putO o 0 else v) := by
    rw [Hid, ← hm.out, ← hv]
    unfold putC makeC
    rw [getE_pl, ho]
    rcases upCode_le (xs.map En.pl) q.data.toList with h | h | h
    · rw [h]
      cases o with
      | none =>
        simp only [ne_eq, not_true_eq_false, if_false, Option.map_none, Option.isSome_none, Bool.false_eq_true]
        split <;> rfl
      | some e =>
        simp only [ne_eq, not_true_eq_false, if_false, Option.map_some, Option.isSome_some, if_true]
        rfl
    · rw [h]; rfl
    · rw [h]; rfl
  have HNO : Hid (v = 4 → o ≠ none) := fun h4 hn => by
    rw [← hv] at h4
    unfold makeC at h4
    rw [getE_pl, ho, hn] at h4
    rcases upCode_le (xs.map En.pl) q.data.toList with h | h | h
    · rw [h] at h4
      simp only [ne_eq, not_true_eq_false, if_false, Option.map_none, Option.isSome_none, Bool.false_eq_true] at h4
      split at h4 <;> cases h4
    · rw [h] at h4; cases h4
    · rw [h] at h4; cases h4
  have HO : Hid (lgetE xs q = o) := by rw [Hid, lget_of hr]; exact ho
  have HU := Lib.hid (fun W (h : SlF En.cells W a xs) => l2New_c a c xs q v (Lib.hid hv) W h hx hq hr)
  have HS := Lib.hid hs
  have HG := Lib.hid (fun (q : ByteArray) (o' : Option En) (ho' : Hid (lgetE xs q = o')) W (h : SlF En.cells W a xs) => l2Get_c a c xs q o' ho' W h hx)
  obtain ⟨n, hn⟩ : ∃ n, xs.length = n := ⟨_, rfl⟩
  have HN := Lib.hid hn
  rw [hn] at HG HU hx ⊢
  clear ho hs hn hm hr hv
  by_cases h4 : v = 4
  · subst h4
    cases o with
    | none => exact absurd rfl (HNO.out rfl)
    | some e =>
      obtain ⟨ep, ed, ex⟩ := e
      cases ed with
      | true =>
        obtain rfl : m = 5 := HM.out
        go_enter Tryd.func74, Tryd.ntmps74
        go_wp2_with fail
        refine (HU.out _ (HS.out.below hb)).mono ?_; rintro e W ⟨rfl, hq⟩; replace hb := chn hb hq; clear hq
        go_wp2_with fail
        refine (HG.out q _ HO _ (HS.out.below hb)).mono ?_; rintro e W ⟨rfl, hq⟩; replace hb := chn hb hq; clear hq
        go_wp2
        go_ret
        exact ⟨rfl, by repeat (first | exact hb | refine Below.alloc ?_ (by have := hb.size; simp; try omega) _)⟩
      | false =>
        obtain rfl : m = 0 := HM.out
        go_enter Tryd.func74, Tryd.ntmps74
        go_wp2_with fail
        refine (HU.out _ (HS.out.below hb)).mono ?_; rintro e W ⟨rfl, hq⟩; replace hb := chn hb hq; clear hq
        go_wp2_with fail
        refine (HG.out q _ HO _ (HS.out.below hb)).mono ?_; rintro e W ⟨rfl, hq⟩; replace hb := chn hb hq; clear hq
        go_wp2
        go_ret
        exact ⟨rfl, by repeat (first | exact hb | refine Below.alloc ?_ (by have := hb.size; simp; try omega) _)⟩
  · obtain rfl : m = v := by rw [HM.out, if_neg h4]
    have hne : ((m : Int) == 4) = false := by rw [beq_eq_false_iff_ne]; omega
    cases o with
    | some e =>
      obtain ⟨ep, ed, ex⟩ := e
      go_enter Tryd.func74, Tryd.ntmps74
      go_wp2_with fail
      refine (HU.out _ (HS.out.below hb)).mono ?_; rintro e W ⟨rfl, hq⟩; replace hb := chn hb hq; clear hq
      go_wp2_with fail
      refine (HG.out q _ HO _ (HS.out.below hb)).mono ?_; rintro e W ⟨rfl, hq⟩; replace hb := chn hb hq; clear hq
      go_wp2
      go_ret
      exact ⟨rfl, by repeat (first | exact hb | refine Below.alloc ?_ (by have := hb.size; simp; try omega) _)⟩
    | none =>
      go_enter Tryd.func74, Tryd.ntmps74
      go_wp2_with fail
      refine (HU.out _ (HS.out.below hb)).mono ?_; rintro e W ⟨rfl, hq⟩; replace hb := chn hb hq; clear hq
      go_wp2_with fail
      refine (HG.out q _ HO _ (HS.out.below hb)).mono ?_; rintro e W ⟨rfl, hq⟩; replace hb := chn hb hq; clear hq
      go_wp2
      go_ret
      exact ⟨rfl, by repeat (first | exact hb | refine Below.alloc ?_ (by have := hb.size; simp; try omega) _)⟩
set_option maxHeartbeats 8000000 in
theorem l2OffCode_c (a : Option Addr) (c : Nat) (xs : List En) (k : Int) (p t d : ByteArray) (m : Nat) (hk : k = 3 ∨ k = 4) (hm : Hid (codeL (xs.map En.pl) k p.data.toList t.data.toList = m)) (w : World) (hs : SlF En.cells w a xs) (htok : TOk (xs.map En.pl)) (hpp : pathOkL p.data.toList = true) (hz : ∀ e ∈ xs, e.p.size ≤ maxLen ∧ e.x.size ≤ maxLen) :
    Calls Tryd.prog 76 #[.slice a xs.length c, opV k p t d] w fun r w' => r = .returned (.int .i64 m) ∧ Below w.heap.size w w' := by
  have hx16 : xs.length ≤ 16 := by have := htok.most; rw [List.length_map] at this; exact this
  have hx : xs.length ≤ maxLen := by unfold maxLen; omega
  have c0 := new_cell w (opBox k p t d) 50 0 _ rfl
  have c1 := new_cell w (opBox k p t d) 50 1 _ rfl
  have c2 := new_cell w (opBox k p t d) 50 2 _ rfl
  have c3 := new_cell w (opBox k p t d) 50 3 _ rfl
  have hb := bellow_alloc w (.cells (opBox k p t d) 50)
  obtain ⟨o, ho⟩ : ∃ o, getE xs p = o := ⟨_, rfl⟩
  obtain ⟨L, hL⟩ : ∃ L, kidsL (xs.map En.pl) p.data.toList = L := ⟨_, rfl⟩
  have HK := Lib.hid (fun W (h : SlF En.cells W a xs) => hL ▸ l2Kids_c a c xs p W h (by omega) hz)
  have HO : Hid (lgetE xs p = o) := by rw [Hid, lget_of (path_no_root hpp)]; exact ho
  have hany := kids_any htok (q := p.data.toList)
  have hfile : ∀ e : En, o = some e → e.d = false → L = [] := fun e he hd => by
    rw [← hL]
    exact kids_file htok hpp (e := e.pl) (by rw [getE_pl, ho, he]; rfl) hd
  rw [hL] at hany
  have HS := Lib.hid hs
  have HG := Lib.hid (fun (q : ByteArray) (o' : Option En) (ho' : Hid (lgetE xs q = o')) W (h : SlF En.cells W a xs) => l2Get_c a c xs q o' ho' W h hx)
  rcases hk with rfl | rfl
  · have HM : Hid (m = rmO o) := by
      rw [Hid, ← hm.out, code_3, rmC, getE_pl, ho]
      clear ho HO hfile
      cases o <;> rfl
    have HF := Lib.hid hfile
    obtain ⟨n, hn⟩ : ∃ n, xs.length = n := ⟨_, rfl⟩
    rw [hn] at HG HK hx16 ⊢
    clear ho hs hn hm hL hany hx hfile htok hpp hz
    cases o with
    | none =>
      obtain rfl : m = 2 := HM.out
      go_enter Tryd.func76, Tryd.ntmps76
      go_wp2_with fail
      refine (HG.out p _ HO _ (HS.out.below hb)).mono ?_; rintro e W ⟨rfl, hq⟩; replace hb := chn hb hq; replace c0 := keepc hq c0; replace c1 := keepc hq c1; replace c2 := keepc hq c2; replace c3 := keepc hq c3; clear hq
      go_wp2
      go_ret
      exact ⟨rfl, by repeat (first | exact hb | refine Below.alloc ?_ (by have := hb.size; simp; try omega) _)⟩
    | some e =>
      obtain ⟨ep, ed, ex⟩ := e
      cases ed with
      | true =>
        obtain rfl : m = 5 := HM.out
        go_enter Tryd.func76, Tryd.ntmps76
        go_wp2_with fail
        refine (HG.out p _ HO _ (HS.out.below hb)).mono ?_; rintro e W ⟨rfl, hq⟩; replace hb := chn hb hq; replace c0 := keepc hq c0; replace c1 := keepc hq c1; replace c2 := keepc hq c2; replace c3 := keepc hq c3; clear hq
        replace hb := hb.alloc hb.size (.cells #[.string ep, .bool true, .string ex] 31); replace c0 := keepc (bellow_alloc _ (.cells #[.string ep, .bool true, .string ex] 31)) c0; replace c1 := keepc (bellow_alloc _ (.cells #[.string ep, .bool true, .string ex] 31)) c1; replace c2 := keepc (bellow_alloc _ (.cells #[.string ep, .bool true, .string ex] 31)) c2; replace c3 := keepc (bellow_alloc _ (.cells #[.string ep, .bool true, .string ex] 31)) c3; 
        go_wp2
        go_ret
        exact ⟨rfl, by repeat (first | exact hb | refine Below.alloc ?_ (by have := hb.size; simp; try omega) _)⟩
      | false =>
        obtain rfl : m = 0 := HM.out
        have HL0 := Lib.hid (HF.out ⟨ep, false, ex⟩ rfl rfl)
        clear HF
        go_enter Tryd.func76, Tryd.ntmps76
        go_wp2_with fail
        refine (HG.out p _ HO _ (HS.out.below hb)).mono ?_; rintro e W ⟨rfl, hq⟩; replace hb := chn hb hq; replace c0 := keepc hq c0; replace c1 := keepc hq c1; replace c2 := keepc hq c2; replace c3 := keepc hq c3; clear hq
        replace hb := hb.alloc hb.size (.cells #[.string ep, .bool false, .string ex] 31); replace c0 := keepc (bellow_alloc _ (.cells #[.string ep, .bool false, .string ex] 31)) c0; replace c1 := keepc (bellow_alloc _ (.cells #[.string ep, .bool false, .string ex] 31)) c1; replace c2 := keepc (bellow_alloc _ (.cells #[.string ep, .bool false, .string ex] 31)) c2; replace c3 := keepc (bellow_alloc _ (.cells #[.string ep, .bool false, .string ex] 31)) c3; 
        go_wp2_with fail
        refine (HK.out _ (HS.out.below hb)).mono ?_; rintro e W ⟨v, ss, rfl, hss, oS, hq⟩; replace hb := chn hb hq
        obtain ⟨av, cv, rfl⟩ := own_shape oS
        have HLEN : Hid (ss.length = L.length) := by rw [Hid, ← hss, List.length_map]
        rw [HL0.out] at HLEN
        have h0 : ss.length = 0 := HLEN.out
        have g : decide ((0 : Int) < (ss.length : Int)) = false := by rw [decide_eq_false_iff_not]; omega
        go_wp2
        go_ret
        exact ⟨rfl, by repeat (first | exact hb | refine Below.alloc ?_ (by have := hb.size; simp; try omega) _)⟩
  · obtain ⟨r, hr⟩ : ∃ r, ((xs.map En.pl).any fun e => underL e.p p.data.toList) = r := ⟨_, rfl⟩
    have HM : Hid (m = rmdirO o r) := by
      rw [Hid, ← hm.out, code_4, rmdirC, getE_pl, ho, ← hr]
      clear ho HO hfile
      cases o <;> rfl
    rw [hr] at hany
    have HA := Lib.hid hany
    obtain ⟨n, hn⟩ : ∃ n, xs.length = n := ⟨_, rfl⟩
    rw [hn] at HG HK hx16 ⊢
    clear ho hs hn hm hL hany hx hfile htok hpp hz hr
    cases o with
    | none =>
      obtain rfl : m = 2 := HM.out
      go_enter Tryd.func76, Tryd.ntmps76
      go_wp2_with fail
      refine (HG.out p _ HO _ (HS.out.below hb)).mono ?_; rintro e W ⟨rfl, hq⟩; replace hb := chn hb hq; replace c0 := keepc hq c0; replace c1 := keepc hq c1; replace c2 := keepc hq c2; replace c3 := keepc hq c3; clear hq
      go_wp2
      go_ret
      exact ⟨rfl, by repeat (first | exact hb | refine Below.alloc ?_ (by have := hb.size; simp; try omega) _)⟩
    | some e =>
      obtain ⟨ep, ed, ex⟩ := e
      cases ed with
      | false =>
        obtain rfl : m = 3 := HM.out
        go_enter Tryd.func76, Tryd.ntmps76
        go_wp2_with fail
        refine (HG.out p _ HO _ (HS.out.below hb)).mono ?_; rintro e W ⟨rfl, hq⟩; replace hb := chn hb hq; replace c0 := keepc hq c0; replace c1 := keepc hq c1; replace c2 := keepc hq c2; replace c3 := keepc hq c3; clear hq
        replace hb := hb.alloc hb.size (.cells #[.string ep, .bool false, .string ex] 31); replace c0 := keepc (bellow_alloc _ (.cells #[.string ep, .bool false, .string ex] 31)) c0; replace c1 := keepc (bellow_alloc _ (.cells #[.string ep, .bool false, .string ex] 31)) c1; replace c2 := keepc (bellow_alloc _ (.cells #[.string ep, .bool false, .string ex] 31)) c2; replace c3 := keepc (bellow_alloc _ (.cells #[.string ep, .bool false, .string ex] 31)) c3; 
        go_wp2
        go_ret
        exact ⟨rfl, by repeat (first | exact hb | refine Below.alloc ?_ (by have := hb.size; simp; try omega) _)⟩
      | true =>
        have HM2 : Hid (m = if r = true then 6 else 0) := HM.out
        clear HM
        go_enter Tryd.func76, Tryd.ntmps76
        go_wp2_with fail
        refine (HG.out p _ HO _ (HS.out.below hb)).mono ?_; rintro e W ⟨rfl, hq⟩; replace hb := chn hb hq; replace c0 := keepc hq c0; replace c1 := keepc hq c1; replace c2 := keepc hq c2; replace c3 := keepc hq c3; clear hq
        replace hb := hb.alloc hb.size (.cells #[.string ep, .bool true, .string ex] 31); replace c0 := keepc (bellow_alloc _ (.cells #[.string ep, .bool true, .string ex] 31)) c0; replace c1 := keepc (bellow_alloc _ (.cells #[.string ep, .bool true, .string ex] 31)) c1; replace c2 := keepc (bellow_alloc _ (.cells #[.string ep, .bool true, .string ex] 31)) c2; replace c3 := keepc (bellow_alloc _ (.cells #[.string ep, .bool true, .string ex] 31)) c3; 
        go_wp2_with fail
        refine (HK.out _ (HS.out.below hb)).mono ?_; rintro e W ⟨v, ss, rfl, hss, oS, hq⟩; replace hb := chn hb hq
        obtain ⟨av, cv, rfl⟩ := own_shape oS
        have HLEN : Hid (ss.length = L.length) := by rw [Hid, ← hss, List.length_map]
        cases r with
        | true =>
          obtain rfl : m = 6 := HM2.out
          have hpos : (0 : Int) < (ss.length : Int) := by
            have h1 := HA.out
            have h2 := HLEN.out
            cases L with
            | nil => simp at h1
            | cons x r => simp at h2; omega
          go_wp2
          go_ret
          exact ⟨rfl, by repeat (first | exact hb | refine Below.alloc ?_ (by have := hb.size; simp; try omega) _)⟩
        | false =>
          obtain rfl : m = 0 := HM2.out
          have h0 : ss.length = 0 := by
            have h1 := HA.out
            have h2 := HLEN.out
            cases L with
            | nil => exact h2
            | cons x r => simp at h1
          have g : decide ((0 : Int) < (ss.length : Int)) = false := by rw [decide_eq_false_iff_not]; omega
          go_wp2
          go_ret
          exact ⟨rfl, by repeat (first | exact hb | refine Below.alloc ?_ (by have := hb.size; simp; try omega) _)⟩
end Go.Proofs.YtobbodbkdcbflabDoor
namespace Go.Proofs.YtobbodbkdcbflabDoor
open Go.RowKit
set_option maxRecDepth 100000 in
set_option maxHeartbeats 8000000 in
theorem l2MoveCode_c (a : Option Addr) (c : Nat) (xs : List En) (k : Int) (p t d : ByteArray) (m : Nat) (hm : Hid (moveC (xs.map En.pl) p.data.toList t.data.toList = m)) (w : World) (hs : SlF En.cells w a xs) (hx : xs.length ≤ maxLen) (hp : p.size ≤ 2000000) (ht : t.size ≤ 2000000) (hpp : pathOkL p.data.toList = true) (htt : pathOkL t.data.toList = true) (hzs : ∀ e ∈ xs, e.p.size ≤ 2000000 ∧ e.x.size ≤ 2000000) :
    Calls Tryd.prog 75 #[.slice a xs.length c, opV k p t d] w fun r w' => r = .returned (.int .i64 m) ∧ Below w.heap.size w w' := by
  have HZ := Lib.hid hzs
  have htm : t.size ≤ maxLen := by unfold maxLen; omega
  have c0 := new_cell w (opBox k p t d) 50 0 _ rfl
  have c1 := new_cell w (opBox k p t d) 50 1 _ rfl
  have c2 := new_cell w (opBox k p t d) 50 2 _ rfl
  have c3 := new_cell w (opBox k p t d) 50 3 _ rfl
  have hb := bellow_alloc w (.cells (opBox k p t d) 50)
  obtain ⟨o, ho⟩ : ∃ o, getE xs p = o := ⟨_, rfl⟩
  obtain ⟨o2, ho2⟩ : ∃ o, getE xs t = o := ⟨_, rfl⟩
  obtain ⟨u, hu⟩ : ∃ u, upCodeL (xs.map En.pl) t.data.toList = u := ⟨_, rfl⟩
  obtain ⟨v, hv⟩ : ∃ v, underL t.data.toList p.data.toList = v := ⟨_, rfl⟩
  obtain ⟨r, hr⟩ : ∃ r, ((xs.map En.pl).any fun e => !moveOkL e.p p.data.toList t.data.toList) = r := ⟨_, rfl⟩
  have HM : Hid (m = if o = none then 2 else if u ≠ 0 then u else if o2.isSome = true then 4 else if v = true then 7 else if r = true then 8 else 0) := by
    rw [Hid, ← hm.out, moveC, getE_pl, getE_pl, ho, ho2, hu, hv, Option.isSome_map, ← hr]
    have e1 : (Option.map En.pl o = none) = (o = none) := by cases o <;> simp
    have e2 : ((xs.map En.pl).all fun e => moveOkL e.p p.data.toList t.data.toList) = !((xs.map En.pl).any fun e => !moveOkL e.p p.data.toList t.data.toList) := by simp [List.any_eq_not_all_not]
    rw [e2]
    simp only [e1]
    cases ((xs.map En.pl).any fun e => !moveOkL e.p p.data.toList t.data.toList) <;> rfl
  have HO : Hid (lgetE xs p = o) := by rw [Hid, lget_of (path_no_root hpp)]; exact ho
  have HO2 : Hid (lgetE xs t = o2) := by rw [Hid, lget_of (path_no_root htt)]; exact ho2
  have HU := Lib.hid (fun W (h : SlF En.cells W a xs) => l2Up_c a c xs t u (Lib.hid hu) W h hx htm)
  have HV : Hid (l1UnderL t.data.toList p.data.toList = v) := by rw [Hid, ← under_l1 htt hpp]; exact hv
  have HR := Lib.hid hr
  have HS := Lib.hid hs
  have HG := Lib.hid (fun (q : ByteArray) (o' : Option En) (ho' : Hid (lgetE xs q = o')) W (h : SlF En.cells W a xs) => l2Get_c a c xs q o' ho' W h hx)
  obtain ⟨n, hn⟩ : ∃ n, xs.length = n := ⟨_, rfl⟩
  have HN := Lib.hid hn
  rw [hn] at HG HU hx ⊢
  unfold maxLen at hx
  clear ho ho2 hu hv hr hm hn hs hzs hpp htt
  cases o with
  | none =>
    obtain rfl : m = 2 := HM.out
    cases o2 with
    | none =>
      go_enter Tryd.func75, Tryd.ntmps75
      go_wp2_with fail
      refine (HG.out p _ HO _ (HS.out.below hb)).mono ?_; rintro e W ⟨rfl, hq⟩; replace hb := chn hb hq; replace c0 := keepc hq c0; replace c1 := keepc hq c1; replace c2 := keepc hq c2; replace c3 := keepc hq c3; clear hq
      replace hb := hb.alloc hb.size (.cells #[.string ⟨#[]⟩, .bool false, .string ⟨#[]⟩] 31); replace c0 := keepc (bellow_alloc _ (.cells #[.string ⟨#[]⟩, .bool false, .string ⟨#[]⟩] 31)) c0; replace c1 := keepc (bellow_alloc _ (.cells #[.string ⟨#[]⟩, .bool false, .string ⟨#[]⟩] 31)) c1; replace c2 := keepc (bellow_alloc _ (.cells #[.string ⟨#[]⟩, .bool false, .string ⟨#[]⟩] 31)) c2; replace c3 := keepc (bellow_alloc _ (.cells #[.string ⟨#[]⟩, .bool false, .string ⟨#[]⟩] 31)) c3; 
      go_wp2_with fail
      refine (HU.out _ (HS.out.below hb)).mono ?_; rintro e W ⟨rfl, hq⟩; replace hb := chn hb hq; replace c0 := keepc hq c0; replace c1 := keepc hq c1; replace c2 := keepc hq c2; replace c3 := keepc hq c3; clear hq
      go_wp2_with fail
      refine (HG.out t _ HO2 _ (HS.out.below hb)).mono ?_; rintro e W ⟨rfl, hq⟩; replace hb := chn hb hq; replace c0 := keepc hq c0; replace c1 := keepc hq c1; replace c2 := keepc hq c2; replace c3 := keepc hq c3; clear hq
      replace hb := hb.alloc hb.size (.cells #[.string ⟨#[]⟩, .bool false, .string ⟨#[]⟩] 31); replace c0 := keepc (bellow_alloc _ (.cells #[.string ⟨#[]⟩, .bool false, .string ⟨#[]⟩] 31)) c0; replace c1 := keepc (bellow_alloc _ (.cells #[.string ⟨#[]⟩, .bool false, .string ⟨#[]⟩] 31)) c1; replace c2 := keepc (bellow_alloc _ (.cells #[.string ⟨#[]⟩, .bool false, .string ⟨#[]⟩] 31)) c2; replace c3 := keepc (bellow_alloc _ (.cells #[.string ⟨#[]⟩, .bool false, .string ⟨#[]⟩] 31)) c3; 
      go_wp2
      go_ret
      exact ⟨rfl, by repeat (first | exact hb | refine Below.alloc ?_ (by have := hb.size; simp; try omega) _)⟩
    | some e2 =>
      obtain ⟨ep2, ed2, ex2⟩ := e2
      go_enter Tryd.func75, Tryd.ntmps75
      go_wp2_with fail
      refine (HG.out p _ HO _ (HS.out.below hb)).mono ?_; rintro e W ⟨rfl, hq⟩; replace hb := chn hb hq; replace c0 := keepc hq c0; replace c1 := keepc hq c1; replace c2 := keepc hq c2; replace c3 := keepc hq c3; clear hq
      replace hb := hb.alloc hb.size (.cells #[.string ⟨#[]⟩, .bool false, .string ⟨#[]⟩] 31); replace c0 := keepc (bellow_alloc _ (.cells #[.string ⟨#[]⟩, .bool false, .string ⟨#[]⟩] 31)) c0; replace c1 := keepc (bellow_alloc _ (.cells #[.string ⟨#[]⟩, .bool false, .string ⟨#[]⟩] 31)) c1; replace c2 := keepc (bellow_alloc _ (.cells #[.string ⟨#[]⟩, .bool false, .string ⟨#[]⟩] 31)) c2; replace c3 := keepc (bellow_alloc _ (.cells #[.string ⟨#[]⟩, .bool false, .string ⟨#[]⟩] 31)) c3; 
      go_wp2_with fail
      refine (HU.out _ (HS.out.below hb)).mono ?_; rintro e W ⟨rfl, hq⟩; replace hb := chn hb hq; replace c0 := keepc hq c0; replace c1 := keepc hq c1; replace c2 := keepc hq c2; replace c3 := keepc hq c3; clear hq
      go_wp2_with fail
      refine (HG.out t _ HO2 _ (HS.out.below hb)).mono ?_; rintro e W ⟨rfl, hq⟩; replace hb := chn hb hq; replace c0 := keepc hq c0; replace c1 := keepc hq c1; replace c2 := keepc hq c2; replace c3 := keepc hq c3; clear hq
      replace hb := hb.alloc hb.size (.cells #[.string ep2, .bool ed2, .string ex2] 31); replace c0 := keepc (bellow_alloc _ (.cells #[.string ep2, .bool ed2, .string ex2] 31)) c0; replace c1 := keepc (bellow_alloc _ (.cells #[.string ep2, .bool ed2, .string ex2] 31)) c1; replace c2 := keepc (bellow_alloc _ (.cells #[.string ep2, .bool ed2, .string ex2] 31)) c2; replace c3 := keepc (bellow_alloc _ (.cells #[.string ep2, .bool ed2, .string ex2] 31)) c3; 
      go_wp2
      go_ret
      exact ⟨rfl, by repeat (first | exact hb | refine Below.alloc ?_ (by have := hb.size; simp; try omega) _)⟩
  | some e =>
  obtain ⟨ep, ed, ex⟩ := e
  by_cases h0 : u = 0
  · subst h0
    cases o2 with
    | some e2 =>
      obtain ⟨ep2, ed2, ex2⟩ := e2
      obtain rfl : m = 4 := HM.out
      go_enter Tryd.func75, Tryd.ntmps75
      go_wp2_with fail
      refine (HG.out p _ HO _ (HS.out.below hb)).mono ?_; rintro e W ⟨rfl, hq⟩; replace hb := chn hb hq; replace c0 := keepc hq c0; replace c1 := keepc hq c1; replace c2 := keepc hq c2; replace c3 := keepc hq c3; clear hq
      replace hb := hb.alloc hb.size (.cells #[.string ep, .bool ed, .string ex] 31); replace c0 := keepc (bellow_alloc _ (.cells #[.string ep, .bool ed, .string ex] 31)) c0; replace c1 := keepc (bellow_alloc _ (.cells #[.string ep, .bool ed, .string ex] 31)) c1; replace c2 := keepc (bellow_alloc _ (.cells #[.string ep, .bool ed, .string ex] 31)) c2; replace c3 := keepc (bellow_alloc _ (.cells #[.string ep, .bool ed, .string ex] 31)) c3; 
      go_wp2_with fail
      refine (HU.out _ (HS.out.below hb)).mono ?_; rintro e W ⟨rfl, hq⟩; replace hb := chn hb hq; replace c0 := keepc hq c0; replace c1 := keepc hq c1; replace c2 := keepc hq c2; replace c3 := keepc hq c3; clear hq
      go_wp2_with fail
      refine (HG.out t _ HO2 _ (HS.out.below hb)).mono ?_; rintro e W ⟨rfl, hq⟩; replace hb := chn hb hq; replace c0 := keepc hq c0; replace c1 := keepc hq c1; replace c2 := keepc hq c2; replace c3 := keepc hq c3; clear hq
      replace hb := hb.alloc hb.size (.cells #[.string ep2, .bool ed2, .string ex2] 31); replace c0 := keepc (bellow_alloc _ (.cells #[.string ep2, .bool ed2, .string ex2] 31)) c0; replace c1 := keepc (bellow_alloc _ (.cells #[.string ep2, .bool ed2, .string ex2] 31)) c1; replace c2 := keepc (bellow_alloc _ (.cells #[.string ep2, .bool ed2, .string ex2] 31)) c2; replace c3 := keepc (bellow_alloc _ (.cells #[.string ep2, .bool ed2, .string ex2] 31)) c3; 
      go_wp2
      go_ret
      exact ⟨rfl, by repeat (first | exact hb | refine Below.alloc ?_ (by have := hb.size; simp; try omega) _)⟩
    | none =>
      cases v with
      | true =>
        obtain rfl : m = 7 := HM.out
        go_enter Tryd.func75, Tryd.ntmps75
        go_wp2_with fail
        refine (HG.out p _ HO _ (HS.out.below hb)).mono ?_; rintro e W ⟨rfl, hq⟩; replace hb := chn hb hq; replace c0 := keepc hq c0; replace c1 := keepc hq c1; replace c2 := keepc hq c2; replace c3 := keepc hq c3; clear hq
        replace hb := hb.alloc hb.size (.cells #[.string ep, .bool ed, .string ex] 31); replace c0 := keepc (bellow_alloc _ (.cells #[.string ep, .bool ed, .string ex] 31)) c0; replace c1 := keepc (bellow_alloc _ (.cells #[.string ep, .bool ed, .string ex] 31)) c1; replace c2 := keepc (bellow_alloc _ (.cells #[.string ep, .bool ed, .string ex] 31)) c2; replace c3 := keepc (bellow_alloc _ (.cells #[.string ep, .bool ed, .string ex] 31)) c3; 
        go_wp2_with fail
        refine (HU.out _ (HS.out.below hb)).mono ?_; rintro e W ⟨rfl, hq⟩; replace hb := chn hb hq; replace c0 := keepc hq c0; replace c1 := keepc hq c1; replace c2 := keepc hq c2; replace c3 := keepc hq c3; clear hq
        go_wp2_with fail
        refine (HG.out t _ HO2 _ (HS.out.below hb)).mono ?_; rintro e W ⟨rfl, hq⟩; replace hb := chn hb hq; replace c0 := keepc hq c0; replace c1 := keepc hq c1; replace c2 := keepc hq c2; replace c3 := keepc hq c3; clear hq
        replace hb := hb.alloc hb.size (.cells #[.string ⟨#[]⟩, .bool false, .string ⟨#[]⟩] 31); replace c0 := keepc (bellow_alloc _ (.cells #[.string ⟨#[]⟩, .bool false, .string ⟨#[]⟩] 31)) c0; replace c1 := keepc (bellow_alloc _ (.cells #[.string ⟨#[]⟩, .bool false, .string ⟨#[]⟩] 31)) c1; replace c2 := keepc (bellow_alloc _ (.cells #[.string ⟨#[]⟩, .bool false, .string ⟨#[]⟩] 31)) c2; replace c3 := keepc (bellow_alloc _ (.cells #[.string ⟨#[]⟩, .bool false, .string ⟨#[]⟩] 31)) c3; 
        go_wp2_with fail
        refine (l1Under_c t p true HV _ ht hp).mono ?_; rintro e W ⟨rfl, rfl⟩
        go_wp2
        go_ret
        exact ⟨rfl, by repeat (first | exact hb | refine Below.alloc ?_ (by have := hb.size; simp; try omega) _)⟩
      | false =>
        have HM2 : Hid (m = if r = true then 8 else 0) := HM.out
        clear HM
        go_enter Tryd.func75, Tryd.ntmps75
        go_wp2_with fail
        refine (HG.out p _ HO _ (HS.out.below hb)).mono ?_; rintro e W ⟨rfl, hq⟩; replace hb := chn hb hq; replace c0 := keepc hq c0; replace c1 := keepc hq c1; replace c2 := keepc hq c2; replace c3 := keepc hq c3; clear hq
        replace hb := hb.alloc hb.size (.cells #[.string ep, .bool ed, .string ex] 31); replace c0 := keepc (bellow_alloc _ (.cells #[.string ep, .bool ed, .string ex] 31)) c0; replace c1 := keepc (bellow_alloc _ (.cells #[.string ep, .bool ed, .string ex] 31)) c1; replace c2 := keepc (bellow_alloc _ (.cells #[.string ep, .bool ed, .string ex] 31)) c2; replace c3 := keepc (bellow_alloc _ (.cells #[.string ep, .bool ed, .string ex] 31)) c3; 
        go_wp2_with fail
        refine (HU.out _ (HS.out.below hb)).mono ?_; rintro e W ⟨rfl, hq⟩; replace hb := chn hb hq; replace c0 := keepc hq c0; replace c1 := keepc hq c1; replace c2 := keepc hq c2; replace c3 := keepc hq c3; clear hq
        go_wp2_with fail
        refine (HG.out t _ HO2 _ (HS.out.below hb)).mono ?_; rintro e W ⟨rfl, hq⟩; replace hb := chn hb hq; replace c0 := keepc hq c0; replace c1 := keepc hq c1; replace c2 := keepc hq c2; replace c3 := keepc hq c3; clear hq
        replace hb := hb.alloc hb.size (.cells #[.string ⟨#[]⟩, .bool false, .string ⟨#[]⟩] 31); replace c0 := keepc (bellow_alloc _ (.cells #[.string ⟨#[]⟩, .bool false, .string ⟨#[]⟩] 31)) c0; replace c1 := keepc (bellow_alloc _ (.cells #[.string ⟨#[]⟩, .bool false, .string ⟨#[]⟩] 31)) c1; replace c2 := keepc (bellow_alloc _ (.cells #[.string ⟨#[]⟩, .bool false, .string ⟨#[]⟩] 31)) c2; replace c3 := keepc (bellow_alloc _ (.cells #[.string ⟨#[]⟩, .bool false, .string ⟨#[]⟩] 31)) c3; 
        go_wp2_with fail
        refine (l1Under_c t p false HV _ ht hp).mono ?_; rintro e z ⟨rfl, hzq⟩
        have C1 := Lib.hid (hzq ▸ c1)
        have C2 := Lib.hid (hzq ▸ c2)
        have HBZ := Lib.hid (hzq ▸ hb : Below w.heap.size w z)
        have HSZ := Lib.hid (HS.out.below HBZ.out)
        clear hzq c0 c1 c2 c3 hb
        go_wp2
        go_loopw [10] (fun i wr => ∃ j : Nat, j ≤ n ∧ i = .int .i64 j ∧ (∀ (i : Nat) (f : En), i < j → xs[i]? = some f → moveOkL f.p.data.toList p.data.toList t.data.toList = true) ∧ Below z.heap.size z wr) (fun i _ => n - (intOf i).toNat)
        case atStart => exact ⟨0, Nat.zero_le _, rfl, fun i f h => absurd h (by omega), Below.refl _ _⟩
        case round =>
          obtain ⟨j, hj, rfl, hall, hb⟩ := hrel
          have HA := Lib.hid hall
          clear hall
          have c1 := keepc hb C1.out
          have c2 := keepc hb C2.out
          by_cases hlt : j < n
          · obtain ⟨e, hee⟩ : ∃ e, xs[j]? = some e := ⟨_, List.getElem?_eq_getElem (by rw [HN.out]; exact hlt)⟩
            have hzz := HZ.out e (List.mem_of_getElem? hee)
            have h2 := HSZ.out.below hb
            obtain ⟨b, off, rfl, _⟩ := h2.addr (by rw [HN.out]; omega)
            obtain ⟨d0, d1, d2⟩ := en_at h2 j e hee
            have i0 : (0 : Int) ≤ (j : Int) := by omega
            have i1 : (j : Int) < (n : Int) := by omega
            obtain ⟨u, hu⟩ : ∃ u, moveOkL e.p.data.toList p.data.toList t.data.toList = u := ⟨_, rfl⟩
            have HU2 := Lib.hid hu
            obtain ⟨mv, hmv⟩ : ∃ mv : ByteArray, moveL e.p.data.toList p.data.toList t.data.toList = mv.data.toList := ⟨⟨(moveL e.p.data.toList p.data.toList t.data.toList).toArray⟩, by simp⟩
            have HMV := Lib.hid hmv
            have HYES : Hid (u = false → r = true) := fun h => by rw [← HR.out]; exact anyE_at (P := fun e => !moveOkL e.p p.data.toList t.data.toList) j e hee (by show (!moveOkL e.p.data.toList p.data.toList t.data.toList) = true; rw [hu, h]; rfl)
            have HNO : Hid (u = true → ∀ (i : Nat) (f : En), i < j + 1 → xs[i]? = some f → moveOkL f.p.data.toList p.data.toList t.data.toList = true) := fun h i f hi hf => by
              by_cases ej : i = j
              · subst ej; rw [hee] at hf; injection hf with hf; rw [← hf]; exact hu.trans h
              · exact HA.out i f (by omega) hf
            obtain ⟨fp, fd, fx⟩ := e
            clear hu hee h2 hmv
            go_wp2_with fail
            refine wp_region_held_drew (S := fun w' => Below _ _ w') (by kernel_rfl) (below_drew _) (fun hHeld => ?_)
            refine tk (i := 0) (d := (some 53)) (v := ?_) rfl rfl (by kernel_rfl) (by kernel_rfl) (by kernel_rfl) (fun _ _ _ h => h) (Or.inl ⟨by rfl, ?_⟩) hHeld ?_
            rotate_left
            · intro w hSw; have zd0 := keepc hSw d0; have zc1 := keepc hSw c1; have zc2 := keepc hSw c2; clear hSw; go_simp <;> with_reducible rfl
            (try simp only [Act.put, List.setIfInBounds_toArray, List.set_cons_zero, List.set_cons_succ])
            refine tk (i := 1) (d := (some 54)) (v := ?_) rfl rfl (by kernel_rfl) (by kernel_rfl) (by kernel_rfl) (fun _ _ _ h => h) (Or.inl ⟨by rfl, ?_⟩) hHeld ?_
            rotate_left
            · intro w hSw; have zd0 := keepc hSw d0; have zc1 := keepc hSw c1; have zc2 := keepc hSw c2; clear hSw; go_simp <;> with_reducible rfl
            (try simp only [Act.put, List.setIfInBounds_toArray, List.set_cons_zero, List.set_cons_succ])
            refine tk (i := 2) (d := (some 55)) (v := ?_) rfl rfl (by kernel_rfl) (by kernel_rfl) (by kernel_rfl) (fun _ _ _ h => h) (Or.inl ⟨by rfl, ?_⟩) hHeld ?_
            rotate_left
            · intro w hSw; have zd0 := keepc hSw d0; have zc1 := keepc hSw c1; have zc2 := keepc hSw c2; clear hSw; go_simp <;> with_reducible rfl
            (try simp only [Act.put, List.setIfInBounds_toArray, List.set_cons_zero, List.set_cons_succ])
            refine tk (i := 3) (d := (some 56)) (v := ?_) rfl rfl (by kernel_rfl) (by kernel_rfl) (by kernel_rfl) (fun _ _ _ h => h) (Or.inl ⟨by rfl, ?_⟩) hHeld ?_
            rotate_left
            · intro w hSw; have zd0 := keepc hSw d0; have zc1 := keepc hSw c1; have zc2 := keepc hSw c2; clear hSw; go_simp <;> with_reducible rfl
            (try simp only [Act.put, List.setIfInBounds_toArray, List.set_cons_zero, List.set_cons_succ])
            refine tk (i := 4) (d := (some 57)) (v := ?_) rfl rfl (by kernel_rfl) (by kernel_rfl) (by kernel_rfl) (fun _ _ _ h => h) (Or.inl ⟨by rfl, ?_⟩) hHeld ?_
            rotate_left
            · intro w hSw; have zd0 := keepc hSw d0; have zc1 := keepc hSw c1; have zc2 := keepc hSw c2; clear hSw; go_simp <;> with_reducible rfl
            (try simp only [Act.put, List.setIfInBounds_toArray, List.set_cons_zero, List.set_cons_succ])
            refine tk (i := 5) (d := (some 58)) (v := ?_) rfl rfl (by kernel_rfl) (by kernel_rfl) (by kernel_rfl) (fun _ _ _ h => h) (Or.inl ⟨by rfl, ?_⟩) hHeld ?_
            rotate_left
            · intro w hSw; have zd0 := keepc hSw d0; have zc1 := keepc hSw c1; have zc2 := keepc hSw c2; clear hSw; go_simp <;> with_reducible rfl
            (try simp only [Act.put, List.setIfInBounds_toArray, List.set_cons_zero, List.set_cons_succ])
            refine tk (i := 6) (d := (some 59)) (v := ?_) rfl rfl (by kernel_rfl) (by kernel_rfl) (by kernel_rfl) (fun _ _ _ h => h) (Or.inl ⟨by rfl, ?_⟩) hHeld ?_
            rotate_left
            · intro w hSw; have zd0 := keepc hSw d0; have zc1 := keepc hSw c1; have zc2 := keepc hSw c2; clear hSw; go_simp <;> with_reducible rfl
            (try simp only [Act.put, List.setIfInBounds_toArray, List.set_cons_zero, List.set_cons_succ])
            refine tk (i := 7) (d := (some 60)) (v := ?_) rfl rfl (by kernel_rfl) (by kernel_rfl) (by kernel_rfl) (fun _ _ _ h => h) (Or.inl ⟨by rfl, ?_⟩) hHeld ?_
            rotate_left
            · intro w hSw; have zd0 := keepc hSw d0; have zc1 := keepc hSw c1; have zc2 := keepc hSw c2; clear hSw; go_simp <;> with_reducible rfl
            (try simp only [Act.put, List.setIfInBounds_toArray, List.set_cons_zero, List.set_cons_succ])
            refine tk (i := 8) (d := (some 61)) (v := ?_) rfl rfl (by kernel_rfl) (by kernel_rfl) (by kernel_rfl) (fun _ _ _ h => h) (Or.inl ⟨by rfl, ?_⟩) hHeld ?_
            rotate_left
            · intro w hSw; have zd0 := keepc hSw d0; have zc1 := keepc hSw c1; have zc2 := keepc hSw c2; clear hSw; go_simp <;> with_reducible rfl
            (try simp only [Act.put, List.setIfInBounds_toArray, List.set_cons_zero, List.set_cons_succ])
            refine wpAnyH_ready (rs := [9]) (by kernel_rfl) (by simp) ?_
            refine AllReadyH.cons rfl (fun K hK => ?_) AllReadyH.nil
            go_simp
            refine (sPathMove_c fp p t mv u HMV HU2 _ hzz.1 hp ht).mono ?_; rintro e W ⟨rfl, hq⟩
            go_simp
            refine hK.out _ _ (chn hHeld hq) (fun h => ?_)
            clear hK K; replace hHeld := h; clear h hq
            (try simp only [Act.put, List.setIfInBounds_toArray, List.set_cons_zero, List.set_cons_succ])
            refine tk (i := 10) (d := (some 52)) (v := ?_) rfl rfl (by kernel_rfl) (by kernel_rfl) (by kernel_rfl) (fun _ _ _ h => h) (Or.inl ⟨by rfl, ?_⟩) hHeld ?_
            rotate_left
            · intro w hSw; have zd0 := keepc hSw d0; have zc1 := keepc hSw c1; have zc2 := keepc hSw c2; clear hSw; go_simp <;> with_reducible rfl
            (try simp only [Act.put, List.setIfInBounds_toArray, List.set_cons_zero, List.set_cons_succ])
            refine tk (i := 11) (d := (some 63)) (v := ?_) rfl rfl (by kernel_rfl) (by kernel_rfl) (by kernel_rfl) (fun _ _ _ h => h) (Or.inl ⟨by rfl, ?_⟩) hHeld ?_
            rotate_left
            · intro w hSw; have zd0 := keepc hSw d0; have zc1 := keepc hSw c1; have zc2 := keepc hSw c2; clear hSw; go_simp <;> with_reducible rfl
            (try simp only [Act.put, List.setIfInBounds_toArray, List.set_cons_zero, List.set_cons_succ])
            refine tk (i := 12) (d := (some 64)) (v := ?_) rfl rfl (by kernel_rfl) (by kernel_rfl) (by kernel_rfl) (fun _ _ _ h => h) (Or.inl ⟨by rfl, ?_⟩) hHeld ?_
            rotate_left
            · intro w hSw; have zd0 := keepc hSw d0; have zc1 := keepc hSw c1; have zc2 := keepc hSw c2; clear hSw; go_simp <;> with_reducible rfl
            (try simp only [Act.put, List.setIfInBounds_toArray, List.set_cons_zero, List.set_cons_succ])
            refine tk (i := 13) (d := (some 11)) (v := ?_) rfl rfl (by kernel_rfl) (by kernel_rfl) (by kernel_rfl) (fun _ _ _ h => h) (Or.inl ⟨by rfl, ?_⟩) hHeld ?_
            rotate_left
            · intro w hSw; have zd0 := keepc hSw d0; have zc1 := keepc hSw c1; have zc2 := keepc hSw c2; clear hSw; go_simp <;> with_reducible rfl
            (try simp only [Act.put, List.setIfInBounds_toArray, List.set_cons_zero, List.set_cons_succ])
            refine tk (i := 14) (d := (some 12)) (v := ?_) rfl rfl (by kernel_rfl) (by kernel_rfl) (by kernel_rfl) (fun _ _ _ h => h) (Or.inl ⟨by rfl, ?_⟩) hHeld ?_
            rotate_left
            · intro w hSw; have zd0 := keepc hSw d0; have zc1 := keepc hSw c1; have zc2 := keepc hSw c2; clear hSw; go_simp <;> with_reducible rfl
            (try simp only [Act.put, List.setIfInBounds_toArray, List.set_cons_zero, List.set_cons_succ])
            refine wpAnyH_done (by kernel_rfl) ?_ _
            replace hb := chn hb hHeld; clear hHeld
            cases u with
            | false =>
              obtain rfl : r = true := HYES.out (by simp)
              obtain rfl : m = 8 := HM2.out
              go_wp2
              go_ret
              exact ⟨rfl, HBZ.out.trans (hb.mono HBZ.out.size)⟩
            | true =>
              go_wp2
              go_roundw
              case rel => exact ⟨j + 1, by omega, by go_num, HNO.out (by simp), hb⟩
              case measure => simp [intOf]; omega
          · obtain rfl : r = false := by
              rw [← HR.out]
              exact anyE_no (P := fun e => !moveOkL e.p p.data.toList t.data.toList) (fun i f hf => by
                show (!moveOkL f.p.data.toList p.data.toList t.data.toList) = false
                rw [HA.out i f (by have := (List.getElem?_eq_some_iff.1 hf).1; rw [HN.out] at this; omega) hf]; rfl)
            obtain rfl : m = 0 := HM2.out
            go_wp2
            go_ret
            exact ⟨rfl, HBZ.out.trans (hb.mono HBZ.out.size)⟩
  · obtain rfl : m = u := by rw [HM.out, if_neg (by simp), if_pos h0]
    have hne : ((m : Int) != 0) = true := by rw [bne_iff_ne]; omega
    cases o2 with
    | none =>
      go_enter Tryd.func75, Tryd.ntmps75
      go_wp2_with fail
      refine (HG.out p _ HO _ (HS.out.below hb)).mono ?_; rintro e W ⟨rfl, hq⟩; replace hb := chn hb hq; replace c0 := keepc hq c0; replace c1 := keepc hq c1; replace c2 := keepc hq c2; replace c3 := keepc hq c3; clear hq
      replace hb := hb.alloc hb.size (.cells #[.string ep, .bool ed, .string ex] 31); replace c0 := keepc (bellow_alloc _ (.cells #[.string ep, .bool ed, .string ex] 31)) c0; replace c1 := keepc (bellow_alloc _ (.cells #[.string ep, .bool ed, .string ex] 31)) c1; replace c2 := keepc (bellow_alloc _ (.cells #[.string ep, .bool ed, .string ex] 31)) c2; replace c3 := keepc (bellow_alloc _ (.cells #[.string ep, .bool ed, .string ex] 31)) c3; 
      go_wp2_with fail
      refine (HU.out _ (HS.out.below hb)).mono ?_; rintro e W ⟨rfl, hq⟩; replace hb := chn hb hq; replace c0 := keepc hq c0; replace c1 := keepc hq c1; replace c2 := keepc hq c2; replace c3 := keepc hq c3; clear hq
      go_wp2_with fail
      refine (HG.out t _ HO2 _ (HS.out.below hb)).mono ?_; rintro e W ⟨rfl, hq⟩; replace hb := chn hb hq; replace c0 := keepc hq c0; replace c1 := keepc hq c1; replace c2 := keepc hq c2; replace c3 := keepc hq c3; clear hq
      replace hb := hb.alloc hb.size (.cells #[.string ⟨#[]⟩, .bool false, .string ⟨#[]⟩] 31); replace c0 := keepc (bellow_alloc _ (.cells #[.string ⟨#[]⟩, .bool false, .string ⟨#[]⟩] 31)) c0; replace c1 := keepc (bellow_alloc _ (.cells #[.string ⟨#[]⟩, .bool false, .string ⟨#[]⟩] 31)) c1; replace c2 := keepc (bellow_alloc _ (.cells #[.string ⟨#[]⟩, .bool false, .string ⟨#[]⟩] 31)) c2; replace c3 := keepc (bellow_alloc _ (.cells #[.string ⟨#[]⟩, .bool false, .string ⟨#[]⟩] 31)) c3; 
      go_wp2
      go_ret
      exact ⟨rfl, by repeat (first | exact hb | refine Below.alloc ?_ (by have := hb.size; simp; try omega) _)⟩
    | some e2 =>
      obtain ⟨ep2, ed2, ex2⟩ := e2
      go_enter Tryd.func75, Tryd.ntmps75
      go_wp2_with fail
      refine (HG.out p _ HO _ (HS.out.below hb)).mono ?_; rintro e W ⟨rfl, hq⟩; replace hb := chn hb hq; replace c0 := keepc hq c0; replace c1 := keepc hq c1; replace c2 := keepc hq c2; replace c3 := keepc hq c3; clear hq
      replace hb := hb.alloc hb.size (.cells #[.string ep, .bool ed, .string ex] 31); replace c0 := keepc (bellow_alloc _ (.cells #[.string ep, .bool ed, .string ex] 31)) c0; replace c1 := keepc (bellow_alloc _ (.cells #[.string ep, .bool ed, .string ex] 31)) c1; replace c2 := keepc (bellow_alloc _ (.cells #[.string ep, .bool ed, .string ex] 31)) c2; replace c3 := keepc (bellow_alloc _ (.cells #[.string ep, .bool ed, .string ex] 31)) c3; 
      go_wp2_with fail
      refine (HU.out _ (HS.out.below hb)).mono ?_; rintro e W ⟨rfl, hq⟩; replace hb := chn hb hq; replace c0 := keepc hq c0; replace c1 := keepc hq c1; replace c2 := keepc hq c2; replace c3 := keepc hq c3; clear hq
      go_wp2_with fail
      refine (HG.out t _ HO2 _ (HS.out.below hb)).mono ?_; rintro e W ⟨rfl, hq⟩; replace hb := chn hb hq; replace c0 := keepc hq c0; replace c1 := keepc hq c1; replace c2 := keepc hq c2; replace c3 := keepc hq c3; clear hq
      replace hb := hb.alloc hb.size (.cells #[.string ep2, .bool ed2, .string ex2] 31); replace c0 := keepc (bellow_alloc _ (.cells #[.string ep2, .bool ed2, .string ex2] 31)) c0; replace c1 := keepc (bellow_alloc _ (.cells #[.string ep2, .bool ed2, .string ex2] 31)) c1; replace c2 := keepc (bellow_alloc _ (.cells #[.string ep2, .bool ed2, .string ex2] 31)) c2; replace c3 := keepc (bellow_alloc _ (.cells #[.string ep2, .bool ed2, .string ex2] 31)) c3; 
      go_wp2
      go_ret
      exact ⟨rfl, by repeat (first | exact hb | refine Below.alloc ?_ (by have := hb.size; simp; try omega) _)⟩
set_option maxHeartbeats 4000000 in
theorem l2Code_c (a : Option Addr) (c : Nat) (xs : List En) (k : Int) (p t d : ByteArray) (m : Nat) (hm : Hid (codeL (xs.map En.pl) k p.data.toList t.data.toList = m)) (hok : opOkL k p.data.toList t.data.toList d.data.toList = true) (w : World) (hs : SlF En.cells w a xs) (htok : TOk (xs.map En.pl)) (hp : p.size ≤ 2000000) (ht : t.size ≤ 2000000) (hzs : ∀ e ∈ xs, e.p.size ≤ 2000000 ∧ e.x.size ≤ 2000000) :
    Calls Tryd.prog 44 #[.slice a xs.length c, opV k p t d] w fun r w' => r = .returned (.int .i64 m) ∧ Below w.heap.size w w' := by
  have hm2 : (2000000 : Nat) ≤ maxLen := by unfold maxLen; omega
  have hpm := Nat.le_trans hp hm2
  have htm := Nat.le_trans ht hm2
  have hx16 : xs.length ≤ 16 := by have := htok.most; rw [List.length_map] at this; exact this
  have hx : xs.length ≤ maxLen := by omega
  have hpp := opOk_p hok
  have c0 := new_cell w (opBox k p t d) 50 0 _ rfl
  have c1 := new_cell w (opBox k p t d) 50 1 _ rfl
  have c2 := new_cell w (opBox k p t d) 50 2 _ rfl
  have c3 := new_cell w (opBox k p t d) 50 3 _ rfl
  have hb := bellow_alloc w (.cells (opBox k p t d) 50)
  have HS := Lib.hid hs
  have h2 := hm.out
  rcases opOk_k hok with rfl | rfl | rfl | rfl | rfl
  · have HC := Lib.hid (fun W (h : SlF En.cells W a xs) => l2New_c a c xs p m (by rw [Hid, ← h2, code_1]) W h hx hpm (path_no_root hpp))
    clear h2 hx hpp
    obtain ⟨n, hn⟩ : ∃ n, xs.length = n := ⟨_, rfl⟩
    rw [hn] at HC ⊢
    clear hn hs hm hzs hx16 htok hok
    go_enter Tryd.func44, Tryd.ntmps44
    go_wp2_with fail
    refine (HC.out _ (HS.out.below hb)).mono ?_; rintro e W ⟨rfl, hq⟩; replace hb := chn hb hq; clear hq
    go_wp2
    go_ret
    exact ⟨rfl, by repeat (first | exact hb | refine Below.alloc ?_ (by have := hb.size; simp; try omega) _)⟩
  · have HC := Lib.hid (fun W (h : SlF En.cells W a xs) => l2PutCode_c a c xs p m (by rw [Hid, ← h2, code_2]) W h hx hpm (path_no_root hpp))
    clear h2 hx hpp
    obtain ⟨n, hn⟩ : ∃ n, xs.length = n := ⟨_, rfl⟩
    rw [hn] at HC ⊢
    clear hn hs hm hzs hx16 htok hok
    go_enter Tryd.func44, Tryd.ntmps44
    go_wp2_with fail
    refine (HC.out _ (HS.out.below hb)).mono ?_; rintro e W ⟨rfl, hq⟩; replace hb := chn hb hq; clear hq
    go_wp2
    go_ret
    exact ⟨rfl, by repeat (first | exact hb | refine Below.alloc ?_ (by have := hb.size; simp; try omega) _)⟩
  · have HC := Lib.hid (fun W (h : SlF En.cells W a xs) => l2OffCode_c a c xs 3 p t d m (.inl rfl) hm W h htok hpp (fun e he => ⟨Nat.le_trans (hzs e he).1 hm2, Nat.le_trans (hzs e he).2 hm2⟩))
    clear h2 hx hpp
    obtain ⟨n, hn⟩ : ∃ n, xs.length = n := ⟨_, rfl⟩
    rw [hn] at HC ⊢
    clear hn hs hm hzs hx16 htok hok
    go_enter Tryd.func44, Tryd.ntmps44
    go_wp2_with fail
    refine (HC.out _ (HS.out.below hb)).mono ?_; rintro e W ⟨rfl, hq⟩; replace hb := chn hb hq; clear hq
    go_wp2
    go_ret
    exact ⟨rfl, by repeat (first | exact hb | refine Below.alloc ?_ (by have := hb.size; simp; try omega) _)⟩
  · have HC := Lib.hid (fun W (h : SlF En.cells W a xs) => l2OffCode_c a c xs 4 p t d m (.inr rfl) hm W h htok hpp (fun e he => ⟨Nat.le_trans (hzs e he).1 hm2, Nat.le_trans (hzs e he).2 hm2⟩))
    clear h2 hx hpp
    obtain ⟨n, hn⟩ : ∃ n, xs.length = n := ⟨_, rfl⟩
    rw [hn] at HC ⊢
    clear hn hs hm hzs hx16 htok hok
    go_enter Tryd.func44, Tryd.ntmps44
    go_wp2_with fail
    refine (HC.out _ (HS.out.below hb)).mono ?_; rintro e W ⟨rfl, hq⟩; replace hb := chn hb hq; clear hq
    go_wp2
    go_ret
    exact ⟨rfl, by repeat (first | exact hb | refine Below.alloc ?_ (by have := hb.size; simp; try omega) _)⟩
  · have htt : pathOkL t.data.toList = true := by rw [opOk_5] at hok; simp only [Bool.and_eq_true] at hok; exact hok.2.1
    have HC := Lib.hid (fun W (h : SlF En.cells W a xs) => l2MoveCode_c a c xs 5 p t d m (by rw [Hid, ← h2, code_5]) W h hx hp ht hpp htt hzs)
    clear h2 hx hpp htt
    obtain ⟨n, hn⟩ : ∃ n, xs.length = n := ⟨_, rfl⟩
    rw [hn] at HC ⊢
    clear hn hs hm hzs hx16 htok hok
    go_enter Tryd.func44, Tryd.ntmps44
    go_wp2_with fail
    refine (HC.out _ (HS.out.below hb)).mono ?_; rintro e W ⟨rfl, hq⟩; replace hb := chn hb hq; clear hq
    go_wp2
    go_ret
    exact ⟨rfl, by repeat (first | exact hb | refine Below.alloc ?_ (by have := hb.size; simp; try omega) _)⟩
end Go.Proofs.YtobbodbkdcbflabDoor
namespace Go.Proofs.YtobbodbkdcbflabDoor
open Go.RowKit
/-- The cells of what stands at place k in a row. -/
theorem flat_of {α : Type} {f : α → List Value} (hf : ∀ x, (f x).length = 3) {j : Nat} (hj : j < 3) : ∀ (ys : List α) (k : Nat) (y : α), ys[k]? = some y → (ys.flatMap f)[k * 3 + j]? = (f y)[j]? := by
  intro ys
  induction ys with
  | nil => intro k y hy; simp at hy
  | cons z r ih =>
    intro k y hy
    rw [List.flatMap_cons]
    cases k with
    | zero =>
      simp at hy; subst hy
      rw [Nat.zero_mul, Nat.zero_add, List.getElem?_append_left (by rw [hf]; exact hj)]
    | succ k =>
      rw [List.getElem?_append_right (by rw [hf]; omega), show (k + 1) * 3 + j - (f z).length = k * 3 + j by rw [hf]; omega]
      exact ih k y (by simpa using hy)
theorem own_slf {α : Type} {f : α → List Value} (hf : ∀ x, (f x).length = 3) {w : World} {B c : Nat} {a : Option Addr} {t : TypeId} {xs : List α} (h : w.ownsRow B t 3 (.slice a xs.length c) xs.length (xs.flatMap f)) : SlF f w a xs := fun hn => by
  obtain ⟨g, c', hv, _, _, hlt, hc, _⟩ := own_form h hn
  have ha : a = some ⟨g, 0, none⟩ := by injection hv
  subst ha
  refine ⟨g, 0, rfl, hlt, fun k x hx j u hu => ?_⟩
  rw [Nat.zero_add]
  have hj : j < 3 := by have := (List.getElem?_eq_some_iff.1 hu).1; rw [hf] at this; exact this
  exact hc _ _ (by rw [flat_of hf hj xs k x hx]; exact hu)
/-- Marks that the call made, and whether it could. -/
def MadeMb (l : List PM) (b : Bool) (w : World) (e : Ending) (w' : World) : Prop :=
  ∃ (a : Option Addr) (c : Nat) (ms : List Mk), e = .returned (.tuple #[.slice a ms.length c, .bool b]) ∧ ms.map Mk.pl = l ∧ OwnMk w' w.heap.size (.slice a ms.length c) ms ∧ Below w.heap.size w w'
/-- Marks that the call made. -/
def MadeMl (l : List PM) (w : World) (e : Ending) (w' : World) : Prop :=
  ∃ (a : Option Addr) (c : Nat) (ms : List Mk), e = .returned (.slice a ms.length c) ∧ ms.map Mk.pl = l ∧ OwnMk w' w.heap.size (.slice a ms.length c) ms ∧ Below w.heap.size w w'
/-- Entries that the call made, and whether it could. -/
def MadeEb (l : List PE) (b : Bool) (w : World) (e : Ending) (w' : World) : Prop :=
  ∃ (a : Option Addr) (c : Nat) (ms : List En), e = .returned (.tuple #[.slice a ms.length c, .bool b]) ∧ ms.map En.pl = l ∧ OwnEn w' w.heap.size (.slice a ms.length c) ms ∧ Below w.heap.size w w'
/-- Entries that the call made, and how it ended. -/
def MadeEi (l : List PE) (k : Nat) (w : World) (e : Ending) (w' : World) : Prop :=
  ∃ (a : Option Addr) (c : Nat) (ms : List En), e = .returned (.tuple #[.slice a ms.length c, .int .i64 (k : Int)]) ∧ ms.map En.pl = l ∧ OwnEn w' w.heap.size (.slice a ms.length c) ms ∧ Below w.heap.size w w'
theorem map_inj_ {α β : Type} {f : α → β} (hf : ∀ {x y}, f x = f y → x = y) : ∀ {a b : List α}, a.map f = b.map f → a = b
  | [], [], _ => rfl
  | [], _ :: _, h => by simp at h
  | _ :: _, [], h => by simp at h
  | x :: a, y :: b, h => by
    simp only [List.map_cons, List.cons.injEq] at h
    rw [hf h.1, map_inj_ hf h.2]
theorem own_slfN {α : Type} {f : α → List Value} (hf : ∀ x, (f x).length = 3) {w : World} {B c n : Nat} {a : Option Addr} {t : TypeId} {xs : List α} (h : w.ownsRow B t 3 (.slice a n c) n (xs.flatMap f)) (hn : xs.length = n) : SlF f w a xs := by
  subst hn; exact own_slf hf h
end Go.Proofs.YtobbodbkdcbflabDoor
namespace Go.Proofs.YtobbodbkdcbflabDoor
open Go.RowKit
/-- A row of entries of the call's own, with an array behind it. -/
def OwnRe (w : World) (B : Nat) (v : Value) (ms : List En) : Prop :=
  ∃ g c, v = .slice (some ⟨g, 0, none⟩) ms.length c ∧ ms.length ≤ c ∧ c ≤ maxLen ∧ OwnEn w B (.slice (some ⟨g, 0, none⟩) ms.length c) ms
theorem OwnRe.below {w w' : World} {B : Nat} {v : Value} {ms : List En} (h : OwnRe w B v ms) (hq : Below w.heap.size w w') : OwnRe w' B v ms := by
  obtain ⟨g, c, h1, h2, h3, h4⟩ := h
  exact ⟨g, c, h1, h2, h3, own_below h4 hq⟩
/-- A slice of entries with an array behind it, that can be read and be put into. -/
def ReadEn (w : World) (a : Option Addr) (c : Nat) (xs : List En) : Prop := ∃ b off, a = some ⟨b, off, none⟩ ∧ b < w.heap.size ∧ SlF En.cells w (some ⟨b, off, none⟩) xs ∧ xs.length ≤ c ∧ c ≤ maxLen
theorem ReadEn.below {w w' : World} {a : Option Addr} {c : Nat} {xs : List En} (h : ReadEn w a c xs) (hq : Below w.heap.size w w') : ReadEn w' a c xs := by
  obtain ⟨b, off, h1, h2, h3, h4⟩ := h
  exact ⟨b, off, h1, Nat.lt_of_lt_of_le h2 hq.size, h3.below hq, h4⟩
theorem ReadEn.sl {w : World} {a : Option Addr} {c : Nat} {xs : List En} (h : ReadEn w a c xs) : SlF En.cells w a xs := by
  obtain ⟨b, off, rfl, _, h3, _⟩ := h; exact h3
theorem OwnRe.read {w : World} {B : Nat} {v : Value} {ms : List En} (h : OwnRe w B v ms) : ∃ a c, v = .slice a ms.length c ∧ ReadEn w a c ms := by
  obtain ⟨g, c, h1, h2, h3, h4⟩ := h
  exact ⟨_, c, h1, g, 0, rfl, (h4.lt g rfl).2, own_slf (fun _ => rfl) h4, h2, h3⟩
/-- Entries that the call made, with an array behind them. -/
def MadeEl (l : List PE) (w : World) (e : Ending) (w' : World) : Prop :=
  ∃ (v : Value) (ms : List En), e = .returned v ∧ ms.map En.pl = l ∧ OwnRe w' w.heap.size v ms ∧ Below w.heap.size w w'
theorem ownRe_of {w : World} {B : Nat} {v : Value} {ms : List En} (h : w.ownsRow B 31 3 v ms.length (ms.flatMap En.cells)) (hv : v.ownBlock ≠ none) : OwnRe w B v ms := by
  have h0 := h
  rcases h.2 with ⟨rfl, h1⟩ | ⟨g, cap, cur, rfl, hg, hh, hnc, hm, h2, h3⟩
  · exact absurd rfl hv
  · exact ⟨g, cap, rfl, hnc, hm, h0⟩
/-- The contract of l2Put, as the rows of the call's own meet it. -/
theorem l2PutO_c (B : Nat) (v : Value) (ms : List En) (e : En) (w : World) (h : OwnRe w B v ms) (hB : B ≤ w.heap.size) (hn : ms.length ≤ 1000) :
    Calls Tryd.prog 52 #[v, e.val] w fun r w' => ∃ v', r = .returned v' ∧ OwnRe w' B v' (putP En.bs ms e) ∧ Below w.heap.size w w' := by
  obtain ⟨g, c, rfl, h2, h3, h4⟩ := h
  refine (l2Put_c g 0 c ms e _ (Lib.hid rfl) w (own_slf (fun _ => rfl) h4) (h4.lt g rfl).2 (by omega) h2 h3).mono ?_
  rintro r w' ⟨g', c', rfl, h5, h6, h7, h8⟩
  exact ⟨_, rfl, ⟨g', c', rfl, h5, h6, own_mono h7 hB⟩, h8⟩
theorem eput_len (xs : List En) (y : En) : (putP En.bs xs y).length ≤ xs.length + 1 := by
  induction xs with
  | nil => simp [putP]
  | cons x a ih =>
    rw [putP]
    split
    · simp only [List.length_cons]; omega
    · split
      · simp only [List.length_cons]; omega
      · simp only [List.length_cons]; omega
theorem keep_snoc' (xs : List En) (k : Nat) (e : En) (he : xs[k]? = some e) (p : Bs) (ms : List En) (h : ms.map En.pl = ((xs.take k).map En.pl).filter fun e => !(e.p == p)) :
    (ms ++ if e.p.data.toList = p then [] else [e]).map En.pl = ((xs.take (k + 1)).map En.pl).filter fun e => !(e.p == p) := by
  rw [take_pl xs k e he, List.filter_append, List.map_append, h]
  congr 1
  rw [List.filter_cons]
  by_cases hp : e.p.data.toList = p
  · rw [if_pos hp, if_neg (by rw [show e.pl.p = e.p.data.toList from rfl, hp]; simp)]; rfl
  · rw [if_neg hp, if_pos (by rw [show e.pl.p = e.p.data.toList from rfl]; simpa using hp)]; rfl
theorem keep_len' (xs : List En) (k : Nat) (p : Bs) (ms : List En) (h : ms.map En.pl = ((xs.take k).map En.pl).filter fun e => !(e.p == p)) : ms.length ≤ k := by
  have h1 := congrArg List.length h
  have h2 := List.length_filter_le (fun e : PE => !(e.p == p)) ((xs.take k).map En.pl)
  simp only [List.length_map, List.length_take] at h1 h2
  omega
set_option maxRecDepth 100000 in
set_option maxHeartbeats 4000000 in
theorem l2Off_c (a : Option Addr) (c : Nat) (xs : List En) (q : ByteArray) (w : World) (hs : SlF En.cells w a xs) (hx : xs.length ≤ 1000) :
    Calls Tryd.prog 78 #[.slice a xs.length c, .string q] w (MadeEl ((xs.map En.pl).filter fun e => !(e.p == q.data.toList)) w) := by
  have HE := eltEn
  have HS := Lib.hid hs
  obtain ⟨n, hn⟩ : ∃ n, xs.length = n := ⟨_, rfl⟩
  have HN := Lib.hid hn
  have HALL : Hid (xs.take n = xs) := by rw [Hid, ← hn, List.take_length]
  rw [hn] at hx ⊢
  clear hn hs
  go_enter Tryd.func78, Tryd.ntmps78
  go_wp2
  go_loopw [5, 6] (fun v i wr => ∃ (j : Nat) (ms : List En), j ≤ n ∧ i = .int .i64 j ∧ ms.map En.pl = ((xs.take j).map En.pl).filter (fun e => !(e.p == q.data.toList)) ∧ v.ownBlock ≠ none ∧ wr.ownsRow w.heap.size 31 3 v ms.length (ms.flatMap En.cells) ∧ Below w.heap.size w wr) (fun _ i _ => n - (intOf i).toNat)
  case atStart => exact ⟨0, [], Nat.zero_le _, rfl, rfl, by simp [Value.ownBlock], World.ownsRow_lit w #[] 0 (Nat.le_refl _) (Nat.zero_le _) rfl, bellow_alloc _ _⟩
  case round =>
    obtain ⟨j, ms, hj, rfl, hms, hvn, hown, hb⟩ := hrel
    have HMS := Lib.hid hms
    have hml := keep_len' _ _ _ _ hms
    have HVN := Lib.hid hvn
    clear hms hvn
    by_cases hlt : j < n
    · obtain ⟨e, hee⟩ : ∃ e, xs[j]? = some e := ⟨_, List.getElem?_eq_getElem (by rw [HN.out]; exact hlt)⟩
      have h2 := HS.out.below hb
      obtain ⟨b, off, rfl, _⟩ := h2.addr (by rw [HN.out]; omega)
      obtain ⟨d0, d1, d2⟩ := en_at h2 j e hee
      have i0 : (0 : Int) ≤ (j : Int) := by omega
      have i1 : (j : Int) < (n : Int) := by omega
      have HSN := Lib.hid (keep_snoc' xs j e hee q.data.toList ms HMS.out)
      obtain ⟨ep, ed, ex⟩ := e
      clear h2 hee
      by_cases heq : ep.data.toList = q.data.toList
      · have qe := beqs_yes heq
        have HSM : Hid (ms.map En.pl = ((xs.take (j + 1)).map En.pl).filter fun e => !(e.p == q.data.toList)) := by
          have h := HSN.out; rw [if_pos heq, List.append_nil] at h; exact h
        clear heq
        go_wp2
        go_roundw
        case rel => exact ⟨j + 1, ms, by omega, by go_num, HSM.out, HVN.out, hown, hb⟩
        case measure => simp [intOf]; omega
      · have qe := beqs_no heq
        have HSM : Hid ((ms ++ [(⟨ep, ed, ex⟩ : En)]).map En.pl = ((xs.take (j + 1)).map En.pl).filter fun e => !(e.p == q.data.toList)) := by
          have h := HSN.out; rw [if_neg heq] at h; exact h
        clear heq
        go_wp2_with (at_builtin; go_must (refine wp_app1H (by rfl) _ _ 23 (by rfl) HE w.heap.size w.heap.size w _ #[.string ep, .bool ed, .string ex] _ _ _ (by rfl) wr.heap.size (by simp) (by rfl) hown (by rfl) (by simp [Value.oneCell']) (by omega) hb.size hb (Nat.le_refl _) ?_); intro v' w1 hown1 hbel1 _ _)
        go_roundw
        case rel => exact ⟨j + 1, ms ++ [⟨ep, ed, ex⟩], by omega, by go_num, HSM.out, by rcases hown1.2 with ⟨rfl, h0⟩ | ⟨g, cap, cur, rfl, _⟩ <;> simp [Value.ownBlock] at *, by rw [← flat_app]; simpa using hown1, hbel1⟩
        case measure => simp [intOf]; omega
    · obtain rfl : j = n := by omega
      have HKEEP : Hid (ms.map En.pl = (xs.map En.pl).filter fun e => !(e.p == q.data.toList)) := by rw [Hid, HMS.out, HALL.out]
      go_wp2
      go_ret
      exact ⟨_, ms, rfl, HKEEP.out, ownRe_of hown HVN.out, hb⟩
theorem move_snoc (xs : List En) (k : Nat) (e : En) (he : xs[k]? = some e) (p t : Bs) (mv : ByteArray) (hm : moveL e.p.data.toList p t = mv.data.toList) (ms : List En) (h : ms.map En.pl = (((xs.take k).map En.pl).map (movedE p t)).foldl (putP PE.p) []) :
    (putP En.bs ms ⟨mv, e.d, e.x⟩).map En.pl = (((xs.take (k + 1)).map En.pl).map (movedE p t)).foldl (putP PE.p) [] := by
  rw [take_pl xs k e he, List.map_append, List.foldl_append, ← h, putP_map En.pl (f := En.bs) (g := PE.p) (fun _ => rfl)]
  show putP PE.p _ (⟨mv.data.toList, e.d, e.x.data.toList⟩ : PE) = putP PE.p _ (⟨moveL e.p.data.toList p t, e.d, e.x.data.toList⟩ : PE)
  rw [hm]
set_option maxRecDepth 100000 in
set_option maxHeartbeats 4000000 in
theorem l2Move_c (a : Option Addr) (c : Nat) (xs : List En) (p t : ByteArray) (w : World) (hs : SlF En.cells w a xs) (hx : xs.length ≤ 900) (hp : p.size ≤ 2000000) (ht : t.size ≤ 2000000) (hzs : ∀ e ∈ xs, e.p.size ≤ 2000000 ∧ e.x.size ≤ 2000000) :
    Calls Tryd.prog 77 #[.slice a xs.length c, .string p, .string t] w (MadeEl (((xs.map En.pl).map (movedE p.data.toList t.data.toList)).foldl (putP PE.p) []) w) := by
  have HZ := Lib.hid hzs
  have HS := Lib.hid hs
  obtain ⟨n, hn⟩ : ∃ n, xs.length = n := ⟨_, rfl⟩
  have HN := Lib.hid hn
  have HALL : Hid (xs.take n = xs) := by rw [Hid, ← hn, List.take_length]
  rw [hn] at hx ⊢
  clear hn hs hzs
  go_enter Tryd.func77, Tryd.ntmps77
  go_wp2
  go_loopw [7, 8] (fun v i wr => ∃ (j : Nat) (ms : List En), j ≤ n ∧ ms.length ≤ j ∧ i = .int .i64 j ∧ ms.map En.pl = (((xs.take j).map En.pl).map (movedE p.data.toList t.data.toList)).foldl (putP PE.p) [] ∧ OwnRe wr w.heap.size v ms ∧ Below w.heap.size w wr) (fun _ i _ => n - (intOf i).toNat)
  case atStart => exact ⟨0, [], Nat.zero_le _, Nat.zero_le _, rfl, rfl, ⟨w.heap.size, 0, rfl, Nat.zero_le _, Nat.zero_le _, World.ownsRow_lit w #[] 0 (Nat.le_refl _) (Nat.zero_le _) rfl⟩, bellow_alloc _ _⟩
  case round =>
    obtain ⟨j, ms, hj, hml, rfl, hms, hown, hb⟩ := hrel
    have HMS := Lib.hid hms
    clear hms
    by_cases hlt : j < n
    · obtain ⟨e, hee⟩ : ∃ e, xs[j]? = some e := ⟨_, List.getElem?_eq_getElem (by rw [HN.out]; exact hlt)⟩
      have hzz := HZ.out e (List.mem_of_getElem? hee)
      have h2 := HS.out.below hb
      obtain ⟨b, off, rfl, _⟩ := h2.addr (by rw [HN.out]; omega)
      obtain ⟨d0, d1, d2⟩ := en_at h2 j e hee
      have i0 : (0 : Int) ≤ (j : Int) := by omega
      have i1 : (j : Int) < (n : Int) := by omega
      obtain ⟨u, hu⟩ : ∃ u, moveOkL e.p.data.toList p.data.toList t.data.toList = u := ⟨_, rfl⟩
      have HU2 := Lib.hid hu
      obtain ⟨mv, hmv⟩ : ∃ mv : ByteArray, moveL e.p.data.toList p.data.toList t.data.toList = mv.data.toList := ⟨⟨(moveL e.p.data.toList p.data.toList t.data.toList).toArray⟩, by simp⟩
      have HMV := Lib.hid hmv
      have HSN := Lib.hid (move_snoc xs j e hee p.data.toList t.data.toList mv hmv ms HMS.out)
      obtain ⟨ep, ed, ex⟩ := e
      clear hu hmv h2 hee
      have q0 := new_cell wr #[.string ep, .bool ed, .string ex] 31 0 (.string ep) rfl
      have q1 := new_cell wr #[.string ep, .bool ed, .string ex] 31 1 (.bool ed) rfl
      have q2 := new_cell wr #[.string ep, .bool ed, .string ex] 31 2 (.string ex) rfl
      have f0 := new_free wr #[.string ep, .bool ed, .string ex] 31 0
      have HOW := Lib.hid hown
      have HLW := Lib.hid hb.size
      have hbw := bellow_alloc wr (.cells #[.string ep, .bool ed, .string ex] 31)
      clear hown
      replace hb := hb.alloc hb.size (.cells #[.string ep, .bool ed, .string ex] 31); 
      go_wp2_with fail
      refine (sPathMove_c ep p t mv u HMV HU2 _ hzz.1 hp ht).mono ?_; rintro e W ⟨rfl, hq⟩; replace hb := chn hb hq; replace hbw := chn hbw hq; replace f0 := (hq.frozen (p := ⟨wr.heap.size, 0, none⟩) (by simp)).trans f0; replace q0 := keepc hq q0; replace q1 := keepc hq q1; replace q2 := keepc hq q2; clear hq
      have HOW1 := Lib.hid (HOW.out.below (hbw.setCell (p := ⟨wr.heap.size, 0, none⟩) (Nat.le_refl _) (.string mv)))
      have hb1 := hb.setCell (p := ⟨wr.heap.size, 0, none⟩) HLW.out (.string mv)
      replace hb := hb1
      clear hb1
      go_wp2_with fail
      refine (l2PutO_c w.heap.size _ ms ⟨mv, ed, ex⟩ _ HOW1.out hb.size (by omega)).mono ?_; rintro e W2 ⟨v2, rfl, ho2, hq⟩; replace hb := chn hb hq
      have hpl := eput_len ms ⟨mv, ed, ex⟩
      go_wp2
      go_roundw
      case rel => exact ⟨j + 1, _, by omega, by omega, by go_num, HSN.out, ho2, hb⟩
      case measure => simp [intOf]; omega
    · obtain rfl : j = n := by omega
      have HRAW : Hid (ms.map En.pl = ((xs.map En.pl).map (movedE p.data.toList t.data.toList)).foldl (putP PE.p) []) := by rw [Hid, HMS.out, HALL.out]
      go_wp2
      go_ret
      exact ⟨_, ms, rfl, HRAW.out, hown, hb⟩
/-- l2Put on what is read. -/
theorem l2PutR_c (a : Option Addr) (c : Nat) (xs : List En) (e : En) (w : World) (h : ReadEn w a c xs) (hn : xs.length ≤ 1000) :
    Calls Tryd.prog 52 #[.slice a xs.length c, e.val] w (MadeEl (putP PE.p (xs.map En.pl) e.pl) w) := by
  obtain ⟨b, off, rfl, h2, h3, h4, h5⟩ := h
  refine (l2Put_c b off c xs e _ (Lib.hid rfl) w h3 h2 (by omega) h4 h5).mono ?_
  rintro r w' ⟨g', c', rfl, h5, h6, h7, h8⟩
  exact ⟨_, putP En.bs xs e, rfl, putP_map En.pl (f := En.bs) (g := PE.p) (fun _ => rfl) xs e, ⟨g', c', rfl, h5, h6, h7⟩, h8⟩
set_option maxHeartbeats 4000000 in
theorem l2Do_c (a : Option Addr) (c : Nat) (xs : List En) (k : Int) (p t d : ByteArray) (L : List PE) (hL : Hid (doL (xs.map En.pl) k p.data.toList t.data.toList d.data.toList = L)) (hok : opOkL k p.data.toList t.data.toList d.data.toList = true) (w : World) (hs : ReadEn w a c xs) (hx : xs.length ≤ 16) (hp : p.size ≤ 2000000) (ht : t.size ≤ 2000000) (hzs : ∀ e ∈ xs, e.p.size ≤ 2000000 ∧ e.x.size ≤ 2000000) :
    Calls Tryd.prog 45 #[.slice a xs.length c, opV k p t d] w (MadeEl L w) := by
  have c0 := new_cell w (opBox k p t d) 50 0 _ rfl
  have c1 := new_cell w (opBox k p t d) 50 1 _ rfl
  have c2 := new_cell w (opBox k p t d) 50 2 _ rfl
  have c3 := new_cell w (opBox k p t d) 50 3 _ rfl
  have hb := bellow_alloc w (.cells (opBox k p t d) 50)
  have HS := Lib.hid hs
  have h2 := hL.out
  obtain ⟨n, hn⟩ : ∃ n, xs.length = n := ⟨_, rfl⟩
  rcases opOk_k hok with rfl | rfl | rfl | rfl | rfl
  · have hd0 : d = ⟨#[]⟩ := by
      rw [opOk_1] at hok; simp only [Bool.and_eq_true, beq_iff_eq] at hok; exact bytes_eq hok.2.2
    subst hd0
    have HC := Lib.hid (fun W (h : ReadEn W a c xs) => (h2 ▸ doL_1 (t := xs.map En.pl) ▸ l2PutR_c a c xs ⟨p, true, ⟨#[]⟩⟩ W h (by omega) : Calls Tryd.prog 52 #[.slice a xs.length c, (⟨p, true, ⟨#[]⟩⟩ : En).val] W (MadeEl L W)))
    rw [hn] at HC ⊢
    clear hn hs hok h2 hx hzs hL
    go_enter Tryd.func45, Tryd.ntmps45
    go_wp2_with fail
    refine (HC.out _ (HS.out.below hb)).mono ?_; rintro e W ⟨v, ms, rfl, hms, how, hq⟩
    have HB := Lib.hid hb
    replace hb := chn hb hq
    obtain ⟨g, c2, rfl, g1, g2, g3⟩ := how
    go_wp2
    go_ret
    exact ⟨_, ms, rfl, hms, ⟨g, c2, rfl, g1, g2, own_mono g3 HB.out.size⟩, hb⟩
  · have HC := Lib.hid (fun W (h : ReadEn W a c xs) => (h2 ▸ doL_2 (t := xs.map En.pl) ▸ l2PutR_c a c xs ⟨p, false, d⟩ W h (by omega) : Calls Tryd.prog 52 #[.slice a xs.length c, (⟨p, false, d⟩ : En).val] W (MadeEl L W)))
    rw [hn] at HC ⊢
    clear hn hs hok h2 hx hzs hL
    go_enter Tryd.func45, Tryd.ntmps45
    go_wp2_with fail
    refine (HC.out _ (HS.out.below hb)).mono ?_; rintro e W ⟨v, ms, rfl, hms, how, hq⟩
    have HB := Lib.hid hb
    replace hb := chn hb hq
    obtain ⟨g, c2, rfl, g1, g2, g3⟩ := how
    go_wp2
    go_ret
    exact ⟨_, ms, rfl, hms, ⟨g, c2, rfl, g1, g2, own_mono g3 HB.out.size⟩, hb⟩
  · have HC := Lib.hid (fun W (h : ReadEn W a c xs) => (h2 ▸ doL_3 (t := xs.map En.pl) ▸ l2Off_c a c xs p W h.sl (by omega) : Calls Tryd.prog 78 #[.slice a xs.length c, .string p] W (MadeEl L W)))
    rw [hn] at HC ⊢
    clear hn hs hok h2 hx hzs hL
    go_enter Tryd.func45, Tryd.ntmps45
    go_wp2_with fail
    refine (HC.out _ (HS.out.below hb)).mono ?_; rintro e W ⟨v, ms, rfl, hms, how, hq⟩
    have HB := Lib.hid hb
    replace hb := chn hb hq
    obtain ⟨g, c2, rfl, g1, g2, g3⟩ := how
    go_wp2
    go_ret
    exact ⟨_, ms, rfl, hms, ⟨g, c2, rfl, g1, g2, own_mono g3 HB.out.size⟩, hb⟩
  · have HC := Lib.hid (fun W (h : ReadEn W a c xs) => (h2 ▸ doL_4 (t := xs.map En.pl) ▸ l2Off_c a c xs p W h.sl (by omega) : Calls Tryd.prog 78 #[.slice a xs.length c, .string p] W (MadeEl L W)))
    rw [hn] at HC ⊢
    clear hn hs hok h2 hx hzs hL
    go_enter Tryd.func45, Tryd.ntmps45
    go_wp2_with fail
    refine (HC.out _ (HS.out.below hb)).mono ?_; rintro e W ⟨v, ms, rfl, hms, how, hq⟩
    have HB := Lib.hid hb
    replace hb := chn hb hq
    obtain ⟨g, c2, rfl, g1, g2, g3⟩ := how
    go_wp2
    go_ret
    exact ⟨_, ms, rfl, hms, ⟨g, c2, rfl, g1, g2, own_mono g3 HB.out.size⟩, hb⟩
  · have HC := Lib.hid (fun W (h : ReadEn W a c xs) => (h2 ▸ doL_5 (t := xs.map En.pl) ▸ l2Move_c a c xs p t W h.sl (by omega) hp ht hzs : Calls Tryd.prog 77 #[.slice a xs.length c, .string p, .string t] W (MadeEl L W)))
    rw [hn] at HC ⊢
    clear hn hs hok h2 hx hzs hL
    go_enter Tryd.func45, Tryd.ntmps45
    go_wp2_with fail
    refine (HC.out _ (HS.out.below hb)).mono ?_; rintro e W ⟨v, ms, rfl, hms, how, hq⟩
    have HB := Lib.hid hb
    replace hb := chn hb hq
    obtain ⟨g, c2, rfl, g1, g2, g3⟩ := how
    go_wp2
    go_ret
    exact ⟨_, ms, rfl, hms, ⟨g, c2, rfl, g1, g2, own_mono g3 HB.out.size⟩, hb⟩
end Go.Proofs.YtobbodbkdcbflabDoor
namespace Go.Proofs.YtobbodbkdcbflabDoor
open Go.RowKit
/-- Entries that the call made, with an array behind them, and how it ended. -/
def MadeEo (l : List PE) (k : Nat) (w : World) (e : Ending) (w' : World) : Prop :=
  ∃ (v : Value) (ms : List En), e = .returned (.tuple #[v, .int .i64 (k : Int)]) ∧ ms.map En.pl = l ∧ OwnRe w' w.heap.size v ms ∧ Below w.heap.size w w'
theorem MadeEo.ei {l : List PE} {k : Nat} {w : World} {e : Ending} {w' : World} (h : MadeEo l k w e w') : MadeEi l k w e w' := by
  obtain ⟨v, ms, rfl, h1, ⟨g, c, rfl, h2, h3, h4⟩, h5⟩ := h
  exact ⟨_, c, ms, rfl, h1, h4, h5⟩
/-- 'append(out, ys...)', with what it tells of nil. -/
theorem wp_appN {P : Program} {ops : Array Oper} {rest : List Oper} {o : Oper} {a : Act} {Q : Exit → Act → World → Prop} (hgd : o.guard = none) (s x : Operand) (t : TypeId)
    (ho : o.op = .call { callee := .builtin .append, args := #[s, x], argTypes := #[t, t] }) {e : TypeId} {bytes : Nat} (E : Elt P t e 3 bytes)
    (base B : Nat) (w0 w : World) (v : Value) (n : Nat) (xs : List Value) (hs : a.eval s = v) {α : Type} (f : α → List Value) (hf : ∀ x, (f x).length = 3) (h1 : ∀ x, ∀ u ∈ f x, u.oneCell' = true) (ys : List α) (b off m c : Nat) (hm : ys.length = m) (hx : a.eval x = .slice (some ⟨b, off, none⟩) m c)
    (hsl : SlF f w (some ⟨b, off, none⟩) ys) (hown : w.ownsRow base e 3 v n xs) (hn : n + ys.length ≤ 2000000) (hbase : base ≤ w.heap.size) (hB : Below B w0 w) (hBb : B ≤ base)
    (h : ∀ v' w', w'.ownsRow base e 3 v' (n + ys.length) (xs ++ ys.flatMap f) → Below B w0 w' → (v' = .slice none 0 0 ↔ v = .slice none 0 0 ∧ ys.length = 0) → wpList P ops Q rest (a.put o.dst v') w') :
    wpList P ops Q (o :: rest) a w := by
  subst hm
  obtain ⟨i, z, hi, hz, hsz, hby, hzs⟩ := E.info
  have hsm := E.small
  refine wpList_append_own _ hgd s x t ho base e i z 3 bytes E.und hi hz hsz hby hzs E.pos v n xs hs hown ⟨b, off, none⟩ ys.length c (ys.flatMap f) hx (flatMap_len hf ys) (hsl.cells_at hf) (fun u hu => ?_) (by unfold maxLen; omega) ?_ hbase ?_
  · obtain ⟨y, hy, hu⟩ := List.mem_flatMap.1 hu
    exact h1 y u hu
  · have : (n + ys.length) * bytes ≤ 2000000 * 64 := Nat.mul_le_mul hn hsm
    omega
  · intro v' w' h2 h3 h4
    refine h v' w' h2 (hB.grown h3 (Nat.le_trans hBb hbase) ?_) h4
    intro k hk
    rcases hown.2 with ⟨rfl, _⟩ | ⟨g, cap, cur, rfl, hg, _⟩
    · simp [Value.ownBlock] at hk
    · simp [Value.ownBlock] at hk; omega
theorem own_some {w : World} {B : Nat} {e : TypeId} {size : Nat} {v : Value} {n : Nat} {xs : List Value} (h : w.ownsRow B e size v n xs) (hv : v ≠ .slice none 0 0) : v.ownBlock ≠ none := by
  rcases h.2 with ⟨rfl, _⟩ | ⟨g, cap, cur, rfl, _⟩
  · exact absurd rfl hv
  · simp [Value.ownBlock]
set_option maxRecDepth 100000 in
set_option maxHeartbeats 8000000 in
theorem sTreeDo_c (a : Option Addr) (c : Nat) (xs : List En) (k : Int) (p t d : ByteArray) (w : World) (hs : ReadEn w a c xs) (hx : xs.length ≤ 2000000) (hp : p.size ≤ 2000000) (ht : t.size ≤ 2000000) (hd : d.size ≤ 2000000) (hzs : ∀ e ∈ xs, e.p.size ≤ 2000000 ∧ e.x.size ≤ 2000000) :
    Calls Tryd.prog 20 #[.slice a xs.length c, opV k p t d] w (MadeEo (tdo (xs.map En.pl) k p.data.toList t.data.toList d.data.toList) (tcode (xs.map En.pl) k p.data.toList t.data.toList d.data.toList) w) := by
  have HE := eltEn
  have hm2 : (2000000 : Nat) ≤ maxLen := by unfold maxLen; omega
  have hpm := Nat.le_trans hp hm2
  have htm := Nat.le_trans ht hm2
  have hdm := Nat.le_trans hd hm2
  have hxm : xs.length ≤ maxLen := by unfold maxLen; omega
  have hc : xs.length ≤ c := by obtain ⟨_, _, _, _, _, h, _⟩ := hs; exact h
  have c0 := new_cell w (opBox k p t d) 50 0 _ rfl
  have c1 := new_cell w (opBox k p t d) 50 1 _ rfl
  have c2 := new_cell w (opBox k p t d) 50 2 _ rfl
  have c3 := new_cell w (opBox k p t d) 50 3 _ rfl
  have hb := bellow_alloc w (.cells (opBox k p t d) 50)
  obtain ⟨r, hr⟩ := tok_dec xs
  have HT := Lib.hid (fun W (h : SlF En.cells W a xs) => sTreeOk_c a c xs r (Lib.hid hr) W h hxm hc (fun e he => ⟨Nat.le_trans (hzs e he).1 hm2, Nat.le_trans (hzs e he).2 hm2⟩))
  obtain ⟨L, hL⟩ : ∃ L, tdo (xs.map En.pl) k p.data.toList t.data.toList d.data.toList = L := ⟨_, rfl⟩
  obtain ⟨C, hC⟩ : ∃ C, tcode (xs.map En.pl) k p.data.toList t.data.toList d.data.toList = C := ⟨_, rfl⟩
  have HS := Lib.hid hs
  rw [hL, hC]
  cases r with
  | false =>
    have hno : ¬ TOk (xs.map En.pl) := fun h => by have := hr.2 h; cases this
    obtain rfl : C = 1 := by rw [← hC]; exact tcode_bad hno
    obtain rfl : L = [] := by rw [← hL]; exact tdo_bad hno
    obtain ⟨n, hn⟩ : ∃ n, xs.length = n := ⟨_, rfl⟩
    rw [hn] at HT ⊢
    clear hn hs hr hL hC hno hzs hx hc hxm
    go_enter Tryd.func20, Tryd.ntmps20
    go_wp2_with fail
    refine (HT.out _ (HS.out.below hb).sl).mono ?_; rintro e WS ⟨rfl, hq⟩; replace hb := chn hb hq; clear hq
    go_wp2
    refine bodyPost_ret (v := .tuple #[.slice (some ⟨WS.heap.size, 0, none⟩) 0 0, .int .i64 1]) (by simp [results, Tryd.results20, go_sem]) rfl ⟨_, [], rfl, rfl, ⟨WS.heap.size, 0, rfl, Nat.zero_le _, Nat.zero_le _, World.ownsRow_lit WS #[] 0 hb.size (Nat.zero_le _) rfl⟩, hb.alloc hb.size _⟩
  | true =>
  have htok := hr.1 rfl
  have hx16 : xs.length ≤ 16 := by have := htok.most; rw [List.length_map] at this; exact this
  obtain ⟨ok, hok⟩ : ∃ ok, opOkL k p.data.toList t.data.toList d.data.toList = ok := ⟨_, rfl⟩
  have HOK := Lib.hid hok
  cases ok with
  | false =>
    obtain rfl : C = 1 := by rw [← hC]; exact tcode_no (by rw [hok]; simp)
    have HLX : Hid (xs.map En.pl = L) := by rw [Hid, ← hL, tdo_same htok (by rw [hC]; decide)]
    obtain ⟨n, hn⟩ : ∃ n, xs.length = n := ⟨_, rfl⟩
    have HN := Lib.hid hn
    rw [hn] at HT hx16 ⊢
    clear hn hs hr hL hC htok hzs hx hc hxm hok
    go_enter Tryd.func20, Tryd.ntmps20
    go_wp2_with fail
    refine (HT.out _ (HS.out.below hb).sl).mono ?_; rintro e W ⟨rfl, hq⟩; replace hb := chn hb hq; replace c0 := keepc hq c0; replace c1 := keepc hq c1; replace c2 := keepc hq c2; replace c3 := keepc hq c3; clear hq
    go_wp2_with fail
    refine (sOpOk_c k p t d false HOK _ hpm htm hdm).mono ?_; rintro e WS ⟨rfl, hq⟩; replace hb := chn hb hq; clear hq c0 c1 c2 c3
    have HOWN0 : (WS.alloc (.cells #[] 31)).ownsRow w.heap.size 31 3 (.slice (some ⟨WS.heap.size, 0, none⟩) 0 0) 0 [] := World.ownsRow_lit WS #[] 0 hb.size (Nat.zero_le _) rfl
    have hb2 := hb.alloc hb.size (.cells #[] 31)
    have HRD := Lib.hid ((HS.out.below hb).below (bellow_alloc WS (.cells #[] 31)))
    obtain ⟨b, off, rfl, _, hsl, _⟩ := HRD.out
    have hsl' := Lib.hid hsl
    have hown0 := Lib.hid HOWN0
    clear hsl HOWN0
    go_wp2_with (at_builtin; go_must (refine wp_appN (by rfl) _ _ 23 (by rfl) HE w.heap.size w.heap.size w _ _ 0 [] (by rfl) En.cells (fun _ => rfl) en_one xs b off n c HN.out (by rfl) hsl'.out hown0.out (by rw [HN.out]; omega) hb2.size hb2 (Nat.le_refl _) ?_); intro v2 w2 hown3 hbel3 hnil)
    have HOW : Hid (OwnRe w2 w.heap.size v2 xs) := by
      have h := hown3
      rw [Nat.zero_add, List.nil_append] at h
      exact ownRe_of h (own_some h (fun hv => by have := hnil.1 hv; simp at this))
    clear hown3 hnil
    go_wp2
    refine bodyPost_ret (v := .tuple #[v2, .int .i64 1]) (by simp [results, Tryd.results20, go_sem]) rfl ⟨v2, xs, rfl, HLX.out, HOW.out, hbel3⟩
  | true =>
    have HC := Lib.hid (fun W (h : SlF En.cells W a xs) => l2Code_c a c xs k p t d C (by rw [Hid, ← hC, tcode_op htok hok]) hok W h htok hp ht hzs)
    by_cases hC0 : C = 0
    · subst hC0
      have HD := Lib.hid (fun W (h : ReadEn W a c xs) => l2Do_c a c xs k p t d L (by rw [Hid, ← hL, tdo_do hC]) hok W h hx16 hp ht hzs)
      obtain ⟨n, hn⟩ : ∃ n, xs.length = n := ⟨_, rfl⟩
      rw [hn] at HT HC HD hx16 ⊢
      clear hn hs hr hL hC htok hzs hx hc hxm hok
      go_enter Tryd.func20, Tryd.ntmps20
      go_wp2_with fail
      refine (HT.out _ (HS.out.below hb).sl).mono ?_; rintro e W ⟨rfl, hq⟩; replace hb := chn hb hq; replace c0 := keepc hq c0; replace c1 := keepc hq c1; replace c2 := keepc hq c2; replace c3 := keepc hq c3; clear hq
      go_wp2_with fail
      refine (sOpOk_c k p t d true HOK _ hpm htm hdm).mono ?_; rintro e W ⟨rfl, hq⟩; replace hb := chn hb hq; replace c0 := keepc hq c0; replace c1 := keepc hq c1; replace c2 := keepc hq c2; replace c3 := keepc hq c3; clear hq
      go_wp2_with fail
      refine (HC.out _ (HS.out.below hb).sl).mono ?_; rintro e W ⟨rfl, hq⟩; replace hb := chn hb hq; replace c0 := keepc hq c0; replace c1 := keepc hq c1; replace c2 := keepc hq c2; replace c3 := keepc hq c3; clear hq
      go_wp2_with fail
      refine (HD.out _ (HS.out.below hb)).mono ?_; rintro e W ⟨v, ms, rfl, hms, ⟨g, c2', rfl, g1, g2, g3⟩, hq⟩
      have HB := Lib.hid hb
      replace hb := chn hb hq
      clear hq
      go_wp2
      refine bodyPost_ret (v := .tuple #[.slice (some ⟨g, 0, none⟩) ms.length c2', .int .i64 0]) (by simp [results, Tryd.results20, go_sem]) rfl ⟨_, ms, rfl, hms, ⟨g, c2', rfl, g1, g2, own_mono g3 HB.out.size⟩, hb⟩
    · have hC1 : ((C : Int) != 0) = true := by rw [bne_iff_ne]; omega
      have HLX : Hid (xs.map En.pl = L) := by rw [Hid, ← hL, tdo_same htok (by rw [hC]; exact hC0)]
      obtain ⟨n, hn⟩ : ∃ n, xs.length = n := ⟨_, rfl⟩
      have HN := Lib.hid hn
      rw [hn] at HT HC hx16 ⊢
      clear hn hs hr hL hC htok hzs hx hc hxm hok hC0
      go_enter Tryd.func20, Tryd.ntmps20
      go_wp2_with fail
      refine (HT.out _ (HS.out.below hb).sl).mono ?_; rintro e W ⟨rfl, hq⟩; replace hb := chn hb hq; replace c0 := keepc hq c0; replace c1 := keepc hq c1; replace c2 := keepc hq c2; replace c3 := keepc hq c3; clear hq
      go_wp2_with fail
      refine (sOpOk_c k p t d true HOK _ hpm htm hdm).mono ?_; rintro e W ⟨rfl, hq⟩; replace hb := chn hb hq; replace c0 := keepc hq c0; replace c1 := keepc hq c1; replace c2 := keepc hq c2; replace c3 := keepc hq c3; clear hq
      go_wp2_with fail
      refine (HC.out _ (HS.out.below hb).sl).mono ?_; rintro e WS ⟨rfl, hq⟩; replace hb := chn hb hq; clear hq c0 c1 c2 c3
      have HOWN0 : (WS.alloc (.cells #[] 31)).ownsRow w.heap.size 31 3 (.slice (some ⟨WS.heap.size, 0, none⟩) 0 0) 0 [] := World.ownsRow_lit WS #[] 0 hb.size (Nat.zero_le _) rfl
      have hb2 := hb.alloc hb.size (.cells #[] 31)
      have HRD := Lib.hid ((HS.out.below hb).below (bellow_alloc WS (.cells #[] 31)))
      obtain ⟨b, off, rfl, _, hsl, _⟩ := HRD.out
      have hsl' := Lib.hid hsl
      have hown0 := Lib.hid HOWN0
      clear hsl HOWN0
      go_wp2_with (at_builtin; go_must (refine wp_appN (by rfl) _ _ 23 (by rfl) HE w.heap.size w.heap.size w _ _ 0 [] (by rfl) En.cells (fun _ => rfl) en_one xs b off n c HN.out (by rfl) hsl'.out hown0.out (by rw [HN.out]; omega) hb2.size hb2 (Nat.le_refl _) ?_); intro v2 w2 hown3 hbel3 hnil)
      have HOW : Hid (OwnRe w2 w.heap.size v2 xs) := by
        have h := hown3
        rw [Nat.zero_add, List.nil_append] at h
        exact ownRe_of h (own_some h (fun hv => by have := hnil.1 hv; simp at this))
      clear hown3 hnil
      go_wp2
      refine bodyPost_ret (v := .tuple #[v2, .int .i64 (C : Int)]) (by simp [results, Tryd.results20, go_sem]) rfl ⟨v2, xs, rfl, HLX.out, HOW.out, hbel3⟩
end Go.Proofs.YtobbodbkdcbflabDoor
namespace Go.Proofs.YtobbodbkdcbflabDoor
open Go.RowKit
/-- The call tells true, and nothing that was there has turned. -/
def TrueB (w : World) (e : Ending) (w' : World) : Prop := e = .returned (.bool true) ∧ Below w.heap.size w w'
/-- Entries with short texts. -/
def Small (xs : List En) : Prop := ∀ e ∈ xs, e.p.size ≤ 20 ∧ e.x.size ≤ 20
theorem Small.mil {xs : List En} (h : Small xs) : ∀ e ∈ xs, e.p.size ≤ 2000000 ∧ e.x.size ≤ 2000000 := fun e he => by have := h e he; omega
theorem Small.max {xs : List En} (h : Small xs) : ∀ e ∈ xs, e.p.size ≤ maxLen ∧ e.x.size ≤ maxLen := fun e he => by have := h e he; unfold maxLen; omega
theorem data_len {l : Bs} (h : dataOkL l = true) : l.length ≤ 6 := by
  unfold dataOkL at h
  simp only [Bool.and_eq_true, decide_eq_true_eq] at h
  exact h.1
theorem tok_small {xs : List En} (h : TOk (xs.map En.pl)) : Small xs := fun e he => by
  have h1 := h.ent e.pl (List.mem_map_of_mem he)
  unfold entOkL at h1
  simp only [Bool.and_eq_true] at h1
  have h2 := (path_len h1.1.1).2
  have h3 := data_len h1.1.2
  have h4 : e.pl.p.length = e.p.size := size_data e.p
  have h5 : e.pl.x.length = e.x.size := size_data e.x
  omega
/-- A slice of entries that was made behind block g. -/
def DrawnT (w : World) (g : Nat) (a : Option Addr) (c : Nat) (xs : List En) : Prop := ∃ b off, a = some ⟨b, off, none⟩ ∧ g < b ∧ b < w.heap.size ∧ SlF En.cells w (some ⟨b, off, none⟩) xs ∧ xs.length ≤ c ∧ c ≤ maxLen
theorem DrawnT.read {w : World} {g : Nat} {a : Option Addr} {c : Nat} {xs : List En} (h : DrawnT w g a c xs) : ReadEn w a c xs := by
  obtain ⟨b, off, h1, _, h2⟩ := h; exact ⟨b, off, h1, h2⟩
theorem DrawnT.sl {w : World} {g : Nat} {a : Option Addr} {c : Nat} {xs : List En} (h : DrawnT w g a c xs) : SlF En.cells w a xs := h.read.sl
theorem DrawnT.only {w w' : World} {g : Nat} {a : Option Addr} {c : Nat} {xs : List En} (h : DrawnT w g a c xs) (ho : Only g w w') : DrawnT w' g a c xs := by
  obtain ⟨b, off, h1, h2, h3, h4, h5⟩ := h
  exact ⟨b, off, h1, h2, Nat.lt_of_lt_of_le h3 ho.size, h4.grown ho (fun b' hb' e => by injection hb' with hb'; injection e with e; simp at hb'; omega), h5⟩
theorem OwnRe.drawn {w : World} {B g : Nat} {v : Value} {ms : List En} (h : OwnRe w B v ms) (hg : g < B) : ∃ a c, v = .slice a ms.length c ∧ DrawnT w g a c ms := by
  obtain ⟨b, c, h1, h2, h3, h4⟩ := h
  exact ⟨_, c, h1, b, 0, rfl, Nat.lt_of_lt_of_le hg (h4.lt b rfl).1, (h4.lt b rfl).2, own_slf (fun _ => rfl) h4, h2, h3⟩
/-- A small number. -/
def smallInt (v : Value) : Bool := match v with | .int .i64 z => decide (-10 ≤ z) && decide (z ≤ 100) | _ => false
/-- What a drawing of a number leaves. -/
def IntPost (w : World) (g p q : Nat) (e : Ending) (w' : World) : Prop :=
  ∃ (z : Int) (p' : Nat), e = .returned (.int .i64 z) ∧ -10 ≤ z ∧ z ≤ 100 ∧ p' ≤ p + q ∧ Rd w' g p' ∧ Only g w w'
theorem smallInt_at {cs : Array Value} (h : cs.toList.all smallInt = true) {k : Nat} (hk : k < cs.size) : ∃ z : Int, cs[k]? = some (.int .i64 z) ∧ -10 ≤ z ∧ z ≤ 100 := by
  have h1 := List.all_eq_true.1 h cs[k] (by simp)
  have h2 : cs[k]? = some cs[k] := Array.getElem?_eq_getElem hk
  unfold smallInt at h1
  split at h1
  · next z hz =>
    simp only [Bool.and_eq_true, decide_eq_true_eq] at h1
    exact ⟨z, by rw [h2, hz], h1.1, h1.2⟩
  · cases h1
set_option maxHeartbeats 1000000 in
theorem num_c (w : World) (g p b n : Nat) (cs : Array Value) (t : TypeId) (hr : Rd w g p) (hp : p ≤ 1000000) (hb : w.heap[b]? = some (.cells cs t (0, 0))) (hbg : b ≠ g) (hn : cs.size = n) (h0 : 0 < n) (hn1 : n ≤ 1000) (hs : cs.toList.all smallInt = true) :
    Calls Tryd.prog 42 #[.pointer (some ⟨g, 0, none⟩), .slice (some ⟨b, 0, none⟩) n n] w (IntPost w g p 1) := by
  have hbl : b < w.heap.size := by
    rcases Nat.lt_or_ge b w.heap.size with h | h
    · exact h
    · rw [Array.getElem?_eq_none h] at hb; cases hb
  have HP := Lib.hid (pick_c w g p (n : Int) hr hp (by omega) (by omega))
  have HC : Hid (∀ w1 (m : Nat), Only g w w1 → m < n → ∃ z : Int, w1.cell? ⟨b, m, none⟩ = some (.int .i64 z) ∧ -10 ≤ z ∧ z ≤ 100) := fun w1 m ho hm => by
    obtain ⟨z, h1, h2⟩ := smallInt_at hs (k := m) (by omega)
    refine ⟨z, ?_, h2⟩
    rw [cell_of_row w1 b m cs t (0, 0) ((ho.block b hbl (by simpa using hbg)).trans hb)]
    exact h1
  clear hb hs hn hbg hr
  go_enter Tryd.func42, Tryd.ntmps42
  go_wp2_with fail
  refine HP.out.mono ?_
  rintro e w1 ⟨m, rfl, _, hm, hrd, ho⟩
  have hm' : m < n := by have := hm (by omega); omega
  obtain ⟨z, hc, hz1, hz2⟩ := HC.out w1 m ho hm'
  clear hm
  go_wp2
  go_ret
  exact ⟨z, p + 1, rfl, hz1, hz2, Nat.le_refl _, hrd, ho⟩
set_option maxHeartbeats 1000000 in
theorem l2Some_c (w : World) (g p : Nat) (hr : Rd w g p) (hp : p ≤ 1000000) :
    Calls Tryd.prog 47 #[.pointer (some ⟨g, 0, none⟩)] w (StrPost w g p 1) := by
  have hg := hr.lt
  have HO := Lib.hid (fun (cs : Array Value) (n : Nat) (hn : Hid (cs.size = n)) h0 h1 hs => of_c (w.alloc (.cells cs 9)) g p w.heap.size n cs 9 (hr.alloc _) hp (heap_alloc_new w _) (by omega) hn.out h0 h1 hs)
  clear hr
  go_enter Tryd.func47, Tryd.ntmps47
  go_wp2_with fail
  refine (HO.out _ _ (by exact Lib.hid rfl) (by decide) (by decide) (by rfl)).mono ?_
  rintro e w1 ⟨s, p', rfl, hs, hp', hrd, ho⟩
  go_wp2
  go_ret
  exact ⟨s, p', rfl, hs, hp', hrd, ((Only.refl g w).alloc _).trans ho⟩
/-- What a drawing of an Op leaves. -/
def OpPost (F : ByteArray → Bool) (w : World) (g p q : Nat) (e : Ending) (w' : World) : Prop :=
  ∃ (k : Int) (P T D : ByteArray) (p' : Nat), e = .returned (opV k P T D) ∧ F P = true ∧ goodT T = true ∧ D.size ≤ 20 ∧ p' ≤ p + q ∧ Rd w' g p' ∧ Only g w w'
/-- The Op in block b, while it is drawn. -/
def OpAt (w0 w : World) (g b p q : Nat) : Prop :=
  ∃ (k : Int) (P T D : ByteArray) (p' : Nat), w.cell? ⟨b, 0, none⟩ = some (.int .i64 k) ∧ w.cell? ⟨b, 1, none⟩ = some (.string P) ∧ w.cell? ⟨b, 2, none⟩ = some (.string T) ∧ w.cell? ⟨b, 3, none⟩ = some (.string D) ∧ (∀ j, w.frozen? ⟨b, j, none⟩ = false) ∧
    P.size ≤ 20 ∧ goodT T = true ∧ D.size ≤ 20 ∧ p' ≤ p + q ∧ Rd w g p' ∧ Only g w0 w
/-- No path of a list is zz in the root. -/
def ZL (t : List PE) : Prop := ∀ e ∈ t, e.p ≠ [47, 122, 122]
/-- What a drawing of a tree leaves. -/
def TreePost (w : World) (g p q : Nat) (e : Ending) (w' : World) : Prop :=
  ∃ (a : Option Addr) (c : Nat) (xs : List En) (p' : Nat), e = .returned (.slice a xs.length c) ∧ DrawnT w' g a c xs ∧ TOk (xs.map En.pl) ∧ ZL (xs.map En.pl) ∧ p' ≤ p + q ∧ Rd w' g p' ∧ Only g w w'
end Go.Proofs.YtobbodbkdcbflabDoor
namespace Go.Proofs.YtobbodbkdcbflabDoor
open Go.RowKit
/-- Four cells of a block that may be written. -/
def Box4 (w : World) (b : Nat) (v0 v1 v2 v3 : Value) : Prop :=
  w.cell? ⟨b, 0, none⟩ = some v0 ∧ w.cell? ⟨b, 1, none⟩ = some v1 ∧ w.cell? ⟨b, 2, none⟩ = some v2 ∧ w.cell? ⟨b, 3, none⟩ = some v3 ∧ ∀ j, w.frozen? ⟨b, j, none⟩ = false
theorem cell_only {w w' : World} {g : Nat} {a : Addr} {v : Value} (ho : Only g w w') (h : w.cell? a = some v) (hne : a.block ≠ g) : w'.cell? a = some v := by
  have hb := ho.block a.block (World.block_lt_of_cell? _ _ h) (fun e => hne (by simpa using e))
  rw [← h]
  unfold World.cell?
  simp only [hb]
theorem frozen_only {w w' : World} {g : Nat} {a : Addr} (ho : Only g w w') (hlt : a.block < w.heap.size) (hne : a.block ≠ g) : w'.frozen? a = w.frozen? a := by
  have hb := ho.block a.block hlt (fun e => hne (by simpa using e))
  unfold World.frozen?
  simp only [hb]
section
variable {w w' : World} {b g : Nat} {v0 v1 v2 v3 : Value}
theorem Box4.lt (h : Box4 w b v0 v1 v2 v3) : b < w.heap.size := World.block_lt_of_cell? _ _ h.1
theorem Box4.only (h : Box4 w b v0 v1 v2 v3) (ho : Only g w w') (hne : b ≠ g) : Box4 w' b v0 v1 v2 v3 :=
  ⟨cell_only ho h.1 hne, cell_only ho h.2.1 hne, cell_only ho h.2.2.1 hne, cell_only ho h.2.2.2.1 hne, fun j => (frozen_only (a := ⟨b, j, none⟩) ho h.lt hne).trans (h.2.2.2.2 j)⟩
theorem Box4.new (w : World) (v0 v1 v2 v3 : Value) (t : TypeId) : Box4 (w.alloc (.cells #[v0, v1, v2, v3] t)) w.heap.size v0 v1 v2 v3 :=
  ⟨new_cell w _ t 0 _ rfl, new_cell w _ t 1 _ rfl, new_cell w _ t 2 _ rfl, new_cell w _ t 3 _ rfl, fun j => new_free w _ t j⟩
theorem Box4.alloc (h : Box4 w b v0 v1 v2 v3) (o : Obj) : Box4 (w.alloc o) b v0 v1 v2 v3 := h.only (Only.of_below (bellow_alloc w o) : Only (b + 1) w (w.alloc o)) (by omega)
theorem Box4.set0 (h : Box4 w b v0 v1 v2 v3) (u : Value) : Box4 (w.setCell ⟨b, 0, none⟩ u) b u v1 v2 v3 :=
  ⟨World.cell?_setCell_same _ _ _ h.1, (World.cell?_setCell_other _ _ _ _ (by simp)).trans h.2.1, (World.cell?_setCell_other _ _ _ _ (by simp)).trans h.2.2.1, (World.cell?_setCell_other _ _ _ _ (by simp)).trans h.2.2.2.1, fun j => (World.frozen?_setCell _ _ _ _).trans (h.2.2.2.2 j)⟩
theorem Box4.set1 (h : Box4 w b v0 v1 v2 v3) (u : Value) : Box4 (w.setCell ⟨b, 1, none⟩ u) b v0 u v2 v3 :=
  ⟨(World.cell?_setCell_other _ _ _ _ (by simp)).trans h.1, World.cell?_setCell_same _ _ _ h.2.1, (World.cell?_setCell_other _ _ _ _ (by simp)).trans h.2.2.1, (World.cell?_setCell_other _ _ _ _ (by simp)).trans h.2.2.2.1, fun j => (World.frozen?_setCell _ _ _ _).trans (h.2.2.2.2 j)⟩
theorem Box4.set2 (h : Box4 w b v0 v1 v2 v3) (u : Value) : Box4 (w.setCell ⟨b, 2, none⟩ u) b v0 v1 u v3 :=
  ⟨(World.cell?_setCell_other _ _ _ _ (by simp)).trans h.1, (World.cell?_setCell_other _ _ _ _ (by simp)).trans h.2.1, World.cell?_setCell_same _ _ _ h.2.2.1, (World.cell?_setCell_other _ _ _ _ (by simp)).trans h.2.2.2.1, fun j => (World.frozen?_setCell _ _ _ _).trans (h.2.2.2.2 j)⟩
theorem Box4.set3 (h : Box4 w b v0 v1 v2 v3) (u : Value) : Box4 (w.setCell ⟨b, 3, none⟩ u) b v0 v1 v2 u :=
  ⟨(World.cell?_setCell_other _ _ _ _ (by simp)).trans h.1, (World.cell?_setCell_other _ _ _ _ (by simp)).trans h.2.1, (World.cell?_setCell_other _ _ _ _ (by simp)).trans h.2.2.1, World.cell?_setCell_same _ _ _ h.2.2.2.1, fun j => (World.frozen?_setCell _ _ _ _).trans (h.2.2.2.2 j)⟩
theorem Box4.other (h : Box4 w b v0 v1 v2 v3) (p : Addr) (u : Value) (hne : p.block ≠ b) : Box4 (w.setCell p u) b v0 v1 v2 v3 :=
  ⟨(World.cell?_setCell_other _ _ _ _ (fun e => hne (by rw [e]))).trans h.1, (World.cell?_setCell_other _ _ _ _ (fun e => hne (by rw [e]))).trans h.2.1, (World.cell?_setCell_other _ _ _ _ (fun e => hne (by rw [e]))).trans h.2.2.1, (World.cell?_setCell_other _ _ _ _ (fun e => hne (by rw [e]))).trans h.2.2.2.1, fun j => (World.frozen?_setCell _ _ _ _).trans (h.2.2.2.2 j)⟩
end
theorem Rd.set {w : World} {g p : Nat} (h : Rd w g p) (q : Addr) (u : Value) (hq : g < q.block) : Rd (w.setCell q u) g p := by
  obtain ⟨a, n, c, h1, h2, h3, h4⟩ := h
  refine ⟨a, n, c, ?_, h2, h3, fun hn => ?_⟩
  · rw [Below.heap_setCell w q u g (by omega)]; exact h1
  · obtain ⟨b, off, e, hlt, hc⟩ := h4 hn
    exact ⟨b, off, e, hlt, fun k hk => by
      obtain ⟨x, h5, h6, h7⟩ := hc k hk
      exact ⟨x, h5, h6, (World.cell?_setCell_other w _ _ _ (fun e => by rw [e] at hq; simp at hq; omega)).trans h7⟩⟩
/-- What is done, while it is drawn: in block ob; the result's block is rb. -/
def OpIn (F : ByteArray → Bool) (w0 w : World) (g rb ob p q : Nat) : Prop :=
  ∃ (k : Int) (P T D : ByteArray) (p' : Nat) (u0 u1 u2 u3 : Value), Box4 w ob (.int .i64 k) (.string P) (.string T) (.string D) ∧ Box4 w rb u0 u1 u2 u3 ∧ F P = true ∧ goodT T = true ∧ D.size ≤ 20 ∧ p' ≤ p + q ∧ Rd w g p' ∧ Only g w0 w
theorem OpIn.more {F : ByteArray → Bool} {w0 w : World} {g rb ob p q q' : Nat} (h : OpIn F w0 w g rb ob p q) (hq : q ≤ q') : OpIn F w0 w g rb ob p q' := by
  obtain ⟨k, P, T, D, p', u0, u1, u2, u3, h1, h2, h3, h4, h5, h6, h7⟩ := h
  exact ⟨k, P, T, D, p', u0, u1, u2, u3, h1, h2, h3, h4, h5, by omega, h7⟩
set_option maxRecDepth 100000 in
set_option maxHeartbeats 8000000 in
theorem l2Op_c (F : ByteArray → Bool) (hF : ∀ s, goodT s = true → F s = true) (w : World) (g p : Nat) (hr : Rd w g p) (hp : p ≤ 900000) (a : Option Addr) (c : Nat) (xs : List En) (ht : DrawnT w g a c xs) (hz : ∀ e ∈ xs, F e.p = true) (hx : xs.length ≤ 1000) :
    Calls Tryd.prog 21 #[.pointer (some ⟨g, 0, none⟩), .slice a xs.length c] w (OpPost F w g p 10) := by
  have hg := hr.lt
  obtain ⟨rb, hrb⟩ : ∃ rb, w.heap.size = rb := ⟨_, rfl⟩
  have hgr : g < rb := by rw [← hrb]; exact hg
  have HT := Lib.hid ht
  have HZ := Lib.hid hz
  obtain ⟨n, hn⟩ : ∃ n, xs.length = n := ⟨_, rfl⟩
  have HN := Lib.hid hn
  rw [hn] at hx ⊢
  clear hn ht hz
  obtain ⟨w1, hw1⟩ : ∃ w1, w.alloc (.cells #[.int .i64 0, .string ⟨#[]⟩, .string ⟨#[]⟩, .string ⟨#[]⟩] 50) = w1 := ⟨_, rfl⟩
  have HR1 : Hid (Box4 w1 rb (.int .i64 0) (.string ⟨#[]⟩) (.string ⟨#[]⟩) (.string ⟨#[]⟩)) := by rw [Hid, ← hw1, ← hrb]; exact Box4.new w _ _ _ _ _
  have hO1 : Only g w w1 := by rw [← hw1]; exact (Only.refl g w).alloc _
  have hrd1 : Rd w1 g p := by rw [← hw1]; exact hr.alloc _
  have hs1' : w1.heap.size = w.heap.size + 1 := by rw [← hw1]; simp
  have hs1 : w1.heap.size = rb + 1 := by rw [hs1', hrb]
  have HNUM := Lib.hid (fun (cs : Array Value) (n : Nat) (hn : Hid (cs.size = n)) h0 h1 hs => num_c (w1.alloc (.cells cs 3)) g p (rb + 1) n cs 3 (hrd1.alloc _) (by omega) (by rw [← hs1]; exact heap_alloc_new w1 _) (by omega) hn.out h0 h1 hs)
  have HO1 := Lib.hid hO1
  clear hr hO1 hrd1
  subst hw1
  go_enter Tryd.func21, Tryd.ntmps21
  go_wp2_with fail
  refine (HNUM.out _ _ (by exact Lib.hid rfl) (by decide) (by decide) (by rfl)).mono ?_
  rintro e w2 ⟨z, p1, rfl, hz1, hz2, hp1, hrd2, ho2⟩
  have hs2 : rb < w2.heap.size := Nat.lt_of_lt_of_le (by simp; omega) ho2.size
  have HO2 := Lib.hid ((HO1.out.alloc _).trans ho2)
  have HR2 := Lib.hid ((HR1.out.alloc _).only ho2 (by omega))
  have HL := Lib.hid (l1PathT_c w2 g p1 hrd2 (by omega))
  clear hrd2 ho2 HNUM HR1 HO1
  go_wp2_with fail
  refine HL.out.mono ?_; rintro e w3 ⟨s, p2, rfl, hs0, hp2, hrd3, ho3⟩
  have hs := hF s (pathT_good hs0)
  obtain ⟨ob, hob⟩ : ∃ ob, w3.heap.size = ob := ⟨_, rfl⟩
  have hrob : rb < ob := by rw [← hob]; exact Nat.lt_of_lt_of_le hs2 ho3.size
  have HO3 := Lib.hid ((HO2.out.trans ho3).alloc (.cells #[.int .i64 z, .string s, .string ⟨#[]⟩, .string ⟨#[]⟩] 50))
  have HB3 : Hid (Box4 (w3.alloc (.cells #[.int .i64 z, .string s, .string ⟨#[]⟩, .string ⟨#[]⟩] 50)) ob (.int .i64 z) (.string s) (.string ⟨#[]⟩) (.string ⟨#[]⟩)) := by rw [Hid, ← hob]; exact Box4.new _ _ _ _ _ _
  have HR3 := Lib.hid ((HR2.out.only ho3 (by omega)).alloc (.cells #[.int .i64 z, .string s, .string ⟨#[]⟩, .string ⟨#[]⟩] 50))
  have HRD3 := Lib.hid (hrd3.alloc (.cells #[.int .i64 z, .string s, .string ⟨#[]⟩, .string ⟨#[]⟩] 50))
  have HSZ : Hid (w.heap.size ≤ ob) := by rw [Hid, hrb]; omega
  clear hrd3 ho3 HL HO2 HR2
  go_upto_region 2 with fail
  generalize hW : w3.alloc (.cells #[.int .i64 z, .string s, .string ⟨#[]⟩, .string ⟨#[]⟩] 50) = W at HO3 HB3 HR3 HRD3 ⊢
  clear hW
  go_cut [24] (fun s24 wx => ∃ b : Bool, s24 = .bool b ∧ (b = true → 0 < n) ∧ OpIn F w wx g rb ob p 3)
  case first =>
    have c0 := HB3.out.1
    by_cases hn0 : 0 < n
    · have g0 : (0 : Int) < (n : Int) := by omega
      by_cases hk2 : 2 < z
      · have HP := Lib.hid (pick_c W g p2 4 HRD3.out (by omega) (by omega) (by omega))
        go_wp2_with fail
        refine HP.out.mono ?_; rintro e w4 ⟨m, rfl, _, _, hrd4, ho4⟩
        have HX : Hid (OpIn F w w4 g rb ob p 3) := ⟨z, s, ⟨#[]⟩, ⟨#[]⟩, p2 + 1, _, _, _, _, HB3.out.only ho4 (by omega), HR3.out.only ho4 (by omega), hs, by decide, by decide, by omega, hrd4, HO3.out.trans ho4⟩
        clear hrd4 ho4 HP c0
        by_cases hm : 0 < m
        · have gm : (0 : Int) < (m : Int) := by omega
          go_wp2_with fail
          go_meet
          exact ⟨true, rfl, fun _ => hn0, HX.out⟩
        · have gm : decide ((0 : Int) < (m : Int)) = false := by rw [decide_eq_false_iff_not]; omega
          go_wp2_with fail
          go_meet
          exact ⟨false, rfl, fun _ => hn0, HX.out⟩
      · have gk : decide ((2 : Int) < z) = false := by rw [decide_eq_false_iff_not]; omega
        have HX : Hid (OpIn F w W g rb ob p 3) := ⟨z, s, ⟨#[]⟩, ⟨#[]⟩, p2, _, _, _, _, HB3.out, HR3.out, hs, by decide, by decide, by omega, HRD3.out, HO3.out⟩
        go_wp2_with fail
        go_meet
        exact ⟨false, rfl, fun _ => hn0, HX.out⟩
    · have g0 : decide ((0 : Int) < (n : Int)) = false := by rw [decide_eq_false_iff_not]; omega
      have HX : Hid (OpIn F w W g rb ob p 3) := ⟨z, s, ⟨#[]⟩, ⟨#[]⟩, p2, _, _, _, _, HB3.out, HR3.out, hs, by decide, by decide, by omega, HRD3.out, HO3.out⟩
      go_wp2_with fail
      go_meet
      exact ⟨false, rfl, (fun h => by cases h), HX.out⟩
  case rest =>
  obtain ⟨bq, rfl, hbn, hcut⟩ := hcut
  clear HO3 HB3 HR3 HRD3
  go_upto_if 24 with fail
  go_cut [] (fun wx => OpIn F w wx g rb ob p 4)
  case first =>
    cases bq with
    | false =>
      have HX := Lib.hid (OpIn.more hcut (show 3 ≤ 4 by omega))
      clear hcut
      go_wp2_with fail
      go_meet
      exact HX.out
    | true =>
      have hn0 := hbn rfl
      obtain ⟨k, P, T, D, p', u0, u1, u2, u3, hbx, hrb, hP, hT, hD, hp', hrd, ho⟩ := hcut
      obtain ⟨b0, b1, b2, b3, bf⟩ := hbx
      have f0 := bf 0
      have f1 := bf 1
      have f2 := bf 2
      have f3 := bf 3
      have HBX : Hid (Box4 wc ob (.int .i64 k) (.string P) (.string T) (.string D)) := ⟨b0, b1, b2, b3, bf⟩
      have HRB := Lib.hid hrb
      have HRD := Lib.hid hrd
      have HO := Lib.hid ho
      clear bf hrb hrd ho
      have HP := Lib.hid (pick_c wc g p' (n : Int) HRD.out (by omega) (by omega) (by omega))
      go_wp2_with fail
      refine HP.out.mono ?_; rintro e w4 ⟨m, rfl, _, hm, hrd4, ho4⟩
      have hmn : m < n := by have := hm (by omega); omega
      obtain ⟨e0, hee⟩ : ∃ e, xs[m]? = some e := ⟨_, List.getElem?_eq_getElem (by rw [HN.out]; exact hmn)⟩
      have hes := HZ.out e0 (List.mem_of_getElem? hee)
      have hsl := (HT.out.only (HO.out.trans ho4)).sl
      obtain ⟨b, off, rfl, _⟩ := hsl.addr (by rw [HN.out]; omega)
      obtain ⟨d0, _, _⟩ := en_at hsl m e0 hee
      have hB4 := HBX.out.only ho4 (by omega)
      have h1c := hB4.2.1
      have h1f := hB4.2.2.2.2 1
      have i0 : (0 : Int) ≤ (m : Int) := by omega
      have i1 : (m : Int) < (n : Int) := by omega
      have HX : Hid (OpIn F w (w4.setCell ⟨ob, 1, none⟩ (.string e0.p)) g rb ob p 4) := ⟨k, e0.p, T, D, p' + 1, _, _, _, _, hB4.set1 _, (HRB.out.only ho4 (by omega)).other _ _ (by show ob ≠ rb; omega), hes, hT, hD, by omega, hrd4.set _ _ (by show g < ob; omega), (HO.out.trans ho4).setCell (.inr HSZ.out) _⟩
      clear hm hrd4 ho4 hsl hB4 hee HP b0 b1 b2 b3 f0 f1 f2 f3
      go_wp2_with fail
      go_meet
      exact HX.out
  case rest =>
  obtain ⟨k, P, T, D, p', u0, u1, u2, u3, hbx, hrb, hP, hT, hD, hp', hrd, ho⟩ := hcut
  obtain ⟨b0, b1, b2, b3, bf⟩ := hbx
  have f0 := bf 0
  have f1 := bf 1
  have f2 := bf 2
  have f3 := bf 3
  have HBX : Hid (Box4 wc ob (.int .i64 k) (.string P) (.string T) (.string D)) := ⟨b0, b1, b2, b3, bf⟩
  have HRB := Lib.hid hrb
  have HRD := Lib.hid hrd
  have HO := Lib.hid ho
  clear bf hrb hrd ho
  go_upto_if 36 with fail
  go_cut [] (fun wx => OpIn F w wx g rb ob p 5)
  case first =>
    by_cases k2 : k = 2
    · subst k2
      have HP := Lib.hid (l2Some_c wc g p' HRD.out (by omega))
      go_wp2_with fail
      refine HP.out.mono ?_; rintro e w4 ⟨s, p4, rfl, hs, hp4, hrd4, ho4⟩
      have hB4 := HBX.out.only ho4 (by omega)
      have h1c := hB4.2.2.2.1
      have h1f := hB4.2.2.2.2 3
      have HX : Hid (OpIn F w (w4.setCell ⟨ob, 3, none⟩ (.string s)) g rb ob p 5) := ⟨2, P, T, s, p4, _, _, _, _, hB4.set3 _, (HRB.out.only ho4 (by omega)).other _ _ (by show ob ≠ rb; omega), hP, hT, hs, by omega, hrd4.set _ _ (by show g < ob; omega), (HO.out.trans ho4).setCell (.inr HSZ.out) _⟩
      clear hrd4 ho4 hB4 HP b0 b1 b2 b3 f0 f1 f2 f3
      go_wp2_with fail
      go_meet
      exact HX.out
    · have n2 : (k == 2) = false := by rw [beq_eq_false_iff_ne]; exact k2
      have HX : Hid (OpIn F w wc g rb ob p 5) := ⟨k, P, T, D, p', _, _, _, _, HBX.out, HRB.out, hP, hT, hD, by omega, HRD.out, HO.out⟩
      clear k2
      go_wp2_with fail
      go_meet
      exact HX.out
  case rest =>
  clear HBX HRB HRD HO b0 b1 b2 b3 f0 f1 f2 f3 hP hT hD hp'
  clear k P T D p' u0 u1 u2 u3
  obtain ⟨k, P, T, D, p', u0, u1, u2, u3, hbx, hrb, hP, hT, hD, hp', hrd, ho⟩ := hcut
  obtain ⟨b0, b1, b2, b3, bf⟩ := hbx
  have f0 := bf 0
  have f1 := bf 1
  have f2 := bf 2
  have f3 := bf 3
  have HBX : Hid (Box4 wc ob (.int .i64 k) (.string P) (.string T) (.string D)) := ⟨b0, b1, b2, b3, bf⟩
  have HRB := Lib.hid hrb
  have HRD := Lib.hid hrd
  have HO := Lib.hid ho
  clear bf hrb hrd ho
  go_upto_if 42 with fail
  go_cut [] (fun wx => OpIn F w wx g rb ob p 6)
  case first =>
    by_cases k5 : k = 5
    · subst k5
      have HP := Lib.hid (l1PathT_c wc g p' HRD.out (by omega))
      go_wp2_with fail
      refine HP.out.mono ?_; rintro e w4 ⟨s, p4, rfl, hs, hp4, hrd4, ho4⟩
      have hB4 := HBX.out.only ho4 (by omega)
      have h1c := hB4.2.2.1
      have h1f := hB4.2.2.2.2 2
      have HX : Hid (OpIn F w (w4.setCell ⟨ob, 2, none⟩ (.string s)) g rb ob p 6) := ⟨5, P, s, D, p4, _, _, _, _, hB4.set2 _, (HRB.out.only ho4 (by omega)).other _ _ (by show ob ≠ rb; omega), hP, pathT_good hs, hD, by omega, hrd4.set _ _ (by show g < ob; omega), (HO.out.trans ho4).setCell (.inr HSZ.out) _⟩
      clear hrd4 ho4 hB4 HP b0 b1 b2 b3 f0 f1 f2 f3
      go_wp2_with fail
      go_meet
      exact HX.out
    · have n5 : (k == 5) = false := by rw [beq_eq_false_iff_ne]; exact k5
      have HX : Hid (OpIn F w wc g rb ob p 6) := ⟨k, P, T, D, p', _, _, _, _, HBX.out, HRB.out, hP, hT, hD, by omega, HRD.out, HO.out⟩
      clear k5
      go_wp2_with fail
      go_meet
      exact HX.out
  case rest =>
  clear HBX HRB HRD HO b0 b1 b2 b3 f0 f1 f2 f3 hP hT hD hp'
  clear k P T D p' u0 u1 u2 u3
  obtain ⟨k, P, T, D, p', u0, u1, u2, u3, hbx, hrb, hP, hT, hD, hp', hrd, ho⟩ := hcut
  obtain ⟨b0, b1, b2, b3, bf⟩ := hbx
  have f0 := bf 0
  have f1 := bf 1
  have f2 := bf 2
  have f3 := bf 3
  have HBX : Hid (Box4 wc ob (.int .i64 k) (.string P) (.string T) (.string D)) := ⟨b0, b1, b2, b3, bf⟩
  have HRB := Lib.hid hrb
  have HRD := Lib.hid hrd
  have HO := Lib.hid ho
  clear bf hrb hrd ho
  have HP := Lib.hid (pick_c wc g p' 50 HRD.out (by omega) (by omega) (by omega))
  clear b0 b1 b2 b3 f0 f1 f2 f3
  go_wp2_with fail
  refine HP.out.mono ?_; rintro e w5 ⟨m, rfl, _, hm, hrd5, ho5⟩
  have hm50 : m < 50 := by have := hm (by omega); omega
  have HB5 := Lib.hid (HBX.out.only ho5 (by omega))
  have HR5 := Lib.hid (HRB.out.only ho5 (by omega))
  have HO5 := Lib.hid (HO.out.trans ho5)
  have HRD5 := Lib.hid hrd5
  have hb5 : ob < w5.heap.size := HB5.out.lt
  clear HP hm hrd5 ho5 HBX HRB HRD HO
  by_cases m0 : m = 0
  · subst m0
    have HNU := Lib.hid (fun (cs : Array Value) (n : Nat) (hn : Hid (cs.size = n)) h0 h1 hs => num_c (w5.alloc (.cells cs 3)) g (p' + 1) w5.heap.size n cs 3 (HRD5.out.alloc _) (by omega) (heap_alloc_new w5 _) (by omega) hn.out h0 h1 hs)
    go_wp2_with fail
    refine (HNU.out _ _ (by exact Lib.hid rfl) (by decide) (by decide) (by rfl)).mono ?_
    rintro e w6 ⟨z, p6, rfl, _, _, hp6, hrd6, ho6⟩
    have hB6 := (HB5.out.alloc _).only ho6 (by omega)
    have hR6 := (HR5.out.alloc _).only ho6 (by omega)
    have hO6 := (HO5.out.alloc _).trans ho6
    have HB6 := Lib.hid hB6
    obtain ⟨cc0, cc1, cc2, cc3, ccf⟩ := hB6
    have fx := ccf 0
    have HB7 := Lib.hid (HB6.out.set0 (.int .i64 z))
    have HR7 := Lib.hid (hR6.other ⟨ob, 0, none⟩ (.int .i64 z) (by show ob ≠ rb; omega))
    have HO7 := Lib.hid (hO6.setCell (p := ⟨ob, 0, none⟩) (.inr HSZ.out) (.int .i64 z))
    have HRD7 := Lib.hid (hrd6.set ⟨ob, 0, none⟩ (.int .i64 z) (by show g < ob; omega))
    obtain ⟨c0, c1, c2, c3, _⟩ := HB7.out
    obtain ⟨r0, r1, r2, r3, rf⟩ := HR7.out
    have rf0 := rf 0
    have rf1 := rf 1
    have rf2 := rf 2
    have rf3 := rf 3
    have hR8 := Lib.hid ((((HR7.out.set0 (.int .i64 z)).set1 (.string P)).set2 (.string T)).set3 (.string D))
    have hD8 := Lib.hid ((((HRD7.out.set ⟨rb, 0, none⟩ (.int .i64 z) hgr).set ⟨rb, 1, none⟩ (.string P) hgr).set ⟨rb, 2, none⟩ (.string T) hgr).set ⟨rb, 3, none⟩ (.string D) hgr)
    have hO8 := Lib.hid ((((HO7.out.setCell (p := ⟨rb, 0, none⟩) (.inr (Nat.le_of_eq hrb)) (.int .i64 z)).setCell (p := ⟨rb, 1, none⟩) (.inr (Nat.le_of_eq hrb)) (.string P)).setCell (p := ⟨rb, 2, none⟩) (.inr (Nat.le_of_eq hrb)) (.string T)).setCell (p := ⟨rb, 3, none⟩) (.inr (Nat.le_of_eq hrb)) (.string D))
    clear rf ccf hR6 hO6 hrd6 ho6 HNU
    go_wp2
    obtain ⟨q0, q1, q2, q3, _⟩ := hR8.out
    refine bodyPost_ret (v := opV z P T D) (by simp [results, Tryd.results21, go_sem, q0, q1, q2, q3]) rfl ⟨z, P, T, D, p6, rfl, hP, hT, hD, by omega, hD8.out, hO8.out⟩
  by_cases m1 : m = 1
  · subst m1
    have HNU := Lib.hid (fun (cs : Array Value) (n : Nat) (hn : Hid (cs.size = n)) h0 h1 hs => ofF_c goodT (w5.alloc (.cells cs 9)) g (p' + 1) w5.heap.size n cs 9 (HRD5.out.alloc _) (by omega) (heap_alloc_new w5 _) (by omega) hn.out h0 h1 hs)
    go_wp2_with fail
    refine (HNU.out _ _ (by exact Lib.hid rfl) (by decide) (by decide) (by kernel_rfl)).mono ?_
    rintro e w6 ⟨s, p6, rfl, hs0, hp6, hrd6, ho6⟩
    have hs := hF s hs0
    have hB6 := (HB5.out.alloc _).only ho6 (by omega)
    have hR6 := (HR5.out.alloc _).only ho6 (by omega)
    have hO6 := (HO5.out.alloc _).trans ho6
    have HB6 := Lib.hid hB6
    obtain ⟨cc0, cc1, cc2, cc3, ccf⟩ := hB6
    have fx := ccf 1
    have HB7 := Lib.hid (HB6.out.set1 (.string s))
    have HR7 := Lib.hid (hR6.other ⟨ob, 1, none⟩ (.string s) (by show ob ≠ rb; omega))
    have HO7 := Lib.hid (hO6.setCell (p := ⟨ob, 1, none⟩) (.inr HSZ.out) (.string s))
    have HRD7 := Lib.hid (hrd6.set ⟨ob, 1, none⟩ (.string s) (by show g < ob; omega))
    obtain ⟨c0, c1, c2, c3, _⟩ := HB7.out
    obtain ⟨r0, r1, r2, r3, rf⟩ := HR7.out
    have rf0 := rf 0
    have rf1 := rf 1
    have rf2 := rf 2
    have rf3 := rf 3
    have hR8 := Lib.hid ((((HR7.out.set0 (.int .i64 k)).set1 (.string s)).set2 (.string T)).set3 (.string D))
    have hD8 := Lib.hid ((((HRD7.out.set ⟨rb, 0, none⟩ (.int .i64 k) hgr).set ⟨rb, 1, none⟩ (.string s) hgr).set ⟨rb, 2, none⟩ (.string T) hgr).set ⟨rb, 3, none⟩ (.string D) hgr)
    have hO8 := Lib.hid ((((HO7.out.setCell (p := ⟨rb, 0, none⟩) (.inr (Nat.le_of_eq hrb)) (.int .i64 k)).setCell (p := ⟨rb, 1, none⟩) (.inr (Nat.le_of_eq hrb)) (.string s)).setCell (p := ⟨rb, 2, none⟩) (.inr (Nat.le_of_eq hrb)) (.string T)).setCell (p := ⟨rb, 3, none⟩) (.inr (Nat.le_of_eq hrb)) (.string D))
    clear rf ccf hR6 hO6 hrd6 ho6 HNU
    go_wp2
    obtain ⟨q0, q1, q2, q3, _⟩ := hR8.out
    refine bodyPost_ret (v := opV k s T D) (by simp [results, Tryd.results21, go_sem, q0, q1, q2, q3]) rfl ⟨k, s, T, D, p6, rfl, hs, hT, hD, by omega, hD8.out, hO8.out⟩
  by_cases m2 : m = 2
  · subst m2
    have HNU := Lib.hid (fun (cs : Array Value) (n : Nat) (hn : Hid (cs.size = n)) h0 h1 hs => ofF_c goodT (w5.alloc (.cells cs 9)) g (p' + 1) w5.heap.size n cs 9 (HRD5.out.alloc _) (by omega) (heap_alloc_new w5 _) (by omega) hn.out h0 h1 hs)
    go_wp2_with fail
    refine (HNU.out _ _ (by exact Lib.hid rfl) (by decide) (by decide) (by kernel_rfl)).mono ?_
    rintro e w6 ⟨s, p6, rfl, hs, hp6, hrd6, ho6⟩
    have hB6 := (HB5.out.alloc _).only ho6 (by omega)
    have hR6 := (HR5.out.alloc _).only ho6 (by omega)
    have hO6 := (HO5.out.alloc _).trans ho6
    have HB6 := Lib.hid hB6
    obtain ⟨cc0, cc1, cc2, cc3, ccf⟩ := hB6
    have fx := ccf 2
    have HB7 := Lib.hid (HB6.out.set2 (.string s))
    have HR7 := Lib.hid (hR6.other ⟨ob, 2, none⟩ (.string s) (by show ob ≠ rb; omega))
    have HO7 := Lib.hid (hO6.setCell (p := ⟨ob, 2, none⟩) (.inr HSZ.out) (.string s))
    have HRD7 := Lib.hid (hrd6.set ⟨ob, 2, none⟩ (.string s) (by show g < ob; omega))
    obtain ⟨c0, c1, c2, c3, _⟩ := HB7.out
    obtain ⟨r0, r1, r2, r3, rf⟩ := HR7.out
    have rf0 := rf 0
    have rf1 := rf 1
    have rf2 := rf 2
    have rf3 := rf 3
    have hR8 := Lib.hid ((((HR7.out.set0 (.int .i64 k)).set1 (.string P)).set2 (.string s)).set3 (.string D))
    have hD8 := Lib.hid ((((HRD7.out.set ⟨rb, 0, none⟩ (.int .i64 k) hgr).set ⟨rb, 1, none⟩ (.string P) hgr).set ⟨rb, 2, none⟩ (.string s) hgr).set ⟨rb, 3, none⟩ (.string D) hgr)
    have hO8 := Lib.hid ((((HO7.out.setCell (p := ⟨rb, 0, none⟩) (.inr (Nat.le_of_eq hrb)) (.int .i64 k)).setCell (p := ⟨rb, 1, none⟩) (.inr (Nat.le_of_eq hrb)) (.string P)).setCell (p := ⟨rb, 2, none⟩) (.inr (Nat.le_of_eq hrb)) (.string s)).setCell (p := ⟨rb, 3, none⟩) (.inr (Nat.le_of_eq hrb)) (.string D))
    clear rf ccf hR6 hO6 hrd6 ho6 HNU
    go_wp2
    obtain ⟨q0, q1, q2, q3, _⟩ := hR8.out
    refine bodyPost_ret (v := opV k P s D) (by simp [results, Tryd.results21, go_sem, q0, q1, q2, q3]) rfl ⟨k, P, s, D, p6, rfl, hP, hs, hD, by omega, hD8.out, hO8.out⟩
  by_cases m3 : m = 3
  · subst m3
    have HNU := Lib.hid (fun (cs : Array Value) (n : Nat) (hn : Hid (cs.size = n)) h0 h1 hs => of_c (w5.alloc (.cells cs 9)) g (p' + 1) w5.heap.size n cs 9 (HRD5.out.alloc _) (by omega) (heap_alloc_new w5 _) (by omega) hn.out h0 h1 hs)
    go_wp2_with fail
    refine (HNU.out _ _ (by exact Lib.hid rfl) (by decide) (by decide) (by rfl)).mono ?_
    rintro e w6 ⟨s, p6, rfl, hs, hp6, hrd6, ho6⟩
    have hB6 := (HB5.out.alloc _).only ho6 (by omega)
    have hR6 := (HR5.out.alloc _).only ho6 (by omega)
    have hO6 := (HO5.out.alloc _).trans ho6
    have HB6 := Lib.hid hB6
    obtain ⟨cc0, cc1, cc2, cc3, ccf⟩ := hB6
    have fx := ccf 3
    have HB7 := Lib.hid (HB6.out.set3 (.string s))
    have HR7 := Lib.hid (hR6.other ⟨ob, 3, none⟩ (.string s) (by show ob ≠ rb; omega))
    have HO7 := Lib.hid (hO6.setCell (p := ⟨ob, 3, none⟩) (.inr HSZ.out) (.string s))
    have HRD7 := Lib.hid (hrd6.set ⟨ob, 3, none⟩ (.string s) (by show g < ob; omega))
    obtain ⟨c0, c1, c2, c3, _⟩ := HB7.out
    obtain ⟨r0, r1, r2, r3, rf⟩ := HR7.out
    have rf0 := rf 0
    have rf1 := rf 1
    have rf2 := rf 2
    have rf3 := rf 3
    have hR8 := Lib.hid ((((HR7.out.set0 (.int .i64 k)).set1 (.string P)).set2 (.string T)).set3 (.string s))
    have hD8 := Lib.hid ((((HRD7.out.set ⟨rb, 0, none⟩ (.int .i64 k) hgr).set ⟨rb, 1, none⟩ (.string P) hgr).set ⟨rb, 2, none⟩ (.string T) hgr).set ⟨rb, 3, none⟩ (.string s) hgr)
    have hO8 := Lib.hid ((((HO7.out.setCell (p := ⟨rb, 0, none⟩) (.inr (Nat.le_of_eq hrb)) (.int .i64 k)).setCell (p := ⟨rb, 1, none⟩) (.inr (Nat.le_of_eq hrb)) (.string P)).setCell (p := ⟨rb, 2, none⟩) (.inr (Nat.le_of_eq hrb)) (.string T)).setCell (p := ⟨rb, 3, none⟩) (.inr (Nat.le_of_eq hrb)) (.string s))
    clear rf ccf hR6 hO6 hrd6 ho6 HNU
    go_wp2
    obtain ⟨q0, q1, q2, q3, _⟩ := hR8.out
    refine bodyPost_ret (v := opV k P T s) (by simp [results, Tryd.results21, go_sem, q0, q1, q2, q3]) rfl ⟨k, P, T, s, p6, rfl, hP, hT, hs, by omega, hD8.out, hO8.out⟩
  have n0 : ((m : Int) == 0) = false := by rw [beq_eq_false_iff_ne]; omega
  have n1 : ((m : Int) == 1) = false := by rw [beq_eq_false_iff_ne]; omega
  have n2 : ((m : Int) == 2) = false := by rw [beq_eq_false_iff_ne]; omega
  have n3 : ((m : Int) == 3) = false := by rw [beq_eq_false_iff_ne]; omega
  have hB7 := HB5.out
  have hR7 := HR5.out
  obtain ⟨c0, c1, c2, c3, _⟩ := hB7
  obtain ⟨r0, r1, r2, r3, rf⟩ := hR7
  have rf0 := rf 0
  have rf1 := rf 1
  have rf2 := rf 2
  have rf3 := rf 3
  have hR8 := Lib.hid ((((HR5.out.set0 (.int .i64 k)).set1 (.string P)).set2 (.string T)).set3 (.string D))
  have hD8 := Lib.hid ((((HRD5.out.set ⟨rb, 0, none⟩ (.int .i64 k) hgr).set ⟨rb, 1, none⟩ (.string P) hgr).set ⟨rb, 2, none⟩ (.string T) hgr).set ⟨rb, 3, none⟩ (.string D) hgr)
  have hO8 := Lib.hid ((((HO5.out.setCell (p := ⟨rb, 0, none⟩) (.inr (Nat.le_of_eq hrb)) (.int .i64 k)).setCell (p := ⟨rb, 1, none⟩) (.inr (Nat.le_of_eq hrb)) (.string P)).setCell (p := ⟨rb, 2, none⟩) (.inr (Nat.le_of_eq hrb)) (.string T)).setCell (p := ⟨rb, 3, none⟩) (.inr (Nat.le_of_eq hrb)) (.string D))
  clear rf m0 m1 m2 m3
  go_wp2
  obtain ⟨q0, q1, q2, q3, _⟩ := hR8.out
  refine bodyPost_ret (v := opV k P T D) (by simp [results, Tryd.results21, go_sem, q0, q1, q2, q3]) rfl ⟨k, P, T, D, p' + 1, rfl, hP, hT, hD, by omega, hD8.out, hO8.out⟩
end Go.Proofs.YtobbodbkdcbflabDoor
namespace Go.Proofs.YtobbodbkdcbflabDoor
open Go.RowKit
theorem sub_i64 (z : Int) (h : -100 ≤ z) (h' : z ≤ 1000) : IntKind.i64.wrap (z - 1) = z - 1 := IntWalk.i64_in _ (by omega)
/-- A path whose second byte is ahead of k. -/
def lowL (l : Bs) : Bool := decide ((l.getD 1 0).toNat < 107)
theorem good_low {s : ByteArray} : goodT s = true ↔ s.size ≤ 20 ∧ lowL s.data.toList = true := by
  unfold goodT lowL
  simp [Array.getD_eq_getD_getElem?, List.getD_eq_getElem?_getD]
theorem low_app {a b : Bs} (h : 2 ≤ a.length) : lowL (a ++ b) = lowL a := by
  unfold lowL
  rw [List.getD_eq_getElem?_getD, List.getD_eq_getElem?_getD, List.getElem?_append_left (by omega)]
theorem low_move {s f t : Bs} (hs : lowL s = true) (ht : lowL t = true) : lowL (moveL s f t) = true := by
  unfold moveL
  split
  · next h =>
    have h3 := (path_len (moveOk_paths h).2.2.1).1
    unfold moved
    split
    · rw [low_app h3]; exact ht
    · exact hs
  · rfl
/-- All that stands in a list is low. -/
def LowT (t : List PE) : Prop := ∀ e ∈ t, lowL e.p = true
theorem low_do {t : List PE} (h : TOk t) {k : Int} {p r x : Bs} (ht : LowT t) (hp : lowL p = true) (hr : lowL r = true) : LowT (tdo t k p r x) := by
  intro e he
  by_cases hc : tcode t k p r x = 0
  · rw [tdo_do hc] at he
    obtain ⟨_, ho, hcd⟩ := tcode_0 hc
    rcases opOk_k ho with rfl | rfl | rfl | rfl | rfl
    · rw [doL_1] at he
      rcases (mem_putP h.ordP).1 he with rfl | h1
      · exact hp
      · exact ht e h1.1
    · rw [doL_2] at he
      rcases (mem_putP h.ordP).1 he with rfl | h1
      · exact hp
      · exact ht e h1.1
    · rw [doL_3] at he; exact ht e (List.mem_filter.1 he).1
    · rw [doL_4] at he; exact ht e (List.mem_filter.1 he).1
    · rw [doL_5] at he
      rw [code_5] at hcd
      rw [opOk_5] at ho
      simp only [Bool.and_eq_true] at ho
      obtain ⟨f, hf, rfl⟩ := (mv_of h ho.1 ho.2.1 hcd).mem.1 he
      exact low_move (ht f hf) hr
  · rw [tdo_same h hc] at he; exact ht e he
/-- The path of z and the j-th letter. -/
def zP (j : Nat) : Bs := [47, 122, UInt8.ofNat (97 + j)]
theorem zP_ok {j : Nat} (hj : j < 26) : pathOkL (zP j) = true ∧ upL (zP j) = [47] := by
  have hn : nameOkL [122, UInt8.ofNat (97 + j)] = true := by
    have h1 : (UInt8.ofNat (97 + j)).toNat = 97 + j := by rw [UInt8.toNat_ofNat']; omega
    simp [nameOkL, isLo]; omega
  have hs : NS [[122, UInt8.ofNat (97 + j)]] := ⟨by simp, fun n h => by rw [List.mem_singleton.1 h]; exact hn⟩
  have e : zP j = flat [[122, UInt8.ofNat (97 + j)]] := rfl
  rw [e]
  exact ⟨pathOk_flat hs (by simp), by rw [up_flat hs (by simp)]; rfl⟩
theorem zP_low (j : Nat) : lowL (zP j) = false := rfl
theorem zP_inj {i j : Nat} (hi : i < 26) (hj : j < 26) (h : zP i = zP j) : i = j := by
  unfold zP at h
  injection h with _ h; injection h with _ h; injection h with h _
  have h1 := congrArg UInt8.toNat h
  rw [UInt8.toNat_ofNat', UInt8.toNat_ofNat'] at h1
  omega
/-- A tree that is filled up: j have come. -/
def FillT (j : Nat) (t : List PE) : Prop := (∀ e ∈ t, lowL e.p = true ∨ ∃ i, i < j ∧ i < 26 ∧ e.p = zP i) ∧ j ≤ t.length
theorem fill_0 {t : List PE} (h : LowT t) : FillT 0 t := ⟨fun e he => .inl (h e he), Nat.zero_le _⟩
theorem fill_do {t : List PE} (h : TOk t) {j : Nat} (hj : j < 26) (hf : FillT j t) (hl : t.length < 16) : FillT (j + 1) (tdo t 2 (zP j) [] []) := by
  obtain ⟨hp, hu⟩ := zP_ok hj
  have hn : getL t (zP j) = none := get_none.2 fun e he hq => by
    rcases hf.1 e he with h1 | ⟨i, h1, h2, h3⟩
    · rw [hq, zP_low] at h1; cases h1
    · rw [hq] at h3
      have := zP_inj hj h2 h3
      omega
  have ho : opOkL 2 (zP j) [] [] = true := by rw [opOk_2, hp]; rfl
  have hc : tcode t 2 (zP j) [] [] = 0 := by
    rw [tcode_op h ho, code_2]
    unfold putC
    rw [if_neg (by rw [(upCode_iff h.ordP).2 (.inl hu)]; simp), hn]
    simp; omega
  rw [tdo_do hc, doL_2]
  constructor
  · intro e he
    rcases (mem_putP h.ordP).1 he with rfl | h1
    · exact .inr ⟨j, by omega, hj, rfl⟩
    · rcases hf.1 e h1.1 with h2 | ⟨i, h2, h3⟩
      · exact .inl h2
      · exact .inr ⟨i, by omega, h3⟩
  · rw [len_putP h.ordP, show PE.p ⟨zP j, false, []⟩ = zP j from rfl, ← getL_at, hn, if_neg (by simp)]
    have := hf.2
    omega
theorem fill_zl {t : List PE} (h : TOk t) {j : Nat} (hf : FillT j t) : ZL t := fun e he hq => by
  have hm := h.most
  rcases hf.1 e he with h1 | ⟨i, h1, h2, h3⟩
  · rw [hq] at h1; cases h1
  · rw [hq] at h3
    have h4 := zP_inj (i := 25) (by omega) h2 h3
    have := hf.2
    omega
theorem low_zl {t : List PE} (h : LowT t) : ZL t := fun e he hq => by have h1 := h e he; rw [hq] at h1; cases h1
theorem low_good {xs : List En} (h : LowT (xs.map En.pl)) (hz : Small xs) : ∀ e ∈ xs, goodT e.p = true := fun e he => good_low.2 ⟨(hz e he).1, h e.pl (List.mem_map_of_mem he)⟩
theorem strz_at (j : Nat) : ((⟨#[47, 122]⟩ : ByteArray) ++ strOfNums [97 + (j : Int)]).data.toList = zP j := by
  have h : (97 + (j : Int)).toNat = 97 + j := by omega
  simp [strOfNums, zP, h]
/-- The state of a tree that is drawn. -/
def TreeIn (Q : List PE → Prop) (w0 w : World) (g p : Nat) (v : Value) : Prop :=
  ∃ (a : Option Addr) (c : Nat) (xs : List En), v = .slice a xs.length c ∧ DrawnT w g a c xs ∧ TOk (xs.map En.pl) ∧ Q (xs.map En.pl) ∧ Rd w g p ∧ Only g w0 w
set_option maxRecDepth 100000 in
set_option maxHeartbeats 8000000 in
theorem l2Tree_c (w : World) (g p : Nat) (hr : Rd w g p) (hp : p ≤ 500000) :
    Calls Tryd.prog 18 #[.pointer (some ⟨g, 0, none⟩)] w (TreePost w g p 2000) := by
  have hg := hr.lt
  have HR := Lib.hid hr
  clear hr
  have HB0 := bellow_alloc w (.cells #[] 31)
  have hd0 : DrawnT (w.alloc (.cells #[] 31)) g (some ⟨w.heap.size, 0, none⟩) 0 [] := ⟨w.heap.size, 0, rfl, hg, by simp, fun h => absurd h (by simp), Nat.zero_le _, Nat.zero_le _⟩
  have HD0 := Lib.hid hd0
  have HRD0 := Lib.hid (HR.out.alloc (.cells #[] 31))
  have HO0 := Lib.hid ((Only.refl g w).alloc (.cells #[] 31))
  have hs0 : (w.alloc (.cells #[] 31)).heap.size = w.heap.size + 1 := by simp
  have HNUM := Lib.hid (fun (cs : Array Value) (n : Nat) (hn : Hid (cs.size = n)) h0 h1 hs => num_c ((w.alloc (.cells #[] 31)).alloc (.cells cs 3)) g p (w.heap.size + 1) n cs 3 (HRD0.out.alloc _) (by omega) (by rw [← hs0]; exact heap_alloc_new _ _) (by omega) hn.out h0 h1 hs)
  clear hd0 HB0 hs0
  go_enter Tryd.func18, Tryd.ntmps18
  go_wp2_with fail
  refine (HNUM.out _ _ (by exact Lib.hid rfl) (by decide) (by decide) (by rfl)).mono ?_
  rintro e w1 ⟨z, p1, rfl, hz1, hz2, hp1, hrd1, ho1⟩
  have HT1 : Hid (TreeIn LowT w w1 g p1 (.slice (some ⟨w.heap.size, 0, none⟩) 0 0)) := ⟨_, 0, [], rfl, (HD0.out.only ((Only.refl _ _).alloc _)).only ho1, ⟨by simp, fun e h => by simp at h, by unfold Ord; simp, fun e h => by simp at h⟩, fun e h => by simp at h, hrd1, (HO0.out.alloc _).trans ho1⟩
  clear hrd1 ho1 HNUM HD0 HRD0 HO0
  go_wp2
  go_loopw [3, 4] (fun v i wr => ∃ (z' : Int) (p' : Nat), i = .int .i64 z' ∧ -10 ≤ z' ∧ z' ≤ 100 ∧ p' + 10 * z'.toNat ≤ p + 1001 ∧ TreeIn LowT w wr g p' v) (fun _ i _ => (intOf i).toNat)
  case atStart => exact ⟨z, p1, rfl, hz1, hz2, by omega, HT1.out⟩
  case round =>
    obtain ⟨z', p', rfl, hz1', hz2', hpz, a', c', ts, rfl, hdt, htok, hlow, hrd, ho⟩ := hrel
    have hts : ts.length ≤ 16 := by have := htok.most; rw [List.length_map] at this; exact this
    have HTK := Lib.hid htok
    have HO := Lib.hid ho
    have HLOW := Lib.hid hlow
    clear htok ho hlow
    by_cases hpos : 0 < z'
    · have HL := Lib.hid (l2Op_c goodT (fun _ h => h) wr g p' hrd (by omega) a' c' ts hdt (low_good HLOW.out (tok_small HTK.out)) (by omega))
      have HDT := Lib.hid hdt
      obtain ⟨n, hn⟩ : ∃ n, ts.length = n := ⟨_, rfl⟩
      have HN := Lib.hid hn
      rw [hn] at HL ⊢
      clear hrd hdt hn
      go_wp2_with fail
      refine HL.out.mono ?_; rintro e w2 ⟨k, P, T, D, p2, rfl, hgP, hgT, hD, hp2, hrd2, ho2⟩; have hP := goodT_size hgP; have hT := goodT_size hgT; have HLD := Lib.hid (low_do (k := k) (x := D.data.toList) HTK.out HLOW.out (good_low.1 hgP).2 (good_low.1 hgT).2); clear hgP hgT
      have HD2 := Lib.hid (HDT.out.only ho2)
      have HS := Lib.hid (sTreeDo_c a' c' ts k P T D w2 HD2.out.read (by omega) (by omega) (by omega) (by omega) (tok_small HTK.out).mil)
      have hg2 := hrd2.lt
      have HRD2 := Lib.hid hrd2
      have HO2 := Lib.hid (HO.out.trans ho2)
      rw [HN.out] at HS
      clear hrd2 ho2 HL
      go_wp2_with fail
      refine HS.out.mono ?_; rintro e w3 ⟨v3, ms, rfl, hms, how, hq3⟩
      obtain ⟨a3, c3, rfl, hd3⟩ := how.drawn hg2
      have HX : Hid (TreeIn LowT w w3 g p2 (.slice a3 ms.length c3)) := ⟨a3, c3, ms, rfl, hd3, by rw [hms]; exact tdo_tok HTK.out, by rw [hms]; exact HLD.out, HRD2.out.keep hq3 hg2, HO2.out.trans (Only.of_below hq3)⟩
      clear hms how hd3 hq3 HS
      go_wp2
      go_roundw
      case rel => exact ⟨z' - 1, p2, by go_num, by omega, by omega, by omega, HX.out⟩
      case measure => simp [intOf]; omega
    · have HK := Lib.hid (pick_c wr g p' 20 hrd (by omega) (by omega) (by omega))
      have hgz : decide ((0 : Int) < z') = false := by rw [decide_eq_false_iff_not]; exact hpos
      have HDT := Lib.hid hdt
      clear hrd hdt
      go_wp2_with fail
      refine HK.out.mono ?_; rintro e w2 ⟨m, rfl, _, _, hrd2, ho2⟩
      have HT2 : Hid (TreeIn (FillT 0) w w2 g (p' + 1) (.slice a' ts.length c')) := ⟨a', c', ts, rfl, HDT.out.only ho2, HTK.out, fill_0 HLOW.out, hrd2, HO.out.trans ho2⟩
      clear hrd2 ho2 HK
      by_cases hm : m = 0
      · subst hm
        go_wp2
        go_loopw [3, 5] (fun v i wr => ∃ (j : Nat), i = .int .i64 j ∧ j ≤ 26 ∧ TreeIn (FillT j) w wr g (p' + 1) v) (fun _ i _ => 26 - (intOf i).toNat)
        case atStart => exact ⟨0, rfl, by omega, HT2.out⟩
        case round =>
          obtain ⟨j, rfl, hj, a4, c4, us, rfl, hdt, htok, hfill, hrd, ho⟩ := hrel
          have hus : us.length ≤ 16 := by have := htok.most; rw [List.length_map] at this; exact this
          have HTK4 := Lib.hid htok
          have HO4 := Lib.hid ho
          have HD4 := Lib.hid hdt
          have HR4 := Lib.hid hrd
          have HFL := Lib.hid hfill
          clear htok ho hdt hrd hfill
          by_cases hj26 : j < 26
          · by_cases hfull : us.length < 16
            · have hb4 := bellow_alloc wr (.cells #[.int .u8 (97 + (j : Int))] 5)
              have hcv := run_convert_bytes_arg (P := Tryd.prog) (wr.alloc (.cells #[.int .u8 (97 + (j : Int))] 5)) 22 5 Tryd.underlying22 Tryd.underlying5 wr.heap.size 0 1 1 [97 + (j : Int)] rfl (fun i hi => by
                obtain rfl : i = 0 := by omega
                exact new_cell wr _ _ 0 _ rfl) 9 Tryd.underlying9
              have hs1 : (strOfNums [97 + (j : Int)]).size = 1 := strOfNums_size _
              have hsz : ((⟨#[47, 122]⟩ : ByteArray) ++ strOfNums [97 + (j : Int)]).size ≤ 2000000 := by rw [ByteArray.size_append, hs1]; decide
              have HS := Lib.hid (sTreeDo_c a4 c4 us 2 ((⟨#[47, 122]⟩ : ByteArray) ++ strOfNums [97 + (j : Int)]) ⟨#[]⟩ ⟨#[]⟩ (wr.alloc (.cells #[.int .u8 (97 + (j : Int))] 5)) (HD4.out.read.below hb4) (by omega) hsz (by decide) (by decide) (tok_small HTK4.out).mil)
              have HFD := Lib.hid (fill_do HTK4.out hj26 HFL.out (by rw [List.length_map]; exact hfull))
              have hg4 := HR4.out.lt
              have hl1 : ((us.length : Nat) : Int) < 16 := by omega
              obtain ⟨n4, hn4⟩ : ∃ n, us.length = n := ⟨_, rfl⟩
              rw [hn4] at HS hl1 ⊢
              clear hs1 hsz hn4
              go_wp2_with fail
              refine HS.out.mono ?_; rintro e w5 ⟨v5, ms, rfl, hms, how, hq5⟩
              obtain ⟨a5, c5, rfl, hd5⟩ := how.drawn (g := g) (by simp; omega)
              have HX : Hid (TreeIn (FillT (j + 1)) w w5 g (p' + 1) (.slice a5 ms.length c5)) := ⟨a5, c5, ms, rfl, hd5, by rw [hms]; exact tdo_tok HTK4.out, by rw [hms, strz_at]; exact HFD.out, (HR4.out.alloc _).keep hq5 (by simp; omega), (HO4.out.alloc _).trans (Only.of_below hq5)⟩
              clear hms how hd5 hq5 HS hcv
              go_wp2
              go_roundw
              case rel => exact ⟨j + 1, by go_num, by omega, HX.out⟩
              case measure => simp [intOf]; omega
            · have hl1 : decide (((us.length : Nat) : Int) < 16) = false := by rw [decide_eq_false_iff_not]; omega
              go_wp2
              go_ret
              exact ⟨a4, c4, us, p' + 1, rfl, HD4.out, HTK4.out, fill_zl HTK4.out HFL.out, by omega, HR4.out, HO4.out⟩
          · obtain rfl : j = 26 := by omega
            go_wp2
            go_ret
            exact ⟨a4, c4, us, p' + 1, rfl, HD4.out, HTK4.out, fill_zl HTK4.out HFL.out, by omega, HR4.out, HO4.out⟩
      · have hmz : ((m : Int) == 0) = false := by rw [beq_eq_false_iff_ne]; omega
        obtain ⟨a4, c4, us, he, hdt, htok, hfl, hrd, ho⟩ := HT2.out
        injection he with he1 he2 he3
        have HFIN : Hid (TreePost w g p 2000 (.returned (.slice a' ts.length c')) w2) := by
          obtain ⟨a4, c4, us, he, h1, h2, h5, h3, h4⟩ := HT2.out
          exact ⟨a4, c4, us, p' + 1, by rw [he], h1, h2, fill_zl h2 h5, by omega, h3, h4⟩
        clear he1 he2 he3 hdt htok hrd ho hfl
        go_wp2
        go_ret
        exact HFIN.out
end Go.Proofs.YtobbodbkdcbflabDoor
