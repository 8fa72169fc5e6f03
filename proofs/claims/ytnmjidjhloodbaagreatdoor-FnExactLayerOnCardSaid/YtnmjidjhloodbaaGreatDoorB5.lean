/- The walks of what looks into a layer: markAt, belowBare, hides, markOk, isDir of the program; l3Find, l3Kind, l3Bare, l3Hides, l3In of the reference. What calls tell that make lists of entries or of marks. What the exact walks share whose functions make lists. The walk of the exact law of OpOk. The walks of the program's makeCode, putCode, rmCode, rmdirCode, moveCode, opCode: how something ends that is done to a tree. Small laws for rows of structs that the call itself makes: one more struct, a whole slice of structs. The walk of the reference's l2Put. Plain laws of what is done to a tree. No program in sight. The walks of the program's rmdirCode, moveCode, opCode, copyEnts. The library's sort at this translation, laid in plain words by the kit's own tool. The library's sort at entries and at marks: the comparison's walk, the row before and behind it. The walk of the program's TreeDo. The walks of the reference's l2Up, l2New, l2PutCode, l2OffCode, l2MoveCode, l2Code: how something ends that is done to a right tree. Conditions: each theorem's own. -/
import Derived.Test.YtnmjidjhloodbaaGreatDoorB3
import Derived.Test.YtnmjidjhloodbaaGreatDoorB4
import Derived.Test.YtnmjidjhloodbaaGreatDoorB2
import Derived.Test.YtnmjidjhloodbaaGreatDoorB1
import Derived.Laws.AppendOwnNone
import Derived.Shelf.SlSortCmp.WholeK
import Derived.Ground.SlsfProg
import Derived.Test.YtnmjidjhloodbaaGreatDoorProg
import Derived.Shelf.SlSortCmp.NoneTotal
namespace Go.Proofs.YtnmjidjhloodbaaGreatDoor
open Go.RowKit
def Mk.pl (m : Mk) : PM := ⟨m.p.data.toList, m.k, m.x.data.toList⟩
theorem Mk.pl_inj {e f : Mk} (h : e.pl = f.pl) : e = f := by
  obtain ⟨p, d, x⟩ := e
  obtain ⟨p', d', x'⟩ := f
  simp only [Mk.pl, PM.mk.injEq] at h
  rw [bytes_eq h.1, h.2.1, bytes_eq h.2.2]
/-- What is at a path, among marks as they lie. -/
def getM : List Mk → ByteArray → Option Mk
  | [], _ => none
  | e :: r, q => if e.p.data.toList = q.data.toList then some e else getM r q
theorem getM_pl (xs : List Mk) (q : ByteArray) : atP PM.p (xs.map Mk.pl) q.data.toList = (getM xs q).map Mk.pl := by
  induction xs with
  | nil => rfl
  | cons e r ih =>
    rw [List.map_cons, atP, getM]
    show (if e.p.data.toList = q.data.toList then some e.pl else atP PM.p (List.map Mk.pl r) q.data.toList) = _
    by_cases h : e.p.data.toList = q.data.toList
    · rw [if_pos h, if_pos h]; rfl
    · rw [if_neg h, if_neg h]; exact ih
theorem getM_skip (xs : List Mk) (q : ByteArray) (k : Nat) (e : Mk) (he : xs[k]? = some e) (h : ∀ (j : Nat) (f : Mk), j < k → xs[j]? = some f → f.p.data.toList ≠ q.data.toList) :
    getM xs q = if e.p.data.toList = q.data.toList then some e else getM (xs.drop (k + 1)) q := by
  induction xs generalizing k with
  | nil => simp at he
  | cons a r ih =>
    cases k with
    | zero => simp at he; subst he; rfl
    | succ k =>
      rw [getM, if_neg (h 0 a (by omega) rfl)]
      have := ih k (by simpa using he) (fun j f hj hf => h (j + 1) f (by omega) (by simpa using hf))
      simpa using this
theorem getM_none (xs : List Mk) (q : ByteArray) (h : ∀ (j : Nat) (f : Mk), xs[j]? = some f → f.p.data.toList ≠ q.data.toList) : getM xs q = none := by
  induction xs with
  | nil => rfl
  | cons a r ih =>
    rw [getM, if_neg (h 0 a rfl)]
    exact ih (fun j f hf => h (j + 1) f (by simpa using hf))
def findM (xs : List Mk) (q : ByteArray) : Option Nat := xs.findIdx? fun e => e.p.data.toList == q.data.toList
theorem findM_at (xs : List Mk) (q : ByteArray) (k : Nat) (e : Mk) (he : xs[k]? = some e) (h : ∀ (j : Nat) (f : Mk), j < k → xs[j]? = some f → f.p.data.toList ≠ q.data.toList) (hq : e.p.data.toList = q.data.toList) : findM xs q = some k := by
  obtain ⟨h1, h2⟩ := List.getElem?_eq_some_iff.1 he
  unfold findM
  rw [List.findIdx?_eq_some_iff_getElem]
  refine ⟨h1, by rw [h2]; simpa using hq, fun j hj => ?_⟩
  have := h j _ hj (List.getElem?_eq_getElem (by omega))
  simpa using this
theorem findM_none (xs : List Mk) (q : ByteArray) (h : ∀ (j : Nat) (f : Mk), xs[j]? = some f → f.p.data.toList ≠ q.data.toList) : findM xs q = none := by
  unfold findM
  rw [List.findIdx?_eq_none_iff]
  intro e he
  obtain ⟨j, hj⟩ := List.getElem?_of_mem he
  have := h j e hj
  simpa using this
theorem findM_get (xs : List Mk) (q : ByteArray) : getM xs q = match findM xs q with
    | some k => xs[k]?
    | none => none := by
  cases hf : findM xs q with
  | none =>
    unfold findM at hf
    rw [List.findIdx?_eq_none_iff] at hf
    exact getM_none xs q fun j f hj => by have := hf f (List.mem_of_getElem? hj); simpa using this
  | some k =>
    unfold findM at hf
    rw [List.findIdx?_eq_some_iff_getElem] at hf
    obtain ⟨h1, h2, h3⟩ := hf
    rw [getM_skip xs q k xs[k] (List.getElem?_eq_getElem h1) (fun j f hj hf => by
      obtain ⟨h4, h5⟩ := List.getElem?_eq_some_iff.1 hf
      have := h3 j hj
      rw [h5] at this
      simpa using this), if_pos (by simpa using h2)]
    exact (List.getElem?_eq_getElem h1).symm
theorem findM_lt (xs : List Mk) (q : ByteArray) (k : Nat) (h : findM xs q = some k) : ∃ e, xs[k]? = some e ∧ getM xs q = some e := by
  have hg := findM_get xs q
  rw [h] at hg
  unfold findM at h
  rw [List.findIdx?_eq_some_iff_getElem] at h
  obtain ⟨h1, _⟩ := h
  exact ⟨xs[k], List.getElem?_eq_getElem h1, by rw [hg]; exact List.getElem?_eq_getElem h1⟩
set_option maxHeartbeats 2000000 in
theorem l3Find_c (a : Option Addr) (c : Nat) (xs : List Mk) (q : ByteArray) (o : Option Nat) (ho : Hid (findM xs q = o)) (w : World) (hs : SlF Mk.cells w a xs) (hx : xs.length ≤ maxLen) :
    Calls Tryz.prog 104 #[.slice a xs.length c, .string q] w fun r w' => r = .returned (.int .i64 (findV o)) ∧ w = w' := by
  obtain ⟨n, hn⟩ : ∃ n, xs.length = n := ⟨_, rfl⟩
  rw [hn] at hx ⊢
  unfold maxLen at hx
  have HN := Lib.hid hn
  have HS := Lib.hid hs
  clear hn hs
  go_enter Tryz.func104, Tryz.ntmps104
  go_wp2
  go_loop [5] (fun i => ∃ k : Nat, k ≤ n ∧ i = .int .i64 k ∧ (∀ (j : Nat) (f : Mk), j < k → xs[j]? = some f → f.p.data.toList ≠ q.data.toList)) (fun i => n - (intOf i).toNat)
  case atStart => exact ⟨0, Nat.zero_le _, rfl, fun j _ h => absurd h (by omega)⟩
  case round =>
    obtain ⟨k, hk, rfl, hall⟩ := hrel
    have HA := Lib.hid hall
    clear hall
    by_cases hlt : k < n
    · obtain ⟨e, hee⟩ : ∃ e, xs[k]? = some e := ⟨_, List.getElem?_eq_getElem (by rw [HN.out]; exact hlt)⟩
      have h2 := HS.out
      obtain ⟨b, off, rfl, _⟩ := h2.addr (by rw [HN.out]; omega)
      obtain ⟨c0, c1, c2⟩ := mk_at h2 k e hee
      have HEE := Lib.hid hee
      clear h2 hee
      by_cases heq : e.p.data.toList = q.data.toList
      · have hq := beqs_yes heq
        obtain rfl : o = some k := by rw [← ho.out]; exact findM_at xs q k e HEE.out HA.out heq
        clear heq
        go_wp2
        go_ret
        exact ⟨rfl, rfl⟩
      · have hq := beqs_no heq
        have HQ := Lib.hid heq
        clear heq
        go_wp2
        go_round
        case rel => exact ⟨k + 1, by omega, by go_num, fun j f hj hf => by
          by_cases ej : j = k
          · subst ej
            rw [HEE.out] at hf
            injection hf with hf
            exact hf ▸ HQ.out
          · exact HA.out j f (by omega) hf⟩
        case measure => simp [intOf]; omega
    · obtain rfl : o = none := by
        rw [← ho.out]
        exact findM_none xs q (fun j f hf => HA.out j f (by have := (List.getElem?_eq_some_iff.1 hf).1; rw [HN.out] at this; omega) hf)
      go_wp2
      go_ret
      exact ⟨rfl, rfl⟩
/-- The kind of a mark at a path, or 0. -/
def kindM (xs : List Mk) (q : ByteArray) : Int := match getM xs q with
  | some m => m.k
  | none => 0
set_option maxHeartbeats 2000000 in
theorem l3Kind_c (a : Option Addr) (c : Nat) (xs : List Mk) (q : ByteArray) (r : Int) (hr : Hid (kindM xs q = r)) (w : World) (hs : SlF Mk.cells w a xs) (hx : xs.length ≤ maxLen) :
    Calls Tryz.prog 87 #[.slice a xs.length c, .string q] w fun e w' => e = .returned (.int .i64 r) ∧ w = w' := by
  obtain ⟨o, ho⟩ : ∃ o, findM xs q = o := ⟨_, rfl⟩
  have HC := Lib.hid (l3Find_c a c xs q o (Lib.hid ho) w hs hx)
  have hg := findM_get xs q
  rw [ho] at hg
  obtain ⟨n, hn⟩ : ∃ n, xs.length = n := ⟨_, rfl⟩
  rw [hn] at HC hx ⊢
  unfold maxLen at hx
  cases o with
  | none =>
    obtain rfl : r = 0 := by rw [← hr.out, kindM, hg]
    clear hg ho hn hs
    go_enter Tryz.func87, Tryz.ntmps87
    go_wp2_with fail
    refine HC.out.mono ?_; rintro e W ⟨rfl, rfl⟩
    go_wp2
    go_ret
    exact ⟨rfl, rfl⟩
  | some k =>
    obtain ⟨e, he, hge⟩ := findM_lt xs q k ho
    obtain ⟨b, off, rfl, _⟩ := hs.addr (by have := (List.getElem?_eq_some_iff.1 he).1; omega)
    obtain ⟨c0, c1, c2⟩ := mk_at hs k e he
    have hkn : k < n := by rw [← hn]; exact (List.getElem?_eq_some_iff.1 he).1
    obtain rfl : r = e.k := by rw [← hr.out, kindM, hge]
    clear hg ho hn hs he hge
    go_enter Tryz.func87, Tryz.ntmps87
    go_wp2_with fail
    refine HC.out.mono ?_; rintro q' W ⟨rfl, rfl⟩
    go_wp2
    go_ret
    exact ⟨rfl, rfl⟩
theorem upM_E (xs : List Mk) (q u : ByteArray) (hu : upL q.data.toList = u.data.toList) : upM (xs.map Mk.pl) q.data.toList = (u.data.toList == [47] || (decide (kindM xs u = 2) || decide (kindM xs u = 4))) := by
  unfold upM kindM
  rw [hu, getM_pl]
  cases getM xs u with
  | none => simp
  | some m => rfl
set_option maxHeartbeats 2000000 in
theorem l3In_c (a : Option Addr) (c : Nat) (xs : List Mk) (q : ByteArray) (r : Bool) (hr : Hid (upM (xs.map Mk.pl) q.data.toList = r)) (w : World) (hs : SlF Mk.cells w a xs) (hx : xs.length ≤ maxLen) (hq : q.size ≤ maxLen) :
    Calls Tryz.prog 66 #[.slice a xs.length c, .string q] w fun e w' => e = .returned (.bool r) ∧ Below w.heap.size w w' := by
  have hb := Below.refl w.heap.size w
  obtain ⟨u, hu, hus⟩ := up_str20 q
  obtain ⟨k, hk⟩ : ∃ k, kindM xs u = k := ⟨_, rfl⟩
  have HR : Hid (r = (u.data.toList == [47] || (decide (k = 2) || decide (k = 4)))) := by rw [Hid, ← hr.out, upM_E xs q u hu.out, hk]
  have HE := fun W (h : SlF Mk.cells W a xs) => Lib.hid (l3Kind_c a c xs u k (Lib.hid hk) W h hx)
  obtain ⟨n, hn⟩ : ∃ n, xs.length = n := ⟨_, rfl⟩
  rw [hn] at HE ⊢
  have GE := Lib.hid HE
  have HS := Lib.hid hs
  clear hk hs hx hn hr HE
  by_cases hrt : u.data.toList = [47]
  · have q2 := beq_yes hrt
    obtain rfl : r = true := by rw [HR.out, hrt]; rfl
    clear hrt
    go_enter Tryz.func66, Tryz.ntmps66
    go_wp2_with fail
    refine (sPathUp_c q u hu _ hq).mono ?_; rintro e W ⟨rfl, hq⟩; replace hb := chn hb hq; clear hq
    go_wp2_with fail
    refine (GE.out _ (HS.out.below hb)).out.mono ?_; rintro e W ⟨rfl, rfl⟩
    go_wp2
    go_ret
    exact ⟨rfl, hb⟩
  · have q2 := beq_no hrt
    have HR2 : Hid (r = (decide (k = 2) || decide (k = 4))) := by
      have e1 : (u.data.toList == [47]) = false := by simpa using hrt
      rw [Hid, HR.out, e1, Bool.false_or]
    clear hrt HR
    by_cases k2 : k = 2
    · obtain rfl : r = true := by rw [HR2.out]; simp [k2]
      subst k2
      go_enter Tryz.func66, Tryz.ntmps66
      go_wp2_with fail
      refine (sPathUp_c q u hu _ hq).mono ?_; rintro e W ⟨rfl, hq⟩; replace hb := chn hb hq; clear hq
      go_wp2_with fail
      refine (GE.out _ (HS.out.below hb)).out.mono ?_; rintro e W ⟨rfl, rfl⟩
      go_wp2
      go_ret
      exact ⟨rfl, hb⟩
    · have n2 : (k == 2) = false := by rw [beq_eq_false_iff_ne]; exact k2
      by_cases k4 : k = 4
      · obtain rfl : r = true := by rw [HR2.out]; simp [k4]
        subst k4
        clear k2
        go_enter Tryz.func66, Tryz.ntmps66
        go_wp2_with fail
        refine (sPathUp_c q u hu _ hq).mono ?_; rintro e W ⟨rfl, hq⟩; replace hb := chn hb hq; clear hq
        go_wp2_with fail
        refine (GE.out _ (HS.out.below hb)).out.mono ?_; rintro e W ⟨rfl, rfl⟩
        go_wp2
        go_ret
        exact ⟨rfl, hb⟩
      · have n4 : (k == 4) = false := by rw [beq_eq_false_iff_ne]; exact k4
        obtain rfl : r = false := by rw [HR2.out]; simp [k2, k4]
        clear k2 k4
        go_enter Tryz.func66, Tryz.ntmps66
        go_wp2_with fail
        refine (sPathUp_c q u hu _ hq).mono ?_; rintro e W ⟨rfl, hq⟩; replace hb := chn hb hq; clear hq
        go_wp2_with fail
        refine (GE.out _ (HS.out.below hb)).out.mono ?_; rintro e W ⟨rfl, rfl⟩
        go_wp2
        go_ret
        exact ⟨rfl, hb⟩
/-- What asks of the marks one by one: a mark that meets it, at place k; or none. -/
theorem any_at {xs : List Mk} {P : PM → Bool} (k : Nat) (e : Mk) (he : xs[k]? = some e) (h : P e.pl = true) : (xs.map Mk.pl).any P = true := List.any_eq_true.2 ⟨e.pl, List.mem_map.2 ⟨e, List.mem_of_getElem? he, rfl⟩, h⟩
theorem any_no {xs : List Mk} {P : PM → Bool} (h : ∀ (j : Nat) (f : Mk), xs[j]? = some f → P f.pl = false) : (xs.map Mk.pl).any P = false := by
  rw [List.any_eq_false]
  intro x hx
  obtain ⟨f, hf, rfl⟩ := List.mem_map.1 hx
  obtain ⟨j, hj⟩ := List.getElem?_of_mem hf
  rw [h j f hj]; simp
def bareP (q : Bs) (m : PM) : Bool := decide (m.k = 4) && underL q m.p
def hideP (q : Bs) (m : PM) : Bool := decide (m.k ≠ 2) && (m.p == q || underL q m.p)
set_option maxHeartbeats 4000000 in
theorem belowBare_c (a : Option Addr) (c : Nat) (xs : List Mk) (q : ByteArray) (r : Bool) (hr : Hid (bareL (xs.map Mk.pl) q.data.toList = r)) (w : World) (hs : SlF Mk.cells w a xs) (hx : xs.length ≤ maxLen) (hq : q.size ≤ 2000000) (hz : ∀ e ∈ xs, e.p.size ≤ 2000000 ∧ e.x.size ≤ 2000000) :
    Calls Tryz.prog 71 #[.slice a xs.length c, .string q] w fun e w' => e = .returned (.bool r) ∧ Below w.heap.size w w' := by
  obtain ⟨n, hn⟩ : ∃ n, xs.length = n := ⟨_, rfl⟩
  have HZ := Lib.hid hz
  rw [hn] at hx ⊢
  unfold maxLen at hx
  have HN := Lib.hid hn
  have HS := Lib.hid hs
  clear hn hs hz
  have HR : Hid ((xs.map Mk.pl).any (bareP q.data.toList) = r) := hr
  clear hr
  go_enter Tryz.func71, Tryz.ntmps71
  go_wp2
  go_loopw [6,9] (fun _ i wr => ∃ k : Nat, k ≤ n ∧ i = .int .i64 k ∧ (∀ (j : Nat) (f : Mk), j < k → xs[j]? = some f → bareP q.data.toList f.pl = false) ∧ Below w.heap.size w wr) (fun _ i _ => n - (intOf i).toNat)
  case atStart => exact ⟨0, Nat.zero_le _, rfl, fun j _ h => absurd h (by omega), Below.refl _ _⟩
  case round =>
    obtain ⟨k, hk, rfl, hall, hb⟩ := hrel
    have HA := Lib.hid hall
    clear hall
    by_cases hlt : k < n
    · obtain ⟨e, hee⟩ : ∃ e, xs[k]? = some e := ⟨_, List.getElem?_eq_getElem (by rw [HN.out]; exact hlt)⟩
      have hzz := HZ.out e (List.mem_of_getElem? hee)
      have h2 := (HS.out.below hb)
      obtain ⟨b, off, rfl, _⟩ := h2.addr (by rw [HN.out]; omega)
      obtain ⟨d0, d1, d2⟩ := mk_at h2 k e hee
      have HYES := Lib.hid (fun (h : bareP q.data.toList e.pl = true) => (HR.out.symm.trans (any_at k e hee h) : r = true))
      have HNO := Lib.hid (fun (h : bareP q.data.toList e.pl = false) => fun (j : Nat) (f : Mk) (hj : j < k + 1) (hf : xs[j]? = some f) => (by
        by_cases ej : j = k
        · subst ej
          rw [hee] at hf
          injection hf with hf
          exact hf ▸ h
        · exact HA.out j f (by omega) hf : bareP q.data.toList f.pl = false))
      obtain ⟨ep, ek, ex⟩ := e
      clear h2 hee
      have c0 := new_cell wr #[.string ep, .int .i64 ek, .string ex] 65 0 _ rfl
      have c1 := new_cell wr #[.string ep, .int .i64 ek, .string ex] 65 1 _ rfl
      have c2 := new_cell wr #[.string ep, .int .i64 ek, .string ex] 65 2 _ rfl
      replace hb := hb.alloc hb.size (.cells #[.string ep, .int .i64 ek, .string ex] 65)
      by_cases k4 : ek = 4
      · subst k4
        obtain ⟨u, hu⟩ : ∃ u, underL q.data.toList ep.data.toList = u := ⟨_, rfl⟩
        have HU := Lib.hid hu
        have HP : Hid (bareP q.data.toList (Mk.pl ⟨ep, 4, ex⟩) = u) := by rw [Hid, ← hu]; simp [bareP, Mk.pl]
        clear hu
        go_wp2_with fail
        refine (pathUnder_c q ep u HU _ hq hzz.1).mono ?_; rintro e W ⟨rfl, hq⟩; replace hb := chn hb hq; replace c0 := keepc hq c0; replace c1 := keepc hq c1; replace c2 := keepc hq c2; clear hq
        cases u with
        | true =>
          obtain rfl : r = true := HYES.out HP.out
          go_wp2
          go_ret
          exact ⟨rfl, hb⟩
        | false =>
          go_wp2
          go_roundw
          case rel => exact ⟨k + 1, by omega, by go_num, HNO.out HP.out, hb⟩
          case measure => simp [intOf]; omega
      · have n4 : (ek == 4) = false := by rw [beq_eq_false_iff_ne]; exact k4
        have HP : Hid (bareP q.data.toList (Mk.pl ⟨ep, ek, ex⟩) = false) := by simp [Hid, bareP, Mk.pl, k4]
        clear k4
        go_wp2
        go_roundw
        case rel => exact ⟨k + 1, by omega, by go_num, HNO.out HP.out, hb⟩
        case measure => simp [intOf]; omega
    · obtain rfl : r = false := by
        rw [← HR.out]
        exact any_no (fun j f hf => HA.out j f (by have := (List.getElem?_eq_some_iff.1 hf).1; rw [HN.out] at this; omega) hf)
      go_wp2
      go_ret
      exact ⟨rfl, hb⟩
set_option maxHeartbeats 4000000 in
theorem hides_c (a : Option Addr) (c : Nat) (xs : List Mk) (q : ByteArray) (r : Bool) (hr : Hid (hidesL (xs.map Mk.pl) q.data.toList = r)) (w : World) (hs : SlF Mk.cells w a xs) (hx : xs.length ≤ maxLen) (hq : q.size ≤ 2000000) (hz : ∀ e ∈ xs, e.p.size ≤ 2000000 ∧ e.x.size ≤ 2000000) :
    Calls Tryz.prog 39 #[.slice a xs.length c, .string q] w fun e w' => e = .returned (.bool r) ∧ Below w.heap.size w w' := by
  obtain ⟨n, hn⟩ : ∃ n, xs.length = n := ⟨_, rfl⟩
  have HZ := Lib.hid hz
  rw [hn] at hx ⊢
  unfold maxLen at hx
  have HN := Lib.hid hn
  have HS := Lib.hid hs
  clear hn hs hz
  have HR : Hid ((xs.map Mk.pl).any (hideP q.data.toList) = r) := hr
  clear hr
  go_enter Tryz.func39, Tryz.ntmps39
  go_wp2
  go_loopw [6,9] (fun _ i wr => ∃ k : Nat, k ≤ n ∧ i = .int .i64 k ∧ (∀ (j : Nat) (f : Mk), j < k → xs[j]? = some f → hideP q.data.toList f.pl = false) ∧ Below w.heap.size w wr) (fun _ i _ => n - (intOf i).toNat)
  case atStart => exact ⟨0, Nat.zero_le _, rfl, fun j _ h => absurd h (by omega), Below.refl _ _⟩
  case round =>
    obtain ⟨k, hk, rfl, hall, hb⟩ := hrel
    have HA := Lib.hid hall
    clear hall
    by_cases hlt : k < n
    · obtain ⟨e, hee⟩ : ∃ e, xs[k]? = some e := ⟨_, List.getElem?_eq_getElem (by rw [HN.out]; exact hlt)⟩
      have hzz := HZ.out e (List.mem_of_getElem? hee)
      have h2 := (HS.out.below hb)
      obtain ⟨b, off, rfl, _⟩ := h2.addr (by rw [HN.out]; omega)
      obtain ⟨d0, d1, d2⟩ := mk_at h2 k e hee
      have HYES := Lib.hid (fun (h : hideP q.data.toList e.pl = true) => (HR.out.symm.trans (any_at k e hee h) : r = true))
      have HNO := Lib.hid (fun (h : hideP q.data.toList e.pl = false) => fun (j : Nat) (f : Mk) (hj : j < k + 1) (hf : xs[j]? = some f) => (by
        by_cases ej : j = k
        · subst ej
          rw [hee] at hf
          injection hf with hf
          exact hf ▸ h
        · exact HA.out j f (by omega) hf : hideP q.data.toList f.pl = false))
      obtain ⟨ep, ek, ex⟩ := e
      clear h2 hee
      have c0 := new_cell wr #[.string ep, .int .i64 ek, .string ex] 65 0 _ rfl
      have c1 := new_cell wr #[.string ep, .int .i64 ek, .string ex] 65 1 _ rfl
      have c2 := new_cell wr #[.string ep, .int .i64 ek, .string ex] 65 2 _ rfl
      replace hb := hb.alloc hb.size (.cells #[.string ep, .int .i64 ek, .string ex] 65)
      by_cases k2 : ek = 2
      · have n2 : (ek != 2) = false := by simp [k2]
        have HP : Hid (hideP q.data.toList (Mk.pl ⟨ep, ek, ex⟩) = false) := by simp [Hid, hideP, Mk.pl, k2]
        clear k2
        go_wp2
        go_roundw
        case rel => exact ⟨k + 1, by omega, by go_num, HNO.out HP.out, hb⟩
        case measure => simp [intOf]; omega
      · have n2 : (ek != 2) = true := by rw [bne_iff_ne]; exact k2
        by_cases heq : ep.data.toList = q.data.toList
        · have q1 := beqs_yes heq
          have HP : Hid (hideP q.data.toList (Mk.pl ⟨ep, ek, ex⟩) = true) := by
            rw [Hid]
            show (decide (ek ≠ 2) && (ep.data.toList == q.data.toList || underL q.data.toList ep.data.toList)) = _
            rw [decide_eq_true k2, beq_iff_eq.2 heq]; rfl
          clear k2 heq
          obtain rfl : r = true := HYES.out HP.out
          go_wp2
          go_ret
          exact ⟨rfl, hb⟩
        · have q1 := beqs_no heq
          obtain ⟨u, hu⟩ : ∃ u, underL q.data.toList ep.data.toList = u := ⟨_, rfl⟩
          have HU := Lib.hid hu
          have HP : Hid (hideP q.data.toList (Mk.pl ⟨ep, ek, ex⟩) = u) := by
            rw [Hid, ← hu]
            show (decide (ek ≠ 2) && (ep.data.toList == q.data.toList || underL q.data.toList ep.data.toList)) = _
            rw [decide_eq_true k2, beq_eq_false_iff_ne.2 heq]; rfl
          clear hu k2 heq
          go_wp2_with fail
          refine (pathUnder_c q ep u HU _ hq hzz.1).mono ?_; rintro e W ⟨rfl, hq⟩; replace hb := chn hb hq; replace c0 := keepc hq c0; replace c1 := keepc hq c1; replace c2 := keepc hq c2; clear hq
          cases u with
          | true =>
            obtain rfl : r = true := HYES.out HP.out
            go_wp2
            go_ret
            exact ⟨rfl, hb⟩
          | false =>
            go_wp2
            go_roundw
            case rel => exact ⟨k + 1, by omega, by go_num, HNO.out HP.out, hb⟩
            case measure => simp [intOf]; omega
    · obtain rfl : r = false := by
        rw [← HR.out]
        exact any_no (fun j f hf => HA.out j f (by have := (List.getElem?_eq_some_iff.1 hf).1; rw [HN.out] at this; omega) hf)
      go_wp2
      go_ret
      exact ⟨rfl, hb⟩
def bareQ (q : Bs) (m : PM) : Bool := decide (m.k = 4) && l1UnderL q m.p
def hideQ (q : Bs) (m : PM) : Bool := decide (m.k ≠ 2) && (m.p == q || l1UnderL q m.p)
set_option maxHeartbeats 4000000 in
theorem l3Bare_c (a : Option Addr) (c : Nat) (xs : List Mk) (q : ByteArray) (r : Bool) (hr : Hid ((xs.map Mk.pl).any (bareQ q.data.toList) = r)) (w : World) (hs : SlF Mk.cells w a xs) (hx : xs.length ≤ maxLen) (hq : q.size ≤ 2000000) (hz : ∀ e ∈ xs, e.p.size ≤ 2000000 ∧ e.x.size ≤ 2000000) :
    Calls Tryz.prog 67 #[.slice a xs.length c, .string q] w fun e w' => e = .returned (.bool r) ∧ Below w.heap.size w w' := by
  obtain ⟨n, hn⟩ : ∃ n, xs.length = n := ⟨_, rfl⟩
  have HZ := Lib.hid hz
  rw [hn] at hx ⊢
  unfold maxLen at hx
  have HN := Lib.hid hn
  have HS := Lib.hid hs
  clear hn hs hz
  have HR : Hid ((xs.map Mk.pl).any (bareQ q.data.toList) = r) := hr
  clear hr
  go_enter Tryz.func67, Tryz.ntmps67
  go_wp2
  go_loopw [5] (fun i wr => ∃ k : Nat, k ≤ n ∧ i = .int .i64 k ∧ (∀ (j : Nat) (f : Mk), j < k → xs[j]? = some f → bareQ q.data.toList f.pl = false) ∧ Below w.heap.size w wr) (fun i _ => n - (intOf i).toNat)
  case atStart => exact ⟨0, Nat.zero_le _, rfl, fun j _ h => absurd h (by omega), Below.refl _ _⟩
  case round =>
    obtain ⟨k, hk, rfl, hall, hb⟩ := hrel
    have HA := Lib.hid hall
    clear hall
    by_cases hlt : k < n
    · obtain ⟨e, hee⟩ : ∃ e, xs[k]? = some e := ⟨_, List.getElem?_eq_getElem (by rw [HN.out]; exact hlt)⟩
      have hzz := HZ.out e (List.mem_of_getElem? hee)
      have h2 := (HS.out.below hb)
      obtain ⟨b, off, rfl, _⟩ := h2.addr (by rw [HN.out]; omega)
      obtain ⟨d0, d1, d2⟩ := mk_at h2 k e hee
      have HYES := Lib.hid (fun (h : bareQ q.data.toList e.pl = true) => (HR.out.symm.trans (any_at k e hee h) : r = true))
      have HNO := Lib.hid (fun (h : bareQ q.data.toList e.pl = false) => fun (j : Nat) (f : Mk) (hj : j < k + 1) (hf : xs[j]? = some f) => (by
        by_cases ej : j = k
        · subst ej
          rw [hee] at hf
          injection hf with hf
          exact hf ▸ h
        · exact HA.out j f (by omega) hf : bareQ q.data.toList f.pl = false))
      obtain ⟨ep, ek, ex⟩ := e
      clear h2 hee
      by_cases k4 : ek = 4
      · subst k4
        obtain ⟨u, hu⟩ : ∃ u, l1UnderL q.data.toList ep.data.toList = u := ⟨_, rfl⟩
        have HU := Lib.hid hu
        have HP : Hid (bareQ q.data.toList (Mk.pl ⟨ep, 4, ex⟩) = u) := by rw [Hid, ← hu]; simp [bareQ, Mk.pl]
        clear hu
        go_wp2_with fail
        refine (l1Under_c q ep u HU _ hq hzz.1).mono ?_; rintro e W ⟨rfl, rfl⟩
        cases u with
        | true =>
          obtain rfl : r = true := HYES.out HP.out
          go_wp2
          go_ret
          exact ⟨rfl, hb⟩
        | false =>
          go_wp2
          go_roundw
          case rel => exact ⟨k + 1, by omega, by go_num, HNO.out HP.out, hb⟩
          case measure => simp [intOf]; omega
      · have n4 : (ek == 4) = false := by rw [beq_eq_false_iff_ne]; exact k4
        have HP : Hid (bareQ q.data.toList (Mk.pl ⟨ep, ek, ex⟩) = false) := by simp [Hid, bareQ, Mk.pl, k4]
        clear k4
        go_wp2
        go_roundw
        case rel => exact ⟨k + 1, by omega, by go_num, HNO.out HP.out, hb⟩
        case measure => simp [intOf]; omega
    · obtain rfl : r = false := by
        rw [← HR.out]
        exact any_no (fun j f hf => HA.out j f (by have := (List.getElem?_eq_some_iff.1 hf).1; rw [HN.out] at this; omega) hf)
      go_wp2
      go_ret
      exact ⟨rfl, hb⟩
set_option maxHeartbeats 4000000 in
theorem l3Hides_c (a : Option Addr) (c : Nat) (xs : List Mk) (q : ByteArray) (r : Bool) (hr : Hid ((xs.map Mk.pl).any (hideQ q.data.toList) = r)) (w : World) (hs : SlF Mk.cells w a xs) (hx : xs.length ≤ maxLen) (hq : q.size ≤ 2000000) (hz : ∀ e ∈ xs, e.p.size ≤ 2000000 ∧ e.x.size ≤ 2000000) :
    Calls Tryz.prog 68 #[.slice a xs.length c, .string q] w fun e w' => e = .returned (.bool r) ∧ Below w.heap.size w w' := by
  obtain ⟨n, hn⟩ : ∃ n, xs.length = n := ⟨_, rfl⟩
  have HZ := Lib.hid hz
  rw [hn] at hx ⊢
  unfold maxLen at hx
  have HN := Lib.hid hn
  have HS := Lib.hid hs
  clear hn hs hz
  have HR : Hid ((xs.map Mk.pl).any (hideQ q.data.toList) = r) := hr
  clear hr
  go_enter Tryz.func68, Tryz.ntmps68
  go_wp2
  go_loopw [5] (fun i wr => ∃ k : Nat, k ≤ n ∧ i = .int .i64 k ∧ (∀ (j : Nat) (f : Mk), j < k → xs[j]? = some f → hideQ q.data.toList f.pl = false) ∧ Below w.heap.size w wr) (fun i _ => n - (intOf i).toNat)
  case atStart => exact ⟨0, Nat.zero_le _, rfl, fun j _ h => absurd h (by omega), Below.refl _ _⟩
  case round =>
    obtain ⟨k, hk, rfl, hall, hb⟩ := hrel
    have HA := Lib.hid hall
    clear hall
    by_cases hlt : k < n
    · obtain ⟨e, hee⟩ : ∃ e, xs[k]? = some e := ⟨_, List.getElem?_eq_getElem (by rw [HN.out]; exact hlt)⟩
      have hzz := HZ.out e (List.mem_of_getElem? hee)
      have h2 := (HS.out.below hb)
      obtain ⟨b, off, rfl, _⟩ := h2.addr (by rw [HN.out]; omega)
      obtain ⟨d0, d1, d2⟩ := mk_at h2 k e hee
      have HYES := Lib.hid (fun (h : hideQ q.data.toList e.pl = true) => (HR.out.symm.trans (any_at k e hee h) : r = true))
      have HNO := Lib.hid (fun (h : hideQ q.data.toList e.pl = false) => fun (j : Nat) (f : Mk) (hj : j < k + 1) (hf : xs[j]? = some f) => (by
        by_cases ej : j = k
        · subst ej
          rw [hee] at hf
          injection hf with hf
          exact hf ▸ h
        · exact HA.out j f (by omega) hf : hideQ q.data.toList f.pl = false))
      obtain ⟨ep, ek, ex⟩ := e
      clear h2 hee
      by_cases k2 : ek = 2
      · have n2 : (ek != 2) = false := by simp [k2]
        have HP : Hid (hideQ q.data.toList (Mk.pl ⟨ep, ek, ex⟩) = false) := by simp [Hid, hideQ, Mk.pl, k2]
        clear k2
        by_cases heq : ep.data.toList = q.data.toList
        · have q1 := beqs_yes heq
          clear heq
          go_wp2
          go_roundw
          case rel => exact ⟨k + 1, by omega, by go_num, HNO.out HP.out, hb⟩
          case measure => simp [intOf]; omega
        · have q1 := beqs_no heq
          clear heq
          go_wp2
          go_roundw
          case rel => exact ⟨k + 1, by omega, by go_num, HNO.out HP.out, hb⟩
          case measure => simp [intOf]; omega
      · have n2 : (ek != 2) = true := by rw [bne_iff_ne]; exact k2
        by_cases heq : ep.data.toList = q.data.toList
        · have q1 := beqs_yes heq
          have HP : Hid (hideQ q.data.toList (Mk.pl ⟨ep, ek, ex⟩) = true) := by
            rw [Hid]
            show (decide (ek ≠ 2) && (ep.data.toList == q.data.toList || l1UnderL q.data.toList ep.data.toList)) = _
            rw [decide_eq_true k2, beq_iff_eq.2 heq]; rfl
          clear k2 heq
          obtain rfl : r = true := HYES.out HP.out
          go_wp2
          go_ret
          exact ⟨rfl, hb⟩
        · have q1 := beqs_no heq
          obtain ⟨u, hu⟩ : ∃ u, l1UnderL q.data.toList ep.data.toList = u := ⟨_, rfl⟩
          have HU := Lib.hid hu
          have HP : Hid (hideQ q.data.toList (Mk.pl ⟨ep, ek, ex⟩) = u) := by
            rw [Hid, ← hu]
            show (decide (ek ≠ 2) && (ep.data.toList == q.data.toList || l1UnderL q.data.toList ep.data.toList)) = _
            rw [decide_eq_true k2, beq_eq_false_iff_ne.2 heq]; rfl
          clear hu k2 heq
          go_wp2_with fail
          refine (l1Under_c q ep u HU _ hq hzz.1).mono ?_; rintro e W ⟨rfl, rfl⟩
          cases u with
          | true =>
            obtain rfl : r = true := HYES.out HP.out
            go_wp2
            go_ret
            exact ⟨rfl, hb⟩
          | false =>
            go_wp2
            go_roundw
            case rel => exact ⟨k + 1, by omega, by go_num, HNO.out HP.out, hb⟩
            case measure => simp [intOf]; omega
    · obtain rfl : r = false := by
        rw [← HR.out]
        exact any_no (fun j f hf => HA.out j f (by have := (List.getElem?_eq_some_iff.1 hf).1; rw [HN.out] at this; omega) hf)
      go_wp2
      go_ret
      exact ⟨rfl, hb⟩
theorem under_l1 {s d : Bs} (hs : pathOkL s = true) (hd : pathOkL d = true) : underL s d = l1UnderL s d := by rw [under_eq, hs, hd]; simp
theorem bareQ_eq {l : List PM} {q : Bs} (hq : pathOkL q = true) (hl : ∀ m ∈ l, pathOkL m.p = true) : l.any (bareQ q) = bareL l q := by
  unfold bareL
  rw [Bool.eq_iff_iff, List.any_eq_true, List.any_eq_true]
  constructor
  · rintro ⟨m, hm, h⟩; exact ⟨m, hm, by unfold bareQ at h; rw [under_l1 hq (hl m hm)]; exact h⟩
  · rintro ⟨m, hm, h⟩; exact ⟨m, hm, by unfold bareQ; rw [← under_l1 hq (hl m hm)]; exact h⟩
theorem hideQ_eq {l : List PM} {q : Bs} (hq : pathOkL q = true) (hl : ∀ m ∈ l, pathOkL m.p = true) : l.any (hideQ q) = hidesL l q := by
  unfold hidesL
  rw [Bool.eq_iff_iff, List.any_eq_true, List.any_eq_true]
  constructor
  · rintro ⟨m, hm, h⟩; exact ⟨m, hm, by unfold hideQ at h; rw [under_l1 hq (hl m hm)]; exact h⟩
  · rintro ⟨m, hm, h⟩; exact ⟨m, hm, by unfold hideQ; rw [← under_l1 hq (hl m hm)]; exact h⟩
set_option maxHeartbeats 2000000 in
theorem isDir_c (m : Mk) (r : Bool) (hr : Hid (dirM m.pl = r)) (w : World) :
    Calls Tryz.prog 40 #[m.val] w fun e w' => e = .returned (.bool r) ∧ Below w.heap.size w w' := by
  obtain ⟨p, k, x⟩ := m
  have hb := bellow_alloc w (.cells #[.string p, .int .i64 k, .string x] 65)
  by_cases k2 : k = 2
  · obtain rfl : r = true := by rw [← hr.out]; simp [dirM, Mk.pl, k2]
    subst k2
    go_enter Tryz.func40, Tryz.ntmps40
    go_wp2
    go_ret
    exact ⟨rfl, hb⟩
  · have n2 : (k == 2) = false := by rw [beq_eq_false_iff_ne]; exact k2
    by_cases k4 : k = 4
    · obtain rfl : r = true := by rw [← hr.out]; simp [dirM, Mk.pl, k4]
      subst k4
      clear k2
      go_enter Tryz.func40, Tryz.ntmps40
      go_wp2
      go_ret
      exact ⟨rfl, hb⟩
    · have n4 : (k == 4) = false := by rw [beq_eq_false_iff_ne]; exact k4
      obtain rfl : r = false := by rw [← hr.out]; simp [dirM, Mk.pl, k2, k4]
      clear k2 k4 hr
      go_enter Tryz.func40, Tryz.ntmps40
      go_wp2
      go_ret
      exact ⟨rfl, hb⟩
set_option maxHeartbeats 4000000 in
theorem markOk_c (m : Mk) (r : Bool) (hr : Hid (markOkL m.pl = r)) (w : World) (hp : m.p.size ≤ maxLen) (hx : m.x.size ≤ maxLen) :
    Calls Tryz.prog 69 #[m.val] w fun e w' => e = .returned (.bool r) ∧ Below w.heap.size w w' := by
  obtain ⟨p, k, x⟩ := m
  have hb := bellow_alloc w (.cells #[.string p, .int .i64 k, .string x] 65)
  have c0 := new_cell w #[.string p, .int .i64 k, .string x] 65 0 _ rfl
  have c1 := new_cell w #[.string p, .int .i64 k, .string x] 65 1 _ rfl
  have c2 := new_cell w #[.string p, .int .i64 k, .string x] 65 2 _ rfl
  have HR : Hid (r = (decide (1 ≤ k) && decide (k ≤ 4) && pathOkL p.data.toList && dataOkL x.data.toList && (decide (k = 1) || x.data.toList == []))) := by rw [Hid, ← hr.out]; rfl
  clear hr
  by_cases klo : k < 1
  · obtain rfl : r = false := by rw [HR.out, decide_eq_false (p := 1 ≤ k) (by omega)]; rfl
    go_enter Tryz.func69, Tryz.ntmps69
    go_wp2
    go_ret
    exact ⟨rfl, hb⟩
  by_cases khi : 4 < k
  · obtain rfl : r = false := by rw [HR.out, decide_eq_false (p := k ≤ 4) (by omega), Bool.and_false]; rfl
    go_enter Tryz.func69, Tryz.ntmps69
    go_wp2
    go_ret
    exact ⟨rfl, hb⟩
  have HR2 : Hid (r = (pathOkL p.data.toList && dataOkL x.data.toList && (decide (k = 1) || x.data.toList == []))) := by rw [Hid, HR.out, decide_eq_true (p := 1 ≤ k) (by omega), decide_eq_true (p := k ≤ 4) (by omega)]; rfl
  clear HR
  obtain ⟨u, hu⟩ : ∃ u, pathOkL p.data.toList = u := ⟨_, rfl⟩
  have HU := Lib.hid hu
  have h4 : decide (4 < k) = false := by simp; omega
  cases u with
  | false =>
    obtain rfl : r = false := by rw [HR2.out, hu]; rfl
    clear hu
    go_enter Tryz.func69, Tryz.ntmps69
    go_wp2_with fail
    refine (pathOk_c p false HU _ hp).mono ?_; rintro e W ⟨rfl, hq⟩; replace hb := chn hb hq; clear hq
    go_wp2
    go_ret
    exact ⟨rfl, hb⟩
  | true =>
    have HR3 : Hid (r = (dataOkL x.data.toList && (decide (k = 1) || x.data.toList == []))) := by rw [Hid, HR2.out, hu, Bool.true_and]
    clear hu HR2
    by_cases k1 : k = 1
    · subst k1
      have HD : Hid (dataOkL x.data.toList = r) := by rw [Hid, HR3.out]; simp
      clear HR3 h4 klo khi
      go_enter Tryz.func69, Tryz.ntmps69
      go_wp2_with fail
      refine (pathOk_c p true HU _ hp).mono ?_; rintro e W ⟨rfl, hq⟩; replace hb := chn hb hq; replace c0 := keepc hq c0; replace c1 := keepc hq c1; replace c2 := keepc hq c2; clear hq
      go_wp2_with fail
      refine (dataOk_c x r HD _ hx).mono ?_; rintro e W ⟨rfl, rfl⟩
      go_wp2
      go_ret
      exact ⟨rfl, hb⟩
    · have n1 : (k != 1) = true := by rw [bne_iff_ne]; exact k1
      by_cases hx0 : x.data.toList = []
      · have q1 := isE_yes hx0
        obtain rfl : r = true := by rw [HR3.out, hx0]; simp; decide
        clear hx0 k1 HR3
        go_enter Tryz.func69, Tryz.ntmps69
        go_wp2_with fail
        refine (pathOk_c p true HU _ hp).mono ?_; rintro e W ⟨rfl, hq⟩; replace hb := chn hb hq; replace c0 := keepc hq c0; replace c1 := keepc hq c1; replace c2 := keepc hq c2; clear hq
        go_wp2
        go_ret
        exact ⟨rfl, hb⟩
      · have q1 := isE_no hx0
        obtain rfl : r = false := by rw [HR3.out, beqE_no hx0, decide_eq_false k1]; simp
        clear hx0 k1 HR3
        go_enter Tryz.func69, Tryz.ntmps69
        go_wp2_with fail
        refine (pathOk_c p true HU _ hp).mono ?_; rintro e W ⟨rfl, hq⟩; replace hb := chn hb hq; replace c0 := keepc hq c0; replace c1 := keepc hq c1; replace c2 := keepc hq c2; clear hq
        go_wp2
        go_ret
        exact ⟨rfl, hb⟩
end Go.Proofs.YtnmjidjhloodbaaGreatDoor
namespace Go.Proofs.YtnmjidjhloodbaaGreatDoor
open Go.RowKit
/-- The cells of what stands at place k in a row. -/
theorem flat_of {α : Type} {f : α → List Value} (hf : ∀ x, (f x).length = 3) {j : Nat} (hj : j < 3) : ∀ (ys : List α) (k : Nat) (y : α), ys[k]? = some y → (ys.flatMap f)[k * 3 + j]? = (f y)[j]? := by
  intro ys
  induction ys with
  | nil => intro k y hy; simp at hy
  | cons z r ih =>
    intro k y hy
    rw [List.flatMap_cons]
    cases k with
    | zero =>
      simp at hy; subst hy
      rw [Nat.zero_mul, Nat.zero_add, List.getElem?_append_left (by rw [hf]; exact hj)]
    | succ k =>
      rw [List.getElem?_append_right (by rw [hf]; omega), show (k + 1) * 3 + j - (f z).length = k * 3 + j by rw [hf]; omega]
      exact ih k y (by simpa using hy)
theorem own_slf {α : Type} {f : α → List Value} (hf : ∀ x, (f x).length = 3) {w : World} {B c : Nat} {a : Option Addr} {t : TypeId} {xs : List α} (h : w.ownsRow B t 3 (.slice a xs.length c) xs.length (xs.flatMap f)) : SlF f w a xs := fun hn => by
  obtain ⟨g, c', hv, _, _, hlt, hc, _⟩ := own_form h hn
  have ha : a = some ⟨g, 0, none⟩ := by injection hv
  subst ha
  refine ⟨g, 0, rfl, hlt, fun k x hx j u hu => ?_⟩
  rw [Nat.zero_add]
  have hj : j < 3 := by have := (List.getElem?_eq_some_iff.1 hu).1; rw [hf] at this; exact this
  exact hc _ _ (by rw [flat_of hf hj xs k x hx]; exact hu)
/-- Marks that the call made, and whether it could. -/
def MadeMb (l : List PM) (b : Bool) (w : World) (e : Ending) (w' : World) : Prop :=
  ∃ (a : Option Addr) (c : Nat) (ms : List Mk), e = .returned (.tuple #[.slice a ms.length c, .bool b]) ∧ ms.map Mk.pl = l ∧ OwnMk w' w.heap.size (.slice a ms.length c) ms ∧ Below w.heap.size w w'
/-- Marks that the call made. -/
def MadeMl (l : List PM) (w : World) (e : Ending) (w' : World) : Prop :=
  ∃ (a : Option Addr) (c : Nat) (ms : List Mk), e = .returned (.slice a ms.length c) ∧ ms.map Mk.pl = l ∧ OwnMk w' w.heap.size (.slice a ms.length c) ms ∧ Below w.heap.size w w'
/-- Entries that the call made, and whether it could. -/
def MadeEb (l : List PE) (b : Bool) (w : World) (e : Ending) (w' : World) : Prop :=
  ∃ (a : Option Addr) (c : Nat) (ms : List En), e = .returned (.tuple #[.slice a ms.length c, .bool b]) ∧ ms.map En.pl = l ∧ OwnEn w' w.heap.size (.slice a ms.length c) ms ∧ Below w.heap.size w w'
/-- Entries that the call made, and how it ended. -/
def MadeEi (l : List PE) (k : Nat) (w : World) (e : Ending) (w' : World) : Prop :=
  ∃ (a : Option Addr) (c : Nat) (ms : List En), e = .returned (.tuple #[.slice a ms.length c, .int .i64 (k : Int)]) ∧ ms.map En.pl = l ∧ OwnEn w' w.heap.size (.slice a ms.length c) ms ∧ Below w.heap.size w w'
theorem map_inj_ {α β : Type} {f : α → β} (hf : ∀ {x y}, f x = f y → x = y) : ∀ {a b : List α}, a.map f = b.map f → a = b
  | [], [], _ => rfl
  | [], _ :: _, h => by simp at h
  | _ :: _, [], h => by simp at h
  | x :: a, y :: b, h => by
    simp only [List.map_cons, List.cons.injEq] at h
    rw [hf h.1, map_inj_ hf h.2]
theorem own_slfN {α : Type} {f : α → List Value} (hf : ∀ x, (f x).length = 3) {w : World} {B c n : Nat} {a : Option Addr} {t : TypeId} {xs : List α} (h : w.ownsRow B t 3 (.slice a n c) n (xs.flatMap f)) (hn : xs.length = n) : SlF f w a xs := by
  subst hn; exact own_slf hf h
end Go.Proofs.YtnmjidjhloodbaaGreatDoor
namespace Go.Proofs.YtnmjidjhloodbaaGreatDoor
open Go.RowKit
theorem lt_of_own {w : World} {B : Nat} {e : TypeId} {size : Nat} {g n c : Nat} {xs : List Value} (h : w.ownsRow B e size (.slice (some ⟨g, 0, none⟩) n c) n xs) : g < w.heap.size := (h.lt g rfl).2
theorem lt_own {w : World} {B : Nat} {e : TypeId} {size : Nat} {v : Value} {n : Nat} {xs : List Value} (h : w.ownsRow B e size v n xs) : ∀ k, v.ownBlock = some k → k < w.heap.size := fun k hk => (h.lt k hk).2
theorem le_own {w : World} {B : Nat} {e : TypeId} {size : Nat} {v : Value} {n : Nat} {xs : List Value} (h : w.ownsRow B e size v n xs) : ∀ k, v.ownBlock = some k → B ≤ k := fun k hk => (h.lt k hk).1
theorem kept_lt {w w' : World} {B : Nat} {e : TypeId} {size : Nat} {v : Value} {n : Nat} {xs : List Value} {g : Nat} (h : w.ownsRow B e size v n xs) (hg : w.grownBy w' (some g)) (hl : ∀ k, v.ownBlock = some k → k < g) : w'.ownsRow B e size v n xs :=
  own_kept h hg (fun k hk e => by injection e with e; have := hl k hk; omega)
theorem kept_gt {w w' : World} {B : Nat} {e : TypeId} {size : Nat} {v : Value} {n : Nat} {xs : List Value} {g : Nat} (h : w.ownsRow B e size v n xs) (hg : w.grownBy w' (some g)) (hl : ∀ k, v.ownBlock = some k → g < k) : w'.ownsRow B e size v n xs :=
  own_kept h hg (fun k hk e => by injection e with e; have := hl k hk; omega)
theorem kept_v {w w' : World} {B : Nat} {e : TypeId} {size : Nat} {v u : Value} {n : Nat} {xs : List Value} (h : w.ownsRow B e size v n xs) (hg : w.grownBy w' u.ownBlock) {m : Nat} (hl : ∀ k, v.ownBlock = some k → k < m) (hu : ∀ k, u.ownBlock = some k → m ≤ k) : w'.ownsRow B e size v n xs :=
  own_kept h hg (fun k hk e => by have h1 := hl k hk; have h2 := hu k e; omega)
theorem toMarkS_d (a : Option Addr) (c : Nat) (xs : List Mk) (w : World) (hs : SlF Mk.cells w a xs) (hn : xs.length ≤ 2000000) :
    Calls Tryz.prog 16 #[.slice a xs.length c] w fun r w' => r = .returned (.slice (some ⟨w.heap.size, 0, none⟩) xs.length xs.length) ∧ w'.ownsRow w.heap.size 65 3 (.slice (some ⟨w.heap.size, 0, none⟩) xs.length xs.length) xs.length (xs.flatMap Mk.cells) ∧ SlF Mk.cells w' (some ⟨w.heap.size, 0, none⟩) xs ∧ Below w.heap.size w w' :=
  (toMarkS_c a c xs w hs hn).mono fun _ _ ⟨h1, h2, h3⟩ => ⟨h1, h2, own_slf (fun _ => rfl) h2, h3⟩
theorem eqMarkS_n (a a' : Option Addr) (c c' n : Nat) (xs : List Mk) (hn : xs.length = n) (w : World) (hs : SlF Mk.cells w a xs) (hs' : SlF Mk.cells w a' xs) (hx : n ≤ 2000000) :
    Calls Tryz.prog 18 #[.slice a n c, .slice a' n c'] w fun e w' => e = .returned (.bool true) ∧ Below w.heap.size w w' := by
  subst hn
  have hm : xs.length ≤ maxLen := by unfold maxLen; omega
  exact eqMarkS_c a a' c c' xs xs true (Lib.hid ⟨fun _ => rfl, fun _ => rfl⟩) w hs hs' hm hm
theorem eqEntS_n (a a' : Option Addr) (c c' n : Nat) (xs : List En) (hn : xs.length = n) (w : World) (hs : SlF En.cells w a xs) (hs' : SlF En.cells w a' xs) (hx : n ≤ 2000000) :
    Calls Tryz.prog 11 #[.slice a n c, .slice a' n c'] w fun e w' => e = .returned (.bool true) ∧ Below w.heap.size w w' := by
  subst hn
  have hm : xs.length ≤ maxLen := by unfold maxLen; omega
  exact eqEntS_c a a' c c' xs xs true (Lib.hid ⟨fun _ => rfl, fun _ => rfl⟩) w hs hs' hm hm
theorem mk_low {xs : List Mk} (h : (xs.length : Int) + sumW mkW xs ≤ 1048576) : ∀ e ∈ xs, e.p.size ≤ 2000000 ∧ e.x.size ≤ 2000000 := fun e he => by
  obtain ⟨k, hk⟩ := List.getElem?_of_mem he
  have h1 := sumW_take mkW xs k e hk
  have h2 := sumW_le mkW xs (k + 1)
  have h3 : mkW e = e.p.size + e.x.size := rfl
  omega
theorem en_low {xs : List En} (h : (xs.length : Int) + sumW enW xs ≤ 1048576) : ∀ e ∈ xs, e.p.size ≤ 2000000 ∧ e.x.size ≤ 2000000 := fun e he => by
  obtain ⟨k, hk⟩ := List.getElem?_of_mem he
  have h1 := sumW_take enW xs k e hk
  have h2 := sumW_le enW xs (k + 1)
  have h3 : enW e = e.p.size + e.x.size := rfl
  omega
end Go.Proofs.YtnmjidjhloodbaaGreatDoor
namespace Go.Proofs.YtnmjidjhloodbaaGreatDoor
open Go.RowKit
set_option maxHeartbeats 1000000 in
theorem szOp_yes (k : Int) (p t d : ByteArray) (l : Int) (hl : l ≤ 2000000) (h : (p.size : Int) + t.size + d.size ≤ l) (w : World) :
    Calls Tryz.prog 6 #[opV k p t d, .int .i64 l] w fun e w' => e = .returned (.int .i64 (l - p.size - t.size - d.size)) ∧ Below w.heap.size w w' := by
  go_enter Tryz.func6, Tryz.ntmps6
  go_wp2
  go_ret
  exact ⟨rfl, bellow_alloc _ _⟩
set_option maxHeartbeats 1000000 in
theorem szOp_no (k : Int) (p t d : ByteArray) (l : Int) (hl : l ≤ 2000000) (hl0 : 0 ≤ l) (h : l < (p.size : Int) + t.size + d.size) (w : World) (hp : p.size ≤ maxLen) (ht : t.size ≤ maxLen) (hd : d.size ≤ maxLen) :
    Calls Tryz.prog 6 #[opV k p t d, .int .i64 l] w fun e w' => e = .returned (.int .i64 (-1)) ∧ Below w.heap.size w w' := by
  unfold maxLen at hp ht hd
  by_cases h1 : l < (p.size : Int)
  · go_enter Tryz.func6, Tryz.ntmps6
    go_wp2
    go_ret
    exact ⟨rfl, bellow_alloc _ _⟩
  by_cases h2 : l < (p.size : Int) + t.size
  · go_enter Tryz.func6, Tryz.ntmps6
    go_wp2
    go_ret
    exact ⟨rfl, bellow_alloc _ _⟩
  · go_enter Tryz.func6, Tryz.ntmps6
    go_wp2
    go_ret
    exact ⟨rfl, bellow_alloc _ _⟩
set_option maxHeartbeats 1000000 in
theorem toOp_c (k : Int) (p t d : ByteArray) (w : World) :
    Calls Tryz.prog 9 #[opV k p t d] w fun e w' => e = .returned (opV k p t d) ∧ Below w.heap.size w w' := by
  go_enter Tryz.func9, Tryz.ntmps9
  go_wp2
  refine bodyPost_ret (v := opV k p t d) (by simp [results, Tryz.results9, go_sem]) rfl ⟨rfl, ?_⟩
  repeat (first | exact Below.refl _ _ | refine Below.alloc ?_ (by simp; try omega) _)
def TrueBelowO (w : World) (e : Ending) (w' : World) : Prop := e = .returned (.bool true) ∧ Below w.heap.size w w'
end Go.Proofs.YtnmjidjhloodbaaGreatDoor
namespace Go.Proofs.YtnmjidjhloodbaaGreatDoor
open Go.RowKit
def putO (o : Option En) (n : Nat) : Nat := match o with
  | some e => if e.d then 5 else 0
  | none => if 16 ≤ n then 8 else 0
def rmO (o : Option En) : Nat := match o with
  | some e => if e.d then 5 else 0
  | none => 2
def rmdirO (o : Option En) (r : Bool) : Nat := match o with
  | some e => if e.d then (if r = true then 6 else 0) else 3
  | none => 2
set_option maxHeartbeats 4000000 in
theorem makeCode_c (a : Option Addr) (c : Nat) (xs : List En) (k : Int) (p t d : ByteArray) (m : Nat) (hm : Hid (makeC (xs.map En.pl) p.data.toList = m)) (w : World) (hs : SlF En.cells w a xs) (hx : xs.length ≤ maxLen) (hp : p.size ≤ maxLen) :
    Calls Tryz.prog 57 #[.slice a xs.length c, opV k p t d] w fun r w' => r = .returned (.int .i64 m) ∧ Below w.heap.size w w' := by
  have c0 := new_cell w (opBox k p t d) 31 0 _ rfl
  have c1 := new_cell w (opBox k p t d) 31 1 _ rfl
  have c2 := new_cell w (opBox k p t d) 31 2 _ rfl
  have c3 := new_cell w (opBox k p t d) 31 3 _ rfl
  have hb := bellow_alloc w (.cells (opBox k p t d) 31)
  have HS := Lib.hid hs
  have HE := Lib.hid (fun (q : ByteArray) (o' : Option En) (ho' : Hid (getE xs q = o')) W (h : SlF En.cells W a xs) => entAt_c a c xs q o' ho' W h hx)
  have HU := Lib.hid (fun (q : ByteArray) (m' : Nat) (hm' : Hid (upCodeL (xs.map En.pl) q.data.toList = m')) W (h : SlF En.cells W a xs) (hq : q.size ≤ maxLen) => upCode_c a c xs q m' hm' W h hx hq)
  obtain ⟨n, hn⟩ : ∃ n, xs.length = n := ⟨_, rfl⟩
  have HN := Lib.hid hn
  rw [hn] at HE HU hx ⊢
  clear hn hs
  obtain ⟨u, hu⟩ : ∃ u, upCodeL (xs.map En.pl) p.data.toList = u := ⟨_, rfl⟩
  obtain ⟨o, ho⟩ : ∃ o, getE xs p = o := ⟨_, rfl⟩
  have HM : Hid (m = if u ≠ 0 then u else if o.isSome = true then 4 else if 16 ≤ n then 8 else 0) := by
    rw [Hid, ← hm.out, makeC, hu, getE_pl, ho, List.length_map, HN.out, Option.isSome_map]
  have HUU := Lib.hid hu
  have HO := Lib.hid ho
  clear hu ho hm
  by_cases h0 : u = 0
  · subst h0
    cases o with
    | some e =>
      obtain rfl : m = 4 := by rw [HM.out]; rfl
      go_enter Tryz.func57, Tryz.ntmps57
      go_wp2_with fail
      refine (HU.out p 0 HUU _ (HS.out.below hb) hp).mono ?_; rintro e W ⟨rfl, hq⟩; replace hb := chn hb hq; replace c0 := keepc hq c0; replace c1 := keepc hq c1; replace c2 := keepc hq c2; replace c3 := keepc hq c3; clear hq
      go_wp2_with fail
      refine (HE.out p _ HO _ (HS.out.below hb)).mono ?_; rintro e W ⟨rfl, hq⟩; replace hb := chn hb hq; replace c0 := keepc hq c0; replace c1 := keepc hq c1; replace c2 := keepc hq c2; replace c3 := keepc hq c3; clear hq
      go_wp2
      go_ret
      exact ⟨rfl, by repeat (first | exact hb | refine Below.alloc ?_ (by have := hb.size; simp; try omega) _)⟩
    | none =>
      by_cases h16 : 16 ≤ n
      · obtain rfl : m = 8 := by rw [HM.out]; simp [h16]
        have g : (16 : Int) ≤ (n : Int) := by omega
        go_enter Tryz.func57, Tryz.ntmps57
        go_wp2_with fail
        refine (HU.out p 0 HUU _ (HS.out.below hb) hp).mono ?_; rintro e W ⟨rfl, hq⟩; replace hb := chn hb hq; replace c0 := keepc hq c0; replace c1 := keepc hq c1; replace c2 := keepc hq c2; replace c3 := keepc hq c3; clear hq
        go_wp2_with fail
        refine (HE.out p _ HO _ (HS.out.below hb)).mono ?_; rintro e W ⟨rfl, hq⟩; replace hb := chn hb hq; replace c0 := keepc hq c0; replace c1 := keepc hq c1; replace c2 := keepc hq c2; replace c3 := keepc hq c3; clear hq
        go_wp2
        go_ret
        exact ⟨rfl, by repeat (first | exact hb | refine Below.alloc ?_ (by have := hb.size; simp; try omega) _)⟩
      · obtain rfl : m = 0 := by rw [HM.out]; simp [h16]
        have g : decide ((16 : Int) ≤ (n : Int)) = false := by rw [decide_eq_false_iff_not]; omega
        go_enter Tryz.func57, Tryz.ntmps57
        go_wp2_with fail
        refine (HU.out p 0 HUU _ (HS.out.below hb) hp).mono ?_; rintro e W ⟨rfl, hq⟩; replace hb := chn hb hq; replace c0 := keepc hq c0; replace c1 := keepc hq c1; replace c2 := keepc hq c2; replace c3 := keepc hq c3; clear hq
        go_wp2_with fail
        refine (HE.out p _ HO _ (HS.out.below hb)).mono ?_; rintro e W ⟨rfl, hq⟩; replace hb := chn hb hq; replace c0 := keepc hq c0; replace c1 := keepc hq c1; replace c2 := keepc hq c2; replace c3 := keepc hq c3; clear hq
        go_wp2
        go_ret
        exact ⟨rfl, by repeat (first | exact hb | refine Below.alloc ?_ (by have := hb.size; simp; try omega) _)⟩
  · obtain rfl : m = u := by rw [HM.out, if_pos h0]
    go_enter Tryz.func57, Tryz.ntmps57
    go_wp2_with fail
    refine (HU.out p m HUU _ (HS.out.below hb) hp).mono ?_; rintro e W ⟨rfl, hq⟩; replace hb := chn hb hq; replace c0 := keepc hq c0; replace c1 := keepc hq c1; replace c2 := keepc hq c2; replace c3 := keepc hq c3; clear hq
    go_wp2
    go_ret
    exact ⟨rfl, by repeat (first | exact hb | refine Below.alloc ?_ (by have := hb.size; simp; try omega) _)⟩
set_option maxHeartbeats 4000000 in
theorem putCode_c (a : Option Addr) (c : Nat) (xs : List En) (k : Int) (p t d : ByteArray) (m : Nat) (hm : Hid (putC (xs.map En.pl) p.data.toList = m)) (w : World) (hs : SlF En.cells w a xs) (hx : xs.length ≤ maxLen) (hp : p.size ≤ maxLen) :
    Calls Tryz.prog 58 #[.slice a xs.length c, opV k p t d] w fun r w' => r = .returned (.int .i64 m) ∧ Below w.heap.size w w' := by
  have c0 := new_cell w (opBox k p t d) 31 0 _ rfl
  have c1 := new_cell w (opBox k p t d) 31 1 _ rfl
  have c2 := new_cell w (opBox k p t d) 31 2 _ rfl
  have c3 := new_cell w (opBox k p t d) 31 3 _ rfl
  have hb := bellow_alloc w (.cells (opBox k p t d) 31)
  have HS := Lib.hid hs
  have HE := Lib.hid (fun (q : ByteArray) (o' : Option En) (ho' : Hid (getE xs q = o')) W (h : SlF En.cells W a xs) => entAt_c a c xs q o' ho' W h hx)
  have HU := Lib.hid (fun (q : ByteArray) (m' : Nat) (hm' : Hid (upCodeL (xs.map En.pl) q.data.toList = m')) W (h : SlF En.cells W a xs) (hq : q.size ≤ maxLen) => upCode_c a c xs q m' hm' W h hx hq)
  obtain ⟨n, hn⟩ : ∃ n, xs.length = n := ⟨_, rfl⟩
  have HN := Lib.hid hn
  rw [hn] at HE HU hx ⊢
  clear hn hs
  obtain ⟨u, hu⟩ : ∃ u, upCodeL (xs.map En.pl) p.data.toList = u := ⟨_, rfl⟩
  obtain ⟨o, ho⟩ : ∃ o, getE xs p = o := ⟨_, rfl⟩
  have HM : Hid (m = if u ≠ 0 then u else putO o n) := by
    rw [Hid, ← hm.out, putC, hu, getE_pl, ho, List.length_map, HN.out]
    clear ho
    cases o <;> rfl
  have HUU := Lib.hid hu
  have HO := Lib.hid ho
  clear hu ho hm
  by_cases h0 : u = 0
  · subst h0
    cases o with
    | some e =>
      obtain ⟨ep, ed, ex⟩ := e
      cases ed with
      | true =>
        obtain rfl : m = 5 := by rw [HM.out]; rfl
        go_enter Tryz.func58, Tryz.ntmps58
        go_wp2_with fail
        refine (HU.out p 0 HUU _ (HS.out.below hb) hp).mono ?_; rintro e W ⟨rfl, hq⟩; replace hb := chn hb hq; replace c0 := keepc hq c0; replace c1 := keepc hq c1; replace c2 := keepc hq c2; replace c3 := keepc hq c3; clear hq
        go_wp2_with fail
        refine (HE.out p _ HO _ (HS.out.below hb)).mono ?_; rintro e W ⟨rfl, hq⟩; replace hb := chn hb hq; replace c0 := keepc hq c0; replace c1 := keepc hq c1; replace c2 := keepc hq c2; replace c3 := keepc hq c3; clear hq
        go_wp2
        go_ret
        exact ⟨rfl, by repeat (first | exact hb | refine Below.alloc ?_ (by have := hb.size; simp; try omega) _)⟩
      | false =>
        obtain rfl : m = 0 := by rw [HM.out]; rfl
        go_enter Tryz.func58, Tryz.ntmps58
        go_wp2_with fail
        refine (HU.out p 0 HUU _ (HS.out.below hb) hp).mono ?_; rintro e W ⟨rfl, hq⟩; replace hb := chn hb hq; replace c0 := keepc hq c0; replace c1 := keepc hq c1; replace c2 := keepc hq c2; replace c3 := keepc hq c3; clear hq
        go_wp2_with fail
        refine (HE.out p _ HO _ (HS.out.below hb)).mono ?_; rintro e W ⟨rfl, hq⟩; replace hb := chn hb hq; replace c0 := keepc hq c0; replace c1 := keepc hq c1; replace c2 := keepc hq c2; replace c3 := keepc hq c3; clear hq
        go_wp2
        go_ret
        exact ⟨rfl, by repeat (first | exact hb | refine Below.alloc ?_ (by have := hb.size; simp; try omega) _)⟩
    | none =>
      by_cases h16 : 16 ≤ n
      · obtain rfl : m = 8 := by rw [HM.out]; simp [h16, putO]
        have g : (16 : Int) ≤ (n : Int) := by omega
        go_enter Tryz.func58, Tryz.ntmps58
        go_wp2_with fail
        refine (HU.out p 0 HUU _ (HS.out.below hb) hp).mono ?_; rintro e W ⟨rfl, hq⟩; replace hb := chn hb hq; replace c0 := keepc hq c0; replace c1 := keepc hq c1; replace c2 := keepc hq c2; replace c3 := keepc hq c3; clear hq
        go_wp2_with fail
        refine (HE.out p _ HO _ (HS.out.below hb)).mono ?_; rintro e W ⟨rfl, hq⟩; replace hb := chn hb hq; replace c0 := keepc hq c0; replace c1 := keepc hq c1; replace c2 := keepc hq c2; replace c3 := keepc hq c3; clear hq
        go_wp2
        go_ret
        exact ⟨rfl, by repeat (first | exact hb | refine Below.alloc ?_ (by have := hb.size; simp; try omega) _)⟩
      · obtain rfl : m = 0 := by rw [HM.out]; simp [h16, putO]
        have g : decide ((16 : Int) ≤ (n : Int)) = false := by rw [decide_eq_false_iff_not]; omega
        go_enter Tryz.func58, Tryz.ntmps58
        go_wp2_with fail
        refine (HU.out p 0 HUU _ (HS.out.below hb) hp).mono ?_; rintro e W ⟨rfl, hq⟩; replace hb := chn hb hq; replace c0 := keepc hq c0; replace c1 := keepc hq c1; replace c2 := keepc hq c2; replace c3 := keepc hq c3; clear hq
        go_wp2_with fail
        refine (HE.out p _ HO _ (HS.out.below hb)).mono ?_; rintro e W ⟨rfl, hq⟩; replace hb := chn hb hq; replace c0 := keepc hq c0; replace c1 := keepc hq c1; replace c2 := keepc hq c2; replace c3 := keepc hq c3; clear hq
        go_wp2
        go_ret
        exact ⟨rfl, by repeat (first | exact hb | refine Below.alloc ?_ (by have := hb.size; simp; try omega) _)⟩
  · obtain rfl : m = u := by rw [HM.out, if_pos h0]
    go_enter Tryz.func58, Tryz.ntmps58
    go_wp2_with fail
    refine (HU.out p m HUU _ (HS.out.below hb) hp).mono ?_; rintro e W ⟨rfl, hq⟩; replace hb := chn hb hq; replace c0 := keepc hq c0; replace c1 := keepc hq c1; replace c2 := keepc hq c2; replace c3 := keepc hq c3; clear hq
    go_wp2
    go_ret
    exact ⟨rfl, by repeat (first | exact hb | refine Below.alloc ?_ (by have := hb.size; simp; try omega) _)⟩
set_option maxHeartbeats 4000000 in
theorem rmCode_c (a : Option Addr) (c : Nat) (xs : List En) (k : Int) (p t d : ByteArray) (m : Nat) (hm : Hid (rmC (xs.map En.pl) p.data.toList = m)) (w : World) (hs : SlF En.cells w a xs) (hx : xs.length ≤ maxLen) :
    Calls Tryz.prog 59 #[.slice a xs.length c, opV k p t d] w fun r w' => r = .returned (.int .i64 m) ∧ Below w.heap.size w w' := by
  have c0 := new_cell w (opBox k p t d) 31 0 _ rfl
  have c1 := new_cell w (opBox k p t d) 31 1 _ rfl
  have c2 := new_cell w (opBox k p t d) 31 2 _ rfl
  have c3 := new_cell w (opBox k p t d) 31 3 _ rfl
  have hb := bellow_alloc w (.cells (opBox k p t d) 31)
  have HS := Lib.hid hs
  have HE := Lib.hid (fun (q : ByteArray) (o' : Option En) (ho' : Hid (getE xs q = o')) W (h : SlF En.cells W a xs) => entAt_c a c xs q o' ho' W h hx)
  have HU := Lib.hid (fun (q : ByteArray) (m' : Nat) (hm' : Hid (upCodeL (xs.map En.pl) q.data.toList = m')) W (h : SlF En.cells W a xs) (hq : q.size ≤ maxLen) => upCode_c a c xs q m' hm' W h hx hq)
  obtain ⟨n, hn⟩ : ∃ n, xs.length = n := ⟨_, rfl⟩
  have HN := Lib.hid hn
  rw [hn] at HE HU hx ⊢
  clear hn hs
  obtain ⟨o, ho⟩ : ∃ o, getE xs p = o := ⟨_, rfl⟩
  have HM : Hid (m = rmO o) := by
    rw [Hid, ← hm.out, rmC, getE_pl, ho]
    clear ho
    cases o <;> rfl
  have HO := Lib.hid ho
  clear ho hm HU
  cases o with
  | some e =>
    obtain ⟨ep, ed, ex⟩ := e
    cases ed with
    | true =>
      obtain rfl : m = 5 := by rw [HM.out]; rfl
      go_enter Tryz.func59, Tryz.ntmps59
      go_wp2_with fail
      refine (HE.out p _ HO _ (HS.out.below hb)).mono ?_; rintro e W ⟨rfl, hq⟩; replace hb := chn hb hq; replace c0 := keepc hq c0; replace c1 := keepc hq c1; replace c2 := keepc hq c2; replace c3 := keepc hq c3; clear hq
      go_wp2
      go_ret
      exact ⟨rfl, by repeat (first | exact hb | refine Below.alloc ?_ (by have := hb.size; simp; try omega) _)⟩
    | false =>
      obtain rfl : m = 0 := by rw [HM.out]; rfl
      go_enter Tryz.func59, Tryz.ntmps59
      go_wp2_with fail
      refine (HE.out p _ HO _ (HS.out.below hb)).mono ?_; rintro e W ⟨rfl, hq⟩; replace hb := chn hb hq; replace c0 := keepc hq c0; replace c1 := keepc hq c1; replace c2 := keepc hq c2; replace c3 := keepc hq c3; clear hq
      go_wp2
      go_ret
      exact ⟨rfl, by repeat (first | exact hb | refine Below.alloc ?_ (by have := hb.size; simp; try omega) _)⟩
  | none =>
    obtain rfl : m = 2 := HM.out
    go_enter Tryz.func59, Tryz.ntmps59
    go_wp2_with fail
    refine (HE.out p _ HO _ (HS.out.below hb)).mono ?_; rintro e W ⟨rfl, hq⟩; replace hb := chn hb hq; replace c0 := keepc hq c0; replace c1 := keepc hq c1; replace c2 := keepc hq c2; replace c3 := keepc hq c3; clear hq
    go_wp2
    go_ret
    exact ⟨rfl, by repeat (first | exact hb | refine Below.alloc ?_ (by have := hb.size; simp; try omega) _)⟩
end Go.Proofs.YtnmjidjhloodbaaGreatDoor
namespace Go.Proofs.YtnmjidjhloodbaaGreatDoor
open Go.RowKit
/-- The same, the heap's size spelled otherwise. -/
theorem wp_app1H {P : Program} {ops : Array Oper} {rest : List Oper} {o : Oper} {a : Act} {Q : Exit → Act → World → Prop} (hgd : o.guard = none) (s x : Operand) (t : TypeId)
    (ho : o.op = .call { callee := .builtin .append, args := #[s, x], argTypes := #[t, t] }) {e : TypeId} {size bytes : Nat} (E : Elt P t e size bytes)
    (base B : Nat) (w0 w : World) (cs : Array Value) (v : Value) (n : Nat) (xs : List Value) (hs : a.eval s = v) (H : Nat) (hH : w.heap.size = H) (hx : a.eval x = .slice (some ⟨H, 0, none⟩) 1 1)
    (hown : w.ownsRow base e size v n xs) (hcs : cs.size = size) (h1 : ∀ u ∈ cs.toList, u.oneCell' = true) (hn : n ≤ 1000000) (hbase : base ≤ w.heap.size) (hB : Below B w0 w) (hBb : B ≤ base)
    (h : ∀ v' w', w'.ownsRow base e size v' (n + 1) (xs ++ cs.toList) → Below B w0 w' → w.heap.size ≤ w'.heap.size → (w.alloc (.cells cs e)).grownBy w' v.ownBlock → wpList P ops Q rest (a.put o.dst v') w') :
    wpList P ops Q (o :: rest) a (w.alloc (.cells cs e)) :=
  wp_app1 hgd s x t ho E base B w0 w cs v n xs hs (hH ▸ hx) hown hcs h1 hn hbase hB hBb h
theorem SlF.drop {α : Type} {f : α → List Value} {w : World} {b off : Nat} {xs : List α} (h : SlF f w (some ⟨b, off, none⟩) xs) (k : Nat) : SlF f w (some ⟨b, off + k * 3, none⟩) (xs.drop k) := fun hn => by
  rw [List.length_drop] at hn
  obtain ⟨b', off', e, hlt, hc⟩ := h (by omega)
  simp only [Option.some.injEq, Addr.mk.injEq, and_true] at e
  obtain ⟨rfl, rfl⟩ := e
  refine ⟨b, off + k * 3, rfl, hlt, fun j x hj i u hu => ?_⟩
  rw [List.getElem?_drop] at hj
  have := hc (k + j) x hj i u hu
  rw [show off + k * 3 + j * 3 + i = off + (k + j) * 3 + i by omega]
  exact this
theorem SlF.cells_at {α : Type} {f : α → List Value} (hf : ∀ x, (f x).length = 3) {w : World} {b off : Nat} {xs : List α} (h : SlF f w (some ⟨b, off, none⟩) xs) : ∀ j u, (xs.flatMap f)[j]? = some u → w.cell? ((⟨b, off, none⟩ : Addr).add j) = some u := by
  intro j u hj
  have hl : j < xs.length * 3 := by
    have := (List.getElem?_eq_some_iff.1 hj).1
    rwa [flatMap_len hf] at this
  obtain ⟨b', off', e, hlt, hc⟩ := h (by omega)
  simp only [Option.some.injEq, Addr.mk.injEq, and_true] at e
  obtain ⟨rfl, rfl⟩ := e
  have hk : j / 3 < xs.length := by omega
  obtain ⟨x, hx⟩ : ∃ x, xs[j / 3]? = some x := ⟨_, List.getElem?_eq_getElem hk⟩
  have key : ∀ (ys : List α) (k i : Nat) (y : α), ys[k]? = some y → i < 3 → (ys.flatMap f)[k * 3 + i]? = (f y)[i]? := by
    intro ys
    induction ys with
    | nil => intro k i y hy; simp at hy
    | cons z r ih =>
      intro k i y hy hi
      rw [List.flatMap_cons]
      cases k with
      | zero =>
        simp at hy; subst hy
        rw [Nat.zero_mul, Nat.zero_add, List.getElem?_append_left (by rw [hf]; exact hi)]
      | succ k =>
        rw [List.getElem?_append_right (by rw [hf]; omega), hf, show (k + 1) * 3 + i - 3 = k * 3 + i by omega]
        exact ih k i y (by simpa using hy) hi
  have e1 : j / 3 * 3 + j % 3 = j := by omega
  have hu : (f x)[j % 3]? = some u := by rw [← key xs (j / 3) (j % 3) x hx (Nat.mod_lt _ (by omega)), e1]; exact hj
  have := hc (j / 3) x hx (j % 3) u hu
  have e2 : (⟨b, off, none⟩ : Addr).add j = ⟨b, off + j, none⟩ := by
    unfold Addr.add
    by_cases h : j = 0 <;> simp [h]
  rw [e2, show off + j = off + j / 3 * 3 + j % 3 by omega]
  exact this
/-- 'append(out, ys...)': a slice of structs of three cells onto a row of the call's own. -/
theorem wp_appS {P : Program} {ops : Array Oper} {rest : List Oper} {o : Oper} {a : Act} {Q : Exit → Act → World → Prop} (hgd : o.guard = none) (s x : Operand) (t : TypeId)
    (ho : o.op = .call { callee := .builtin .append, args := #[s, x], argTypes := #[t, t] }) {e : TypeId} {bytes : Nat} (E : Elt P t e 3 bytes)
    (base B : Nat) (w0 w : World) (v : Value) (n : Nat) (xs : List Value) (hs : a.eval s = v) {α : Type} (f : α → List Value) (hf : ∀ x, (f x).length = 3) (h1 : ∀ x, ∀ u ∈ f x, u.oneCell' = true) (ys : List α) (b off m c : Nat) (hm : ys.length = m) (hx : a.eval x = .slice (some ⟨b, off, none⟩) m c)
    (hsl : SlF f w (some ⟨b, off, none⟩) ys) (hown : w.ownsRow base e 3 v n xs) (hn : n + ys.length ≤ 2000000) (hbase : base ≤ w.heap.size) (hB : Below B w0 w) (hBb : B ≤ base)
    (h : ∀ v' w', w'.ownsRow base e 3 v' (n + ys.length) (xs ++ ys.flatMap f) → Below B w0 w' → w.heap.size ≤ w'.heap.size → w.grownBy w' v.ownBlock → wpList P ops Q rest (a.put o.dst v') w') :
    wpList P ops Q (o :: rest) a w := by
  subst hm
  obtain ⟨i, z, hi, hz, hsz, hby, hzs⟩ := E.info
  have hsm := E.small
  refine wpList_append_own _ hgd s x t ho base e i z 3 bytes E.und hi hz hsz hby hzs E.pos v n xs hs hown ⟨b, off, none⟩ ys.length c (ys.flatMap f) hx (flatMap_len hf ys) (hsl.cells_at hf) (fun u hu => ?_) (by unfold maxLen; omega) ?_ hbase ?_
  · obtain ⟨y, hy, hu⟩ := List.mem_flatMap.1 hu
    exact h1 y u hu
  · have : (n + ys.length) * bytes ≤ 2000000 * 64 := Nat.mul_le_mul hn hsm
    omega
  · intro v' w' h2 h3 _
    refine h v' w' h2 (hB.grown h3 (Nat.le_trans hBb hbase) ?_) h3.size h3
    intro k hk
    rcases hown.2 with ⟨rfl, _⟩ | ⟨g, cap, cur, rfl, hg, _⟩
    · simp [Value.ownBlock] at hk
    · simp [Value.ownBlock] at hk; omega
/-- A slice whose cells lie in another block than the one that grew. -/
theorem SlF.grown {α : Type} {f : α → List Value} {w w' : World} {a : Option Addr} {xs : List α} {own : Option Nat} (h : SlF f w a xs) (hg : w.grownBy w' own) (hne : ∀ b, a.map (·.block) = some b → own ≠ some b) : SlF f w' a xs := fun hn => by
  obtain ⟨b, off, rfl, hlt, hc⟩ := h hn
  refine ⟨b, off, rfl, Nat.lt_of_lt_of_le hlt hg.size, fun k x hx j u hu => ?_⟩
  have h1 := hc k x hx j u hu
  have hb := hg.block b hlt (Ne.symm (hne b rfl))
  rw [← h1]
  unfold World.cell?
  simp only [hb]
abbrev En.bs (e : En) : Bs := e.p.data.toList
abbrev Mk.bs (e : Mk) : Bs := e.p.data.toList
theorem putP_map {α β : Type} {f : α → Bs} {g : β → Bs} (h : α → β) (hp : ∀ a, g (h a) = f a) (t : List α) (e : α) : (putP f t e).map h = putP g (t.map h) (h e) := by
  induction t with
  | nil => rfl
  | cons a r ih =>
    rw [List.map_cons, putP, putP, hp, hp]
    split
    · rw [List.map_cons, ih]
    · split <;> rfl
/-- Where a struct is put. -/
theorem put_split {α : Type} {f : α → Bs} (t : List α) (e : α) (k : Nat) (hk : k ≤ t.length) (h1 : ∀ (j : Nat) (x : α), j < k → t[j]? = some x → Op.bytesLess (f x) (f e) = true) (h2 : ∀ x, t[k]? = some x → Op.bytesLess (f x) (f e) = false) :
    putP f t e = t.take k ++ e :: t.drop (k + if (t[k]?.map f) = some (f e) then 1 else 0) := by
  induction t generalizing k with
  | nil =>
    simp at hk; subst hk
    simp [putP]
  | cons a r ih =>
    cases k with
    | zero =>
      have h3 := h2 a rfl
      rw [putP, if_neg (by rw [h3]; simp)]
      by_cases h4 : f a = f e
      · rw [if_pos h4]; simp [h4]
      · rw [if_neg h4]; simp [h4]
    | succ k =>
      rw [putP, if_pos (h1 0 a (by omega) rfl)]
      have := ih k (by simpa using hk) (fun j x hj hx => h1 (j + 1) x (by omega) (by simpa using hx)) (fun x hx => h2 x (by simpa using hx))
      rw [this]
      simp only [List.take_succ_cons, List.cons_append, List.getElem?_cons_succ]
      rw [show k + 1 + (if Option.map f r[k]? = some (f e) then 1 else 0) = (k + if Option.map f r[k]? = some (f e) then 1 else 0) + 1 by omega, List.drop_succ_cons]
end Go.Proofs.YtnmjidjhloodbaaGreatDoor
namespace Go.Proofs.YtnmjidjhloodbaaGreatDoor
open Go.RowKit
/-- A slice of entries that the call made. -/
def MadeEn (ys : List En) (w : World) (e : Ending) (w' : World) : Prop :=
  ∃ g c, e = .returned (.slice (some ⟨g, 0, none⟩) ys.length c) ∧ ys.length ≤ c ∧ c ≤ maxLen ∧ OwnEn w' w.heap.size (.slice (some ⟨g, 0, none⟩) ys.length c) ys ∧ Below w.heap.size w w'
theorem own_slfEn' {w : World} {B g c : Nat} {xs : List En} (h : OwnEn w B (.slice (some ⟨g, 0, none⟩) xs.length c) xs) : SlF En.cells w (some ⟨g, 0, none⟩) xs := fun hn => by
  obtain ⟨g', c', hv, _, _, hlt, hc, _⟩ := own_form h hn
  have hg : g = g' := by injection hv with h1; injection h1 with h1; injection h1
  subst hg
  refine ⟨g, 0, rfl, hlt, fun k x hx j u hu => ?_⟩
  rw [Nat.zero_add]
  refine hc _ _ ?_
  have key : ∀ (ys : List En) (k : Nat) (y : En), ys[k]? = some y → (ys.flatMap En.cells)[k * 3 + j]? = (En.cells y)[j]? := by
    have hj : j < 3 := (List.getElem?_eq_some_iff.1 hu).1
    intro ys
    induction ys with
    | nil => intro k y hy; simp at hy
    | cons z r ih =>
      intro k y hy
      rw [List.flatMap_cons]
      cases k with
      | zero =>
        simp at hy; subst hy
        rw [Nat.zero_mul, Nat.zero_add, List.getElem?_append_left (by exact hj)]
      | succ k =>
        rw [List.getElem?_append_right (by show 3 ≤ _; omega), show (k + 1) * 3 + j - (En.cells z).length = k * 3 + j by show (k + 1) * 3 + j - 3 = _; omega]
        exact ih k y (by simpa using hy)
  rw [key xs k x hx]; exact hu
theorem made_of {w0 w : World} {B : Nat} {v : Value} {ys : List En} (h : w.ownsRow B 52 3 v ys.length (ys.flatMap En.cells)) (hB : w0.heap.size ≤ B) (hb : Below w0.heap.size w0 w) (hn : 0 < ys.length) : MadeEn ys w0 (.returned v) w := by
  have h0 := h
  rcases h.2 with ⟨_, h1⟩ | ⟨g, cap, cur, rfl, hg, hh, hnc, hm, h2, h3⟩
  · omega
  · exact ⟨g, cap, rfl, hnc, hm, ⟨h.1, .inr ⟨g, cap, cur, rfl, Nat.le_trans hB hg, hh, hnc, hm, h2, h3⟩⟩, hb⟩
theorem en_one (e : En) : ∀ u ∈ En.cells e, u.oneCell' = true := by intro u hu; simp [En.cells] at hu; rcases hu with rfl | rfl | rfl <;> rfl
theorem flat_one (e : En) : [e].flatMap En.cells = (#[.string e.p, .bool e.d, .string e.x] : Array Value).toList := by simp [En.cells]
theorem flat_app (xs : List En) (e : En) : xs.flatMap En.cells ++ (#[.string e.p, .bool e.d, .string e.x] : Array Value).toList = (xs ++ [e]).flatMap En.cells := by simp [En.cells]
theorem bs_less (e f : En) (b : Bool) : Op.bytesLess e.p.toList f.p.toList = b ↔ Op.bytesLess (En.bs e) (En.bs f) = b := by rw [less_of']
theorem drop_len {xs : List En} {n k : Nat} (h : xs.length = n) : (xs.drop k).length = n - k := by rw [List.length_drop, h]
theorem drop_len0 {xs : List En} {k : Nat} (h : xs.length = k) : (xs.drop k).length = 0 := by rw [List.length_drop, h]; omega
theorem put_rows {xs ys : List En} {k k1 : Nat} {e : En} (h : ys = xs.take k ++ e :: xs.drop k1) {w : World} {B : Nat} {t : TypeId} {v : Value}
    (ho : w.ownsRow B t 3 v ((xs.take k).length + 1 + (xs.drop k1).length) ((xs.take k).flatMap En.cells ++ (#[.string e.p, .bool e.d, .string e.x] : Array Value).toList ++ (xs.drop k1).flatMap En.cells)) : w.ownsRow B t 3 v ys.length (ys.flatMap En.cells) := by
  have e1 : ys.length = (xs.take k).length + 1 + (xs.drop k1).length := by rw [h]; simp; omega
  have e2 : ys.flatMap En.cells = (xs.take k).flatMap En.cells ++ (#[.string e.p, .bool e.d, .string e.x] : Array Value).toList ++ (xs.drop k1).flatMap En.cells := by rw [h]; simp [En.cells]
  rw [e1, e2]; exact ho
set_option maxRecDepth 100000 in
set_option maxHeartbeats 4000000 in
theorem l2Put_c (b off c : Nat) (xs : List En) (e : En) (ys : List En) (hy : Hid (putP En.bs xs e = ys)) (w : World) (hs : SlF En.cells w (some ⟨b, off, none⟩) xs) (_hblk : b < w.heap.size) (hx : xs.length ≤ 1000000) (hc : xs.length ≤ c) (hcm : c ≤ maxLen) :
    Calls Tryz.prog 50 #[.slice (some ⟨b, off, none⟩) xs.length c, e.val] w (MadeEn ys w) := by
  have HE := eltEn
  obtain ⟨ep, ed, ex⟩ := e
  unfold maxLen at hcm
  obtain ⟨n, hn⟩ : ∃ n, xs.length = n := ⟨_, rfl⟩
  have HN := Lib.hid hn
  rw [hn] at hx hc ⊢
  obtain ⟨z, hz⟩ : ∃ z, w.alloc (.cells #[.string ep, .bool ed, .string ex] 52) = z := ⟨_, rfl⟩
  have hzs : z.heap.size = w.heap.size + 1 := by rw [← hz]; simp
  have c0 : z.cell? ⟨w.heap.size, 0, none⟩ = some (.string ep) := by rw [← hz]; exact new_cell _ _ _ 0 _ rfl
  have c1 : z.cell? ⟨w.heap.size, 1, none⟩ = some (.bool ed) := by rw [← hz]; exact new_cell _ _ _ 1 _ rfl
  have c2 : z.cell? ⟨w.heap.size, 2, none⟩ = some (.string ex) := by rw [← hz]; exact new_cell _ _ _ 2 _ rfl
  have HW := Lib.hid (hz ▸ bellow_alloc w _ : Below w.heap.size w z)
  have HS := Lib.hid (hs.below HW.out)
  have HZ := Lib.hid hzs
  have HWZ := Lib.hid (show w.heap.size ≤ z.heap.size by rw [hzs]; omega)
  have HC0 := Lib.hid c0
  have HC1 := Lib.hid c1
  have HC2 := Lib.hid c2
  clear hn hs hzs c0 c1 c2
  go_enter Tryz.func50, Tryz.ntmps50
  go_wp2
  clear hz
  go_loopw [5, 6] (fun v i wr => ∃ k : Nat, k ≤ n ∧ i = .int .i64 k ∧ wr.ownsRow z.heap.size 52 3 v (xs.take k).length ((xs.take k).flatMap En.cells) ∧ (∀ (j : Nat) (f : En), j < k → xs[j]? = some f → Op.bytesLess (En.bs f) ep.data.toList = true) ∧ Below z.heap.size z wr) (fun _ i _ => n - (intOf i).toNat)
  case atStart => exact ⟨0, Nat.zero_le _, rfl, World.ownsRow_lit z #[] 0 (Nat.le_refl _) (Nat.zero_le _) rfl, fun j _ h => absurd h (by omega), bellow_alloc _ _⟩
  case round =>
    obtain ⟨k, hk, rfl, hown, hall, hb⟩ := hrel
    have HA := Lib.hid hall
    clear hall
    have g0 := keepc hb HC0.out
    have g1 := keepc hb HC1.out
    have g2 := keepc hb HC2.out
    have hsw := HS.out.below hb
    have hlen : (xs.take k).length = k := by rw [List.length_take, HN.out]; omega
    have HL := Lib.hid hlen
    clear hlen
    by_cases hlt : k < n
    · obtain ⟨f, hff⟩ : ∃ f, xs[k]? = some f := ⟨_, List.getElem?_eq_getElem (by rw [HN.out]; exact hlt)⟩
      obtain ⟨d0, d1, d2⟩ := en_at hsw k f hff
      have i0 : (0 : Int) ≤ (k : Int) := by omega
      have i1 : (k : Int) < (n : Int) := by omega
      rcases Bool.eq_false_or_eq_true (Op.bytesLess f.p.toList ep.toList) with hle | hle
      · have HLE := Lib.hid ((bs_less f ⟨ep, ed, ex⟩ true).1 hle)
        have HFF := Lib.hid hff
        clear hff
        go_wp2_with fail
        go_quiet (fail)
        go_wp2_with (at_builtin; go_must (refine wp_app1 (by rfl) _ _ 27 (by rfl) HE z.heap.size z.heap.size z _ #[.string f.p, .bool f.d, .string f.x] _ _ _ (by rfl) (by rfl) hown (by rfl) (by simp [Value.oneCell']) (by have := HL.out; omega) (drw hb _).size (drw hb _) (Nat.le_refl _) ?_); intro v' w1 hown1 hbel1 _ hg1)
        go_roundw
        case rel => exact ⟨k + 1, by omega, by go_num, by
          have e1 := List.take_succ_eq_append_getElem (l := xs) (i := k) (by rw [HN.out]; exact hlt)
          have e2 : xs[k]'(by rw [HN.out]; exact hlt) = f := (List.getElem?_eq_some_iff.1 HFF.out).2
          rw [e2] at e1
          rw [flat_app] at hown1
          rw [e1, List.length_append]
          exact hown1, fun j g hj hg => by
          by_cases ej : j = k
          · subst ej
            rw [HFF.out] at hg
            injection hg with hg
            exact hg ▸ HLE.out
          · exact HA.out j g (by omega) hg, hbel1⟩
        case measure => simp [intOf]; omega
      · have hnl : ∀ x, xs[k]? = some x → Op.bytesLess (En.bs x) (En.bs ⟨ep, ed, ex⟩) = false := fun x hx => by
          rw [hff] at hx; injection hx with hx; rw [← hx]; exact (bs_less f ⟨ep, ed, ex⟩ false).1 hle
        have HSP := Lib.hid (put_split (f := En.bs) xs ⟨ep, ed, ex⟩ k (by rw [HN.out]; omega) HA.out hnl)
        clear hnl
        by_cases heq : f.p.data.toList = ep.data.toList
        · have q1 := beqs_yes heq
          have HY : Hid (ys = xs.take k ++ ⟨ep, ed, ex⟩ :: xs.drop (k + 1)) := by
            rw [Hid, ← hy.out, HSP.out, hff, show (Option.map En.bs (some f)) = some (En.bs ⟨ep, ed, ex⟩) from congrArg some heq, if_pos rfl]
          have HFF := Lib.hid hff
          clear heq hff HSP
          have i2 : (k : Int) + 1 ≤ (n : Int) := by omega
          have i3 : (0 : Int) ≤ (k : Int) + 1 := by omega
          have i4 : (k : Int) + 1 ≤ (c : Int) := by omega
          go_wp2_with fail
          go_quiet (fail)
          go_wp2_with (at_builtin; go_must (refine wp_app1 (by rfl) _ _ 27 (by rfl) HE z.heap.size z.heap.size z _ #[.string ep, .bool ed, .string ex] _ _ _ (by rfl) (by rfl) hown (by rfl) (by simp [Value.oneCell']) (by have := HL.out; omega) (drw hb _).size (drw hb _) (Nat.le_refl _) ?_); intro v' w1 hown1 hbel1 _ hg1)
          have hsw1 := HS.out.below hbel1
          have HDL := Lib.hid (drop_len (k := (k+1)) HN.out)
          by_cases hck : c = (k+1)
          · have HSD : ∀ W, SlF En.cells W (some ⟨b, off, none⟩) (xs.drop (k+1)) := fun W h => absurd h (by rw [HDL.out]; omega)
            obtain ⟨d0, d1, d2⟩ := en_at hsw1 k f HFF.out
            have q0 := keepc hbel1 HC0.out
            have hown2 := hown1
            go_wp2_with fail
            go_quiet (fail)
            go_wp2_with (at_builtin; go_must (refine wp_appS (by rfl) _ _ 27 (by rfl) HE z.heap.size z.heap.size z _ _ _ _ (by rfl) En.cells (fun _ => rfl) en_one (xs.drop (k+1)) b off _ _ HDL.out (by rfl) (HSD _) hown2 (by have := HL.out; have := HDL.out; omega) hbel1.size (drw hbel1 _) (Nat.le_refl _) ?_); intro v2 w2 hown3 hbel3 _ _)
            go_ret
            exact made_of (put_rows HY.out hown3) HWZ.out (HW.out.trans (hbel3.mono HWZ.out)) (by rw [HY.out]; simp; omega)
          · have HSD0 := Lib.hid (hsw1.drop (k+1))
            obtain ⟨d0, d1, d2⟩ := en_at hsw1 k f HFF.out
            have q0 := keepc hbel1 HC0.out
            have hown2 := hown1
            go_wp2_with fail
            go_quiet (fail)
            go_wp2_with (at_builtin; go_must (refine wp_appS (by rfl) _ _ 27 (by rfl) HE z.heap.size z.heap.size z _ _ _ _ (by rfl) En.cells (fun _ => rfl) en_one (xs.drop (k+1)) b (off+(k+1)*3) _ _ HDL.out (by rfl) (HSD0.out.below (below_dr _ _)) hown2 (by have := HL.out; have := HDL.out; omega) hbel1.size (drw hbel1 _) (Nat.le_refl _) ?_); intro v2 w2 hown3 hbel3 _ _)
            go_ret
            exact made_of (put_rows HY.out hown3) HWZ.out (HW.out.trans (hbel3.mono HWZ.out)) (by rw [HY.out]; simp; omega)
        · have q1 := beqs_no heq
          have HY : Hid (ys = xs.take k ++ ⟨ep, ed, ex⟩ :: xs.drop k) := by
            rw [Hid, ← hy.out, HSP.out, hff, if_neg (by intro h; injection h with h; exact heq h)]; rfl
          have HFF := Lib.hid hff
          clear heq hff HSP
          have i4 : (k : Int) ≤ (c : Int) := by omega
          have i5 : (k : Int) ≤ (n : Int) := by omega
          go_wp2_with fail
          go_quiet (fail)
          go_wp2_with (at_builtin; go_must (refine wp_app1 (by rfl) _ _ 27 (by rfl) HE z.heap.size z.heap.size z _ #[.string ep, .bool ed, .string ex] _ _ _ (by rfl) (by rfl) hown (by rfl) (by simp [Value.oneCell']) (by have := HL.out; omega) (drw hb _).size (drw hb _) (Nat.le_refl _) ?_); intro v' w1 hown1 hbel1 _ hg1)
          have hsw1 := HS.out.below hbel1
          have HDL := Lib.hid (drop_len (k := k) HN.out)
          by_cases hck : c = k
          · have HSD : ∀ W, SlF En.cells W (some ⟨b, off, none⟩) (xs.drop k) := fun W h => absurd h (by rw [HDL.out]; omega)
            obtain ⟨d0, d1, d2⟩ := en_at hsw1 k f HFF.out
            have q0 := keepc hbel1 HC0.out
            have hown2 := hown1
            go_wp2_with fail
            go_quiet (fail)
            go_wp2_with (at_builtin; go_must (refine wp_appS (by rfl) _ _ 27 (by rfl) HE z.heap.size z.heap.size z _ _ _ _ (by rfl) En.cells (fun _ => rfl) en_one (xs.drop k) b off _ _ HDL.out (by rfl) (HSD _) hown2 (by have := HL.out; have := HDL.out; omega) hbel1.size (drw hbel1 _) (Nat.le_refl _) ?_); intro v2 w2 hown3 hbel3 _ _)
            go_ret
            exact made_of (put_rows HY.out hown3) HWZ.out (HW.out.trans (hbel3.mono HWZ.out)) (by rw [HY.out]; simp; omega)
          · have HSD0 := Lib.hid (hsw1.drop k)
            obtain ⟨d0, d1, d2⟩ := en_at hsw1 k f HFF.out
            have q0 := keepc hbel1 HC0.out
            have hown2 := hown1
            go_wp2_with fail
            go_quiet (fail)
            go_wp2_with (at_builtin; go_must (refine wp_appS (by rfl) _ _ 27 (by rfl) HE z.heap.size z.heap.size z _ _ _ _ (by rfl) En.cells (fun _ => rfl) en_one (xs.drop k) b (off+k*3) _ _ HDL.out (by rfl) (HSD0.out.below (below_dr _ _)) hown2 (by have := HL.out; have := HDL.out; omega) hbel1.size (drw hbel1 _) (Nat.le_refl _) ?_); intro v2 w2 hown3 hbel3 _ _)
            go_ret
            exact made_of (put_rows HY.out hown3) HWZ.out (HW.out.trans (hbel3.mono HWZ.out)) (by rw [HY.out]; simp; omega)
    · obtain rfl : k = n := by omega
      have hnl : ∀ x, xs[k]? = some x → Op.bytesLess (En.bs x) (En.bs ⟨ep, ed, ex⟩) = false := fun x hx => by
        have := (List.getElem?_eq_some_iff.1 hx).1; rw [HN.out] at this; omega
      have hff : xs[k]? = none := List.getElem?_eq_none (by rw [HN.out]; omega)
      have HY : Hid (ys = xs.take k ++ ⟨ep, ed, ex⟩ :: xs.drop k) := by
        rw [Hid, ← hy.out, put_split (f := En.bs) xs ⟨ep, ed, ex⟩ k (by rw [HN.out]; omega) HA.out hnl, hff, if_neg (by simp)]; rfl
      clear hnl hff
      have i4 : (k : Int) ≤ (c : Int) := by omega
      have i0 : (0 : Int) ≤ (k : Int) := by omega
      have dk : decide ((k : Int) < (k : Int)) = false := by simp
      go_wp2_with fail
      go_quiet (fail)
      go_wp2_with (at_builtin; go_must (refine wp_app1 (by rfl) _ _ 27 (by rfl) HE z.heap.size z.heap.size z _ #[.string ep, .bool ed, .string ex] _ _ _ (by rfl) (by rfl) hown (by rfl) (by simp [Value.oneCell']) (by have := HL.out; omega) (drw hb _).size (drw hb _) (Nat.le_refl _) ?_); intro v' w1 hown1 hbel1 _ hg1)
      have hsw1 := HS.out.below hbel1
      have HDL := Lib.hid (drop_len0 (k := k) HN.out)
      by_cases hck : c = k
      · have HSD : ∀ W, SlF En.cells W (some ⟨b, off, none⟩) (xs.drop k) := fun W h => absurd h (by rw [HDL.out]; omega)
        have hown2 := hown1
        go_wp2_with fail
        go_quiet (fail)
        go_wp2_with (at_builtin; go_must (refine wp_appS (by rfl) _ _ 27 (by rfl) HE z.heap.size z.heap.size z _ _ _ _ (by rfl) En.cells (fun _ => rfl) en_one (xs.drop k) b off _ _ HDL.out (by rfl) (HSD _) hown2 (by have := HL.out; have := HDL.out; omega) hbel1.size (drw hbel1 _) (Nat.le_refl _) ?_); intro v2 w2 hown3 hbel3 _ _)
        go_ret
        exact made_of (put_rows HY.out hown3) HWZ.out (HW.out.trans (hbel3.mono HWZ.out)) (by rw [HY.out]; simp; omega)
      · have HSD0 := Lib.hid (hsw1.drop k)
        have hown2 := hown1
        go_wp2_with fail
        go_quiet (fail)
        go_wp2_with (at_builtin; go_must (refine wp_appS (by rfl) _ _ 27 (by rfl) HE z.heap.size z.heap.size z _ _ _ _ (by rfl) En.cells (fun _ => rfl) en_one (xs.drop k) b (off+k*3) _ _ HDL.out (by rfl) (HSD0.out.below (below_dr _ _)) hown2 (by have := HL.out; have := HDL.out; omega) hbel1.size (drw hbel1 _) (Nat.le_refl _) ?_); intro v2 w2 hown3 hbel3 _ _)
        go_ret
        exact made_of (put_rows HY.out hown3) HWZ.out (HW.out.trans (hbel3.mono HWZ.out)) (by rw [HY.out]; simp; omega)
end Go.Proofs.YtnmjidjhloodbaaGreatDoor
namespace Go.Proofs.YtnmjidjhloodbaaGreatDoor
open Go.Op
theorem opOk_p {k : Int} {p r x : Bs} (h : opOkL k p r x = true) : pathOkL p = true := by
  unfold opOkL at h
  simp only [Bool.and_eq_true] at h
  exact h.1
theorem opOk_5 {p r x : Bs} : opOkL 5 p r x = (pathOkL p && (pathOkL r && x == [])) := by simp [opOkL]
theorem opOk_2 {p r x : Bs} : opOkL 2 p r x = (pathOkL p && (r == [] && dataOkL x)) := by simp [opOkL]
theorem opOk_1 {p r x : Bs} : opOkL 1 p r x = (pathOkL p && (r == [] && x == [])) := by simp [opOkL]
theorem opOk_3 {p r x : Bs} : opOkL 3 p r x = (pathOkL p && (r == [] && x == [])) := by simp [opOkL]
theorem opOk_4 {p r x : Bs} : opOkL 4 p r x = (pathOkL p && (r == [] && x == [])) := by simp [opOkL]
theorem opOk_k {k : Int} {p r x : Bs} (h : opOkL k p r x = true) : k = 1 ∨ k = 2 ∨ k = 3 ∨ k = 4 ∨ k = 5 := by
  by_cases h5 : k = 5
  · simp [h5]
  by_cases h2 : k = 2
  · simp [h2]
  by_cases h1 : k = 1 ∨ k = 3 ∨ k = 4
  · rcases h1 with h1 | h1 | h1 <;> simp [h1]
  · exfalso
    unfold opOkL at h
    rw [if_neg h5, if_neg h2, if_neg h1, Bool.and_false] at h
    cases h
theorem upCode_le (t : List PE) (q : Bs) : upCodeL t q = 0 ∨ upCodeL t q = 2 ∨ upCodeL t q = 3 := by
  unfold upCodeL
  split
  · exact .inl rfl
  · split
    · exact .inr (.inl rfl)
    · split
      · exact .inl rfl
      · exact .inr (.inr rfl)
theorem code_ne1 (t : List PE) (k : Int) (p r : Bs) : codeL t k p r ≠ 1 ∧ codeL t k p r ≤ 8 := by
  have key : ∀ q, upCodeL t q ≠ 1 ∧ upCodeL t q ≤ 8 := fun q => by rcases upCode_le t q with h | h | h <;> rw [h] <;> decide
  unfold codeL
  split
  · unfold makeC; split
    · exact key _
    · split
      · decide
      · split <;> decide
  · split
    · unfold putC; split
      · exact key _
      · split
        · split <;> decide
        · split <;> decide
    · split
      · unfold rmC; split
        · decide
        · split <;> decide
      · split
        · unfold rmdirC; split
          · decide
          · split
            · split <;> decide
            · decide
        · unfold moveC; split
          · decide
          · split
            · exact key _
            · split
              · decide
              · split
                · decide
                · split <;> decide
open Classical in
/-- How it ends. -/
noncomputable def tcode (t : List PE) (k : Int) (p r x : Bs) : Nat := if TOk t then (if opOkL k p r x = true then codeL t k p r else 1) else 1
open Classical in
/-- What is told. -/
noncomputable def tdo (t : List PE) (k : Int) (p r x : Bs) : List PE := if TOk t then (if tcode t k p r x = 0 then doL t k p r x else t) else []
section
variable {t : List PE} {k : Int} {p r x : Bs}
theorem tcode_bad (h : ¬ TOk t) : tcode t k p r x = 1 := by unfold tcode; rw [if_neg h]
theorem tdo_bad (h : ¬ TOk t) : tdo t k p r x = [] := by unfold tdo; rw [if_neg h]
theorem tcode_op (h : TOk t) (ho : opOkL k p r x = true) : tcode t k p r x = codeL t k p r := by unfold tcode; rw [if_pos h, if_pos ho]
theorem tcode_no (ho : ¬ opOkL k p r x = true) : tcode t k p r x = 1 := by
  unfold tcode
  rw [if_neg ho]
  split <;> rfl
theorem tdo_same (h : TOk t) (hc : tcode t k p r x ≠ 0) : tdo t k p r x = t := by unfold tdo; rw [if_pos h, if_neg hc]
theorem tcode_0 (hc : tcode t k p r x = 0) : TOk t ∧ opOkL k p r x = true ∧ codeL t k p r = 0 := by
  unfold tcode at hc
  split at hc
  · next h =>
    split at hc
    · next ho => exact ⟨h, ho, hc⟩
    · cases hc
  · cases hc
theorem tdo_do (hc : tcode t k p r x = 0) : tdo t k p r x = doL t k p r x := by
  unfold tdo
  rw [if_pos (tcode_0 hc).1, if_pos hc]
theorem tcode_1 (h : TOk t) : tcode t k p r x = 1 ↔ opOkL k p r x = false := by
  unfold tcode
  rw [if_pos h]
  by_cases ho : opOkL k p r x = true
  · rw [if_pos ho]
    constructor
    · intro h; exact absurd h (code_ne1 t k p r).1
    · intro h; rw [ho] at h; cases h
  · rw [if_neg ho]; simpa using ho
theorem doL_1 : doL t 1 p r x = putP PE.p t ⟨p, true, x⟩ := by simp [doL]
theorem doL_2 : doL t 2 p r x = putP PE.p t ⟨p, false, x⟩ := by simp [doL]
theorem doL_3 : doL t 3 p r x = t.filter fun e => !(e.p == p) := by simp [doL]
theorem doL_4 : doL t 4 p r x = t.filter fun e => !(e.p == p) := by simp [doL]
theorem doL_5 : doL t 5 p r x = mvL t p r := by simp [doL]
theorem code_1 : codeL t 1 p r = makeC t p := by simp [codeL]
theorem code_2 : codeL t 2 p r = putC t p := by simp [codeL]
theorem code_3 : codeL t 3 p r = rmC t p := by simp [codeL]
theorem code_4 : codeL t 4 p r = rmdirC t p := by simp [codeL]
theorem code_5 : codeL t 5 p r = moveC t p r := by simp [codeL]
/-- What is done to a right tree leaves it a right tree. -/
theorem do_tok (h : TOk t) (ho : opOkL k p r x = true) (hc : codeL t k p r = 0) : TOk (doL t k p r x) := by
  have hp := opOk_p ho
  rcases opOk_k ho with rfl | rfl | rfl | rfl | rfl
  · rw [opOk_1] at ho
    simp only [Bool.and_eq_true, beq_iff_eq] at ho
    obtain ⟨_, _, rfl⟩ := ho
    rw [code_1] at hc
    obtain ⟨h1, h2, h3⟩ := makeC_0 hc
    rw [doL_1]
    exact tok_put h hp (by decide) (fun _ => rfl) h1 (.inr ⟨h2, h3⟩)
  · rw [opOk_2] at ho
    simp only [Bool.and_eq_true, beq_iff_eq] at ho
    rw [code_2] at hc
    obtain ⟨h1, h2⟩ := putC_0 hc
    rw [doL_2]
    exact tok_put h hp ho.2.2 (fun h => by cases h) h1 h2
  · rw [code_3] at hc
    obtain ⟨e, h1, h2⟩ := rmC_0 hc
    rw [doL_3]
    exact tok_off h fun _ _ => .inr ⟨e, h1, h2⟩
  · rw [code_4] at hc
    obtain ⟨e, h1, h2, h3⟩ := rmdirC_0 hc
    rw [doL_4]
    refine tok_off h fun f hf => .inl fun hu => ?_
    have := h3 f hf
    rw [← hu, up_under (h.pth hf)] at this; cases this
  · rw [opOk_5] at ho
    simp only [Bool.and_eq_true, beq_iff_eq] at ho
    rw [code_5] at hc
    rw [doL_5]
    exact (mv_of h hp ho.2.1 hc).tok'
theorem tdo_tok (h : TOk t) : TOk (tdo t k p r x) := by
  by_cases hc : tcode t k p r x = 0
  · rw [tdo_do hc]; exact do_tok (tcode_0 hc).1 (tcode_0 hc).2.1 (tcode_0 hc).2.2
  · rw [tdo_same h hc]; exact h
/-- What the program has before it sorts is what is told. -/
theorem do_of_raw (h : TOk t) (ho : opOkL k p r x = true) (hc : codeL t k p r = 0) : DisP PE.p (rawL t k p r x) ∧ ∀ {s : List PE}, s.Perm (rawL t k p r x) → (s.Pairwise fun a b => bytesLess b.p a.p = false) → s = doL t k p r x := by
  have hp := opOk_p ho
  have off : OrdP PE.p (t.filter fun e => !(e.p == p)) := h.ordP.filter _
  rcases opOk_k ho with rfl | rfl | rfl | rfl | rfl
  · have hd : DisP PE.p (rawL t 1 p r x) := by
      have e : rawL t 1 p r x = (t.filter fun e => !(e.p == p)) ++ [⟨p, true, x⟩] := by simp [rawL]
      rw [e]
      unfold DisP
      rw [List.pairwise_append]
      refine ⟨off.dis, by simp, fun a ha b hb => ?_⟩
      rw [List.mem_singleton] at hb; subst hb
      have := (List.mem_filter.1 ha).2
      simpa using this
    refine ⟨hd, fun {s} h1 h2 => ?_⟩
    rw [doL_1]
    refine ord_ext (ord_of_sorted h1 hd h2) (ord_putP h.ordP _) fun e => ?_
    rw [h1.mem_iff, mem_putP h.ordP, show rawL t 1 p r x = (t.filter fun e => !(e.p == p)) ++ [⟨p, true, x⟩] by simp [rawL], List.mem_append, List.mem_filter, List.mem_singleton]
    simp only [Bool.not_eq_true', beq_eq_false_iff_ne]
    exact or_comm
  · have hd : DisP PE.p (rawL t 2 p r x) := by
      have e : rawL t 2 p r x = (t.filter fun e => !(e.p == p)) ++ [⟨p, false, x⟩] := by simp [rawL]
      rw [e]
      unfold DisP
      rw [List.pairwise_append]
      refine ⟨off.dis, by simp, fun a ha b hb => ?_⟩
      rw [List.mem_singleton] at hb; subst hb
      have := (List.mem_filter.1 ha).2
      simpa using this
    refine ⟨hd, fun {s} h1 h2 => ?_⟩
    rw [doL_2]
    refine ord_ext (ord_of_sorted h1 hd h2) (ord_putP h.ordP _) fun e => ?_
    rw [h1.mem_iff, mem_putP h.ordP, show rawL t 2 p r x = (t.filter fun e => !(e.p == p)) ++ [⟨p, false, x⟩] by simp [rawL], List.mem_append, List.mem_filter, List.mem_singleton]
    simp only [Bool.not_eq_true', beq_eq_false_iff_ne]
    exact or_comm
  · have e : rawL t 3 p r x = t.filter fun e => !(e.p == p) := by simp [rawL]
    rw [e, doL_3]
    refine ⟨off.dis, fun {s} h1 h2 => ?_⟩
    exact ord_ext (ord_of_sorted h1 off.dis h2) off fun e => h1.mem_iff
  · have e : rawL t 4 p r x = t.filter fun e => !(e.p == p) := by simp [rawL]
    rw [e, doL_4]
    refine ⟨off.dis, fun {s} h1 h2 => ?_⟩
    exact ord_ext (ord_of_sorted h1 off.dis h2) off fun e => h1.mem_iff
  · rw [opOk_5] at ho
    simp only [Bool.and_eq_true, beq_iff_eq] at ho
    rw [code_5] at hc
    have m := mv_of h hp ho.2.1 hc
    have e : rawL t 5 p r x = t.map (movedE p r) := by simp [rawL]
    rw [e, doL_5]
    exact ⟨m.dis, fun {s} h1 h2 => fold_of_perm h1 m.dis h2⟩
/-! Lookups in what is told. -/
theorem at_off (h : TOk t) (q : Bs) : atP PE.p (t.filter fun e => !(e.p == p)) q = if p = q then none else atP PE.p t q := by
  refine opt_ext fun e => ?_
  rw [atP_filter h.ordP]
  by_cases hq : p = q
  · rw [if_pos hq]
    constructor
    · rintro ⟨h1, h2⟩
      have := (atP_some h1).2
      simp [this, hq] at h2
    · intro h; cases h
  · rw [if_neg hq]
    constructor
    · exact fun h => h.1
    · intro h1
      refine ⟨h1, ?_⟩
      have := (atP_some h1).2
      simp [this, Ne.symm hq]
theorem turned_one {a b : List PE} (ha : OrdP PE.p a) (hb : OrdP PE.p b) {p : Bs} (h1 : atP PE.p a p ≠ atP PE.p b p) (h2 : ∀ q, p ≠ q → atP PE.p a q = atP PE.p b q) : turnedL a b = [p] := by
  refine ord_ext (ord_turned ha) (by simp [OrdP]) fun s => ?_
  rw [mem_turned ha hb, List.mem_singleton]
  constructor
  · intro h
    exact Classical.byContradiction fun hs => h (h2 s (Ne.symm hs))
  · rintro rfl; exact h1
end
end Go.Proofs.YtnmjidjhloodbaaGreatDoor
namespace Go.Proofs.YtnmjidjhloodbaaGreatDoor
open Go.RowKit
theorem anyE_at {xs : List En} {P : PE → Bool} (k : Nat) (e : En) (he : xs[k]? = some e) (h : P e.pl = true) : (xs.map En.pl).any P = true := List.any_eq_true.2 ⟨e.pl, List.mem_map.2 ⟨e, List.mem_of_getElem? he, rfl⟩, h⟩
theorem anyE_no {xs : List En} {P : PE → Bool} (h : ∀ (j : Nat) (f : En), xs[j]? = some f → P f.pl = false) : (xs.map En.pl).any P = false := by
  rw [List.any_eq_false]
  intro x hx
  obtain ⟨f, hf, rfl⟩ := List.mem_map.1 hx
  obtain ⟨j, hj⟩ := List.getElem?_of_mem hf
  rw [h j f hj]; simp
set_option maxHeartbeats 4000000 in
theorem rmdirCode_c (a : Option Addr) (c : Nat) (xs : List En) (k : Int) (p t d : ByteArray) (m : Nat) (hm : Hid (rmdirC (xs.map En.pl) p.data.toList = m)) (w : World) (hs : SlF En.cells w a xs) (hx : xs.length ≤ maxLen) (hp : p.size ≤ 2000000) (hzs : ∀ e ∈ xs, e.p.size ≤ 2000000 ∧ e.x.size ≤ 2000000) :
    Calls Tryz.prog 60 #[.slice a xs.length c, opV k p t d] w fun r w' => r = .returned (.int .i64 m) ∧ Below w.heap.size w w' := by
  have HZ := Lib.hid hzs
  clear hzs
  have c0 := new_cell w (opBox k p t d) 31 0 _ rfl
  have c1 := new_cell w (opBox k p t d) 31 1 _ rfl
  have c2 := new_cell w (opBox k p t d) 31 2 _ rfl
  have c3 := new_cell w (opBox k p t d) 31 3 _ rfl
  have hb := bellow_alloc w (.cells (opBox k p t d) 31)
  have HS := Lib.hid hs
  have HE := Lib.hid (fun (q : ByteArray) (o' : Option En) (ho' : Hid (getE xs q = o')) W (h : SlF En.cells W a xs) => entAt_c a c xs q o' ho' W h hx)
  have HU := Lib.hid (fun (q : ByteArray) (m' : Nat) (hm' : Hid (upCodeL (xs.map En.pl) q.data.toList = m')) W (h : SlF En.cells W a xs) (hq : q.size ≤ maxLen) => upCode_c a c xs q m' hm' W h hx hq)
  obtain ⟨n, hn⟩ : ∃ n, xs.length = n := ⟨_, rfl⟩
  have HN := Lib.hid hn
  rw [hn] at HE HU hx ⊢
  clear hn hs
  obtain ⟨o, ho⟩ : ∃ o, getE xs p = o := ⟨_, rfl⟩
  have HM : Hid (m = rmdirO o ((xs.map En.pl).any fun e => underL e.p p.data.toList)) := by
    rw [Hid, ← hm.out, rmdirC, getE_pl, ho]
    clear ho
    cases o <;> rfl
  have HO := Lib.hid ho
  clear ho hm HU
  cases o with
  | none =>
    obtain rfl : m = 2 := HM.out
    go_enter Tryz.func60, Tryz.ntmps60
    go_wp2_with fail
    refine (HE.out p _ HO _ (HS.out.below hb)).mono ?_; rintro e W ⟨rfl, hq⟩; replace hb := chn hb hq; replace c0 := keepc hq c0; replace c1 := keepc hq c1; replace c2 := keepc hq c2; replace c3 := keepc hq c3; clear hq
    go_wp2
    go_ret
    exact ⟨rfl, by repeat (first | exact hb | refine Below.alloc ?_ (by have := hb.size; simp; try omega) _)⟩
  | some e =>
    obtain ⟨ep, ed, ex⟩ := e
    cases ed with
    | false =>
      obtain rfl : m = 3 := HM.out
      go_enter Tryz.func60, Tryz.ntmps60
      go_wp2_with fail
      refine (HE.out p _ HO _ (HS.out.below hb)).mono ?_; rintro e W ⟨rfl, hq⟩; replace hb := chn hb hq; replace c0 := keepc hq c0; replace c1 := keepc hq c1; replace c2 := keepc hq c2; replace c3 := keepc hq c3; clear hq
      go_wp2
      go_ret
      exact ⟨rfl, by repeat (first | exact hb | refine Below.alloc ?_ (by have := hb.size; simp; try omega) _)⟩
    | true =>
      obtain ⟨r, hr⟩ : ∃ r, ((xs.map En.pl).any fun e => underL e.p p.data.toList) = r := ⟨_, rfl⟩
      have HR := Lib.hid hr
      have HM2 : Hid (m = if r = true then 6 else 0) := by rw [Hid, HM.out, hr]; rfl
      clear hr HM
      go_enter Tryz.func60, Tryz.ntmps60
      go_wp2_with fail
      refine (HE.out p _ HO _ (HS.out.below hb)).mono ?_; rintro e W ⟨rfl, hq⟩; replace hb := chn hb hq; replace c0 := keepc hq c0; replace c1 := keepc hq c1; replace c2 := keepc hq c2; replace c3 := keepc hq c3; clear hq
      replace hb := hb.alloc hb.size (.cells #[.string ep, .bool true, .string ex] 52); replace c0 := keepc (bellow_alloc _ (.cells #[.string ep, .bool true, .string ex] 52)) c0; replace c1 := keepc (bellow_alloc _ (.cells #[.string ep, .bool true, .string ex] 52)) c1; replace c2 := keepc (bellow_alloc _ (.cells #[.string ep, .bool true, .string ex] 52)) c2; replace c3 := keepc (bellow_alloc _ (.cells #[.string ep, .bool true, .string ex] 52)) c3; 
      obtain ⟨z, hz⟩ : ∃ z, W.alloc (.cells #[.string ep, .bool true, .string ex] 52) = z := ⟨_, rfl⟩
      have HBZ := Lib.hid (hz ▸ hb : Below w.heap.size w z)
      have C0 := Lib.hid (hz ▸ c0 : z.cell? ⟨w.heap.size, 0, none⟩ = _)
      have C1 := Lib.hid (hz ▸ c1 : z.cell? ⟨w.heap.size, 1, none⟩ = _)
      have C2 := Lib.hid (hz ▸ c2 : z.cell? ⟨w.heap.size, 2, none⟩ = _)
      have HSZ := Lib.hid (HS.out.below HBZ.out)
      have HZR := Lib.hid (hz ▸ Below.refl z.heap.size z : Below z.heap.size z (W.alloc (.cells #[.string ep, .bool true, .string ex] 52)))
      clear hz
      have hxu := hx
      unfold maxLen at hxu
      go_wp2
      go_loopw [8, 23] (fun _ i wr => ∃ j : Nat, j ≤ n ∧ i = .int .i64 j ∧ (∀ (i : Nat) (f : En), i < j → xs[i]? = some f → underL f.p.data.toList p.data.toList = false) ∧ Below z.heap.size z wr) (fun _ i _ => n - (intOf i).toNat)
      case atStart => exact ⟨0, Nat.zero_le _, rfl, fun i f h => absurd h (by omega), HZR.out⟩
      case round =>
        clear hb
        obtain ⟨j, hj, rfl, hall, hb⟩ := hrel
        have HA := Lib.hid hall
        clear hall
        by_cases hlt : j < n
        · skip
          obtain ⟨e, hee⟩ : ∃ e, xs[j]? = some e := ⟨_, List.getElem?_eq_getElem (by rw [HN.out]; exact hlt)⟩
          have hzz := HZ.out e (List.mem_of_getElem? hee)
          have h2 := HSZ.out.below hb
          obtain ⟨b, off, rfl, _⟩ := h2.addr (by rw [HN.out]; omega)
          obtain ⟨d0, d1, d2⟩ := en_at h2 j e hee
          have i0 : (0 : Int) ≤ (j : Int) := by omega
          have i1 : (j : Int) < (n : Int) := by omega
          have c0 := keepc (bellow_alloc wr (.cells #[.string e.p, .bool e.d, .string e.x] 52)) (keepc hb C0.out)
          have c1 := keepc (bellow_alloc wr (.cells #[.string e.p, .bool e.d, .string e.x] 52)) (keepc hb C1.out)
          have c2 := keepc (bellow_alloc wr (.cells #[.string e.p, .bool e.d, .string e.x] 52)) (keepc hb C2.out)
          have q0 := new_cell wr #[.string e.p, .bool e.d, .string e.x] 52 0 (.string e.p) rfl
          replace hb := hb.alloc hb.size (.cells #[.string e.p, .bool e.d, .string e.x] 52)
          obtain ⟨u, hu⟩ : ∃ u, underL e.p.data.toList p.data.toList = u := ⟨_, rfl⟩
          have HU := Lib.hid hu
          have HYES : Hid (u = true → r = true) := fun h => by rw [← HR.out]; exact anyE_at j e hee (hu.trans h)
          have HNO : Hid (u = false → ∀ (i : Nat) (f : En), i < j + 1 → xs[i]? = some f → underL f.p.data.toList p.data.toList = false) := fun h i f hi hf => by
            by_cases ej : i = j
            · subst ej; rw [hee] at hf; injection hf with hf; rw [← hf]; exact hu.trans h
            · exact HA.out i f (by omega) hf
          obtain ⟨fp, fd, fx⟩ := e
          clear hu hee h2
          go_wp2_with fail
          refine (pathUnder_c fp p u HU _ hzz.1 hp).mono ?_; rintro e W ⟨rfl, hq⟩; replace hb := chn hb hq; replace c0 := keepc hq c0; replace c1 := keepc hq c1; replace c2 := keepc hq c2; clear hq
          cases u with
          | true =>
            obtain rfl : r = true := HYES.out (by simp)
            obtain rfl : m = 6 := HM2.out
            go_wp2
            go_ret
            exact ⟨rfl, HBZ.out.trans (hb.mono HBZ.out.size)⟩
          | false =>
            go_wp2
            go_roundw
            case rel => exact ⟨j + 1, by omega, by go_num, HNO.out (by simp), hb⟩
            case measure => simp [intOf]; omega
        · obtain rfl : r = false := by
            rw [← HR.out]
            exact anyE_no (P := fun e => underL e.p p.data.toList) (fun i f hf => HA.out i f (by have := (List.getElem?_eq_some_iff.1 hf).1; rw [HN.out] at this; omega) hf)
          obtain rfl : m = 0 := HM2.out
          go_wp2
          go_ret
          exact ⟨rfl, HBZ.out.trans (hb.mono HBZ.out.size)⟩
set_option maxHeartbeats 8000000 in
theorem moveCode_c (a : Option Addr) (c : Nat) (xs : List En) (k : Int) (p t d : ByteArray) (m : Nat) (hm : Hid (moveC (xs.map En.pl) p.data.toList t.data.toList = m)) (w : World) (hs : SlF En.cells w a xs) (hx : xs.length ≤ maxLen) (hp : p.size ≤ 2000000) (ht : t.size ≤ 2000000) (hzs : ∀ e ∈ xs, e.p.size ≤ 2000000 ∧ e.x.size ≤ 2000000) :
    Calls Tryz.prog 61 #[.slice a xs.length c, opV k p t d] w fun r w' => r = .returned (.int .i64 m) ∧ Below w.heap.size w w' := by
  have HZ := Lib.hid hzs
  have htm : t.size ≤ maxLen := by unfold maxLen; omega
  clear hzs
  have c0 := new_cell w (opBox k p t d) 31 0 _ rfl
  have c1 := new_cell w (opBox k p t d) 31 1 _ rfl
  have c2 := new_cell w (opBox k p t d) 31 2 _ rfl
  have c3 := new_cell w (opBox k p t d) 31 3 _ rfl
  have hb := bellow_alloc w (.cells (opBox k p t d) 31)
  have HS := Lib.hid hs
  have HE := Lib.hid (fun (q : ByteArray) (o' : Option En) (ho' : Hid (getE xs q = o')) W (h : SlF En.cells W a xs) => entAt_c a c xs q o' ho' W h hx)
  have HU := Lib.hid (fun (q : ByteArray) (m' : Nat) (hm' : Hid (upCodeL (xs.map En.pl) q.data.toList = m')) W (h : SlF En.cells W a xs) (hq : q.size ≤ maxLen) => upCode_c a c xs q m' hm' W h hx hq)
  obtain ⟨n, hn⟩ : ∃ n, xs.length = n := ⟨_, rfl⟩
  have HN := Lib.hid hn
  rw [hn] at HE HU hx ⊢
  clear hn hs
  obtain ⟨o, ho⟩ : ∃ o, getE xs p = o := ⟨_, rfl⟩
  obtain ⟨o2, ho2⟩ : ∃ o, getE xs t = o := ⟨_, rfl⟩
  obtain ⟨u, hu⟩ : ∃ u, upCodeL (xs.map En.pl) t.data.toList = u := ⟨_, rfl⟩
  obtain ⟨v, hv⟩ : ∃ v, underL t.data.toList p.data.toList = v := ⟨_, rfl⟩
  obtain ⟨r, hr⟩ : ∃ r, ((xs.map En.pl).any fun e => !moveOkL e.p p.data.toList t.data.toList) = r := ⟨_, rfl⟩
  have HM : Hid (m = if o = none then 2 else if u ≠ 0 then u else if o2.isSome = true then 4 else if v = true then 7 else if r = true then 8 else 0) := by
    rw [Hid, ← hm.out, moveC, getE_pl, getE_pl, ho, ho2, hu, hv, Option.isSome_map, ← hr]
    have e1 : (Option.map En.pl o = none) = (o = none) := by cases o <;> simp
    have e2 : ((xs.map En.pl).all fun e => moveOkL e.p p.data.toList t.data.toList) = !((xs.map En.pl).any fun e => !moveOkL e.p p.data.toList t.data.toList) := by simp [List.any_eq_not_all_not]
    rw [e2]
    simp only [e1]
    cases ((xs.map En.pl).any fun e => !moveOkL e.p p.data.toList t.data.toList) <;> rfl
  have HO := Lib.hid ho
  have HO2 := Lib.hid ho2
  have HUU := Lib.hid hu
  have HV := Lib.hid hv
  have HR := Lib.hid hr
  clear ho ho2 hu hv hr hm
  cases o with
  | none =>
    obtain rfl : m = 2 := HM.out
    go_enter Tryz.func61, Tryz.ntmps61
    go_wp2_with fail
    refine (HE.out p _ HO _ (HS.out.below hb)).mono ?_; rintro e W ⟨rfl, hq⟩; replace hb := chn hb hq; replace c0 := keepc hq c0; replace c1 := keepc hq c1; replace c2 := keepc hq c2; replace c3 := keepc hq c3; clear hq
    go_wp2
    go_ret
    exact ⟨rfl, by repeat (first | exact hb | refine Below.alloc ?_ (by have := hb.size; simp; try omega) _)⟩
  | some e =>
  obtain ⟨ep, ed, ex⟩ := e
  by_cases h0 : u = 0
  · subst h0
    cases o2 with
    | some e2 =>
      obtain ⟨ep2, ed2, ex2⟩ := e2
      obtain rfl : m = 4 := HM.out
      go_enter Tryz.func61, Tryz.ntmps61
      go_wp2_with fail
      refine (HE.out p _ HO _ (HS.out.below hb)).mono ?_; rintro e W ⟨rfl, hq⟩; replace hb := chn hb hq; replace c0 := keepc hq c0; replace c1 := keepc hq c1; replace c2 := keepc hq c2; replace c3 := keepc hq c3; clear hq
      replace hb := hb.alloc hb.size (.cells #[.string ep, .bool ed, .string ex] 52); replace c0 := keepc (bellow_alloc _ (.cells #[.string ep, .bool ed, .string ex] 52)) c0; replace c1 := keepc (bellow_alloc _ (.cells #[.string ep, .bool ed, .string ex] 52)) c1; replace c2 := keepc (bellow_alloc _ (.cells #[.string ep, .bool ed, .string ex] 52)) c2; replace c3 := keepc (bellow_alloc _ (.cells #[.string ep, .bool ed, .string ex] 52)) c3; 
      go_wp2_with fail
      refine (HU.out t 0 HUU _ (HS.out.below hb) htm).mono ?_; rintro e W ⟨rfl, hq⟩; replace hb := chn hb hq; replace c0 := keepc hq c0; replace c1 := keepc hq c1; replace c2 := keepc hq c2; replace c3 := keepc hq c3; clear hq
      go_wp2_with fail
      refine (HE.out t _ HO2 _ (HS.out.below hb)).mono ?_; rintro e W ⟨rfl, hq⟩; replace hb := chn hb hq; replace c0 := keepc hq c0; replace c1 := keepc hq c1; replace c2 := keepc hq c2; replace c3 := keepc hq c3; clear hq
      go_wp2
      go_ret
      exact ⟨rfl, by repeat (first | exact hb | refine Below.alloc ?_ (by have := hb.size; simp; try omega) _)⟩
    | none =>
      cases v with
      | true =>
        obtain rfl : m = 7 := HM.out
        go_enter Tryz.func61, Tryz.ntmps61
        go_wp2_with fail
        refine (HE.out p _ HO _ (HS.out.below hb)).mono ?_; rintro e W ⟨rfl, hq⟩; replace hb := chn hb hq; replace c0 := keepc hq c0; replace c1 := keepc hq c1; replace c2 := keepc hq c2; replace c3 := keepc hq c3; clear hq
        replace hb := hb.alloc hb.size (.cells #[.string ep, .bool ed, .string ex] 52); replace c0 := keepc (bellow_alloc _ (.cells #[.string ep, .bool ed, .string ex] 52)) c0; replace c1 := keepc (bellow_alloc _ (.cells #[.string ep, .bool ed, .string ex] 52)) c1; replace c2 := keepc (bellow_alloc _ (.cells #[.string ep, .bool ed, .string ex] 52)) c2; replace c3 := keepc (bellow_alloc _ (.cells #[.string ep, .bool ed, .string ex] 52)) c3; 
        go_wp2_with fail
        refine (HU.out t 0 HUU _ (HS.out.below hb) htm).mono ?_; rintro e W ⟨rfl, hq⟩; replace hb := chn hb hq; replace c0 := keepc hq c0; replace c1 := keepc hq c1; replace c2 := keepc hq c2; replace c3 := keepc hq c3; clear hq
        go_wp2_with fail
        refine (HE.out t _ HO2 _ (HS.out.below hb)).mono ?_; rintro e W ⟨rfl, hq⟩; replace hb := chn hb hq; replace c0 := keepc hq c0; replace c1 := keepc hq c1; replace c2 := keepc hq c2; replace c3 := keepc hq c3; clear hq
        replace hb := hb.alloc hb.size (.cells #[.string ⟨#[]⟩, .bool false, .string ⟨#[]⟩] 52); replace c0 := keepc (bellow_alloc _ (.cells #[.string ⟨#[]⟩, .bool false, .string ⟨#[]⟩] 52)) c0; replace c1 := keepc (bellow_alloc _ (.cells #[.string ⟨#[]⟩, .bool false, .string ⟨#[]⟩] 52)) c1; replace c2 := keepc (bellow_alloc _ (.cells #[.string ⟨#[]⟩, .bool false, .string ⟨#[]⟩] 52)) c2; replace c3 := keepc (bellow_alloc _ (.cells #[.string ⟨#[]⟩, .bool false, .string ⟨#[]⟩] 52)) c3; 
        go_wp2_with fail
        refine (pathUnder_c t p true HV _ ht hp).mono ?_; rintro e W ⟨rfl, hq⟩; replace hb := chn hb hq; replace c0 := keepc hq c0; replace c1 := keepc hq c1; replace c2 := keepc hq c2; replace c3 := keepc hq c3; clear hq
        go_wp2
        go_ret
        exact ⟨rfl, by repeat (first | exact hb | refine Below.alloc ?_ (by have := hb.size; simp; try omega) _)⟩
      | false =>
        have HM2 : Hid (m = if r = true then 8 else 0) := HM.out
        clear HM
        go_enter Tryz.func61, Tryz.ntmps61
        go_wp2_with fail
        refine (HE.out p _ HO _ (HS.out.below hb)).mono ?_; rintro e W ⟨rfl, hq⟩; replace hb := chn hb hq; replace c0 := keepc hq c0; replace c1 := keepc hq c1; replace c2 := keepc hq c2; replace c3 := keepc hq c3; clear hq
        replace hb := hb.alloc hb.size (.cells #[.string ep, .bool ed, .string ex] 52); replace c0 := keepc (bellow_alloc _ (.cells #[.string ep, .bool ed, .string ex] 52)) c0; replace c1 := keepc (bellow_alloc _ (.cells #[.string ep, .bool ed, .string ex] 52)) c1; replace c2 := keepc (bellow_alloc _ (.cells #[.string ep, .bool ed, .string ex] 52)) c2; replace c3 := keepc (bellow_alloc _ (.cells #[.string ep, .bool ed, .string ex] 52)) c3; 
        go_wp2_with fail
        refine (HU.out t 0 HUU _ (HS.out.below hb) htm).mono ?_; rintro e W ⟨rfl, hq⟩; replace hb := chn hb hq; replace c0 := keepc hq c0; replace c1 := keepc hq c1; replace c2 := keepc hq c2; replace c3 := keepc hq c3; clear hq
        go_wp2_with fail
        refine (HE.out t _ HO2 _ (HS.out.below hb)).mono ?_; rintro e W ⟨rfl, hq⟩; replace hb := chn hb hq; replace c0 := keepc hq c0; replace c1 := keepc hq c1; replace c2 := keepc hq c2; replace c3 := keepc hq c3; clear hq
        replace hb := hb.alloc hb.size (.cells #[.string ⟨#[]⟩, .bool false, .string ⟨#[]⟩] 52); replace c0 := keepc (bellow_alloc _ (.cells #[.string ⟨#[]⟩, .bool false, .string ⟨#[]⟩] 52)) c0; replace c1 := keepc (bellow_alloc _ (.cells #[.string ⟨#[]⟩, .bool false, .string ⟨#[]⟩] 52)) c1; replace c2 := keepc (bellow_alloc _ (.cells #[.string ⟨#[]⟩, .bool false, .string ⟨#[]⟩] 52)) c2; replace c3 := keepc (bellow_alloc _ (.cells #[.string ⟨#[]⟩, .bool false, .string ⟨#[]⟩] 52)) c3; 
        go_wp2_with fail
        refine (pathUnder_c t p false HV _ ht hp).mono ?_; rintro e z ⟨rfl, hq⟩; replace hb := chn hb hq
        have C0 := Lib.hid (keepc hq c0)
        have C1 := Lib.hid (keepc hq c1)
        have C2 := Lib.hid (keepc hq c2)
        have HBZ := Lib.hid hb
        have HSZ := Lib.hid (HS.out.below hb)
        clear hq c0 c1 c2 c3 hb
        have hxu := hx
        unfold maxLen at hxu
        go_wp2
        go_loopw [11, 45] (fun _ i wr => ∃ j : Nat, j ≤ n ∧ i = .int .i64 j ∧ (∀ (i : Nat) (f : En), i < j → xs[i]? = some f → moveOkL f.p.data.toList p.data.toList t.data.toList = true) ∧ Below z.heap.size z wr) (fun _ i _ => n - (intOf i).toNat)
        case atStart => exact ⟨0, Nat.zero_le _, rfl, fun i f h => absurd h (by omega), Below.refl _ _⟩
        case round =>
          obtain ⟨j, hj, rfl, hall, hb⟩ := hrel
          have HA := Lib.hid hall
          clear hall
          by_cases hlt : j < n
          · skip
            obtain ⟨e, hee⟩ : ∃ e, xs[j]? = some e := ⟨_, List.getElem?_eq_getElem (by rw [HN.out]; exact hlt)⟩
            have hzz := HZ.out e (List.mem_of_getElem? hee)
            have h2 := HSZ.out.below hb
            obtain ⟨b, off, rfl, _⟩ := h2.addr (by rw [HN.out]; omega)
            obtain ⟨d0, d1, d2⟩ := en_at h2 j e hee
            have i0 : (0 : Int) ≤ (j : Int) := by omega
            have i1 : (j : Int) < (n : Int) := by omega
            have c0 := keepc (bellow_alloc wr (.cells #[.string e.p, .bool e.d, .string e.x] 52)) (keepc hb C0.out)
            have c1 := keepc (bellow_alloc wr (.cells #[.string e.p, .bool e.d, .string e.x] 52)) (keepc hb C1.out)
            have c2 := keepc (bellow_alloc wr (.cells #[.string e.p, .bool e.d, .string e.x] 52)) (keepc hb C2.out)
            have q0 := new_cell wr #[.string e.p, .bool e.d, .string e.x] 52 0 (.string e.p) rfl
            replace hb := hb.alloc hb.size (.cells #[.string e.p, .bool e.d, .string e.x] 52)
            obtain ⟨u, hu⟩ : ∃ u, moveOkL e.p.data.toList p.data.toList t.data.toList = u := ⟨_, rfl⟩
            have HU2 := Lib.hid hu
            obtain ⟨mv, hmv⟩ : ∃ mv : ByteArray, moveL e.p.data.toList p.data.toList t.data.toList = mv.data.toList := ⟨⟨(moveL e.p.data.toList p.data.toList t.data.toList).toArray⟩, by simp⟩
            have HMV := Lib.hid hmv
            have HYES : Hid (u = false → r = true) := fun h => by rw [← HR.out]; exact anyE_at (P := fun e => !moveOkL e.p p.data.toList t.data.toList) j e hee (by show (!moveOkL e.p.data.toList p.data.toList t.data.toList) = true; rw [hu, h]; rfl)
            have HNO : Hid (u = true → ∀ (i : Nat) (f : En), i < j + 1 → xs[i]? = some f → moveOkL f.p.data.toList p.data.toList t.data.toList = true) := fun h i f hi hf => by
              by_cases ej : i = j
              · subst ej; rw [hee] at hf; injection hf with hf; rw [← hf]; exact hu.trans h
              · exact HA.out i f (by omega) hf
            obtain ⟨fp, fd, fx⟩ := e
            clear hu hee h2 hmv
            go_wp2_with fail
            refine (pathMove_c fp p t mv u HMV HU2 _ hzz.1 hp ht).mono ?_; rintro e W ⟨rfl, hq⟩; replace hb := chn hb hq; replace c0 := keepc hq c0; replace c1 := keepc hq c1; replace c2 := keepc hq c2; clear hq
            cases u with
            | false =>
              obtain rfl : r = true := HYES.out (by simp)
              obtain rfl : m = 8 := HM2.out
              go_wp2
              go_ret
              exact ⟨rfl, HBZ.out.trans (hb.mono HBZ.out.size)⟩
            | true =>
              go_wp2
              go_roundw
              case rel => exact ⟨j + 1, by omega, by go_num, HNO.out (by simp), hb⟩
              case measure => simp [intOf]; omega
          · obtain rfl : r = false := by
              rw [← HR.out]
              exact anyE_no (P := fun e => !moveOkL e.p p.data.toList t.data.toList) (fun i f hf => by
                show (!moveOkL f.p.data.toList p.data.toList t.data.toList) = false
                rw [HA.out i f (by have := (List.getElem?_eq_some_iff.1 hf).1; rw [HN.out] at this; omega) hf]; rfl)
            obtain rfl : m = 0 := HM2.out
            go_wp2
            go_ret
            exact ⟨rfl, HBZ.out.trans (hb.mono HBZ.out.size)⟩
  · obtain rfl : m = u := by rw [HM.out, if_neg (by simp), if_pos h0]
    have hne : ((m : Int) != 0) = true := by rw [bne_iff_ne]; omega
    go_enter Tryz.func61, Tryz.ntmps61
    go_wp2_with fail
    refine (HE.out p _ HO _ (HS.out.below hb)).mono ?_; rintro e W ⟨rfl, hq⟩; replace hb := chn hb hq; replace c0 := keepc hq c0; replace c1 := keepc hq c1; replace c2 := keepc hq c2; replace c3 := keepc hq c3; clear hq
    replace hb := hb.alloc hb.size (.cells #[.string ep, .bool ed, .string ex] 52); replace c0 := keepc (bellow_alloc _ (.cells #[.string ep, .bool ed, .string ex] 52)) c0; replace c1 := keepc (bellow_alloc _ (.cells #[.string ep, .bool ed, .string ex] 52)) c1; replace c2 := keepc (bellow_alloc _ (.cells #[.string ep, .bool ed, .string ex] 52)) c2; replace c3 := keepc (bellow_alloc _ (.cells #[.string ep, .bool ed, .string ex] 52)) c3; 
    go_wp2_with fail
    refine (HU.out t m HUU _ (HS.out.below hb) htm).mono ?_; rintro e W ⟨rfl, hq⟩; replace hb := chn hb hq; replace c0 := keepc hq c0; replace c1 := keepc hq c1; replace c2 := keepc hq c2; replace c3 := keepc hq c3; clear hq
    go_wp2
    go_ret
    exact ⟨rfl, by repeat (first | exact hb | refine Below.alloc ?_ (by have := hb.size; simp; try omega) _)⟩
set_option maxHeartbeats 4000000 in
theorem opCode_c (a : Option Addr) (c : Nat) (xs : List En) (k : Int) (p t d : ByteArray) (m : Nat) (hm : Hid ((if opOkL k p.data.toList t.data.toList d.data.toList = true then codeL (xs.map En.pl) k p.data.toList t.data.toList else 1) = m)) (w : World) (hs : SlF En.cells w a xs) (hx : xs.length ≤ maxLen) (hp : p.size ≤ 2000000) (ht : t.size ≤ 2000000) (hd : d.size ≤ 2000000) (hzs : ∀ e ∈ xs, e.p.size ≤ 2000000 ∧ e.x.size ≤ 2000000) :
    Calls Tryz.prog 27 #[.slice a xs.length c, opV k p t d] w fun r w' => r = .returned (.int .i64 m) ∧ Below w.heap.size w w' := by
  have hm2 : (2000000 : Nat) ≤ maxLen := by unfold maxLen; omega
  have hpm := Nat.le_trans hp hm2
  have htm := Nat.le_trans ht hm2
  have hdm := Nat.le_trans hd hm2
  obtain ⟨r, hr⟩ : ∃ r, opOkL k p.data.toList t.data.toList d.data.toList = r := ⟨_, rfl⟩
  have HR := Lib.hid hr
  have h1 := hm.out
  rw [hr] at h1
  have c0 := new_cell w (opBox k p t d) 31 0 _ rfl
  have c1 := new_cell w (opBox k p t d) 31 1 _ rfl
  have c2 := new_cell w (opBox k p t d) 31 2 _ rfl
  have c3 := new_cell w (opBox k p t d) 31 3 _ rfl
  have hb := bellow_alloc w (.cells (opBox k p t d) 31)
  have HS := Lib.hid hs
  cases r with
  | false =>
    obtain rfl : m = 1 := h1.symm
    obtain ⟨n, hn⟩ : ∃ n, xs.length = n := ⟨_, rfl⟩
    rw [hn]
    clear hn hs hr hm h1 hzs hx
    go_enter Tryz.func27, Tryz.ntmps27
    go_wp2_with fail
    refine (opOk_c k p t d false HR _ hpm htm hdm).mono ?_; rintro e W ⟨rfl, hq⟩; replace hb := chn hb hq; replace c0 := keepc hq c0; replace c1 := keepc hq c1; replace c2 := keepc hq c2; replace c3 := keepc hq c3; clear hq
    go_wp2
    go_ret
    exact ⟨rfl, by repeat (first | exact hb | refine Below.alloc ?_ (by have := hb.size; simp; try omega) _)⟩
  | true =>
    have h2 : codeL (xs.map En.pl) k p.data.toList t.data.toList = m := h1
    rcases opOk_k hr with rfl | rfl | rfl | rfl | rfl
    · have HC := Lib.hid (fun W (h : SlF En.cells W a xs) => makeCode_c a c xs 1 p t d m (by rw [Hid, ← h2, code_1]) W h hx hpm)
      obtain ⟨n, hn⟩ : ∃ n, xs.length = n := ⟨_, rfl⟩
      rw [hn] at HC ⊢
      clear hn hs hr hm h1 h2 hzs hx
      go_enter Tryz.func27, Tryz.ntmps27
      go_wp2_with fail
      refine (opOk_c _ p t d true HR _ hpm htm hdm).mono ?_; rintro e W ⟨rfl, hq⟩; replace hb := chn hb hq; replace c0 := keepc hq c0; replace c1 := keepc hq c1; replace c2 := keepc hq c2; replace c3 := keepc hq c3; clear hq
      go_wp2_with fail
      refine (HC.out _ (HS.out.below hb)).mono ?_; rintro e W ⟨rfl, hq⟩; replace hb := chn hb hq; clear hq
      go_wp2
      go_ret
      exact ⟨rfl, by repeat (first | exact hb | refine Below.alloc ?_ (by have := hb.size; simp; try omega) _)⟩
    · have HC := Lib.hid (fun W (h : SlF En.cells W a xs) => putCode_c a c xs 2 p t d m (by rw [Hid, ← h2, code_2]) W h hx hpm)
      obtain ⟨n, hn⟩ : ∃ n, xs.length = n := ⟨_, rfl⟩
      rw [hn] at HC ⊢
      clear hn hs hr hm h1 h2 hzs hx
      go_enter Tryz.func27, Tryz.ntmps27
      go_wp2_with fail
      refine (opOk_c _ p t d true HR _ hpm htm hdm).mono ?_; rintro e W ⟨rfl, hq⟩; replace hb := chn hb hq; replace c0 := keepc hq c0; replace c1 := keepc hq c1; replace c2 := keepc hq c2; replace c3 := keepc hq c3; clear hq
      go_wp2_with fail
      refine (HC.out _ (HS.out.below hb)).mono ?_; rintro e W ⟨rfl, hq⟩; replace hb := chn hb hq; clear hq
      go_wp2
      go_ret
      exact ⟨rfl, by repeat (first | exact hb | refine Below.alloc ?_ (by have := hb.size; simp; try omega) _)⟩
    · have HC := Lib.hid (fun W (h : SlF En.cells W a xs) => rmCode_c a c xs 3 p t d m (by rw [Hid, ← h2, code_3]) W h hx)
      obtain ⟨n, hn⟩ : ∃ n, xs.length = n := ⟨_, rfl⟩
      rw [hn] at HC ⊢
      clear hn hs hr hm h1 h2 hzs hx
      go_enter Tryz.func27, Tryz.ntmps27
      go_wp2_with fail
      refine (opOk_c _ p t d true HR _ hpm htm hdm).mono ?_; rintro e W ⟨rfl, hq⟩; replace hb := chn hb hq; replace c0 := keepc hq c0; replace c1 := keepc hq c1; replace c2 := keepc hq c2; replace c3 := keepc hq c3; clear hq
      go_wp2_with fail
      refine (HC.out _ (HS.out.below hb)).mono ?_; rintro e W ⟨rfl, hq⟩; replace hb := chn hb hq; clear hq
      go_wp2
      go_ret
      exact ⟨rfl, by repeat (first | exact hb | refine Below.alloc ?_ (by have := hb.size; simp; try omega) _)⟩
    · have HC := Lib.hid (fun W (h : SlF En.cells W a xs) => rmdirCode_c a c xs 4 p t d m (by rw [Hid, ← h2, code_4]) W h hx hp hzs)
      obtain ⟨n, hn⟩ : ∃ n, xs.length = n := ⟨_, rfl⟩
      rw [hn] at HC ⊢
      clear hn hs hr hm h1 h2 hzs hx
      go_enter Tryz.func27, Tryz.ntmps27
      go_wp2_with fail
      refine (opOk_c _ p t d true HR _ hpm htm hdm).mono ?_; rintro e W ⟨rfl, hq⟩; replace hb := chn hb hq; replace c0 := keepc hq c0; replace c1 := keepc hq c1; replace c2 := keepc hq c2; replace c3 := keepc hq c3; clear hq
      go_wp2_with fail
      refine (HC.out _ (HS.out.below hb)).mono ?_; rintro e W ⟨rfl, hq⟩; replace hb := chn hb hq; clear hq
      go_wp2
      go_ret
      exact ⟨rfl, by repeat (first | exact hb | refine Below.alloc ?_ (by have := hb.size; simp; try omega) _)⟩
    · have HC := Lib.hid (fun W (h : SlF En.cells W a xs) => moveCode_c a c xs 5 p t d m (by rw [Hid, ← h2, code_5]) W h hx hp ht hzs)
      obtain ⟨n, hn⟩ : ∃ n, xs.length = n := ⟨_, rfl⟩
      rw [hn] at HC ⊢
      clear hn hs hr hm h1 h2 hzs hx
      go_enter Tryz.func27, Tryz.ntmps27
      go_wp2_with fail
      refine (opOk_c _ p t d true HR _ hpm htm hdm).mono ?_; rintro e W ⟨rfl, hq⟩; replace hb := chn hb hq; replace c0 := keepc hq c0; replace c1 := keepc hq c1; replace c2 := keepc hq c2; replace c3 := keepc hq c3; clear hq
      go_wp2_with fail
      refine (HC.out _ (HS.out.below hb)).mono ?_; rintro e W ⟨rfl, hq⟩; replace hb := chn hb hq; clear hq
      go_wp2
      go_ret
      exact ⟨rfl, by repeat (first | exact hb | refine Below.alloc ?_ (by have := hb.size; simp; try omega) _)⟩
/-- A slice's address, as a call hands it on. -/
def Adr (a : Option Addr) (c : Nat) : Prop := (a = none ∧ c = 0) ∨ ∃ b off, a = some ⟨b, off, none⟩
theorem own_adr {w : World} {B : Nat} {e : TypeId} {size : Nat} {a : Option Addr} {n m c : Nat} {xs : List Value} (h : w.ownsRow B e size (.slice a n c) m xs) : Adr a c := by
  rcases h.2 with ⟨h1, _⟩ | ⟨g, cap, cur, e, _⟩
  · injection h1 with h2 h3 h4; exact .inl ⟨h2, h4⟩
  · injection e with h2 h3 h4; exact .inr ⟨g, 0, h2⟩
set_option maxHeartbeats 4000000 in
theorem copyEnts_c (a : Option Addr) (c : Nat) (xs : List En) (w : World) (hs : SlF En.cells w a xs) (ha : Adr a c) (hx : xs.length ≤ 1000000) :
    Calls Tryz.prog 28 #[.slice a xs.length c] w fun r w' => ∃ v, r = .returned v ∧ w'.ownsRow w.heap.size 52 3 v xs.length (xs.flatMap En.cells) ∧ Below w.heap.size w w' := by
  have HE := eltEn
  obtain ⟨n, hn⟩ : ∃ n, xs.length = n := ⟨_, rfl⟩
  have HN := Lib.hid hn
  have HS := Lib.hid hs
  rcases ha with ⟨rfl, rfl⟩ | ⟨b, off, rfl⟩
  · have h0 : xs.length = 0 := by
      rcases Nat.eq_zero_or_pos xs.length with h | h
      · exact h
      · obtain ⟨_, _, e, _⟩ := hs h; cases e
    rw [h0]
    have hnil : xs = [] := List.length_eq_zero_iff.1 h0
    obtain ⟨i, z, hi, _⟩ := HE.info
    clear hn hs HN
    go_enter Tryz.func28, Tryz.ntmps28
    go_wp2_with (at_builtin; go_must (refine wpList_append_own_none (by rfl) _ _ 27 (by rfl) w.heap.size 52 i 3 HE.und hi _ 0 [] (by rfl) (World.ownsRow_nil _ _ _ _) (by rfl) ?_))
    go_ret
    exact ⟨_, rfl, by rw [hnil]; exact World.ownsRow_nil _ _ _ _, Below.refl _ _⟩
  · rw [hn] at hx ⊢
    clear hn hs
    go_enter Tryz.func28, Tryz.ntmps28
    go_wp2_with (at_builtin; go_must (refine wp_appS (by rfl) _ _ 27 (by rfl) HE w.heap.size w.heap.size w _ _ 0 [] (by rfl) En.cells (fun _ => rfl) en_one xs b off n c HN.out (by rfl) HS.out (World.ownsRow_nil _ _ _ _) (by rw [HN.out]; omega) (Nat.le_refl _) (Below.refl _ _) (Nat.le_refl _) ?_); intro v2 w2 hown3 hbel3 _ _)
    go_ret
    exact ⟨v2, rfl, by simpa [HN.out] using hown3, hbel3⟩
end Go.Proofs.YtnmjidjhloodbaaGreatDoor
namespace Go.Proofs
open Go.Shelf
def Tryz.sortEnt_ren : Go.Shelf.Ren := ⟨fun | 6 => 63 | 15 => 85 | 14 => 84 | 28 => 102 | 29 => 103 | 20 => 94 | 21 => 95 | 22 => 96 | 23 => 97 | 24 => 98 | 25 => 99 | 26 => 100 | 27 => 101 | 46 => 109 | 47 => 110 | 48 => 111 | 49 => 112 | 50 => 113 | 57 => 119 | n => n, fun | 22 => 27 | 24 => 52 | 25 => 82 | 3 => 3 | 39 => 95 | 0 => 0 | 53 => 109 | 55 => 111 | 4 => 4 | 46 => 102 | 45 => 101 | 50 => 106 | 5 => 5 | 9 => 9 | 66 => 122 | 70 => 126 | 76 => 130 | 77 => 131 | n => n, fun | n => n⟩
theorem Tryz.sortEnt : Go.Proofs.SlLaysF0.n6 Tryz.prog Tryz.sortEnt_ren := {
  mixed := by kernel_rfl
  f6 := ⟨Tryz.f63.name, by decide, Tryz.func63.trans (congrArg some (by kernel_rfl))⟩
  f14 := ⟨Tryz.f84.name, by decide, Tryz.func84.trans (congrArg some (by kernel_rfl))⟩
  f15 := Tryz.func85.trans (congrArg some (by kernel_rfl))
  f20 := ⟨Tryz.f94.name, by decide, Tryz.func94.trans (congrArg some (by kernel_rfl))⟩
  f21 := ⟨Tryz.f95.name, by decide, Tryz.func95.trans (congrArg some (by kernel_rfl))⟩
  f22 := ⟨Tryz.f96.name, by decide, Tryz.func96.trans (congrArg some (by kernel_rfl))⟩
  f23 := ⟨Tryz.f97.name, by decide, Tryz.func97.trans (congrArg some (by kernel_rfl))⟩
  f24 := ⟨Tryz.f98.name, by decide, Tryz.func98.trans (congrArg some (by kernel_rfl))⟩
  f25 := ⟨Tryz.f99.name, by decide, Tryz.func99.trans (congrArg some (by kernel_rfl))⟩
  f26 := ⟨Tryz.f100.name, by decide, Tryz.func100.trans (congrArg some (by kernel_rfl))⟩
  f27 := ⟨Tryz.f101.name, by decide, Tryz.func101.trans (congrArg some (by kernel_rfl))⟩
  f28 := Tryz.func102.trans (congrArg some (by kernel_rfl))
  f29 := Tryz.func103.trans (congrArg some (by kernel_rfl))
  f46 := ⟨Tryz.f109.name, by decide, Tryz.func109.trans (congrArg some (by kernel_rfl))⟩
  f47 := Tryz.func110.trans (congrArg some (by kernel_rfl))
  f48 := Tryz.func111.trans (congrArg some (by kernel_rfl))
  f49 := ⟨Tryz.f112.name, by decide, Tryz.func112.trans (congrArg some (by kernel_rfl))⟩
  f50 := ⟨Tryz.f113.name, by decide, Tryz.func113.trans (congrArg some (by kernel_rfl))⟩
  f57 := ⟨Tryz.f119.name, by decide, Tryz.func119.trans (congrArg some (by kernel_rfl))⟩
  t0 := Tryz.underlying0
  a0 := Tryz.isAgg0
  z0 := Tryz.sizeOf0
  v0 := Tryz.zeroValue0
  t3 := Tryz.underlying3
  a3 := Tryz.isAgg3
  z3 := Tryz.sizeOf3
  v3 := Tryz.zeroValue3
  t4 := Tryz.underlying4
  a4 := Tryz.isAgg4
  z4 := Tryz.sizeOf4
  v4 := Tryz.zeroValue4
  t5 := Tryz.underlying5
  a5 := Tryz.isAgg5
  z5 := Tryz.sizeOf5
  v5 := Tryz.zeroValue5
  t9 := Tryz.underlying9
  a9 := Tryz.isAgg9
  z9 := Tryz.sizeOf9
  v9 := Tryz.zeroValue9
  t22 := Tryz.underlying27
  a22 := Tryz.isAgg27
  z22 := Tryz.sizeOf27
  v22 := Tryz.zeroValue27
  t25 := Tryz.underlying82
  a25 := Tryz.isAgg82
  z25 := Tryz.sizeOf82
  v25 := Tryz.zeroValue82
  t39 := Tryz.underlying95
  a39 := Tryz.isAgg95
  z39 := Tryz.sizeOf95
  v39 := Tryz.zeroValue95
  t45 := Tryz.underlying101
  a45 := Tryz.isAgg101
  z45 := Tryz.sizeOf101
  v45 := Tryz.zeroValue101
  t46 := Tryz.underlying102
  a46 := Tryz.isAgg102
  z46 := Tryz.sizeOf102
  v46 := Tryz.zeroValue102
  t50 := Tryz.underlying106
  a50 := Tryz.isAgg106
  z50 := Tryz.sizeOf106
  v50 := Tryz.zeroValue106
  t53 := Tryz.underlying109
  a53 := Tryz.isAgg109
  z53 := Tryz.sizeOf109
  v53 := Tryz.zeroValue109
  t55 := Tryz.underlying111
  a55 := Tryz.isAgg111
  z55 := Tryz.sizeOf111
  v55 := Tryz.zeroValue111
  t66 := Tryz.underlying122
  a66 := Tryz.isAgg122
  z66 := Tryz.sizeOf122
  v66 := Tryz.zeroValue122
  t70 := Tryz.underlying126
  a70 := Tryz.isAgg126
  z70 := Tryz.sizeOf126
  v70 := Tryz.zeroValue126
  t76 := Tryz.underlying130
  a76 := Tryz.isAgg130
  z76 := Tryz.sizeOf130
  v76 := Tryz.zeroValue130
  t77 := Tryz.underlying131
  a77 := Tryz.isAgg131
  z77 := Tryz.sizeOf131
  v77 := Tryz.zeroValue131 }
end Go.Proofs
namespace Go.Proofs.YtnmjidjhloodbaaGreatDoor
open Go.RowKit Go.Shelf Go.Sort
instance : Inhabited En := ⟨⟨.empty, false, .empty⟩⟩
instance : Inhabited Mk := ⟨⟨.empty, 0, .empty⟩⟩
/-- What the library's comparison of two strings hands back. -/
def cmpB (a b : ByteArray) : Int := if Op.bytesLess a.toList b.toList then -1 else if a.toList == b.toList then 0 else 1
set_option maxHeartbeats 1000000 in
theorem isNaNS_c (s : ByteArray) (w : World) : Calls Tryz.prog 86 #[.string s] w fun e w' => e = .returned (.bool false) ∧ w' = w := by
  go_enter Tryz.func86, Tryz.ntmps86
  go_wp2
  go_ret
  exact ⟨by simp, rfl⟩
set_option maxHeartbeats 2000000 in
theorem compareS_c (a b : ByteArray) (w : World) : Calls Tryz.prog 65 #[.string a, .string b] w fun e w' => e = .returned (.int .i64 (cmpB a b)) ∧ w' = w := by
  have hcon := isNaNS_c
  go_enter Tryz.func65, Tryz.ntmps65
  go_wp2_with (go_at_call 86; refine (hcon _ _).mono ?_; rintro e w' ⟨rfl, rfl⟩)
  all_goals (go_ret; refine ⟨?_, rfl⟩; unfold cmpB; simp_all)
/-- The three cells of what stands at place k in a row. -/
theorem flat_at {α : Type} {f : α → List Value} (hf : ∀ x, (f x).length = 3) {j : Nat} (hj : j < 3) : ∀ (ys : List α) (k : Nat) (y : α), ys[k]? = some y → (ys.flatMap f)[k * 3 + j]? = (f y)[j]? := by
  intro ys
  induction ys with
  | nil => intro k y hy; simp at hy
  | cons z r ih =>
    intro k y hy
    rw [List.flatMap_cons]
    cases k with
    | zero =>
      simp at hy; subst hy
      rw [Nat.zero_mul, Nat.zero_add, List.getElem?_append_left (by rw [hf]; exact hj)]
    | succ k =>
      rw [List.getElem?_append_right (by rw [hf]; omega), show (k + 1) * 3 + j - (f z).length = k * 3 + j by rw [hf]; omega]
      exact ih k y (by simpa using hy)
section
variable {α : Type} [Inhabited α] {f : α → List Value}
theorem holdsK_own (hf : ∀ x, (f x).length = 3) {w : World} {B g c : Nat} {t : TypeId} {xs : List α} (h : w.ownsRow B t 3 (.slice (some ⟨g, 0, none⟩) xs.length c) xs.length (xs.flatMap f)) (hn : 0 < xs.length) :
    HoldsK f 3 w g 0 xs.toArray ∧ B ≤ g ∧ g < w.heap.size := by
  obtain ⟨g', c', hv, _, hB, hlt, hc, hz⟩ := own_form h hn
  have hg : g = g' := by injection hv with h1; injection h1 with h1; injection h1
  subst hg
  refine ⟨fun j hj => ?_, hB, hlt⟩
  rw [size_flatK, List.size_toArray] at hj
  rw [Nat.zero_add]
  refine ⟨hc _ _ ?_, hz _⟩
  rw [get_flatK _ _ _ _ (by rw [List.size_toArray]; exact hj)]
  have h3 : j / 3 < xs.length := by omega
  have e := flat_at hf (Nat.mod_lt j (by omega : 0 < 3)) xs (j / 3) _ (List.getElem?_eq_getElem h3)
  rw [show j / 3 * 3 + j % 3 = j by omega] at e
  rw [e]
  have e2 : xs.toArray[j / 3]! = xs[j / 3] := by simp [h3]
  rw [e2]
  have h4 : j % 3 < (f xs[j / 3]).length := by rw [hf]; omega
  show _ = some ((f xs[j / 3])[j % 3]!)
  rw [List.getElem?_eq_getElem h4]
  simp [h4]
theorem slf_holdsK (hf : ∀ x, (f x).length = 3) {w : World} {g : Nat} {d : Array α} (h : HoldsK f 3 w g 0 d) (hg : g < w.heap.size) : SlF f w (some ⟨g, 0, none⟩) d.toList := fun _ => by
  refine ⟨g, 0, rfl, hg, fun k x hx j u hu => ?_⟩
  have hk : k < d.size := by simpa using (List.getElem?_eq_some_iff.1 hx).1
  have hj : j < 3 := by have := (List.getElem?_eq_some_iff.1 hu).1; rwa [hf] at this
  have e := (HoldsK.cell h hk hj).1
  have e1 : d[k]! = x := by
    rw [Array.getElem?_toList, Array.getElem?_eq_getElem hk] at hx
    simp at hx
    rw [getElem!_pos d k hk]; exact hx
  rw [e, e1]
  obtain ⟨h5, h6⟩ := List.getElem?_eq_some_iff.1 hu
  simp [h5, h6]
theorem below_sort {w : World} {B g n : Nat} {d : Array α} {os : Array Obj} (hB : B ≤ g) (hg : g < w.heap.size) : Below B w (sortWorldK f 3 w g 0 n d os) := by
  refine ⟨rfl, rfl, rfl, size_sortWorldK_c f 3 w g 0 n d os, fun k hk => ?_⟩
  have h1 : k < (putRowK f 3 (Sort.ahead w n) g 0 d).heap.size := by rw [size_putRowK]; show k < w.heap.size; omega
  show ((putRowK f 3 (Sort.ahead w n) g 0 d).heap ++ os)[k]? = _
  rw [Array.getElem?_append_left h1]
  show (w.heap.modify g _)[k]? = _
  rw [Array.getElem?_modify, if_neg (by omega)]
/-- A row of the call's own that was sorted is a row of the call's own. -/
theorem own_sort (hf : ∀ x, (f x).length = 3) {w : World} {B g c n : Nat} {t : TypeId} {xs : List α} {d : Array α} {os : Array Obj} (h : w.ownsRow B t 3 (.slice (some ⟨g, 0, none⟩) xs.length c) xs.length (xs.flatMap f)) (hg : g < w.heap.size) (hd : d.size = xs.length)
    (hH : HoldsK f 3 (sortWorldK f 3 w g 0 n d os) g 0 d) : (sortWorldK f 3 w g 0 n d os).ownsRow B t 3 (.slice (some ⟨g, 0, none⟩) d.toList.length c) d.toList.length (d.toList.flatMap f) := by
  rcases h.2 with ⟨hv, _⟩ | ⟨g', cap, cur, hv, hB, hh, hnc, hm, hs, ht⟩
  · cases hv
  obtain ⟨rfl, rfl⟩ : g = g' ∧ c = cap := by injection hv with h1 h2 h3; injection h1 with h1; injection h1 with h1; exact ⟨h1, h3⟩
  have hl : d.toList.length = xs.length := by rw [Array.length_toList, hd]
  have hheap : (sortWorldK f 3 w g 0 n d os).heap[g]? = some (.cells (putCells id 0 (flatK f 3 d) cur) t (0, 0)) := by
    have h1 : g < (putRowK f 3 (Sort.ahead w n) g 0 d).heap.size := by rw [size_putRowK]; exact hg
    show ((putRowK f 3 (Sort.ahead w n) g 0 d).heap ++ os)[g]? = _
    rw [Array.getElem?_append_left h1]
    show (w.heap.modify g _)[g]? = _
    rw [Array.getElem?_modify, if_pos rfl, hh]; rfl
  have hsz : (putCells id 0 (flatK f 3 d) cur).size = c * 3 := by simp [putCells, hs]
  refine ⟨flatMap_len hf _, .inr ⟨g, c, _, rfl, hB, hheap, by rw [hl]; exact hnc, hm, hsz, ?_⟩⟩
  apply List.ext_getElem?
  intro k
  by_cases hk : k < d.toList.length * 3
  · rw [List.getElem?_take, if_pos hk, Array.getElem?_toList]
    have h3 : k / 3 < d.size := by rw [Array.length_toList] at hk; omega
    have hj : k % 3 < 3 := Nat.mod_lt _ (by omega)
    have e := (HoldsK.cell hH h3 hj).1
    rw [show 0 + k / 3 * 3 + k % 3 = k by omega, cell_of_row _ g k _ t (0, 0) hheap] at e
    have e2 := flat_at hf hj d.toList (k / 3) _ (List.getElem?_eq_getElem (by rw [Array.length_toList]; exact h3))
    rw [show k / 3 * 3 + k % 3 = k by omega] at e2
    rw [e2, e, getElem!_pos d _ h3]
    have h4 : k % 3 < (f d[k / 3]).length := by rw [hf]; exact hj
    rw [Array.getElem_toList, List.getElem?_eq_getElem h4, getElem!_pos (f d[k / 3]) _ h4]
  · rw [List.getElem?_eq_none (by rw [List.length_take]; omega), List.getElem?_eq_none (by rw [flatMap_len hf]; omega)]
end
theorem permIn_list {α : Type} [Inhabited α] {d d' : Array α} (h : PermIn 0 d.size d d') : d'.toList.Perm d.toList := by
  obtain ⟨h1, _, h2⟩ := h
  rw [← h1, Array.extract_size, h1, Array.extract_size] at h2
  exact h2
theorem sorted_list {α : Type} [Inhabited α] {lt : α → α → Bool} {d : Array α} {n : Nat} (hn : d.size = n) (h : SortedIn lt 0 n d) : d.toList.Pairwise fun a b => lt b a = false := by
  rw [List.pairwise_iff_getElem]
  intro i j hi hj hij
  have e := h i j (Nat.zero_le _) hij (by rw [← hn]; simpa using hj)
  have hi' : i < d.size := by simpa using hi
  have hj' : j < d.size := by simpa using hj
  rw [getElem!_pos d i hi', getElem!_pos d j hj'] at e
  simpa using e
theorem lt_cmpB {α : Type} (p : α → ByteArray) (x y : α) : ltOf (fun a b : α => cmpB (p a) (p b)) x y = Op.bytesLess (p x).data.toList (p y).data.toList := by
  rw [← less_of']
  unfold ltOf
  show decide (cmpB (p x) (p y) < 0) = _
  unfold cmpB
  by_cases h : Op.bytesLess (p x).toList (p y).toList = true
  · simp [h]
  · rw [if_neg h]
    have h' : Op.bytesLess (p x).toList (p y).toList = false := by simpa using h
    rw [h']
    split <;> decide
theorem swoB {α : Type} (p : α → ByteArray) : SWO (ltOf (fun a b : α => cmpB (p a) (p b))) := by
  refine ⟨fun x => by rw [lt_cmpB]; exact less_irrefl _, fun x y z h1 h2 => by rw [lt_cmpB] at *; exact less_trans h1 h2, fun x y z h1 h2 => ?_⟩
  rw [lt_cmpB] at *
  rcases less_total (p x).data.toList (p z).data.toList with h | h | h
  · rcases less_total (p x).data.toList (p y).data.toList with k | k | k
    · rw [k] at h1; cases h1
    · rw [← k, h] at h2; cases h2
    · have := less_trans k h; rw [this] at h2; cases h2
  · rw [h]; exact less_irrefl _
  · exact less_asymm h
set_option maxHeartbeats 2000000 in
theorem cmpEn_c (x y : En) (W : World) : Calls Tryz.prog 64 #[En.val x, En.val y] W fun e w' => e = .returned (.int .i64 (cmpB x.p y.p)) ∧ ∃ q os', w' = grow (W.drewN q) os' := by
  have hcon := compareS_c
  go_enter Tryz.func64, Tryz.ntmps64
  go_wp2_with (go_at_call 65; refine (hcon _ _ _).mono ?_; rintro e w' ⟨rfl, rfl⟩)
  go_ret
  exact ⟨rfl, 0, _, by rw [alloc_eq_grow, alloc_eq_grow, grow_grow]; rfl⟩
set_option maxHeartbeats 2000000 in
/-- sortEnts: what it sorts reads as the same elements in order, in the same place. -/
theorem sortEn_c (w : World) (B : Nat) (a : Option Addr) (c : Nat) (xs : List En) (h : OwnEn w B (.slice a xs.length c) xs) (hx : xs.length ≤ 1000000) :
    Calls Tryz.prog 30 #[.slice a xs.length c] w fun e w' => e = .returned (.tuple #[]) ∧ ∃ ys, ys.Perm xs ∧ (ys.Pairwise fun e f => Op.bytesLess f.p.data.toList e.p.data.toList = false) ∧ SlF En.cells w' a ys ∧ OwnEn w' B (.slice a ys.length c) ys ∧ Below B w w' := by
  rcases Nat.eq_zero_or_pos xs.length with h0 | hn
  · have hcon := AnyF.slices_SortFunc_none Tryz.sortEnt a c (.func (.func 64) #[] #[]) w
    obtain rfl : xs = [] := List.length_eq_zero_iff.1 h0
    change Calls Tryz.prog 63 _ _ _ at hcon
    go_enter Tryz.func30, Tryz.ntmps30
    go_wp2_with (go_at_call 63; refine hcon.mono ?_; rintro e w' ⟨rfl, rfl⟩)
    go_end0
    exact ⟨rfl, [], List.Perm.refl _, List.Pairwise.nil, SlF.nil_, h, Below.refl _ _⟩
  · have eg : ∀ args w, (callFunc 64 args).run Tryz.prog w = .ok (.enter 64 args) w := enters_of Tryz.func64 (by kernel_rfl) rfl
    obtain ⟨g, c', hv, _, _, _, _, _⟩ := own_form h hn
    obtain ⟨rfl, rfl⟩ : a = some ⟨g, 0, none⟩ ∧ c = c' := by injection hv with h1 h2 h3; exact ⟨h1, h3⟩
    obtain ⟨hH, hB, hg⟩ := holdsK_own (f := En.cells) (fun _ => rfl) h hn
    have hcon := AnyQ.slices_SortFunc Tryz.sortEnt 3 Tryz.isAgg52 Tryz.sizeOf52 En.cells (fun _ => rfl) (fun x v hv => by simp [En.cells] at hv; rcases hv with rfl | rfl | rfl <;> rfl) (fun x y => cmpB x.p y.p) (swoB En.p) 64 #[] g 0 c xs.toArray w eg (fun _ _ _ _ x y => cmpEn_c x y _) hH hg (by simp; omega)
    change Calls Tryz.prog 63 _ _ _ at hcon
    rw [List.size_toArray] at hcon
    have HH := Lib.hid hH
    have HO := Lib.hid h
    clear hH h hv
    go_enter Tryz.func30, Tryz.ntmps30
    go_wp2_with (go_at_call 63; refine hcon.mono ?_; rintro e w' ⟨rfl, d', n, os, hp, hs, rfl⟩)
    go_end0
    have hz : xs.toArray.size = xs.length := by simp
    rw [← hz] at hp
    have hd : d'.size = xs.length := by rw [← hz]; exact hp.1
    refine ⟨rfl, d'.toList, permIn_list hp, (sorted_list hd hs).imp (fun h => by rw [lt_cmpB] at h; exact h), slf_holdsK (fun _ => rfl) (holdsK_sortWorldK_c _ 3 w g 0 xs.toArray d' n os HH.out hg (by rw [hd, hz])) (Nat.lt_of_lt_of_le hg (size_sortWorldK_c _ 3 w g 0 n d' os)), own_sort (fun _ => rfl) HO.out hg hd (holdsK_sortWorldK_c _ 3 w g 0 xs.toArray d' n os HH.out hg (by rw [hd, hz])), below_sort hB hg⟩
end Go.Proofs.YtnmjidjhloodbaaGreatDoor
namespace Go.Proofs.YtnmjidjhloodbaaGreatDoor
open Go.RowKit
theorem raw_5 {t : List PE} {p r x : Bs} : rawL t 5 p r x = t.map (movedE p r) := by simp [rawL]
theorem raw_1 {t : List PE} {p r x : Bs} : rawL t 1 p r x = (t.filter fun e => !(e.p == p)) ++ [⟨p, true, x⟩] := by simp [rawL]
theorem raw_2 {t : List PE} {p r x : Bs} : rawL t 2 p r x = (t.filter fun e => !(e.p == p)) ++ [⟨p, false, x⟩] := by simp [rawL]
theorem raw_o {t : List PE} {k : Int} {p r x : Bs} (h5 : k ≠ 5) (h1 : k ≠ 1) (h2 : k ≠ 2) : rawL t k p r x = t.filter fun e => !(e.p == p) := by simp [rawL, h5, h1, h2]
theorem keep_snoc (xs : List En) (k : Nat) (e : En) (he : xs[k]? = some e) (p : Bs) (ms : List En) (h : ms.map En.pl = ((xs.take k).map En.pl).filter fun e => !(e.p == p)) :
    (ms ++ if e.p.data.toList = p then [] else [e]).map En.pl = ((xs.take (k + 1)).map En.pl).filter fun e => !(e.p == p) := by
  rw [take_pl xs k e he, List.filter_append, List.map_append, h]
  congr 1
  rw [List.filter_cons]
  by_cases hp : e.p.data.toList = p
  · rw [if_pos hp, if_neg (by rw [show e.pl.p = e.p.data.toList from rfl, hp]; simp)]; rfl
  · rw [if_neg hp, if_pos (by rw [show e.pl.p = e.p.data.toList from rfl]; simpa using hp)]; rfl
theorem keep_len (xs : List En) (k : Nat) (p : Bs) (ms : List En) (h : ms.map En.pl = ((xs.take k).map En.pl).filter fun e => !(e.p == p)) : ms.length ≤ k := by
  have h1 := congrArg List.length h
  have h2 := List.length_filter_le (fun e : PE => !(e.p == p)) ((xs.take k).map En.pl)
  simp only [List.length_map, List.length_take] at h1 h2
  omega
set_option maxRecDepth 100000 in
set_option maxHeartbeats 8000000 in
theorem treeDo_c (a : Option Addr) (c : Nat) (xs : List En) (k : Int) (p t d : ByteArray) (w : World) (hs : SlF En.cells w a xs) (ha : Adr a c) (hx : xs.length ≤ maxLen) (hp : p.size ≤ 2000000) (ht : t.size ≤ 2000000) (hd : d.size ≤ 2000000) (hzs : ∀ e ∈ xs, e.p.size ≤ 2000000 ∧ e.x.size ≤ 2000000) :
    Calls Tryz.prog 10 #[.slice a xs.length c, opV k p t d] w (MadeEi (tdo (xs.map En.pl) k p.data.toList t.data.toList d.data.toList) (tcode (xs.map En.pl) k p.data.toList t.data.toList d.data.toList) w) := by
  have HE := eltEn
  have hm2 : (2000000 : Nat) ≤ maxLen := by unfold maxLen; omega
  have c0 := new_cell w (opBox k p t d) 31 0 _ rfl
  have c1 := new_cell w (opBox k p t d) 31 1 _ rfl
  have c2 := new_cell w (opBox k p t d) 31 2 _ rfl
  have c3 := new_cell w (opBox k p t d) 31 3 _ rfl
  have hb := bellow_alloc w (.cells (opBox k p t d) 31)
  obtain ⟨r, hr⟩ := tok_dec xs
  have HT := Lib.hid (fun W (h : SlF En.cells W a xs) => treeOk_c a c xs r (Lib.hid hr) W h hx (fun e he => ⟨Nat.le_trans (hzs e he).1 hm2, Nat.le_trans (hzs e he).2 hm2⟩))
  obtain ⟨L, hL⟩ : ∃ L, tdo (xs.map En.pl) k p.data.toList t.data.toList d.data.toList = L := ⟨_, rfl⟩
  obtain ⟨C, hC⟩ : ∃ C, tcode (xs.map En.pl) k p.data.toList t.data.toList d.data.toList = C := ⟨_, rfl⟩
  have HS := Lib.hid hs
  rw [hL, hC]
  cases r with
  | false =>
    have hno : ¬ TOk (xs.map En.pl) := fun h => by have := hr.2 h; cases this
    obtain rfl : C = 1 := by rw [← hC]; exact tcode_bad hno
    obtain rfl : L = [] := by rw [← hL]; exact tdo_bad hno
    obtain ⟨n, hn⟩ : ∃ n, xs.length = n := ⟨_, rfl⟩
    rw [hn] at HT ⊢
    clear hn hs hr hL hC hno hzs hx
    go_enter Tryz.func10, Tryz.ntmps10
    go_wp2_with fail
    refine (HT.out _ (HS.out.below hb)).mono ?_; rintro e W ⟨rfl, hq⟩; replace hb := chn hb hq; clear hq
    go_wp2
    refine bodyPost_ret (v := .tuple #[.slice none 0 0, .int .i64 1]) (by simp [results, Tryz.results10, go_sem]) rfl ⟨none, 0, [], rfl, rfl, World.ownsRow_nil _ _ _ _, hb⟩
  | true =>
  have htok := hr.1 rfl
  have HTK := Lib.hid htok
  have hx16 : xs.length ≤ 16 := by have := htok.most; rw [List.length_map] at this; exact this
  have HC := Lib.hid (fun W (h : SlF En.cells W a xs) => opCode_c a c xs k p t d C (by rw [Hid, ← hC]; unfold tcode; rw [if_pos htok]) W h hx hp ht hd hzs)
  by_cases hC0 : C = 0
  · subst hC0
    obtain ⟨_, hok, hcd⟩ := tcode_0 hC
    have HLL : Hid (doL (xs.map En.pl) k p.data.toList t.data.toList d.data.toList = L) := by rw [Hid, ← tdo_do hC]; exact hL
    have HFIN := Lib.hid (fun (s : List PE) => (do_of_raw htok hok hcd).2 (s := s))
    obtain ⟨n, hn⟩ : ∃ n, xs.length = n := ⟨_, rfl⟩
    have HN := Lib.hid hn
    have HALL : Hid (xs.take n = xs) := by rw [Hid, ← hn, List.take_length]
    have HZ := Lib.hid hzs
    rw [hn] at HT HC hx16 ⊢
    clear hn hs hr hL hC htok hzs hx hok hcd
    go_enter Tryz.func10, Tryz.ntmps10
    go_wp2_with fail
    refine (HT.out _ (HS.out.below hb)).mono ?_; rintro e W ⟨rfl, hq⟩; replace hb := chn hb hq; replace c0 := keepc hq c0; replace c1 := keepc hq c1; replace c2 := keepc hq c2; replace c3 := keepc hq c3; clear hq
    go_wp2_with fail
    refine (HC.out _ (HS.out.below hb)).mono ?_; rintro e z ⟨rfl, hq⟩; replace hb := chn hb hq
    have C0 := Lib.hid (keepc hq c0)
    have C1 := Lib.hid (keepc hq c1)
    have C2 := Lib.hid (keepc hq c2)
    have C3 := Lib.hid (keepc hq c3)
    have HBZ := Lib.hid hb
    have HSZ := Lib.hid (HS.out.below hb)
    clear hq c0 c1 c2 c3 hb
    by_cases k5 : k = 5
    · subst k5
      rw [raw_5] at HFIN
      go_wp2
      go_loopw [7, 23] (fun v i wr => ∃ (j : Nat) (ms : List En), j ≤ n ∧ ms.length ≤ j ∧ i = .int .i64 j ∧ ms.map En.pl = ((xs.take j).map En.pl).map (movedE p.data.toList t.data.toList) ∧ wr.ownsRow z.heap.size 52 3 v ms.length (ms.flatMap En.cells) ∧ Below z.heap.size z wr) (fun _ i _ => n - (intOf i).toNat)
      case atStart => exact ⟨0, [], Nat.zero_le _, Nat.zero_le _, rfl, rfl, World.ownsRow_nil _ _ _ _, Below.refl _ _⟩
      case round =>
        obtain ⟨j, ms, hj, hml, rfl, hms, hown, hb⟩ := hrel
        have HMS := Lib.hid hms
        clear hms
        by_cases hlt : j < n
        · skip
          obtain ⟨e, hee⟩ : ∃ e, xs[j]? = some e := ⟨_, List.getElem?_eq_getElem (by rw [HN.out]; exact hlt)⟩
          have hzz := HZ.out e (List.mem_of_getElem? hee)
          have h2 := HSZ.out.below hb
          obtain ⟨b, off, rfl, _⟩ := h2.addr (by rw [HN.out]; omega)
          obtain ⟨d0, d1, d2⟩ := en_at h2 j e hee
          have i0 : (0 : Int) ≤ (j : Int) := by omega
          have i1 : (j : Int) < (n : Int) := by omega
          obtain ⟨u, hu⟩ : ∃ u, moveOkL e.p.data.toList p.data.toList t.data.toList = u := ⟨_, rfl⟩
          have HU2 := Lib.hid hu
          obtain ⟨mv, hmv⟩ : ∃ mv : ByteArray, moveL e.p.data.toList p.data.toList t.data.toList = mv.data.toList := ⟨⟨(moveL e.p.data.toList p.data.toList t.data.toList).toArray⟩, by simp⟩
          have HMV := Lib.hid hmv
          have HSN : Hid ((ms ++ [(⟨mv, e.d, e.x⟩ : En)]).map En.pl = ((xs.take (j + 1)).map En.pl).map (movedE p.data.toList t.data.toList)) := by
            rw [Hid, take_pl xs j e hee, List.map_append, List.map_append, HMS.out]
            congr 1
            show [(⟨mv.data.toList, e.d, e.x.data.toList⟩ : PE)] = [⟨moveL e.p.data.toList p.data.toList t.data.toList, e.d, e.x.data.toList⟩]
            rw [hmv]
          obtain ⟨ep, ed, ex⟩ := e
          clear hu hmv
          clear h2 hee
          have c0 := keepc (bellow_alloc wr (.cells #[.string ep, .bool ed, .string ex] 52)) (keepc hb C0.out)
          have c1 := keepc (bellow_alloc wr (.cells #[.string ep, .bool ed, .string ex] 52)) (keepc hb C1.out)
          have c2 := keepc (bellow_alloc wr (.cells #[.string ep, .bool ed, .string ex] 52)) (keepc hb C2.out)
          have q0 := new_cell wr #[.string ep, .bool ed, .string ex] 52 0 (.string ep) rfl
          have q1 := new_cell wr #[.string ep, .bool ed, .string ex] 52 1 (.bool ed) rfl
          have q2 := new_cell wr #[.string ep, .bool ed, .string ex] 52 2 (.string ex) rfl
          have f0 := new_free wr #[.string ep, .bool ed, .string ex] 52 0
          have HOW := Lib.hid hown
          have HLW := Lib.hid hb.size
          have hbw := bellow_alloc wr (.cells #[.string ep, .bool ed, .string ex] 52)
          replace hown := own_below hown (bellow_alloc wr (.cells #[.string ep, .bool ed, .string ex] 52))
          replace hb := hb.alloc hb.size (.cells #[.string ep, .bool ed, .string ex] 52); 
          go_wp2_with fail
          refine (pathMove_c ep p t mv u HMV HU2 _ hzz.1 hp ht).mono ?_; rintro e W ⟨rfl, hq⟩; replace hb := chn hb hq; replace hbw := chn hbw hq; replace f0 := (hq.frozen (p := ⟨wr.heap.size, 0, none⟩) (by simp)).trans f0; replace hown := own_below hown hq; replace q0 := keepc hq q0; replace q1 := keepc hq q1; replace q2 := keepc hq q2; clear hq
          have hown1 := own_below HOW.out (hbw.setCell (p := ⟨wr.heap.size, 0, none⟩) (Nat.le_refl _) (.string mv))
          replace hown := hown1
          clear hown1
          have hb1 := hb.setCell (p := ⟨wr.heap.size, 0, none⟩) HLW.out (.string mv)
          replace hb := hb1
          clear hb1
          go_wp2_with (at_builtin; go_must (refine wp_app1H (by rfl) _ _ 27 (by rfl) HE z.heap.size z.heap.size z _ #[.string mv, .bool ed, .string ex] _ _ _ (by rfl) W.heap.size (by simp) (by rfl) hown (by rfl) (by simp [Value.oneCell']) (by omega) hb.size hb (Nat.le_refl _) ?_); intro v' w1 hown1 hbel1 _ _)
          go_roundw
          case rel => exact ⟨j + 1, ms ++ [⟨mv, ed, ex⟩], by omega, by simp; omega, by go_num, HSN.out, by rw [← flat_app]; simpa using hown1, hbel1⟩
          case measure => simp [intOf]; omega
        · obtain rfl : j = n := by omega
          have HRAW : Hid (ms.map En.pl = (xs.map En.pl).map (movedE p.data.toList t.data.toList)) := by rw [Hid, HMS.out, HALL.out]
          have c0 := keepc hb C0.out
          obtain ⟨v1, v2, rfl⟩ := own_shape hown
          go_wp2_with fail
          refine (sortEn_c _ z.heap.size v1 v2 ms hown (by omega)).mono ?_; rintro e W2 ⟨rfl, zs, hp2, hso, _, hz2, hq⟩
          have hzl : ms.length = zs.length := hp2.length_eq.symm
          have HEQ : Hid (zs.map En.pl = L) := by
            rw [Hid, ← HLL.out]
            exact HFIN.out _ (by rw [← HRAW.out]; exact hp2.map _) (by rw [List.pairwise_map]; exact hso)
          go_wp2
          refine bodyPost_ret (v := .tuple #[.slice v1 zs.length v2, .int .i64 0]) (by simp [results, Tryz.results10, go_sem]) rfl ⟨v1, v2, zs, rfl, HEQ.out, own_mono hz2 HBZ.out.size, (HBZ.out.trans (hb.mono HBZ.out.size)).trans (hq.mono HBZ.out.size)⟩
    · have n5 : (k == 5) = false := by rw [beq_eq_false_iff_ne]; exact k5
      have HK5 := Lib.hid k5
      clear k5
      go_wp2
      go_loopw [7, 23] (fun v i wr => ∃ (j : Nat) (ms : List En), j ≤ n ∧ i = .int .i64 j ∧ ms.map En.pl = ((xs.take j).map En.pl).filter (fun e => !(e.p == p.data.toList)) ∧ wr.ownsRow z.heap.size 52 3 v ms.length (ms.flatMap En.cells) ∧ Below z.heap.size z wr) (fun _ i _ => n - (intOf i).toNat)
      case atStart => exact ⟨0, [], Nat.zero_le _, rfl, rfl, World.ownsRow_nil _ _ _ _, Below.refl _ _⟩
      case round =>
        obtain ⟨j, ms, hj, rfl, hms, hown, hb⟩ := hrel
        have HMS := Lib.hid hms
        have hml := keep_len _ _ _ _ hms
        clear hms
        by_cases hlt : j < n
        · skip
          obtain ⟨e, hee⟩ : ∃ e, xs[j]? = some e := ⟨_, List.getElem?_eq_getElem (by rw [HN.out]; exact hlt)⟩
          have hzz := HZ.out e (List.mem_of_getElem? hee)
          have h2 := HSZ.out.below hb
          obtain ⟨b, off, rfl, _⟩ := h2.addr (by rw [HN.out]; omega)
          obtain ⟨d0, d1, d2⟩ := en_at h2 j e hee
          have i0 : (0 : Int) ≤ (j : Int) := by omega
          have i1 : (j : Int) < (n : Int) := by omega
          have HSN := Lib.hid (keep_snoc xs j e hee p.data.toList ms HMS.out)
          obtain ⟨ep, ed, ex⟩ := e
          clear h2 hee
          have c0 := keepc (bellow_alloc wr (.cells #[.string ep, .bool ed, .string ex] 52)) (keepc hb C0.out)
          have c1 := keepc (bellow_alloc wr (.cells #[.string ep, .bool ed, .string ex] 52)) (keepc hb C1.out)
          have c2 := keepc (bellow_alloc wr (.cells #[.string ep, .bool ed, .string ex] 52)) (keepc hb C2.out)
          have q0 := new_cell wr #[.string ep, .bool ed, .string ex] 52 0 (.string ep) rfl
          have q1 := new_cell wr #[.string ep, .bool ed, .string ex] 52 1 (.bool ed) rfl
          have q2 := new_cell wr #[.string ep, .bool ed, .string ex] 52 2 (.string ex) rfl
          by_cases heq : ep.data.toList = p.data.toList
          · have qe := beqs_yes heq
            have HSM : Hid (ms.map En.pl = ((xs.take (j + 1)).map En.pl).filter fun e => !(e.p == p.data.toList)) := by
              have h := HSN.out; rw [if_pos heq, List.append_nil] at h; exact h
            clear heq
            go_wp2
            go_roundw
            case rel => exact ⟨j + 1, ms, by omega, by go_num, HSM.out, own_below hown (bellow_alloc _ _), hb.alloc hb.size _⟩
            case measure => simp [intOf]; omega
          · have qe := beqs_no heq
            have HSM : Hid ((ms ++ [(⟨ep, ed, ex⟩ : En)]).map En.pl = ((xs.take (j + 1)).map En.pl).filter fun e => !(e.p == p.data.toList)) := by
              have h := HSN.out; rw [if_neg heq] at h; exact h
            clear heq
            replace hown := own_below hown (bellow_alloc wr (.cells #[.string ep, .bool ed, .string ex] 52))
            replace hb := hb.alloc hb.size (.cells #[.string ep, .bool ed, .string ex] 52); 
            go_wp2_with (at_builtin; go_must (refine wp_app1H (by rfl) _ _ 27 (by rfl) HE z.heap.size z.heap.size z _ #[.string ep, .bool ed, .string ex] _ _ _ (by rfl) (wr.heap.size + 1) (by simp) (by rfl) hown (by rfl) (by simp [Value.oneCell']) (by omega) hb.size hb (Nat.le_refl _) ?_); intro v' w1 hown1 hbel1 _ _)
            go_roundw
            case rel => exact ⟨j + 1, ms ++ [⟨ep, ed, ex⟩], by omega, by go_num, HSM.out, by rw [← flat_app]; simpa using hown1, hbel1⟩
            case measure => simp [intOf]; omega
        · obtain rfl : j = n := by omega
          have HKEEP : Hid (ms.map En.pl = (xs.map En.pl).filter fun e => !(e.p == p.data.toList)) := by rw [Hid, HMS.out, HALL.out]
          have c0 := keepc hb C0.out
          have c1 := keepc hb C1.out
          have c3 := keepc hb C3.out
          by_cases k1 : k = 1
          · subst k1
            have HRAW : Hid ((ms ++ [(⟨p, true, d⟩ : En)]).map En.pl = rawL (xs.map En.pl) 1 p.data.toList t.data.toList d.data.toList) := by rw [Hid, raw_1, List.map_append, HKEEP.out]; rfl
            go_wp2_with (at_builtin; go_must (refine wp_app1H (by rfl) _ _ 27 (by rfl) HE z.heap.size z.heap.size z _ #[.string p, .bool true, .string d] _ _ _ (by rfl) wr.heap.size (by simp) (by rfl) hown (by rfl) (by simp [Value.oneCell']) (by omega) hb.size hb (Nat.le_refl _) ?_); intro v' w1 hown1 hbel1 _ _)
            have hown2 : w1.ownsRow z.heap.size 52 3 v' (ms ++ [(⟨p, true, d⟩ : En)]).length ((ms ++ [(⟨p, true, d⟩ : En)]).flatMap En.cells) := by rw [← flat_app]; simpa using hown1
            have hbX := hbel1
            clear hown hb hown1
            have hown := hown2
            have hb := hbX
            clear hown2 hbX
            obtain ⟨ns, hns⟩ : ∃ ns, ms ++ [(⟨p, true, d⟩ : En)] = ns := ⟨_, rfl⟩
            have hnl : ns.length ≤ 17 := by rw [← hns]; simp; omega
            rw [hns] at hown HRAW
            clear hns
            obtain ⟨v1, v2, rfl⟩ := own_shape hown
            go_wp2_with fail
            refine (sortEn_c _ z.heap.size v1 v2 ns hown (by omega)).mono ?_; rintro e W2 ⟨rfl, zs, hp2, hso, _, hz2, hq⟩
            have hzl : ns.length = zs.length := hp2.length_eq.symm
            have HEQ : Hid (zs.map En.pl = L) := by
              rw [Hid, ← HLL.out]
              exact HFIN.out _ (by rw [← HRAW.out]; exact hp2.map _) (by rw [List.pairwise_map]; exact hso)
            go_wp2
            refine bodyPost_ret (v := .tuple #[.slice v1 zs.length v2, .int .i64 0]) (by simp [results, Tryz.results10, go_sem]) rfl ⟨v1, v2, zs, rfl, HEQ.out, own_mono hz2 HBZ.out.size, (HBZ.out.trans (hb.mono HBZ.out.size)).trans (hq.mono HBZ.out.size)⟩
          · by_cases k2 : k = 2
            · subst k2
              have HRAW : Hid ((ms ++ [(⟨p, false, d⟩ : En)]).map En.pl = rawL (xs.map En.pl) 2 p.data.toList t.data.toList d.data.toList) := by rw [Hid, raw_2, List.map_append, HKEEP.out]; rfl
              go_wp2_with (at_builtin; go_must (refine wp_app1H (by rfl) _ _ 27 (by rfl) HE z.heap.size z.heap.size z _ #[.string p, .bool false, .string d] _ _ _ (by rfl) wr.heap.size (by simp) (by rfl) hown (by rfl) (by simp [Value.oneCell']) (by omega) hb.size hb (Nat.le_refl _) ?_); intro v' w1 hown1 hbel1 _ _)
              have hown2 : w1.ownsRow z.heap.size 52 3 v' (ms ++ [(⟨p, false, d⟩ : En)]).length ((ms ++ [(⟨p, false, d⟩ : En)]).flatMap En.cells) := by rw [← flat_app]; simpa using hown1
              have hbX := hbel1
              clear hown hb hown1
              have hown := hown2
              have hb := hbX
              clear hown2 hbX
              obtain ⟨ns, hns⟩ : ∃ ns, ms ++ [(⟨p, false, d⟩ : En)] = ns := ⟨_, rfl⟩
              have hnl : ns.length ≤ 17 := by rw [← hns]; simp; omega
              rw [hns] at hown HRAW
              clear hns
              obtain ⟨v1, v2, rfl⟩ := own_shape hown
              go_wp2_with fail
              refine (sortEn_c _ z.heap.size v1 v2 ns hown (by omega)).mono ?_; rintro e W2 ⟨rfl, zs, hp2, hso, _, hz2, hq⟩
              have hzl : ns.length = zs.length := hp2.length_eq.symm
              have HEQ : Hid (zs.map En.pl = L) := by
                rw [Hid, ← HLL.out]
                exact HFIN.out _ (by rw [← HRAW.out]; exact hp2.map _) (by rw [List.pairwise_map]; exact hso)
              go_wp2
              refine bodyPost_ret (v := .tuple #[.slice v1 zs.length v2, .int .i64 0]) (by simp [results, Tryz.results10, go_sem]) rfl ⟨v1, v2, zs, rfl, HEQ.out, own_mono hz2 HBZ.out.size, (HBZ.out.trans (hb.mono HBZ.out.size)).trans (hq.mono HBZ.out.size)⟩
            · have n1 : (k == 1) = false := by rw [beq_eq_false_iff_ne]; exact k1
              have n2 : (k == 2) = false := by rw [beq_eq_false_iff_ne]; exact k2
              have HRAW : Hid (ms.map En.pl = rawL (xs.map En.pl) k p.data.toList t.data.toList d.data.toList) := by rw [Hid, raw_o HK5.out k1 k2, HKEEP.out]
              clear k1 k2
              obtain ⟨v1, v2, rfl⟩ := own_shape hown
              go_wp2_with fail
              refine (sortEn_c _ z.heap.size v1 v2 ms hown (by omega)).mono ?_; rintro e W2 ⟨rfl, zs, hp2, hso, _, hz2, hq⟩
              have hzl : ms.length = zs.length := hp2.length_eq.symm
              have HEQ : Hid (zs.map En.pl = L) := by
                rw [Hid, ← HLL.out]
                exact HFIN.out _ (by rw [← HRAW.out]; exact hp2.map _) (by rw [List.pairwise_map]; exact hso)
              go_wp2
              refine bodyPost_ret (v := .tuple #[.slice v1 zs.length v2, .int .i64 0]) (by simp [results, Tryz.results10, go_sem]) rfl ⟨v1, v2, zs, rfl, HEQ.out, own_mono hz2 HBZ.out.size, (HBZ.out.trans (hb.mono HBZ.out.size)).trans (hq.mono HBZ.out.size)⟩
  · have hC1 : ((C : Int) != 0) = true := by rw [bne_iff_ne]; omega
    have HLX : Hid (xs.map En.pl = L) := by rw [Hid, ← hL, tdo_same htok (by rw [hC]; exact hC0)]
    have HCP := Lib.hid (fun W (h : SlF En.cells W a xs) => copyEnts_c a c xs W h ha (by omega))
    obtain ⟨n, hn⟩ : ∃ n, xs.length = n := ⟨_, rfl⟩
    have HN := Lib.hid hn
    rw [hn] at HT HC HCP ⊢
    clear hn hs hr hL hC htok hzs hx ha hx16 hC0
    go_enter Tryz.func10, Tryz.ntmps10
    go_wp2_with fail
    refine (HT.out _ (HS.out.below hb)).mono ?_; rintro e W ⟨rfl, hq⟩; replace hb := chn hb hq; replace c0 := keepc hq c0; replace c1 := keepc hq c1; replace c2 := keepc hq c2; replace c3 := keepc hq c3; clear hq
    go_wp2_with fail
    refine (HC.out _ (HS.out.below hb)).mono ?_; rintro e W ⟨rfl, hq⟩; replace hb := chn hb hq; clear hq
    go_wp2_with fail
    refine (HCP.out _ (HS.out.below hb)).mono ?_; rintro e W ⟨v, rfl, hown, hq⟩
    have HB := Lib.hid hb
    replace hb := chn hb hq
    obtain ⟨v1, v2, rfl⟩ := own_shape hown
    have HOWN : Hid (OwnEn W w.heap.size (.slice v1 xs.length v2) xs) := by
      have h := own_mono hown HB.out.size
      rw [← HN.out] at h; exact h
    clear hown hq
    go_wp2
    refine bodyPost_ret (v := .tuple #[.slice v1 xs.length v2, .int .i64 (C : Int)]) (by simp [results, Tryz.results10, go_sem, HN.out]) rfl ⟨v1, v2, xs, rfl, HLX.out, HOWN.out, hb⟩
end Go.Proofs.YtnmjidjhloodbaaGreatDoor
namespace Go.Proofs.YtnmjidjhloodbaaGreatDoor
open Go.RowKit
theorem lget_of {xs : List En} {q : ByteArray} (h : q.data.toList ≠ [47]) : lgetE xs q = getE xs q := by unfold lgetE; rw [if_neg h]
theorem path_no_root {q : Bs} (h : pathOkL q = true) : q ≠ [47] := path_ne_root h
set_option maxHeartbeats 4000000 in
theorem l2Up_c (a : Option Addr) (c : Nat) (xs : List En) (q : ByteArray) (m : Nat) (hm : Hid (upCodeL (xs.map En.pl) q.data.toList = m)) (w : World) (hs : SlF En.cells w a xs) (hx : xs.length ≤ maxLen) (hq : q.size ≤ maxLen) :
    Calls Tryz.prog 76 #[.slice a xs.length c, .string q] w fun r w' => r = .returned (.int .i64 m) ∧ Below w.heap.size w w' := by
  have hb := Below.refl w.heap.size w
  obtain ⟨u, hu, hus⟩ := up_str20 q
  obtain ⟨o, ho⟩ : ∃ o, lgetE xs u = o := ⟨_, rfl⟩
  have HM : Hid (m = upC o) := by
    rw [Hid, ← hm.out, upCodeL, hu.out, ← ho, lgetE]
    by_cases h : u.data.toList = [47]
    · rw [if_pos h, if_pos h]; rfl
    · rw [if_neg h, if_neg h, getE_pl]
      cases getE xs u <;> rfl
  have HO := Lib.hid ho
  have HS := Lib.hid hs
  have HG := Lib.hid (fun (q : ByteArray) (o' : Option En) (ho' : Hid (lgetE xs q = o')) W (h : SlF En.cells W a xs) => l2Get_c a c xs q o' ho' W h hx)
  obtain ⟨n, hn⟩ : ∃ n, xs.length = n := ⟨_, rfl⟩
  have HN := Lib.hid hn
  rw [hn] at HG ⊢
  clear ho hs hx hn hm
  cases o with
  | none =>
    obtain rfl : m = 2 := HM.out
    go_enter Tryz.func76, Tryz.ntmps76
    go_wp2_with fail
    refine (sPathUp_c q u hu _ hq).mono ?_; rintro e W ⟨rfl, hq⟩; replace hb := chn hb hq; clear hq
    go_wp2_with fail
    refine (HG.out u _ HO _ (HS.out.below hb)).mono ?_; rintro e W ⟨rfl, hq⟩; replace hb := chn hb hq; clear hq
    go_wp2
    go_ret
    exact ⟨rfl, by repeat (first | exact hb | refine Below.alloc ?_ (by have := hb.size; simp; try omega) _)⟩
  | some e =>
    obtain ⟨ep, ed, ex⟩ := e
    cases ed with
    | true =>
      obtain rfl : m = 0 := HM.out
      go_enter Tryz.func76, Tryz.ntmps76
      go_wp2_with fail
      refine (sPathUp_c q u hu _ hq).mono ?_; rintro e W ⟨rfl, hq⟩; replace hb := chn hb hq; clear hq
      go_wp2_with fail
      refine (HG.out u _ HO _ (HS.out.below hb)).mono ?_; rintro e W ⟨rfl, hq⟩; replace hb := chn hb hq; clear hq
      go_wp2
      go_ret
      exact ⟨rfl, by repeat (first | exact hb | refine Below.alloc ?_ (by have := hb.size; simp; try omega) _)⟩
    | false =>
      obtain rfl : m = 3 := HM.out
      go_enter Tryz.func76, Tryz.ntmps76
      go_wp2_with fail
      refine (sPathUp_c q u hu _ hq).mono ?_; rintro e W ⟨rfl, hq⟩; replace hb := chn hb hq; clear hq
      go_wp2_with fail
      refine (HG.out u _ HO _ (HS.out.below hb)).mono ?_; rintro e W ⟨rfl, hq⟩; replace hb := chn hb hq; clear hq
      go_wp2
      go_ret
      exact ⟨rfl, by repeat (first | exact hb | refine Below.alloc ?_ (by have := hb.size; simp; try omega) _)⟩
set_option maxHeartbeats 4000000 in
theorem l2New_c (a : Option Addr) (c : Nat) (xs : List En) (q : ByteArray) (m : Nat) (hm : Hid (makeC (xs.map En.pl) q.data.toList = m)) (w : World) (hs : SlF En.cells w a xs) (hx : xs.length ≤ maxLen) (hq : q.size ≤ maxLen) (hr : q.data.toList ≠ [47]) :
    Calls Tryz.prog 46 #[.slice a xs.length c, .string q] w fun r w' => r = .returned (.int .i64 m) ∧ Below w.heap.size w w' := by
  have hb := Below.refl w.heap.size w
  obtain ⟨u, hu⟩ : ∃ u, upCodeL (xs.map En.pl) q.data.toList = u := ⟨_, rfl⟩
  obtain ⟨o, ho⟩ : ∃ o, getE xs q = o := ⟨_, rfl⟩
  obtain ⟨n, hn⟩ : ∃ n, xs.length = n := ⟨_, rfl⟩
  have HN := Lib.hid hn
  have HM : Hid (m = if u ≠ 0 then u else if o.isSome = true then 4 else if 16 ≤ n then 8 else 0) := by
    rw [Hid, ← hm.out, makeC, hu, getE_pl, ho, List.length_map, hn, Option.isSome_map]
  have HO : Hid (lgetE xs q = o) := by rw [Hid, lget_of hr]; exact ho
  have HU := Lib.hid (fun W (h : SlF En.cells W a xs) => l2Up_c a c xs q u (Lib.hid hu) W h hx hq)
  have HS := Lib.hid hs
  have HG := Lib.hid (fun (q : ByteArray) (o' : Option En) (ho' : Hid (lgetE xs q = o')) W (h : SlF En.cells W a xs) => l2Get_c a c xs q o' ho' W h hx)
  rw [hn] at HG HU hx ⊢
  clear ho hs hn hm hr hu
  by_cases h0 : u = 0
  · subst h0
    cases o with
    | some e =>
      obtain ⟨ep, ed, ex⟩ := e
      obtain rfl : m = 4 := by rw [HM.out]; rfl
      go_enter Tryz.func46, Tryz.ntmps46
      go_wp2_with fail
      refine (HU.out _ (HS.out.below hb)).mono ?_; rintro e W ⟨rfl, hq⟩; replace hb := chn hb hq; clear hq
      go_wp2_with fail
      refine (HG.out q _ HO _ (HS.out.below hb)).mono ?_; rintro e W ⟨rfl, hq⟩; replace hb := chn hb hq; clear hq
      go_wp2
      go_ret
      exact ⟨rfl, by repeat (first | exact hb | refine Below.alloc ?_ (by have := hb.size; simp; try omega) _)⟩
    | none =>
      by_cases h16 : 16 ≤ n
      · obtain rfl : m = 8 := by rw [HM.out]; simp [h16]
        have g : (16 : Int) ≤ (n : Int) := by omega
        go_enter Tryz.func46, Tryz.ntmps46
        go_wp2_with fail
        refine (HU.out _ (HS.out.below hb)).mono ?_; rintro e W ⟨rfl, hq⟩; replace hb := chn hb hq; clear hq
        go_wp2_with fail
        refine (HG.out q _ HO _ (HS.out.below hb)).mono ?_; rintro e W ⟨rfl, hq⟩; replace hb := chn hb hq; clear hq
        go_wp2
        go_ret
        exact ⟨rfl, by repeat (first | exact hb | refine Below.alloc ?_ (by have := hb.size; simp; try omega) _)⟩
      · obtain rfl : m = 0 := by rw [HM.out]; simp [h16]
        have g : decide ((16 : Int) ≤ (n : Int)) = false := by rw [decide_eq_false_iff_not]; omega
        go_enter Tryz.func46, Tryz.ntmps46
        go_wp2_with fail
        refine (HU.out _ (HS.out.below hb)).mono ?_; rintro e W ⟨rfl, hq⟩; replace hb := chn hb hq; clear hq
        go_wp2_with fail
        refine (HG.out q _ HO _ (HS.out.below hb)).mono ?_; rintro e W ⟨rfl, hq⟩; replace hb := chn hb hq; clear hq
        go_wp2
        go_ret
        exact ⟨rfl, by repeat (first | exact hb | refine Below.alloc ?_ (by have := hb.size; simp; try omega) _)⟩
  · obtain rfl : m = u := by rw [HM.out, if_pos h0]
    have hne : ((m : Int) != 0) = true := by rw [bne_iff_ne]; omega
    cases o with
    | some e =>
      obtain ⟨ep, ed, ex⟩ := e
      go_enter Tryz.func46, Tryz.ntmps46
      go_wp2_with fail
      refine (HU.out _ (HS.out.below hb)).mono ?_; rintro e W ⟨rfl, hq⟩; replace hb := chn hb hq; clear hq
      go_wp2_with fail
      refine (HG.out q _ HO _ (HS.out.below hb)).mono ?_; rintro e W ⟨rfl, hq⟩; replace hb := chn hb hq; clear hq
      go_wp2
      go_ret
      exact ⟨rfl, by repeat (first | exact hb | refine Below.alloc ?_ (by have := hb.size; simp; try omega) _)⟩
    | none =>
      go_enter Tryz.func46, Tryz.ntmps46
      go_wp2_with fail
      refine (HU.out _ (HS.out.below hb)).mono ?_; rintro e W ⟨rfl, hq⟩; replace hb := chn hb hq; clear hq
      go_wp2_with fail
      refine (HG.out q _ HO _ (HS.out.below hb)).mono ?_; rintro e W ⟨rfl, hq⟩; replace hb := chn hb hq; clear hq
      go_wp2
      go_ret
      exact ⟨rfl, by repeat (first | exact hb | refine Below.alloc ?_ (by have := hb.size; simp; try omega) _)⟩
set_option maxHeartbeats 4000000 in
theorem l2PutCode_c (a : Option Addr) (c : Nat) (xs : List En) (q : ByteArray) (m : Nat) (hm : Hid (putC (xs.map En.pl) q.data.toList = m)) (w : World) (hs : SlF En.cells w a xs) (hx : xs.length ≤ maxLen) (hq : q.size ≤ maxLen) (hr : q.data.toList ≠ [47]) :
    Calls Tryz.prog 47 #[.slice a xs.length c, .string q] w fun r w' => r = .returned (.int .i64 m) ∧ Below w.heap.size w w' := by
  have hb := Below.refl w.heap.size w
  obtain ⟨v, hv⟩ : ∃ v, makeC (xs.map En.pl) q.data.toList = v := ⟨_, rfl⟩
  obtain ⟨o, ho⟩ : ∃ o, getE xs q = o := ⟨_, rfl⟩
  have HM : Hid (m = if v = 4 then putO o 0 else v) := by
    rw [Hid, ← hm.out, ← hv]
    unfold putC makeC
    rw [getE_pl, ho]
    rcases upCode_le (xs.map En.pl) q.data.toList with h | h | h
    · rw [h]
      cases o with
      | none =>
        simp only [ne_eq, not_true_eq_false, if_false, Option.map_none, Option.isSome_none, Bool.false_eq_true]
        split <;> rfl
      | some e =>
        simp only [ne_eq, not_true_eq_false, if_false, Option.map_some, Option.isSome_some, if_true]
        rfl
    · rw [h]; rfl
    · rw [h]; rfl
  have HNO : Hid (v = 4 → o ≠ none) := fun h4 hn => by
    rw [← hv] at h4
    unfold makeC at h4
    rw [getE_pl, ho, hn] at h4
    rcases upCode_le (xs.map En.pl) q.data.toList with h | h | h
    · rw [h] at h4
      simp only [ne_eq, not_true_eq_false, if_false, Option.map_none, Option.isSome_none, Bool.false_eq_true] at h4
      split at h4 <;> cases h4
    · rw [h] at h4; cases h4
    · rw [h] at h4; cases h4
  have HO : Hid (lgetE xs q = o) := by rw [Hid, lget_of hr]; exact ho
  have HU := Lib.hid (fun W (h : SlF En.cells W a xs) => l2New_c a c xs q v (Lib.hid hv) W h hx hq hr)
  have HS := Lib.hid hs
  have HG := Lib.hid (fun (q : ByteArray) (o' : Option En) (ho' : Hid (lgetE xs q = o')) W (h : SlF En.cells W a xs) => l2Get_c a c xs q o' ho' W h hx)
  obtain ⟨n, hn⟩ : ∃ n, xs.length = n := ⟨_, rfl⟩
  have HN := Lib.hid hn
  rw [hn] at HG HU hx ⊢
  clear ho hs hn hm hr hv
  by_cases h4 : v = 4
  · subst h4
    cases o with
    | none => exact absurd rfl (HNO.out rfl)
    | some e =>
      obtain ⟨ep, ed, ex⟩ := e
      cases ed with
      | true =>
        obtain rfl : m = 5 := HM.out
        go_enter Tryz.func47, Tryz.ntmps47
        go_wp2_with fail
        refine (HU.out _ (HS.out.below hb)).mono ?_; rintro e W ⟨rfl, hq⟩; replace hb := chn hb hq; clear hq
        go_wp2_with fail
        refine (HG.out q _ HO _ (HS.out.below hb)).mono ?_; rintro e W ⟨rfl, hq⟩; replace hb := chn hb hq; clear hq
        go_wp2
        go_ret
        exact ⟨rfl, by repeat (first | exact hb | refine Below.alloc ?_ (by have := hb.size; simp; try omega) _)⟩
      | false =>
        obtain rfl : m = 0 := HM.out
        go_enter Tryz.func47, Tryz.ntmps47
        go_wp2_with fail
        refine (HU.out _ (HS.out.below hb)).mono ?_; rintro e W ⟨rfl, hq⟩; replace hb := chn hb hq; clear hq
        go_wp2_with fail
        refine (HG.out q _ HO _ (HS.out.below hb)).mono ?_; rintro e W ⟨rfl, hq⟩; replace hb := chn hb hq; clear hq
        go_wp2
        go_ret
        exact ⟨rfl, by repeat (first | exact hb | refine Below.alloc ?_ (by have := hb.size; simp; try omega) _)⟩
  · obtain rfl : m = v := by rw [HM.out, if_neg h4]
    have hne : ((m : Int) == 4) = false := by rw [beq_eq_false_iff_ne]; omega
    cases o with
    | some e =>
      obtain ⟨ep, ed, ex⟩ := e
      go_enter Tryz.func47, Tryz.ntmps47
      go_wp2_with fail
      refine (HU.out _ (HS.out.below hb)).mono ?_; rintro e W ⟨rfl, hq⟩; replace hb := chn hb hq; clear hq
      go_wp2_with fail
      refine (HG.out q _ HO _ (HS.out.below hb)).mono ?_; rintro e W ⟨rfl, hq⟩; replace hb := chn hb hq; clear hq
      go_wp2
      go_ret
      exact ⟨rfl, by repeat (first | exact hb | refine Below.alloc ?_ (by have := hb.size; simp; try omega) _)⟩
    | none =>
      go_enter Tryz.func47, Tryz.ntmps47
      go_wp2_with fail
      refine (HU.out _ (HS.out.below hb)).mono ?_; rintro e W ⟨rfl, hq⟩; replace hb := chn hb hq; clear hq
      go_wp2_with fail
      refine (HG.out q _ HO _ (HS.out.below hb)).mono ?_; rintro e W ⟨rfl, hq⟩; replace hb := chn hb hq; clear hq
      go_wp2
      go_ret
      exact ⟨rfl, by repeat (first | exact hb | refine Below.alloc ?_ (by have := hb.size; simp; try omega) _)⟩
set_option maxHeartbeats 8000000 in
theorem l2OffCode_c (a : Option Addr) (c : Nat) (xs : List En) (k : Int) (p t d : ByteArray) (m : Nat) (hk : k = 3 ∨ k = 4) (hm : Hid (codeL (xs.map En.pl) k p.data.toList t.data.toList = m)) (w : World) (hs : SlF En.cells w a xs) (htok : TOk (xs.map En.pl)) (hpp : pathOkL p.data.toList = true) (hz : ∀ e ∈ xs, e.p.size ≤ maxLen ∧ e.x.size ≤ maxLen) :
    Calls Tryz.prog 49 #[.slice a xs.length c, opV k p t d] w fun r w' => r = .returned (.int .i64 m) ∧ Below w.heap.size w w' := by
  have hx16 : xs.length ≤ 16 := by have := htok.most; rw [List.length_map] at this; exact this
  have hx : xs.length ≤ maxLen := by unfold maxLen; omega
  have c0 := new_cell w (opBox k p t d) 31 0 _ rfl
  have c1 := new_cell w (opBox k p t d) 31 1 _ rfl
  have c2 := new_cell w (opBox k p t d) 31 2 _ rfl
  have c3 := new_cell w (opBox k p t d) 31 3 _ rfl
  have hb := bellow_alloc w (.cells (opBox k p t d) 31)
  obtain ⟨o, ho⟩ : ∃ o, getE xs p = o := ⟨_, rfl⟩
  obtain ⟨L, hL⟩ : ∃ L, kidsL (xs.map En.pl) p.data.toList = L := ⟨_, rfl⟩
  have HK := Lib.hid (fun W (h : SlF En.cells W a xs) => hL ▸ l2Kids_c a c xs p W h (by omega) hz)
  have HO : Hid (lgetE xs p = o) := by rw [Hid, lget_of (path_no_root hpp)]; exact ho
  have hany := kids_any htok (q := p.data.toList)
  have hfile : ∀ e : En, o = some e → e.d = false → L = [] := fun e he hd => by
    rw [← hL]
    exact kids_file htok hpp (e := e.pl) (by rw [getE_pl, ho, he]; rfl) hd
  rw [hL] at hany
  have HS := Lib.hid hs
  have HG := Lib.hid (fun (q : ByteArray) (o' : Option En) (ho' : Hid (lgetE xs q = o')) W (h : SlF En.cells W a xs) => l2Get_c a c xs q o' ho' W h hx)
  rcases hk with rfl | rfl
  · have HM : Hid (m = rmO o) := by
      rw [Hid, ← hm.out, code_3, rmC, getE_pl, ho]
      clear ho HO hfile
      cases o <;> rfl
    have HF := Lib.hid hfile
    obtain ⟨n, hn⟩ : ∃ n, xs.length = n := ⟨_, rfl⟩
    rw [hn] at HG HK hx16 ⊢
    clear ho hs hn hm hL hany hx hfile htok hpp hz
    cases o with
    | none =>
      obtain rfl : m = 2 := HM.out
      go_enter Tryz.func49, Tryz.ntmps49
      go_wp2_with fail
      refine (HG.out p _ HO _ (HS.out.below hb)).mono ?_; rintro e W ⟨rfl, hq⟩; replace hb := chn hb hq; replace c0 := keepc hq c0; replace c1 := keepc hq c1; replace c2 := keepc hq c2; replace c3 := keepc hq c3; clear hq
      go_wp2
      go_ret
      exact ⟨rfl, by repeat (first | exact hb | refine Below.alloc ?_ (by have := hb.size; simp; try omega) _)⟩
    | some e =>
      obtain ⟨ep, ed, ex⟩ := e
      cases ed with
      | true =>
        obtain rfl : m = 5 := HM.out
        go_enter Tryz.func49, Tryz.ntmps49
        go_wp2_with fail
        refine (HG.out p _ HO _ (HS.out.below hb)).mono ?_; rintro e W ⟨rfl, hq⟩; replace hb := chn hb hq; replace c0 := keepc hq c0; replace c1 := keepc hq c1; replace c2 := keepc hq c2; replace c3 := keepc hq c3; clear hq
        replace hb := hb.alloc hb.size (.cells #[.string ep, .bool true, .string ex] 52); replace c0 := keepc (bellow_alloc _ (.cells #[.string ep, .bool true, .string ex] 52)) c0; replace c1 := keepc (bellow_alloc _ (.cells #[.string ep, .bool true, .string ex] 52)) c1; replace c2 := keepc (bellow_alloc _ (.cells #[.string ep, .bool true, .string ex] 52)) c2; replace c3 := keepc (bellow_alloc _ (.cells #[.string ep, .bool true, .string ex] 52)) c3; 
        go_wp2
        go_ret
        exact ⟨rfl, by repeat (first | exact hb | refine Below.alloc ?_ (by have := hb.size; simp; try omega) _)⟩
      | false =>
        obtain rfl : m = 0 := HM.out
        have HL0 := Lib.hid (HF.out ⟨ep, false, ex⟩ rfl rfl)
        clear HF
        go_enter Tryz.func49, Tryz.ntmps49
        go_wp2_with fail
        refine (HG.out p _ HO _ (HS.out.below hb)).mono ?_; rintro e W ⟨rfl, hq⟩; replace hb := chn hb hq; replace c0 := keepc hq c0; replace c1 := keepc hq c1; replace c2 := keepc hq c2; replace c3 := keepc hq c3; clear hq
        replace hb := hb.alloc hb.size (.cells #[.string ep, .bool false, .string ex] 52); replace c0 := keepc (bellow_alloc _ (.cells #[.string ep, .bool false, .string ex] 52)) c0; replace c1 := keepc (bellow_alloc _ (.cells #[.string ep, .bool false, .string ex] 52)) c1; replace c2 := keepc (bellow_alloc _ (.cells #[.string ep, .bool false, .string ex] 52)) c2; replace c3 := keepc (bellow_alloc _ (.cells #[.string ep, .bool false, .string ex] 52)) c3; 
        go_wp2_with fail
        refine (HK.out _ (HS.out.below hb)).mono ?_; rintro e W ⟨v, ss, rfl, hss, oS, hq⟩; replace hb := chn hb hq
        obtain ⟨av, cv, rfl⟩ := own_shape oS
        have HLEN : Hid (ss.length = L.length) := by rw [Hid, ← hss, List.length_map]
        rw [HL0.out] at HLEN
        have h0 : ss.length = 0 := HLEN.out
        have g : decide ((0 : Int) < (ss.length : Int)) = false := by rw [decide_eq_false_iff_not]; omega
        go_wp2
        go_ret
        exact ⟨rfl, by repeat (first | exact hb | refine Below.alloc ?_ (by have := hb.size; simp; try omega) _)⟩
  · obtain ⟨r, hr⟩ : ∃ r, ((xs.map En.pl).any fun e => underL e.p p.data.toList) = r := ⟨_, rfl⟩
    have HM : Hid (m = rmdirO o r) := by
      rw [Hid, ← hm.out, code_4, rmdirC, getE_pl, ho, ← hr]
      clear ho HO hfile
      cases o <;> rfl
    rw [hr] at hany
    have HA := Lib.hid hany
    obtain ⟨n, hn⟩ : ∃ n, xs.length = n := ⟨_, rfl⟩
    rw [hn] at HG HK hx16 ⊢
    clear ho hs hn hm hL hany hx hfile htok hpp hz hr
    cases o with
    | none =>
      obtain rfl : m = 2 := HM.out
      go_enter Tryz.func49, Tryz.ntmps49
      go_wp2_with fail
      refine (HG.out p _ HO _ (HS.out.below hb)).mono ?_; rintro e W ⟨rfl, hq⟩; replace hb := chn hb hq; replace c0 := keepc hq c0; replace c1 := keepc hq c1; replace c2 := keepc hq c2; replace c3 := keepc hq c3; clear hq
      go_wp2
      go_ret
      exact ⟨rfl, by repeat (first | exact hb | refine Below.alloc ?_ (by have := hb.size; simp; try omega) _)⟩
    | some e =>
      obtain ⟨ep, ed, ex⟩ := e
      cases ed with
      | false =>
        obtain rfl : m = 3 := HM.out
        go_enter Tryz.func49, Tryz.ntmps49
        go_wp2_with fail
        refine (HG.out p _ HO _ (HS.out.below hb)).mono ?_; rintro e W ⟨rfl, hq⟩; replace hb := chn hb hq; replace c0 := keepc hq c0; replace c1 := keepc hq c1; replace c2 := keepc hq c2; replace c3 := keepc hq c3; clear hq
        replace hb := hb.alloc hb.size (.cells #[.string ep, .bool false, .string ex] 52); replace c0 := keepc (bellow_alloc _ (.cells #[.string ep, .bool false, .string ex] 52)) c0; replace c1 := keepc (bellow_alloc _ (.cells #[.string ep, .bool false, .string ex] 52)) c1; replace c2 := keepc (bellow_alloc _ (.cells #[.string ep, .bool false, .string ex] 52)) c2; replace c3 := keepc (bellow_alloc _ (.cells #[.string ep, .bool false, .string ex] 52)) c3; 
        go_wp2
        go_ret
        exact ⟨rfl, by repeat (first | exact hb | refine Below.alloc ?_ (by have := hb.size; simp; try omega) _)⟩
      | true =>
        have HM2 : Hid (m = if r = true then 6 else 0) := HM.out
        clear HM
        go_enter Tryz.func49, Tryz.ntmps49
        go_wp2_with fail
        refine (HG.out p _ HO _ (HS.out.below hb)).mono ?_; rintro e W ⟨rfl, hq⟩; replace hb := chn hb hq; replace c0 := keepc hq c0; replace c1 := keepc hq c1; replace c2 := keepc hq c2; replace c3 := keepc hq c3; clear hq
        replace hb := hb.alloc hb.size (.cells #[.string ep, .bool true, .string ex] 52); replace c0 := keepc (bellow_alloc _ (.cells #[.string ep, .bool true, .string ex] 52)) c0; replace c1 := keepc (bellow_alloc _ (.cells #[.string ep, .bool true, .string ex] 52)) c1; replace c2 := keepc (bellow_alloc _ (.cells #[.string ep, .bool true, .string ex] 52)) c2; replace c3 := keepc (bellow_alloc _ (.cells #[.string ep, .bool true, .string ex] 52)) c3; 
        go_wp2_with fail
        refine (HK.out _ (HS.out.below hb)).mono ?_; rintro e W ⟨v, ss, rfl, hss, oS, hq⟩; replace hb := chn hb hq
        obtain ⟨av, cv, rfl⟩ := own_shape oS
        have HLEN : Hid (ss.length = L.length) := by rw [Hid, ← hss, List.length_map]
        cases r with
        | true =>
          obtain rfl : m = 6 := HM2.out
          have hpos : (0 : Int) < (ss.length : Int) := by
            have h1 := HA.out
            have h2 := HLEN.out
            cases L with
            | nil => simp at h1
            | cons x r => simp at h2; omega
          go_wp2
          go_ret
          exact ⟨rfl, by repeat (first | exact hb | refine Below.alloc ?_ (by have := hb.size; simp; try omega) _)⟩
        | false =>
          obtain rfl : m = 0 := HM2.out
          have h0 : ss.length = 0 := by
            have h1 := HA.out
            have h2 := HLEN.out
            cases L with
            | nil => exact h2
            | cons x r => simp at h1
          have g : decide ((0 : Int) < (ss.length : Int)) = false := by rw [decide_eq_false_iff_not]; omega
          go_wp2
          go_ret
          exact ⟨rfl, by repeat (first | exact hb | refine Below.alloc ?_ (by have := hb.size; simp; try omega) _)⟩
end Go.Proofs.YtnmjidjhloodbaaGreatDoor
