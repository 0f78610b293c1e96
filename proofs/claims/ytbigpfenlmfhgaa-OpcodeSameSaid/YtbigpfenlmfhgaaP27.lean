/- A part of the proof that the row of the law holds of the program as translated: lemmas and contracts of its functions. -/
import Derived.Test.YtbigpfenlmfhgaaX27p
import Derived.Test.YtbigpfenlmfhgaaAvP
set_option linter.unusedVariables false
set_option linter.unusedSimpArgs false
namespace Go.AV
/-! ## The claims (chapter 27): what the functions compute -/
abbrev Dev := T_roster_Device
abbrev Tic := T_ticket_Ticket
abbrev kD (d : Dev) : Int := d.Id
abbrev kT (t : Tic) : Int := t.No
def rD (d : Dev) : T_batonref25_Device := ⟨d.Id, d.Times, d.Gone, d.Last⟩
structure RosOk (xs : List Dev) : Prop where
  ord : Ord kD xs
  ids : ∀ d ∈ xs, 0 ≤ d.Id ∧ d.Id < 16
  tms : ∀ d ∈ xs, 1 ≤ d.Times ∧ d.Times ≤ 1000
theorem RosOk.len {xs : List Dev} (h : RosOk xs) : xs.length ≤ 16 := by
  have := Ord.le_len (a := 0) (b := 16) h.ord h.ids (by omega)
  omega
theorem RosOk.put {xs : List Dev} {d : Dev} (h : RosOk xs) (h1 : 0 ≤ d.Id ∧ d.Id < 16) (h2 : 1 ≤ d.Times ∧ d.Times ≤ 1000) : RosOk (putK kD xs d) :=
  ⟨h.ord.put d, fun y hy => by rcases putK_mem hy with rfl | hy; exact h1; exact h.ids y hy, fun y hy => by rcases putK_mem hy with rfl | hy; exact h2; exact h.tms y hy⟩
/-! binary search -/
theorem mid_eq {i j : Int} (h0 : 0 ≤ i) (h1 : i ≤ j) (h2 : j ≤ 4294967296) : w64 (((UInt64.ofNat (((UInt64.ofInt (w64 (i + j)))).toNat / 2 ^ (min (1 : Int).toNat 64))).toNat : Int)) = (i + j) / 2 := by
  rw [w64_id (x := i + j) (by omega) (by omega)]
  have e1 : (UInt64.ofInt (i + j)).toNat = (i + j).toNat := by
    rw [UInt64.ofInt, UInt64.toNat_ofNat']
    omega
  have e2 : (2 : Nat) ^ (min (1 : Int).toNat 64) = 2 := by decide
  rw [e1, e2, UInt64.toNat_ofNat']
  have e3 : (i + j).toNat / 2 % 2 ^ 64 = (i + j).toNat / 2 := Nat.mod_eq_of_lt (by omega)
  rw [e3, w64_id (by omega) (by omega)]
  omega
theorem cmp_eq (a b : Int) : F_cmp_Compare_int a b = some (if a < b then -1 else if a > b then 1 else 0) := by
  simp only [F_cmp_Compare_int, F_cmp_isNaN_int, ne_eq, not_true_eq_false, if_false, Option.bind_some, Bool.false_eq_true]
  by_cases h1 : a < b
  · simp [h1]
  · by_cases h2 : a > b <;> simp [h1, h2]
theorem place_eq {xs : List Dev} {id : Int} (ho : Ord kD xs) (hl : xs.length ≤ 4294967296) : ∃ (p : Nat) (b : Bool), F_roster_place xs id = some ((p : Int), b) ∧ Place kD xs id p b := by
  have key : ∃ o, F_slices_BinarySearchFunc_int xs id (fun z0 z1 => F_roster_place_1 z0 z1) = some o ∧ ∃ p : Nat, o.1 = (p : Int) ∧ Place kD xs id p o.2 := by
    unfold F_slices_BinarySearchFunc_int
    refine loop_inv (fun n s => ∃ i j : Nat, s = ((i : Int), (j : Int)) ∧ i ≤ j ∧ j ≤ xs.length ∧ n = j - i ∧ (∀ k x, k < i → xs[k]? = some x → kD x < id) ∧ (∀ k x, j ≤ k → xs[k]? = some x → id ≤ kD x)) _ ?_ xs.length _ ⟨0, xs.length, rfl, by omega, Nat.le_refl _, by omega, fun k x h => by omega, fun k x h hx => by have := (List.getElem?_eq_some_iff.1 hx).1; omega⟩
    rintro n s ⟨i, j, rfl, hij, hj, rfl, hA, hB⟩
    simp only [slices_BinarySearchFunc_int_l1]
    by_cases h : (i : Int) < (j : Int)
    · left
      rw [mid_eq (by omega) (by omega) (by omega)]
      have hm0 : 0 ≤ ((i : Int) + j) / 2 := by omega
      obtain ⟨m, hm⟩ : ∃ m : Nat, ((i : Int) + j) / 2 = (m : Int) := ⟨(((i : Int) + j) / 2).toNat, by omega⟩
      have hmj : m < xs.length := by omega
      have hmx : xs[m]? = some xs[m] := List.getElem?_eq_getElem hmj
      rw [hm, ixN, hmx]
      simp only [h, if_true, Option.bind_some, F_roster_place_1, cmp_eq, bind_if]
      by_cases hc : xs[m].Id < id
      · refine ⟨_, j - (m + 1), ?_, by simp [hc]; rfl, m + 1, j, ?_, by omega, hj, rfl, fun k x hk hx => ?_, hB⟩
        · omega
        · rw [w64_id (by omega) (by omega)]; simp
        · rcases Nat.lt_or_ge k (m + 1) with _ | _
          · rcases Nat.lt_or_eq_of_le (show k ≤ m by omega) with hlt | rfl
            · have := ho.get_lt hx hmx hlt
              show kD x < id
              have : kD xs[m] < id := hc
              omega
            · rw [hmx] at hx; injection hx with hx; subst hx; exact hc
          · omega
      · refine ⟨_, m - i, ?_, by simp [hc]; split <;> omega, i, m, rfl, by omega, by omega, rfl, hA, fun k x hk hx => ?_⟩
        · omega
        · rcases Nat.lt_or_eq_of_le hk with hlt | rfl
          · have := ho.get_lt hmx hx hlt
            have : ¬ kD xs[m] < id := hc
            omega
          · rw [hmx] at hx; injection hx with hx; subst hx
            have : ¬ kD xs[m] < id := hc
            omega
    · right
      obtain rfl : i = j := by omega
      simp only [h, if_false, Option.bind_some, Bool.false_eq_true]
      by_cases hi : (i : Int) < (xs.length : Int)
      · have hix : xs[i]? = some xs[i] := List.getElem?_eq_getElem (by omega)
        rw [ixN, hix]
        simp only [hi, if_true, Option.bind_some, F_roster_place_1, cmp_eq, bind_if, map_if, Option.map_some]
        by_cases hc : xs[i].Id = id
        · refine ⟨_, by simp [hc]; rfl, i, rfl, by omega, hA, hB, ?_⟩
          exact ⟨fun _ => ⟨_, hix, hc⟩, fun _ => rfl⟩
        · refine ⟨((i : Int), false), ?_, i, rfl, by omega, hA, hB, ?_⟩
          · have h1 : ¬ (if xs[i].Id < id then (-1 : Int) else if xs[i].Id > id then 1 else 0) = 0 := by repeat' split <;> omega
            simp only [h1, if_false]
          · constructor
            · intro h; cases h
            · rintro ⟨d, hd, he⟩; rw [hix] at hd; injection hd with hd; subst hd; exact absurd he hc
      · simp only [hi, if_false, Option.map_some]
        refine ⟨_, rfl, i, rfl, by omega, hA, hB, ?_⟩
        constructor
        · intro h; cases h
        · rintro ⟨d, hd, he⟩; have := (List.getElem?_eq_some_iff.1 hd).1; omega
  obtain ⟨o, h1, p, h2, h3⟩ := key
  refine ⟨p, o.2, ?_, h3⟩
  unfold F_roster_place
  rw [h1]
  simp [← h2]
theorem place_cases {xs : List Dev} {id : Int} (h : RosOk xs) : (∃ (p : Nat) (d : Dev), F_roster_place xs id = some ((p : Int), true) ∧ Place kD xs id p true ∧ xs[p]? = some d ∧ d.Id = id ∧ findK kD xs id = some d) ∨ (∃ p : Nat, F_roster_place xs id = some ((p : Int), false) ∧ Place kD xs id p false ∧ findK kD xs id = none) := by
  obtain ⟨p, b, h1, h2⟩ := place_eq (id := id) h.ord (by have := h.len; omega)
  have h3 := findK_place h.ord h2
  cases b with
  | true =>
    obtain ⟨d, hd, he⟩ := h2.2.2.2.1 rfl
    exact .inl ⟨p, d, h1, h2, hd, he, by rw [h3, if_pos rfl, hd]⟩
  | false => exact .inr ⟨p, h1, h2, by rw [h3]; rfl⟩
theorem cloneR {xs : List Dev} (h : xs.length ≤ 1000) : F_slices_Clone_roster_Device xs = some xs := by
  unfold F_slices_Clone_roster_Device
  rw [app_of (by simp; omega)]
  rfl
theorem cloneT {xs : List Tic} (h : xs.length ≤ 1000) : F_slices_Clone_ticket_Ticket xs = some xs := by
  unfold F_slices_Clone_ticket_Ticket
  rw [app_of (by simp; omega)]
  rfl
/-! what the ops of a roster make of it -/
def thereS (xs : List Dev) (id : Int) : Int := match findK kD xs id with
  | none => 11
  | some d => if d.Gone = true then 15 else 0
def enrolS (xs : List Dev) (id : Int) : List Dev × Int :=
  if id < 0 ∨ 15 < id then (xs, 1) else match findK kD xs id with
  | none => (putK kD xs ⟨id, 1, false, 0⟩, 0)
  | some d => if ¬ d.Gone = true then (xs, 12) else if 1000 ≤ d.Times then (xs, 16) else (putK kD xs ⟨id, d.Times + 1, false, 0⟩, 0)
def revokeS (xs : List Dev) (id : Int) : List Dev × Int :=
  if thereS xs id ≠ 0 then (xs, thereS xs id) else match findK kD xs id with
  | none => (xs, 11)
  | some d => (putK kD xs ⟨d.Id, d.Times, true, d.Last⟩, 0)
def acceptS (xs : List Dev) (id rq : Int) : List Dev × Int :=
  if thereS xs id ≠ 0 then (xs, thereS xs id) else match findK kD xs id with
  | none => (xs, 11)
  | some d => if rq ≤ d.Last ∨ rq > 281474976710656 then (xs, 20) else (putK kD xs ⟨d.Id, d.Times, d.Gone, rq⟩, 0)
theorem there_eq {xs : List Dev} {id : Int} (h : RosOk xs) : (thereS xs id ≠ 0 ∧ F_roster_there xs id = some (0, thereS xs id)) ∨ (thereS xs id = 0 ∧ ∃ (p : Nat) (d : Dev), F_roster_there xs id = some ((p : Int), 0) ∧ F_roster_place xs id = some ((p : Int), true) ∧ Place kD xs id p true ∧ xs[p]? = some d ∧ d.Id = id ∧ findK kD xs id = some d ∧ d.Gone = false) := by
  rcases place_cases (id := id) h with ⟨p, d, h1, h2, h3, h4, h5⟩ | ⟨p, h1, h2, h3⟩
  · cases hg : d.Gone with
    | true => left; simp [F_roster_there, h1, thereS, h5, hg, ixN, h3]
    | false => right; refine ⟨by simp [thereS, h5, hg], p, d, ?_, h1, h2, h3, h4, h5, hg⟩; simp [F_roster_there, h1, ixN, h3, hg]
  · left; simp [F_roster_there, h1, thereS, h3]
theorem dev_mem {xs : List Dev} {p : Nat} {d : Dev} (h : xs[p]? = some d) : d ∈ xs := List.mem_of_getElem? h
theorem enrol_eq {xs : List Dev} {id : Int} (h : RosOk xs) : F_roster_Enrol xs id = some (enrolS xs id) := by
  have hl := h.len
  unfold F_roster_Enrol
  rw [cloneR (by omega)]
  simp only [Option.bind_some]
  by_cases h0 : id < 0
  · rcases place_cases (id := id) h with ⟨p, d, h1, _⟩ | ⟨p, h1, _⟩ <;> simp [h1, h0, enrolS]
  by_cases h15 : 15 < id
  · have : id ≥ 16 := by omega
    rcases place_cases (id := id) h with ⟨p, d, h1, _⟩ | ⟨p, h1, _⟩ <;> simp [h1, h0, enrolS, h15, this]
  have h16 : ¬ id ≥ 16 := by omega
  rcases place_cases (id := id) h with ⟨p, d, h1, h2, h3, h4, h5⟩ | ⟨p, h1, h2, h3⟩
  · have ht := h.tms d (dev_mem h3)
    cases hg : d.Gone with
    | true =>
      by_cases hm : 1000 ≤ d.Times
      · simp [h1, h0, h16, enrolS, h15, ixN, h3, h5, hg, hm]
      · have e1 : w64 (d.Times + 1) = d.Times + 1 := w64_id (by omega) (by omega)
        have e2 := putK_place (d' := (⟨id, d.Times + 1, false, 0⟩ : Dev)) h2
        simp only [if_true] at e2
        simp [h1, h0, h16, enrolS, h15, ixN, h3, h5, hg, hm, e1, e2]
    | false => simp [h1, h0, h16, enrolS, h15, ixN, h3, h5, hg]
  · have e2 := putK_place (d' := (⟨id, 1, false, 0⟩ : Dev)) h2
    have hp := h2.1
    simp only [Bool.false_eq_true, if_false] at e2
    have e3 : F_slices_Insert_roster_Device xs (p : Int) [⟨id, 1, false, 0⟩] = some (putK kD xs ⟨id, 1, false, 0⟩) := by
      unfold F_slices_Insert_roster_Device
      rw [if_pos ⟨by omega, by omega, rfl, by omega⟩, e2]
      rfl
    simp [h1, h0, h16, enrolS, h15, h3, e3]
theorem revoke_eq {xs : List Dev} {id : Int} (h : RosOk xs) : F_roster_Revoke xs id = some (revokeS xs id) := by
  have hl := h.len
  unfold F_roster_Revoke
  rw [cloneR (by omega)]
  simp only [Option.bind_some]
  rcases there_eq (id := id) h with ⟨h1, h2⟩ | ⟨h0, p, d, h1, _, h2, h3, h4, h5, h6⟩
  · simp [h2, h1, revokeS]
  · have e2 := putK_place (key := kD) (xs := xs) (p := p) (b := true) (d' := (⟨d.Id, d.Times, true, d.Last⟩ : Dev)) (by rw [show kD ⟨d.Id, d.Times, true, d.Last⟩ = id from h4]; exact h2)
    simp only [if_true] at e2
    simp [h1, revokeS, h0, h5, ixN, h3, e2]
theorem accept_eq {xs : List Dev} {id rq : Int} (h : RosOk xs) : F_roster_Accept xs id rq = some (acceptS xs id rq) := by
  have hl := h.len
  unfold F_roster_Accept
  rw [cloneR (by omega)]
  simp only [Option.bind_some]
  unfold F_roster_May
  rcases there_eq (id := id) h with ⟨h1, h2⟩ | ⟨h0, p, d, h1, h9, h2, h3, h4, h5, h6⟩
  · simp [h2, h1, acceptS]
  · have e2 := putK_place (key := kD) (xs := xs) (p := p) (b := true) (d' := (⟨d.Id, d.Times, d.Gone, rq⟩ : Dev)) (by rw [show kD ⟨d.Id, d.Times, d.Gone, rq⟩ = id from h4]; exact h2)
    simp only [if_true] at e2
    by_cases ha : rq ≤ d.Last
    · simp [h1, acceptS, h0, h5, ixN, h3, ha]
    · by_cases hb : rq > 281474976710656
      · simp [h1, acceptS, h0, h5, ixN, h3, ha, hb]
      · simp [h1, acceptS, h0, h5, ixN, h3, ha, hb, h9, e2]
theorem find_eq {xs : List Dev} {id : Int} (h : RosOk xs) : F_roster_Find xs id = some (match findK kD xs id with | some d => (d, true) | none => (⟨0, 0, false, 0⟩, false)) := by
  unfold F_roster_Find
  rcases place_cases (id := id) h with ⟨p, d, h1, h2, h3, h4, h5⟩ | ⟨p, h1, h2, h3⟩
  · simp [h1, ixN, h3, h5]
  · simp [h1, h3]
/-! .. and they keep it right -/
theorem findK_some {xs : List Dev} {id : Int} {d : Dev} (h : findK kD xs id = some d) : d ∈ xs ∧ d.Id = id := by
  unfold findK at h
  have h1 := List.mem_of_find?_eq_some h
  have h2 := List.find?_some h
  exact ⟨h1, by simpa using h2⟩
theorem enrol_ok {xs : List Dev} {id : Int} (h : RosOk xs) : RosOk (enrolS xs id).1 := by
  unfold enrolS
  split
  · exact h
  · split
    · exact h.put ⟨by simp; omega, by simp; omega⟩ ⟨by simp, by simp⟩
    · rename_i d hd
      have ht := h.tms d (findK_some hd).1
      split
      · exact h
      · split
        · exact h
        · exact h.put ⟨by simp; omega, by simp; omega⟩ ⟨by simp; omega, by simp; omega⟩
theorem revoke_ok {xs : List Dev} {id : Int} (h : RosOk xs) : RosOk (revokeS xs id).1 := by
  unfold revokeS
  split
  · exact h
  · split
    · exact h
    · rename_i d hd
      have hm := (findK_some hd).1
      exact h.put (h.ids d hm) (h.tms d hm)
theorem accept_ok {xs : List Dev} {id rq : Int} (h : RosOk xs) : RosOk (acceptS xs id rq).1 := by
  unfold acceptS
  split
  · exact h
  · split
    · exact h
    · rename_i d hd
      have hm := (findK_some hd).1
      split
      · exact h
      · exact h.put (h.ids d hm) (h.tms d hm)
/-! ### tickets -/
theorem iff_scan {xs : List Tic} {q : Tic → Option Bool} {p : Tic → Bool} (hq : ∀ t, q t = some (p t)) (hl : xs.length ≤ 1000) : F_slices_IndexFunc_ticket_Ticket xs q = some (scanI (fun i t => if p t = true then some (i : Int) else none) (-1) 0 xs) := by
  unfold F_slices_IndexFunc_ticket_Ticket
  refine loop_scan0 _ _ ?_ ?_
  · intro i v hv
    have hlt := (List.getElem?_eq_some_iff.1 hv).1
    have h1 : (i : Int) < (xs.length : Int) := by omega
    simp only [slices_IndexFunc_ticket_Ticket_l1, h1, if_true, ixN, hv, Option.bind_some, hq, w64_succ (show i < 4611686018427387904 by omega)]
    cases p v <;> simp
  · simp [slices_IndexFunc_ticket_Ticket_l1]
theorem scan_idx (p : Tic → Bool) : ∀ (xs : List Tic) (i : Nat), scanI (fun i t => if p t = true then some (i : Int) else none) (-1) i xs = match xs.findIdx? p with | some k => ((i + k : Nat) : Int) | none => -1
  | [], i => rfl
  | x :: xs, i => by
    rw [List.findIdx?_cons]
    cases hp : p x with
    | true => simp [scanI, hp]
    | false =>
      simp only [scanI, hp, Bool.false_eq_true, if_false, Option.getD_none]
      rw [scan_idx p xs (i + 1)]
      cases xs.findIdx? p with
      | none => rfl
      | some k => show ((i + 1 + k : Nat) : Int) = ((i + (k + 1) : Nat) : Int); congr 1; omega
theorem idx_eq {xs : List Tic} {q : Tic → Option Bool} {p : Tic → Bool} (hq : ∀ t, q t = some (p t)) (hl : xs.length ≤ 1000) : F_slices_IndexFunc_ticket_Ticket xs q = some (match xs.findIdx? p with | some k => ((k : Nat) : Int) | none => -1) := by
  rw [iff_scan hq hl, scan_idx]
  cases xs.findIdx? p <;> simp
/-- the rounds of DeleteFunc: what is kept so far, what is still to be seen -/
theorem del_loop {q : Tic → Option Bool} {p : Tic → Bool} (hq : ∀ t, q t = some (p t)) {ys : List Tic} (hl : ys.length ≤ 1000) :
    ∀ (n : Nat) (cur : List Tic) (i j : Nat), j + n = cur.length → i ≤ j → cur.length = ys.length → cur.drop j = ys.drop j →
      loopO (slices_DeleteFunc_ticket_Ticket_l2 q) (cur, (i : Int), (j : Int)) = some (cur.take i ++ (ys.drop j).filter (fun t => !p t)) := by
  intro n
  induction n with
  | zero =>
    intro cur i j hj hij hc hd
    obtain rfl : j = cur.length := by omega
    refine loop_out ?_
    have h1 : ¬ ((cur.length : Int) < (cur.length : Int)) := by omega
    have h2 : cutO cur (i : Int) (cur.length : Int) = some (cur.drop i) := by rw [cut_of (by omega) (by omega) (by omega)]; congr 1; rw [Int.toNat_natCast, List.take_of_length_le (by rw [List.length_drop]; omega)]
    have h3 : cutO (cur.take i) 0 (i : Int) = some (cur.take i) := by rw [cut_of (by omega) (by omega) (by rw [List.length_take]; omega)]; congr 1; rw [show (0 : Int).toNat = 0 from rfl, List.drop_zero, List.take_of_length_le (by rw [List.length_take]; omega)]
    have h4 : ys.drop cur.length = [] := by rw [hc]; exact List.drop_length
    simp only [slices_DeleteFunc_ticket_Ticket_l2, h1, if_false, Option.bind_some, Bool.false_eq_true, h2, Int.toNat_natCast, h3, Option.map_some, h4, List.filter_nil, List.append_nil]
  | succ n ih =>
    intro cur i j hj hij hc hd
    have hlt : j < cur.length := by omega
    have hlt' : j < ys.length := by omega
    have h1 : (j : Int) < (cur.length : Int) := by omega
    have hcj : cur[j]? = some ys[j] := by
      have e1 : cur[j]? = (cur.drop j)[0]? := by rw [List.getElem?_drop]; rfl
      rw [e1, hd, List.getElem?_drop]
      exact List.getElem?_eq_getElem hlt'
    have hdj : cur.drop (j + 1) = ys.drop (j + 1) := by rw [← List.drop_drop, ← List.drop_drop, hd]
    rw [List.drop_eq_getElem_cons hlt', List.filter_cons]
    cases hp : p ys[j] with
    | true =>
      have hs : slices_DeleteFunc_ticket_Ticket_l2 q (cur, (i : Int), (j : Int)) = some (.inl (cur, (i : Int), ((j + 1 : Nat) : Int))) := by
        simp only [slices_DeleteFunc_ticket_Ticket_l2, h1, if_true, Option.bind_some, ixN, hcj, hq, hp, w64_succ (show j < 4611686018427387904 by omega)]
      rw [loop_next hs, ih cur i (j + 1) (by omega) (by omega) hc hdj]
      simp only [hp, Bool.not_true, Bool.false_eq_true, if_false]
    | false =>
      have hci : cur[i]? = some cur[i] := List.getElem?_eq_getElem (by omega)
      have hs : slices_DeleteFunc_ticket_Ticket_l2 q (cur, (i : Int), (j : Int)) = some (.inl (cur.set i ys[j], ((i + 1 : Nat) : Int), ((j + 1 : Nat) : Int))) := by
        simp only [slices_DeleteFunc_ticket_Ticket_l2, h1, if_true, Option.bind_some, ixN, hcj, hq, hp, w64_succ (show j < 4611686018427387904 by omega), w64_succ (show i < 4611686018427387904 by omega), Bool.false_eq_true, if_false, hci, Int.toNat_natCast]
      rw [loop_next hs, ih (cur.set i ys[j]) (i + 1) (j + 1) (by simp; omega) (by omega) (by simp; exact hc) (by rw [List.drop_set_of_lt (by omega)]; exact hdj)]
      have e2 : (cur.set i ys[j]).take (i + 1) = cur.take i ++ [ys[j]] := by
        rw [List.take_add_one, List.take_set_of_le (Nat.le_refl _)]
        simp [show i < cur.length by omega]
      rw [e2]
      simp only [hp, Bool.not_false, if_true, List.append_assoc, List.singleton_append]
theorem live_eq {xs : List Tic} {now : Int} (hl : xs.length ≤ 1000) : F_ticket_Live xs now = some (xs.filter (fun t => !decide (t.Until < now))) := by
  have hq : ∀ t : Tic, (fun z0 => F_ticket_Live_1 z0 now) t = some (decide (t.Until < now)) := by intro t; simp only [F_ticket_Live_1]; by_cases h : t.Until < now <;> simp [h]
  unfold F_ticket_Live
  rw [cloneT hl]
  simp only [Option.bind_some, F_slices_DeleteFunc_ticket_Ticket]
  rw [idx_eq hq hl]
  simp only [Option.bind_some]
  cases hf : xs.findIdx? (fun t => decide (t.Until < now)) with
  | none =>
    have h1 : xs.filter (fun t => !decide (t.Until < now)) = xs := by
      rw [List.filter_eq_self]
      intro t ht
      have := List.findIdx?_eq_none_iff.1 hf t ht
      simp only [this]; rfl
    simp [h1]
  | some k =>
    obtain ⟨hk, hpk, hmin⟩ := List.findIdx?_eq_some_iff_getElem.1 hf
    have h1 : ¬ ((k : Int) = -1) := by omega
    simp only [h1, if_false, Option.bind_some, Bool.false_eq_true, w64_succ (show k < 4611686018427387904 by omega)]
    rw [del_loop hq hl (xs.length - (k + 1)) xs k (k + 1) (by omega) (by omega) rfl rfl]
    simp only [Option.bind_some]
    congr 1
    have e0 : xs.filter (fun t => !decide (t.Until < now)) = (xs.take k).filter (fun t => !decide (t.Until < now)) ++ (xs.drop k).filter (fun t => !decide (t.Until < now)) := by rw [← List.filter_append, List.take_append_drop]
    rw [e0, List.drop_eq_getElem_cons hk, List.filter_cons]
    have e1 : (xs.take k).filter (fun t => !decide (t.Until < now)) = xs.take k := by
      rw [List.filter_eq_self]
      intro t ht
      obtain ⟨j, hj, rfl⟩ := List.getElem_of_mem ht
      rw [List.length_take] at hj
      rw [List.getElem_take]
      have := hmin j (by omega)
      simpa using this
    rw [e1]
    simp at hpk
    simp [hpk]
structure TicOk (nx : Int) (xs : List Tic) : Prop where
  ord : Ord kT xs
  one : ∀ t ∈ xs, 1 ≤ t.No ∧ -1 ≤ t.For ∧ t.No < nx
  len : xs.length ≤ 24
theorem TicOk.filter {nx : Int} {xs : List Tic} (h : TicOk nx xs) (p : Tic → Bool) : TicOk nx (xs.filter p) :=
  ⟨List.Pairwise.filter _ h.ord, fun t ht => h.one t (List.mem_filter.1 ht).1, Nat.le_trans (List.length_filter_le _ _) h.len⟩
theorem TicOk.nil (nx : Int) : TicOk nx [] := ⟨List.Pairwise.nil, (fun t h => by cases h), by simp⟩
def oneB (t : Tic) : Bool := decide (1 ≤ t.No ∧ t.No ≤ 281474976710656 ∧ -1 ≤ t.For ∧ t.For < 16 ∧ 0 ≤ t.Until ∧ t.Until ≤ 281474976710656)
theorem one_eq (t : Tic) : F_ticket_one t = some (oneB t) := by
  unfold F_ticket_one oneB
  by_cases h1 : t.No ≥ 1 <;> by_cases h2 : t.No ≤ 281474976710656 <;> by_cases h3 : t.For ≥ -1 <;> by_cases h4 : t.For < 16 <;> by_cases h5 : t.Until ≥ 0 <;> by_cases h6 : t.Until ≤ 281474976710656 <;> simp [h1, h2, h3, h4, h5, h6] <;> omega
theorem TicOk.snoc {nx : Int} {xs : List Tic} {t : Tic} (h : TicOk nx xs) (h1 : oneB t = true) (hn : t.No = nx) (hl : xs.length < 24) : TicOk (nx + 1) (xs ++ [t]) := by
  simp only [oneB, decide_eq_true_eq] at h1
  refine ⟨List.pairwise_append.2 ⟨h.ord, List.pairwise_singleton _ _, fun a ha b hb => ?_⟩, fun y hy => ?_, by simp; omega⟩
  · rw [List.mem_singleton] at hb; subst hb
    have := (h.one a ha).2.2
    show a.No < b.No
    omega
  · rcases List.mem_append.1 hy with hy | hy
    · have := h.one y hy; omega
    · rw [List.mem_singleton] at hy; subst hy; omega
def issueT (xs : List Tic) (t : Tic) : List Tic × Int := if oneB t = false then (xs, 1) else if xs.length ≥ 24 then (xs, 2) else (xs ++ [t], 0)
theorem issueT_eq {xs : List Tic} {t : Tic} (h : TicOk t.No xs) : F_ticket_Issue xs t = some (issueT xs t) := by
  have hl := h.len
  unfold F_ticket_Issue
  rw [cloneT (by omega), one_eq]
  simp only [Option.bind_some, issueT]
  cases h1 : oneB t with
  | false => simp
  | true =>
    simp only [if_true, bind_if, Option.bind_some, Bool.false_eq_true, if_false]
    by_cases h0 : (xs.length : Int) > 0
    · have hx : xs[xs.length - 1]? = some xs[xs.length - 1] := List.getElem?_eq_getElem (by omega)
      have h2 := h.one _ (List.mem_of_getElem? hx)
      have h3 : ¬ t.No ≤ xs[xs.length - 1].No := by omega
      have e1 : w64 ((xs.length : Int) - 1) = ((xs.length - 1 : Nat) : Int) := by rw [w64_id (by omega) (by omega)]; omega
      simp only [h0, if_true, e1, ixN, hx, Option.bind_some, h3, if_false, bind_if, Bool.false_eq_true]
      by_cases h24 : xs.length ≥ 24
      · have : (xs.length : Int) ≥ 24 := by omega
        simp [this, h24]
      · have : ¬ (xs.length : Int) ≥ 24 := by omega
        rw [app_of (by simp; omega)]
        simp [this, h24]
    · have h24 : ¬ (xs.length : Int) ≥ 24 := by omega
      have h25 : ¬ xs.length ≥ 24 := by omega
      rw [app_of (by simp; omega)]
      simp only [h0, h24, h25, if_false, Option.bind_some, Bool.false_eq_true]
      simp
def useS (xs : List Tic) (no device now : Int) : Int := match xs.find? (fun t => t.No == no) with
  | none => 13
  | some t => if t.For ≥ 0 ∧ t.For ≠ device then 13 else if t.Until < now then 14 else 0
theorem find_idx {xs : List Tic} {p : Tic → Bool} : (xs.findIdx? p = none ∧ xs.find? p = none) ∨ (∃ k t, xs.findIdx? p = some k ∧ xs[k]? = some t ∧ xs.find? p = some t) := by
  cases h : xs.findIdx? p with
  | none =>
    refine .inl ⟨rfl, ?_⟩
    rw [List.find?_eq_none]
    intro x hx
    have := List.findIdx?_eq_none_iff.1 h x hx
    simp [this]
  | some k =>
    obtain ⟨hk, hpk, hmin⟩ := List.findIdx?_eq_some_iff_getElem.1 h
    refine .inr ⟨k, xs[k], rfl, List.getElem?_eq_getElem hk, ?_⟩
    rw [List.find?_eq_some_iff_getElem]
    exact ⟨hpk, k, hk, rfl, fun j hj => by have := hmin j hj; simpa using this⟩
theorem use_eq {xs : List Tic} {no device now : Int} (hl : xs.length ≤ 1000) : F_ticket_Use xs no device now = some (useS xs no device now) := by
  have hq : ∀ t : Tic, (fun z0 => F_ticket_Use_1 z0 no) t = some (t.No == no) := by intro t; simp only [F_ticket_Use_1]; by_cases h : t.No = no <;> simp [h]
  unfold F_ticket_Use
  rw [idx_eq hq hl]
  simp only [Option.bind_some, useS]
  rcases find_idx (xs := xs) (p := fun t => t.No == no) with ⟨h1, h2⟩ | ⟨k, t, h1, h2, h3⟩
  · simp [h1, h2]
  · have h4 : ¬ ((k : Int) < 0) := by omega
    rw [h1, h3]
    simp only [h4, if_false, ixN, h2, Option.bind_some, bind_if]
    by_cases h5 : t.For ≥ 0
    · by_cases h6 : t.For ≠ device
      · simp [h5, h6]
      · by_cases h7 : t.Until < now <;> simp [h5, h6, h7]
    · by_cases h7 : t.Until < now <;> simp [h5, h7]
/-! ### the session's state -/
abbrev Sta := T_claim_State
abbrev OpC := T_claim_Op
structure StaOk (s : Sta) : Prop where
  ep : 0 ≤ s.Epoch ∧ s.Epoch ≤ 1099511627776
  nx : 1 ≤ s.Next ∧ s.Next ≤ 281474976710656
  ros : RosOk s.Roster
  tic : TicOk s.Next s.Tickets
def moveS (s : Sta) (to : Int) : Sta × Int := if s.Epoch ≥ 1099511627776 then (s, 16) else (⟨s.Epoch + 1, to, s.Next, s.Roster, []⟩, 0)
def whomS (s : Sta) (id : Int) : Int := if id = -1 then 0 else if id < 0 ∨ id ≥ 16 then 1 else thereS s.Roster id
def liveT (xs : List Tic) (now : Int) : List Tic := xs.filter (fun t => !decide (t.Until < now))
def issueS (s : Sta) (o : OpC) : Sta × Int :=
  if s.Owner ≠ o.Device then (s, 10) else if whomS s o.For ≠ 0 then (s, whomS s o.For) else if s.Next ≥ 281474976710656 then (s, 16) else
  if (issueT (liveT s.Tickets o.Now) ⟨s.Next, o.For, o.Until⟩).2 ≠ 0 then (s, (issueT (liveT s.Tickets o.Now) ⟨s.Next, o.For, o.Until⟩).2) else
  (⟨s.Epoch, s.Owner, s.Next + 1, s.Roster, (issueT (liveT s.Tickets o.Now) ⟨s.Next, o.For, o.Until⟩).1⟩, 0)
def withR (s : Sta) (l : List Dev) : Sta := ⟨s.Epoch, s.Owner, s.Next, l, s.Tickets⟩
def askedS (s : Sta) (o : OpC) : Sta × Int :=
  let a := acceptS s.Roster o.Device o.Request
  if a.2 ≠ 0 then (s, a.2) else if o.Kind = 3 then issueS (withR s a.1) o else
  if o.Kind = 4 ∧ useS s.Tickets o.Ticket o.Device o.Now ≠ 0 then (withR s a.1, useS s.Tickets o.Ticket o.Device o.Now) else moveS (withR s a.1) o.Device
def revS (s : Sta) (id : Int) : Sta × Int :=
  let a := revokeS s.Roster id
  if a.2 ≠ 0 then (s, a.2) else if s.Owner = id then moveS (withR s a.1) (-1) else (withR s a.1, 0)
def rawS (s : Sta) (o : OpC) : Sta × Int :=
  if o.Kind = 1 then (withR s (enrolS s.Roster o.Device).1, (enrolS s.Roster o.Device).2) else
  if o.Kind = 2 then revS s o.Device else
  if o.Kind = 3 ∨ o.Kind = 4 ∨ o.Kind = 5 then askedS s o else if o.Kind = 6 then moveS s (-1) else (s, 7)
def doS (s : Sta) (o : OpC) : Sta × Int := if (rawS s o).2 ≠ 0 then (s, (rawS s o).2) else rawS s o
theorem move_eq {s : Sta} {to : Int} (h : 0 ≤ s.Epoch) : F_claim_State_move s to = some (moveS s to) := by
  unfold F_claim_State_move moveS
  by_cases h1 : s.Epoch ≥ 1099511627776
  · simp [h1]
  · simp [h1, w64_id (show -9223372036854775808 ≤ s.Epoch + 1 by omega) (by omega)]
theorem there0 {xs : List Dev} {id : Int} : (thereS xs id = match findK kD xs id with | none => 11 | some d => if d.Gone = true then 15 else 0) := rfl
theorem whom_eq {s : Sta} {id : Int} (h : RosOk s.Roster) : F_claim_State_whom s id = some (whomS s id) := by
  unfold F_claim_State_whom whomS
  rw [find_eq h]
  simp only [bind_if, Option.bind_some, Bool.false_eq_true, if_false, if_true]
  by_cases h1 : id = -1
  · simp [h1]
  · by_cases h2 : id < 0
    · simp [h1, h2]
    · by_cases h3 : id ≥ 16
      · simp [h1, h2, h3]
      · rw [there0]
        cases hf : findK kD s.Roster id with
        | none => simp [h1, h2, h3]
        | some d => cases hg : d.Gone <;> simp [h1, h2, h3, hg]
theorem issue_eq {s : Sta} {o : OpC} (hr : RosOk s.Roster) (ht : TicOk s.Next s.Tickets) (hn : 1 ≤ s.Next) : F_claim_State_issue s o = some (issueS s o) := by
  have hlv := ht.filter (fun t => !decide (t.Until < o.Now))
  unfold F_claim_State_issue issueS
  rw [whom_eq hr, live_eq (by have := ht.len; omega)]
  simp only [Option.bind_some]
  have e1 := issueT_eq (t := ⟨s.Next, o.For, o.Until⟩) hlv
  unfold liveT
  rw [e1]
  simp only [bind_if, Option.bind_some, Bool.false_eq_true, if_false, if_true]
  by_cases h1 : s.Owner = o.Device
  · by_cases h2 : whomS s o.For = 0
    · by_cases h3 : s.Next ≥ 281474976710656
      · simp [h1, h2, h3]
      · by_cases h4 : (issueT (s.Tickets.filter (fun t => !decide (t.Until < o.Now))) ⟨s.Next, o.For, o.Until⟩).2 = 0
        · simp [h1, h2, h3, h4, w64_id (show -9223372036854775808 ≤ s.Next + 1 by omega) (by omega)]
        · simp [h1, h2, h3, h4]
    · simp [h1, h2]
  · simp [h1]
theorem asked_eq {s : Sta} {o : OpC} (h : StaOk s) : F_claim_State_asked s o = some (askedS s o) := by
  unfold F_claim_State_asked askedS
  rw [accept_eq h.ros, use_eq (by have := h.tic.len; omega)]
  simp only [bind_if, Option.bind_some, Bool.false_eq_true, if_false, if_true]
  have hk := accept_ok (id := o.Device) (rq := o.Request) h.ros
  by_cases h1 : (acceptS s.Roster o.Device o.Request).2 = 0
  · have e1 := issue_eq (s := withR s (acceptS s.Roster o.Device o.Request).1) (o := o) hk h.tic h.nx.1
    have e2 := move_eq (s := withR s (acceptS s.Roster o.Device o.Request).1) (to := o.Device) h.ep.1
    unfold withR at e1 e2 ⊢
    rw [e1, e2]
    by_cases h2 : o.Kind = 3
    · simp [h1, h2]
    · by_cases h3 : o.Kind = 4
      · by_cases h4 : useS s.Tickets o.Ticket o.Device o.Now = 0 <;> simp [h1, h3, h4]
      · simp [h1, h2, h3]
  · simp [h1]
theorem rev_eq {s : Sta} {id : Int} (h : StaOk s) : F_claim_State_revoke s id = some (revS s id) := by
  unfold F_claim_State_revoke revS
  rw [revoke_eq h.ros]
  simp only [bind_if, Option.bind_some, Bool.false_eq_true, if_false, if_true]
  have e2 := move_eq (s := withR s (revokeS s.Roster id).1) (to := -1) h.ep.1
  unfold withR at e2 ⊢
  rw [e2]
  by_cases h1 : (revokeS s.Roster id).2 = 0
  · by_cases h2 : s.Owner = id <;> simp [h1, h2]
  · simp [h1]
theorem raw_ok {s : Sta} {o : OpC} (h : StaOk s) : (rawS s o).2 = 0 → StaOk (rawS s o).1 := by
  have hm : ∀ (s : Sta) (to : Int), StaOk s → (moveS s to).2 = 0 → StaOk (moveS s to).1 := by
    intro s to h
    unfold moveS
    split
    · simp
    · exact fun _ => ⟨⟨by simp; have := h.ep; omega, by simp; omega⟩, h.nx, h.ros, TicOk.nil _⟩
  have hw : ∀ l, RosOk l → StaOk (withR s l) := fun l hl => ⟨h.ep, h.nx, hl, h.tic⟩
  unfold rawS
  split
  · exact fun _ => hw _ (enrol_ok h.ros)
  · split
    · unfold revS
      simp only
      split
      · intro _; exact h
      · split
        · exact hm _ _ (hw _ (revoke_ok h.ros))
        · intro _; exact hw _ (revoke_ok h.ros)
    · split
      · unfold askedS
        simp only
        have ha := hw _ (accept_ok (id := o.Device) (rq := o.Request) h.ros)
        split
        · intro _; exact h
        · split
          · unfold issueS
            split
            · intro _; exact ha
            · split
              · intro _; exact ha
              · split
                · intro _; exact ha
                · rename_i hnx
                  split
                  · intro _; exact ha
                  · rename_i hz
                    intro _
                    have hz' : (issueT (liveT (withR s (acceptS s.Roster o.Device o.Request).1).Tickets o.Now) ⟨(withR s (acceptS s.Roster o.Device o.Request).1).Next, o.For, o.Until⟩).2 = 0 := Classical.byContradiction hz
                    have hlv := ha.tic.filter (fun t => !decide (t.Until < o.Now))
                    refine ⟨ha.ep, ⟨by have := ha.nx; simp; omega, by simp; omega⟩, ha.ros, ?_⟩
                    unfold issueT at hz' ⊢
                    split
                    · rename_i h1; rw [if_pos h1] at hz'; simp at hz'
                    · rename_i h1
                      rw [if_neg h1] at hz'
                      split
                      · rename_i h2; rw [if_pos h2] at hz'; simp at hz'
                      · rename_i h2
                        exact hlv.snoc (by simpa using h1) rfl (by simpa [liveT] using h2)
          · split
            · intro _; exact ha
            · exact hm _ _ ha
      · split
        · exact hm _ _ h
        · simp
theorem do_ok {s : Sta} {o : OpC} (h : StaOk s) : StaOk (doS s o).1 := by
  unfold doS
  split
  · exact h
  · rename_i h1; exact raw_ok h (Classical.byContradiction h1)
theorem do_eq {s : Sta} {o : OpC} (h : StaOk s) : F_claim_Do s o = some (doS s o) := by
  have hok := do_ok (o := o) h
  have hl1 := h.ros.len
  have hl2 := h.tic.len
  have c1 := cloneR (xs := s.Roster) (by omega)
  have c2 := cloneT (xs := s.Tickets) (by omega)
  have fin : ∀ r : Sta × Int, r = rawS s o → (if r.2 ≠ 0 then (Option.bind (F_slices_Clone_roster_Device s.Roster) fun y53 => (Option.bind (F_slices_Clone_ticket_Ticket s.Tickets) fun y56 => (some (({ Epoch := s.Epoch, Owner := s.Owner, Next := s.Next, Roster := y53, Tickets := y56 } : T_claim_State), r.2)))) else (Option.bind (F_slices_Clone_roster_Device r.1.Roster) fun y53 => (Option.bind (F_slices_Clone_ticket_Ticket r.1.Tickets) fun y56 => (some (({ Epoch := r.1.Epoch, Owner := r.1.Owner, Next := r.1.Next, Roster := y53, Tickets := y56 } : T_claim_State), r.2))))) = some (doS s o) := by
    rintro r rfl
    unfold doS
    by_cases h1 : (rawS s o).2 = 0
    · have hk := raw_ok (o := o) h h1
      have d1 := cloneR (xs := (rawS s o).1.Roster) (by have := hk.ros.len; omega)
      have d2 := cloneT (xs := (rawS s o).1.Tickets) (by have := hk.tic.len; omega)
      simp [h1, d1, d2]
      rw [← h1]
    · simp [h1, c1, c2]
  unfold F_claim_Do
  rw [enrol_eq h.ros, rev_eq h, asked_eq h, move_eq h.ep.1]
  have hr : rawS s o = rawS s o := rfl
  by_cases k1 : o.Kind = 1
  · have e : rawS s o = (withR s (enrolS s.Roster o.Device).1, (enrolS s.Roster o.Device).2) := by unfold rawS; rw [if_pos k1]
    have := fin _ e.symm
    simp only [k1, if_true, Option.bind_some]
    exact this
  by_cases k2 : o.Kind = 2
  · have e : rawS s o = revS s o.Device := by unfold rawS; rw [if_neg k1, if_pos k2]
    have := fin _ e.symm
    simp only [k1, k2, if_true, if_false, Option.bind_some, Bool.false_eq_true]
    exact this
  by_cases k345 : o.Kind = 3 ∨ o.Kind = 4 ∨ o.Kind = 5
  · have e : rawS s o = askedS s o := by unfold rawS; rw [if_neg k1, if_neg k2, if_pos k345]
    have := fin _ e.symm
    have hc : (if o.Kind = 3 then some true else if o.Kind = 4 then some true else if o.Kind = 5 then some true else some false) = some true := by
      rcases k345 with k | k | k <;> simp [k]
    simp only [k1, k2, if_false, Option.bind_some, Bool.false_eq_true, hc, if_true]
    exact this
  · have hc : (if o.Kind = 3 then some true else if o.Kind = 4 then some true else if o.Kind = 5 then some true else some false) = some false := by
      simp only [not_or] at k345
      simp [k345]
    by_cases k6 : o.Kind = 6
    · have e : rawS s o = moveS s (-1) := by unfold rawS; rw [if_neg k1, if_neg k2, if_neg k345, if_pos k6]
      have := fin _ e.symm
      simp only [k1, k2, if_false, Option.bind_some, Bool.false_eq_true, hc, k6, if_true]
      exact this
    · have e : rawS s o = (s, 7) := by unfold rawS; rw [if_neg k1, if_neg k2, if_neg k345, if_neg k6]
      have := fin _ e.symm
      simp only [k1, k2, if_false, Option.bind_some, Bool.false_eq_true, hc, k6]
      exact this
/-! ### the document's -/
def r2 (x : List Dev × Int) : List T_batonref25_Device × Int := (x.1.map rD, x.2)
theorem equalR (xs : List Dev) (hl : xs.length ≤ 100) : F_slices_Equal_roster_Device xs xs = some true := by
  unfold F_slices_Equal_roster_Device
  simp only [ne_eq, not_true_eq_false, if_false, Option.bind_some, Bool.false_eq_true]
  rw [loop_scan0 (xs := xs) (fun _ _ => none) true]
  · congr 1
    have : ∀ (ys : List Dev) i, scanI (fun (_ : Nat) (_ : Dev) => none) true i ys = true := by
      intro ys
      induction ys with
      | nil => intro i; rfl
      | cons y ys ih => intro i; simp [scanI, ih]
    exact this xs 0
  · intro i v hv
    have hlt := (List.getElem?_eq_some_iff.1 hv).1
    have h1 : (i : Int) < (xs.length : Int) := by omega
    simp [slices_Equal_roster_Device_l2, h1, ixN, hv, w64_succ (show i < 4611686018427387904 by omega)]
  · simp [slices_Equal_roster_Device_l2]
theorem equalT (xs : List Tic) (hl : xs.length ≤ 100) : F_slices_Equal_ticket_Ticket xs xs = some true := by
  unfold F_slices_Equal_ticket_Ticket
  simp only [ne_eq, not_true_eq_false, if_false, Option.bind_some, Bool.false_eq_true]
  rw [loop_scan0 (xs := xs) (fun _ _ => none) true]
  · congr 1
    have : ∀ (ys : List Tic) i, scanI (fun (_ : Nat) (_ : Tic) => none) true i ys = true := by
      intro ys
      induction ys with
      | nil => intro i; rfl
      | cons y ys ih => intro i; simp [scanI, ih]
    exact this xs 0
  · intro i v hv
    have hlt := (List.getElem?_eq_some_iff.1 hv).1
    have h1 : (i : Int) < (xs.length : Int) := by omega
    simp [slices_Equal_ticket_Ticket_l2, h1, ixN, hv, w64_succ (show i < 4611686018427387904 by omega)]
  · simp [slices_Equal_ticket_Ticket_l2]
theorem sameC {s : Sta} (h : StaOk s) : F_claim_Same s s = some true := by
  unfold F_claim_Same
  rw [equalR _ (by have := h.ros.len; omega), equalT _ (by have := h.tic.len; omega)]
  simp
/-! ### states that may be -/
theorem rosRight {xs : List Dev} (hl : xs.length ≤ 100) : ∃ b, F_roster_Right xs = some b ∧ (b = true → RosOk xs) := by
  unfold F_roster_Right
  refine loop_inv (fun n (s : Int) => ∃ i : Nat, i + n = xs.length ∧ s = (i : Int) ∧ (∀ k d, k < i → xs[k]? = some d → (0 ≤ d.Id ∧ d.Id < 16) ∧ (1 ≤ d.Times ∧ d.Times ≤ 1000)) ∧ (∀ k x y, k + 1 < i → xs[k]? = some x → xs[k + 1]? = some y → kD x < kD y)) _ ?_ xs.length 0 ⟨0, by omega, rfl, fun k d h => by omega, fun k x y h => by omega⟩
  rintro n s ⟨i, hi, rfl, hA, hB⟩
  by_cases hlt : i < xs.length
  · have hv : xs[i]? = some xs[i] := List.getElem?_eq_getElem hlt
    have h1 : (i : Int) < (xs.length : Int) := by omega
    generalize hd : xs[i] = d at hv
    have stop : (∃ o, (some (Sum.inr false) : Option (Int ⊕ Bool)) = some (.inr o) ∧ (o = true → RosOk xs)) := ⟨false, rfl, fun h => by cases h⟩
    have go : (0 ≤ d.Id ∧ d.Id < 16) → (1 ≤ d.Times ∧ d.Times ≤ 1000) → (∀ x, 0 < i → xs[i - 1]? = some x → kD x < kD d) → ∃ s' m, m < n ∧ (some (Sum.inl (w64 ((i : Int) + 1))) : Option (Int ⊕ Bool)) = some (.inl s') ∧ ∃ j : Nat, j + m = xs.length ∧ s' = (j : Int) ∧ (∀ k d, k < j → xs[k]? = some d → (0 ≤ d.Id ∧ d.Id < 16) ∧ (1 ≤ d.Times ∧ d.Times ≤ 1000)) ∧ (∀ k x y, k + 1 < j → xs[k]? = some x → xs[k + 1]? = some y → kD x < kD y) := by
      intro g1 g2 g3
      refine ⟨_, n - 1, by omega, rfl, i + 1, by omega, w64_succ (by omega), fun k d' hk hx => ?_, fun k x y hk hx hy => ?_⟩
      · rcases Nat.lt_or_eq_of_le (show k ≤ i by omega) with hlt | rfl
        · exact hA k d' hlt hx
        · rw [hv] at hx; injection hx with hx; subst hx; exact ⟨g1, g2⟩
      · rcases Nat.lt_or_eq_of_le (show k + 1 ≤ i by omega) with hlt | he
        · exact hB k x y hlt hx hy
        · rw [he, hv] at hy; injection hy with hy; subst hy
          exact g3 x (by omega) (by rw [← hx]; congr 1; omega)
    simp only [roster_Right_l1, h1, if_true, Option.bind_some, ixN, hv, Option.map_some]
    by_cases a1 : d.Id < 0
    · right; simpa only [a1, if_true] using stop
    by_cases a2 : d.Id ≥ 16
    · right; simpa only [a1, a2, if_true, if_false] using stop
    by_cases a3 : (i : Int) > 0
    · have e1 : w64 ((i : Int) - 1) = ((i - 1 : Nat) : Int) := by rw [w64_id (by omega) (by omega)]; omega
      have hp : xs[i - 1]? = some xs[i - 1] := List.getElem?_eq_getElem (by omega)
      generalize xs[i - 1] = e at hp
      simp only [a1, a2, a3, if_true, if_false, e1, ixN, hp, Option.bind_some]
      by_cases a4 : d.Id ≤ e.Id
      · right; simpa only [a4, if_true] using stop
      by_cases a5 : d.Times < 1
      · right; simpa only [a4, a5, if_true, if_false] using stop
      by_cases a6 : d.Times > 1000
      · right; simpa only [a4, a5, a6, if_true, if_false] using stop
      by_cases a7 : d.Last < 0
      · right; simpa only [a4, a5, a6, a7, if_true, if_false] using stop
      by_cases a8 : d.Last > 281474976710656
      · right; simpa only [a4, a5, a6, a7, a8, if_true, if_false] using stop
      left
      simp only [a4, a5, a6, a7, a8, if_false]
      exact go ⟨by omega, by omega⟩ ⟨by omega, by omega⟩ (fun x _ hx => by rw [hp] at hx; injection hx with hx; subst hx; show e.Id < d.Id; omega)
    · simp only [a1, a2, a3, if_false]
      by_cases a5 : d.Times < 1
      · right; simpa only [a5, if_true, if_false] using stop
      by_cases a6 : d.Times > 1000
      · right; simpa only [a5, a6, if_true, if_false] using stop
      by_cases a7 : d.Last < 0
      · right; simpa only [a5, a6, a7, if_true, if_false] using stop
      by_cases a8 : d.Last > 281474976710656
      · right; simpa only [a5, a6, a7, a8, if_true, if_false] using stop
      left
      simp only [a5, a6, a7, a8, if_false]
      exact go ⟨by omega, by omega⟩ ⟨by omega, by omega⟩ (fun x h _ => by omega)
  · right
    have h1 : ¬ (i : Int) < (xs.length : Int) := by omega
    obtain rfl : i = xs.length := by omega
    refine ⟨true, by simp only [roster_Right_l1, h1, if_false, Option.bind_some, Bool.false_eq_true, Option.map_some], fun _ => ⟨Ord.of_steps fun k x y hx hy => hB k x y (List.getElem?_eq_some_iff.1 hy).1 hx hy, fun d hd => ?_, fun d hd => ?_⟩⟩
    · obtain ⟨k, hk, rfl⟩ := List.getElem_of_mem hd
      exact (hA k _ hk (List.getElem?_eq_getElem hk)).1
    · obtain ⟨k, hk, rfl⟩ := List.getElem_of_mem hd
      exact (hA k _ hk (List.getElem?_eq_getElem hk)).2
theorem ticRight {xs : List Tic} (hl : xs.length ≤ 100) : ∃ b, F_ticket_Right xs = some b ∧ (b = true → Ord kT xs ∧ (∀ t ∈ xs, oneB t = true) ∧ xs.length ≤ 24) := by
  unfold F_ticket_Right
  refine loop_inv (fun n (s : Int) => ∃ i : Nat, i + n = xs.length ∧ s = (i : Int) ∧ (∀ k d, k < i → xs[k]? = some d → oneB d = true) ∧ (∀ k x y, k + 1 < i → xs[k]? = some x → xs[k + 1]? = some y → kT x < kT y)) _ ?_ xs.length 0 ⟨0, by omega, rfl, fun k d h => by omega, fun k x y h => by omega⟩
  rintro n s ⟨i, hi, rfl, hA, hB⟩
  by_cases hlt : i < xs.length
  · have hv : xs[i]? = some xs[i] := List.getElem?_eq_getElem hlt
    have h1 : (i : Int) < (xs.length : Int) := by omega
    generalize hd : xs[i] = d at hv
    have stop : (∃ o, (some (Sum.inr false) : Option (Int ⊕ Bool)) = some (.inr o) ∧ (o = true → Ord kT xs ∧ (∀ t ∈ xs, oneB t = true) ∧ xs.length ≤ 24)) := ⟨false, rfl, fun h => by cases h⟩
    have go : oneB d = true → (∀ x, 0 < i → xs[i - 1]? = some x → kT x < kT d) → ∃ s' m, m < n ∧ (some (Sum.inl (w64 ((i : Int) + 1))) : Option (Int ⊕ Bool)) = some (.inl s') ∧ ∃ j : Nat, j + m = xs.length ∧ s' = (j : Int) ∧ (∀ k d, k < j → xs[k]? = some d → oneB d = true) ∧ (∀ k x y, k + 1 < j → xs[k]? = some x → xs[k + 1]? = some y → kT x < kT y) := by
      intro g1 g3
      refine ⟨_, n - 1, by omega, rfl, i + 1, by omega, w64_succ (by omega), fun k d' hk hx => ?_, fun k x y hk hx hy => ?_⟩
      · rcases Nat.lt_or_eq_of_le (show k ≤ i by omega) with hlt | rfl
        · exact hA k d' hlt hx
        · rw [hv] at hx; injection hx with hx; subst hx; exact g1
      · rcases Nat.lt_or_eq_of_le (show k + 1 ≤ i by omega) with hlt | he
        · exact hB k x y hlt hx hy
        · rw [he, hv] at hy; injection hy with hy; subst hy
          exact g3 x (by omega) (by rw [← hx]; congr 1; omega)
    simp only [ticket_Right_l1, h1, if_true, Option.bind_some, ixN, hv, Option.map_some, one_eq]
    cases a1 : oneB d with
    | false => right; simpa only [Bool.false_eq_true, if_false] using stop
    | true =>
      by_cases a3 : (i : Int) > 0
      · have e1 : w64 ((i : Int) - 1) = ((i - 1 : Nat) : Int) := by rw [w64_id (by omega) (by omega)]; omega
        have hp : xs[i - 1]? = some xs[i - 1] := List.getElem?_eq_getElem (by omega)
        generalize xs[i - 1] = e at hp
        simp only [a3, if_true, if_false, e1, ixN, hp, Option.bind_some]
        by_cases a4 : d.No ≤ e.No
        · right; simpa only [a4, if_true] using stop
        left
        simp only [a4, if_false]
        exact go a1 (fun x _ hx => by rw [hp] at hx; injection hx with hx; subst hx; show e.No < d.No; omega)
      · left
        simp only [a3, if_true, if_false]
        exact go a1 (fun x h _ => by omega)
  · right
    have h1 : ¬ (i : Int) < (xs.length : Int) := by omega
    obtain rfl : i = xs.length := by omega
    by_cases h24 : (xs.length : Int) ≤ 24
    · refine ⟨true, by simp only [ticket_Right_l1, h1, if_false, Option.bind_some, Bool.false_eq_true, h24, if_true, Option.map_some], fun _ => ⟨Ord.of_steps fun k x y hx hy => hB k x y (List.getElem?_eq_some_iff.1 hy).1 hx hy, fun d hd => ?_, by omega⟩⟩
      obtain ⟨k, hk, rfl⟩ := List.getElem_of_mem hd
      exact hA k _ hk (List.getElem?_eq_getElem hk)
    · exact ⟨false, by simp only [ticket_Right_l1, h1, if_false, Option.bind_some, Bool.false_eq_true, h24, Option.map_some], fun h => by cases h⟩
theorem right_eq {s : Sta} (h1 : s.Roster.length ≤ 30) (h2 : s.Tickets.length ≤ 40) : ∃ b, F_claim_Right s = some b ∧ (b = true → StaOk s) := by
  obtain ⟨b1, r1, o1⟩ := rosRight (xs := s.Roster) (by omega)
  obtain ⟨b2, r2, o2⟩ := ticRight (xs := s.Tickets) (by omega)
  unfold F_claim_Right
  rw [r1, r2]
  simp only [bind_if, Option.bind_some, Bool.false_eq_true, if_false, if_true]
  by_cases a1 : s.Epoch < 0
  · exact ⟨false, by simp [a1], fun h => by cases h⟩
  by_cases a2 : s.Epoch > 1099511627776
  · exact ⟨false, by simp [a1, a2], fun h => by cases h⟩
  by_cases a3 : s.Next < 1
  · exact ⟨false, by simp [a1, a2, a3], fun h => by cases h⟩
  by_cases a4 : s.Next > 281474976710656
  · exact ⟨false, by simp [a1, a2, a3, a4], fun h => by cases h⟩
  cases b1 with
  | false => exact ⟨false, by simp [a1, a2, a3, a4], fun h => by cases h⟩
  | true =>
    cases b2 with
    | false => exact ⟨false, by simp [a1, a2, a3, a4], fun h => by cases h⟩
    | true =>
      have hr := o1 rfl
      obtain ⟨t1, t2, t3⟩ := o2 rfl
      simp only [a1, a2, a3, a4, if_false, if_true, Bool.not_true, Bool.false_eq_true]
      have fin : ∀ (hn : ∀ t ∈ s.Tickets, t.No < s.Next), StaOk s := fun hn => ⟨⟨by omega, by omega⟩, ⟨by omega, by omega⟩, hr, t1, fun t ht => by
        have := t2 t ht
        simp only [oneB, decide_eq_true_eq] at this
        exact ⟨this.1, this.2.2.1, hn t ht⟩, t3⟩
      have last : ∃ b, (Option.bind (F_roster_Find s.Roster s.Owner) fun y63 => (if s.Owner = (-1) then (some true) else (if y63.2 = true then (some (!y63.1.Gone)) else (some false)))) = some b := by
        rw [find_eq hr]
        simp only [Option.bind_some]
        repeat' split
        all_goals exact ⟨_, rfl⟩
      obtain ⟨bl, hbl⟩ := last
      by_cases h0 : (s.Tickets.length : Int) > 0
      · have e1 : w64 ((s.Tickets.length : Int) - 1) = ((s.Tickets.length - 1 : Nat) : Int) := by rw [w64_id (by omega) (by omega)]; omega
        have hp : s.Tickets[s.Tickets.length - 1]? = some s.Tickets[s.Tickets.length - 1] := List.getElem?_eq_getElem (by omega)
        generalize s.Tickets[s.Tickets.length - 1] = e at hp
        simp only [h0, if_true, e1, ixN, hp, Option.bind_some, Option.map_some, bind_if, Sum.elim_inl, Sum.elim_inr]
        by_cases a5 : e.No ≥ s.Next
        · exact ⟨false, by simp [a5], fun h => by cases h⟩
        by_cases a6 : s.Owner = -1
        · exact ⟨false, by simp [a5, a6], fun h => by cases h⟩
        simp only [a5, a6, if_false]
        refine ⟨bl, ?_, fun _ => fin fun t ht => ?_⟩
        · rw [← hbl]; simp only [a6, if_false]
        · obtain ⟨k, hk, rfl⟩ := List.getElem_of_mem ht
          rcases Nat.lt_or_eq_of_le (show k ≤ s.Tickets.length - 1 by omega) with hlt | he
          · have := t1.get_lt (List.getElem?_eq_getElem hk) hp hlt
            have : s.Tickets[k].No < e.No := this
            omega
          · subst he
            rw [List.getElem?_eq_getElem hk] at hp; injection hp with hp
            rw [hp]; omega
      · simp only [h0, if_false, Option.bind_some, Sum.elim_inl]
        refine ⟨bl, hbl, fun _ => fin fun t ht => ?_⟩
        have : s.Tickets = [] := List.eq_nil_of_length_eq_zero (by omega)
        rw [this] at ht; cases ht
/-! ### what an op does to the epoch and the tickets -/
theorem few_eq (s : Sta) : F_batonlaw27_Few s = some (decide (s.Roster.length ≤ 30 ∧ s.Tickets.length ≤ 40)) := by
  unfold F_batonlaw27_Few
  by_cases h1 : s.Roster.length ≤ 30
  · by_cases h2 : s.Tickets.length ≤ 40
    · have a : (s.Roster.length : Int) ≤ 30 := by omega
      have b : (s.Tickets.length : Int) ≤ 40 := by omega
      simp [h1, h2, a, b]
    · have b : ¬ (s.Tickets.length : Int) ≤ 40 := by omega
      simp [h2, b]
  · have a : ¬ (s.Roster.length : Int) ≤ 30 := by omega
    simp [h1, a]
end Go.AV
