/- A part of the proof that the row of the law holds of the program as translated: lemmas and contracts of its functions. -/
import Derived.Test.YtbigpfenlmfhgaaX27p
import Derived.Test.YtbigpfenlmfhgaaAvP
set_option linter.unusedVariables false
set_option linter.unusedSimpArgs false
namespace Go.AV
/-! ## The claims (chapter 27): what the functions compute -/
abbrev Dev := T_roster_Device
abbrev Tic := T_ticket_Ticket
abbrev kD (d : Dev) : Int := d.Id
abbrev kD' (d : T_batonref25_Device) : Int := d.Id
abbrev kT (t : Tic) : Int := t.No
def rD (d : Dev) : T_batonref25_Device := ⟨d.Id, d.Times, d.Gone, d.Last⟩
def rT (t : Tic) : T_batonref26_Ticket := ⟨t.No, t.For, t.Until⟩
theorem rD_key (d : Dev) : kD' (rD d) = kD d := rfl
structure RosOk (xs : List Dev) : Prop where
  ord : Ord kD xs
  ids : ∀ d ∈ xs, 0 ≤ d.Id ∧ d.Id < 16
  tms : ∀ d ∈ xs, 1 ≤ d.Times ∧ d.Times ≤ 1000
theorem RosOk.len {xs : List Dev} (h : RosOk xs) : xs.length ≤ 16 := by
  have := Ord.le_len (a := 0) (b := 16) h.ord h.ids (by omega)
  omega
theorem RosOk.put {xs : List Dev} {d : Dev} (h : RosOk xs) (h1 : 0 ≤ d.Id ∧ d.Id < 16) (h2 : 1 ≤ d.Times ∧ d.Times ≤ 1000) : RosOk (putK kD xs d) :=
  ⟨h.ord.put d, fun y hy => by rcases putK_mem hy with rfl | hy; exact h1; exact h.ids y hy, fun y hy => by rcases putK_mem hy with rfl | hy; exact h2; exact h.tms y hy⟩
/-! binary search -/
theorem mid_eq {i j : Int} (h0 : 0 ≤ i) (h1 : i ≤ j) (h2 : j ≤ 4294967296) : w64 (((UInt64.ofNat (((UInt64.ofInt (w64 (i + j)))).toNat / 2 ^ (min (1 : Int).toNat 64))).toNat : Int)) = (i + j) / 2 := by
  rw [w64_id (x := i + j) (by omega) (by omega)]
  have e1 : (UInt64.ofInt (i + j)).toNat = (i + j).toNat := by
    rw [UInt64.ofInt, UInt64.toNat_ofNat']
    omega
  have e2 : (2 : Nat) ^ (min (1 : Int).toNat 64) = 2 := by decide
  rw [e1, e2, UInt64.toNat_ofNat']
  have e3 : (i + j).toNat / 2 % 2 ^ 64 = (i + j).toNat / 2 := Nat.mod_eq_of_lt (by omega)
  rw [e3, w64_id (by omega) (by omega)]
  omega
theorem cmp_eq (a b : Int) : F_cmp_Compare_int a b = some (if a < b then -1 else if a > b then 1 else 0) := by
  simp only [F_cmp_Compare_int, F_cmp_isNaN_int, ne_eq, not_true_eq_false, if_false, Option.bind_some, Bool.false_eq_true]
  by_cases h1 : a < b
  · simp [h1]
  · by_cases h2 : a > b <;> simp [h1, h2]
theorem place_eq {xs : List Dev} {id : Int} (ho : Ord kD xs) (hl : xs.length ≤ 4294967296) : ∃ (p : Nat) (b : Bool), F_roster_place xs id = some ((p : Int), b) ∧ Place kD xs id p b := by
  have key : ∃ o, F_slices_BinarySearchFunc_int xs id (fun z0 z1 => F_roster_place_1 z0 z1) = some o ∧ ∃ p : Nat, o.1 = (p : Int) ∧ Place kD xs id p o.2 := by
    unfold F_slices_BinarySearchFunc_int
    refine loop_inv (fun n s => ∃ i j : Nat, s = ((i : Int), (j : Int)) ∧ i ≤ j ∧ j ≤ xs.length ∧ n = j - i ∧ (∀ k x, k < i → xs[k]? = some x → kD x < id) ∧ (∀ k x, j ≤ k → xs[k]? = some x → id ≤ kD x)) _ ?_ xs.length _ ⟨0, xs.length, rfl, by omega, Nat.le_refl _, by omega, fun k x h => by omega, fun k x h hx => by have := (List.getElem?_eq_some_iff.1 hx).1; omega⟩
    rintro n s ⟨i, j, rfl, hij, hj, rfl, hA, hB⟩
    simp only [slices_BinarySearchFunc_int_l1]
    by_cases h : (i : Int) < (j : Int)
    · left
      rw [mid_eq (by omega) (by omega) (by omega)]
      have hm0 : 0 ≤ ((i : Int) + j) / 2 := by omega
      obtain ⟨m, hm⟩ : ∃ m : Nat, ((i : Int) + j) / 2 = (m : Int) := ⟨(((i : Int) + j) / 2).toNat, by omega⟩
      have hmj : m < xs.length := by omega
      have hmx : xs[m]? = some xs[m] := List.getElem?_eq_getElem hmj
      rw [hm, ixN, hmx]
      simp only [h, if_true, Option.bind_some, F_roster_place_1, cmp_eq, bind_if]
      by_cases hc : xs[m].Id < id
      · refine ⟨_, j - (m + 1), ?_, by simp [hc]; rfl, m + 1, j, ?_, by omega, hj, rfl, fun k x hk hx => ?_, hB⟩
        · omega
        · rw [w64_id (by omega) (by omega)]; simp
        · rcases Nat.lt_or_ge k (m + 1) with _ | _
          · rcases Nat.lt_or_eq_of_le (show k ≤ m by omega) with hlt | rfl
            · have := ho.get_lt hx hmx hlt
              show kD x < id
              have : kD xs[m] < id := hc
              omega
            · rw [hmx] at hx; injection hx with hx; subst hx; exact hc
          · omega
      · refine ⟨_, m - i, ?_, by simp [hc]; split <;> omega, i, m, rfl, by omega, by omega, rfl, hA, fun k x hk hx => ?_⟩
        · omega
        · rcases Nat.lt_or_eq_of_le hk with hlt | rfl
          · have := ho.get_lt hmx hx hlt
            have : ¬ kD xs[m] < id := hc
            omega
          · rw [hmx] at hx; injection hx with hx; subst hx
            have : ¬ kD xs[m] < id := hc
            omega
    · right
      obtain rfl : i = j := by omega
      simp only [h, if_false, Option.bind_some, Bool.false_eq_true]
      by_cases hi : (i : Int) < (xs.length : Int)
      · have hix : xs[i]? = some xs[i] := List.getElem?_eq_getElem (by omega)
        rw [ixN, hix]
        simp only [hi, if_true, Option.bind_some, F_roster_place_1, cmp_eq, bind_if, map_if, Option.map_some]
        by_cases hc : xs[i].Id = id
        · refine ⟨_, by simp [hc]; rfl, i, rfl, by omega, hA, hB, ?_⟩
          exact ⟨fun _ => ⟨_, hix, hc⟩, fun _ => rfl⟩
        · refine ⟨((i : Int), false), ?_, i, rfl, by omega, hA, hB, ?_⟩
          · have h1 : ¬ (if xs[i].Id < id then (-1 : Int) else if xs[i].Id > id then 1 else 0) = 0 := by repeat' split <;> omega
            simp only [h1, if_false]
          · constructor
            · intro h; cases h
            · rintro ⟨d, hd, he⟩; rw [hix] at hd; injection hd with hd; subst hd; exact absurd he hc
      · simp only [hi, if_false, Option.map_some]
        refine ⟨_, rfl, i, rfl, by omega, hA, hB, ?_⟩
        constructor
        · intro h; cases h
        · rintro ⟨d, hd, he⟩; have := (List.getElem?_eq_some_iff.1 hd).1; omega
  obtain ⟨o, h1, p, h2, h3⟩ := key
  refine ⟨p, o.2, ?_, h3⟩
  unfold F_roster_place
  rw [h1]
  simp [← h2]
theorem place_cases {xs : List Dev} {id : Int} (h : RosOk xs) : (∃ (p : Nat) (d : Dev), F_roster_place xs id = some ((p : Int), true) ∧ Place kD xs id p true ∧ xs[p]? = some d ∧ d.Id = id ∧ findK kD xs id = some d) ∨ (∃ p : Nat, F_roster_place xs id = some ((p : Int), false) ∧ Place kD xs id p false ∧ findK kD xs id = none) := by
  obtain ⟨p, b, h1, h2⟩ := place_eq (id := id) h.ord (by have := h.len; omega)
  have h3 := findK_place h.ord h2
  cases b with
  | true =>
    obtain ⟨d, hd, he⟩ := h2.2.2.2.1 rfl
    exact .inl ⟨p, d, h1, h2, hd, he, by rw [h3, if_pos rfl, hd]⟩
  | false => exact .inr ⟨p, h1, h2, by rw [h3]; rfl⟩
theorem cloneR {xs : List Dev} (h : xs.length ≤ 1000) : F_slices_Clone_roster_Device xs = some xs := by
  unfold F_slices_Clone_roster_Device
  rw [app_of (by simp; omega)]
  rfl
theorem cloneT {xs : List Tic} (h : xs.length ≤ 1000) : F_slices_Clone_ticket_Ticket xs = some xs := by
  unfold F_slices_Clone_ticket_Ticket
  rw [app_of (by simp; omega)]
  rfl
/-! what the ops of a roster make of it -/
def thereS (xs : List Dev) (id : Int) : Int := match findK kD xs id with
  | none => 11
  | some d => if d.Gone = true then 15 else 0
def enrolS (xs : List Dev) (id : Int) : List Dev × Int :=
  if id < 0 ∨ 15 < id then (xs, 1) else match findK kD xs id with
  | none => (putK kD xs ⟨id, 1, false, 0⟩, 0)
  | some d => if ¬ d.Gone = true then (xs, 12) else if 1000 ≤ d.Times then (xs, 16) else (putK kD xs ⟨id, d.Times + 1, false, 0⟩, 0)
def revokeS (xs : List Dev) (id : Int) : List Dev × Int :=
  if thereS xs id ≠ 0 then (xs, thereS xs id) else match findK kD xs id with
  | none => (xs, 11)
  | some d => (putK kD xs ⟨d.Id, d.Times, true, d.Last⟩, 0)
def acceptS (xs : List Dev) (id rq : Int) : List Dev × Int :=
  if thereS xs id ≠ 0 then (xs, thereS xs id) else match findK kD xs id with
  | none => (xs, 11)
  | some d => if rq ≤ d.Last ∨ rq > 281474976710656 then (xs, 20) else (putK kD xs ⟨d.Id, d.Times, d.Gone, rq⟩, 0)
theorem there_eq {xs : List Dev} {id : Int} (h : RosOk xs) : (thereS xs id ≠ 0 ∧ F_roster_there xs id = some (0, thereS xs id)) ∨ (thereS xs id = 0 ∧ ∃ (p : Nat) (d : Dev), F_roster_there xs id = some ((p : Int), 0) ∧ F_roster_place xs id = some ((p : Int), true) ∧ Place kD xs id p true ∧ xs[p]? = some d ∧ d.Id = id ∧ findK kD xs id = some d ∧ d.Gone = false) := by
  rcases place_cases (id := id) h with ⟨p, d, h1, h2, h3, h4, h5⟩ | ⟨p, h1, h2, h3⟩
  · cases hg : d.Gone with
    | true => left; simp [F_roster_there, h1, thereS, h5, hg, ixN, h3]
    | false => right; refine ⟨by simp [thereS, h5, hg], p, d, ?_, h1, h2, h3, h4, h5, hg⟩; simp [F_roster_there, h1, ixN, h3, hg]
  · left; simp [F_roster_there, h1, thereS, h3]
theorem dev_mem {xs : List Dev} {p : Nat} {d : Dev} (h : xs[p]? = some d) : d ∈ xs := List.mem_of_getElem? h
theorem enrol_eq {xs : List Dev} {id : Int} (h : RosOk xs) : F_roster_Enrol xs id = some (enrolS xs id) := by
  have hl := h.len
  unfold F_roster_Enrol
  rw [cloneR (by omega)]
  simp only [Option.bind_some]
  by_cases h0 : id < 0
  · rcases place_cases (id := id) h with ⟨p, d, h1, _⟩ | ⟨p, h1, _⟩ <;> simp [h1, h0, enrolS]
  by_cases h15 : 15 < id
  · have : id ≥ 16 := by omega
    rcases place_cases (id := id) h with ⟨p, d, h1, _⟩ | ⟨p, h1, _⟩ <;> simp [h1, h0, enrolS, h15, this]
  have h16 : ¬ id ≥ 16 := by omega
  rcases place_cases (id := id) h with ⟨p, d, h1, h2, h3, h4, h5⟩ | ⟨p, h1, h2, h3⟩
  · have ht := h.tms d (dev_mem h3)
    cases hg : d.Gone with
    | true =>
      by_cases hm : 1000 ≤ d.Times
      · simp [h1, h0, h16, enrolS, h15, ixN, h3, h5, hg, hm]
      · have e1 : w64 (d.Times + 1) = d.Times + 1 := w64_id (by omega) (by omega)
        have e2 := putK_place (d' := (⟨id, d.Times + 1, false, 0⟩ : Dev)) h2
        simp only [if_true] at e2
        simp [h1, h0, h16, enrolS, h15, ixN, h3, h5, hg, hm, e1, e2]
    | false => simp [h1, h0, h16, enrolS, h15, ixN, h3, h5, hg]
  · have e2 := putK_place (d' := (⟨id, 1, false, 0⟩ : Dev)) h2
    have hp := h2.1
    simp only [Bool.false_eq_true, if_false] at e2
    have e3 : F_slices_Insert_roster_Device xs (p : Int) [⟨id, 1, false, 0⟩] = some (putK kD xs ⟨id, 1, false, 0⟩) := by
      unfold F_slices_Insert_roster_Device
      rw [if_pos ⟨by omega, by omega, rfl, by omega⟩, e2]
      rfl
    simp [h1, h0, h16, enrolS, h15, h3, e3]
theorem revoke_eq {xs : List Dev} {id : Int} (h : RosOk xs) : F_roster_Revoke xs id = some (revokeS xs id) := by
  have hl := h.len
  unfold F_roster_Revoke
  rw [cloneR (by omega)]
  simp only [Option.bind_some]
  rcases there_eq (id := id) h with ⟨h1, h2⟩ | ⟨h0, p, d, h1, _, h2, h3, h4, h5, h6⟩
  · simp [h2, h1, revokeS]
  · have e2 := putK_place (key := kD) (xs := xs) (p := p) (b := true) (d' := (⟨d.Id, d.Times, true, d.Last⟩ : Dev)) (by rw [show kD ⟨d.Id, d.Times, true, d.Last⟩ = id from h4]; exact h2)
    simp only [if_true] at e2
    simp [h1, revokeS, h0, h5, ixN, h3, e2]
theorem accept_eq {xs : List Dev} {id rq : Int} (h : RosOk xs) : F_roster_Accept xs id rq = some (acceptS xs id rq) := by
  have hl := h.len
  unfold F_roster_Accept
  rw [cloneR (by omega)]
  simp only [Option.bind_some]
  unfold F_roster_May
  rcases there_eq (id := id) h with ⟨h1, h2⟩ | ⟨h0, p, d, h1, h9, h2, h3, h4, h5, h6⟩
  · simp [h2, h1, acceptS]
  · have e2 := putK_place (key := kD) (xs := xs) (p := p) (b := true) (d' := (⟨d.Id, d.Times, d.Gone, rq⟩ : Dev)) (by rw [show kD ⟨d.Id, d.Times, d.Gone, rq⟩ = id from h4]; exact h2)
    simp only [if_true] at e2
    by_cases ha : rq ≤ d.Last
    · simp [h1, acceptS, h0, h5, ixN, h3, ha]
    · by_cases hb : rq > 281474976710656
      · simp [h1, acceptS, h0, h5, ixN, h3, ha, hb]
      · simp [h1, acceptS, h0, h5, ixN, h3, ha, hb, h9, e2]
theorem find_eq {xs : List Dev} {id : Int} (h : RosOk xs) : F_roster_Find xs id = some (match findK kD xs id with | some d => (d, true) | none => (⟨0, 0, false, 0⟩, false)) := by
  unfold F_roster_Find
  rcases place_cases (id := id) h with ⟨p, d, h1, h2, h3, h4, h5⟩ | ⟨p, h1, h2, h3⟩
  · simp [h1, ixN, h3, h5]
  · simp [h1, h3]
/-! .. and they keep it right -/
theorem findK_some {xs : List Dev} {id : Int} {d : Dev} (h : findK kD xs id = some d) : d ∈ xs ∧ d.Id = id := by
  unfold findK at h
  have h1 := List.mem_of_find?_eq_some h
  have h2 := List.find?_some h
  exact ⟨h1, by simpa using h2⟩
theorem enrol_ok {xs : List Dev} {id : Int} (h : RosOk xs) : RosOk (enrolS xs id).1 := by
  unfold enrolS
  split
  · exact h
  · split
    · exact h.put ⟨by simp; omega, by simp; omega⟩ ⟨by simp, by simp⟩
    · rename_i d hd
      have ht := h.tms d (findK_some hd).1
      split
      · exact h
      · split
        · exact h
        · exact h.put ⟨by simp; omega, by simp; omega⟩ ⟨by simp; omega, by simp; omega⟩
theorem revoke_ok {xs : List Dev} {id : Int} (h : RosOk xs) : RosOk (revokeS xs id).1 := by
  unfold revokeS
  split
  · exact h
  · split
    · exact h
    · rename_i d hd
      have hm := (findK_some hd).1
      exact h.put (h.ids d hm) (h.tms d hm)
theorem accept_ok {xs : List Dev} {id rq : Int} (h : RosOk xs) : RosOk (acceptS xs id rq).1 := by
  unfold acceptS
  split
  · exact h
  · split
    · exact h
    · rename_i d hd
      have hm := (findK_some hd).1
      split
      · exact h
      · exact h.put (h.ids d hm) (h.tms d hm)
/-! ### tickets -/
theorem iff_scan {xs : List Tic} {q : Tic → Option Bool} {p : Tic → Bool} (hq : ∀ t, q t = some (p t)) (hl : xs.length ≤ 1000) : F_slices_IndexFunc_ticket_Ticket xs q = some (scanI (fun i t => if p t = true then some (i : Int) else none) (-1) 0 xs) := by
  unfold F_slices_IndexFunc_ticket_Ticket
  refine loop_scan0 _ _ ?_ ?_
  · intro i v hv
    have hlt := (List.getElem?_eq_some_iff.1 hv).1
    have h1 : (i : Int) < (xs.length : Int) := by omega
    simp only [slices_IndexFunc_ticket_Ticket_l1, h1, if_true, ixN, hv, Option.bind_some, hq, w64_succ (show i < 4611686018427387904 by omega)]
    cases p v <;> simp
  · simp [slices_IndexFunc_ticket_Ticket_l1]
theorem scan_idx (p : Tic → Bool) : ∀ (xs : List Tic) (i : Nat), scanI (fun i t => if p t = true then some (i : Int) else none) (-1) i xs = match xs.findIdx? p with | some k => ((i + k : Nat) : Int) | none => -1
  | [], i => rfl
  | x :: xs, i => by
    rw [List.findIdx?_cons]
    cases hp : p x with
    | true => simp [scanI, hp]
    | false =>
      simp only [scanI, hp, Bool.false_eq_true, if_false, Option.getD_none]
      rw [scan_idx p xs (i + 1)]
      cases xs.findIdx? p with
      | none => rfl
      | some k => show ((i + 1 + k : Nat) : Int) = ((i + (k + 1) : Nat) : Int); congr 1; omega
theorem idx_eq {xs : List Tic} {q : Tic → Option Bool} {p : Tic → Bool} (hq : ∀ t, q t = some (p t)) (hl : xs.length ≤ 1000) : F_slices_IndexFunc_ticket_Ticket xs q = some (match xs.findIdx? p with | some k => ((k : Nat) : Int) | none => -1) := by
  rw [iff_scan hq hl, scan_idx]
  cases xs.findIdx? p <;> simp
/-- the rounds of DeleteFunc: what is kept so far, what is still to be seen -/
theorem del_loop {q : Tic → Option Bool} {p : Tic → Bool} (hq : ∀ t, q t = some (p t)) {ys : List Tic} (hl : ys.length ≤ 1000) :
    ∀ (n : Nat) (cur : List Tic) (i j : Nat), j + n = cur.length → i ≤ j → cur.length = ys.length → cur.drop j = ys.drop j →
      loopO (slices_DeleteFunc_ticket_Ticket_l2 q) (cur, (i : Int), (j : Int)) = some (cur.take i ++ (ys.drop j).filter (fun t => !p t)) := by
  intro n
  induction n with
  | zero =>
    intro cur i j hj hij hc hd
    obtain rfl : j = cur.length := by omega
    refine loop_out ?_
    have h1 : ¬ ((cur.length : Int) < (cur.length : Int)) := by omega
    have h2 : cutO cur (i : Int) (cur.length : Int) = some (cur.drop i) := by rw [cut_of (by omega) (by omega) (by omega)]; congr 1; rw [Int.toNat_natCast, List.take_of_length_le (by rw [List.length_drop]; omega)]
    have h3 : cutO (cur.take i) 0 (i : Int) = some (cur.take i) := by rw [cut_of (by omega) (by omega) (by rw [List.length_take]; omega)]; congr 1; rw [show (0 : Int).toNat = 0 from rfl, List.drop_zero, List.take_of_length_le (by rw [List.length_take]; omega)]
    have h4 : ys.drop cur.length = [] := by rw [hc]; exact List.drop_length
    simp only [slices_DeleteFunc_ticket_Ticket_l2, h1, if_false, Option.bind_some, Bool.false_eq_true, h2, Int.toNat_natCast, h3, Option.map_some, h4, List.filter_nil, List.append_nil]
  | succ n ih =>
    intro cur i j hj hij hc hd
    have hlt : j < cur.length := by omega
    have hlt' : j < ys.length := by omega
    have h1 : (j : Int) < (cur.length : Int) := by omega
    have hcj : cur[j]? = some ys[j] := by
      have e1 : cur[j]? = (cur.drop j)[0]? := by rw [List.getElem?_drop]; rfl
      rw [e1, hd, List.getElem?_drop]
      exact List.getElem?_eq_getElem hlt'
    have hdj : cur.drop (j + 1) = ys.drop (j + 1) := by rw [← List.drop_drop, ← List.drop_drop, hd]
    rw [List.drop_eq_getElem_cons hlt', List.filter_cons]
    cases hp : p ys[j] with
    | true =>
      have hs : slices_DeleteFunc_ticket_Ticket_l2 q (cur, (i : Int), (j : Int)) = some (.inl (cur, (i : Int), ((j + 1 : Nat) : Int))) := by
        simp only [slices_DeleteFunc_ticket_Ticket_l2, h1, if_true, Option.bind_some, ixN, hcj, hq, hp, w64_succ (show j < 4611686018427387904 by omega)]
      rw [loop_next hs, ih cur i (j + 1) (by omega) (by omega) hc hdj]
      simp only [hp, Bool.not_true, Bool.false_eq_true, if_false]
    | false =>
      have hci : cur[i]? = some cur[i] := List.getElem?_eq_getElem (by omega)
      have hs : slices_DeleteFunc_ticket_Ticket_l2 q (cur, (i : Int), (j : Int)) = some (.inl (cur.set i ys[j], ((i + 1 : Nat) : Int), ((j + 1 : Nat) : Int))) := by
        simp only [slices_DeleteFunc_ticket_Ticket_l2, h1, if_true, Option.bind_some, ixN, hcj, hq, hp, w64_succ (show j < 4611686018427387904 by omega), w64_succ (show i < 4611686018427387904 by omega), Bool.false_eq_true, if_false, hci, Int.toNat_natCast]
      rw [loop_next hs, ih (cur.set i ys[j]) (i + 1) (j + 1) (by simp; omega) (by omega) (by simp; exact hc) (by rw [List.drop_set_of_lt (by omega)]; exact hdj)]
      have e2 : (cur.set i ys[j]).take (i + 1) = cur.take i ++ [ys[j]] := by
        rw [List.take_add_one, List.take_set_of_le (Nat.le_refl _)]
        simp [show i < cur.length by omega]
      rw [e2]
      simp only [hp, Bool.not_false, if_true, List.append_assoc, List.singleton_append]
theorem live_eq {xs : List Tic} {now : Int} (hl : xs.length ≤ 1000) : F_ticket_Live xs now = some (xs.filter (fun t => !decide (t.Until < now))) := by
  have hq : ∀ t : Tic, (fun z0 => F_ticket_Live_1 z0 now) t = some (decide (t.Until < now)) := by intro t; simp only [F_ticket_Live_1]; by_cases h : t.Until < now <;> simp [h]
  unfold F_ticket_Live
  rw [cloneT hl]
  simp only [Option.bind_some, F_slices_DeleteFunc_ticket_Ticket]
  rw [idx_eq hq hl]
  simp only [Option.bind_some]
  cases hf : xs.findIdx? (fun t => decide (t.Until < now)) with
  | none =>
    have h1 : xs.filter (fun t => !decide (t.Until < now)) = xs := by
      rw [List.filter_eq_self]
      intro t ht
      have := List.findIdx?_eq_none_iff.1 hf t ht
      simp only [this]; rfl
    simp [h1]
  | some k =>
    obtain ⟨hk, hpk, hmin⟩ := List.findIdx?_eq_some_iff_getElem.1 hf
    have h1 : ¬ ((k : Int) = -1) := by omega
    simp only [h1, if_false, Option.bind_some, Bool.false_eq_true, w64_succ (show k < 4611686018427387904 by omega)]
    rw [del_loop hq hl (xs.length - (k + 1)) xs k (k + 1) (by omega) (by omega) rfl rfl]
    simp only [Option.bind_some]
    congr 1
    have e0 : xs.filter (fun t => !decide (t.Until < now)) = (xs.take k).filter (fun t => !decide (t.Until < now)) ++ (xs.drop k).filter (fun t => !decide (t.Until < now)) := by rw [← List.filter_append, List.take_append_drop]
    rw [e0, List.drop_eq_getElem_cons hk, List.filter_cons]
    have e1 : (xs.take k).filter (fun t => !decide (t.Until < now)) = xs.take k := by
      rw [List.filter_eq_self]
      intro t ht
      obtain ⟨j, hj, rfl⟩ := List.getElem_of_mem ht
      rw [List.length_take] at hj
      rw [List.getElem_take]
      have := hmin j (by omega)
      simpa using this
    rw [e1]
    simp at hpk
    simp [hpk]
structure TicOk (nx : Int) (xs : List Tic) : Prop where
  ord : Ord kT xs
  one : ∀ t ∈ xs, 1 ≤ t.No ∧ -1 ≤ t.For ∧ t.No < nx
  len : xs.length ≤ 24
theorem TicOk.filter {nx : Int} {xs : List Tic} (h : TicOk nx xs) (p : Tic → Bool) : TicOk nx (xs.filter p) :=
  ⟨List.Pairwise.filter _ h.ord, fun t ht => h.one t (List.mem_filter.1 ht).1, Nat.le_trans (List.length_filter_le _ _) h.len⟩
theorem TicOk.nil (nx : Int) : TicOk nx [] := ⟨List.Pairwise.nil, (fun t h => by cases h), by simp⟩
def oneB (t : Tic) : Bool := decide (1 ≤ t.No ∧ t.No ≤ 281474976710656 ∧ -1 ≤ t.For ∧ t.For < 16 ∧ 0 ≤ t.Until ∧ t.Until ≤ 281474976710656)
theorem one_eq (t : Tic) : F_ticket_one t = some (oneB t) := by
  unfold F_ticket_one oneB
  by_cases h1 : t.No ≥ 1 <;> by_cases h2 : t.No ≤ 281474976710656 <;> by_cases h3 : t.For ≥ -1 <;> by_cases h4 : t.For < 16 <;> by_cases h5 : t.Until ≥ 0 <;> by_cases h6 : t.Until ≤ 281474976710656 <;> simp [h1, h2, h3, h4, h5, h6] <;> omega
theorem TicOk.snoc {nx : Int} {xs : List Tic} {t : Tic} (h : TicOk nx xs) (h1 : oneB t = true) (hn : t.No = nx) (hl : xs.length < 24) : TicOk (nx + 1) (xs ++ [t]) := by
  simp only [oneB, decide_eq_true_eq] at h1
  refine ⟨List.pairwise_append.2 ⟨h.ord, List.pairwise_singleton _ _, fun a ha b hb => ?_⟩, fun y hy => ?_, by simp; omega⟩
  · rw [List.mem_singleton] at hb; subst hb
    have := (h.one a ha).2.2
    show a.No < b.No
    omega
  · rcases List.mem_append.1 hy with hy | hy
    · have := h.one y hy; omega
    · rw [List.mem_singleton] at hy; subst hy; omega
def issueT (xs : List Tic) (t : Tic) : List Tic × Int := if oneB t = false then (xs, 1) else if xs.length ≥ 24 then (xs, 2) else (xs ++ [t], 0)
theorem issueT_eq {xs : List Tic} {t : Tic} (h : TicOk t.No xs) : F_ticket_Issue xs t = some (issueT xs t) := by
  have hl := h.len
  unfold F_ticket_Issue
  rw [cloneT (by omega), one_eq]
  simp only [Option.bind_some, issueT]
  cases h1 : oneB t with
  | false => simp
  | true =>
    simp only [if_true, bind_if, Option.bind_some, Bool.false_eq_true, if_false]
    by_cases h0 : (xs.length : Int) > 0
    · have hx : xs[xs.length - 1]? = some xs[xs.length - 1] := List.getElem?_eq_getElem (by omega)
      have h2 := h.one _ (List.mem_of_getElem? hx)
      have h3 : ¬ t.No ≤ xs[xs.length - 1].No := by omega
      have e1 : w64 ((xs.length : Int) - 1) = ((xs.length - 1 : Nat) : Int) := by rw [w64_id (by omega) (by omega)]; omega
      simp only [h0, if_true, e1, ixN, hx, Option.bind_some, h3, if_false, bind_if, Bool.false_eq_true]
      by_cases h24 : xs.length ≥ 24
      · have : (xs.length : Int) ≥ 24 := by omega
        simp [this, h24]
      · have : ¬ (xs.length : Int) ≥ 24 := by omega
        rw [app_of (by simp; omega)]
        simp [this, h24]
    · have h24 : ¬ (xs.length : Int) ≥ 24 := by omega
      have h25 : ¬ xs.length ≥ 24 := by omega
      rw [app_of (by simp; omega)]
      simp only [h0, h24, h25, if_false, Option.bind_some, Bool.false_eq_true]
      simp
def useS (xs : List Tic) (no device now : Int) : Int := match xs.find? (fun t => t.No == no) with
  | none => 13
  | some t => if t.For ≥ 0 ∧ t.For ≠ device then 13 else if t.Until < now then 14 else 0
theorem find_idx {xs : List Tic} {p : Tic → Bool} : (xs.findIdx? p = none ∧ xs.find? p = none) ∨ (∃ k t, xs.findIdx? p = some k ∧ xs[k]? = some t ∧ xs.find? p = some t) := by
  cases h : xs.findIdx? p with
  | none =>
    refine .inl ⟨rfl, ?_⟩
    rw [List.find?_eq_none]
    intro x hx
    have := List.findIdx?_eq_none_iff.1 h x hx
    simp [this]
  | some k =>
    obtain ⟨hk, hpk, hmin⟩ := List.findIdx?_eq_some_iff_getElem.1 h
    refine .inr ⟨k, xs[k], rfl, List.getElem?_eq_getElem hk, ?_⟩
    rw [List.find?_eq_some_iff_getElem]
    exact ⟨hpk, k, hk, rfl, fun j hj => by have := hmin j hj; simpa using this⟩
theorem use_eq {xs : List Tic} {no device now : Int} (hl : xs.length ≤ 1000) : F_ticket_Use xs no device now = some (useS xs no device now) := by
  have hq : ∀ t : Tic, (fun z0 => F_ticket_Use_1 z0 no) t = some (t.No == no) := by intro t; simp only [F_ticket_Use_1]; by_cases h : t.No = no <;> simp [h]
  unfold F_ticket_Use
  rw [idx_eq hq hl]
  simp only [Option.bind_some, useS]
  rcases find_idx (xs := xs) (p := fun t => t.No == no) with ⟨h1, h2⟩ | ⟨k, t, h1, h2, h3⟩
  · simp [h1, h2]
  · have h4 : ¬ ((k : Int) < 0) := by omega
    rw [h1, h3]
    simp only [h4, if_false, ixN, h2, Option.bind_some, bind_if]
    by_cases h5 : t.For ≥ 0
    · by_cases h6 : t.For ≠ device
      · simp [h5, h6]
      · by_cases h7 : t.Until < now <;> simp [h5, h6, h7]
    · by_cases h7 : t.Until < now <;> simp [h5, h7]
/-! ### the session's state -/
abbrev Sta := T_claim_State
abbrev OpC := T_claim_Op
structure StaOk (s : Sta) : Prop where
  ep : 0 ≤ s.Epoch ∧ s.Epoch ≤ 1099511627776
  nx : 1 ≤ s.Next ∧ s.Next ≤ 281474976710656
  ros : RosOk s.Roster
  tic : TicOk s.Next s.Tickets
def moveS (s : Sta) (to : Int) : Sta × Int := if s.Epoch ≥ 1099511627776 then (s, 16) else (⟨s.Epoch + 1, to, s.Next, s.Roster, []⟩, 0)
def whomS (s : Sta) (id : Int) : Int := if id = -1 then 0 else if id < 0 ∨ id ≥ 16 then 1 else thereS s.Roster id
def liveT (xs : List Tic) (now : Int) : List Tic := xs.filter (fun t => !decide (t.Until < now))
def issueS (s : Sta) (o : OpC) : Sta × Int :=
  if s.Owner ≠ o.Device then (s, 10) else if whomS s o.For ≠ 0 then (s, whomS s o.For) else if s.Next ≥ 281474976710656 then (s, 16) else
  if (issueT (liveT s.Tickets o.Now) ⟨s.Next, o.For, o.Until⟩).2 ≠ 0 then (s, (issueT (liveT s.Tickets o.Now) ⟨s.Next, o.For, o.Until⟩).2) else
  (⟨s.Epoch, s.Owner, s.Next + 1, s.Roster, (issueT (liveT s.Tickets o.Now) ⟨s.Next, o.For, o.Until⟩).1⟩, 0)
def withR (s : Sta) (l : List Dev) : Sta := ⟨s.Epoch, s.Owner, s.Next, l, s.Tickets⟩
def askedS (s : Sta) (o : OpC) : Sta × Int :=
  let a := acceptS s.Roster o.Device o.Request
  if a.2 ≠ 0 then (s, a.2) else if o.Kind = 3 then issueS (withR s a.1) o else
  if o.Kind = 4 ∧ useS s.Tickets o.Ticket o.Device o.Now ≠ 0 then (withR s a.1, useS s.Tickets o.Ticket o.Device o.Now) else moveS (withR s a.1) o.Device
def revS (s : Sta) (id : Int) : Sta × Int :=
  let a := revokeS s.Roster id
  if a.2 ≠ 0 then (s, a.2) else if s.Owner = id then moveS (withR s a.1) (-1) else (withR s a.1, 0)
def rawS (s : Sta) (o : OpC) : Sta × Int :=
  if o.Kind = 1 then (withR s (enrolS s.Roster o.Device).1, (enrolS s.Roster o.Device).2) else
  if o.Kind = 2 then revS s o.Device else
  if o.Kind = 3 ∨ o.Kind = 4 ∨ o.Kind = 5 then askedS s o else if o.Kind = 6 then moveS s (-1) else (s, 7)
def doS (s : Sta) (o : OpC) : Sta × Int := if (rawS s o).2 ≠ 0 then (s, (rawS s o).2) else rawS s o
theorem move_eq {s : Sta} {to : Int} (h : 0 ≤ s.Epoch) : F_claim_State_move s to = some (moveS s to) := by
  unfold F_claim_State_move moveS
  by_cases h1 : s.Epoch ≥ 1099511627776
  · simp [h1]
  · simp [h1, w64_id (show -9223372036854775808 ≤ s.Epoch + 1 by omega) (by omega)]
theorem there0 {xs : List Dev} {id : Int} : (thereS xs id = match findK kD xs id with | none => 11 | some d => if d.Gone = true then 15 else 0) := rfl
theorem whom_eq {s : Sta} {id : Int} (h : RosOk s.Roster) : F_claim_State_whom s id = some (whomS s id) := by
  unfold F_claim_State_whom whomS
  rw [find_eq h]
  simp only [bind_if, Option.bind_some, Bool.false_eq_true, if_false, if_true]
  by_cases h1 : id = -1
  · simp [h1]
  · by_cases h2 : id < 0
    · simp [h1, h2]
    · by_cases h3 : id ≥ 16
      · simp [h1, h2, h3]
      · rw [there0]
        cases hf : findK kD s.Roster id with
        | none => simp [h1, h2, h3]
        | some d => cases hg : d.Gone <;> simp [h1, h2, h3, hg]
theorem issue_eq {s : Sta} {o : OpC} (hr : RosOk s.Roster) (ht : TicOk s.Next s.Tickets) (hn : 1 ≤ s.Next) : F_claim_State_issue s o = some (issueS s o) := by
  have hlv := ht.filter (fun t => !decide (t.Until < o.Now))
  unfold F_claim_State_issue issueS
  rw [whom_eq hr, live_eq (by have := ht.len; omega)]
  simp only [Option.bind_some]
  have e1 := issueT_eq (t := ⟨s.Next, o.For, o.Until⟩) hlv
  unfold liveT
  rw [e1]
  simp only [bind_if, Option.bind_some, Bool.false_eq_true, if_false, if_true]
  by_cases h1 : s.Owner = o.Device
  · by_cases h2 : whomS s o.For = 0
    · by_cases h3 : s.Next ≥ 281474976710656
      · simp [h1, h2, h3]
      · by_cases h4 : (issueT (s.Tickets.filter (fun t => !decide (t.Until < o.Now))) ⟨s.Next, o.For, o.Until⟩).2 = 0
        · simp [h1, h2, h3, h4, w64_id (show -9223372036854775808 ≤ s.Next + 1 by omega) (by omega)]
        · simp [h1, h2, h3, h4]
    · simp [h1, h2]
  · simp [h1]
theorem asked_eq {s : Sta} {o : OpC} (h : StaOk s) : F_claim_State_asked s o = some (askedS s o) := by
  unfold F_claim_State_asked askedS
  rw [accept_eq h.ros, use_eq (by have := h.tic.len; omega)]
  simp only [bind_if, Option.bind_some, Bool.false_eq_true, if_false, if_true]
  have hk := accept_ok (id := o.Device) (rq := o.Request) h.ros
  by_cases h1 : (acceptS s.Roster o.Device o.Request).2 = 0
  · have e1 := issue_eq (s := withR s (acceptS s.Roster o.Device o.Request).1) (o := o) hk h.tic h.nx.1
    have e2 := move_eq (s := withR s (acceptS s.Roster o.Device o.Request).1) (to := o.Device) h.ep.1
    unfold withR at e1 e2 ⊢
    rw [e1, e2]
    by_cases h2 : o.Kind = 3
    · simp [h1, h2]
    · by_cases h3 : o.Kind = 4
      · by_cases h4 : useS s.Tickets o.Ticket o.Device o.Now = 0 <;> simp [h1, h3, h4]
      · simp [h1, h2, h3]
  · simp [h1]
theorem rev_eq {s : Sta} {id : Int} (h : StaOk s) : F_claim_State_revoke s id = some (revS s id) := by
  unfold F_claim_State_revoke revS
  rw [revoke_eq h.ros]
  simp only [bind_if, Option.bind_some, Bool.false_eq_true, if_false, if_true]
  have e2 := move_eq (s := withR s (revokeS s.Roster id).1) (to := -1) h.ep.1
  unfold withR at e2 ⊢
  rw [e2]
  by_cases h1 : (revokeS s.Roster id).2 = 0
  · by_cases h2 : s.Owner = id <;> simp [h1, h2]
  · simp [h1]
theorem raw_ok {s : Sta} {o : OpC} (h : StaOk s) : (rawS s o).2 = 0 → StaOk (rawS s o).1 := by
  have hm : ∀ (s : Sta) (to : Int), StaOk s → (moveS s to).2 = 0 → StaOk (moveS s to).1 := by
    intro s to h
    unfold moveS
    split
    · simp
    · exact fun _ => ⟨⟨by simp; have := h.ep; omega, by simp; omega⟩, h.nx, h.ros, TicOk.nil _⟩
  have hw : ∀ l, RosOk l → StaOk (withR s l) := fun l hl => ⟨h.ep, h.nx, hl, h.tic⟩
  unfold rawS
  split
  · exact fun _ => hw _ (enrol_ok h.ros)
  · split
    · unfold revS
      simp only
      split
      · intro _; exact h
      · split
        · exact hm _ _ (hw _ (revoke_ok h.ros))
        · intro _; exact hw _ (revoke_ok h.ros)
    · split
      · unfold askedS
        simp only
        have ha := hw _ (accept_ok (id := o.Device) (rq := o.Request) h.ros)
        split
        · intro _; exact h
        · split
          · unfold issueS
            split
            · intro _; exact ha
            · split
              · intro _; exact ha
              · split
                · intro _; exact ha
                · rename_i hnx
                  split
                  · intro _; exact ha
                  · rename_i hz
                    intro _
                    have hz' : (issueT (liveT (withR s (acceptS s.Roster o.Device o.Request).1).Tickets o.Now) ⟨(withR s (acceptS s.Roster o.Device o.Request).1).Next, o.For, o.Until⟩).2 = 0 := Classical.byContradiction hz
                    have hlv := ha.tic.filter (fun t => !decide (t.Until < o.Now))
                    refine ⟨ha.ep, ⟨by have := ha.nx; simp; omega, by simp; omega⟩, ha.ros, ?_⟩
                    unfold issueT at hz' ⊢
                    split
                    · rename_i h1; rw [if_pos h1] at hz'; simp at hz'
                    · rename_i h1
                      rw [if_neg h1] at hz'
                      split
                      · rename_i h2; rw [if_pos h2] at hz'; simp at hz'
                      · rename_i h2
                        exact hlv.snoc (by simpa using h1) rfl (by simpa [liveT] using h2)
          · split
            · intro _; exact ha
            · exact hm _ _ ha
      · split
        · exact hm _ _ h
        · simp
theorem do_ok {s : Sta} {o : OpC} (h : StaOk s) : StaOk (doS s o).1 := by
  unfold doS
  split
  · exact h
  · rename_i h1; exact raw_ok h (Classical.byContradiction h1)
theorem do_eq {s : Sta} {o : OpC} (h : StaOk s) : F_claim_Do s o = some (doS s o) := by
  have hok := do_ok (o := o) h
  have hl1 := h.ros.len
  have hl2 := h.tic.len
  have c1 := cloneR (xs := s.Roster) (by omega)
  have c2 := cloneT (xs := s.Tickets) (by omega)
  have fin : ∀ r : Sta × Int, r = rawS s o → (if r.2 ≠ 0 then (Option.bind (F_slices_Clone_roster_Device s.Roster) fun y53 => (Option.bind (F_slices_Clone_ticket_Ticket s.Tickets) fun y56 => (some (({ Epoch := s.Epoch, Owner := s.Owner, Next := s.Next, Roster := y53, Tickets := y56 } : T_claim_State), r.2)))) else (Option.bind (F_slices_Clone_roster_Device r.1.Roster) fun y53 => (Option.bind (F_slices_Clone_ticket_Ticket r.1.Tickets) fun y56 => (some (({ Epoch := r.1.Epoch, Owner := r.1.Owner, Next := r.1.Next, Roster := y53, Tickets := y56 } : T_claim_State), r.2))))) = some (doS s o) := by
    rintro r rfl
    unfold doS
    by_cases h1 : (rawS s o).2 = 0
    · have hk := raw_ok (o := o) h h1
      have d1 := cloneR (xs := (rawS s o).1.Roster) (by have := hk.ros.len; omega)
      have d2 := cloneT (xs := (rawS s o).1.Tickets) (by have := hk.tic.len; omega)
      simp [h1, d1, d2]
      rw [← h1]
    · simp [h1, c1, c2]
  unfold F_claim_Do
  rw [enrol_eq h.ros, rev_eq h, asked_eq h, move_eq h.ep.1]
  have hr : rawS s o = rawS s o := rfl
  by_cases k1 : o.Kind = 1
  · have e : rawS s o = (withR s (enrolS s.Roster o.Device).1, (enrolS s.Roster o.Device).2) := by unfold rawS; rw [if_pos k1]
    have := fin _ e.symm
    simp only [k1, if_true, Option.bind_some]
    exact this
  by_cases k2 : o.Kind = 2
  · have e : rawS s o = revS s o.Device := by unfold rawS; rw [if_neg k1, if_pos k2]
    have := fin _ e.symm
    simp only [k1, k2, if_true, if_false, Option.bind_some, Bool.false_eq_true]
    exact this
  by_cases k345 : o.Kind = 3 ∨ o.Kind = 4 ∨ o.Kind = 5
  · have e : rawS s o = askedS s o := by unfold rawS; rw [if_neg k1, if_neg k2, if_pos k345]
    have := fin _ e.symm
    have hc : (if o.Kind = 3 then some true else if o.Kind = 4 then some true else if o.Kind = 5 then some true else some false) = some true := by
      rcases k345 with k | k | k <;> simp [k]
    simp only [k1, k2, if_false, Option.bind_some, Bool.false_eq_true, hc, if_true]
    exact this
  · have hc : (if o.Kind = 3 then some true else if o.Kind = 4 then some true else if o.Kind = 5 then some true else some false) = some false := by
      simp only [not_or] at k345
      simp [k345]
    by_cases k6 : o.Kind = 6
    · have e : rawS s o = moveS s (-1) := by unfold rawS; rw [if_neg k1, if_neg k2, if_neg k345, if_pos k6]
      have := fin _ e.symm
      simp only [k1, k2, if_false, Option.bind_some, Bool.false_eq_true, hc, k6, if_true]
      exact this
    · have e : rawS s o = (s, 7) := by unfold rawS; rw [if_neg k1, if_neg k2, if_neg k345, if_neg k6]
      have := fin _ e.symm
      simp only [k1, k2, if_false, Option.bind_some, Bool.false_eq_true, hc, k6]
      exact this
/-! ### the document's -/
theorem refFind {xs : List Dev} {id : Int} (h : RosOk xs) : (findK kD xs id = none ∧ F_batonref25_Find (xs.map rD) id = some (-1)) ∨ (∃ (p : Nat) (d : Dev), findK kD xs id = some d ∧ xs[p]? = some d ∧ d.Id = id ∧ F_batonref25_Find (xs.map rD) id = some (p : Int)) := by
  have hl := h.len
  have key : F_batonref25_Find (xs.map rD) id = some (scanI (fun i (t : T_batonref25_Device) => if t.Id = id then some (i : Int) else none) (-1) 0 (xs.map rD)) := by
    unfold F_batonref25_Find
    refine loop_scan0 _ _ ?_ ?_
    · intro i v hv
      have hlt := (List.getElem?_eq_some_iff.1 hv).1
      have hlt2 : i < xs.length := by simpa using hlt
      have h1 : (i : Int) < ((xs.map rD).length : Int) := by omega
      simp only [batonref25_Find_l1, h1, if_true, ixN, hv, Option.bind_some, w64_succ (show i < 4611686018427387904 by omega)]
      by_cases hc : v.Id = id <;> simp [hc]
    · simp [batonref25_Find_l1]
  have sc : ∀ (ys : List Dev) (i : Nat), (ys.find? (fun x => kD x == id) = none ∧ scanI (fun i (t : T_batonref25_Device) => if t.Id = id then some (i : Int) else none) (-1) i (ys.map rD) = -1) ∨ (∃ (p : Nat) (d : Dev), ys.find? (fun x => kD x == id) = some d ∧ ys[p]? = some d ∧ d.Id = id ∧ scanI (fun i (t : T_batonref25_Device) => if t.Id = id then some (i : Int) else none) (-1) i (ys.map rD) = ((i + p : Nat) : Int)) := by
    intro ys
    induction ys with
    | nil => intro i; exact .inl ⟨rfl, rfl⟩
    | cons y ys ih =>
      intro i
      by_cases hc : y.Id = id
      · exact .inr ⟨0, y, by simp [List.find?_cons, kD, hc], rfl, hc, by simp [scanI, rD, hc]⟩
      · have hc' : (kD y == id) = false := by simpa [kD] using hc
        rcases ih (i + 1) with ⟨h1, h2⟩ | ⟨p, d, h1, h2, h3, h4⟩
        · exact .inl ⟨by simp only [List.find?_cons, hc']; exact h1, by simpa [scanI, rD, hc] using h2⟩
        · refine .inr ⟨p + 1, d, by simp only [List.find?_cons, hc']; exact h1, by simpa using h2, h3, ?_⟩
          have e1 : scanI (fun i (t : T_batonref25_Device) => if t.Id = id then some (i : Int) else none) (-1) i ((y :: ys).map rD) = scanI (fun i (t : T_batonref25_Device) => if t.Id = id then some (i : Int) else none) (-1) (i + 1) (ys.map rD) := by simp [scanI, rD, hc]
          rw [e1, h4]
          congr 1
          omega
  rw [key]
  rcases sc xs 0 with ⟨h1, h2⟩ | ⟨p, d, h1, h2, h3, h4⟩
  · exact .inl ⟨h1, by rw [h2]⟩
  · exact .inr ⟨p, d, h1, h2, h3, by rw [h4]; simp⟩
def wstep (d : T_batonref25_Device) (s : List T_batonref25_Device × Bool) (x : T_batonref25_Device) : List T_batonref25_Device × Bool :=
  let s1 := if s.2 = false ∧ x.Id ≥ d.Id then (s.1 ++ [d], true) else s
  if x.Id ≠ d.Id then (s1.1 ++ [x], s1.2) else s1
theorem with_loop (d : T_batonref25_Device) (xs : List T_batonref25_Device) (hl : xs.length ≤ 100) : ∀ (n i : Nat) (acc : List T_batonref25_Device) (dn : Bool), i + n = xs.length → acc.length ≤ 2 * i →
    loopO (batonref25_with_l1 xs d) (acc, dn, (i : Int)) = some (let r := (xs.drop i).foldl (wstep d) (acc, dn); if r.2 = true then r.1 else r.1 ++ [d]) := by
  intro n
  induction n with
  | zero =>
    intro i acc dn hi hs
    obtain rfl : i = xs.length := by omega
    have h1 : ¬ ((xs.length : Int) < (xs.length : Int)) := by omega
    refine loop_out ?_
    rw [List.drop_length]
    have e1 : appO 32 acc [d] = some (acc ++ [d]) := app_of (by simp; omega)
    simp only [batonref25_with_l1, h1, if_false, Option.bind_some, Bool.false_eq_true, e1, List.foldl_nil]
    cases dn <;> simp
  | succ n ih =>
    intro i acc dn hi hs
    have hlt : i < xs.length := by omega
    have hv : xs[i]? = some xs[i] := List.getElem?_eq_getElem hlt
    have h1 : (i : Int) < (xs.length : Int) := by omega
    rw [List.drop_eq_getElem_cons hlt, List.foldl_cons]
    have hstep : batonref25_with_l1 xs d (acc, dn, (i : Int)) = some (.inl ((wstep d (acc, dn) xs[i]).1, (wstep d (acc, dn) xs[i]).2, ((i + 1 : Nat) : Int))) := by
      have e1 : appO 32 acc [d] = some (acc ++ [d]) := app_of (by simp; omega)
      have e2 : appO 32 acc [xs[i]] = some (acc ++ [xs[i]]) := app_of (by simp; omega)
      have e3 : appO 32 (acc ++ [d]) [xs[i]] = some (acc ++ [d] ++ [xs[i]]) := app_of (by simp; omega)
      simp only [batonref25_with_l1, h1, if_true, Option.bind_some, ixN, hv, w64_succ (show i < 4611686018427387904 by omega), bind_if, wstep]
      cases dn with
      | true => by_cases hc : xs[i].Id = d.Id <;> simp [hc, e2]
      | false =>
        by_cases hg : xs[i].Id ≥ d.Id
        · by_cases hc : xs[i].Id = d.Id
          · simp [hc, e1]
          · simp only [hc, hg, e1, e3, Option.bind_some, if_true, ne_eq, not_false_eq_true, and_self, Bool.false_eq_true, if_false]
        · have hc : ¬ xs[i].Id = d.Id := by omega
          simp [hc, hg, e2]
    rw [loop_next hstep]
    refine ih (i + 1) (wstep d (acc, dn) xs[i]).1 (wstep d (acc, dn) xs[i]).2 (by omega) ?_
    unfold wstep
    simp only
    split <;> split <;> simp only [List.length_append, List.length_singleton] <;> omega
theorem with_done (d : T_batonref25_Device) : ∀ (xs : List T_batonref25_Device) (acc : List T_batonref25_Device), (∀ x ∈ xs, d.Id < x.Id) → xs.foldl (wstep d) (acc, true) = (acc ++ xs, true)
  | [], acc, _ => by simp
  | x :: xs, acc, h => by
    have h0 := h x (by simp)
    have e1 : wstep d (acc, true) x = (acc ++ [x], true) := by
      have : x.Id ≠ d.Id := by omega
      simp [wstep, this]
    rw [List.foldl_cons, e1, with_done d xs _ (fun y hy => h y (by simp [hy]))]
    simp
theorem with_fold (d : T_batonref25_Device) : ∀ (xs : List T_batonref25_Device) (acc : List T_batonref25_Device), Ord kD' xs → (let r := xs.foldl (wstep d) (acc, false); if r.2 = true then r.1 else r.1 ++ [d]) = acc ++ putK kD' xs d
  | [], acc, _ => by simp [putK]
  | x :: xs, acc, h => by
    have h' := List.pairwise_cons.1 h
    rw [List.foldl_cons]
    by_cases h1 : x.Id < d.Id
    · have e1 : wstep d (acc, false) x = (acc ++ [x], false) := by
        have h2 : ¬ x.Id ≥ d.Id := by omega
        have h3 : x.Id ≠ d.Id := by omega
        simp [wstep, h2, h3]
      rw [e1, with_fold d xs _ h'.2]
      have h4 : kD' x < kD' d := h1
      simp [putK, h4]
    · have h2 : x.Id ≥ d.Id := by omega
      have h4 : ¬ kD' x < kD' d := h1
      by_cases h3 : x.Id = d.Id
      · have e1 : wstep d (acc, false) x = (acc ++ [d], true) := by simp [wstep, h3]
        have h5 : kD' x = kD' d := h3
        rw [e1, with_done d xs _ (fun y hy => by have := h'.1 y hy; show kD' d < kD' y; omega)]
        simp [putK, h4, h5]
      · have e1 : wstep d (acc, false) x = (acc ++ [d] ++ [x], true) := by simp [wstep, h2, h3]
        have h5 : ¬ kD' x = kD' d := h3
        rw [e1, with_done d xs _ (fun y hy => by have := h'.1 y hy; show kD' d < kD' y; have : kD' x > kD' d := (by show x.Id > d.Id; omega); omega)]
        simp [putK, h4, h5]
theorem ord_map {xs : List Dev} (h : Ord kD xs) : Ord kD' (xs.map rD) := List.Pairwise.map rD (fun a b hab => hab) h
theorem with_eq {xs : List Dev} {d : Dev} (h : RosOk xs) : F_batonref25_with (xs.map rD) (rD d) = some ((putK kD xs d).map rD) := by
  have hl := h.len
  unfold F_batonref25_with
  have := with_loop (rD d) (xs.map rD) (by simp; omega) (xs.map rD).length 0 [] false (by omega) (by simp)
  have e0 : ((0 : Nat) : Int) = 0 := rfl
  rw [e0] at this
  simp only at this
  rw [this, List.drop_zero]
  have h2 := with_fold (rD d) (xs.map rD) [] (ord_map h.ord)
  simp only at h2
  rw [h2, List.nil_append, putK_map rD rD_key]
theorem refThere {xs : List Dev} {id : Int} (h : RosOk xs) : F_batonref25_There (xs.map rD) id = some (thereS xs id) := by
  unfold F_batonref25_There
  rcases refFind (id := id) h with ⟨h1, h2⟩ | ⟨p, d, h1, h2, h3, h4⟩
  · simp [h2, thereS, h1]
  · have h5 : ¬ ((p : Int) < 0) := by omega
    rw [h4]
    simp only [Option.bind_some, h5, if_false, ixN, List.getElem?_map, h2, Option.map_some, thereS, h1]
    cases hg : d.Gone <;> simp [rD, hg]
def r2 (x : List Dev × Int) : List T_batonref25_Device × Int := (x.1.map rD, x.2)
theorem refEnrol {xs : List Dev} {id : Int} (h : RosOk xs) : F_batonref25_Enrol (xs.map rD) id = some (r2 (enrolS xs id)) := by
  unfold F_batonref25_Enrol enrolS r2
  simp only [bind_if, Option.bind_some, Bool.false_eq_true, if_false, if_true]
  by_cases h0 : id < 0
  · simp [h0]
  by_cases h15 : id > 15
  · simp [h0, h15]
  rcases refFind (id := id) h with ⟨h1, h2⟩ | ⟨p, d, h1, h2, h3, h4⟩
  · have e1 := with_eq (d := ⟨id, 1, false, 0⟩) h
    simp [h2, h1, h0, h15]
    rw [show (⟨id, 1, false, 0⟩ : T_batonref25_Device) = rD ⟨id, 1, false, 0⟩ from rfl, e1]
    rfl
  · have h5 : ¬ ((p : Int) < 0) := by omega
    have ht := h.tms d (dev_mem h2)
    cases hg : d.Gone with
    | false => simp [h4, h1, h0, h15, h5, ixN, h2, rD, hg]
    | true =>
      by_cases hm : d.Times = 1000
      · have : 1000 ≤ d.Times := by omega
        simp [h4, h1, h0, h15, h5, ixN, h2, rD, hg, hm]
      · have hm2 : ¬ 1000 ≤ d.Times := by omega
        have e1 := with_eq (d := ⟨id, d.Times + 1, false, 0⟩) h
        have e2 : w64 (d.Times + 1) = d.Times + 1 := w64_id (by omega) (by omega)
        simp [h4, h1, h0, h15, h5, ixN, h2, rD, hg, hm, hm2, e2]
        rw [show (⟨id, d.Times + 1, false, 0⟩ : T_batonref25_Device) = rD ⟨id, d.Times + 1, false, 0⟩ from rfl]
        rw [e1]
        rfl
theorem refRevoke {xs : List Dev} {id : Int} (h : RosOk xs) : F_batonref25_Revoke (xs.map rD) id = some (r2 (revokeS xs id)) := by
  unfold F_batonref25_Revoke revokeS r2
  rw [refThere h]
  simp only [Option.bind_some]
  by_cases h0 : thereS xs id = 0
  · rcases refFind (id := id) h with ⟨h1, h2⟩ | ⟨p, d, h1, h2, h3, h4⟩
    · simp [thereS, h1] at h0
    · have e1 := with_eq (d := ⟨d.Id, d.Times, true, d.Last⟩) h
      simp only [h0, ne_eq, not_true_eq_false, if_false, h4, Option.bind_some, ixN, List.getElem?_map, h2, Option.map_some, h1]
      rw [show (⟨(rD d).Id, (rD d).Times, true, (rD d).Last⟩ : T_batonref25_Device) = rD ⟨d.Id, d.Times, true, d.Last⟩ from rfl, e1]
      rfl
  · simp [h0]
theorem refAccept {xs : List Dev} {id rq : Int} (h : RosOk xs) : F_batonref25_Accept (xs.map rD) id rq = some (r2 (acceptS xs id rq)) := by
  unfold F_batonref25_Accept acceptS r2
  rw [refThere h]
  simp only [Option.bind_some, bind_if]
  by_cases h0 : thereS xs id = 0
  · rcases refFind (id := id) h with ⟨h1, h2⟩ | ⟨p, d, h1, h2, h3, h4⟩
    · simp [thereS, h1] at h0
    · have e1 := with_eq (d := ⟨d.Id, d.Times, d.Gone, rq⟩) h
      simp only [h0, ne_eq, not_true_eq_false, if_false, h4, Option.bind_some, ixN, List.getElem?_map, h2, Option.map_some, h1, Bool.false_eq_true]
      by_cases ha : rq ≤ d.Last
      · simp [rD, ha]
      · by_cases hb : rq > 281474976710656
        · simp [rD, ha, hb]
        · simp only [show ¬ rq ≤ (rD d).Last from ha, ha, hb, if_false, or_self]
          rw [show (⟨(rD d).Id, (rD d).Times, (rD d).Gone, rq⟩ : T_batonref25_Device) = rD ⟨d.Id, d.Times, d.Gone, rq⟩ from rfl, e1]
          rfl
  · simp [h0]
theorem refOne (t : Tic) : F_batonref26_One (rT t) = some (oneB t) := by
  unfold F_batonref26_One oneB rT
  by_cases h1 : t.No ≥ 1 <;> by_cases h2 : t.No ≤ 281474976710656 <;> by_cases h3 : t.For ≥ -1 <;> by_cases h4 : t.For ≤ 15 <;> by_cases h5 : t.Until ≥ 0 <;> by_cases h6 : t.Until ≤ 281474976710656 <;> simp [h1, h2, h3, h4, h5, h6] <;> omega
theorem refLive {xs : List Tic} {now : Int} (hl : xs.length ≤ 100) : F_batonref26_Live (xs.map rT) now = some ((liveT xs now).map rT) := by
  unfold F_batonref26_Live
  have h := loop_fold (step := batonref26_Live_l1 (xs.map rT) now) (xs := xs) (fun acc v => if v.Until ≥ now then acc ++ [rT v] else acc) id (fun i acc => acc.length ≤ i)
    (by
      intro i acc v hv hI
      have hlt := (List.getElem?_eq_some_iff.1 hv).1
      have h1 : (i : Int) < ((xs.map rT).length : Int) := by simp; omega
      have e2 : appO 24 acc [rT v] = some (acc ++ [rT v]) := app_of (by simp; omega)
      simp only [batonref26_Live_l1, h1, if_true, Option.bind_some, ixN, List.getElem?_map, hv, Option.map_some, w64_succ (show i < 4611686018427387904 by omega)]
      by_cases hu : v.Until ≥ now
      · have hu' : (rT v).Until ≥ now := hu
        simp only [hu, hu', if_true, e2, Option.bind_some, List.length_append, List.length_singleton]
        exact ⟨trivial, by omega⟩
      · have hu' : ¬ (rT v).Until ≥ now := hu
        simp only [hu, hu', if_false]
        exact ⟨trivial, by omega⟩)
    (by intro s _; simp [batonref26_Live_l1]) xs.length 0 [] (by omega) (by simp)
  rw [show ((0 : Nat) : Int) = 0 from rfl] at h
  rw [h, List.drop_zero]
  congr 1
  have : ∀ (ys : List Tic) (acc : List T_batonref26_Ticket), ys.foldl (fun acc v => if v.Until ≥ now then acc ++ [rT v] else acc) acc = acc ++ (liveT ys now).map rT := by
    intro ys
    induction ys with
    | nil => intro acc; simp [liveT]
    | cons y ys ih =>
      intro acc
      rw [List.foldl_cons, ih]
      by_cases hu : y.Until ≥ now
      · have : ¬ y.Until < now := by omega
        simp [liveT, List.filter_cons, hu, this]
      · have : y.Until < now := by omega
        simp [liveT, List.filter_cons, hu, this]
  rw [this]
  rfl
theorem refIssueT {xs : List Tic} {t : Tic} (h : TicOk t.No xs) : F_batonref26_Issue (xs.map rT) (rT t) = some ((issueT xs t).1.map rT, (issueT xs t).2) := by
  have hl := h.len
  unfold F_batonref26_Issue issueT
  rw [refOne]
  simp only [Option.bind_some]
  cases h1 : oneB t with
  | false => simp
  | true =>
    simp only [if_true, Bool.true_eq_false, if_false]
    have e1 : appO 24 ([] : List T_batonref26_Ticket) (xs.map rT) = some (xs.map rT) := by rw [app_of (by simp; omega)]; rfl
    have e2 : appO 24 (xs.map rT) [rT t] = some (xs.map rT ++ [rT t]) := app_of (by simp; omega)
    rw [loop_scan0 (xs := xs) (fun _ _ => none) (if (xs.length : Int) = 24 then (xs.map rT, 2) else (xs.map rT ++ [rT t], 0))]
    · have sc : ∀ (z : List T_batonref26_Ticket × Int) (ys : List Tic) (i : Nat), scanI (fun (_ : Nat) (_ : Tic) => none) z i ys = z := by
        intro z ys
        induction ys with
        | nil => intro i; rfl
        | cons y ys ih => intro i; simp [scanI, ih]
      rw [sc]
      by_cases h24 : xs.length ≥ 24
      · have : (xs.length : Int) = 24 := by omega
        simp [this, h24]
      · have : ¬ (xs.length : Int) = 24 := by omega
        simp [this, h24]
    · intro i v hv
      have hlt := (List.getElem?_eq_some_iff.1 hv).1
      have h1 : (i : Int) < ((xs.map rT).length : Int) := by simp; omega
      have h2 := h.one v (List.mem_of_getElem? hv)
      have h3 : ¬ (rT v).No ≥ (rT t).No := by show ¬ v.No ≥ t.No; omega
      simp only [batonref26_Issue_l1, h1, if_true, Option.bind_some, ixN, List.getElem?_map, hv, Option.map_some, h3, if_false, Bool.false_eq_true, w64_succ (show i < 4611686018427387904 by omega)]
    · have h1 : ¬ ((xs.length : Int) < ((xs.map rT).length : Int)) := by simp
      simp only [batonref26_Issue_l1, h1, if_false, Option.bind_some, Bool.false_eq_true, e1, e2]
      by_cases h24 : xs.length = 24
      · simp [h24]
      · have : ¬ (xs.length : Int) = 24 := by omega
        simp [h24, this]
theorem refUse {xs : List Tic} {no device now nx : Int} (h : TicOk nx xs) : F_batonref26_Use (xs.map rT) no device now = some (useS xs no device now) := by
  have hl := h.len
  unfold F_batonref26_Use
  rw [loop_scan0 (xs := xs) (fun _ t => if t.No ≠ no ∨ t.For ≠ -1 ∧ t.For ≠ device then none else if t.Until < now then some 14 else some 0) 13]
  · congr 1
    have sc : ∀ (ys : List Tic) (i : Nat), TicOk nx ys → scanI (fun (_ : Nat) (t : Tic) => if t.No ≠ no ∨ t.For ≠ -1 ∧ t.For ≠ device then none else if t.Until < now then some 14 else some 0) 13 i ys = useS ys no device now := by
      intro ys
      induction ys with
      | nil => intro i _; rfl
      | cons y ys ih =>
        intro i hy
        have h' := List.pairwise_cons.1 hy.ord
        have hys : TicOk nx ys := ⟨h'.2, fun t ht => hy.one t (by simp [ht]), by have := hy.len; simp at this; omega⟩
        have hf := (hy.one y (by simp)).2.1
        unfold scanI
        rw [ih _ hys]
        unfold useS
        rw [List.find?_cons]
        by_cases hn : y.No = no
        · have e1 : (y.No == no) = true := by simpa using hn
          have e2 : ys.find? (fun t => t.No == no) = none := by
            rw [List.find?_eq_none]
            intro t ht
            have := h'.1 t ht
            have : y.No < t.No := this
            simp; omega
          rw [e1]
          simp only [e2, hn, ne_eq, not_true_eq_false, false_or]
          by_cases hfo : y.For ≥ 0 ∧ y.For ≠ device
          · have h1 : ¬ y.For = -1 ∧ ¬ y.For = device := ⟨by omega, hfo.2⟩
            rw [if_pos h1]; simp only [hfo.1, hfo.2, not_false_eq_true, and_self, if_true]; rfl
          · have h1 : ¬ (¬ y.For = -1 ∧ ¬ y.For = device) := fun hh => hfo ⟨by omega, hh.2⟩
            have h2 : ¬ (y.For ≥ 0 ∧ ¬ y.For = device) := hfo
            rw [if_neg h1]; simp only [h2, if_false]
            split <;> rfl
        · have e1 : (y.No == no) = false := by simpa using hn
          simp only [e1, hn, ne_eq, not_false_eq_true, true_or, if_true, Option.getD_none]
    exact sc xs 0 h
  · intro i v hv
    have hlt := (List.getElem?_eq_some_iff.1 hv).1
    have h1 : (i : Int) < ((xs.map rT).length : Int) := by simp; omega
    simp only [batonref26_Use_l1, h1, if_true, Option.bind_some, ixN, List.getElem?_map, hv, Option.map_some, w64_succ (show i < 4611686018427387904 by omega), rT]
    by_cases a : v.No = no
    · by_cases b : v.For = -1
      · by_cases c : v.Until < now <;> simp [a, b, c]
      · by_cases d : v.For = device
        · by_cases c : v.Until < now
          · simp [a, b, c, d]
          · simp [a, b, c, d]
        · simp [a, b, d]
    · simp [a]
  · have h1 : ¬ ((xs.length : Int) < ((xs.map rT).length : Int)) := by simp
    simp only [batonref26_Use_l1, h1, if_false, Option.bind_some, Bool.false_eq_true, Option.map_some]
def rS (s : Sta) : T_batonref27_State := ⟨s.Epoch, s.Owner, s.Next, s.Roster.map rD, s.Tickets.map rT⟩
def rO (o : OpC) : T_batonref27_Op := ⟨o.Kind, o.Device, o.Request, o.Ticket, o.For, o.Until, o.Now⟩
theorem refMove {s : Sta} {to : Int} (h : 0 ≤ s.Epoch ∧ s.Epoch ≤ 1099511627776) : F_batonref27_move (rS s) to = some (rS (moveS s to).1, (moveS s to).2) := by
  unfold F_batonref27_move moveS
  by_cases h1 : s.Epoch ≥ 1099511627776
  · have : (rS s).Epoch = 1099511627776 := by show s.Epoch = _; omega
    simp [this, h1]
  · have : ¬ (rS s).Epoch = 1099511627776 := by show ¬ s.Epoch = _; omega
    simp only [this, h1, if_false]
    rw [show (rS s).Epoch = s.Epoch from rfl, w64_id (x := s.Epoch + 1) (by omega) (by omega)]
    rfl
theorem refIssue {s : Sta} {o : OpC} (h : StaOk s) : F_batonref27_issue (rS s) (rO o) = some (rS (issueS s o).1, (issueS s o).2) := by
  have hlv := h.tic.filter (fun t => !decide (t.Until < o.Now))
  have e1 := refIssueT (t := ⟨s.Next, o.For, o.Until⟩) hlv
  have hnx := h.nx
  unfold F_batonref27_issue issueS whomS
  have f1 : (rS s).Roster = s.Roster.map rD := rfl
  have f2 : (rS s).Tickets = s.Tickets.map rT := rfl
  have f3 : (rS s).Owner = s.Owner := rfl
  have f4 : (rS s).Next = s.Next := rfl
  have g1 : (rO o).Device = o.Device := rfl
  have g2 : (rO o).For = o.For := rfl
  have g3 : (rO o).Now = o.Now := rfl
  have g4 : (rO o).Until = o.Until := rfl
  rw [f1, f2, f3, f4, g1, g2, g3, g4, refThere h.ros, refLive (by have := h.tic.len; omega)]
  simp only [Option.bind_some, bind_if, Bool.false_eq_true, if_false, if_true]
  unfold liveT
  rw [show (⟨s.Next, o.For, o.Until⟩ : T_batonref26_Ticket) = rT ⟨s.Next, o.For, o.Until⟩ from rfl, e1]
  by_cases h1 : s.Owner = o.Device
  · by_cases a : o.For = -1
    · have a1 : ¬ o.For < -1 := by omega
      have a2 : ¬ o.For > 15 := by omega
      have a3 : ¬ o.For ≥ 0 := by omega
      simp only [h1, a, ne_eq, not_true_eq_false, if_false, if_true, show ¬ ((-1 : Int) < -1) by omega, show ¬ ((-1 : Int) > 15) by omega, show ¬ ((-1 : Int) ≥ 0) by omega]
      rw [a] at e1
      by_cases h3 : s.Next ≥ 281474976710656
      · have : s.Next = 281474976710656 := by have := h.nx; omega
        simp [this]
      · have : ¬ s.Next = 281474976710656 := by omega
        simp only [h3, this, if_false, Option.bind_some]
        by_cases h4 : (issueT (s.Tickets.filter (fun t => !decide (t.Until < o.Now))) ⟨s.Next, -1, o.Until⟩).2 = 0
        · simp only [h4, not_true_eq_false, if_false, w64_id (show -9223372036854775808 ≤ s.Next + 1 by omega) (by omega)]
          rfl
        · simp only [h4, not_false_eq_true, if_true]
    · by_cases b : o.For < 0 ∨ o.For ≥ 16
      · have b1 : o.For < -1 ∨ o.For > 15 := by omega
        simp only [h1, a, b, ne_eq, not_true_eq_false, if_false, if_true]
        rcases b1 with b1 | b1
        · simp [b1]
        · by_cases b2 : o.For < -1 <;> simp [b1, b2]
      · have a1 : ¬ o.For < -1 := by omega
        have a2 : ¬ o.For > 15 := by omega
        have a3 : o.For ≥ 0 := by omega
        simp only [h1, a, b, a1, a2, a3, ne_eq, not_true_eq_false, if_false, if_true]
        by_cases h2 : thereS s.Roster o.For = 0
        · simp only [h2, not_true_eq_false, if_false]
          by_cases h3 : s.Next ≥ 281474976710656
          · have : s.Next = 281474976710656 := by have := h.nx; omega
            simp [this]
          · have : ¬ s.Next = 281474976710656 := by omega
            simp only [h3, this, if_false, Option.bind_some]
            by_cases h4 : (issueT (s.Tickets.filter (fun t => !decide (t.Until < o.Now))) ⟨s.Next, o.For, o.Until⟩).2 = 0
            · simp only [h4, not_true_eq_false, if_false, w64_id (show -9223372036854775808 ≤ s.Next + 1 by omega) (by omega)]
              rfl
            · simp only [h4, not_false_eq_true, if_true]
        · simp only [h2, not_false_eq_true, if_true]
  · simp [h1]
theorem refDo {s : Sta} {o : OpC} (h : StaOk s) : F_batonref27_Do (rS s) (rO o) = some (rS (doS s o).1, (doS s o).2) := by
  have f1 : (rS s).Roster = s.Roster.map rD := rfl
  have f2 : (rS s).Tickets = s.Tickets.map rT := rfl
  have f3 : (rS s).Owner = s.Owner := rfl
  have g0 : (rO o).Kind = o.Kind := rfl
  have g1 : (rO o).Device = o.Device := rfl
  have g2 : (rO o).Request = o.Request := rfl
  have g3 : (rO o).Ticket = o.Ticket := rfl
  have g4 : (rO o).Now = o.Now := rfl
  have w : ∀ l : List Dev, (⟨(rS s).Epoch, s.Owner, (rS s).Next, l.map rD, s.Tickets.map rT⟩ : T_batonref27_State) = rS (withR s l) := fun l => rfl
  unfold F_batonref27_Do doS rawS
  rw [f1, f2, f3, g0, g1, g2, g3, g4, refEnrol h.ros, refRevoke h.ros, refAccept h.ros, refUse h.tic, refMove h.ep]
  simp only [r2, Option.bind_some, bind_if, Bool.false_eq_true, if_false, if_true, w]
  have ek : ∀ x : T_batonref27_State, ({ Epoch := x.Epoch, Owner := x.Owner, Next := x.Next, Roster := x.Roster, Tickets := x.Tickets } : T_batonref27_State) = x := fun x => rfl
  by_cases k1 : o.Kind = 1
  · simp only [k1, if_true]
    by_cases e : (enrolS s.Roster o.Device).2 = 0 <;> simp [e]
  by_cases k2 : o.Kind = 2
  · simp only [k1, k2, if_true, if_false, revS]
    have hk := revoke_ok (id := o.Device) h.ros
    have hm := refMove (s := withR s (revokeS s.Roster o.Device).1) (to := -1) h.ep
    by_cases e : (revokeS s.Roster o.Device).2 = 0
    · by_cases e2 : s.Owner = o.Device
      · simp only [e, e2, ne_eq, not_true_eq_false, if_true, if_false]
        have n21 : ¬ ((2 : Int) = 1) := by decide
        simp only [n21, if_false, hm, Option.bind_some]
        by_cases e3 : (moveS (withR s (revokeS s.Roster o.Device).1) (-1)).2 = 0 <;> simp [e3]
      · simp [e, e2]
    · simp [e]
  by_cases k345 : o.Kind = 3 ∨ o.Kind = 4 ∨ o.Kind = 5
  · have hok : StaOk (withR s (acceptS s.Roster o.Device o.Request).1) := ⟨h.ep, h.nx, accept_ok h.ros, h.tic⟩
    have hm := refMove (s := withR s (acceptS s.Roster o.Device o.Request).1) (to := o.Device) h.ep
    have hi := refIssue (o := o) hok
    simp only [k1, k2, k345, if_true, if_false, askedS]
    have hc : ∀ {α : Type} (x y : Option α), (if o.Kind = 3 then x else if o.Kind = 4 then x else if o.Kind = 5 then x else y) = x := by
      intro α x y
      rcases k345 with k | k | k <;> simp [k]
    rw [hc]
    by_cases e : (acceptS s.Roster o.Device o.Request).2 = 0
    · simp only [e, if_true, ne_eq, not_true_eq_false, if_false, hi, Option.bind_some, hm]
      by_cases k3 : o.Kind = 3
      · have k4 : ¬ o.Kind = 4 := by omega
        simp only [k3, if_true, not_true_eq_false, if_false, show ¬ ((3 : Int) = 4) by decide]
        by_cases e3 : (issueS (withR s (acceptS s.Roster o.Device o.Request).1) o).2 = 0 <;> simp [e3]
      · by_cases k4 : o.Kind = 4
        · simp only [k3, k4, if_true, if_false, true_and, not_false_eq_true, show ¬ ((4 : Int) = 3) by decide]
          by_cases e4 : useS s.Tickets o.Ticket o.Device o.Now = 0
          · by_cases e3 : (moveS (withR s (acceptS s.Roster o.Device o.Request).1) o.Device).2 = 0 <;> simp [e3, e4]
          · simp [e4]
        · simp only [k3, k4, if_true, if_false, false_and, not_false_eq_true]
          by_cases e3 : (moveS (withR s (acceptS s.Roster o.Device o.Request).1) o.Device).2 = 0 <;> simp [e3]
    · simp [e]
  · have hc : ∀ {α : Type} (x y : Option α), (if o.Kind = 3 then x else if o.Kind = 4 then x else if o.Kind = 5 then x else y) = y := by
      intro α x y
      simp only [not_or] at k345
      simp [k345]
    simp only [k1, k2, k345, if_false, hc]
    by_cases k6 : o.Kind = 6
    · simp only [k6, if_true]
      by_cases e3 : (moveS s (-1)).2 = 0 <;> simp [e3]
    · simp [k6]
theorem lawRef25 {xs : List Dev} (hl : xs.length ≤ 100) : F_batonlaw25_Ref xs = some (xs.map rD) := by
  unfold F_batonlaw25_Ref
  have h := loop_fold (step := batonlaw25_Ref_l1 xs) (xs := xs) (fun acc v => acc ++ [rD v]) id (fun i acc => acc.length ≤ i)
    (by
      intro i acc v hv hI
      have hlt := (List.getElem?_eq_some_iff.1 hv).1
      have h1 : (i : Int) < (xs.length : Int) := by omega
      have e2 : appO 32 acc [rD v] = some (acc ++ [rD v]) := app_of (by simp; omega)
      simp only [batonlaw25_Ref_l1, h1, if_true, Option.bind_some, ixN, hv, w64_succ (show i < 4611686018427387904 by omega)]
      rw [show (⟨v.Id, v.Times, v.Gone, v.Last⟩ : T_batonref25_Device) = rD v from rfl, e2]
      exact ⟨rfl, by simp; omega⟩)
    (by intro s _; simp [batonlaw25_Ref_l1]) xs.length 0 [] (by omega) (by simp)
  rw [show ((0 : Nat) : Int) = 0 from rfl] at h
  rw [h, List.drop_zero]
  have : ∀ (ys : List Dev) acc, ys.foldl (fun acc v => acc ++ [rD v]) acc = acc ++ ys.map rD := by
    intro ys
    induction ys with
    | nil => simp
    | cons y ys ih => intro acc; rw [List.foldl_cons, ih]; simp
  rw [this]; rfl
theorem lawRef26 {xs : List Tic} (hl : xs.length ≤ 100) : F_batonlaw26_Ref xs = some (xs.map rT) := by
  unfold F_batonlaw26_Ref
  have h := loop_fold (step := batonlaw26_Ref_l1 xs) (xs := xs) (fun acc v => acc ++ [rT v]) id (fun i acc => acc.length ≤ i)
    (by
      intro i acc v hv hI
      have hlt := (List.getElem?_eq_some_iff.1 hv).1
      have h1 : (i : Int) < (xs.length : Int) := by omega
      have e2 : appO 24 acc [rT v] = some (acc ++ [rT v]) := app_of (by simp; omega)
      simp only [batonlaw26_Ref_l1, h1, if_true, Option.bind_some, ixN, hv, w64_succ (show i < 4611686018427387904 by omega)]
      rw [show (⟨v.No, v.For, v.Until⟩ : T_batonref26_Ticket) = rT v from rfl, e2]
      exact ⟨rfl, by simp; omega⟩)
    (by intro s _; simp [batonlaw26_Ref_l1]) xs.length 0 [] (by omega) (by simp)
  rw [show ((0 : Nat) : Int) = 0 from rfl] at h
  rw [h, List.drop_zero]
  have : ∀ (ys : List Tic) acc, ys.foldl (fun acc v => acc ++ [rT v]) acc = acc ++ ys.map rT := by
    intro ys
    induction ys with
    | nil => simp
    | cons y ys ih => intro acc; rw [List.foldl_cons, ih]; simp
  rw [this]; rfl
theorem lawRef {s : Sta} (h : StaOk s) : F_batonlaw27_Ref s = some (rS s) := by
  unfold F_batonlaw27_Ref
  rw [lawRef25 (by have := h.ros.len; omega), lawRef26 (by have := h.tic.len; omega)]
  rfl
theorem same25 (xs : List T_batonref25_Device) (hl : xs.length ≤ 100) : F_batonref25_Same xs xs = some true := by
  unfold F_batonref25_Same
  simp only [ne_eq, not_true_eq_false, if_false, Option.bind_some, Bool.false_eq_true]
  rw [loop_scan0 (xs := xs) (fun _ _ => none) true]
  · congr 1
    have : ∀ (ys : List T_batonref25_Device) i, scanI (fun (_ : Nat) (_ : T_batonref25_Device) => none) true i ys = true := by
      intro ys
      induction ys with
      | nil => intro i; rfl
      | cons y ys ih => intro i; simp [scanI, ih]
    exact this xs 0
  · intro i v hv
    have hlt := (List.getElem?_eq_some_iff.1 hv).1
    have h1 : (i : Int) < (xs.length : Int) := by omega
    simp [batonref25_Same_l2, h1, ixN, hv, w64_succ (show i < 4611686018427387904 by omega)]
  · simp [batonref25_Same_l2]
theorem same26 (xs : List T_batonref26_Ticket) (hl : xs.length ≤ 100) : F_batonref26_Same xs xs = some true := by
  unfold F_batonref26_Same
  simp only [ne_eq, not_true_eq_false, if_false, Option.bind_some, Bool.false_eq_true]
  rw [loop_scan0 (xs := xs) (fun _ _ => none) true]
  · congr 1
    have : ∀ (ys : List T_batonref26_Ticket) i, scanI (fun (_ : Nat) (_ : T_batonref26_Ticket) => none) true i ys = true := by
      intro ys
      induction ys with
      | nil => intro i; rfl
      | cons y ys ih => intro i; simp [scanI, ih]
    exact this xs 0
  · intro i v hv
    have hlt := (List.getElem?_eq_some_iff.1 hv).1
    have h1 : (i : Int) < (xs.length : Int) := by omega
    simp [batonref26_Same_l2, h1, ixN, hv, w64_succ (show i < 4611686018427387904 by omega)]
  · simp [batonref26_Same_l2]
theorem same27 {s : Sta} (h : StaOk s) : F_batonref27_Same (rS s) (rS s) = some true := by
  unfold F_batonref27_Same
  rw [same25 _ (by show (s.Roster.map rD).length ≤ 100; have := h.ros.len; simp; omega), same26 _ (by show (s.Tickets.map rT).length ≤ 100; have := h.tic.len; simp; omega)]
  simp
theorem equalR (xs : List Dev) (hl : xs.length ≤ 100) : F_slices_Equal_roster_Device xs xs = some true := by
  unfold F_slices_Equal_roster_Device
  simp only [ne_eq, not_true_eq_false, if_false, Option.bind_some, Bool.false_eq_true]
  rw [loop_scan0 (xs := xs) (fun _ _ => none) true]
  · congr 1
    have : ∀ (ys : List Dev) i, scanI (fun (_ : Nat) (_ : Dev) => none) true i ys = true := by
      intro ys
      induction ys with
      | nil => intro i; rfl
      | cons y ys ih => intro i; simp [scanI, ih]
    exact this xs 0
  · intro i v hv
    have hlt := (List.getElem?_eq_some_iff.1 hv).1
    have h1 : (i : Int) < (xs.length : Int) := by omega
    simp [slices_Equal_roster_Device_l2, h1, ixN, hv, w64_succ (show i < 4611686018427387904 by omega)]
  · simp [slices_Equal_roster_Device_l2]
theorem equalT (xs : List Tic) (hl : xs.length ≤ 100) : F_slices_Equal_ticket_Ticket xs xs = some true := by
  unfold F_slices_Equal_ticket_Ticket
  simp only [ne_eq, not_true_eq_false, if_false, Option.bind_some, Bool.false_eq_true]
  rw [loop_scan0 (xs := xs) (fun _ _ => none) true]
  · congr 1
    have : ∀ (ys : List Tic) i, scanI (fun (_ : Nat) (_ : Tic) => none) true i ys = true := by
      intro ys
      induction ys with
      | nil => intro i; rfl
      | cons y ys ih => intro i; simp [scanI, ih]
    exact this xs 0
  · intro i v hv
    have hlt := (List.getElem?_eq_some_iff.1 hv).1
    have h1 : (i : Int) < (xs.length : Int) := by omega
    simp [slices_Equal_ticket_Ticket_l2, h1, ixN, hv, w64_succ (show i < 4611686018427387904 by omega)]
  · simp [slices_Equal_ticket_Ticket_l2]
theorem sameC {s : Sta} (h : StaOk s) : F_claim_Same s s = some true := by
  unfold F_claim_Same
  rw [equalR _ (by have := h.ros.len; omega), equalT _ (by have := h.tic.len; omega)]
  simp
def newS : Sta := ⟨0, -1, 1, [], []⟩
theorem newOk : StaOk newS := ⟨⟨by decide, by decide⟩, ⟨by decide, by decide⟩, ⟨List.Pairwise.nil, (fun d h => by cases h), (fun d h => by cases h)⟩, TicOk.nil _⟩
theorem awake27 : F_batonlaw27_awake = some true := by
  unfold F_batonlaw27_awake F_claim_New
  simp only [Option.bind_some]
  rw [show (⟨0, -1, 1, [], []⟩ : Sta) = newS from rfl, do_eq newOk]
  simp only [Option.bind_some]
  have e1 := do_ok (s := newS) (o := ⟨1, 1, 0, 0, 0, 0, 0⟩) newOk
  rw [do_eq e1]
  rfl
/-- ClaimRuns, plain. -/
theorem claimRuns (l : List OpC) : F_batonlaw27_ClaimRuns l = some true := by
  unfold F_batonlaw27_ClaimRuns
  rw [awake27]
  simp only [Option.bind_some, if_true, bind_if, Bool.false_eq_true, if_false, F_claim_New]
  split
  · rfl
  rename_i hl
  have key := loop_inv (step := batonlaw27_ClaimRuns_l2 l) (fun n (s : Int × T_claim_State × T_batonref27_State) => ∃ i : Nat, i + n = l.length ∧ s.1 = (i : Int) ∧ StaOk s.2.1 ∧ s.2.2 = rS s.2.1) (fun o => o = true) ?_ l.length (0, newS, rS newS) ⟨0, by omega, rfl, newOk, rfl⟩
  · obtain ⟨o, h1, rfl⟩ := key
    exact h1
  · rintro n ⟨j, s, w⟩ ⟨i, hi, h1, hs, h2⟩
    simp only at h1 hs h2
    subst h1 h2
    by_cases hlt : i < l.length
    · left
      have hv : l[i]? = some l[i] := List.getElem?_eq_getElem hlt
      have h1 : (i : Int) < (l.length : Int) := by omega
      have hok := do_ok (o := l[i]) hs
      have er : F_batonlaw27_RefOp l[i] = some (rO l[i]) := rfl
      refine ⟨(((i + 1 : Nat) : Int), (doS s l[i]).1, rS (doS s l[i]).1), n - 1, by omega, ?_, i + 1, by omega, rfl, hok, rfl⟩
      simp only [batonlaw27_ClaimRuns_l2, h1, if_true, Option.bind_some, ixN, hv, do_eq hs, er, refDo hs, ne_eq, not_true_eq_false, if_false, lawRef hok, same27 hok, w64_succ (show i < 4611686018427387904 by omega)]
      by_cases e : (doS s l[i]).2 = 0
      · simp only [e, not_true_eq_false, if_false]
      · have hd : (doS s l[i]).1 = s := by
          unfold doS at e ⊢
          by_cases hr : (rawS s l[i]).2 = 0
          · simp [hr] at e
          · simp [hr]
        simp only [e, not_false_eq_true, if_true]
        rw [hd, sameC hs]
        rfl
    · right
      have h1 : ¬ (i : Int) < (l.length : Int) := by omega
      exact ⟨true, by simp only [batonlaw27_ClaimRuns_l2, h1, if_false, Option.bind_some, Bool.false_eq_true, Option.map_some], rfl⟩
/-! ### states that may be -/
/-! ### what an op does to the epoch and the tickets -/
end Go.AV
