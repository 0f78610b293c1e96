/- A part of the proof that the row of the law holds of the program as translated: lemmas and contracts of its functions. -/
import Derived.Test.YtpjojocckoobeaaProg
import Derived.Test.YtpjojocckoobeaaJournal
set_option linter.unusedVariables false
set_option linter.unusedSimpArgs false
set_option maxRecDepth 10000
namespace Go.Proofs.Ytpjojocckoobeaa
open Go.GV Go.RowKit
attribute [local irreducible] wpList



/-! ### what is made can be read -/
theorem orStep {m x : Nat} (hm : m < 72057594037927936) (hx : x < 256) : (m * 2 ^ 8 % 18446744073709551616) ||| x = m * 256 + x := by
  rw [Nat.mod_eq_of_lt (by omega)]
  have h := Nat.shiftLeft_add_eq_or_of_lt (i := 8) (b := x) (by omega) m
  rw [Nat.shiftLeft_eq] at h
  rw [← h]
theorem beB8 (n : Nat) : beB 8 n = [UInt8.ofNat (n / 2 ^ 56), UInt8.ofNat (n / 2 ^ 48), UInt8.ofNat (n / 2 ^ 40), UInt8.ofNat (n / 2 ^ 32), UInt8.ofNat (n / 2 ^ 24), UInt8.ofNat (n / 2 ^ 16), UInt8.ofNat (n / 2 ^ 8), UInt8.ofNat (n / 2 ^ 0)] := rfl
theorem beN_beB {n : Nat} (hn : n < 18446744073709551616) : beN (beB 8 n) = n := by
  have key : ∀ (a b m : Nat), a = m / 256 → b = m % 256 → m < 18446744073709551616 → (a * 2 ^ 8 % 18446744073709551616) ||| (UInt8.ofNat b).toNat = m := by
    intro a b m ha hb hm
    subst ha; subst hb
    have h1 : (UInt8.ofNat (m % 256)).toNat = m % 256 := by simp
    rw [h1, orStep (by omega) (by omega)]
    omega
  have hb : ∀ q, UInt8.ofNat q = UInt8.ofNat (q % 256) := by
    intro q
    apply UInt8.toNat_inj.1
    simp
  rw [beB8]
  simp only [beN, List.foldl_cons, List.foldl_nil]
  rw [hb (n / 2 ^ 56), hb (n / 2 ^ 48), hb (n / 2 ^ 40), hb (n / 2 ^ 32), hb (n / 2 ^ 24), hb (n / 2 ^ 16), hb (n / 2 ^ 8), hb (n / 2 ^ 0)]
  rw [key 0 _ (n / 2 ^ 56) (by omega) rfl (by omega)]
  rw [key _ _ (n / 2 ^ 48) (by omega) rfl (by omega)]
  rw [key _ _ (n / 2 ^ 40) (by omega) rfl (by omega)]
  rw [key _ _ (n / 2 ^ 32) (by omega) rfl (by omega)]
  rw [key _ _ (n / 2 ^ 24) (by omega) rfl (by omega)]
  rw [key _ _ (n / 2 ^ 16) (by omega) rfl (by omega)]
  rw [key _ _ (n / 2 ^ 8) (by omega) rfl (by omega)]
  rw [key _ _ (n / 2 ^ 0) (by omega) rfl (by omega)]
  simp
theorem marked_make {gen no : Nat} {data : List UInt8} (hd : data.length ≤ 234) : marked (makeB gen no data) true = headB gen no data ++ (sum4 (crcMore 0 (headB gen no data)) ++ [1]) := by
  unfold marked
  rw [makeB_len hd]
  unfold makeB
  rw [List.append_assoc, List.set_append_right _ _ (by rw [headB_len hd]; decide), headB_len hd]
  rfl
theorem recRead_make {gen no : Nat} {data : List UInt8} (hg : gen < 72057594037927936) (hn : no < 72057594037927936) (hd : data.length ≤ 234) : recRead (marked (makeB gen no data) true) = (⟨gen, no, data⟩, 0) := by
  obtain ⟨b, hb⟩ : ∃ b, b = marked (makeB gen no data) true := ⟨_, rfl⟩
  have hbe := hb.trans (marked_make hd)
  have hl : b.length = 256 := by rw [hb, marked_len, makeB_len hd]
  have hH : headB gen no data = beB 8 gen ++ (beB 8 no ++ (UInt8.ofNat data.length :: (data ++ List.replicate (251 - (17 + data.length)) 0))) := by simp [headB]
  have hz := hbe
  rw [hH] at hz
  simp only [List.append_assoc, List.cons_append] at hz
  have t251 : b.take 251 = headB gen no data := by rw [hbe]; exact List.take_left' (headB_len hd)
  have d251 : (b.drop 251).take 4 = sum4 (crcMore 0 (headB gen no data)) := by
    rw [hbe, List.drop_left' (headB_len hd)]; rfl
  have g255 : b.getD 255 0 = 1 := by
    rw [List.getD_eq_getElem?_getD, hbe, List.getElem?_append_right (by rw [headB_len hd]; decide), headB_len hd]; rfl
  have t8 : b.take 8 = beB 8 gen := by rw [hz]; exact List.take_left' (beB_len 8 gen)
  have d8 : b.drop 8 = beB 8 no ++ (UInt8.ofNat data.length :: (data ++ (List.replicate (251 - (17 + data.length)) 0 ++ (sum4 (crcMore 0 (beB 8 gen ++ (beB 8 no ++ (UInt8.ofNat data.length :: (data ++ List.replicate (251 - (17 + data.length)) 0))))) ++ [1])))) := by
    rw [hz]; exact List.drop_left' (beB_len 8 gen)
  have t16 : (b.drop 8).take 8 = beB 8 no := by rw [d8]; exact List.take_left' (beB_len 8 no)
  have d16 : b.drop 16 = UInt8.ofNat data.length :: (data ++ (List.replicate (251 - (17 + data.length)) 0 ++ (sum4 (crcMore 0 (beB 8 gen ++ (beB 8 no ++ (UInt8.ofNat data.length :: (data ++ List.replicate (251 - (17 + data.length)) 0))))) ++ [1]))) := by
    rw [show 16 = 8 + 8 from rfl, ← List.drop_drop, d8]; exact List.drop_left' (beB_len 8 no)
  have g16 : b.getD 16 0 = UInt8.ofNat data.length := by
    rw [List.getD_eq_getElem?_getD, show b[16]? = (b.drop 16)[0]? by rw [List.getElem?_drop], d16]; rfl
  have d17 : b.drop 17 = data ++ (List.replicate (251 - (17 + data.length)) 0 ++ (sum4 (crcMore 0 (beB 8 gen ++ (beB 8 no ++ (UInt8.ofNat data.length :: (data ++ List.replicate (251 - (17 + data.length)) 0))))) ++ [1])) := by
    rw [show 17 = 16 + 1 from rfl, ← List.drop_drop, d16]; rfl
  have hn16 : (b.getD 16 0).toNat = data.length := by rw [g16]; simp; omega
  have t17 : (b.drop 17).take data.length = data := by rw [d17]; exact List.take_left' rfl
  have tz : (b.drop (17 + data.length)).take (251 - (17 + data.length)) = List.replicate (251 - (17 + data.length)) 0 := by
    rw [← List.drop_drop, d17, List.drop_left' rfl]; exact List.take_left' (by simp)
  rw [← hb, rr_ok hl (by rw [g255]; decide) (by rw [g255]; decide) (by rw [t251, d251]) ?_, t8, t16, hn16, t17, beN_beB (by omega), beN_beB (by omega)]
  rintro (h | h | h | h)
  · rw [t8, beN_beB (by omega)] at h; omega
  · rw [t16, beN_beB (by omega)] at h; omega
  · omega
  · rw [hn16, tz] at h
    obtain ⟨x, hx, hx0⟩ := h
    exact hx0 (List.eq_of_mem_replicate hx)

/-! ### what an append leaves behind -/
/-- Power for all, or till it goes. -/
def lessN : Nat → Int → Int
  | 0, l => l
  | k + 1, l => lessN k (lessL l)
theorem lessL_neg {l : Int} (h : l = -1) : lessL l = -1 := by subst h; rfl
theorem write_up {bl : List (List UInt8)} {left : Int} {i : Nat} {bs : List UInt8} (hi : i < bl.length) (hb : bs.length = 256) :
    DS.write ⟨bl, [], [], false, left⟩ (i : Int) bs = if left = 0 then (⟨bl, [], [], true, left⟩, 19) else (⟨bl, [(i, bs)], [], false, lessL left⟩, 0) := by
  have h : DS.has ⟨bl, [], [], false, left⟩ (i : Int) := ⟨by omega, by show (i : Int) < (bl.length : Int); omega⟩
  unfold DS.write
  rw [if_neg Bool.false_ne_true, if_neg (fun q => q ⟨h, hb⟩), if_neg (by simp)]
  rfl
/-- A block is laid, or the power goes: ahead of the write, or behind it. -/
theorem lay_up {bl : List (List UInt8)} {left : Int} {i : Nat} {bs : List UInt8} (hi : i < bl.length) (hb : bs.length = 256) :
    (left ≠ 0 ∧ lessL left ≠ 0 ∧ DS.lay ⟨bl, [], [], false, left⟩ (i : Int) bs = (⟨bl.set i bs, [], [], false, lessL (lessL left)⟩, 0)) ∨
    (left ≠ -1 ∧ ∃ wt l', (wt = [] ∨ wt = [(i, bs)]) ∧ DS.lay ⟨bl, [], [], false, left⟩ (i : Int) bs = (⟨bl, wt, [], true, l'⟩, 19)) := by
  unfold DS.lay
  rw [write_up hi hb]
  by_cases h0 : left = 0
  · right
    rw [if_pos h0]
    exact ⟨by omega, [], left, .inl rfl, rfl⟩
  · rw [if_neg h0]
    by_cases h1 : lessL left = 0
    · right
      refine ⟨by rintro rfl; exact absurd h1 (by decide), [(i, bs)], lessL left, .inr rfl, ?_⟩
      show (if (0 : Nat) ≠ 0 then _ else DS.sync ⟨bl, [(i, bs)], [], false, lessL left⟩) = _
      rw [if_neg (fun q => q rfl)]
      unfold DS.sync
      rw [if_neg Bool.false_ne_true, if_pos h1]
      rfl
    · left
      refine ⟨h0, h1, ?_⟩
      show (if (0 : Nat) ≠ 0 then _ else DS.sync ⟨bl, [(i, bs)], [], false, lessL left⟩) = _
      rw [if_neg (fun q => q rfl)]
      unfold DS.sync
      rw [if_neg Bool.false_ne_true, if_neg h1]
      rfl
theorem crash_one {bl : List (List UInt8)} {wt : List (Nat × List UInt8)} {i : Nat} {bs O : List UInt8} (hO : bl[i]? = some O) (hw : wt = [] ∨ wt = [(i, bs)]) (pks : List Int) :
    ∃ k : Nat, k ≤ 256 ∧ crashed bl wt pks = bl.set i (bs.take k ++ O.drop k) := by
  have hs : bl = bl.set i O := by
    apply List.ext_getElem?
    intro j
    by_cases h : i = j
    · subst h
      rw [List.getElem?_set_self (List.getElem?_eq_some_iff.1 hO).1, hO]
    · rw [List.getElem?_set_ne h]
  rcases hw with rfl | rfl
  · exact ⟨0, by omega, by simpa [crashed] using hs⟩
  · cases pks with
    | nil => exact ⟨0, by omega, by simpa [crashed] using hs⟩
    | cons pk pks =>
      refine ⟨(min (max pk 0) 256).toNat, by omega, ?_⟩
      have hg : bl.getD i [] = O := by simp [List.getD_eq_getElem?_getD, hO]
      simp only [crashed, partly]
      rw [hg]
/-- What may lie in a block when the power goes: the elder one, one without mark, the new one. -/
def Torn (O B b : List UInt8) : Prop := b.length = 256 ∧ (b = O ∨ b.getD 255 0 = 0 ∨ b = marked B true)
theorem getD_append_drop {xs ys : List UInt8} {k : Nat} (hx : xs.length = 256) (hy : ys.length = 256) (hk : k ≤ 256) : (xs.take k ++ ys.drop k).length = 256 ∧ (xs.take k ++ ys.drop k).getD 255 0 = if k = 256 then xs.getD 255 0 else ys.getD 255 0 := by
  refine ⟨by rw [List.length_append, List.length_take, List.length_drop]; omega, ?_⟩
  split
  · subst k
    rw [List.take_of_length_le (by omega), List.drop_of_length_le (by omega), List.append_nil]
  · rw [List.getD_eq_getElem?_getD, List.getD_eq_getElem?_getD, List.getElem?_append_right (by rw [List.length_take]; omega), List.getElem?_drop, List.length_take]
    congr 2
    omega
theorem marked_getD {xs : List UInt8} (h : xs.length = 256) (is : Bool) : (marked xs is).getD 255 0 = if is then 1 else 0 := by
  unfold marked
  rw [h, List.getD_eq_getElem?_getD, List.getElem?_set_self (by omega)]
  cases is <;> rfl
theorem marked_take {xs : List UInt8} (h : xs.length = 256) (is : Bool) {k : Nat} (hk : k < 256) : (marked xs is).take k ++ xs.drop k = xs := by
  unfold marked
  rw [h, List.take_set_of_le (by omega), List.take_append_drop]
/-- A whole append: done, or the power has gone. -/
theorem append_up {bl : List (List UInt8)} {left : Int} {fr q n i gen : Nat} {data O : List UInt8} (hq : q = fr + i) (hin : i < n) (hi : i < 72057594037927936) (hg : gen < 72057594037927936) (hd : data.length ≤ 234) (hO : bl[q]? = some O) (h256 : O.length = 256) :
    (∃ l', (left = -1 → l' = -1) ∧ DS.append ⟨bl, [], [], false, left⟩ fr n (gen : Int) (i : Int) data = (⟨bl.set q (marked (makeB gen i data) true), [], [], false, l'⟩, 0)) ∨
    (left ≠ -1 ∧ ∃ bl' wt l', wt.length ≤ 1 ∧ bl'.length = bl.length ∧ DS.append ⟨bl, [], [], false, left⟩ fr n (gen : Int) (i : Int) data = (⟨bl', wt, [], true, l'⟩, 19) ∧ ∀ pks, ∃ b, Torn O (makeB gen i data) b ∧ crashed bl' wt pks = bl.set q b) := by
  have hib := (List.getElem?_eq_some_iff.1 hO).1
  have hhas : DS.has ⟨bl, [], [], false, left⟩ ((fr : Nat) + (i : Int)) := ⟨by omega, by show _ < (bl.length : Int); omega⟩
  have hz : ((fr : Nat) : Int) + (i : Int) = (q : Int) := by omega
  have hmk : mkE (gen : Int) (i : Int) data = 0 := by
    unfold mkE
    rw [if_neg (by omega), if_neg (by omega)]
  have hB : mkB (gen : Int) (i : Int) data = makeB gen i data := by
    unfold mkB
    rw [if_pos hmk]
    simp
  have hre : DS.rdE ⟨bl, [], [], false, left⟩ ((fr : Nat) + (i : Int)) = 0 := (if_neg Bool.false_ne_true).trans (if_pos hhas)
  have hrb : DS.rdB ⟨bl, [], [], false, left⟩ ((fr : Nat) + (i : Int)) = O := (if_neg Bool.false_ne_true).trans ((if_pos hhas).trans (by
    rw [hz]
    simp [DS.look, lastW, hO]))
  have hBl := makeB_len (gen := gen) (no := i) hd
  have hmB : (makeB gen i data).getD 255 0 = 0 := by
    unfold makeB
    rw [List.getD_eq_getElem?_getD, List.getElem?_append_right (by rw [List.length_append, headB_len hd]; exact Nat.le_refl 255), List.length_append, headB_len hd]
    rfl
  have hno : (0 : Int) ≤ (i : Int) ∧ (i : Int) < (n : Int) := by omega
  have setset : ∀ a b : List UInt8, (bl.set q a).set q b = bl.set q b := fun a b => List.set_set ..
  have hlen : ∀ a : List UInt8, (bl.set q a).length = bl.length := fun a => List.length_set ..
  -- the two last steps, over a block without mark
  have last : ∀ (C : List UInt8) (left : Int), C.length = 256 → C.getD 255 0 = 0 → ∀ left0 : Int, (left0 = -1 → left = -1) →
      (∃ l', (left0 = -1 → l' = -1) ∧ DS.lay2 ⟨bl.set q C, [], [], false, left⟩ (q : Int) (makeB gen i data) = (⟨bl.set q (marked (makeB gen i data) true), [], [], false, l'⟩, 0)) ∨
      (left0 ≠ -1 ∧ ∃ bl' wt l', wt.length ≤ 1 ∧ bl'.length = bl.length ∧ DS.lay2 ⟨bl.set q C, [], [], false, left⟩ (q : Int) (makeB gen i data) = (⟨bl', wt, [], true, l'⟩, 19) ∧ ∀ pks, ∃ b, Torn O (makeB gen i data) b ∧ crashed bl' wt pks = bl.set q b) := by
    intro C left hC hC0 left0 hl0
    rcases lay_up (bl := bl.set q C) (left := left) (i := q) (bs := makeB gen i data) (by rw [hlen]; exact hib) hBl with ⟨h1, h2, h3⟩ | ⟨h1, wt, l', h2, h3⟩
    · rw [setset] at h3
      have hl2 : DS.lay2 ⟨bl.set q C, [], [], false, left⟩ (q : Int) (makeB gen i data) = DS.lay ⟨bl.set q (makeB gen i data), [], [], false, lessL (lessL left)⟩ (q : Int) (marked (makeB gen i data) true) := by
        unfold DS.lay2
        rw [h3]
        exact if_neg (fun q => q rfl)
      rw [hl2]
      rcases lay_up (bl := bl.set q (makeB gen i data)) (left := lessL (lessL left)) (i := q) (bs := marked (makeB gen i data) true) (by rw [hlen]; exact hib) (by rw [marked_len]; exact hBl) with ⟨k1, k2, k3⟩ | ⟨k1, wt, l', k2, k3⟩
      · left
        rw [setset] at k3
        exact ⟨_, fun h => lessL_neg (lessL_neg (lessL_neg (lessL_neg (hl0 h)))), k3⟩
      · right
        refine ⟨fun h => k1 (lessL_neg (lessL_neg (hl0 h))), bl.set q (makeB gen i data), wt, l', by rcases k2 with rfl | rfl <;> simp, hlen _, k3, fun pks => ?_⟩
        obtain ⟨k, hk, hc⟩ := crash_one (bl := bl.set q (makeB gen i data)) (O := makeB gen i data) (List.getElem?_set_self hib) k2 pks
        rw [setset] at hc
        refine ⟨_, ?_, hc⟩
        by_cases hk6 : k = 256
        · subst hk6
          rw [List.take_of_length_le (by rw [marked_len]; omega), List.drop_of_length_le (by omega), List.append_nil]
          exact ⟨by rw [marked_len]; exact hBl, .inr (.inr rfl)⟩
        · rw [marked_take hBl true (by omega)]
          exact ⟨hBl, .inr (.inl hmB)⟩
    · right
      refine ⟨fun h => h1 (hl0 h), bl.set q C, wt, l', by rcases h2 with rfl | rfl <;> simp, hlen _, ?_, fun pks => ?_⟩
      · unfold DS.lay2
        rw [h3]
        exact if_pos (show (19 : Nat) ≠ 0 by decide)
      · obtain ⟨k, hk, hc⟩ := crash_one (bl := bl.set q C) (O := C) (List.getElem?_set_self hib) h2 pks
        rw [setset] at hc
        obtain ⟨q1, q2⟩ := getD_append_drop (xs := makeB gen i data) (ys := C) (k := k) hBl hC hk
        refine ⟨_, ⟨q1, .inr (.inl ?_)⟩, hc⟩
        rw [q2, hmB, hC0]
        split <;> rfl
  have hself : bl = bl.set q O := by
    apply List.ext_getElem?
    intro j
    by_cases h : q = j
    · subst h
      rw [List.getElem?_set_self hib, hO]
    · rw [List.getElem?_set_ne h]
  by_cases hm : O.getD 255 0 = 0
  · -- nothing to clean
    have hcl : DS.clean ⟨bl, [], [], false, left⟩ ((fr : Nat) + (i : Int)) = (⟨bl, [], [], false, left⟩, 0) := by
      unfold DS.clean
      rw [hrb]
      exact if_neg (fun q => q hm)
    rw [DS.append_ok hno hmk hre (by rw [hcl]), hcl, hB, hz]
    have h := last O left h256 hm left (fun h => h)
    rw [← hself] at h
    exact h
  · have hcl : DS.clean ⟨bl, [], [], false, left⟩ ((fr : Nat) + (i : Int)) = DS.lay ⟨bl, [], [], false, left⟩ (q : Int) (marked O false) := by
      unfold DS.clean
      rw [hrb, hz]
      exact if_pos hm
    rcases lay_up (bl := bl) (left := left) (i := q) (bs := marked O false) hib (by rw [marked_len]; exact h256) with ⟨h1, h2, h3⟩ | ⟨h1, wt, l', h2, h3⟩
    · rw [DS.append_ok hno hmk hre (by rw [hcl, h3]), hcl, h3, hB, hz]
      exact last (marked O false) _ (by rw [marked_len]; exact h256) (by rw [marked_getD h256]; rfl) left (fun h => lessL_neg (lessL_neg h))
    · right
      refine ⟨h1, bl, wt, l', by rcases h2 with rfl | rfl <;> simp, rfl, ?_, fun pks => ?_⟩
      · rw [DS.append_cl hno hmk hre (by rw [hcl, h3]; exact (show (19 : Nat) ≠ 0 by decide)), hcl, h3]
      · obtain ⟨k, hk, hc⟩ := crash_one hO h2 pks
        refine ⟨_, ?_, hc⟩
        by_cases hk6 : k = 256
        · subst hk6
          rw [List.take_of_length_le (by rw [marked_len]; omega), List.drop_of_length_le (by omega), List.append_nil]
          exact ⟨by rw [marked_len]; exact h256, .inr (.inl (by rw [marked_getD h256]; rfl))⟩
        · rw [marked_take h256 false (by omega)]
          exact ⟨h256, .inl rfl⟩
theorem append_down {bl : List (List UInt8)} {wt : List (Nat × List UInt8)} {left : Int} {fr n : Nat} {gen : Nat} {i : Nat} {data : List UInt8} (hin : i < n) (hi : i < 72057594037927936) (hg : gen < 72057594037927936) (hd : data.length ≤ 234) :
    DS.append ⟨bl, wt, [], true, left⟩ fr n (gen : Int) (i : Int) data = (⟨bl, wt, [], true, left⟩, 19) := by
  have hmk : mkE (gen : Int) (i : Int) data = 0 := by
    unfold mkE
    rw [if_neg (by omega), if_neg (by omega)]
  have hre : DS.rdE ⟨bl, wt, [], true, left⟩ ((fr : Nat) + (i : Int)) = 19 := if_pos rfl
  rw [DS.append_rd (by omega) hmk (by rw [hre]; decide), hre]

/-! ### a scan -/
/-- Block number i ends a scan of generation g. -/
def StopB (g i : Nat) (b : List UInt8) : Prop := b.length = 256 ∧ (recRead b).2 ≠ 21 ∧ ((recRead b).2 ≠ 0 ∨ (recRead b).1.gen ≠ g ∨ (recRead b).1.no ≠ i)
theorem stop_zero {g i : Nat} {b : List UInt8} (h : b.length = 256) (h0 : b.getD 255 0 = 0) : StopB g i b := by
  have := rr_0 h h0
  exact ⟨h, by rw [this]; decide, .inl (by rw [this]; decide)⟩
theorem stop_other {g g' i j : Nat} {data : List UInt8} (hg : g' < 72057594037927936) (hj : j < 72057594037927936) (hd : data.length ≤ 234) (hne : g' ≠ g ∨ j ≠ i) : StopB g i (marked (makeB g' j data) true) := by
  have := recRead_make hg hj hd
  refine ⟨by rw [marked_len, makeB_len hd], by rw [this]; exact (show (0 : Nat) ≠ 21 by decide), .inr ?_⟩
  rw [this]
  exact hne
theorem rd_up {bl : List (List UInt8)} {left : Int} {q : Nat} {b : List UInt8} (hb : bl[q]? = some b) : DS.rdE ⟨bl, [], [], false, left⟩ (q : Int) = 0 ∧ DS.rdB ⟨bl, [], [], false, left⟩ (q : Int) = b := by
  have hl := (List.getElem?_eq_some_iff.1 hb).1
  have hhas : DS.has ⟨bl, [], [], false, left⟩ (q : Int) := ⟨by omega, by show (q : Int) < (bl.length : Int); omega⟩
  exact ⟨(if_neg Bool.false_ne_true).trans (if_pos hhas), (if_neg Bool.false_ne_true).trans ((if_pos hhas).trans (by simp [DS.look, lastW, hb]))⟩
theorem scan_stop {bl : List (List UInt8)} {left : Int} {fr g k i : Nat} {b : List UInt8} {acc : List (List UInt8)} (hb : bl[fr + i]? = some b) (hs : StopB g i b) : DS.scan ⟨bl, [], [], false, left⟩ fr (g : Int) (k + 1) i acc = (acc, 0) := by
  have h := rd_up (left := left) hb
  have hc : ((fr : Nat) : Int) + (i : Int) = ((fr + i : Nat) : Int) := by omega
  refine DS.scan_end (by rw [hc]; exact h.1) (by rw [hc, h.2]; exact hs.2.1) ?_
  rw [hc, h.2]
  rcases hs.2.2 with h1 | h1 | h1
  · exact .inl h1
  · exact .inr (.inl (by omega))
  · exact .inr (.inr (by omega))
theorem scan_next {bl : List (List UInt8)} {left : Int} {fr g k i : Nat} {data : List UInt8} {acc : List (List UInt8)} (hg : g < 72057594037927936) (hi : i < 72057594037927936) (hd : data.length ≤ 234) (hb : bl[fr + i]? = some (marked (makeB g i data) true)) :
    DS.scan ⟨bl, [], [], false, left⟩ fr (g : Int) (k + 1) i acc = DS.scan ⟨bl, [], [], false, left⟩ fr (g : Int) k (i + 1) (acc ++ [data]) := by
  have h := rd_up (left := left) hb
  have hc : ((fr : Nat) : Int) + (i : Int) = ((fr + i : Nat) : Int) := by omega
  have hr := recRead_make hg hi hd
  rw [DS.scan_go (by rw [hc]; exact h.1) (by rw [hc, h.2, hr]; exact (show (0 : Nat) ≠ 21 by decide)) (by rw [hc, h.2, hr]; simp)]
  rw [hc, h.2, hr]
/-- Records in the first blocks, and then one that ends it. -/
theorem scan_all {bl : List (List UInt8)} {left : Int} {g n : Nat} {l : List (List UInt8)} (hg : g < 72057594037927936) (hn : n < 72057594037927936) (hln : l.length ≤ n) (hd : ∀ x ∈ l, x.length ≤ 234)
    (hgood : ∀ i x, l[i]? = some x → bl[i]? = some (marked (makeB g i x) true)) (hstop : l.length < n → ∃ b, bl[l.length]? = some b ∧ StopB g l.length b) : DS.scan ⟨bl, [], [], false, left⟩ 0 (g : Int) n 0 [] = (l, 0) := by
  have key : ∀ k, k ≤ l.length → DS.scan ⟨bl, [], [], false, left⟩ 0 (g : Int) n 0 [] = DS.scan ⟨bl, [], [], false, left⟩ 0 (g : Int) (n - k) k (l.take k) := by
    intro k
    induction k with
    | zero => intro _; rfl
    | succ k ih =>
      intro hk
      have hx : l[k]? = some (l[k]'(by omega)) := by simp
      rw [ih (by omega), show n - k = (n - (k + 1)) + 1 by omega, scan_next hg (by omega) (hd (l[k]'(by omega)) (List.getElem_mem _)) (by rw [Nat.zero_add]; exact hgood k _ hx), List.take_add_one, hx]
      rfl
  rw [key l.length (Nat.le_refl _), List.take_length]
  by_cases h : l.length = n
  · rw [h, Nat.sub_self]; rfl
  · obtain ⟨b, hb, hs⟩ := hstop (by omega)
    rw [show n - l.length = (n - l.length - 1) + 1 by omega, scan_stop (by rw [Nat.zero_add]; exact hb) hs]

/-! ### records in the first blocks, then others; and when the power has gone -/
def UpI (l : List (List UInt8)) (t : Nat) (d : DS) : Prop := ∃ blk left, d = ⟨blk, [], [], false, left⟩ ∧ blk.length = 5 ∧ (∀ i x, i < t → l[i]? = some x → blk[i]? = some (marked (makeB 2 i x) true)) ∧ ∀ i b, t ≤ i → blk[i]? = some b → StopB 2 i b
def DownI (l : List (List UInt8)) (t : Nat) (d : DS) : Prop := t < l.length ∧ ∃ bl' wt l', d = ⟨bl', wt, [], true, l'⟩ ∧ wt.length ≤ 1 ∧ ∀ pks, (crashed bl' wt pks).length = 5 ∧ (∀ i x, i < t → l[i]? = some x → (crashed bl' wt pks)[i]? = some (marked (makeB 2 i x) true)) ∧
  (∀ i b, t < i → (crashed bl' wt pks)[i]? = some b → StopB 2 i b) ∧ ∀ b, (crashed bl' wt pks)[t]? = some b → StopB 2 t b ∨ ∃ x, l[t]? = some x ∧ b = marked (makeB 2 t x) true
theorem UpI.start (l : List (List UInt8)) (left : Int) : UpI l 0 ⟨List.replicate 5 zeros256, [], [], false, left⟩ :=
  ⟨_, _, rfl, rfl, fun i x h => by omega, fun i b _ hb => by
    have := List.mem_of_getElem? hb
    rw [List.eq_of_mem_replicate this]
    exact stop_zero (by simp [zeros256]) (by decide)⟩
theorem UpI.elder {l : List (List UInt8)} {d : DS} {k : Nat} {x : List UInt8} (h : UpI l 0 d) (hl : d.left = -1) (hk : k < 5) (hx : x.length ≤ 234) : (d.append 0 5 1 k x).2 = 0 ∧ UpI l 0 (d.append 0 5 1 k x).1 ∧ (d.append 0 5 1 k x).1.left = -1 := by
  obtain ⟨blk, left, rfl, h5, _, hs⟩ := h
  obtain ⟨O, hO⟩ : ∃ O, blk[k]? = some O := ⟨blk[k]'(by omega), by simp⟩
  rcases append_up (left := left) (fr := 0) (n := 5) (i := k) (gen := 1) (data := x) (Nat.zero_add k).symm hk (by omega) (by decide) hx hO (hs k O (Nat.zero_le _) hO).1 with ⟨l', h1, h2⟩ | ⟨h1, _⟩
  · rw [show ((1 : Nat) : Int) = 1 from rfl] at h2
    rw [h2]
    refine ⟨rfl, ⟨_, _, rfl, by rw [List.length_set, h5], fun i y h => by omega, fun i b _ hb => ?_⟩, h1 hl⟩
    by_cases hik : k = i
    · subst hik
      rw [List.getElem?_set_self (by omega)] at hb
      injection hb with hb
      subst hb
      exact stop_other (by decide) (by omega) hx (.inl (by decide))
    · rw [List.getElem?_set_ne hik] at hb
      exact hs i b (Nat.zero_le _) hb
  · exact absurd hl h1
theorem UpI.cut {l : List (List UInt8)} {t : Nat} {d : DS} (h : UpI l t d) (n : Int) : UpI l t (d.cut n) := by
  obtain ⟨blk, left, rfl, h1⟩ := h
  exact ⟨blk, _, rfl, h1⟩
theorem UpI.step {l : List (List UInt8)} {d : DS} {k : Nat} {x : List UInt8} (h : UpI l k d) (hk : k < 5) (hx : l[k]? = some x) (hxl : x.length ≤ 234) : ((d.append 0 5 2 k x).2 = 0 ∧ UpI l (k + 1) (d.append 0 5 2 k x).1) ∨ ((d.append 0 5 2 k x).2 = 19 ∧ DownI l k (d.append 0 5 2 k x).1) := by
  obtain ⟨blk, left, rfl, h5, hg, hs⟩ := h
  obtain ⟨O, hO⟩ : ∃ O, blk[k]? = some O := ⟨blk[k]'(by omega), by simp⟩
  have hOs := hs k O (Nat.le_refl _) hO
  have goods : ∀ B : List UInt8, ∀ i y, i < k → l[i]? = some y → (blk.set k B)[i]? = some (marked (makeB 2 i y) true) := fun B i y hi hy => by
    rw [List.getElem?_set_ne (by omega)]; exact hg i y hi hy
  have stops : ∀ B : List UInt8, ∀ i b, k < i → (blk.set k B)[i]? = some b → StopB 2 i b := fun B i b hi hb => by
    rw [List.getElem?_set_ne (by omega)] at hb; exact hs i b (by omega) hb
  rcases append_up (left := left) (fr := 0) (n := 5) (i := k) (gen := 2) (data := x) (Nat.zero_add k).symm hk (by omega) (by decide) hxl hO hOs.1 with ⟨l', h1, h2⟩ | ⟨h1, bl', wt, l', hw, h3, h4, h6⟩
  · left
    rw [show ((2 : Nat) : Int) = 2 from rfl] at h2
    rw [h2]
    refine ⟨rfl, _, _, rfl, by rw [List.length_set, h5], fun i y hi hy => ?_, fun i b hi hb => stops _ i b (by omega) hb⟩
    rcases Nat.lt_or_ge i k with h | h
    · exact goods _ i y h hy
    · obtain rfl : i = k := by omega
      rw [hx] at hy
      injection hy with hy
      subst hy
      exact List.getElem?_set_self (by omega)
  · right
    rw [show ((2 : Nat) : Int) = 2 from rfl] at h4
    rw [h4]
    refine ⟨rfl, (List.getElem?_eq_some_iff.1 hx).1, bl', wt, l', rfl, hw, fun pks => ?_⟩
    obtain ⟨b, ⟨hb1, hb2⟩, hb3⟩ := h6 pks
    rw [hb3]
    refine ⟨by rw [List.length_set, h5], goods b, stops b, fun c hc => ?_⟩
    rw [List.getElem?_set_self (by omega)] at hc
    injection hc with hc
    subst hc
    rcases hb2 with rfl | hb2 | rfl
    · exact .inl hOs
    · exact .inl (stop_zero hb1 hb2)
    · exact .inr ⟨x, hx, rfl⟩
theorem DownI.step {l : List (List UInt8)} {d : DS} {t k : Nat} {x : List UInt8} (h : DownI l t d) (hk : k < 5) (hxl : x.length ≤ 234) : (d.append 0 5 2 k x).2 = 19 ∧ DownI l t (d.append 0 5 2 k x).1 := by
  obtain ⟨ht, bl', wt, l', rfl, h2⟩ := h
  have := append_down (bl := bl') (wt := wt) (left := l') (fr := 0) (n := 5) (gen := 2) (i := k) (data := x) hk (by omega) (by decide) hxl
  rw [show ((2 : Nat) : Int) = 2 from rfl] at this
  rw [this]
  exact ⟨rfl, ht, bl', wt, l', rfl, h2⟩
theorem UpI.wt {l : List (List UInt8)} {t : Nat} {d : DS} (h : UpI l t d) : d.wt.length < 1000000 := by
  obtain ⟨blk, left, rfl, _⟩ := h
  exact (show (0 : Nat) < 1000000 by decide)
theorem DownI.wt {l : List (List UInt8)} {t : Nat} {d : DS} (h : DownI l t d) : d.wt.length < 1000000 := by
  obtain ⟨_, bl', wt, l', rfl, h2, _⟩ := h
  show wt.length < 1000000
  omega
theorem UpI.scan {l : List (List UInt8)} {d : DS} (h : UpI l l.length d) (h5 : l.length ≤ 5) (hd : ∀ x ∈ l, x.length ≤ 234) (pks : List Int) : (d.crash pks).scan 0 2 5 0 [] = (l, 0) := by
  obtain ⟨blk, left, rfl, hb5, hg, hs⟩ := h
  exact scan_all (g := 2) (by decide) (by decide) h5 hd (fun i x hx => hg i x (List.getElem?_eq_some_iff.1 hx).1 hx) (fun hlt => ⟨blk[l.length]'(by omega), (show blk[l.length]? = _ by simp), hs _ _ (Nat.le_refl _) (by simp)⟩)
theorem DownI.scan {l : List (List UInt8)} {d : DS} {t : Nat} (h : DownI l t d) (h5 : l.length ≤ 5) (hd : ∀ x ∈ l, x.length ≤ 234) (pks : List Int) : (d.crash pks).scan 0 2 5 0 [] = (l.take t, 0) ∨ (d.crash pks).scan 0 2 5 0 [] = (l.take (t + 1), 0) := by
  obtain ⟨ht, bl', wt, l', rfl, hw, h⟩ := h
  obtain ⟨hb5, hg, hs, hx⟩ := h pks
  have hb : (crashed bl' wt pks)[t]? = some ((crashed bl' wt pks)[t]'(by omega)) := by simp
  have gt : ∀ k, k ≤ t + 1 → ∀ i x, (l.take k)[i]? = some x → i < k ∧ l[i]? = some x := fun k _ i x hi => by
    have h1 := (List.getElem?_eq_some_iff.1 hi).1
    rw [List.length_take] at h1
    rw [List.getElem?_take_of_lt (by omega)] at hi
    exact ⟨by omega, hi⟩
  have lt : ∀ k, k ≤ t + 1 → (l.take k).length = k := fun k hk => by rw [List.length_take]; omega
  rcases hx _ hb with hq | ⟨x, hlx, hq⟩
  · left
    refine scan_all (g := 2) (by decide) (by decide) (by rw [lt t (by omega)]; omega) (fun y hy => hd y (List.mem_of_mem_take hy)) (fun i y hi => ?_) (fun _ => ⟨_, by rw [lt t (by omega)]; exact hb, by rw [lt t (by omega)]; exact hq⟩)
    obtain ⟨q1, q2⟩ := gt t (by omega) i y hi
    exact hg i y q1 q2
  · right
    refine scan_all (g := 2) (by decide) (by decide) (by rw [lt (t + 1) (by omega)]; omega) (fun y hy => hd y (List.mem_of_mem_take hy)) (fun i y hi => ?_) (fun hlt => ?_)
    · obtain ⟨q1, q2⟩ := gt (t + 1) (by omega) i y hi
      rcases Nat.lt_or_ge i t with h1 | h1
      · exact hg i y h1 q2
      · obtain rfl : i = t := by omega
        rw [hlx] at q2
        injection q2 with q2
        subst q2
        rw [hb, hq]
    · rw [lt (t + 1) (by omega)] at hlt ⊢
      exact ⟨(crashed bl' wt pks)[t + 1]'(by omega), by simp, hs (t + 1) _ (by omega) (by simp)⟩

end Go.Proofs.Ytpjojocckoobeaa
