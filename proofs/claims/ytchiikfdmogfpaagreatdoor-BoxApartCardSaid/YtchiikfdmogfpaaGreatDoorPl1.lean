/- Plain facts: decimal numerals filled with noughts, and the keys of a box's mails. No program is named here. -/
import Derived.Test.YtchiikfdmogfpaaGreatDoorBase
import Derived.Lib.ItoaNum
import Derived.Lib.Atoi
namespace Go.Proofs.YtchiikfdmogfpaaGreatDoor
open Go.Lib

theorem decFrom_append (a b : Bytes) : ∀ acc, decFrom acc (a ++ b) = (decFrom acc a).bind fun m => decFrom m b := by
  induction a with
  | nil => intro acc; rfl
  | cons x r ih =>
    intro acc
    simp only [List.cons_append, decFrom]
    cases digitVal x with
    | none => rfl
    | some d => exact ih _
theorem digitVal_of (d : Nat) (h : d < 10) : digitVal (UInt8.ofNat (48 + d)) = some d := by
  have e : (UInt8.ofNat (48 + d)).toNat = 48 + d := by simp; omega
  unfold digitVal
  rw [e, if_pos (by omega)]
  congr 1
  omega
theorem decFrom_digits (u : Nat) : ∀ acc, decFrom acc (decDigits u) = some (acc * 10 ^ nDigits u + u) := by
  induction u using Nat.strongRecOn with
  | _ u ih =>
    intro acc
    by_cases h : u < 10
    · rw [decDigits, dif_pos h, nDigits_small h]
      simp only [decFrom, digitVal_of u h, Nat.pow_one]
    · rw [decDigits, dif_neg h, nDigits_big h, decFrom_append, ih (u / 10) (by omega)]
      simp only [Option.bind_some, decFrom, digitVal_of (u % 10) (by omega), Option.some.injEq]
      rw [Nat.pow_succ]
      have h1 : acc * (10 ^ nDigits (u / 10) * 10) = (acc * 10 ^ nDigits (u / 10)) * 10 := by rw [Nat.mul_assoc]
      rw [h1]
      omega
theorem decFrom_zeros (k : Nat) : decFrom 0 (List.replicate k (48 : UInt8)) = some 0 := by
  induction k with
  | zero => rfl
  | succ k ih => rw [List.replicate_succ, decFrom]; exact ih

/-- A number of a mail, as its key has it. -/
def numOf (u : Int) : Bytes := List.replicate (10 - (itoa u).length) 48 ++ itoa u
theorem itoa_nat (u : Nat) : itoa (u : Int) = decDigits u := by
  unfold itoa; rw [if_neg (by omega)]; simp
theorem itoa_length (u : Nat) : (itoa (u : Int)).length = nDigits u := by rw [itoa_nat, decDigits_length]
theorem numOf_dec (u : Nat) : decFrom 0 (numOf u) = some u := by
  unfold numOf
  rw [decFrom_append, decFrom_zeros, Option.bind_some, itoa_nat, decFrom_digits]
  simp
theorem nDigits_le {u : Nat} (h : u < 10000000000) : nDigits u ≤ 10 := by
  apply Classical.byContradiction
  intro hn
  have h2 : 10 ^ 10 ≤ u := by
    have : ∀ k v, k < nDigits v → 10 ^ k ≤ v ∨ v = 0 := by
      intro k
      induction k with
      | zero => intro v _; simp; omega
      | succ k ih =>
        intro v hv
        by_cases h10 : v < 10
        · rw [nDigits_small h10] at hv; omega
        · rw [nDigits_big h10] at hv
          rcases ih (v / 10) (by omega) with h | h
          · left; rw [Nat.pow_succ]; omega
          · omega
    rcases this 10 u (by omega) with h | h
    · exact h
    · subst h; simp [nDigits_small] at hn
  omega
theorem numOf_length {u : Nat} (h : u < 10000000000) : (numOf u).length = 10 := by
  have := nDigits_le h
  simp only [numOf, List.length_append, List.length_replicate, itoa_length]
  omega
theorem numOf_ne (u : Int) : numOf u ≠ [] := by
  unfold numOf itoa
  split
  · simp
  · intro e
    have := congrArg List.length e
    have h2 := decDigits_length u.toNat
    have h3 := nDigits_pos u.toNat
    simp at this
    simp [this.2] at h2
    omega
theorem numOf_atoi (u : Nat) : atoi (numOf u) = some (u : Int) := by
  have h := numOf_dec u
  have hd := digit_of_decFrom _ _ _ h
  cases hl : numOf u with
  | nil => exact absurd hl (numOf_ne u)
  | cons b r =>
    rw [hl] at h hd
    obtain ⟨d, hb⟩ := hd 0 b rfl
    obtain ⟨h1, h2, _⟩ := digitVal_eq hb
    have e1 : (b == 45) = false := by
      apply beq_eq_false_iff_ne.2; intro e; subst e; simp at h1
    have e2 : (b == 43) = false := by
      apply beq_eq_false_iff_ne.2; intro e; subst e; simp at h1
    simp only [atoi, e1, e2, Bool.false_eq_true, if_false, decNat, List.isEmpty_cons, h]
    rfl
theorem numOf_inj {u v : Nat} (h : numOf u = numOf v) : u = v := by
  have h1 := numOf_dec u
  rw [h, numOf_dec v] at h1
  simpa using h1.symm
/-- A number's digits stand in the numbers' own order. -/
theorem dec_lt : ∀ (l m : Bytes) (a b x y : Nat), l.length = m.length → decFrom a l = some x → decFrom b m = some y → a < b → x < y
  | [], [], a, b, x, y, _, h1, h2, h => by simp only [decFrom, Option.some.injEq] at h1 h2; omega
  | [], _ :: _, _, _, _, _, hl, _, _, _ => by simp at hl
  | _ :: _, [], _, _, _, _, hl, _, _, _ => by simp at hl
  | c :: l, d :: m, a, b, x, y, hl, h1, h2, h => by
    simp only [decFrom] at h1 h2
    cases hc : digitVal c with
    | none => simp [hc] at h1
    | some p =>
      cases hd : digitVal d with
      | none => simp [hd] at h2
      | some q =>
        simp only [hc] at h1
        simp only [hd] at h2
        have := digitVal_eq hc
        exact dec_lt l m _ _ x y (by simpa using hl) h1 h2 (by omega)
theorem dec_le : ∀ (l m : Bytes) (a x y : Nat), l.length = m.length → decFrom a l = some x → decFrom a m = some y → x < y → l < m
  | [], [], a, x, y, _, h1, h2, h => by simp only [decFrom, Option.some.injEq] at h1 h2; omega
  | [], _ :: _, _, _, _, hl, _, _, _ => by simp at hl
  | _ :: _, [], _, _, _, hl, _, _, _ => by simp at hl
  | c :: l, d :: m, a, x, y, hl, h1, h2, h => by
    simp only [decFrom] at h1 h2
    cases hc : digitVal c with
    | none => simp [hc] at h1
    | some p =>
      cases hd : digitVal d with
      | none => simp [hd] at h2
      | some q =>
        simp only [hc] at h1
        simp only [hd] at h2
        have ec := digitVal_eq hc
        have ed := digitVal_eq hd
        rw [List.cons_lt_cons_iff]
        rcases Nat.lt_trichotomy p q with hpq | hpq | hpq
        · left; rw [UInt8.lt_iff_toNat_lt]; omega
        · subst hpq
          refine .inr ⟨UInt8.toNat_inj.1 (by omega), dec_le l m _ x y (by simpa using hl) h1 h2 h⟩
        · have := dec_lt m l _ _ y x (by simpa using hl.symm) h2 h1 (show a * 10 + q < a * 10 + p by omega)
          omega
theorem numOf_lt {u v : Nat} (hv : v < 10000000000) (h : u < v) : numOf u < numOf v :=
  dec_le _ _ 0 u v (by rw [numOf_length (by omega), numOf_length hv]) (numOf_dec u) (numOf_dec v) h

def frontOf (f : Bytes) : Bytes := [109, 58] ++ f ++ [58]
def mkeyOf (f : Bytes) (u : Int) : Bytes := frontOf f ++ numOf u
def nkeyOf (f : Bytes) : Bytes := [110, 58] ++ f
theorem append_lt {p l m : Bytes} (h : l < m) : p ++ l < p ++ m := by
  induction p with
  | nil => exact h
  | cons c r ih => simp only [List.cons_append]; rw [List.cons_lt_cons_iff]; exact .inr ⟨rfl, ih⟩
theorem mkeyOf_lt {f : Bytes} {u v : Nat} (hv : v < 10000000000) (h : u < v) : mkeyOf f u < mkeyOf f v := append_lt (numOf_lt hv h)
theorem mkeyOf_inj {f : Bytes} {u v : Nat} (h : mkeyOf f u = mkeyOf f v) : u = v := numOf_inj (List.append_cancel_left h)
theorem mkeyOf_ne_nkey (f g : Bytes) (u : Int) : mkeyOf f u ≠ nkeyOf g := by
  intro e; simp [mkeyOf, frontOf, nkeyOf] at e
theorem nkeyOf_inj {f g : Bytes} (h : nkeyOf f = nkeyOf g) : f = g := by simpa [nkeyOf] using h
/-- Where no name has a colon, the front tells the folder. -/
theorem front_split : ∀ (f g x y : Bytes), (58 : UInt8) ∉ f → (58 : UInt8) ∉ g → f ++ 58 :: x = g ++ 58 :: y → f = g ∧ x = y
  | [], [], _, _, _, _, h => ⟨rfl, by simpa using h⟩
  | [], c :: g, _, _, _, hg, h => by
    simp only [List.nil_append, List.cons_append, List.cons.injEq] at h
    rw [← h.1] at hg; simp at hg
  | c :: f, [], _, _, hf, _, h => by
    simp only [List.nil_append, List.cons_append, List.cons.injEq] at h
    rw [h.1] at hf; simp at hf
  | c :: f, d :: g, x, y, hf, hg, h => by
    simp only [List.cons_append, List.cons.injEq] at h
    obtain ⟨h1, h2⟩ := front_split f g x y (fun e => hf (by simp [e])) (fun e => hg (by simp [e])) h.2
    exact ⟨by rw [h.1, h1], h2⟩
theorem mkeyOf_split {f g : Bytes} {u v : Int} (hf : (58 : UInt8) ∉ f) (hg : (58 : UInt8) ∉ g) (h : mkeyOf f u = mkeyOf g v) : f = g ∧ numOf u = numOf v := by
  simp only [mkeyOf, frontOf, List.append_assoc, List.cons_append, List.nil_append, List.cons.injEq, true_and] at h
  exact front_split f g _ _ hf hg h
theorem front_prefix {f g : Bytes} {u : Int} (hf : (58 : UInt8) ∉ f) (hg : (58 : UInt8) ∉ g) (h : frontOf f <+: mkeyOf g u) : f = g := by
  obtain ⟨t, h⟩ := h
  simp only [mkeyOf, frontOf, List.append_assoc, List.cons_append, List.nil_append, List.cons.injEq, true_and] at h
  exact (front_split f g _ _ hf hg h).1
theorem front_nkey {f g : Bytes} (h : frontOf f <+: nkeyOf g) : False := by
  obtain ⟨t, h⟩ := h
  simp [frontOf, nkeyOf] at h
theorem mkeyOf_length {f : Bytes} {u : Nat} (hu : u < 10000000000) : (mkeyOf f u).length = f.length + 13 := by
  simp only [mkeyOf, frontOf, List.length_append, numOf_length hu, List.length_cons, List.length_nil]; omega
/-- The rising row with these members is one. -/
theorem sorted_eq {α : Type} [LT α] [Std.Irrefl (α := α) (· < ·)] [Std.Asymm (α := α) (· < ·)] [Std.Trichotomous (α := α) (· < ·)] (xs ys : List (List α)) (h1 : xs.Pairwise (· ≤ ·)) (h2 : ys.Pairwise (· ≤ ·)) (n1 : xs.Nodup) (n2 : ys.Nodup) (h : ∀ a, a ∈ xs ↔ a ∈ ys) : xs = ys :=
  List.Perm.eq_of_pairwise (le := (· ≤ ·)) (fun _ _ _ _ p q => List.le_antisymm p q) h1 h2 ((List.perm_ext_iff_of_nodup n1 n2).2 h)
theorem rising_keys (f : Bytes) (us : List Nat) (h : us.Pairwise (· < ·)) (hb : ∀ u ∈ us, u < 10000000000) : (us.map fun (u : Nat) => mkeyOf f (u : Int)).Pairwise (· ≤ ·) ∧ (us.map fun (u : Nat) => mkeyOf f (u : Int)).Nodup := by
  induction us with
  | nil => simp
  | cons u r ih =>
    rw [List.pairwise_cons] at h
    obtain ⟨h1, h2⟩ := ih h.2 (fun v hv => hb v (by simp [hv]))
    constructor
    · rw [List.map_cons, List.pairwise_cons]
      refine ⟨fun k hk => ?_, h1⟩
      obtain ⟨v, hv, rfl⟩ := List.mem_map.1 hk
      exact List.le_of_lt (mkeyOf_lt (hb v (by simp [hv])) (h.1 v hv))
    · rw [List.map_cons, List.nodup_cons]
      refine ⟨fun hk => ?_, h2⟩
      obtain ⟨v, hv, e⟩ := List.mem_map.1 hk
      have := h.1 v hv
      have := mkeyOf_inj e
      omega
end Go.Proofs.YtchiikfdmogfpaaGreatDoor
