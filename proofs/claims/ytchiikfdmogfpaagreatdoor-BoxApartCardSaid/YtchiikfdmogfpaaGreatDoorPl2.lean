/- Plain facts: a search for a rune that all bytes beyond ASCII are; which texts are folders' names. No program is named here. -/
import Derived.Test.YtchiikfdmogfpaaGreatDoorPl1
import Derived.Lib.DecodeN
import Derived.Lib.SpaceUEq
import Derived.Shelf.GgClosure.StringsIndexFunc
namespace Go.Proofs.YtchiikfdmogfpaaGreatDoor
open Go.Lib

theorem decode_byte (s : ByteArray) (i : Nat) : ((s.get! i).toNat < 128 ∧ Utf8.decode s i = ((s.get! i).toNat, 1)) ∨ (128 ≤ (s.get! i).toNat ∧ 128 ≤ (Utf8.decode s i).1) := by
  rw [decode_at]
  by_cases h : (s.get! i).toNat < 128
  · left; refine ⟨h, ?_⟩; unfold decodeN; rw [if_pos h]
  · right
    refine ⟨by omega, ?_⟩
    rcases decodeN_cases (s.size - i) (s.get! i).toNat (s.get! (i + 1)).toNat (s.get! (i + 2)).toNat (s.get! (i + 3)).toNat with ⟨c, e⟩ | ⟨c1, c2, c3, cv, e⟩ | ⟨c1, c2, c3, c4, cv, e⟩ | ⟨c, e⟩ | e
    · omega
    · rw [e]; exact cv
    · rw [e]; show 128 ≤ _; simp only; omega
    · omega
    · rw [e]; decide
theorem idxFrom_none (p : Nat → Bool) (hp : ∀ r, 128 ≤ r → p r = true) (s : ByteArray) : ∀ f pos, s.size ≤ pos + f → (idxFuncFrom p true s f pos < 0 ↔ ∀ i, pos ≤ i → i < s.size → p (s.get! i).toNat = false)
  | 0, pos, h => by
    simp only [idxFuncFrom]
    exact ⟨fun _ i h1 h2 => by omega, fun _ => by decide⟩
  | f + 1, pos, h => by
    unfold idxFuncFrom
    by_cases hlt : pos < s.size
    · rw [if_pos hlt]
      rcases decode_byte s pos with ⟨h1, h2⟩ | ⟨h1, h2⟩
      · rw [h2]
        by_cases hb : p (s.get! pos).toNat = true
        · rw [if_pos hb]
          exact ⟨fun h => by omega, fun h => by rw [h pos (Nat.le_refl _) hlt] at hb; cases hb⟩
        · rw [if_neg hb, idxFrom_none p hp s f (pos + 1) (by omega)]
          refine ⟨fun h i h3 h4 => ?_, fun h i h3 h4 => h i (by omega) h4⟩
          by_cases e : i = pos
          · subst e; simpa using hb
          · exact h i (by omega) h4
      · rw [if_pos (hp _ h2)]
        exact ⟨fun h => by omega, fun h => by have := h pos (Nat.le_refl _) hlt; rw [hp _ h1] at this; cases this⟩
    · rw [if_neg hlt]
      exact ⟨fun _ i h1 h2 => by omega, fun _ => by decide⟩
theorem getB (l : Bytes) (i : Nat) (h : i < l.length) : (ByteArray.mk l.toArray).get! i = l[i] := by
  simp [ByteArray.get!, h]
theorem sizeB (l : Bytes) : (ByteArray.mk l.toArray).size = l.length := by simp [ByteArray.size]
theorem idx_none (p : Nat → Bool) (hp : ∀ r, 128 ≤ r → p r = true) (l : Bytes) : idxFunc p true ⟨l.toArray⟩ < 0 ↔ ∀ b ∈ l, p b.toNat = false := by
  unfold idxFunc
  rw [idxFrom_none p hp _ _ _ (by omega), sizeB]
  constructor
  · intro h b hb
    obtain ⟨i, hi, rfl⟩ := List.getElem_of_mem hb
    have := h i (by omega) hi
    rwa [getB l i hi] at this
  · intro h i _ hi
    rw [getB l i hi]
    exact h _ (List.getElem_mem hi)

def goodR (r : Nat) : Bool := (decide (97 ≤ r) && decide (r ≤ 122)) || (decide (65 ≤ r) && decide (r ≤ 90)) || (decide (48 ≤ r) && decide (r ≤ 57)) || decide (r = 45) || decide (r = 46)
def badR (r : Nat) : Bool := !goodR r
def folderOk (f : Bytes) : Bool := decide (0 < f.length) && decide (f.length ≤ 40) && f.all fun b => goodR b.toNat
theorem badR_high (r : Nat) (h : 128 ≤ r) : badR r = true := by
  unfold badR goodR
  rw [decide_eq_false (show ¬ r ≤ 122 by omega), decide_eq_false (show ¬ r ≤ 90 by omega), decide_eq_false (show ¬ r ≤ 57 by omega), decide_eq_false (show ¬ r = 45 by omega), decide_eq_false (show ¬ r = 46 by omega)]
  simp
theorem folder_of {f : Bytes} (h1 : 0 < f.length) (h2 : f.length ≤ 40) : folderOk f = !decide (0 ≤ idxFunc badR true ⟨f.toArray⟩) := by
  unfold folderOk
  rw [decide_eq_true h1, decide_eq_true h2, Bool.eq_iff_iff]
  have := idx_none badR badR_high f
  simp only [Bool.true_and, List.all_eq_true, Bool.not_eq_true', decide_eq_false_iff_not]
  rw [show (¬ 0 ≤ idxFunc badR true ⟨f.toArray⟩) ↔ idxFunc badR true ⟨f.toArray⟩ < 0 from by omega, this]
  simp [badR]
theorem folder_short {f : Bytes} (h : ¬ 0 < f.length) : folderOk f = false := by unfold folderOk; rw [decide_eq_false h]; rfl
theorem folder_long {f : Bytes} (h : ¬ f.length ≤ 40) : folderOk f = false := by unfold folderOk; rw [decide_eq_false h]; simp
theorem folder_colon {f : Bytes} (h : folderOk f = true) : (58 : UInt8) ∉ f := by
  intro hm
  unfold folderOk at h
  simp only [Bool.and_eq_true, List.all_eq_true] at h
  have := h.2 _ hm
  simp [goodR] at this
theorem folder_length {f : Bytes} (h : folderOk f = true) : 0 < f.length ∧ f.length ≤ 40 := by
  unfold folderOk at h
  simp only [Bool.and_eq_true, decide_eq_true_eq] at h
  exact h.1
end Go.Proofs.YtchiikfdmogfpaaGreatDoor
