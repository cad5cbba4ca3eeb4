/- box: Folder, front, key. -/
import Derived.Test.YtchiikfdmogfpaaGreatDoorPl2
import Derived.Test.YtchiikfdmogfpaaGreatDoorShelf
import Derived.Test.YtchiikfdmogfpaaGreatDoorRows
namespace Go.Proofs.YtchiikfdmogfpaaGreatDoor
open Go.RowKit

theorem badR_int (x : Nat) : badR x = !((decide (97 ≤ (x : Int)) && decide ((x : Int) ≤ 122)) || (decide (65 ≤ (x : Int)) && decide ((x : Int) ≤ 90)) || (decide (48 ≤ (x : Int)) && decide ((x : Int) ≤ 57)) || ((x : Int) == 45) || ((x : Int) == 46)) := by
  unfold badR goodR
  congr 1
  have e1 : ∀ a b : Nat, decide (a ≤ b) = decide ((a : Int) ≤ (b : Int)) := fun a b => by simp
  have e2 : ∀ a : Nat, decide (x = a) = ((x : Int) == (a : Int)) := fun a => by
    rw [Bool.eq_iff_iff]; simp; omega
  simp only [e1, e2]
  rfl
set_option maxRecDepth 20000 in
set_option maxHeartbeats 1000000 in
theorem bad_any (x : Nat) (hx : x ≤ 1114111) (w : World) :
    Calls Tryz.prog 25 #[.int .i32 x] w fun e w' => e = .returned (.bool (badR x)) ∧ w = w' := by
  rw [badR_int]
  go_enter Tryz.func25, Tryz.ntmps25
  go_wp2
  all_goals (go_ret; refine ⟨congrArg (fun b => Ending.returned (.bool b)) ?_, rfl⟩; (first | rfl | (rw [Bool.eq_iff_iff]; simp; done) | (rw [Bool.eq_iff_iff]; simp; omega)))

theorem bad_grows (w : World) : Go.Proofs.PredGrows Tryz.prog 25 #[] badR w := fun W x hx _ =>
  (bad_any x hx W).mono fun _ _ ⟨he, hw⟩ => ⟨he, hw ▸ Below.refl _ _⟩

set_option maxRecDepth 20000 in
set_option maxHeartbeats 1000000 in
theorem folder_any (f : Bytes) (hf : f.length ≤ 1000000000000000) (w : World) :
    Calls Tryz.prog 8 #[.string ⟨f.toArray⟩] w fun e w' => e = .returned (.bool (folderOk f)) ∧ Below w.heap.size w w' := by
  have HC := Lib.hid (fun w => Tryz.strings_ContainsFunc_grows 25 #[] (enters_of Tryz.func25 (by kernel_rfl) rfl) badR ⟨f.toArray⟩ w (bad_grows w))
  by_cases h1 : 0 < f.length
  · by_cases h2 : f.length ≤ 40
    · have HF := Lib.hid (folder_of h1 h2)
      have e1 : (0 : Int) < (f.length : Int) := by omega
      have e2 : (f.length : Int) ≤ 40 := by omega
      clear h1 h2
      go_enter Tryz.func8, Tryz.ntmps8
      go_wp2_with (fail)
      refine (HC.out _).mono ?_
      rintro e w1 ⟨rfl, hb⟩
      go_wp2_with (fail)
      go_ret
      exact ⟨congrArg (fun b => Ending.returned (.bool b)) HF.out.symm, hb⟩
    · have HF := Lib.hid (folder_long h2)
      have e1 : (0 : Int) < (f.length : Int) := by omega
      have e2 : (40 : Int) < (f.length : Int) := by omega
      clear h1 h2
      go_enter Tryz.func8, Tryz.ntmps8
      go_wp2_with (fail)
      go_ret
      exact ⟨congrArg (fun b => Ending.returned (.bool b)) HF.out.symm, Below.refl _ _⟩
  · have HF := Lib.hid (folder_short h1)
    obtain rfl : f = [] := List.eq_nil_of_length_eq_zero (by omega)
    clear h1 hf
    go_enter Tryz.func8, Tryz.ntmps8
    go_wp2_with (fail)
    go_ret
    exact ⟨congrArg (fun b => Ending.returned (.bool b)) HF.out.symm, Below.refl _ _⟩

set_option maxRecDepth 20000 in
set_option maxHeartbeats 1000000 in
theorem front_any (f : Bytes) (hf : f.length ≤ 1000000000000000) (w : World) :
    Calls Tryz.prog 33 #[.string ⟨f.toArray⟩] w fun e w' => e = .returned (.string ⟨(frontOf f).toArray⟩) ∧ w = w' := by
  go_enter Tryz.func33, Tryz.ntmps33
  go_wp2
  go_ret
  exact ⟨rfl, rfl⟩

theorem str_cat (a b : Bytes) : (⟨a.toArray⟩ : ByteArray) ++ ⟨b.toArray⟩ = ⟨(a ++ b).toArray⟩ := by
  apply ByteArray.ext
  simp
/-- The table that strconv reads. -/
def TabG (w : World) : Prop := Lib.TabIs Tryz.prog w "internal/strconv.uint64pow10" .u64 Lib.pow10Tab
theorem itoa_any (u : Int) (h0 : -9223372036854775808 ≤ u) (h1 : u ≤ 9223372036854775807) (w : World) (ht : TabG w) :
    Calls Tryz.prog 43 #[.int .i64 u] w fun e w' => e = .returned (.string ⟨(Lib.itoa u).toArray⟩) ∧ Below w.heap.size w w' :=
  (Tryz.strconv_Itoa u h0 h1 w ht).mono fun _ _ ⟨he, q, os, hw⟩ => ⟨he, hw ▸ ⟨rfl, rfl, rfl, by show w.heap.size ≤ (w.heap ++ os).size; rw [Array.size_append]; omega, fun i hi => by show (w.heap ++ os)[i]? = w.heap[i]?; rw [Array.getElem?_append_left hi]⟩⟩
theorem repeat_any (c : Nat) (hc : c ≤ 1000) (w : World) :
    Calls Tryz.prog 44 #[.string ⟨#[48]⟩, .int .i64 c] w fun e w' => e = .returned (.string ⟨(List.replicate c (48 : UInt8)).toArray⟩) ∧ Below w.heap.size w w' :=
  (Tryz.strings_Repeat ⟨#[48]⟩ c w (by omega) (by simp [ByteArray.size]; omega)).mono fun _ _ ⟨he, hw⟩ => ⟨by rw [he]; have := Lib.repeatL_replicate 48 1 c; rw [Nat.mul_one] at this; rw [← this]; rfl, hw⟩

theorem itoa_length_le (u : Int) (h0 : -9223372036854775808 ≤ u) (h1 : u ≤ 9223372036854775807) : (Lib.itoa u).length ≤ 1000 := by
  have hh : ∀ n, n ≤ 9223372036854775808 → Lib.nDigits n ≤ 100 := fun n hn => by
    apply Classical.byContradiction
    intro hc
    have : ∀ k v, v < 10 ^ k → Lib.nDigits v ≤ max k 1 := by
      intro k
      induction k with
      | zero => intro v hv; rw [Lib.nDigits_small (by omega)]; omega
      | succ k ih =>
        intro v hv
        by_cases h10 : v < 10
        · rw [Lib.nDigits_small h10]; omega
        · rw [Lib.nDigits_big h10]
          rw [Nat.pow_succ] at hv
          have := ih (v / 10) (by omega)
          by_cases hk : k = 0
          · subst hk; simp at hv; omega
          · omega
    have := this 20 n (by omega)
    omega
  unfold Lib.itoa
  split
  · have := hh u.natAbs (by omega)
    rw [List.length_cons, Lib.decDigits_length]
    omega
  · rw [Lib.decDigits_length]
    have := hh u.toNat (by omega)
    omega
theorem numOf_length_le (u : Int) (h0 : -9223372036854775808 ≤ u) (h1 : u ≤ 9223372036854775807) : (numOf u).length ≤ 1010 := by
  have := itoa_length_le u h0 h1
  simp only [numOf, List.length_append, List.length_replicate]; omega

set_option maxRecDepth 20000 in
set_option maxHeartbeats 1000000 in
theorem key_any (f : Bytes) (hf : f.length ≤ 1000000000000000) (u : Int) (h0 : -9223372036854775808 ≤ u) (h1 : u ≤ 9223372036854775807) (w : World) (ht : TabG w) :
    Calls Tryz.prog 28 #[.string ⟨f.toArray⟩, .int .i64 u] w fun e w' => e = .returned (.string ⟨(mkeyOf f u).toArray⟩) ∧ Below w.heap.size w w' := by
  have HI := Lib.hid (itoa_any u h0 h1 w ht)
  have HK : Hid (mkeyOf f u = frontOf f ++ List.replicate (10 - (Lib.itoa u).length) 48 ++ Lib.itoa u) := Lib.hid (by unfold mkeyOf numOf; rw [List.append_assoc])
  have hlen := itoa_length_le u h0 h1
  obtain ⟨s, hs⟩ : ∃ s, Lib.itoa u = s := ⟨_, rfl⟩
  rw [hs] at HI HK hlen
  have hfl : (frontOf f).length = f.length + 3 := by simp [frontOf]
  have g1 : ¬ 9223372036854775807 < (frontOf f).length + (10 - s.length) := by omega
  have g2 : ¬ 9223372036854775807 < (frontOf f).length + (10 - s.length) + s.length := by omega
  clear hs ht hfl
  go_enter Tryz.func28, Tryz.ntmps28
  go_wp2_with (fail)
  refine HI.out.mono ?_
  rintro e w1 ⟨rfl, hb1⟩
  go_wp2_with (fail)
  refine (front_any f hf _).mono ?_
  rintro e w2 ⟨rfl, rfl⟩
  go_wp2_with (fail)
  rw [show max ((10 : Int) - (s.length : Int)) 0 = ((10 - s.length : Nat) : Int) from by omega]
  refine (repeat_any (10 - s.length) (by omega) _).mono ?_
  rintro e w2 ⟨rfl, hb2⟩
  go_wp2_with (fail)
  go_ret
  refine ⟨?_, hb1.trans (hb2.mono hb1.size)⟩
  rw [HK.out, ← str_cat, ← str_cat, ← List.toArray_replicate]
  rfl
end Go.Proofs.YtchiikfdmogfpaaGreatDoor
