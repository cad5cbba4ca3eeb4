/- journal: a journal in memory; Fits; write. -/
import Derived.Test.YtchiikfdmogfpaaGreatDoorJour1
import Derived.StillTailTactics
namespace Go.Proofs.YtchiikfdmogfpaaGreatDoor
open Go.RowKit

/-- A journal's struct: its disk, where its half begins, its size, its generation, its records' slice, the first block behind them. -/
def JAt (w : World) (j d fr sz gen : Nat) (rv : Value) (at_ : Nat) : Prop :=
  w.heap[j]? = some (.cells #[.pointer (some ⟨d, 0, none⟩), .int .i64 fr, .int .i64 sz, .int .u64 gen, rv, .int .i64 at_] 118 (0, 0))
section
variable {w w' : World} {j d fr sz gen at_ : Nat} {rv : Value} (h : JAt w j d fr sz gen rv at_)
include h
theorem JAt.c0 : w.cell? ⟨j, 0, none⟩ = some (.pointer (some ⟨d, 0, none⟩)) := cell_of_row w j 0 _ _ _ h
theorem JAt.c1 : w.cell? ⟨j, 1, none⟩ = some (.int .i64 fr) := cell_of_row w j 1 _ _ _ h
theorem JAt.c2 : w.cell? ⟨j, 2, none⟩ = some (.int .i64 sz) := cell_of_row w j 2 _ _ _ h
theorem JAt.c3 : w.cell? ⟨j, 3, none⟩ = some (.int .u64 gen) := cell_of_row w j 3 _ _ _ h
theorem JAt.c4 : w.cell? ⟨j, 4, none⟩ = some rv := cell_of_row w j 4 _ _ _ h
theorem JAt.c5 : w.cell? ⟨j, 5, none⟩ = some (.int .i64 at_) := cell_of_row w j 5 _ _ _ h
theorem JAt.f (i : Nat) : w.frozen? ⟨j, i, none⟩ = false := frozen_of_row w j i _ _ h
theorem JAt.lt : j < w.heap.size := (Array.getElem?_eq_some_iff.1 h).1
theorem JAt.block (hk : w'.heap[j]? = w.heap[j]?) : JAt w' j d fr sz gen rv at_ := hk.trans h
theorem JAt.frm {F : Nat → Prop} (hf : Frm F w w') (hn : ¬ F j) : JAt w' j d fr sz gen rv at_ := (hf.block j (JAt.lt h) hn).trans h
theorem JAt.setAt (a : Nat) : JAt (w.setCell ⟨j, 5, none⟩ (.int .i64 a)) j d fr sz gen rv a := by
  unfold JAt; rw [heap_setCell_same _ j 5 _ _ _ h]; rfl
theorem JAt.setRecs (v : Value) : JAt (w.setCell ⟨j, 4, none⟩ v) j d fr sz gen v at_ := by
  unfold JAt; rw [heap_setCell_same _ j 4 _ _ _ h]; rfl
end

set_option maxRecDepth 20000 in
set_option maxHeartbeats 1000000 in
theorem fits_yes (j d fr sz gen at_ : Nat) (rv : Value) (n : Nat) (w : World) (h : JAt w j d fr sz gen rv at_) (hs : sz ≤ 1000000) (hf : at_ + blocksOf n ≤ sz) :
    Calls Tryz.prog 39 #[.pointer (some ⟨j, 0, none⟩), .int .i64 n] w fun e w' => e = .returned (.bool true) ∧ ∃ k, w' = w.drewN k := by
  have h2 := h.c2
  have h5 := h.c5
  have hn : n ≤ sz * 42 := by unfold blocksOf at hf; omega
  have hB := Lib.hid hf
  have e1 : (0 : Int) ≤ (n : Int) := Int.natCast_nonneg _
  have e2 : (n : Int) ≤ (sz : Int) * 42 := by omega
  have e3 : (blocksOf n : Int) ≤ (sz : Int) - (at_ : Int) := by omega
  clear h hf
  go_enter Tryz.func39, Tryz.ntmps39
  go_wp2_with (fail)
  go_quiet ((go_at_call 57; exact Calls.quiet_of_same (blocks_q n (by omega) _)))
  go_wp2
  go_ret
  exact ⟨rfl, _, rfl⟩

set_option maxRecDepth 20000 in
set_option maxHeartbeats 1000000 in
theorem fits_no (j d fr sz gen at_ : Nat) (rv : Value) (n : Nat) (w : World) (h : JAt w j d fr sz gen rv at_) (hs : sz ≤ 1000000) (ha : at_ ≤ sz) (hn : n ≤ 1000000000000) (hf : ¬ at_ + blocksOf n ≤ sz) :
    Calls Tryz.prog 39 #[.pointer (some ⟨j, 0, none⟩), .int .i64 n] w fun e w' => e = .returned (.bool false) ∧ ∃ k, w' = w.drewN k := by
  have h2 := h.c2
  have h5 := h.c5
  have hB := Lib.hid hf
  have e1 : (0 : Int) ≤ (n : Int) := Int.natCast_nonneg _
  have e3 : (sz : Int) - (at_ : Int) < (blocksOf n : Int) := by omega
  have e4 : decide ((blocksOf n : Int) ≤ (sz : Int) - (at_ : Int)) = false := by simp; omega
  by_cases hc : n ≤ sz * 42
  · have e2 : (n : Int) ≤ (sz : Int) * 42 := by omega
    clear h hf hc
    go_enter Tryz.func39, Tryz.ntmps39
    go_wp2_with (fail)
    go_quiet ((go_at_call 57; exact Calls.quiet_of_same (blocks_q n (by omega) _)))
    go_wp2
    go_ret
    exact ⟨rfl, _, rfl⟩
  · have e2 : (sz : Int) * 42 < (n : Int) := by omega
    have e5 : decide ((n : Int) ≤ (sz : Int) * 42) = false := by simp; omega
    clear h hf hc e3 e4
    go_enter Tryz.func39, Tryz.ntmps39
    go_wp2_with (fail)
    go_quiet (fail)
    go_wp2
    go_ret
    exact ⟨rfl, _, rfl⟩
end Go.Proofs.YtchiikfdmogfpaaGreatDoor
