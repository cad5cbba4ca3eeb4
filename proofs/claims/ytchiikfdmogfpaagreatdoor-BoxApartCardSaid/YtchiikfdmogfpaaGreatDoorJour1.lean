/- journal: blocks, a mark's bytes, Fits. -/
import Derived.Test.YtchiikfdmogfpaaGreatDoorDisk4
import Derived.Test.YtchiikfdmogfpaaGreatDoorPut
import Derived.Deep.RegionHeld3
namespace Go.Proofs.YtchiikfdmogfpaaGreatDoor
open Go.RowKit

/-- How many blocks a record takes. -/
def blocksOf (n : Nat) : Nat := max ((n + 41) / 42) 1
set_option maxRecDepth 20000 in
set_option maxHeartbeats 400000 in
theorem blocks_any (n : Nat) (hn : n ≤ 1000000000000) (w : World) :
    Calls Tryz.prog 57 #[.int .i64 n] w fun e w' => e = .returned (.int .i64 (blocksOf n)) ∧ w = w' := by
  go_enter Tryz.func57, Tryz.ntmps57
  go_wp2
  all_goals
    go_ret
    refine ⟨ret_int ?_, rfl⟩
    unfold blocksOf
    omega

theorem blocks_q (n : Nat) (hn : n ≤ 1000000000000) (w : World) : Calls Tryz.prog 57 #[.int .i64 n] w fun e w' => e = .returned (.int .i64 (blocksOf n)) ∧ w' = w :=
  (blocks_any n hn w).mono fun _ _ h => ⟨h.1, h.2.symm⟩

def markOf (gen rec place : Nat) : Bytes := beN gen 4 ++ beN rec 4 ++ beN place 2
theorem markOf_length (g r p : Nat) : (markOf g r p).length = 10 := by simp [markOf, beN_length]
set_option maxRecDepth 20000 in
set_option maxHeartbeats 1000000 in
theorem bytes_any (g r p : Nat) (w : World) :
    Calls Tryz.prog 106 #[.agg #[.int .u64 g, .int .u64 r, .int .u64 p]] w fun e w' => ∃ v, e = .returned v ∧ w'.ownsRow w.heap.size 5 1 v 10 ((markOf g r p).map bv) ∧ Below w.heap.size w w' := by
  go_enter Tryz.func106, Tryz.ntmps106
  go_wp2_with (fail)
  have hs0 : w.heap.size + 1 ≤ (w.alloc (.cells #[.int .u64 g, .int .u64 r, .int .u64 p] 173)).drew.heap.size := by simp
  have hnil := World.ownsRow_nil (w.alloc (.cells #[.int .u64 g, .int .u64 r, .int .u64 p] 173)).drew (w.heap.size + 1) 5 1
  go_region_held3 (fun w' => Below w.heap.size w w' ∧ w'.heap[w.heap.size]? = some (.cells #[.int .u64 g, .int .u64 r, .int .u64 p] 173 (0, 0)) ∧ w'.cell? ⟨w.heap.size, 0, none⟩ = some (.int .u64 g) ∧ w'.cell? ⟨w.heap.size, 1, none⟩ = some (.int .u64 r) ∧ w'.cell? ⟨w.heap.size, 2, none⟩ = some (.int .u64 p))
    (first | exact ⟨((Below.refl _ _).alloc (Nat.le_refl _) _).drew, cells3 (hal_at rfl)⟩ | exact ⟨by assumption, cells3 (by assumption)⟩)
    (first | (go_split_ands; go_at_call 105; refine Calls.mono (jputB _ _ ?_ ?_ ?_ _ (by assumption) ?_ ?_) ?_; (any_goals omega); rintro e w1 ⟨v1, rfl, hown, hbel⟩; have hblk := (hbel.block w.heap.size (by omega)).trans (by assumption); have hsz := hbel.size; have hB := (show Below w.heap.size w _ by assumption).trans (hbel.mono (Nat.le_succ _))))
  go_wp2
  go_ret
  simp only [Int.toNat_natCast, List.nil_append, Nat.zero_add, ← List.map_append] at hown
  exact ⟨_, rfl, hown.base (by omega), hB⟩
end Go.Proofs.YtchiikfdmogfpaaGreatDoor
