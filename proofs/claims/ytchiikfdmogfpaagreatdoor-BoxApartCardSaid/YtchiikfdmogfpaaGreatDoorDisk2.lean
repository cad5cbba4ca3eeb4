/- disk.Read of a disk on which nothing waits. -/
import Derived.Test.YtchiikfdmogfpaaGreatDoorDisk1
import Derived.Test.YtchiikfdmogfpaaGreatDoorRange
import Derived.StillTailTactics
import Derived.Shelf.Abstract
import Derived.Deep.RegionHeld3
namespace Go.Proofs.YtchiikfdmogfpaaGreatDoor
open Go.RowKit
attribute [local go_sem ↓] exec_load175 exec_store175

def blockOf (img : Bytes) (i : Nat) : Bytes := (img.drop (i * 64)).take 64

theorem Tryz.under84 : Tryz.prog.underlying 84 = some (.slice 180) := by kernel_rfl

set_option maxRecDepth 20000 in
set_option maxHeartbeats 400000 in
/-- slices.Backward of an empty slice: no round. -/
theorem back1_none (l b : Nat) (w : World) (h : w.cell? ⟨b, 0, none⟩ = some (.slice none 0 0)) :
    Calls Tryz.prog 133 #[.func (.yield l) #[] #[], .pointer (some ⟨b, 0, none⟩)] w fun e w' => (∃ v, e = .returned v) ∧ w' = w := by
  go_enter Tryz.func133, Tryz.ntmps133
  go_wp2
  refine wp_loop_rounds 1 ?_
  rw [rounds_succ]
  go_wp2
  go_end0
  exact ⟨⟨_, rfl⟩, rfl⟩

set_option maxRecDepth 20000 in
set_option maxHeartbeats 400000 in
theorem back_none (w : World) :
    Calls Tryz.prog 127 #[.slice none 0 0] w fun e w' => e = .returned (.func (.func 133) #[] #[.pointer (some ⟨w.heap.size, 0, none⟩)]) ∧ w' = w.alloc (.cells #[.slice none 0 0] 84) := by
  go_enter Tryz.func127, Tryz.ntmps127
  go_wp2
  go_ret
  exact ⟨rfl, rfl⟩

set_option maxRecDepth 20000 in
set_option maxHeartbeats 400000 in
theorem read_any (d L n i : Nat) (img : Bytes) (w : World) (h : DiskAt w d L n img (.slice none 0 0)) (hi : i < n) :
    Calls Tryz.prog 109 #[.pointer (some ⟨d, 0, none⟩), .int .i64 i] w fun e w' => e = .returned (.tuple #[.agg (cellsOf (blockOf img i)), .int .i64 0]) ∧ Below w.heap.size w w' := by
  have h0 := h.c0
  have h1 := h.c1
  have hd := h.ltd
  have hL := h.ltL
  have hd1 : d < w.heap.size + 1 := by omega
  have hd2 : d < w.heap.size + 1 + 1 := by omega
  refine (callsIn_wide (n := 6)).1 ?_
  refine callsIn_of_wp_marks Tryz.func109 rfl trivial ?_
  simp only [Tryz.ntmps109, List.size_toArray, List.length_cons, List.length_nil, Nat.reduceAdd, Nat.reduceSub, Array.replicate_succ, Array.replicate_zero, List.push_toArray, List.append_toArray, List.nil_append, List.cons_append]
  refine wpIn_wide.2 ?_
  go_wp2_with (fail)
  refine (there_yes d L n i img _ _ (h.below (by repeat (first | exact Below.refl _ _ | (refine Below.alloc ?_ (by simp <;> omega) _)))) hi).mono ?_
  rintro e w1 ⟨rfl, rfl⟩
  go_wp2_with (fail)
  refine (back_none _).mono ?_
  rintro e w1 ⟨rfl, rfl⟩
  go_wp2_with (fail)
  refine wp_range_none rfl (enters_of Tryz.func133 (by kernel_rfl) rfl) ?_ ?_
  · intro l W hW
    exact back1_none l _ W ((hW.cell (p := ⟨w.heap.size + 1 + 1 + 1, 0, none⟩) (by simp)).trans (by rw [World.cell?_alloc_at _ _ _ _ (by simp)]; rfl))
  · intro D W hD hB hK
    have e0 : W.cell? ⟨d, 0, none⟩ = some (.slice (some ⟨L, 0, none⟩) n n) := (hB.cell (p := ⟨d, 0, none⟩) (by simp; omega)).trans (by simp [hd, hd1, hd2, go_sem, h0])
    have e3 : W.cell? ⟨w.heap.size, 0, none⟩ = some (.int .i64 i) := (hB.cell (p := ⟨w.heap.size, 0, none⟩) (by simp; omega)).trans (by simp [go_sem])
    have b4 : ∃ c, W.heap[w.heap.size + 1]? = some (.cells c 175 (0, 0)) ∧ c.size = 64 :=
      ⟨_, (hB.block (w.heap.size + 1) (by simp)).trans (by rw [hal_lt (by simp), hal_lt (by simp), hal_at (by simp)]), rfl⟩
    obtain ⟨c4, b4, z4⟩ := b4
    have e5 : W.cell? ⟨w.heap.size + 1 + 1, 0, none⟩ = some (.int .i64 0) := (hB.cell (p := ⟨w.heap.size + 1 + 1, 0, none⟩) (by simp)).trans (by simp [go_sem])
    have f5 : W.frozen? ⟨w.heap.size + 1 + 1, 0, none⟩ = false := (hB.frozen (p := ⟨w.heap.size + 1 + 1, 0, none⟩) (by simp)).trans (by simp [go_sem])
    have hsz : w.heap.size + 1 + 1 + 1 + 1 ≤ W.heap.size := by have := hB.size; simpa using this
    have hB0 : Below w.heap.size w W := (((((Below.refl _ w).alloc (Nat.le_refl _) _).alloc (by simp) _).alloc (by simp; omega) _).alloc (by simp; omega) _).trans (hB.mono (by simp; omega))
    have hdk := h.below hB0
    clear hB h
    simp only [World.size_alloc] at hD
    go_wp2
    have hlen : (blockOf img i).length = 64 := by have := hdk.len; simp [blockOf]; omega
    have hr : RowAt W.drew L (i * 64) 64 (cellsOf (blockOf img i)) := by
      have := (RowAt.of_block hdk.row (i * 64) 64 (by have := hdk.len; simp; omega)).drew
      rwa [← List.map_drop, ← List.map_take] at this
    have hld := load175 hr
    have ht : Room W.drew (w.heap.size + 1) 0 64 := there_of_block b4 0 64 (by omega)
    obtain ⟨W2, hW2⟩ : ∃ W2, W2 = W.drew.setCells (w.heap.size + 1) 0 ((blockOf img i).map bv) := ⟨_, rfl⟩
    have hst := store175 (l := blockOf img i) ht hlen
    rw [← hW2] at hst
    have g5 : W2.cell? ⟨w.heap.size + 1 + 1, 0, none⟩ = some (.int .i64 0) := by
      rw [hW2, World.cell?_setCells_out _ _ _ _ _ (by intro hb; simp at hb)]; exact e5
    have gf5 : W2.frozen? ⟨w.heap.size + 1 + 1, 0, none⟩ = false := by rw [hW2, World.frozen?_setCells]; exact f5
    have gB : Below w.heap.size w W2 := hB0.trans (hW2 ▸ below_setCells (Below.refl _ _).drew (by omega) _ _)
    have gK : W2.heap[D]? = some (.deferred (some [])) := by rw [hW2, heap_setCells_other _ _ _ _ _ (by omega)]; exact hK
    have gr : RowAt W2 (w.heap.size + 1) 0 64 (cellsOf (blockOf img i)) := by
      refine ⟨by simp [cellsOf, hlen], ?_⟩
      rw [hW2, cellsOf_list]
      exact World.rangeAt_setCells_same _ _ _ _ (by rw [List.length_map, hlen]; exact ht)
    have hi0 : (0 : Int) ≤ (i : Int) := Int.natCast_nonneg _
    have hi1 : (i : Int) < (n : Int) := by omega
    have HW2 := Lib.hid hW2
    have HK := Lib.hid gK
    have HD := Lib.hid hD
    clear hW2 hdk hB0 b4 ht hD hK gK
    go_region
    go_wp2
    have hK2 : (W2.setCell ⟨w.heap.size + 1 + 1, 0, none⟩ (.int .i64 0)).heap[D]? = some (.deferred (some [])) := by
      rw [Below.heap_setCell _ _ _ _ (by have := HD.out; simp; omega)]; exact HK.out
    refine postM_ret (v := .tuple #[.agg (cellsOf (blockOf img i)), .int .i64 0]) hK2 ?_ ⟨rfl, ?_⟩
    · refine results_cells2 rfl _ _ ⟨w.heap.size + 1, 0, none⟩ ⟨w.heap.size + 1 + 1, 0, none⟩ _ _ rfl rfl ?_ ?_
      · refine loadVar_row _ _ Tryz.underlying175 rfl Tryz.row175 ⟨gr.1, fun j v hv => ?_⟩
        have := HD.out
        refine (World.cell?_of_block (World.putObj_heap_other (by simp; omega))).trans ?_
        exact rangeAt_setCell gr.2 (by simp) _ j v hv
      · have := HD.out
        have hc : ((W2.setCell ⟨w.heap.size + 1 + 1, 0, none⟩ (.int .i64 0)).putObj D (.deferred none)).cell? ⟨w.heap.size + 1 + 1, 0, none⟩ = some (.int .i64 0) :=
          (World.cell?_of_block (World.putObj_heap_other (by simp; omega))).trans (World.cell?_setCell_same _ _ _ g5)
        simp [loadVar, go_sem, hc]
    · have := HD.out
      exact (gB.setCell (by simp; omega) _).trans ((Below.refl _ _).grown (grownBy_putObj' _ D _) (by have := gB.size; simp [World.setCell]; omega) (fun k e => by cases e; omega))
end Go.Proofs.YtchiikfdmogfpaaGreatDoor
