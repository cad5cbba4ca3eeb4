/- disk: New, Size, there, Read, Write, Crash, Sync. -/
import Derived.Test.YtchiikfdmogfpaaGreatDoorRows
import Derived.Test.YtchiikfdmogfpaaGreatDoorBase
namespace Go.Proofs.YtchiikfdmogfpaaGreatDoor
open Go.RowKit

/-- A disk: its struct in block d, its blocks' bytes one behind the other in block L; what waits is pv. -/
structure DiskAt (w : World) (d L n : Nat) (img : Bytes) (pv : Value) : Prop where
  hd : w.heap[d]? = some (.cells #[.slice (some ⟨L, 0, none⟩) n n, pv] 86 (0, 0))
  row : w.heap[L]? = some (.cells (img.map bv).toArray 175 (0, 0))
  len : img.length = n * 64
theorem DiskAt.c0 {w : World} {d L n : Nat} {img : Bytes} {pv : Value} (h : DiskAt w d L n img pv) : w.cell? ⟨d, 0, none⟩ = some (.slice (some ⟨L, 0, none⟩) n n) := by
  rw [cell_of_row w d 0 _ _ _ h.hd]; rfl
theorem DiskAt.c1 {w : World} {d L n : Nat} {img : Bytes} {pv : Value} (h : DiskAt w d L n img pv) : w.cell? ⟨d, 1, none⟩ = some pv := by
  rw [cell_of_row w d 1 _ _ _ h.hd]; rfl
theorem DiskAt.ltd {w : World} {d L n : Nat} {img : Bytes} {pv : Value} (h : DiskAt w d L n img pv) : d < w.heap.size := (Array.getElem?_eq_some_iff.1 h.hd).1
theorem DiskAt.ltL {w : World} {d L n : Nat} {img : Bytes} {pv : Value} (h : DiskAt w d L n img pv) : L < w.heap.size := (Array.getElem?_eq_some_iff.1 h.row).1
theorem DiskAt.frm {F : Nat → Prop} {w w' : World} {d L n : Nat} {img : Bytes} {pv : Value} (h : DiskAt w d L n img pv) (hf : Frm F w w') (h1 : ¬ F d) (h2 : ¬ F L) : DiskAt w' d L n img pv :=
  ⟨(hf.block d h.ltd h1).trans h.hd, (hf.block L h.ltL h2).trans h.row, h.len⟩
theorem DiskAt.below {w w' : World} {d L n : Nat} {img : Bytes} {pv : Value} (h : DiskAt w d L n img pv) (hb : Below w.heap.size w w') : DiskAt w' d L n img pv :=
  h.frm (F := NoB) (Frm.of_below hb) id id
theorem DiskAt.f {w : World} {d L n : Nat} {img : Bytes} {pv : Value} (h : DiskAt w d L n img pv) (j : Nat) : w.frozen? ⟨d, j, none⟩ = false := frozen_of_row w d j _ _ h.hd

theorem Tryz.row175 : (Tryz.prog.info? 175).map (·.size) = some 64 := by kernel_rfl
theorem Tryz.row180 : (Tryz.prog.info? 180).map (·.size) = some 65 := by kernel_rfl
section
variable (ρ : Operand → Value) (dst : Option Tmp) (x y : Operand) (ty : TypeId) (pos : String) (after : Array Edge) (guard : Option (Nat × Bool))
theorem exec_load175 : execOp ρ { dst, op := .load 175 x, type := ty, pos, after, guard } = loadOp 175 (ρ x) := rfl
theorem exec_store175 : execOp ρ { dst, op := .store 175 x y, type := ty, pos, after, guard } = storeOp 175 (ρ x) (ρ y) := rfl
theorem exec_load180 : execOp ρ { dst, op := .load 180 x, type := ty, pos, after, guard } = loadOp 180 (ρ x) := rfl
theorem exec_store180 : execOp ρ { dst, op := .store 180 x y, type := ty, pos, after, guard } = storeOp 180 (ρ x) (ρ y) := rfl
end
/-- A block is loaded and stored whole. -/
theorem load175 {w : World} {b o : Nat} {cs : Array Value} (h : RowAt w b o 64 cs) : (loadOp 175 (.pointer (some ⟨b, o, none⟩))).run Tryz.prog w = .ok (.value (.agg cs)) w :=
  run_loadOp (load_row _ _ Tryz.underlying175 rfl Tryz.row175 h)
theorem store175 {w : World} {b o : Nat} {l : Bytes} (h : Room w b o 64) (hl : l.length = 64) : (storeOp 175 (.pointer (some ⟨b, o, none⟩)) (.agg (cellsOf l))).run Tryz.prog w = .ok .skip (w.setCells b o (l.map bv)) := by
  refine run_storeOp ?_
  rw [store_row _ Tryz.row175 (by simp [cellsOf, hl]) (cellsOf_one l) h, cellsOf_list]

set_option maxRecDepth 20000 in
set_option maxHeartbeats 400000 in
theorem size_any (d L n : Nat) (img : Bytes) (pv : Value) (w : World) (h : DiskAt w d L n img pv) :
    Calls Tryz.prog 69 #[.pointer (some ⟨d, 0, none⟩)] w fun e w' => e = .returned (.int .i64 n) ∧ w = w' := by
  have h0 := h.c0
  clear h
  go_enter Tryz.func69, Tryz.ntmps69
  go_wp2
  go_ret
  exact ⟨rfl, rfl⟩

def inB (i : Int) (n : Nat) : Bool := decide (0 ≤ i) && decide (i < n)
set_option maxRecDepth 20000 in
set_option maxHeartbeats 400000 in
theorem there_yes (d L n i : Nat) (img : Bytes) (pv : Value) (w : World) (h : DiskAt w d L n img pv) (hi : i < n) :
    Calls Tryz.prog 126 #[.pointer (some ⟨d, 0, none⟩), .int .i64 i] w fun e w' => e = .returned (.bool true) ∧ w = w' := by
  have h0 := h.c0
  clear h
  go_enter Tryz.func126, Tryz.ntmps126
  go_wp2
  go_ret
  exact ⟨rfl, rfl⟩

theorem Tryz.under83 : Tryz.prog.underlying 83 = some (.slice 175) := by kernel_rfl
theorem Tryz.info175 : (Tryz.prog.info? 175).map (fun i => (i.zero, i.size, i.bytes)) = some (some (.agg (Array.replicate 64 (.int .u8 0))), 64, 64) := by kernel_rfl
set_option maxRecDepth 20000 in
set_option maxHeartbeats 400000 in
theorem new_any (n : Nat) (h1 : 1 ≤ n) (h2 : n ≤ 65536) (w : World) :
    Calls Tryz.prog 24 #[.int .i64 n] w fun e w' => ∃ d L, e = .returned (.tuple #[.pointer (some ⟨d, 0, none⟩), .int .i64 0]) ∧
      w.heap.size ≤ d ∧ w.heap.size ≤ L ∧ DiskAt w' d L n (noughts (n * 64)) (.slice none 0 0) ∧ Below w.heap.size w w' := by
  obtain ⟨i0, hi, hz0, hz1, hz2⟩ := info_parts Tryz.info175
  have hmk : ∀ w : World, (Instr.makeSlice 83 (.int .i64 n) (.int .i64 n)).run Tryz.prog w = .ok (.slice (some ⟨w.heap.size, 0, none⟩) n n) (w.alloc (.cells (cellsOf (noughts (n * 64))) 175)) := fun w => by
    rw [run_make w _ _ i0 _ Tryz.under83 hi hz0 .i64 .i64 n n (by omega) (Int.le_refl _) (by rw [hz2]; omega) (by omega)]
    simp only [Int.toNat_natCast, hz1, Value.cells]
    rw [made_noughts 64 _ (by omega)]
  clear hi hz0 hz1 hz2
  go_enter Tryz.func24, Tryz.ntmps24
  go_wp2
  go_ret2
  refine ⟨w.heap.size + 1, w.heap.size, rfl, by omega, by omega, ⟨heap_alloc2_new _ _ _, heap_alloc2_old _ _ _, by simp [noughts_length]⟩, ?_⟩
  exact ((Below.refl _ w).alloc (Nat.le_refl _) _).alloc (by simp) _
end Go.Proofs.YtchiikfdmogfpaaGreatDoor
