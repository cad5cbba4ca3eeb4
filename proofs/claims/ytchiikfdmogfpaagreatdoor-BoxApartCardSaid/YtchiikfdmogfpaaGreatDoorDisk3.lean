/- disk.Write. -/
import Derived.Test.YtchiikfdmogfpaaGreatDoorDisk2
import Derived.Deep.RegionLaw
import Derived.RangeFuncBox
namespace Go.Proofs.YtchiikfdmogfpaaGreatDoor
open Go.RowKit
section
variable (ρ : Operand → Value) (dst : Option Tmp) (x y : Operand) (ty : TypeId) (pos : String) (after : Array Edge) (guard : Option (Nat × Bool))
theorem exec_build180 : execOp ρ { dst, op := .build 180 #[(0, x), (1, y)], type := ty, pos, after, guard } = buildOp 180 #[(0, ρ x), (1, ρ y)] := by simp [execOp, buildOp]
theorem exec_build84 : execOp ρ { dst, op := .buildSlice 84 1 #[(0, x)], type := ty, pos, after, guard } = buildSliceOp 84 1 #[(0, ρ x)] := by simp [execOp, buildSliceOp]
theorem exec_append84 : execOp ρ { dst, op := .call { callee := .builtin .append, args := #[x, y], argTypes := #[84, 84] }, type := ty, pos, after, guard } = appendOp 84 ty (ρ x) (ρ y) := by simp [BigFrame.execOp_builtin, BigFrame.builtin_append, appendOp]
end
attribute [local go_sem ↓] exec_load175 exec_store175 exec_build180 exec_build84
attribute [local go_sem ↓ high] exec_append84

/-- What waits: a block's number and its bytes. -/
def wcells (p : Nat × Bytes) : List Value := .int .i64 p.1 :: p.2.map bv

def zero180 : List Value := .int .i64 0 :: List.replicate 64 (.int .u8 0)
theorem zero180_run (w : World) : (zeroValue 180).run Tryz.prog w = .ok (.agg zero180.toArray) w := by kernel_rfl
theorem run_build180 (i : Nat) (bs : Bytes) (hl : bs.length = 64) (w : World) : (Instr.build 180 #[(0, .int .i64 i), (1, .agg (cellsOf bs))]).run Tryz.prog w = .ok (.agg (wcells (i, bs)).toArray) w := by
  refine run_build_struct (places := #[(0, 1), (1, 64)]) _ _ Tryz.underlying180 (zero180_run w) (by kernel_rfl) ?_
  rw [fill_cons (cs := [.int .i64 i]) rfl rfl rfl (by simp [zero180]), fill_cons (cs := bs.map bv) rfl rfl (by simp [hl]) (by simp [zero180, splice])]
  simp only [Instr.fill]
  congr 2
  simp [splice, zero180, wcells, hl]
theorem wcells_length (i : Nat) (bs : Bytes) (hl : bs.length = 64) : (wcells (i, bs)).length = 65 := by simp [wcells, hl]
theorem wcells_one (i : Nat) (bs : Bytes) : ∀ u ∈ wcells (i, bs), u.oneCell' = true := by
  intro u hu
  rcases List.mem_cons.1 hu with rfl | h
  · rfl
  · exact bvs_one _ _ h
theorem run_build84 (i : Nat) (bs : Bytes) (hl : bs.length = 64) (w : World) : (Instr.buildSlice 84 1 #[(0, .agg (wcells (i, bs)).toArray)]).run Tryz.prog w =
    .ok (.slice (some ⟨w.heap.size, 0, none⟩) 1 1) (w.alloc (.cells (wcells (i, bs)).toArray 180)) := by
  refine run_buildSlice (size := 65) _ _ Tryz.under84 (by kernel_rfl) (zero180_run w) (by decide) (by decide) ?_
  rw [show (Array.range (1 * 65)).map ((Value.agg zero180.toArray).cells[· % (Value.agg zero180.toArray).cells.size]!) = zero180.toArray from by kernel_rfl]
  rw [fill_cons (cs := wcells (i, bs)) rfl rfl (wcells_length i bs hl) (by simp [zero180]), splice_whole _ _ (by simp [zero180, wcells_length i bs hl])]
  rfl

theorem Tryz.info180 : (Tryz.prog.info? 180).map (fun i => (i.zero, i.size, i.bytes)) = some (some (.agg zero180.toArray), 65, 72) := by kernel_rfl

set_option maxRecDepth 20000 in
set_option maxHeartbeats 400000 in
theorem write_any (d L n i : Nat) (img bs : Bytes) (pv : Value) (base k : Nat) (xs : List Value) (w : World) (h : DiskAt w d L n img pv) (hi : i < n) (hl : bs.length = 64) (hk : k ≤ 1000000)
    (hb : base ≤ w.heap.size) (ho : w.ownsRow base 180 65 pv k xs) :
    Calls Tryz.prog 107 #[.pointer (some ⟨d, 0, none⟩), .int .i64 i, .agg (cellsOf bs)] w fun e w' => e = .returned (.int .i64 0) ∧ ∃ pv', DiskAt w' d L n img pv' ∧
      w'.ownsRow base 180 65 pv' (k + 1) (xs ++ wcells (i, bs)) ∧ Frm (fun b => b = d ∨ pv.ownBlock = some b) w w' ∧ (pv'.ownBlock = pv.ownBlock ∨ ∀ b, pv'.ownBlock = some b → w.heap.size ≤ b) := by
  have h0 := h.c0
  have h1 := h.c1
  have hd := h.ltd
  have hd1 : d < w.heap.size + 1 := by omega
  have hd2 : d < w.heap.size + 1 + 1 := by omega
  go_enter Tryz.func107, Tryz.ntmps107
  go_wp2_with (fail)
  refine (there_yes d L n i img _ _ (h.below ((Below.refl _ _).alloc (Nat.le_refl _) _)) hi).mono ?_
  rintro e w1 ⟨rfl, hw1⟩
  subst hw1
  go_wp2_with (fail)
  obtain ⟨i0, hi0, hz0, hz1, hz2⟩ := info_parts Tryz.info180
  have hl1 := load175 (w := (w.alloc (.cells (cellsOf bs) 175)).drew) (b := w.heap.size) (o := 0) (cs := cellsOf bs) (RowAt.new w _ _ (by simp [cellsOf, hl]) rfl).drew
  have hbd := fun w => run_buildOp (run_build180 i bs hl w)
  have hbs := fun w => run_buildSliceOp (run_build84 i bs hl w)
  obtain ⟨W1, hW1⟩ : ∃ W1, W1 = ((w.alloc (.cells (cellsOf bs) 175)).alloc (.cells (wcells (i, bs)).toArray 180)).drew := ⟨_, rfl⟩
  obtain ⟨pv', W2, hap, hown, hgr, _, hloc⟩ := run_append_own_at (P := Tryz.prog) W1 base 84 84 180 i0 (.agg zero180.toArray) 65 72 Tryz.under84 hi0 hz0 hz1 hz2 rfl (by decide) pv k xs (by rw [hW1]; exact ((ho.alloc _).alloc _).drew) ⟨w.heap.size + 1, 0, none⟩ 1 1 (wcells (i, bs)) (by rw [wcells_length i bs hl]) (by rw [hW1]; exact (RowAt.new _ _ _ (by simpa using wcells_length i bs hl) (by simp)).drew.src) (wcells_one i bs) (by unfold maxLen; omega) (by omega) (by rw [hW1]; simp; omega)
  have hap2 := run_appendOp hap
  rw [hW1] at hap2
  obtain ⟨g', cap', rfl⟩ := ownsRow_succ hown
  clear hap hi0 hz0 hz1 hz2
  have s2 := hgr.size
  have hne : pv.ownBlock ≠ some d := owns_ne ho h.hd (by decide)
  have hneL : pv.ownBlock ≠ some L := owns_ne ho h.row (by decide)
  have hk0 : ∀ b, b < w.heap.size → W1.heap[b]? = w.heap[b]? := fun b hb => by rw [hW1]; exact (hal_lt (by simp; omega)).trans (hal_lt hb)
  have hk2 : ∀ b, b < w.heap.size → pv.ownBlock ≠ some b → W2.heap[b]? = w.heap[b]? := fun b hb hn => (hgr.block b (by rw [hW1]; simp; omega) (fun e => hn e.symm)).trans (hk0 b hb)
  have c2 : W2.cell? ⟨d, 1, none⟩ = some pv := (World.cell?_of_block (w := w) (hk2 d hd hne)).trans h1
  have f2 : W2.frozen? ⟨d, 1, none⟩ = false := (World.frozen?_of_block (w := w) (hk2 d hd hne)).trans (h.f 1)
  have hdk : DiskAt (W2.setCell ⟨d, 1, none⟩ (.slice (some ⟨g', 0, none⟩) (k + 1) cap')) d L n img (.slice (some ⟨g', 0, none⟩) (k + 1) cap') := by
    have hLd : L ≠ d := fun e => by have h1 := h.row; rw [e, h.hd] at h1; simp at h1
    refine ⟨?_, ?_, h.len⟩
    · rw [heap_setCell_same _ d 1 _ _ _ ((hk2 d hd hne).trans h.hd)]; rfl
    · rw [Below.heap_setCell _ _ _ _ hLd]; exact (hk2 L h.ltL hneL).trans h.row
  have hown2 : (W2.setCell ⟨d, 1, none⟩ (.slice (some ⟨g', 0, none⟩) (k + 1) cap')).ownsRow base 180 65 (.slice (some ⟨g', 0, none⟩) (k + 1) cap') (k + 1) (xs ++ wcells (i, bs)) := by
    have hgd := owns_ne hown (((hk2 d hd hne).trans h.hd)) (by decide)
    exact ownsRow_setCell_other hown (by simpa [Value.ownBlock] using hgd) _
  have hfr : Frm (fun b => b = d ∨ pv.ownBlock = some b) w (W2.setCell ⟨d, 1, none⟩ (.slice (some ⟨g', 0, none⟩) (k + 1) cap')) := by
    refine Frm.setCell ⟨hgr.os.trans ?_, hgr.tape.trans ?_, hgr.output.trans ?_, ?_, fun b hb hn => hk2 b hb (fun e => hn (.inr e))⟩ (fun _ => .inl rfl) _
    · rw [hW1]; rfl
    · rw [hW1]; rfl
    · rw [hW1]; rfl
    · rw [hW1] at s2; simp at s2; omega
  have hlo : (Value.slice (some ⟨g', 0, none⟩) (k + 1) cap').ownBlock = pv.ownBlock ∨ ∀ b, (Value.slice (some ⟨g', 0, none⟩) (k + 1) cap').ownBlock = some b → w.heap.size ≤ b := by
    rcases hloc with e | e
    · exact .inl e
    · exact .inr fun b hb => by rw [hb, hW1] at e; simp at e; omega
  have H := Lib.hid (And.intro hdk (And.intro hown2 (And.intro hfr hlo)))
  clear hW1 hdk hown2 hfr hlo hk0 hk2 hne hneL hown hgr hloc ho h s2
  go_region
  go_wp2
  go_ret
  exact ⟨rfl, _, H.out.1, H.out.2.1, H.out.2.2.1, H.out.2.2.2⟩
end Go.Proofs.YtchiikfdmogfpaaGreatDoor
