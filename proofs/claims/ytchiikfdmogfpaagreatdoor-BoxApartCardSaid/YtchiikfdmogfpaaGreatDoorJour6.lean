/- journal.newest: the generation behind all that a disk's blocks tell. -/
import Derived.Test.YtchiikfdmogfpaaGreatDoorJour5
import Derived.Deep.RegionLaw
namespace Go.Proofs.YtchiikfdmogfpaaGreatDoor
open Go.RowKit
def maxOp3 (t ty : TypeId) (x y z : Value) : Sem Next := do pure (.value (← Builtin.max_ #[t, t, t] ty #[x, y, z]))
theorem run_maxOp3 {P : Program} {k : IntKind} {t ty : TypeId} {a b c d : Int} (h : max (max a b) c = d) (w : World) : (maxOp3 t ty (.int k a) (.int k b) (.int k c)).run P w = .ok (.value (.int k d)) w := by
  subst h
  have e1 : (if b > a then b else a) = max a b := by simp only [Int.max_def]; split <;> split <;> omega
  have e2 : (if c > max a b then c else max a b) = max (max a b) c := by simp only [Int.max_def]; split <;> split <;> omega
  simp only [maxOp3, Builtin.max_, Builtin.max2, List.foldlM, e1]
  simp [e2]
section
variable (ρ : Operand → Value) (dst : Option Tmp) (x y z : Operand) (ty : TypeId) (pos : String) (after : Array Edge) (guard : Option (Nat × Bool))
theorem exec_max3 : execOp ρ { dst, op := .call { callee := .builtin .max, args := #[x, y, z], argTypes := #[114, 114, 114] }, type := ty, pos, after, guard } = maxOp3 114 ty (ρ x) (ρ y) (ρ z) := by simp [BigFrame.execOp_builtin, builtin, maxOp3]
end
attribute [local go_sem ↓] exec_load175 exec_store175 exec_alloc175
attribute [local go_sem ↓ high] exec_max3

theorem Rd.of_block {w : World} {b : Nat} {L : List Value} {t : TypeId} {fr : Nat × Nat} (h : w.heap[b]? = some (.cells L.toArray t fr)) (o n : Nat) : Rd w (some ⟨b, o, none⟩) ((L.drop o).take n) := fun _ =>
  ⟨b, o, rfl, (Array.getElem?_eq_some_iff.1 h).1, fun j u hu => rangeAt_of_list h o n j u hu⟩
def mostTo (img : Bytes) : Nat → Nat
  | 0 => 0
  | i + 1 => max (max (mostTo img i) (beVal ((blockOf img i).take 4))) (beVal (((blockOf img i).drop 54).take 4))
def newestOf (img : Bytes) (n : Nat) : Nat := if 4294967295 ≤ mostTo img n then 0 else mostTo img n + 1

set_option maxRecDepth 20000 in
set_option maxHeartbeats 1000000 in
theorem newest_any (d L n : Nat) (img : Bytes) (w : World) (h : DiskAt w d L n img (.slice none 0 0)) (hn : n ≤ 65536) :
    Calls Tryz.prog 84 #[.pointer (some ⟨d, 0, none⟩)] w fun e w' => e = .returned (.int .u64 (newestOf img n)) ∧ Below w.heap.size w w' := by
  go_enter Tryz.func84, Tryz.ntmps84
  go_wp2_with (fail)
  refine (size_any d L n img _ w h).mono ?_
  rintro e w1 ⟨rfl, rfl⟩
  go_wp2_with (fail)
  go_loopw [3, 9] (fun m i wr => ∃ k : Nat, k ≤ n ∧ i = .int .i64 k ∧ m = .int .u64 (mostTo img k) ∧ Below w.heap.size w wr) (fun _ i _ => n - (intOf i).toNat)
  case atStart => exact ⟨0, Nat.zero_le _, rfl, rfl, Below.refl _ _⟩
  case round =>
    obtain ⟨k, hk, rfl, rfl, hbr⟩ := hrel
    by_cases hlt : k < n
    · have hdr := h.below hbr
      have HR := Lib.hid (read_any d L n k img wr hdr hlt)
      go_wp2_with (fail)
      refine HR.out.mono ?_
      rintro e w1 ⟨rfl, hb1⟩
      have hlen : (blockOf img k).length = 64 := by have := h.len; simp [blockOf]; omega
      have hal := run_allocOp (P := Tryz.prog) (ty := 175) (z := .agg (cellsOf (noughts 64))) (w := w1) (by kernel_rfl)
      have hst := store175 (w := w1.alloc (.cells (cellsOf (noughts 64)) 175)) (b := w1.heap.size) (o := 0) (l := blockOf img k) (there_of_block (hal_at rfl) 0 64 (by rw [cellsOf_size, noughts_length]; exact Nat.le_refl _)) hlen
      obtain ⟨W2, hW2⟩ : ∃ W2, w1.alloc (.cells ((blockOf img k).map bv).toArray 175) = W2 := ⟨_, rfl⟩
      have hse : (w1.alloc (.cells (cellsOf (noughts 64)) 175)).setCells w1.heap.size 0 ((blockOf img k).map bv) = W2 := (alloc_setCells w1 ((noughts 64).map bv) _ _ (by rw [List.length_map, List.length_map, hlen]; rfl)).trans hW2
      rw [hse] at hst
      have hx2 : W2.heap[w1.heap.size]? = some (.cells ((blockOf img k).map bv).toArray 175 (0, 0)) := by rw [← hW2]; exact hal_at rfl
      have hb2 : Below w.heap.size w W2 := by rw [← hW2]; exact (hbr.trans (hb1.mono hbr.size)).alloc (by have := hbr.size; have := hb1.size; omega) _
      have hs2 : w1.heap.size < W2.heap.size := (Array.getElem?_eq_some_iff.1 hx2).1
      have hg1 : Calls Tryz.prog 110 #[.slice (some ⟨w1.heap.size, 0, none⟩) 4 64] W2.drew fun e w' => e = .returned (.int .u64 (beVal ((blockOf img k).take 4))) ∧ W2.drew = w' := by
        have := jget_any (some ⟨w1.heap.size, 0, none⟩) 64 ((blockOf img k).take 4) (by simp; omega) W2.drew (by
          rw [List.map_take]; exact (Rd.of_block (w := W2.drew) hx2 0 4))
        rwa [show ((blockOf img k).take 4).length = 4 from by simp [hlen]] at this
      have hg2 : Calls Tryz.prog 110 #[.slice (some ⟨w1.heap.size, 54, none⟩) 4 10] W2.drew fun e w' => e = .returned (.int .u64 (beVal (((blockOf img k).drop 54).take 4))) ∧ W2.drew = w' := by
        have := jget_any (some ⟨w1.heap.size, 54, none⟩) 10 (((blockOf img k).drop 54).take 4) (by simp; omega) W2.drew (by
          rw [List.map_take, List.map_drop]; exact (Rd.of_block (w := W2.drew) hx2 54 4))
        rwa [show (((blockOf img k).drop 54).take 4).length = 4 from by simp [hlen]] at this
      have hmx := fun w => run_maxOp3 (P := Tryz.prog) (k := .u64) (t := 114) (ty := 114) (a := mostTo img k) (b := beVal ((blockOf img k).take 4)) (c := beVal (((blockOf img k).drop 54).take 4)) (d := mostTo img (k + 1)) (by simp only [mostTo]; omega) w
      have HG1 := Lib.hid hg1
      have HG2 := Lib.hid hg2
      clear hg1 hg2 hx2 hW2 hse
      go_wp2_with (fail)
      go_region_law (first
        | (go_simp; go_at_call 110; refine Calls.mono (by with_reducible exact HG1.out) ?_; rintro e w3 ⟨rfl, rfl⟩)
        | (go_simp; go_at_call 110; refine Calls.mono (by with_reducible exact HG2.out) ?_; rintro e w3 ⟨rfl, rfl⟩))
      all_goals
        go_wp2_with (fail)
        refine ⟨⟨k + 1, hlt, by simp, rfl, hb2.drew⟩, ?_⟩
        simp [intOf]
        omega
    · obtain rfl : k = n := by omega
      have HM : Hid (newestOf img k = if 4294967295 ≤ mostTo img k then 0 else mostTo img k + 1) := Lib.hid rfl
      by_cases hm : 4294967295 ≤ mostTo img k
      · have e1 : decide ((4294967295 : Int) ≤ (mostTo img k : Int)) = true := by simp; omega
        have e2 := HM.out
        rw [if_pos hm] at e2
        clear hm HM
        go_wp2_with (fail)
        go_ret
        exact ⟨by rw [e2]; rfl, hbr⟩
      · have e1 : decide ((4294967295 : Int) ≤ (mostTo img k : Int)) = false := by simp; omega
        have ew : IntKind.u64.wrap ((mostTo img k : Int) + 1) = (mostTo img k : Int) + 1 := wraps_u64 _ (by omega) (by omega)
        have e2 := HM.out
        rw [if_neg hm] at e2
        clear hm HM
        go_wp2_with (fail)
        go_ret
        exact ⟨by rw [e2]; rfl, hbr⟩
end Go.Proofs.YtchiikfdmogfpaaGreatDoor
