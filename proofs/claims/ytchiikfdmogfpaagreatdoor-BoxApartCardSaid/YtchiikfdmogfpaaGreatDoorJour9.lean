/- journal.half.record and read on a disk of noughts: there is none. -/
import Derived.Test.YtchiikfdmogfpaaGreatDoorJour8
import Derived.Test.YtchiikfdmogfpaaGreatDoorShelf
namespace Go.Proofs.YtchiikfdmogfpaaGreatDoor
open Go.RowKit
attribute [local go_sem ↓] exec_load175 exec_store175 exec_alloc175

/-- A half of a disk, of no generation yet. -/
def HAt (w : World) (h fr sz : Nat) : Prop := w.heap[h]? = some (.cells #[.int .i64 fr, .int .i64 sz, .int .u64 0, .slice none 0 0, .int .i64 0] 116 (0, 0))

theorem blockOf_zero (n i : Nat) (h : i < n) : blockOf (noughts (n * 64)) i = noughts 64 := by
  unfold blockOf noughts
  rw [List.drop_replicate, List.take_replicate]
  congr 1
  omega

theorem results_tmp4 {fn : Func} {t u v x : Tmp} (h : fn.results = #[.tmp t, .tmp u, .tmp v, .tmp x]) (tmps : Array Value) (P : Program) (w : World) :
    (results fn tmps).run P w = .ok (.tuple #[tmps.getD t undef, tmps.getD u undef, tmps.getD v undef, tmps.getD x undef]) w := by
  simp [results, h]
theorem bytesOf_nats (l : Bytes) : Lib.bytesOf (l.map fun b => (b.toNat : Int)) = l := by
  unfold Lib.bytesOf
  rw [List.map_map]
  conv => rhs; rw [← List.map_id l]
  apply List.map_congr_left
  intro b _
  simp
theorem Rd.bytesIn {w : World} {A : Option Addr} {l : Bytes} (h : Rd w A (l.map bv)) : Lib.BytesIn w A l.length (l.map fun b => (b.toNat : Int)) := fun hn => by
  obtain ⟨b, o, e, _, hc⟩ := h (by intro e; simp at e; rw [e] at hn; simp at hn)
  exact ⟨b, o, e, fun i hi => by rw [hc i (bv l[i]) (by simp [hi])]; simp [List.getD, hi, bv]⟩
theorem equal_any (A B : Option Addr) (l m : Bytes) (c d : Nat) (w : World) (h1 : Rd w A (l.map bv)) (h2 : Rd w B (m.map bv)) :
    Calls Tryz.prog 117 #[.slice A l.length c, .slice B m.length d] w fun e w' => e = .returned (.bool (l == m)) ∧ w' = w := by
  have := Tryz.bytes_Equal_all A B l.length c m.length d _ _ w (List.length_map _) (List.length_map _) h1.bytesIn h2.bytesIn
  rwa [bytesOf_nats, bytesOf_nats] at this
theorem beVal_noughts (k : Nat) : beVal (noughts k) = 0 := by
  induction k with
  | zero => rfl
  | succ m ih => rw [show noughts (m + 1) = noughts m ++ [0] from by simp [noughts, List.replicate_succ'], beVal_snoc, ih]; rfl
set_option maxRecDepth 20000 in
set_option maxHeartbeats 1000000 in
theorem record_zero (d L n h fr sz : Nat) (w : World) (hd : DiskAt w d L n (noughts (n * 64)) (.slice none 0 0)) (hh : HAt w h fr sz) (hf : fr < n) (hn : n ≤ 65536) (hs : 1 ≤ sz) (hs2 : sz ≤ 65536) :
    Calls Tryz.prog 90 #[.pointer (some ⟨h, 0, none⟩), .pointer (some ⟨d, 0, none⟩), .int .u64 0, .int .i64 0, .int .i64 0] w fun e w' => e = .returned (.tuple #[.slice none 0 0, .int .u64 0, .int .i64 0, .bool false]) ∧ Below w.heap.size w w' := by
  have c0 : w.cell? ⟨h, 0, none⟩ = some (.int .i64 fr) := cell_of_row w h 0 _ _ _ hh
  have c1 : w.cell? ⟨h, 1, none⟩ = some (.int .i64 sz) := cell_of_row w h 1 _ _ _ hh
  have HR := Lib.hid (read_any d L n fr _ w hd hf)
  rw [blockOf_zero n fr hf] at HR
  have h0 : (0 : Int) < (sz : Int) := by omega
  go_enter Tryz.func90, Tryz.ntmps90
  go_wp2_with (fail)
  refine wp_loop_rounds 1 ?_
  rw [rounds_succ]
  go_wp2_with (fail)
  refine HR.out.mono ?_
  rintro e w1 ⟨rfl, hb1⟩
  have hal := run_allocOp (P := Tryz.prog) (ty := 175) (z := .agg (cellsOf (noughts 64))) (w := w1) (by kernel_rfl)
  have hst := store175 (w := w1.alloc (.cells (cellsOf (noughts 64)) 175)) (b := w1.heap.size) (o := 0) (l := noughts 64) (there_of_block (hal_at rfl) 0 64 (by rw [cellsOf_size, noughts_length]; exact Nat.le_refl _)) (noughts_length 64)
  obtain ⟨W2, hW2⟩ : ∃ W2, w1.alloc (.cells ((noughts 64).map bv).toArray 175) = W2 := ⟨_, rfl⟩
  have hse : (w1.alloc (.cells (cellsOf (noughts 64)) 175)).setCells w1.heap.size 0 ((noughts 64).map bv) = W2 := (alloc_setCells w1 ((noughts 64).map bv) _ _ rfl).trans hW2
  rw [hse] at hst
  obtain ⟨X, hX⟩ : ∃ X, w1.heap.size = X := ⟨_, rfl⟩
  have hx2 : W2.heap[X]? = some (.cells ((noughts 64).map bv).toArray 175 (0, 0)) := by rw [← hW2]; exact hal_at hX.symm
  have hb2 : Below w.heap.size w W2 := by rw [← hW2]; exact hb1.alloc hb1.size _
  have hs2 : X < W2.heap.size := (Array.getElem?_eq_some_iff.1 hx2).1
  rw [hX] at hst hal
  have hg : ∀ (o k c : Nat) (W : World), o + k ≤ 64 → k ≤ 7 → Below W2.heap.size W2 W → Calls Tryz.prog 110 #[.slice (some ⟨X, o, none⟩) k c] W fun e w' => e = .returned (.int .u64 0) ∧ W = w' := fun o k c W h1 h2 hB => by
    have := jget_any (some ⟨X, o, none⟩) c (noughts k) (by rw [noughts_length]; exact h2) W (by
      have h9 := Rd.of_block (w := W) ((hB.block X hs2).trans hx2) o k
      rw [← List.map_drop, ← List.map_take] at h9
      rwa [show ((noughts 64).drop o).take k = noughts k from by unfold noughts; rw [List.drop_replicate, List.take_replicate]; congr 1; omega] at h9)
    rw [noughts_length, beVal_noughts] at this
    exact this
  have HG := Lib.hid hg
  have HX2 := Lib.hid hx2
  have HG1 := Lib.hid (hg 0 4 64 W2.drew (by decide) (by decide) (Below.refl _ _).drew)
  have HG2 := Lib.hid (hg 4 4 60 W2.drew (by decide) (by decide) (Below.refl _ _).drew)
  have HG3 := Lib.hid (hg 8 2 56 W2.drew (by decide) (by decide) (Below.refl _ _).drew)
  have HG4 := Lib.hid (hg 0 4 64 (W2.alloc (.cells #[.int .u64 0, .int .u64 0, .int .u64 0] 173)).drew (by decide) (by decide) ((Below.refl _ _).alloc (Nat.le_refl _) _).drew)
  have HG5 := Lib.hid (hg 4 4 60 (W2.alloc (.cells #[.int .u64 0, .int .u64 0, .int .u64 0] 173)).drew (by decide) (by decide) ((Below.refl _ _).alloc (Nat.le_refl _) _).drew)
  have HG6 := Lib.hid (hg 8 2 56 (W2.alloc (.cells #[.int .u64 0, .int .u64 0, .int .u64 0] 173)).drew (by decide) (by decide) ((Below.refl _ _).alloc (Nat.le_refl _) _).drew)
  clear hg hx2 hW2 hse
  go_wp2_with (fail)
  go_region_law (first
    | (go_simp; go_at_call 110; refine Calls.mono (by with_reducible exact HG1.out) ?_; rintro e w3 ⟨rfl, rfl⟩)
    | (go_simp; go_at_call 110; refine Calls.mono (by with_reducible exact HG2.out) ?_; rintro e w3 ⟨rfl, rfl⟩)
    | (go_simp; go_at_call 110; refine Calls.mono (by with_reducible exact HG3.out) ?_; rintro e w3 ⟨rfl, rfl⟩)
    | (go_simp; go_at_call 110; refine Calls.mono (by with_reducible exact HG4.out) ?_; rintro e w3 ⟨rfl, rfl⟩)
    | (go_simp; go_at_call 110; refine Calls.mono (by with_reducible exact HG5.out) ?_; rintro e w3 ⟨rfl, rfl⟩)
    | (go_simp; go_at_call 110; refine Calls.mono (by with_reducible exact HG6.out) ?_; rintro e w3 ⟨rfl, rfl⟩))
  all_goals
    obtain ⟨W3, hW3⟩ : ∃ W3, (W2.alloc (.cells #[.int .u64 0, .int .u64 0, .int .u64 0] 173)).drew = W3 := ⟨_, rfl⟩
    have hb3 : Below W2.heap.size W2 W3 := by rw [← hW3]; exact ((Below.refl _ _).alloc (Nat.le_refl _) _).drew
    have hm3 : W3.heap[W2.heap.size]? = some (.cells #[.int .u64 0, .int .u64 0, .int .u64 0] 173 (0, 0)) := by rw [← hW3]; exact hal_at rfl
    have m0 := (cells3 hm3).2.1
    have m1 := (cells3 hm3).2.2.1
    have m2 := (cells3 hm3).2.2.2
    have HG7 := Lib.hid (HG.out 10 2 54 W3 (by decide) (by decide) hb3)
    have HE := Lib.hid (fun q => equal_any (some ⟨X, 0, none⟩) (some ⟨X, 54, none⟩) (noughts 10) (noughts 10) 64 10 (W3.drewN q) (by
      have h9 := Rd.of_block (w := W3.drewN q) ((hb3.block X hs2).trans HX2.out) 0 10
      rwa [← List.map_drop, ← List.map_take] at h9) (by
      have h9 := Rd.of_block (w := W3.drewN q) ((hb3.block X hs2).trans HX2.out) 54 10
      rwa [← List.map_drop, ← List.map_take] at h9))
    rw [hW3]
    clear hm3 hW3
    go_wp2_with (fail)
    refine Calls.mono (by with_reducible exact HG7.out) ?_
    rintro e w3 ⟨rfl, rfl⟩
    go_wp2_with (fail)
    go_quiet ((go_at_call 117; exact Calls.quiet_of_same (HE.out _)))
    go_wp2
    (try simp only [Exit.inBlock, Exit.then])
    refine bodyPost_ret (results_tmp4 rfl _ _ _) rfl ?_
    exact ⟨rfl, (hb2.trans (hb3.mono hb2.size)).trans ⟨rfl, rfl, rfl, Nat.le_refl _, fun _ _ => rfl⟩⟩

set_option maxRecDepth 20000 in
set_option maxHeartbeats 1000000 in
theorem read_zero (d L n h fr sz : Nat) (w : World) (hd : DiskAt w d L n (noughts (n * 64)) (.slice none 0 0)) (hh : HAt w h fr sz) (hf : fr < n) (hn : n ≤ 65536) (hs : 1 ≤ sz) (hs2 : sz ≤ 65536) :
    Calls Tryz.prog 70 #[.pointer (some ⟨h, 0, none⟩), .pointer (some ⟨d, 0, none⟩)] w fun e w' => e = .returned (.tuple #[]) ∧ Below w.heap.size w w' := by
  have HR := Lib.hid (record_zero d L n h fr sz w hd hh hf hn hs hs2)
  go_enter Tryz.func70, Tryz.ntmps70
  go_wp2_with (fail)
  refine HR.out.mono ?_
  rintro e w1 ⟨rfl, hb1⟩
  go_wp2_with (fail)
  refine wp_loop_rounds 1 ?_
  rw [rounds_succ]
  go_wp2_with (fail)
  go_end0
  exact ⟨rfl, hb1⟩
end Go.Proofs.YtchiikfdmogfpaaGreatDoor
