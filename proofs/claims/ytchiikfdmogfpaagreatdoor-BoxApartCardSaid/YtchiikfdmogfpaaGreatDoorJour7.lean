/- journal.turn, of one record. -/
import Derived.Test.YtchiikfdmogfpaaGreatDoorJour6
namespace Go.Proofs.YtchiikfdmogfpaaGreatDoor
open Go.RowKit

set_option maxRecDepth 20000 in
set_option maxHeartbeats 1000000 in
theorem turn_yes (j d L n fr sz gen at_ lb : Nat) (rv : Value) (img b : Bytes) (A : Option Addr) (cap : Nat) (w : World)
    (hj : JAt w j d fr sz gen rv at_) (h : DiskAt w d L n img (.slice none 0 0)) (hn : n ≤ 65536) (hfr : fr ≤ sz) (hf : sz - fr + sz ≤ n) (hs : sz ≤ 32768)
    (hl : w.cell? ⟨lb, 0, none⟩ = some (.slice A b.length cap)) (hbl : b.length ≤ 4000000000) (hbc : b.length ≤ cap) (hrd : Rd w A (b.map bv)) (hA : ∀ a, A = some a → a.block ≠ d)
    (hfit : blocksOf b.length ≤ sz) (hg : newestOf img n ≠ 0) :
    Calls Tryz.prog 62 #[.pointer (some ⟨j, 0, none⟩), .slice (some ⟨lb, 0, none⟩) 1 1] w fun e w' => ∃ j' rv' v pv', e = .returned (.tuple #[.pointer (some ⟨j', 0, none⟩), .int .i64 0]) ∧ w.heap.size ≤ j' ∧
      JAt w' j' d (sz - fr) sz (newestOf img n) rv' (blocksOf b.length) ∧ DiskAt w' d L n img pv' ∧ w'.ownsRow w.heap.size 180 65 pv' (blocksOf b.length) (flat (writesOf (newestOf img n) 0 (sz - fr) b (blocksOf b.length) (blocksOf b.length))) ∧
      w'.ownsRow w.heap.size 24 1 rv' 1 [v] ∧ w'.ownsRow w.heap.size 5 1 v b.length (b.map bv) ∧ Frm (fun b => b = d) w w' := by
  obtain ⟨N, hN⟩ : ∃ N, blocksOf b.length = N := ⟨_, rfl⟩
  obtain ⟨G, hG⟩ : ∃ G, newestOf img n = G := ⟨_, rfl⟩
  have HB := Lib.hid (fun w => blocks_any b.length (by omega) w)
  have HNW := Lib.hid (fun w h => newest_any d L n img w h hn)
  rw [hN] at hfit HB ⊢
  rw [hG] at hg HNW ⊢
  have c0 := hj.c0
  have c1 := hj.c1
  have c2 := hj.c2
  go_enter Tryz.func62, Tryz.ntmps62
  go_wp2_with (fail)
  refine wp_loop_rounds 2 ?_
  rw [rounds_succ]
  go_wp2_with (fail)
  refine (HB.out w).mono ?_
  rintro e w1 ⟨rfl, rfl⟩
  go_wp2_with (fail)
  rw [rounds_succ]
  go_wp2_with (fail)
  refine (HNW.out w h).mono ?_
  rintro e w1 ⟨rfl, hb1⟩
  have d1 := h.below hb1
  have k0 := (hb1.cell (p := ⟨j, 0, none⟩) hj.lt).trans c0
  have k1 := (hb1.cell (p := ⟨j, 1, none⟩) hj.lt).trans c1
  have k2 := (hb1.cell (p := ⟨j, 2, none⟩) hj.lt).trans c2
  have kl := (hb1.cell (p := ⟨lb, 0, none⟩) (lt_of_cell hl)).trans hl
  have eg : ((G : Int) == 0) = false := by simp; omega
  have en : decide ((sz : Int) < (N : Int)) = false := by simp; omega
  have ew : IntKind.i64.wrap ((sz : Int) - (fr : Int)) = ((sz - fr : Nat) : Int) := by rw [IntWalk.i64_in _ (by omega)]; omega
  have hjl := hj.lt
  have hll := lt_of_cell hl
  have hs1 := hb1.size
  go_wp2_with (fail)
  go_region
  go_wp2_with (fail)
  obtain ⟨W2, hW2⟩ : ∃ W2, (w1.alloc (.cells #[.pointer (some ⟨d, 0, none⟩), .int .i64 (sz - fr : Nat), .int .i64 sz, .int .u64 G, .slice none 0 0, .int .i64 0] 118)).drew = W2 := ⟨_, rfl⟩
  rw [hW2]
  obtain ⟨jn, hjn⟩ : ∃ jn, w1.heap.size = jn := ⟨_, rfl⟩
  have hjw : w.heap.size ≤ jn := by omega
  rw [hjn]
  have hj2 : JAt W2 jn d (sz - fr) sz G (.slice none 0 0) 0 := by rw [← hW2]; exact hal_at hjn.symm
  have hb2 : Below w.heap.size w W2 := by rw [← hW2]; exact ((hb1.alloc hs1 _).drew)
  have d2 := h.below hb2
  have hrd2 := hrd.below hb2
  have l2 := (hb2.cell (p := ⟨lb, 0, none⟩) (lt_of_cell hl)).trans hl
  have r4 := hj2.c4
  have r5 := hj2.c5
  have f4 := hj2.f 4
  have f5 := hj2.f 5
  have hjl2 := hj2.lt
  have hll2 := lt_of_cell l2
  have hne : lb ≠ jn := by omega
  have HCL := Lib.hid (clone_any A cap b W2.drew hrd2 (by omega))
  have HAP : Hid (∀ W3 v, Below W2.drew.heap.size W2.drew W3 → W3.ownsRow W2.drew.heap.size 5 1 v b.length (b.map bv) → ∀ W4, ((W3.setCell ⟨jn, 5, none⟩ (.int .i64 N)).setCell ⟨jn, 4, none⟩ (.slice (some ⟨W3.heap.size, 0, none⟩) 1 1)).alloc (.cells #[v] 24) = W4 →
      JAt W4 jn d (sz - fr) sz G (.slice (some ⟨W3.heap.size, 0, none⟩) 1 1) N ∧ Below w.heap.size w W4 ∧ W4.ownsRow w.heap.size 24 1 (.slice (some ⟨W3.heap.size, 0, none⟩) 1 1) 1 [v] ∧ W4.ownsRow w.heap.size 5 1 v b.length (b.map bv)) := Lib.hid fun W3 v hb3 ho3 W4 hW4 => by
    have hj3 : JAt W3 jn d (sz - fr) sz G (.slice none 0 0) 0 := hj2.block (hb3.block jn hjl2)
    have hs23 := hb3.size
    have hs2 := hb2.size
    have hsz : w.heap.size ≤ W3.heap.size := Nat.le_trans hs2 hs23
    subst hW4
    refine ⟨((hj3.setAt N).setRecs _).block (hal_lt (by simp; exact hj3.lt)), ?_, ?_, ?_⟩
    · exact ((((hb2.drew.trans (hb3.mono hs2)).setCell (by simp; omega) _).setCell (by simp; omega) _).alloc (by simp; omega) _)
    · have := World.ownsRow_lit (base := w.heap.size) (e := 24) (size := 1) ((W3.setCell ⟨jn, 5, none⟩ (.int .i64 N)).setCell ⟨jn, 4, none⟩ (.slice (some ⟨W3.heap.size, 0, none⟩) 1 1)) #[v] 1 (by simp; omega) (by unfold maxLen; omega) rfl
      simpa using this
    · exact ((owns_frm (owns_frm ho3 (Frm.setCell (F := fun b => b = jn) (p := ⟨jn, 5, none⟩) (Frm.refl _ _) (fun _ => rfl) _) (fun i hi e => owns_ne ho3 hj3 (by decide) (e ▸ hi))) (Frm.setCell (F := fun b => b = jn) (p := ⟨jn, 4, none⟩) (Frm.refl _ _) (fun _ => rfl) _) (fun i hi e => owns_ne ho3 hj3 (by decide) (e ▸ hi))).alloc _).base hs2
  have hd := Lib.hid h
  clear hW2 c0 c1 c2 k0 k1 k2 kl en eg ew hj h hjl hll hs1 d1
  go_region_law (first
    | (go_simp; go_at_call 57; refine Calls.mono (by with_reducible exact HB.out _) ?_; rintro e w3 ⟨rfl, rfl⟩)
    | (go_simp; go_at_call 48; refine Calls.mono (by with_reducible exact HCL.out) ?_; rintro e W3 ⟨v, rfl, ho3, hb3⟩; obtain ⟨A3, c3, rfl, _, _, _⟩ := owns_slice ho3; have p4l : jn < W3.heap.size := (Nat.lt_of_lt_of_le hjl2 hb3.size); have p4 := (hb3.cell (p := ⟨jn, 4, none⟩) hjl2).trans r4; have p5 := (hb3.cell (p := ⟨jn, 5, none⟩) hjl2).trans r5; have pf4 := (hb3.frozen (p := ⟨jn, 4, none⟩) hjl2).trans f4; have pf5 := (hb3.frozen (p := ⟨jn, 5, none⟩) hjl2).trans f5; have pll : lb < W3.heap.size := (Nat.lt_of_lt_of_le hll2 hb3.size); have pl := (hb3.cell (p := ⟨lb, 0, none⟩) hll2).trans l2))
  all_goals
    obtain ⟨W4, hW4⟩ : ∃ W4, (((W3.setCell ⟨jn, 5, none⟩ (.int .i64 N)).setCell ⟨jn, 4, none⟩ (.slice (some ⟨W3.heap.size, 0, none⟩) 1 1)).alloc (.cells #[.slice A3 b.length c3] 24)) = W4 := ⟨_, rfl⟩
    rw [hW4]
    obtain ⟨hj4, hb4, hr4, hv4⟩ := HAP.out W3 _ hb3 ho3 W4 hW4
    clear hW4
    have HW := Lib.hid (write_rec jn d L n (sz - fr) sz G N 0 0 w.heap.size _ (.slice none 0 0) img b [] A cap W4 hj4 (hd.out.below hb4) (by simp) (World.ownsRow_nil _ _ _ _) hb4.size hn hbl hbc (hrd.below hb4) (fun a e => ⟨hA a e, by simp [Value.ownBlock]⟩) (by omega) (by omega) (by omega))
    rw [show ((0 : Nat) : Int) = 0 from rfl] at HW
    have l4 := (hb4.cell (p := ⟨lb, 0, none⟩) (lt_of_cell hl)).trans hl
    go_wp2_with (fail)
    refine wp_loop_rounds 1 ?_
    rw [rounds_succ]
    go_wp2_with (fail)
    refine Calls.mono (by with_reducible exact HW.out) ?_
    rintro e W5 ⟨rfl, pv5, hd5, ho5, hf5, _⟩
    go_wp2_with (fail)
    go_ret2
    have hF : Frm (fun b => b = d) W4 W5 := hf5.weaken (fun i _ e => by rcases e with e | e; exact e; simp [Value.ownBlock] at e)
    refine ⟨jn, _, _, pv5, rfl, by omega, hj4.frm hF (jd_ne hj4 (hd.out.below hb4)), hd5, by rw [← hN]; simpa using ho5, owns_frm hr4 hF (fun i hi e => owns_ne hr4 (hd.out.below hb4).hd (by decide) (e ▸ hi)), owns_frm hv4 hF (fun i hi e => owns_ne hv4 (hd.out.below hb4).hd (by decide) (e ▸ hi)), (Frm.of_below hb4).trans hF⟩
end Go.Proofs.YtchiikfdmogfpaaGreatDoor
