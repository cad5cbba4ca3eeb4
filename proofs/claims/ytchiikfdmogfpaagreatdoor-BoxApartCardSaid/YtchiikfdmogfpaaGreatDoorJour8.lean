/- journal.Restart. -/
import Derived.Test.YtchiikfdmogfpaaGreatDoorJour7
namespace Go.Proofs.YtchiikfdmogfpaaGreatDoor
open Go.RowKit

set_option maxRecDepth 20000 in
set_option maxHeartbeats 1000000 in
theorem turn_no (j d L n fr sz gen at_ lb : Nat) (rv : Value) (img b : Bytes) (A : Option Addr) (cap : Nat) (w : World)
    (hj : JAt w j d fr sz gen rv at_) (h : DiskAt w d L n img (.slice none 0 0)) (hn : n ≤ 65536)
    (hl : w.cell? ⟨lb, 0, none⟩ = some (.slice A b.length cap)) (hbl : b.length ≤ 4000000000)
    (hno : sz < blocksOf b.length ∨ newestOf img n = 0) :
    Calls Tryz.prog 62 #[.pointer (some ⟨j, 0, none⟩), .slice (some ⟨lb, 0, none⟩) 1 1] w fun e w' => e = .returned (.tuple #[.pointer none, .int .i64 6]) ∧ Below w.heap.size w w' := by
  have hNs : blocksOf b.length ≤ 100000000 := by unfold blocksOf; omega
  obtain ⟨N, hN⟩ : ∃ N, blocksOf b.length = N := ⟨_, rfl⟩
  obtain ⟨G, hG⟩ : ∃ G, newestOf img n = G := ⟨_, rfl⟩
  have HB := Lib.hid (fun w => blocks_any b.length (by omega) w)
  have HNW := Lib.hid (fun w h => newest_any d L n img w h hn)
  rw [hN] at hNs HB hno
  rw [hG] at HNW hno
  have c0 := hj.c0
  have c1 := hj.c1
  have c2 := hj.c2
  have HN0 := Lib.hid hno
  clear hno
  go_enter Tryz.func62, Tryz.ntmps62
  go_wp2_with (fail)
  refine wp_loop_rounds 2 ?_
  rw [rounds_succ]
  go_wp2_with (fail)
  refine (HB.out w).mono ?_
  rintro e w1 ⟨rfl, rfl⟩
  go_wp2_with (fail)
  rw [rounds_succ]
  go_wp2_with (fail)
  refine (HNW.out w h).mono ?_
  rintro e w1 ⟨rfl, hb1⟩
  have k0 := (hb1.cell (p := ⟨j, 0, none⟩) hj.lt).trans c0
  have k1 := (hb1.cell (p := ⟨j, 1, none⟩) hj.lt).trans c1
  have k2 := (hb1.cell (p := ⟨j, 2, none⟩) hj.lt).trans c2
  by_cases hlt : sz < N
  · have en : decide (sz < N) = true := by simp; omega
    go_wp2_with (fail)
    go_ret2
    exact ⟨rfl, hb1⟩
  · have hG0 : G = 0 := by rcases HN0.out with e | e; exact absurd e hlt; exact e
    subst hG0
    have en : decide (sz < N) = false := by simp; omega
    go_wp2_with (fail)
    go_ret2
    exact ⟨rfl, hb1⟩
section
variable (ρ : Operand → Value) (dst : Option Tmp) (x y : Operand) (ty : TypeId) (pos : String) (after : Array Edge) (guard : Option (Nat × Bool))
theorem exec_loadJ : execOp ρ { dst, op := .load 118 x, type := ty, pos, after, guard } = loadOp 118 (ρ x) := rfl
theorem exec_storeJ : execOp ρ { dst, op := .store 118 x y, type := ty, pos, after, guard } = storeOp 118 (ρ x) (ρ y) := rfl
end
attribute [local go_sem ↓] exec_loadJ exec_storeJ
theorem Tryz.rowJ : (Tryz.prog.info? 118).map (·.size) = some 6 := by kernel_rfl
theorem JAt.row {w : World} {j d fr sz gen at_ : Nat} {rv : Value} (h : JAt w j d fr sz gen rv at_) : RowAt w j 0 6 #[.pointer (some ⟨d, 0, none⟩), .int .i64 fr, .int .i64 sz, .int .u64 gen, rv, .int .i64 at_] := RowAt.whole h

set_option maxRecDepth 20000 in
set_option maxHeartbeats 1000000 in
theorem restart_yes (j d L n fr sz gen at_ k : Nat) (rv : Value) (img b : Bytes) (xs : List Value) (A : Option Addr) (cap : Nat) (w : World) (h : JourAt w j d L n fr sz gen at_ k rv img xs)
    (hbl : b.length ≤ 4000000000) (hbc : b.length ≤ cap) (hrd : Rd w A (b.map bv)) (hA : ∀ a, A = some a → a.block ≠ d) (hfit : blocksOf b.length ≤ sz) (hg : newestOf img n ≠ 0) :
    Calls Tryz.prog 42 #[.pointer (some ⟨j, 0, none⟩), .slice A b.length cap] w fun e w' => e = .returned (.int .i64 0) ∧ ∃ rv' v,
      JourAt w' j d L n (sz - fr) sz (newestOf img n) (blocksOf b.length) 1 rv' (doneTo img (writesOf (newestOf img n) 0 (sz - fr) b (blocksOf b.length) (blocksOf b.length))) [v] ∧ w'.ownsRow w.heap.size 5 1 v b.length (b.map bv) ∧
      Frm (JOwn j d L rv) w w' ∧ (∀ b, JOwn j d L rv' b → JOwn j d L rv b ∨ w.heap.size ≤ b) := by
  have hf2 := h.hf2
  have hs := h.hs
  have hn := h.hn
  have hb1 : 1 ≤ blocksOf b.length := by unfold blocksOf; omega
  have hbw := (Below.refl w.heap.size w).alloc (Nat.le_refl _) (.cells #[.slice A b.length cap] 24)
  have HT := Lib.hid (turn_yes j d L n fr sz gen at_ w.heap.size rv img b A cap (w.alloc (.cells #[.slice A b.length cap] 24)) (h.j.block (hal_lt h.j.lt)) (h.d.below hbw) hn h.hfs hf2 hs (by simp [go_sem]) hbl hbc (hrd.below hbw) hA hfit hg)
  go_enter Tryz.func42, Tryz.ntmps42
  go_wp2_with (fail)
  refine HT.out.mono ?_
  rintro e w1 ⟨j1, rv1, v1, pv1, rfl, hjj, hj1, hd1, ho1, hr1, hv1, hf1⟩
  have hj0 : JAt w1 j d fr sz gen rv at_ := ((h.j.block (hal_lt h.j.lt)).frm hf1 (jd_ne h.j h.d))
  have hld := run_loadOp (P := Tryz.prog) (load_row 118 _ Tryz.underlying118 rfl Tryz.rowJ hj1.row)
  obtain ⟨Ar, cr, rfl, _, _, _⟩ := owns_slice hr1
  have hst := run_storeOp (P := Tryz.prog) (store_row 118 (w := w1) (b := j) (o := 0) (n := 6) (cs := #[.pointer (some ⟨d, 0, none⟩), .int .i64 (sz - fr : Nat), .int .i64 sz, .int .u64 (newestOf img n), .slice Ar 1 cr, .int .i64 (blocksOf b.length)]) Tryz.rowJ rfl (by simp [Value.oneCell']) (there_of_block hj0 0 6 (Nat.le_refl _)))
  obtain ⟨W2, hW2⟩ : ∃ W2, w1.setCells j 0 [.pointer (some ⟨d, 0, none⟩), .int .i64 (sz - fr : Nat), .int .i64 sz, .int .u64 (newestOf img n), .slice Ar 1 cr, .int .i64 (blocksOf b.length)] = W2 := ⟨_, rfl⟩
  rw [show (#[.pointer (some ⟨d, 0, none⟩), .int .i64 (sz - fr : Nat), .int .i64 sz, .int .u64 (newestOf img n), .slice Ar 1 cr, .int .i64 (blocksOf b.length)] : Array Value).toList = [.pointer (some ⟨d, 0, none⟩), .int .i64 (sz - fr : Nat), .int .i64 sz, .int .u64 (newestOf img n), .slice Ar 1 cr, .int .i64 (blocksOf b.length)] from rfl, hW2] at hst
  have hj2 : JAt W2 j d (sz - fr) sz (newestOf img n) (.slice Ar 1 cr) (blocksOf b.length) := by
    rw [← hW2]
    have := heap_setCells_list j _ _ [.pointer (some ⟨d, 0, none⟩), .int .i64 (sz - fr : Nat), .int .i64 sz, .int .u64 (newestOf img n), .slice Ar 1 cr, .int .i64 (blocksOf b.length)] 0 w1 [.pointer (some ⟨d, 0, none⟩), .int .i64 fr, .int .i64 sz, .int .u64 gen, rv, .int .i64 at_] hj0 (Nat.le_refl _)
    exact this
  have hfw : Frm (fun b => b = j) w1 W2 := by
    rw [← hW2]
    exact ⟨(os_setCells _ _ _ _).1, (os_setCells _ _ _ _).2.1, (os_setCells _ _ _ _).2.2, by rw [size_setCells]; exact Nat.le_refl _, fun i _ hn => heap_setCells_other _ _ _ _ _ hn⟩
  have hd2 := hd1.frm hfw (fun e => jd_ne hj0 hd1 e.symm) (fun e => jL_ne hj0 hd1 e.symm)
  have ho2 := owns_frm ho1 hfw (fun i hi e => owns_ne ho1 hj0 (by decide) (e ▸ hi))
  have hr2 := owns_frm hr1 hfw (fun i hi e => owns_ne hr1 hj0 (by decide) (e ▸ hi))
  have hv2 := owns_frm hv1 hfw (fun i hi e => owns_ne hv1 hj0 (by decide) (e ▸ hi))
  have HS := Lib.hid (sync_any d L n img pv1 _ _ W2 hd2 (fits_writes n (newestOf img n) 0 (sz - fr) b (blocksOf b.length) (blocksOf b.length) (by omega)) (by rw [writesOf_length]; omega) (by rw [writesOf_length]; exact ho2))
  have c0 := hj2.c0
  have HG := Lib.hid hg
  clear hW2 hg
  go_wp2_with (fail)
  refine HS.out.mono ?_
  rintro e w3 ⟨rfl, hd3, hf3⟩
  go_wp2_with (fail)
  go_ret
  have hj3 := hj2.frm hf3 (fun e => by rcases e with e | e; exact jd_ne hj2 hd2 e; exact jL_ne hj2 hd2 e)
  have hr3 := owns_frm hr2 hf3 (fun i hi e => by
    rcases e with e | e
    · exact owns_ne hr2 hd2.hd (by decide) (e ▸ hi)
    · exact owns_ne hr2 hd2.row (by decide) (e ▸ hi))
  have hv3 := owns_frm hv2 hf3 (fun i hi e => by
    rcases e with e | e
    · exact owns_ne hv2 hd2.hd (by decide) (e ▸ hi)
    · exact owns_ne hv2 hd2.row (by decide) (e ▸ hi))
  refine ⟨rfl, _, v1, ⟨hj3, hd3, hr3.base (Nat.zero_le _), hn, by omega, hs, hb1, hfit, by have := h.hf; have := h.hfs; omega, by omega⟩, hv3.base (by simp), ?_, ?_⟩
  · exact (((Frm.of_below (F := JOwn j d L rv) hbw).then hf1 (fun i _ e => .inl e)).then hfw (fun i _ e => .inr (.inl e))).then hf3 (fun i _ e => by rcases e with e | e; exact .inl e; exact .inr (.inr (.inl e)))
  · intro i hi
    rcases hi with e | e | e | e
    · exact .inl (.inl e)
    · exact .inl (.inr (.inl e))
    · exact .inl (.inr (.inr (.inl e)))
    · exact .inr (by have := (hr1.lt i e).1; simp at this; omega)

set_option maxRecDepth 20000 in
set_option maxHeartbeats 1000000 in
theorem restart_no (j d L n fr sz gen at_ k : Nat) (rv : Value) (img b : Bytes) (xs : List Value) (A : Option Addr) (cap : Nat) (w : World) (h : JourAt w j d L n fr sz gen at_ k rv img xs)
    (hbl : b.length ≤ 4000000000) (hno : sz < blocksOf b.length ∨ newestOf img n = 0) :
    Calls Tryz.prog 42 #[.pointer (some ⟨j, 0, none⟩), .slice A b.length cap] w fun e w' => e = .returned (.int .i64 6) ∧ Below w.heap.size w w' := by
  have hbw := (Below.refl w.heap.size w).alloc (Nat.le_refl _) (.cells #[.slice A b.length cap] 24)
  have HT := Lib.hid (turn_no j d L n fr sz gen at_ w.heap.size rv img b A cap (w.alloc (.cells #[.slice A b.length cap] 24)) (h.j.block (hal_lt h.j.lt)) (h.d.below hbw) h.hn (by simp [go_sem]) hbl hno)
  clear hno
  go_enter Tryz.func42, Tryz.ntmps42
  go_wp2_with (fail)
  refine HT.out.mono ?_
  rintro e w1 ⟨rfl, hb1⟩
  go_wp2_with (fail)
  go_ret
  exact ⟨rfl, hbw.trans (hb1.mono (by simp))⟩
end Go.Proofs.YtchiikfdmogfpaaGreatDoor
