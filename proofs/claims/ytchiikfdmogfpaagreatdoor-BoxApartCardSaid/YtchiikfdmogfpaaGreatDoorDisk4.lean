/- disk.Crash as Sync calls it: all that waits is done. -/
import Derived.Test.YtchiikfdmogfpaaGreatDoorDisk3
namespace Go.Proofs.YtchiikfdmogfpaaGreatDoor
open Go.RowKit
section
variable (ρ : Operand → Value) (dst : Option Tmp) (x y : Operand) (ty : TypeId) (pos : String) (after : Array Edge) (guard : Option (Nat × Bool))
theorem exec_alloc180 : execOp ρ { dst, op := .alloc 180, type := ty, pos, after, guard } = allocOp 180 := rfl
theorem exec_copy24 : execOp ρ { dst, op := .call { callee := .builtin .copy, args := #[x, y], argTypes := #[24, 24] }, type := ty, pos, after, guard } = copyOp 24 24 ty (ρ x) (ρ y) := by simp [BigFrame.execOp_builtin, BigFrame.builtin_copy, copyOp]
end
attribute [local go_sem ↓] exec_load180 exec_store180 exec_alloc180
attribute [local go_sem ↓ high] exec_copy24

/-- What waits, done to the blocks. -/
def doneTo (img : Bytes) (l : List (Nat × Bytes)) : Bytes := l.foldl (fun m p => splice m (p.1 * 64) p.2) img
def Fits (n : Nat) (l : List (Nat × Bytes)) : Prop := ∀ p ∈ l, p.1 < n ∧ p.2.length = 64
theorem doneTo_length (n : Nat) : ∀ (l : List (Nat × Bytes)) (img : Bytes), img.length = n * 64 → Fits n l → (doneTo img l).length = n * 64
  | [], _, h, _ => h
  | p :: l, img, h, hf => by
    have := hf p (by simp)
    exact doneTo_length n l _ (by rw [length_splice]; exact h; omega) fun q hq => hf q (by simp [hq])
def flat (l : List (Nat × Bytes)) : List Value := l.flatMap wcells
theorem flat_length (n : Nat) : ∀ (l : List (Nat × Bytes)), Fits n l → (flat l).length = l.length * 65
  | [], _ => rfl
  | p :: l, hf => by
    rw [flat, List.flatMap_cons, List.length_append, wcells_length p.1 p.2 (hf p (by simp)).2]
    have := flat_length n l fun q hq => hf q (by simp [hq])
    rw [flat] at this
    rw [this, List.length_cons]; omega
theorem flat_at (n : Nat) : ∀ (l : List (Nat × Bytes)) (j : Nat) (h : j < l.length), Fits n l → ((flat l).drop (j * 65)).take 65 = wcells l[j]
  | p :: l, 0, _, hf => by
    have hw : (wcells p).length = 65 := wcells_length p.1 p.2 (hf p (by simp)).2
    rw [flat, List.flatMap_cons, Nat.zero_mul, List.drop_zero, List.take_append_of_le_length (by omega), List.take_of_length_le (by omega)]; rfl
  | p :: l, j + 1, h, hf => by
    have hw : (wcells p).length = 65 := wcells_length p.1 p.2 (hf p (by simp)).2
    rw [flat, List.flatMap_cons, List.drop_append, List.drop_of_length_le (by omega), List.nil_append, hw, show (j + 1) * 65 - 65 = j * 65 from by omega]
    exact flat_at n l j (by simpa using h) fun q hq => hf q (by simp [hq])
theorem doneTo_take (img : Bytes) (l : List (Nat × Bytes)) (j : Nat) (h : j < l.length) : doneTo img (l.take (j + 1)) = splice (doneTo img (l.take j)) (l[j].1 * 64) l[j].2 := by
  rw [List.take_succ_eq_append_getElem h, doneTo, List.foldl_append]; rfl

theorem DiskAt.ne {w : World} {d L n : Nat} {img : Bytes} {pv : Value} (h : DiskAt w d L n img pv) : L ≠ d := fun e => by
  have h1 := h.row; rw [e, h.hd] at h1; simp at h1
theorem DiskAt.pend {w : World} {d L n : Nat} {img : Bytes} {pv : Value} (h : DiskAt w d L n img pv) (v : Value) : DiskAt (w.setCell ⟨d, 1, none⟩ v) d L n img v := by
  refine ⟨?_, (Below.heap_setCell _ _ _ _ h.ne).trans h.row, h.len⟩
  rw [heap_setCell_same _ d 1 _ _ _ h.hd]; rfl
/-- A block's bytes are copied over those of the disk. -/
theorem DiskAt.copy {w : World} {d L n a : Nat} {img bs : Bytes} {pv : Value} (h : DiskAt w d L n img pv) (ha : a < n) (hl : bs.length = 64) :
    DiskAt (w.setRow L ((cellsOf img).toList.take (a * 64) ++ bs.map bv ++ (cellsOf img).toList.drop (a * 64 + (bs.map bv).length)).toArray) d L n (splice img (a * 64) bs) pv := by
  refine ⟨(setRow_other _ _ _ _ (fun e => h.ne e.symm)).trans h.hd, ?_, by rw [length_splice]; exact h.len; have := h.len; omega⟩
  rw [setRow_heap w L _ _ _ _ h.row]
  congr 2
  simp [cellsOf, splice, List.map_take, List.map_drop]
theorem frm_setRow {F : Nat → Prop} {a b : World} (h : Frm F a b) {g : Nat} (hg : F g) (cs : Array Value) : Frm F a (b.setRow g cs) :=
  ⟨h.os, h.tape, h.output, by rw [size_setRow]; exact h.size, fun k hk hn => (setRow_other _ _ _ _ (fun e => hn (by rw [e]; exact hg))).trans (h.block k hk hn)⟩
theorem row_at {w wr : World} {base g cap n : Nat} {l : List (Nat × Bytes)} (ho : w.ownsRow base 180 65 (.slice (some ⟨g, 0, none⟩) l.length cap) l.length (flat l)) (hk : wr.heap[g]? = w.heap[g]?) (hf : Fits n l)
    (j : Nat) (h : j < l.length) : RowAt wr g (j * 65) 65 (wcells l[j]).toArray := by
  have hw : (wcells l[j]).length = 65 := wcells_length _ _ (hf _ (List.getElem_mem h)).2
  refine ⟨by simpa using hw, fun t v hv => ?_⟩
  have hv : (wcells l[j])[t]? = some v := hv
  have ht : t < 65 := by rw [← hw]; exact (List.getElem?_eq_some_iff.1 hv).1
  rw [World.cell?_of_block (w := w) (a := ⟨g, j * 65 + t, none⟩) hk, ho.cellAt (j * 65 + t) (by omega)]
  rw [← flat_at n l j h hf, List.getElem?_take, if_pos ht, List.getElem?_drop] at hv
  exact hv

set_option maxRecDepth 20000 in
set_option maxHeartbeats 1000000 in
theorem crash_done (d L n : Nat) (img : Bytes) (pv : Value) (base : Nat) (l : List (Nat × Bytes)) (w : World) (h : DiskAt w d L n img pv) (hf : Fits n l) (hk : l.length ≤ 1000000)
    (ho : w.ownsRow base 180 65 pv l.length (flat l)) (pb : Nat) (hp : w.cell? ⟨pb, 0, none⟩ = some (.int .u8 1)) (hpd : pb ≠ d ∧ pb ≠ L) :
    Calls Tryz.prog 81 #[.pointer (some ⟨d, 0, none⟩), .slice (some ⟨pb, 0, none⟩) 1 1] w fun e w' => e = .returned (.tuple #[]) ∧ DiskAt w' d L n (doneTo img l) (.slice none 0 0) ∧ Frm (fun b => b = d ∨ b = L) w w' := by
  have h0 := h.c0
  have h1 := h.c1
  have hd := h.ltd
  have hL := h.ltL
  obtain ⟨A, cap, hpv⟩ : ∃ A cap, pv = .slice A l.length cap := by
    obtain ⟨_, ⟨rfl, h0⟩ | ⟨g, cap, _, rfl, _⟩⟩ := ho
    · exact ⟨none, 0, by rw [h0]⟩
    · exact ⟨_, _, rfl⟩
  subst hpv
  go_enter Tryz.func81, Tryz.ntmps81
  go_wp2_with (fail)
  go_loopw [17] (fun i wr => ∃ j : Nat, j ≤ l.length ∧ i = .int .i64 j ∧ DiskAt wr d L n (doneTo img (l.take j)) (.slice A l.length cap) ∧ Frm (fun b => b = L) w wr)
    (fun i _ => l.length - (intOf i).toNat)
  case atStart => exact ⟨0, Nat.zero_le _, rfl, h, Frm.refl _ _⟩
  case round =>
    obtain ⟨j, hj, rfl, hdj, hfr⟩ := hrel
    have hsz := hfr.size
    by_cases hlt : j < l.length
    · obtain ⟨g, cap', hA⟩ : ∃ g cap', A = some ⟨g, 0, none⟩ := by
        obtain ⟨_, ⟨e, h0⟩ | ⟨g, cap, _, e, _⟩⟩ := ho
        · omega
        · simp only [Value.slice.injEq] at e; exact ⟨g, cap, e.1⟩
      subst hA
      obtain ⟨cur, hcur⟩ := owns_elem ho rfl
      have hgL : g ≠ L := fun e => by have h1 := h.row; rw [← e, hcur] at h1; simp at h1
      have hgl : g < w.heap.size := (Array.getElem?_eq_some_iff.1 hcur).1
      have hrw := row_at ho (hfr.block g hgl hgL) hf j hlt
      obtain ⟨a, bs, hab⟩ : ∃ a bs, l[j] = (a, bs) := ⟨_, _, rfl⟩
      have hq := hf _ (List.getElem_mem hlt)
      rw [hab] at hq hrw
      obtain ⟨haj, hlj⟩ := hq
      simp only at haj hlj
      have hld := run_loadOp (P := Tryz.prog) (ty := 180) (p := .pointer (some ⟨g, j * 65, none⟩)) (v := .agg (wcells (a, bs)).toArray) (w := wr) (load_row _ _ Tryz.underlying180 rfl Tryz.row180 hrw)
      have hal := run_allocOp (zero180_run wr)
      have hst := run_storeOp (store_row (P := Tryz.prog) (w := wr.alloc (.cells zero180.toArray 180)) (b := wr.heap.size) (o := 0) (n := 65) (cs := (wcells (a, bs)).toArray) _ Tryz.row180 (by simpa using wcells_length a bs hlj) (by simpa using wcells_one a bs) (there_of_block (hal_at rfl) 0 65 (by simp [zero180])))
      rw [List.toList_toArray, alloc_setCells _ _ _ _ (by rw [wcells_length a bs hlj]; rfl)] at hst
      have hw0 : (wcells (a, bs))[0]? = some (.int .i64 a) := rfl
      have hpb : wr.cell? ⟨pb, 0, none⟩ = some (.int .u8 1) := (hfr.cell (p := ⟨pb, 0, none⟩) (lt_of_cell hp) hpd.2).trans hp
      have hp1 : pb < wr.heap.size := lt_of_cell hpb
      have hd0 := hdj.c0
      have hd1 : d < wr.heap.size := by omega
      have hb0 : wr.heap.size < wr.heap.size + 1 := by omega
      have ha0 : (0 : Int) ≤ (a : Int) := Int.natCast_nonneg _
      have ha1 : (a : Int) < (n : Int) := by omega
      have hcp := run_copyOp (run_copy_row (P := Tryz.prog) (wr.alloc (.cells (wcells (a, bs)).toArray 180)).drew 24 24 3 5 L (a * 64) 64 64 ⟨wr.heap.size, 1, none⟩ 64 64 (cellsOf (doneTo img (l.take j))) 175 (bs.map bv) Tryz.underlying24 (by kernel_rfl) ((hal_lt hdj.ltL).trans hdj.row) (by simp [hlj]) (fun t v hv => by have h1 := (RowAt.new wr (wcells (a, bs)).toArray 180 (by simpa using wcells_length a bs hlj) rfl).drew.2 (1 + t) v (by rw [Nat.add_comm]; exact hv); rw [Addr.add_mid]; rwa [Nat.zero_add] at h1) (by simp [cellsOf_size, hlj]; have := hdj.len; omega) (bvs_one _))
      have hnew := ((hdj.below ((Below.refl _ _).alloc (Nat.le_refl _) (.cells (wcells (a, bs)).toArray 180)).drew).copy haj hlj)
      have hfr2 := frm_setRow (F := fun b => b = L) (((hfr.alloc (.cells (wcells (a, bs)).toArray 180)).drew)) rfl ((cellsOf (doneTo img (l.take j))).toList.take (a * 64) ++ bs.map bv ++ (cellsOf (doneTo img (l.take j))).toList.drop (a * 64 + (bs.map bv).length)).toArray
      obtain ⟨W2, hW2⟩ : ∃ W2, W2 = (wr.alloc (.cells (wcells (a, bs)).toArray 180)).drew.setRow L ((cellsOf (doneTo img (l.take j))).toList.take (a * 64) ++ bs.map bv ++ (cellsOf (doneTo img (l.take j))).toList.drop (a * 64 + (bs.map bv).length)).toArray := ⟨_, rfl⟩
      rw [← hW2] at hcp hnew hfr2
      clear hW2
      have HL := Lib.hid hlj
      have HB := Lib.hid hab
      have HN := Lib.hid (And.intro hnew hfr2)
      have HF := Lib.hid hf
      clear hlj hf hab hfr hdj hnew hfr2 hrw hcur hgL
      go_wp2_with (fail)
      go_region
      go_wp2
      go_roundw
      case rel =>
        refine ⟨j + 1, by omega, by go_num, ?_, HN.out.2⟩
        have := HN.out.1
        rw [doneTo_take img l j hlt, HB.out]
        exact this
      case measure => simp [intOf]; omega
    · obtain rfl : j = l.length := by omega
      have hd0 := hdj.c0
      have hd1 := hdj.c1
      have hdf := hdj.f 1
      have hne := hdj.ne
      go_wp2
      go_end0
      rw [List.take_length] at hdj
      exact ⟨rfl, hdj.pend _, (hfr.weaken fun _ _ e => .inr e).setCell (fun _ => .inl rfl) _⟩

set_option maxRecDepth 20000 in
set_option maxHeartbeats 400000 in
theorem sync_any (d L n : Nat) (img : Bytes) (pv : Value) (base : Nat) (l : List (Nat × Bytes)) (w : World) (h : DiskAt w d L n img pv) (hf : Fits n l) (hk : l.length ≤ 1000000)
    (ho : w.ownsRow base 180 65 pv l.length (flat l)) :
    Calls Tryz.prog 59 #[.pointer (some ⟨d, 0, none⟩)] w fun e w' => e = .returned (.tuple #[]) ∧ DiskAt w' d L n (doneTo img l) (.slice none 0 0) ∧ Frm (fun b => b = d ∨ b = L) w w' := by
  have h1 := h.ltd
  have h2 := h.ltL
  have hb := (Below.refl w.heap.size w).alloc (Nat.le_refl _) (.cells #[.int .u8 1] 5)
  have H := Lib.hid (crash_done d L n img pv base l (w.alloc (.cells #[.int .u8 1] 5)) (h.below hb) hf hk (ho.alloc _) w.heap.size (by simp) ⟨by omega, by omega⟩)
  clear h ho hf hk
  go_enter Tryz.func59, Tryz.ntmps59
  go_wp2_with (fail)
  refine H.out.mono ?_
  rintro e w1 ⟨rfl, hd, hfr⟩
  go_wp2_with (fail)
  go_end0
  exact ⟨rfl, hd, (Frm.of_below hb).trans (hfr.weaken fun _ _ e => e)⟩
end Go.Proofs.YtchiikfdmogfpaaGreatDoor
