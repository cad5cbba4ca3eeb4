/- journal.lay: a record is written behind the others. -/
import Derived.Test.YtchiikfdmogfpaaGreatDoorJour3
import Derived.Test.YtchiikfdmogfpaaGreatDoorClone
import Derived.Deep.RegionLaw
namespace Go.Proofs.YtchiikfdmogfpaaGreatDoor
open Go.RowKit
section
variable (ρ : Operand → Value) (dst : Option Tmp) (x y : Operand) (ty : TypeId) (pos : String) (after : Array Edge) (guard : Option (Nat × Bool))
theorem exec_append102 : execOp ρ { dst, op := .call { callee := .builtin .append, args := #[x, y], argTypes := #[102, 102] }, type := ty, pos, after, guard } = appendOp 102 ty (ρ x) (ρ y) := by simp [BigFrame.execOp_builtin, BigFrame.builtin_append, appendOp]
end
attribute [local go_sem ↓ high] exec_append102

theorem Tryz.infoRec : (Tryz.prog.info? 24).map (fun i => (i.zero, i.size, i.bytes)) = some (some (.slice none 0 0), 1, 24) := by kernel_rfl
theorem Tryz.underRecs : Tryz.prog.underlying 102 = some (.slice 24) := by kernel_rfl
/-- One more record is put behind the others. -/
theorem append_rec (W3 : World) (base k : Nat) (rv v : Value) (xs : List Value) (ho : W3.ownsRow base 24 1 rv k xs) (h1 : v.oneCell' = true) (hb : base ≤ W3.heap.size) (hk : k ≤ 10000000) :
    ∃ g c W5, (appendOp 102 102 rv (.slice (some ⟨W3.heap.size, 0, none⟩) 1 1)).run Tryz.prog (W3.alloc (.cells #[v] 24)) = .ok (.value (.slice (some ⟨g, 0, none⟩) (k + 1) c)) W5 ∧
      W5.ownsRow base 24 1 (.slice (some ⟨g, 0, none⟩) (k + 1) c) (k + 1) (xs ++ [v]) ∧ Frm (fun b => rv.ownBlock = some b) W3 W5 ∧ (rv.ownBlock = some g ∨ W3.heap.size ≤ g) := by
  obtain ⟨i0, hi, hz0, hz1, hz2⟩ := info_parts Tryz.infoRec
  obtain ⟨rv', W5, hap, hown, hgr, _, hloc⟩ := run_append_own_at (P := Tryz.prog) (w := W3.alloc (.cells #[v] 24)) base 102 102 24 i0 (.slice none 0 0) 1 24 Tryz.underRecs hi hz0 hz1 hz2 rfl (by decide) rv k xs (ho.alloc _) ⟨W3.heap.size, 0, none⟩ 1 1 [v] rfl
    (cell_one_new _ _ _) (by intro u hu; simp at hu; subst hu; exact h1) (by unfold maxLen; omega) (by omega) (by simp; omega)
  obtain ⟨g, c, rfl⟩ := ownsRow_succ hown
  refine ⟨g, c, W5, run_appendOp hap, hown, ⟨hgr.os, hgr.tape, hgr.output, by have := hgr.size; simp at this; omega, fun b hb' hn => (hgr.block b (by simp; omega) (fun e => hn e.symm)).trans (hal_lt hb')⟩, ?_⟩
  simp only [Value.ownBlock] at hloc
  rcases hloc with e | e
  · exact .inl e.symm
  · simp at e; exact .inr (by omega)
theorem owns_apart {w : World} {b1 e1 s1 n1 b2 e2 s2 n2 i : Nat} {v1 v2 : Value} {x1 x2 : List Value} (h : w.ownsRow b1 e1 s1 v1 n1 x1) (k : w.ownsRow b2 e2 s2 v2 n2 x2) (hne : e1 ≠ e2) (h1 : v1.ownBlock = some i) (h2 : v2.ownBlock = some i) : False := by
  obtain ⟨c, hc⟩ := owns_elem h h1
  exact owns_ne k hc hne h2
theorem owns_frm {F : Nat → Prop} {w w' : World} {base e size n : Nat} {v : Value} {xs : List Value} (h : w.ownsRow base e size v n xs) (hf : Frm F w w') (hn : ∀ k, v.ownBlock = some k → ¬ F k) : w'.ownsRow base e size v n xs :=
  owns_keep h fun k hk => hf.block k (h.lt k hk).2 (hn k hk)
theorem Frm.drew0 {F : Nat → Prop} {a b : World} (h : Frm F a.drew b) : Frm F a b := ⟨h.os, h.tape, h.output, h.size, h.block⟩
set_option maxRecDepth 20000 in
set_option maxHeartbeats 1000000 in
theorem lay_any (j d L n fr sz gen at_ k base : Nat) (rv : Value) (img b : Bytes) (xs : List Value) (A : Option Addr) (cap : Nat) (w : World)
    (hj : JAt w j d fr sz gen rv at_) (h : DiskAt w d L n img (.slice none 0 0)) (ho : w.ownsRow base 24 1 rv k xs) (hb : base ≤ w.heap.size)
    (hn : n ≤ 65536) (hbl : b.length ≤ 4000000000) (hbc : b.length ≤ cap) (hrd : Rd w A (b.map bv)) (hA : ∀ a, A = some a → a.block ≠ d ∧ a.block ≠ j) (hfit : fr + at_ + blocksOf b.length ≤ n) (hbn : blocksOf b.length ≤ 32768) (hk : k ≤ 1000000) :
    Calls Tryz.prog 58 #[.pointer (some ⟨j, 0, none⟩), .slice A b.length cap] w fun e w' => e = .returned (.tuple #[]) ∧ ∃ pv' rv' v, JAt w' j d fr sz gen rv' (at_ + blocksOf b.length) ∧ DiskAt w' d L n img pv' ∧
      w'.ownsRow w.heap.size 180 65 pv' (blocksOf b.length) (flat (writesOf gen k (fr + at_) b (blocksOf b.length) (blocksOf b.length))) ∧
      w'.ownsRow base 24 1 rv' (k + 1) (xs ++ [v]) ∧ w'.ownsRow w.heap.size 5 1 v b.length (b.map bv) ∧ Frm (fun b => b = d ∨ b = j ∨ rv.ownBlock = some b) w w' ∧
      (rv'.ownBlock = rv.ownBlock ∨ ∀ b, rv'.ownBlock = some b → w.heap.size ≤ b) := by
  obtain ⟨Av, cv, rfl, hcv, hlv, hrv⟩ := owns_slice ho
  have c0 := hj.c0
  have c3 := hj.c3
  have c4 := hj.c4
  have c5 := hj.c5
  have f4 := hj.f 4
  have f5 := hj.f 5
  have hjl := hj.lt
  have HWR := Lib.hid (write_rec j d L n fr sz gen at_ k at_ w.heap.size (.slice Av k cv) (.slice none 0 0) img b [] A cap w.drew hj ⟨h.hd, h.row, h.len⟩ (by simp) (World.ownsRow_nil _ _ _ _) (by simp) hn hbl hbc hrd (fun a e => ⟨(hA a e).1, by simp [Value.ownBlock]⟩) hfit hbn hk)
  have hjF : ¬ (j = d ∨ (Value.slice none 0 0).ownBlock = some j) := by
    rintro (e | e)
    · subst e; have h1 := h.hd; unfold JAt at hj; rw [hj] at h1; simp at h1
    · simp [Value.ownBlock] at e
  go_enter Tryz.func58, Tryz.ntmps58
  go_wp2_with (fail)
  go_region_held3 (fun w' => w'.cell? ⟨j, 4, none⟩ = some (.slice Av k cv) ∧ w'.cell? ⟨j, 5, none⟩ = some (.int .i64 at_))
    (first | exact ⟨c4, c5⟩ | exact ⟨k4, k5⟩)
    (first | (go_simp; go_at_call 80; refine HWR.out.mono ?_; rintro e W1 ⟨rfl, pv', hd1, ho1, hf1, hl1⟩; have hj1 := hj.frm hf1.drew0 hjF; have k4 := hj1.c4; have k5 := hj1.c5))
  have g5 := hj1.f 5
  have hj1l := hj1.lt
  have hsz1 := hf1.size
  have ew : IntKind.i64.wrap ((at_ : Int) + (blocksOf b.length : Int)) = ((at_ + blocksOf b.length : Nat) : Int) := by rw [IntWalk.i64_in _ (by omega)]; omega
  go_wp2_with (fail)
  go_region_law (first
    | (go_simp; go_at_call 57; refine (blocks_any b.length (by omega) _).mono ?_; rintro e w1 ⟨rfl, rfl⟩))
  all_goals
    obtain ⟨W2, hW2⟩ : ∃ W2, (W1.setCell ⟨j, 5, none⟩ (.int .i64 ((at_ : Int) + (blocksOf b.length : Int)))).drew = W2 := ⟨_, rfl⟩
    rw [hW2]
    have hj2 : JAt W2 j d fr sz gen (.slice Av k cv) (at_ + blocksOf b.length) := by rw [← hW2]; exact hj1.setAt _
    have hfj : Frm (fun b => b = j) W1 W2 := by rw [← hW2]; exact (Frm.setCell (F := fun b => b = j) (p := ⟨j, 5, none⟩) (Frm.refl _ _) (fun _ => rfl) _).drew
    have hf2 : Frm (fun b => b = d ∨ b = j) w W2 := (hf1.drew0.weaken (fun i _ e => by rcases e with e | e; exact .inl e; simp [Value.ownBlock] at e)).then hfj (fun _ _ e => .inr e)
    have hrd2 : Rd W2 A (b.map bv) := hrd.frm hf2 (fun a e => by have := hA a e; rintro (h | h); exact this.1 h; exact this.2 h)
    have hd2 : DiskAt W2 d L n img pv' := hd1.frm hfj (fun e => hjF (.inl e.symm)) (fun e => by have h1 := hd1.row; unfold JAt at hj1; rw [e, hj1] at h1; simp at h1)
    have ho2 : W2.ownsRow w.heap.size 180 65 pv' (blocksOf b.length) (flat (writesOf gen k (fr + at_) b (blocksOf b.length) (blocksOf b.length))) := owns_frm (by simpa using ho1) hfj (fun i hi e => owns_ne ho1 hj1 (by decide) (e ▸ hi))
    have hrF : ∀ i, (Value.slice Av k cv).ownBlock = some i → ¬ (i = d ∨ i = j) := fun i hi e => by
      rcases e with e | e
      · exact owns_ne ho h.hd (by decide) (e ▸ hi)
      · exact owns_ne ho hj (by decide) (e ▸ hi)
    have hr2 : W2.ownsRow base 24 1 (.slice Av k cv) k xs := owns_frm ho hf2 hrF
    have HCL := Lib.hid (clone_any A cap b W2.drew hrd2 (by omega))
    have HAP : Hid (∀ W3 v, Below W2.drew.heap.size W2.drew W3 → W3.ownsRow W2.drew.heap.size 5 1 v b.length (b.map bv) → v.oneCell' = true → ∃ g c W5, (appendOp 102 102 (.slice Av k cv) (.slice (some ⟨W3.heap.size, 0, none⟩) 1 1)).run Tryz.prog (W3.alloc (.cells #[v] 24)) = .ok (.value (.slice (some ⟨g, 0, none⟩) (k + 1) c)) W5 ∧
        W5.cell? ⟨j, 4, none⟩ = some (.slice Av k cv) ∧ W5.frozen? ⟨j, 4, none⟩ = false ∧ j < W5.heap.size ∧ Hid (∃ pv' rv' v, JAt (W5.setCell ⟨j, 4, none⟩ (.slice (some ⟨g, 0, none⟩) (k + 1) c)) j d fr sz gen rv' (at_ + blocksOf b.length) ∧ DiskAt (W5.setCell ⟨j, 4, none⟩ (.slice (some ⟨g, 0, none⟩) (k + 1) c)) d L n img pv' ∧
          (W5.setCell ⟨j, 4, none⟩ (.slice (some ⟨g, 0, none⟩) (k + 1) c)).ownsRow w.heap.size 180 65 pv' (blocksOf b.length) (flat (writesOf gen k (fr + at_) b (blocksOf b.length) (blocksOf b.length))) ∧
          (W5.setCell ⟨j, 4, none⟩ (.slice (some ⟨g, 0, none⟩) (k + 1) c)).ownsRow base 24 1 rv' (k + 1) (xs ++ [v]) ∧ (W5.setCell ⟨j, 4, none⟩ (.slice (some ⟨g, 0, none⟩) (k + 1) c)).ownsRow w.heap.size 5 1 v b.length (b.map bv) ∧
          Frm (fun b => b = d ∨ b = j ∨ (Value.slice Av k cv).ownBlock = some b) w (W5.setCell ⟨j, 4, none⟩ (.slice (some ⟨g, 0, none⟩) (k + 1) c)) ∧
          (rv'.ownBlock = (Value.slice Av k cv).ownBlock ∨ ∀ b, rv'.ownBlock = some b → w.heap.size ≤ b))) := Lib.hid fun W3 v hb3 ho3 h1 => by
      have hs2 := hf2.size
      have hs3 : W2.heap.size ≤ W3.heap.size := hb3.size
      have hb23 : Below W2.heap.size W2 W3 := ⟨hb3.os, hb3.tape, hb3.output, hb3.size, hb3.block⟩
      obtain ⟨g, c, W5, hap, hown, hf5, hloc⟩ := append_rec W3 base k (.slice Av k cv) v xs (owns_below hr2 hb23) h1 (by omega) (by omega)
      have hf25 : Frm (fun b => (Value.slice Av k cv).ownBlock = some b) W2 W5 := (Frm.of_below hb23).trans (hf5.weaken fun _ _ e => e)
      have hj5 := hj2.frm hf25 (fun e => hrF j e (.inr rfl))
      have hd5 := hd2.frm hf25 (fun e => hrF d e (.inl rfl)) (owns_ne hr2 hd2.row (by decide))
      have ho5 := owns_frm ho2 hf25 (fun i hi e => owns_apart ho2 hr2 (by decide) hi e)
      have hv5 := owns_frm ho3 hf5 (fun i hi e => owns_apart ho3 (owns_below hr2 hb23) (by decide) hi e)
      have hf6 : Frm (fun b => b = j) W5 (W5.setCell ⟨j, 4, none⟩ (.slice (some ⟨g, 0, none⟩) (k + 1) c)) := Frm.setCell (F := fun b => b = j) (p := ⟨j, 4, none⟩) (Frm.refl _ _) (fun _ => rfl) _
      refine ⟨g, c, W5, hap, hj5.c4, hj5.f 4, hj5.lt, Lib.hid ⟨pv', _, v, hj5.setRecs _, hd5.frm hf6 (fun e => hjF (.inl e.symm)) (fun e => by have h1 := hd5.row; unfold JAt at hj5; rw [e, hj5] at h1; simp at h1), owns_frm ho5 hf6 (fun i hi e => owns_ne ho5 hj5 (by decide) (e ▸ hi)), owns_frm hown hf6 (fun i hi e => owns_ne hown hj5 (by decide) (e ▸ hi)), (owns_frm hv5 hf6 (fun i hi e => owns_ne hv5 hj5 (by decide) (e ▸ hi))).base (by simp; omega), ?_, ?_⟩⟩
      · exact ((hf2.weaken fun _ _ e => e.imp id .inl).then hf25 (fun _ _ e => .inr (.inr e))).then hf6 (fun _ _ e => .inr (.inl e))
      · rcases hloc with e | e
        · exact .inl e.symm
        · exact .inr fun b hb => by simp [Value.ownBlock] at hb; omega
    have r4 := hj2.c4
    have rf4 := hj2.f 4
    have hj2l := hj2.lt
    clear hj2 hfj hf2 hrd2 hd2 ho2 hr2 hrF hrd hA ho
    go_wp2_with (fail)
    go_region_law (first
      | (go_simp; go_at_call 48; refine HCL.out.mono ?_; rintro e W3 ⟨v, rfl, ho3, hb3⟩; obtain ⟨A3, c3, rfl, _, _, _⟩ := owns_slice ho3; obtain ⟨g, c, W5, hap, q4, qf, ql, HP⟩ := HAP.out W3 _ hb3 ho3 rfl; have p4l : j < W3.heap.size := (Nat.lt_of_lt_of_le hj2l hb3.size); have p4 : W3.cell? ⟨j, 4, none⟩ = some (.slice Av k cv) := (hb3.cell (p := ⟨j, 4, none⟩) hj2l).trans r4))
    all_goals
      go_wp2_with (fail)
      go_end0
      exact ⟨rfl, HP.out⟩
end Go.Proofs.YtchiikfdmogfpaaGreatDoor
