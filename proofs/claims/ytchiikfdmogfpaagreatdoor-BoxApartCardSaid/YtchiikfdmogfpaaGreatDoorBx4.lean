/- box.Fetch of a mail. -/
import Derived.Test.YtchiikfdmogfpaaGreatDoorBx3
import Derived.RegionTactic
namespace Go.Proofs.YtchiikfdmogfpaaGreatDoor
open Go.RowKit
section
variable (ρ : Operand → Value) (dst : Option Tmp) (x y : Operand) (ty : TypeId) (pos : String) (after : Array Edge) (guard : Option (Nat × Bool))
theorem exec_slice24t : execOp ρ { dst, op := .slice 24 x (some y) none none, type := ty, pos, after, guard } = sliceOp 24 (ρ x) (some (ρ y)) none none := rfl
end
attribute [local go_sem ↓] exec_storeMail exec_slice24t
theorem tail_slice {P : Program} {ty e : TypeId} (hu : P.underlying ty = some (.slice e)) (hs : ∀ w, (sizeOf e).run P w = .ok 1 w) (A : Option Addr) (len cap : Nat) (l : Int) (lo : Nat) (hl : l = lo) (h1 : lo ≤ len) (h2 : len ≤ cap) :
    ∃ A', (∀ w, (Instr.sliceAt ty (.slice A len cap) (some (.int .i64 l)) none none).run P w = .ok (.slice A' (len - lo) (cap - lo)) w) ∧ (∀ w xs, xs.length = len → Rd w A xs → Rd w A' (xs.drop lo)) ∧ (∀ a', A' = some a' → ∃ a, A = some a ∧ a.block = a'.block) := by
  subst hl
  refine ⟨if cap = lo then A else A.map (·.add lo), fun w => ?_, fun w xs hx hr => ?_, fun a' ha => ?_⟩
  · simp [Instr.sliceAt, Instr.slice, Sem.run_bind, run_underlying hu, Result.andThen, Instr.sliceBounds, Instr.sliceBound, asIntOf, h1, hs]
  · split
    · rename_i e
      rw [List.drop_of_length_le (by omega)]; exact Rd.nil _ _
    · exact hr.drop lo
  · split at ha
    · exact ⟨a', ha, rfl⟩
    · cases A with
      | none => cases ha
      | some a => simp only [Option.map_some, Option.some.injEq] at ha; subst ha; exact ⟨a, rfl, by unfold Addr.add; split <;> rfl⟩
theorem w4_drew {F : Nat → Prop} {a b : World} (h : Frm F a.drew b) : Frm F a b := ⟨h.os, h.tape, h.output, h.size, h.block⟩
theorem sizeU8w (w : World) : (sizeOf 5).run Tryz.prog w = .ok 1 w := by kernel_rfl

/-- Bytes that can be read, in a block of bytes. -/
def Bs (w : World) (A : Option Addr) (l : Bytes) : Prop := Rd w A (l.map bv) ∧ ∀ a, A = some a → ∃ cur, w.heap[a.block]? = some (.cells cur 5 (0, 0))
theorem Bs.frm {F : Nat → Prop} {w w' : World} {A : Option Addr} {l : Bytes} (h : Bs w A l) (hf : Frm F w w') (hn : NoBytes w F) : Bs w' A l :=
  ⟨Rd.frm h.1 hf (fun a e hF => by obtain ⟨cur, hc⟩ := h.2 a e; exact hn _ hF cur hc), fun a e => by
    obtain ⟨cur, hc⟩ := h.2 a e
    exact ⟨cur, (hf.block _ (Array.getElem?_eq_some_iff.1 hc).1 (fun hF => hn _ hF cur hc)).trans hc⟩⟩

set_option maxRecDepth 20000 in
set_option maxHeartbeats 1000000 in
theorem fetch_yes {B bx : Nat} {S : Sv} {w : World} (h : Bx B bx S w) {V : BState} (hr : BRel S.C V) (f : Bytes) (u : Nat) (hu : u ≤ 9223372036854775807) (fl : Nat) (b : Bytes) (hm : V.mail f u = some (fl, b)) :
    Calls Tryz.prog 20 #[.pointer (some ⟨bx, 0, none⟩), .string ⟨f.toArray⟩, .int .i64 u] w fun e w' => ∃ A c, e = .returned (.tuple #[.agg #[.int .i64 u, .int .i64 fl, .slice A b.length c], .int .i64 0]) ∧ b.length ≤ c ∧ Rd w' A (b.map bv) ∧
      (∀ a, A = some a → w.heap.size ≤ a.block ∧ ∃ cur, w'.heap[a.block]? = some (.cells cur 5 (0, 0))) ∧ Below w.heap.size w w' := by
  obtain ⟨hfo, hu1, _, hfl⟩ := hr.has f u _ hm
  have hflen := folder_length hfo
  have HF := Lib.hid (fun w => folder_any f (by omega) w)
  rw [hfo] at HF
  have hC := hr.mail f u hfo hu1
  rw [hm] at hC
  simp only [Option.map_some] at hC hfl
  obtain ⟨W1, hW1⟩ : ∃ W1, w.alloc (.cells #[.int .i64 0, .int .i64 0, .slice none 0 0] 46) = W1 := ⟨_, rfl⟩
  have hb1 : Below w.heap.size w W1 := by rw [← hW1]; exact (Below.refl _ _).alloc (Nat.le_refl _) _
  have hB1 := (h.below hb1)
  have hs1 : W1.heap.size = w.heap.size + 1 := by rw [← hW1]; simp
  have hm1 : W1.heap[w.heap.size]? = some (.cells #[.int .i64 0, .int .i64 0, .slice none 0 0] 46 (0, 0)) := by rw [← hW1]; exact hal_at rfl
  have c0 := h.c0
  have d0 := hB1.c0
  have hkl : (mkeyOf f u).length ≤ 1000000000000000 := by have := numOf_length_le u (by omega) (by omega); simp only [mkeyOf, frontOf, List.length_append, List.length_cons, List.length_nil]; omega
  have HK := Lib.hid (key_any f (by omega) u (by omega) (by omega) W1.drew (hB1.below ((Below.refl _ _).drew)).tab)
  have HG : Hid (∀ W2, Below W1.drew.heap.size W1.drew W2 → Hid (Calls Tryz.prog 31 #[.pointer (some ⟨S.s, 0, none⟩), .string ⟨(mkeyOf f u).toArray⟩] W2 fun e w' => ∃ v, e = .returned (.tuple #[v, .bool true]) ∧ w'.ownsRow W2.heap.size 5 1 v (b.length + 1) ((UInt8.ofNat fl :: b).map bv) ∧ Below W2.heap.size W2 w')) := Lib.hid fun W2 hb2 => by
    have hB2 := (hB1.below ((Below.refl _ _).drew)).below hb2
    have := get_any S.s S.j S.b S.mn S.M S.C (mkeyOf f u) W2 hB2.st.st hB2.st.m hB2.st.h hkl (fun l e => by have := (hB2.st.ok _ l e).2.2; omega)
    rw [hC] at this
    exact Lib.hid this
  have HB := Lib.hid (And.intro hb1 hs1)
  have HM := Lib.hid hm1
  have hlt : bx < W1.drew.heap.size := lt_of_cell d0
  have HU := Lib.hid (And.intro hu1 (And.intro hfl hfo))
  clear h hr hm hb1 hB1 hs1 hm1 hC hfo hflen hkl
  go_enter Tryz.func20, Tryz.ntmps20
  go_wp2_with (fail)
  go_region_held3 (fun w' => w'.cell? ⟨bx, 0, none⟩ = some (.pointer (some ⟨S.s, 0, none⟩)))
    (first | exact d0 | exact k0 | exact k1)
    (first | (go_at_call 28; refine Calls.mono (by with_reducible exact HK.out) ?_; rintro e w2 ⟨rfl, hb2⟩; have HG2 := HG.out w2 hb2; have k0 := (hb2.cell (p := ⟨bx, 0, none⟩) hlt).trans d0; have hlt2 := lt_of_cell k0) | (go_at_call 31; refine Calls.mono (by with_reducible exact HG2.out) ?_; rintro e w3 ⟨v, rfl, ho3, hb3⟩; have k1 := (hb3.cell (p := ⟨bx, 0, none⟩) hlt2).trans k0))
  have hb13 : Below w.heap.size w w3 := HB.out.1.trans (((below_drew0 hb2).trans (hb3.mono hb2.size)).mono (by have := HB.out.2; omega))
  have hs2 : w.heap.size + 1 ≤ w2.heap.size := by have := hb2.size; have := HB.out.2; simp at *; omega
  have hm3 : w3.heap[w.heap.size]? = some (.cells #[.int .i64 0, .int .i64 0, .slice none 0 0] 46 (0, 0)) :=
    (hb3.block _ (by omega)).trans ((hb2.block _ (by have := HB.out.2; simp; omega)).trans HM.out)
  have ho3 := ho3.base hs2
  have H13 := Lib.hid (And.intro hb13 (And.intro hm3 ho3))
  obtain ⟨g, c, rfl⟩ := ownsRow_succ ho3
  have eu : ¬ ((u : Int) < 1) := by have := HU.out.1; omega
  have eu' : decide ((u : Int) < 1) = false := by simpa using eu
  have HEU := Lib.hid eu
  clear hb13 hm3 hb2 hb3 d0 k0 k1 HK HG HG2 HM HB ho3 hW1 eu
  go_wp2_with (fail)
  refine (HF.out _).mono ?_
  rintro e w4 ⟨rfl, hb4⟩
  obtain ⟨hb13, hm3, ho3⟩ := H13.out
  have hb14 := hb13.trans (hb4.mono hb13.size)
  have hm4 := (hb4.block _ (Array.getElem?_eq_some_iff.1 hm3).1).trans hm3
  have ho4 := owns_below ho3 hb4
  have g0 : w4.cell? ⟨g, 0, none⟩ = some (.int .u8 (fl : Int)) := by
    have := ho4.cellAt 0 (by omega)
    rw [this]
    simp only [List.map_cons, bv_ofNat]
    have := HU.out.2.1
    simp; omega
  obtain ⟨A2, c2, he2, hc2, hl2, hr2⟩ := owns_slice ho4
  simp only [Value.slice.injEq, true_and] at he2
  obtain ⟨rfl, rfl⟩ := he2
  obtain ⟨A', hsl, hrd, hA'⟩ := tail_slice (P := Tryz.prog) Tryz.under5 sizeU8w (some ⟨g, 0, none⟩) (b.length + 1) c 1 1 rfl (by omega) hc2
  have hsl4 := fun w => run_sliceOp (hsl w)
  simp only [Nat.add_sub_cancel] at hsl4
  have hR4 := hrd w4 _ hl2 hr2
  simp only [List.map_cons, List.drop_succ_cons, List.drop_zero] at hR4
  obtain ⟨w5, hst, hm5, hf5⟩ := store_mail (w := w4.drew) hm4 rfl (.int .i64 u) (.int .i64 fl) (.slice A' b.length (c - 1)) rfl rfl rfl
  have HQ := Lib.hid (And.intro hm5 (And.intro hf5 (And.intro hR4 (And.intro hb14 (And.intro hA' (And.intro ho4 (And.intro hc2 hm4)))))))
  have hb0 : (0 : Int) < ((b.length : Nat) : Int) + 1 := by omega
  have hfl0 : (0 : Int) ≤ (fl : Int) := by omega
  have hfl1 : (fl : Int) ≤ 15 := by have := HU.out.2.1; omega
  clear hm5 hf5 hR4 hb14 hA' ho4 hb4 hm4 hm3 ho3 hb13 hl2 hr2 hc2 hrd hsl
  go_wp2_with (fail)
  go_region
  go_wp2_with (fail)
  obtain ⟨hm5, hf5, hR4, hb14, hA', ho4, hc2, hm4⟩ := HQ.out
  have hgm : g ≠ w.heap.size := by have := (ho4.lt g rfl).1; omega
  have hbl : ∀ a, A' = some a → a.block = g := fun a e => by obtain ⟨a0, e0, e1⟩ := hA' a e; cases e0; exact e1.symm
  refine bodyPost_ret (v := .tuple #[.agg #[.int .i64 u, .int .i64 fl, .slice A' b.length (c - 1)], .int .i64 0]) (results_cell_tmp rfl _ _ ⟨w.heap.size, 0, none⟩ _ _ rfl rfl (load_mail hm5)) rfl ⟨A', c - 1, rfl, by omega, ?_, ?_, ?_⟩
  · exact Rd.frm (w := w4.drew) hR4 hf5 (fun a e => by rw [hbl a e]; exact hgm)
  · intro a e
    rw [hbl a e]
    obtain ⟨cur, hcur⟩ := owns_elem ho4 (g := g) rfl
    exact ⟨by have := (ho4.lt g rfl).1; omega, cur, (hf5.block g (ho4.lt g rfl).2 hgm).trans hcur⟩
  · exact hb14.trans ((Frm.weaken (w4_drew hf5) (G := fun b => w.heap.size ≤ b) (fun i _ e => by omega)).below' (by have := hb14.size; omega))
end Go.Proofs.YtchiikfdmogfpaaGreatDoor
