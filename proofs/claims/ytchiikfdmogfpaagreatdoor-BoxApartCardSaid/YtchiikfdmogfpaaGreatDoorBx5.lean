/- box.List. -/
import Derived.Test.YtchiikfdmogfpaaGreatDoorBx4
import Derived.Test.YtchiikfdmogfpaaGreatDoorSt10
import Derived.Lib.AtoiErrMem
namespace Go.Proofs.YtchiikfdmogfpaaGreatDoor
open Go.RowKit
/-- A number as a value. -/
def iv (u : Nat) : Value := .int .i64 u
section
variable (ρ : Operand → Value) (dst : Option Tmp) (x y : Operand) (ty : TypeId) (pos : String) (after : Array Edge) (guard : Option (Nat × Bool))
theorem exec_append35 : execOp ρ { dst, op := .call { callee := .builtin .append, args := #[x, y], argTypes := #[35, 35] }, type := ty, pos, after, guard } = appendOp 35 ty (ρ x) (ρ y) := by simp [BigFrame.execOp_builtin, BigFrame.builtin_append, appendOp]
theorem exec_slice9 : execOp ρ { dst, op := .slice 9 x (some y) none none, type := ty, pos, after, guard } = sliceOp 9 (ρ x) (some (ρ y)) none none := rfl
end
attribute [local go_sem ↓ high] exec_append35
attribute [local go_sem ↓] exec_slice9
theorem Tryz.infoInt : (Tryz.prog.info? 3).map (fun i => (i.zero, i.size, i.bytes)) = some (some (.int .i64 0), 1, 8) := by kernel_rfl
theorem Tryz.underInts : Tryz.prog.underlying 35 = some (.slice 3) := by kernel_rfl
/-- One more number is put behind the others. -/
theorem append_int (W3 : World) (base k : Nat) (v : Value) (u : Nat) (xs : List Value) (ho : W3.ownsRow base 3 1 v k xs) (hb : base ≤ W3.heap.size) (hk : k ≤ 10000000) :
    ∃ g c W5, (appendOp 35 35 v (.slice (some ⟨W3.heap.size, 0, none⟩) 1 1)).run Tryz.prog (W3.alloc (.cells #[.int .i64 u] 3)) = .ok (.value (.slice (some ⟨g, 0, none⟩) (k + 1) c)) W5 ∧
      W5.ownsRow base 3 1 (.slice (some ⟨g, 0, none⟩) (k + 1) c) (k + 1) (xs ++ [iv u]) ∧ W3.grownBy W5 v.ownBlock := by
  obtain ⟨i0, hi, hz0, hz1, hz2⟩ := info_parts Tryz.infoInt
  obtain ⟨rv', W5, hap, hown, hgr, _, _⟩ := run_append_own_at (P := Tryz.prog) (w := W3.alloc (.cells #[.int .i64 u] 3)) base 35 35 3 i0 _ 1 8 Tryz.underInts hi hz0 hz1 hz2 rfl (by decide) v k xs (ho.alloc _) ⟨W3.heap.size, 0, none⟩ 1 1 [iv u] rfl
    ((RowAt.new W3 #[iv u] 3 (n := 1) rfl rfl).src) (by intro u hu; simp at hu; subst hu; rfl) (by unfold maxLen; omega) (by omega) (by simp; omega)
  obtain ⟨g, c, rfl⟩ := ownsRow_succ hown
  exact ⟨g, c, W5, run_appendOp hap, hown, (World.grownBy_alloc W3 _ _).trans hgr⟩
theorem slice_text (a b : Bytes) (n : Int) (hn : n = a.length) (w : World) : (sliceOp 9 (.string ⟨(a ++ b).toArray⟩) (some (.int .i64 n)) none none).run Tryz.prog w = .ok (.value (.string ⟨b.toArray⟩)) w := by
  subst hn
  refine run_sliceOp ?_
  simp [Instr.sliceAt, Instr.slice, Sem.run_bind, run_underlying Tryz.underlying9, Result.andThen, Instr.sliceBounds, Instr.sliceBound, asIntOf, sizeB]
  apply ByteArray.ext
  simp

theorem list_bad {C : Bytes → Option Bytes} {V : BState} (h : BRel C V) {f : Bytes} (hf : folderOk f = false) : V.list f = [] := by
  apply List.eq_nil_iff_forall_not_mem.2
  intro u hu
  have := (mem_list h f u).1 hu
  obtain ⟨p, hp⟩ := Option.isSome_iff_exists.1 this
  have := (h.has f u p hp).1
  rw [hf] at this; cases this

set_option maxRecDepth 20000 in
set_option maxHeartbeats 1000000 in
theorem list_any {B bx : Nat} {S : Sv} {w : World} (h : Bx B bx S w) {V : BState} (hr : BRel S.C V) (hmn : S.mn ≤ 10000) (f : Bytes) (hf : f.length ≤ 900000000000000) :
    Calls Tryz.prog 22 #[.pointer (some ⟨bx, 0, none⟩), .string ⟨f.toArray⟩] w fun e w' => ∃ v, e = .returned v ∧ w'.ownsRow w.heap.size 3 1 v (V.list f).length ((V.list f).map iv) ∧ Below w.heap.size w w' := by
  have HF := Lib.hid (folder_any f (by omega) w)
  have c0 := h.c0
  cases hfo : folderOk f with
  | false =>
    rw [hfo] at HF
    have HL := Lib.hid (list_bad hr hfo)
    clear hfo h hr c0
    go_enter Tryz.func22, Tryz.ntmps22
    go_wp2_with (fail)
    refine HF.out.mono ?_
    rintro e w1 ⟨rfl, hb1⟩
    go_wp2_with (fail)
    go_ret
    exact ⟨_, rfl, by rw [HL.out]; exact World.ownsRow_nil _ _ _ _, hb1⟩
  | true =>
    rw [hfo] at HF
    have HR := Lib.hid (And.intro h (And.intro hr hfo))
    have hlt : bx < w.heap.size := h.lt
    have HFR := Lib.hid (fun w => front_any f (by omega) w)
    have HK : Hid (∀ W, Below w.heap.size w W → Hid (Calls Tryz.prog 32 #[.pointer (some ⟨S.s, 0, none⟩), .string ⟨(frontOf f).toArray⟩] W fun e w' => ∃ (A : Option Addr) (c : Nat), e = .returned (.slice A (V.list f).length c) ∧
        Rd w' A (((V.list f).map fun (u : Nat) => mkeyOf f (u : Int)).map encStr) ∧ (V.list f).length ≤ 10000 ∧ Below W.heap.size W w')) := Lib.hid fun W hb => by
      have hB := h.below hb
      refine Lib.hid ((keys_any S.s S.j S.b S.mn S.M (frontOf f) W hB.st.st hB.st.m hmn).mono ?_)
      rintro e w' ⟨A, c, ks, rfl, h1, h2, h3, h4, h5, h6⟩
      have hks := keys_list hr f hfo ks h3 h4 (fun k => by
        rw [h5 k]
        have := h.st.h k
        constructor
        · rintro ⟨q1, q2⟩; refine ⟨fun hc => ?_, q2⟩; rw [this.1 hc] at q1; cases q1
        · rintro ⟨q1, q2⟩
          refine ⟨?_, q2⟩
          cases hc : S.C k with
          | none => exact absurd hc q1
          | some l => obtain ⟨v, hv, _⟩ := this.2 l hc; rw [hv]; rfl)
      subst hks
      rw [List.length_map] at h2 ⊢
      exact ⟨A, c, rfl, h1, by omega, h6⟩
    have HLT := Lib.hid (list_lt hr f)
    obtain ⟨ls, hls⟩ : ∃ ls, V.list f = ls := ⟨_, rfl⟩
    rw [hls] at HK HLT ⊢
    clear hfo h hr hls
    go_enter Tryz.func22, Tryz.ntmps22
    go_wp2_with (fail)
    refine HF.out.mono ?_
    rintro e w1 ⟨rfl, hb1⟩
    have d0 := (hb1.cell (p := ⟨bx, 0, none⟩) hlt).trans c0
    have HK1 := HK.out w1.drew hb1.drew
    have hlt1 := lt_of_cell d0
    have HB1 := Lib.hid hb1
    clear hb1 c0 HK
    go_wp2_with (fail)
    go_region_held3 (fun w' => w'.cell? ⟨bx, 0, none⟩ = some (.pointer (some ⟨S.s, 0, none⟩)))
      (first | exact d0 | exact k1)
      (first | (go_at_call 33; refine Calls.mono (by with_reducible exact HFR.out _) ?_; rintro e w2 ⟨rfl, rfl⟩) | (go_at_call 32; refine Calls.mono (by with_reducible exact HK1.out) ?_; rintro e w3 ⟨A, c, rfl, hrd3, hlen3, hb3⟩; have k1 := (hb3.cell (p := ⟨bx, 0, none⟩) hlt1).trans d0))
    have hs1 := HB1.out.size
    have hb13 : Below w.heap.size w w3 := HB1.out.trans ((below_drew0 hb3).mono hs1)
    have HB := Lib.hid hb13
    have HX := Lib.hid (And.intro hb3 hlen3)
    have HRD := Lib.hid hrd3
    clear d0 k1 hb13 hb3 HB1 HK1 hrd3 hlen3 hs1
    go_wp2_with (fail)
    go_loopw [4, 20] (fun o i wr => ∃ k : Nat, k ≤ ls.length ∧ i = .int .i64 k ∧ wr.ownsRow w3.heap.size 3 1 o k ((ls.take k).map iv) ∧ Below w3.heap.size w3 wr) (fun _ i _ => ls.length - (intOf i).toNat)
    case atStart => exact ⟨0, Nat.zero_le _, rfl, World.ownsRow_nil _ _ _ _, Below.refl _ _⟩
    case round =>
      obtain ⟨k, hk, rfl, hown, hbr⟩ := hrel
      have hlen := HX.out.2
      by_cases hlt : k < ls.length
      · obtain ⟨u, hu⟩ : ∃ u, ls[k] = u := ⟨_, rfl⟩
        have hul : u < 10000000000 := HLT.out u (hu ▸ List.getElem_mem hlt)
        obtain ⟨g, o, rfl, hgl, hc⟩ := HRD.out (by intro e; have := congrArg List.length e; simp at this; rw [this] at hlt; simp at hlt)
        have hcell : wr.cell? ⟨g, o + k, none⟩ = some (.string ⟨(frontOf f ++ numOf (u : Int)).toArray⟩) :=
          (hbr.cell (p := ⟨g, o + k, none⟩) hgl).trans (hc k _ (by simp [hlt, hu, encStr, mkeyOf]))
        have HAT := Lib.hid (fun w => Tryz.strconv_Atoi ⟨(numOf (u : Int)).toArray⟩ (u : Int) (by rw [sizeB, numOf_length hul]; decide) (numOf_atoi u) w)
        have HSL := fun w => slice_text (frontOf f) (numOf (u : Int)) ((frontOf f).length : Int) rfl w
        have hws := hbr.size
        have HAP : Hid (∀ W, Below wr.heap.size wr W → ∃ g c W5, (appendOp 35 35 u4 (.slice (some ⟨W.heap.size, 0, none⟩) 1 1)).run Tryz.prog (W.alloc (.cells #[.int .i64 u] 3)) = .ok (.value (.slice (some ⟨g, 0, none⟩) (k + 1) c)) W5 ∧
            Hid (W5.ownsRow w3.heap.size 3 1 (.slice (some ⟨g, 0, none⟩) (k + 1) c) (k + 1) ((ls.take (k + 1)).map iv) ∧ Below w3.heap.size w3 W5)) := Lib.hid fun W hb => by
          have ho := owns_below hown hb
          have hW := hb.size
          obtain ⟨g, c, W5, hap, ho5, hg5⟩ := append_int W w3.heap.size k u4 u _ ho (by omega) (by have := HX.out.2; omega)
          refine ⟨g, c, W5, hap, Lib.hid ⟨?_, ?_⟩⟩
          · rw [List.take_succ_eq_append_getElem hlt, hu, List.map_append]; exact ho5
          · exact (hbr.trans (hb.mono hws)).trans (((Frm.of_grown hg5).weaken (G := fun b => w3.heap.size ≤ b) (fun i _ e => (ho.lt i e).1)).below' (by omega))
        clear hown hc hbr hu
        go_wp2_with (fail)
        refine (HFR.out _).mono ?_
        rintro e w4 ⟨rfl, rfl⟩
        go_wp2_with (fail)
        refine (HAT.out _).mono ?_
        rintro e w5 ⟨rfl, t, ht⟩
        have hb5 : Below wr.heap.size wr w5 := by rw [ht]; exact Lib.bytesWorld_below _ _ _
        obtain ⟨g6, c6, W6, hap, HQ⟩ := HAP.out w5 hb5
        clear ht
        go_wp2_with (fail)
        go_roundw
        case rel => exact ⟨k + 1, hlt, by go_num, HQ.out.1, HQ.out.2⟩
        case measure => simp [intOf]; omega
      · obtain rfl : k = ls.length := by omega
        go_wp2_with (fail)
        go_ret
        rw [List.take_length] at hown
        exact ⟨_, rfl, hown.base (by have := HB.out.size; omega), HB.out.trans (hbr.mono HB.out.size)⟩
end Go.Proofs.YtchiikfdmogfpaaGreatDoor
