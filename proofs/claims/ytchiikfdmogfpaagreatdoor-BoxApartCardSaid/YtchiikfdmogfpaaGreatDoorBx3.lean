/- box.Fetch. -/
import Derived.Test.YtchiikfdmogfpaaGreatDoorBx2
import Derived.Deep.RegionHeld3
namespace Go.Proofs.YtchiikfdmogfpaaGreatDoor
open Go.RowKit

theorem results_cell_tmp {P : Program} {fn : Func} {p q : Tmp} {t : TypeId} (h : fn.results = #[.cell p t, .tmp q]) (tmps : Array Value) (w : World) (a : Addr) (v x : Value)
    (hp : tmps.getD p undef = .pointer (some a)) (hq : tmps.getD q undef = x) (h1 : (loadVar t a).run P w = .ok v w) :
    (results fn tmps).run P w = .ok (.tuple #[v, x]) w := by
  have hp' : tmps[p]?.getD undef = .pointer (some a) := by simpa using hp
  have hq' : tmps[q]?.getD undef = x := by simpa using hq
  simp [results, h, hp', hq', asAddr, h1]

theorem below_drew0 {a b : World} (h : Below a.drew.heap.size a.drew b) : Below a.heap.size a b := ⟨h.os, h.tape, h.output, h.size, h.block⟩
theorem Tryz.rowMail : (Tryz.prog.info? 46).map (·.size) = some 3 := by kernel_rfl
section
variable (ρ : Operand → Value) (dst : Option Tmp) (x y : Operand) (ty : TypeId) (pos : String) (after : Array Edge) (guard : Option (Nat × Bool))
theorem exec_storeMail : execOp ρ { dst, op := .store 46 x y, type := ty, pos, after, guard } = storeOp 46 (ρ x) (ρ y) := rfl
end
theorem store_mail {w : World} {m : Nat} {c : Array Value} (hm : w.heap[m]? = some (.cells c 46 (0, 0))) (hc : c.size = 3) (x y z : Value) (h1 : x.oneCell' = true) (h2 : y.oneCell' = true) (h3 : z.oneCell' = true) :
    ∃ w', (storeOp 46 (.pointer (some ⟨m, 0, none⟩)) (.agg #[x, y, z])).run Tryz.prog w = .ok .skip w' ∧ w'.heap[m]? = some (.cells #[x, y, z] 46 (0, 0)) ∧ Frm (fun b => b = m) w w' := by
  obtain ⟨L⟩ := c
  refine ⟨w.setCells m 0 [x, y, z], run_storeOp (store_row 46 (n := 3) (cs := #[x, y, z]) Tryz.rowMail rfl (by simp [h1, h2, h3]) (there_of_block hm 0 3 (by omega))), ?_, ?_⟩
  · rw [heap_setCells_list m _ _ [x, y, z] 0 w L hm (by simp at hc; simp; omega), splice_whole _ _ (by simpa using hc)]
  · exact ⟨(os_setCells _ _ _ _).1, (os_setCells _ _ _ _).2.1, (os_setCells _ _ _ _).2.2, by rw [size_setCells]; exact Nat.le_refl _, fun i _ hn => heap_setCells_other _ _ _ _ _ hn⟩
theorem load_mail {w : World} {m : Nat} {x y z : Value} (hm : w.heap[m]? = some (.cells #[x, y, z] 46 (0, 0))) : (loadVar 46 ⟨m, 0, none⟩).run Tryz.prog w = .ok (.agg #[x, y, z]) w :=
  loadVar_row _ _ Tryz.underlying46 rfl Tryz.rowMail (RowAt.whole hm)
attribute [local go_sem ↓] exec_storeMail

set_option maxRecDepth 20000 in
set_option maxHeartbeats 1000000 in
theorem fetch_no {B bx : Nat} {S : Sv} {w : World} (h : Bx B bx S w) {V : BState} (hr : BRel S.C V) (f : Bytes) (hf : f.length ≤ 900000000000000) (u : Int) (h0 : -9223372036854775808 ≤ u) (h1 : u ≤ 9223372036854775807)
    (hno : ¬ (folderOk f = true ∧ 1 ≤ u ∧ V.mail f u.toNat ≠ none)) :
    Calls Tryz.prog 20 #[.pointer (some ⟨bx, 0, none⟩), .string ⟨f.toArray⟩, .int .i64 u] w fun e w' => e = .returned (.tuple #[.agg #[.int .i64 0, .int .i64 0, .slice none 0 0], .int .i64 7]) ∧ Below w.heap.size w w' := by
  have HF := Lib.hid (fun w => folder_any f (by omega) w)
  obtain ⟨W1, hW1⟩ : ∃ W1, w.alloc (.cells #[.int .i64 0, .int .i64 0, .slice none 0 0] 46) = W1 := ⟨_, rfl⟩
  have hb1 : Below w.heap.size w W1 := by rw [← hW1]; exact (Below.refl _ _).alloc (Nat.le_refl _) _
  have hB1 := (h.below hb1)
  have hs1 : W1.heap.size = w.heap.size + 1 := by rw [← hW1]; simp
  have hm1 : W1.heap[w.heap.size]? = some (.cells #[.int .i64 0, .int .i64 0, .slice none 0 0] 46 (0, 0)) := by rw [← hW1]; exact hal_at rfl
  have c0 := h.c0
  have d0 := hB1.c0
  have hkl : (mkeyOf f u).length ≤ 1000000000000000 := by have := numOf_length_le u h0 h1; simp only [mkeyOf, frontOf, List.length_append, List.length_cons, List.length_nil]; omega
  have HK := Lib.hid (key_any f (by omega) u h0 h1 W1.drew (hB1.below ((Below.refl _ _).drew)).tab)
  have HG : Hid (∀ W2, Below W1.drew.heap.size W1.drew W2 → Hid (Calls Tryz.prog 31 #[.pointer (some ⟨S.s, 0, none⟩), .string ⟨(mkeyOf f u).toArray⟩] W2 fun e w' => ∃ v, e = .returned (.tuple #[v, .bool (S.C (mkeyOf f u)).isSome]) ∧ w'.ownsRow W2.heap.size 5 1 v ((S.C (mkeyOf f u)).getD []).length (((S.C (mkeyOf f u)).getD []).map bv) ∧ Below W2.heap.size W2 w')) := Lib.hid fun W2 hb2 => by
    have hB2 := (hB1.below ((Below.refl _ _).drew)).below hb2
    exact Lib.hid (get_any S.s S.j S.b S.mn S.M S.C (mkeyOf f u) W2 hB2.st.st hB2.st.m hB2.st.h hkl (fun l e => by have := (hB2.st.ok _ l e).2.2; omega))
  have HX := Lib.hid (And.intro h (And.intro hr hno))
  have HB := Lib.hid (And.intro hb1 hs1)
  have HM := Lib.hid hm1
  have hlt : bx < W1.drew.heap.size := lt_of_cell d0
  clear h hr hno hb1 hB1 hs1 hm1
  go_enter Tryz.func20, Tryz.ntmps20
  go_wp2_with (fail)
  go_region_held3 (fun w' => w'.cell? ⟨bx, 0, none⟩ = some (.pointer (some ⟨S.s, 0, none⟩)))
    (first | exact d0 | exact k0 | exact k1)
    (first | (go_at_call 28; refine Calls.mono (by with_reducible exact HK.out) ?_; rintro e w2 ⟨rfl, hb2⟩; have HG2 := HG.out w2 hb2; have k0 := (hb2.cell (p := ⟨bx, 0, none⟩) hlt).trans d0; have hlt2 := lt_of_cell k0) | (go_at_call 31; refine Calls.mono (by with_reducible exact HG2.out) ?_; rintro e w3 ⟨v, rfl, ho3, hb3⟩; have k1 := (hb3.cell (p := ⟨bx, 0, none⟩) hlt2).trans k0))
  have hb13 : Below w.heap.size w w3 := HB.out.1.trans (((below_drew0 hb2).trans (hb3.mono hb2.size)).mono (by have := HB.out.2; omega))
  have hm3 : w3.heap[w.heap.size]? = some (.cells #[.int .i64 0, .int .i64 0, .slice none 0 0] 46 (0, 0)) :=
    (hb3.block _ (by have := hb2.size; have := HB.out.2; simp at *; omega)).trans ((hb2.block _ (by have := HB.out.2; simp; omega)).trans HM.out)
  obtain ⟨ok, hok⟩ : ∃ ok, (S.C (mkeyOf f u)).isSome = ok := ⟨_, rfl⟩
  rw [hok]
  have HOK := Lib.hid hok
  have H13 := Lib.hid (And.intro hb13 hm3)
  clear hok hb13 hm3 hb2 hb3 d0 k0 k1 HK HG HG2 HM HB ho3 hW1
  have HEND : Hid (∀ w4, Below w3.heap.size w3 w4 → ∃ w5, (storeOp 46 (.pointer (some ⟨w.heap.size, 0, none⟩)) (.agg #[.int .i64 0, .int .i64 0, .slice none 0 0])).run Tryz.prog w4 = .ok .skip w5 ∧
      Hid ((loadVar 46 ⟨w.heap.size, 0, none⟩).run Tryz.prog w5 = .ok (.agg #[.int .i64 0, .int .i64 0, .slice none 0 0]) w5 ∧ Below w.heap.size w w5)) := Lib.hid fun w4 hb4 => by
    obtain ⟨hb13, hm3⟩ := H13.out
    obtain ⟨w5, hst, hm5, hf5⟩ := store_mail ((hb4.block _ (Array.getElem?_eq_some_iff.1 hm3).1).trans hm3) rfl (.int .i64 0) (.int .i64 0) (.slice none 0 0) rfl rfl rfl
    exact ⟨w5, hst, Lib.hid ⟨load_mail hm5, (hb13.trans (hb4.mono hb13.size)).trans ((hf5.weaken (G := fun b => w.heap.size ≤ b) (fun i _ e => by omega)).below' (by have := hb13.size; have := hb4.size; omega))⟩⟩
  cases ok with
  | false =>
    obtain ⟨w5, hst, HQ⟩ := HEND.out w3 (Below.refl _ _)
    go_wp2_with (fail)
    exact bodyPost_ret (v := .tuple #[.agg #[.int .i64 0, .int .i64 0, .slice none 0 0], .int .i64 7]) (results_cell_tmp rfl _ _ ⟨w.heap.size, 0, none⟩ _ _ rfl rfl HQ.out.1) rfl ⟨rfl, HQ.out.2⟩
  | true =>
    cases hfo : folderOk f with
    | false =>
      rw [hfo] at HF
      clear hfo
      go_wp2_with (fail)
      refine (HF.out _).mono ?_
      rintro e w4 ⟨rfl, hb4⟩
      obtain ⟨w5, hst, HQ⟩ := HEND.out w4 hb4
      go_wp2_with (fail)
      exact bodyPost_ret (v := .tuple #[.agg #[.int .i64 0, .int .i64 0, .slice none 0 0], .int .i64 7]) (results_cell_tmp rfl _ _ ⟨w.heap.size, 0, none⟩ _ _ rfl rfl HQ.out.1) rfl ⟨rfl, HQ.out.2⟩
    | true =>
      have hu : u < 1 := by
        apply Classical.byContradiction
        intro hu
        obtain ⟨h, hr, hno⟩ := HX.out
        refine hno ⟨hfo, by omega, fun hm => ?_⟩
        have := hr.mail f u.toNat hfo (by omega)
        rw [Int.toNat_of_nonneg (by omega), hm] at this
        have h2 := HOK.out
        rw [this] at h2
        cases h2
      rw [hfo] at HF
      clear hfo
      go_wp2_with (fail)
      refine (HF.out _).mono ?_
      rintro e w4 ⟨rfl, hb4⟩
      obtain ⟨w5, hst, HQ⟩ := HEND.out w4 hb4
      go_wp2_with (fail)
      exact bodyPost_ret (v := .tuple #[.agg #[.int .i64 0, .int .i64 0, .slice none 0 0], .int .i64 7]) (results_cell_tmp rfl _ _ ⟨w.heap.size, 0, none⟩ _ _ rfl rfl HQ.out.1) rfl ⟨rfl, HQ.out.2⟩
end Go.Proofs.YtchiikfdmogfpaaGreatDoor
