/- store: right, Encode. -/
import Derived.Test.YtchiikfdmogfpaaGreatDoorJour11
import Derived.Deep.RegionLaw
import Derived.Deep.RegionHeld3
import Derived.Lib.AppendStr
namespace Go.Proofs.YtchiikfdmogfpaaGreatDoor
open Go.RowKit

/-- A pair: its key, its value's slice and bytes, whether it goes. -/
structure Pr where
  key : Bytes
  A : Option Addr
  c : Nat
  val : Bytes
  gone : Bool
def Pr.cells (p : Pr) : List Value := [.string ⟨p.key.toArray⟩, .slice p.A p.val.length p.c, .bool p.gone]
structure Pr.Ok (p : Pr) (w : World) : Prop where
  k1 : 1 ≤ p.key.length
  k2 : p.key.length ≤ 1000
  hv : p.val.length ≤ 100000
  hc : p.val.length ≤ p.c
  hg : p.gone = true → p.val = []
  rd : Rd w p.A (p.val.map bv)

set_option maxRecDepth 20000 in
set_option maxHeartbeats 1000000 in
theorem right_yes (key : Bytes) (A : Option Addr) (n c : Nat) (gone : Bool) (w : World) (h1 : 1 ≤ key.length) (h2 : key.length ≤ 1000) (hg : gone = true → n = 0) :
    Calls Tryz.prog 54 #[.agg #[.string ⟨key.toArray⟩, .slice A n c, .bool gone]] w fun e w' => e = .returned (.bool true) ∧ Below w.heap.size w w' := by
  have e1 : (0 : Int) < (key.length : Int) := by omega
  have e2 : (key.length : Int) ≤ 1000 := by omega
  have hb := (Below.refl w.heap.size w).alloc (Nat.le_refl _) (.cells #[.string ⟨key.toArray⟩, .slice A n c, .bool gone] 69)
  cases gone with
  | false =>
    go_enter Tryz.func54, Tryz.ntmps54
    go_wp2
    go_ret
    exact ⟨rfl, hb⟩
  | true =>
    obtain rfl := hg rfl
    go_enter Tryz.func54, Tryz.ntmps54
    go_wp2
    go_ret
    exact ⟨rfl, hb⟩

section
variable (ρ : Operand → Value) (dst : Option Tmp) (x y : Operand) (ty : TypeId) (pos : String) (after : Array Edge) (guard : Option (Nat × Bool))
theorem exec_append24 : execOp ρ { dst, op := .call { callee := .builtin .append, args := #[x, y], argTypes := #[24, 24] }, type := ty, pos, after, guard } = appendOp 24 ty (ρ x) (ρ y) := by simp [BigFrame.execOp_builtin, BigFrame.builtin_append, appendOp]
def appendStrOp (t u ty : TypeId) (s x : Value) : Sem Next := do pure (.value (← Builtin.append_ #[t, u] ty #[s, x]))
theorem exec_append24s : execOp ρ { dst, op := .call { callee := .builtin .append, args := #[x, y], argTypes := #[24, 9] }, type := ty, pos, after, guard } = appendStrOp 24 9 ty (ρ x) (ρ y) := by simp [BigFrame.execOp_builtin, BigFrame.builtin_append, appendStrOp]
end
theorem Frm.of_grown {w w' : World} {row : Option Nat} (h : w.grownBy w' row) : Frm (fun b => row = some b) w w' := ⟨h.os, h.tape, h.output, h.size, fun i hi hn => h.block i hi (fun e => hn e.symm)⟩
/-- Bytes that can be read are put behind a row of one's own. -/
theorem append_rd {w : World} (base : Nat) (v : Value) (n : Nat) (xs : List Value) (ho : w.ownsRow base 5 1 v n xs) (A : Option Addr) (l : Bytes) (c : Nat) (hrd : Rd w A (l.map bv)) (hb : base ≤ w.heap.size) (hl : n + l.length ≤ 100000000000) :
    ∃ v' w', (appendOp 24 24 v (.slice A l.length c)).run Tryz.prog w = .ok (.value v') w' ∧ w'.ownsRow base 5 1 v' (n + l.length) (xs ++ l.map bv) ∧ Frm (fun b => v.ownBlock = some b) w w' := by
  obtain ⟨i0, hi, hz0, hz1, hz2⟩ := info_parts Tryz.infoU8
  cases A with
  | none =>
    have h0 : l = [] := by
      apply Classical.byContradiction; intro hne
      obtain ⟨b, o, e, _⟩ := hrd (by simpa using hne)
      cases e
    subst h0
    refine ⟨v, w, run_appendOp ?_, by simpa using ho, Frm.refl _ _⟩
    rcases ho.2 with ⟨rfl, rfl⟩ | ⟨g, cap, cur, rfl, _, _, hnc, _⟩
    · simp [Builtin.append_, run_underlying Tryz.under5, sizeOf, typeInfo, hi, Builtin.lenOf, Builtin.firstCells]
    · simp [Builtin.append_, run_underlying Tryz.under5, sizeOf, typeInfo, hi, Builtin.lenOf, Builtin.firstCells, hnc, storeCells]
  | some a =>
    obtain ⟨v', w', hap, hown, hgr, _, _⟩ := run_append_own_at (P := Tryz.prog) (w := w) base 24 24 5 i0 (.int .u8 0) 1 1 Tryz.under5 hi hz0 hz1 hz2 rfl (by decide) v n xs ho a l.length c (l.map bv) (by simp)
      (fun j u hj => by
        obtain ⟨b, o, e, _, hc⟩ := hrd (by intro e; rw [e] at hj; simp at hj)
        simp only [Option.some.injEq] at e; subst e
        rw [Addr.add_lit]; exact hc j u hj) (bvs_one l) (by unfold maxLen; omega) (by omega) hb
    exact ⟨v', w', run_appendOp hap, hown, Frm.of_grown hgr⟩
/-- A text's bytes are put behind a row of one's own. -/
theorem append_str {w : World} (base : Nat) (v : Value) (n : Nat) (xs : List Value) (ho : w.ownsRow base 5 1 v n xs) (l : Bytes) (hb : base ≤ w.heap.size) (hl : n + l.length ≤ 100000000000) :
    ∃ v' w', (appendStrOp 24 9 24 v (.string ⟨l.toArray⟩)).run Tryz.prog w = .ok (.value v') w' ∧ w'.ownsRow base 5 1 v' (n + l.length) (xs ++ l.map bv) ∧ Frm (fun b => v.ownBlock = some b) w w' := by
  obtain ⟨i0, hi, hz0, hz1, hz2⟩ := info_parts Tryz.infoU8
  have hsz : (ByteArray.mk l.toArray).size = l.length := by simp [ByteArray.size]
  obtain ⟨v', w', hap, hown, hgr, _⟩ := Lib.run_append_own_string (P := Tryz.prog) w base 24 9 24 5 i0 Tryz.under5 Tryz.underlying9 hi hz0 hz1 hz2 v n xs ho ⟨l.toArray⟩ (by rw [hsz]; unfold maxLen; omega) (by rw [hsz]; omega) hb
  refine ⟨v', w', by unfold appendStrOp; simp [hap], ?_, Frm.of_grown hgr⟩
  rw [hsz] at hown
  exact hown
end Go.Proofs.YtchiikfdmogfpaaGreatDoor
