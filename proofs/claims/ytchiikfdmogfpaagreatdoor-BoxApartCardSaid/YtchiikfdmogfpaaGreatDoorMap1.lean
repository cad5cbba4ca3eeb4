/- Maps from texts to slices: what is kept in memory is the function M. -/
import Derived.Test.YtchiikfdmogfpaaGreatDoorSt1
import Derived.Maps.OwnSet
import Derived.StringKeys
namespace Go.Proofs.YtchiikfdmogfpaaGreatDoor
open Go.RowKit Go.ChangeMaps

abbrev heldR : Value → Option (DataW Value × List MemPlace) := fun v => some (.held v, [])
def MapAt (w : World) (b n : Nat) (M : Bytes → Option Value) : Prop :=
  ∃ D : DataW Value, w.ownsMap Tryz.prog 9 heldR b n D ∧ ∀ k, Maps.has D (.string k) = (M k).isSome ∧ ∀ v, M k = some v → ∀ z, D.atKey (.string k) z = .held v
def upd (M : Bytes → Option Value) (k : Bytes) (v : Option Value) : Bytes → Option Value := fun x => if x = k then v else M x

theorem Tryz.keyedS : Maps.Keyed Tryz.prog 9 := Maps.string_keyed Tryz.underlying9
theorem Tryz.mapT : Tryz.prog.underlying 90 = some (.map 9 24) := by kernel_rfl
theorem keyS (k : Bytes) (h : k.length ≤ 1000000000000000) : keyOf Tryz.prog 9 (.string ⟨k.toArray⟩) = some (.string k) := by
  have := WideMaps.keyOf_string_mk (P := Tryz.prog) Tryz.underlying9 (s := ⟨k.toArray⟩) (by simp [ByteArray.size]; unfold maxLen; omega)
  simpa using this
theorem isKeyS (k : Bytes) : WideAt.IsKeyLit (.string k) := by unfold WideAt.IsKeyLit; simp
theorem turned_frm {w w' : World} {b : Nat} (h : w.mapTurned w' b) : Frm (fun x => x = b) w w' := by
  have g := h.grown
  exact ⟨g.os, g.tape, g.output, g.size, fun i hi hn => g.block i hi (fun e => hn (by simpa using e))⟩

theorem MapAt.lt {w : World} {b n : Nat} {M : Bytes → Option Value} (h : MapAt w b n M) : b < w.heap.size := by
  obtain ⟨D, h, _⟩ := h; exact h.lt
theorem MapAt.frm {F : Nat → Prop} {w w' : World} {b n : Nat} {M : Bytes → Option Value} (h : MapAt w b n M) (hf : Frm F w w') (hn : ¬ F b) : MapAt w' b n M := by
  obtain ⟨D, h1, h2⟩ := h
  have hlt := h1.lt
  obtain ⟨es, clock, hb, Ft, hs, hD⟩ := h1
  exact ⟨D, ⟨es, clock, (hf.block b hlt hn).trans hb, Ft, hs, hD⟩, h2⟩
theorem MapAt.made (w : World) : MapAt (w.alloc (.map #[] 0)) w.heap.size 0 (fun _ => none) :=
  ⟨_, World.ownsMap_made w _ _ _, fun k => ⟨rfl, fun v e => by cases e⟩⟩
def lookOp (t : TypeId) (m k : Value) : Sem Next := do pure (.value (← Instr.lookup t m k true))
def mapPutOp (t : TypeId) (m k v : Value) : Sem Next := do Instr.mapUpdate t m k v; pure .skip
def mapDelOp (t u ty : TypeId) (m k : Value) : Sem Next := do pure (.value (← Builtin.delete_ #[t, u] ty #[m, k]))
section
variable (ρ : Operand → Value) (dst : Option Tmp) (x y z : Operand) (ty : TypeId) (pos : String) (after : Array Edge) (guard : Option (Nat × Bool))
theorem exec_look90 : execOp ρ { dst, op := .lookup 90 x y true, type := ty, pos, after, guard } = lookOp 90 (ρ x) (ρ y) := rfl
theorem exec_put90 : execOp ρ { dst, op := .mapUpdate 90 x y z, type := ty, pos, after, guard } = mapPutOp 90 (ρ x) (ρ y) (ρ z) := rfl
theorem exec_del90 : execOp ρ { dst, op := .call { callee := .builtin .delete, args := #[x, y], argTypes := #[90, 9] }, type := ty, pos, after, guard } = mapDelOp 90 9 ty (ρ x) (ρ y) := by simp [BigFrame.execOp_builtin, builtin, mapDelOp]
end
theorem MapAt.get {w : World} {b n : Nat} {M : Bytes → Option Value} (h : MapAt w b n M) (k : Bytes) (hk : k.length ≤ 1000000000000000) :
    (lookOp 90 (.map (some b)) (.string ⟨k.toArray⟩)).run Tryz.prog w = .ok (.value (.tuple #[(M k).getD (.slice none 0 0), .bool (M k).isSome])) w := by
  obtain ⟨D, h1, h2⟩ := h
  obtain ⟨v, ps, hrun, hv⟩ := h1.look_ok Tryz.keyedS Tryz.mapT (z := .slice none 0 0) (by kernel_rfl) (zd := .held (.slice none 0 0)) (zp := []) rfl (keyS k hk)
  obtain ⟨h3, h4⟩ := h2 k
  rw [h3] at hrun
  simp only [heldR, Option.some.injEq, Prod.mk.injEq] at hv
  have e : v = (M k).getD (.slice none 0 0) := by
    cases hm : M k with
    | none =>
      rw [hm] at h3
      rw [Maps.atKey_of_not_has (by simpa using h3)] at hv
      simpa using hv.1
    | some u =>
      rw [h4 u hm] at hv
      simpa using hv.1
  rw [← e]
  unfold lookOp
  simp [hrun]
theorem MapAt.put {w : World} {b n : Nat} {M : Bytes → Option Value} (h : MapAt w b n M) (k : Bytes) (hk : k.length ≤ 1000000000000000) (v : Value) (hn : n < 1000000) :
    ∃ w', (mapPutOp 90 (.map (some b)) (.string ⟨k.toArray⟩) v).run Tryz.prog w = .ok .skip w' ∧ MapAt w' b (n + 1) (upd M k (some v)) ∧ Frm (fun x => x = b) w w' := by
  obtain ⟨D, h1, h2⟩ := h
  obtain ⟨w', hrun, ho, ht⟩ := h1.store Tryz.keyedS Tryz.mapT (by unfold maxLen; omega) (keyS k hk) (val := v) (d := .held v) (ps := []) rfl
  refine ⟨w', by unfold mapPutOp; simp [hrun], ⟨_, ho, fun x => ?_⟩, turned_frm ht⟩
  by_cases hx : x = k
  · subst hx
    refine ⟨by rw [Maps.has_put_same h1.isMap (isKeyS x)]; simp [upd], fun u hu z => ?_⟩
    rw [Maps.atKey_put_same h1.isMap (isKeyS x)]
    simp only [upd, if_true] at hu
    cases hu; rfl
  · refine ⟨by rw [Maps.has_put_other (by simpa using hx)]; simp [upd, hx, (h2 x).1], fun u hu z => ?_⟩
    rw [Maps.atKey_put_other (by simpa using hx)]
    simp only [upd, if_neg hx] at hu
    exact (h2 x).2 u hu z
theorem MapAt.del {w : World} {b n : Nat} {M : Bytes → Option Value} (h : MapAt w b n M) (k : Bytes) (hk : k.length ≤ 1000000000000000) (ty : TypeId) :
    ∃ w', (mapDelOp 90 9 ty (.map (some b)) (.string ⟨k.toArray⟩)).run Tryz.prog w = .ok (.value (.tuple #[])) w' ∧ MapAt w' b n (upd M k none) ∧ Frm (fun x => x = b) w w' := by
  obtain ⟨D, h1, h2⟩ := h
  obtain ⟨w', hrun, ho, ht⟩ := h1.drop Tryz.keyedS Tryz.mapT (keyS k hk) ty
  refine ⟨w', by unfold mapDelOp; simp [hrun], ⟨_, ho, fun x => ?_⟩, turned_frm ht⟩
  by_cases hx : x = k
  · subst hx
    exact ⟨by rw [Maps.has_del_same]; simp [upd], fun u hu z => by simp [upd] at hu⟩
  · refine ⟨by rw [Maps.has_del_other (by simpa using hx)]; simp [upd, hx, (h2 x).1], fun u hu z => ?_⟩
    rw [Maps.atKey_del_other (by simpa using hx)]
    simp only [upd, if_neg hx] at hu
    exact (h2 x).2 u hu z
end Go.Proofs.YtchiikfdmogfpaaGreatDoor
