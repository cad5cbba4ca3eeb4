/- BoxApart: rows of mails; what a call does to other folders. -/
import Derived.Test.YtchiikfdmogfpaaGreatDoorLw4
namespace Go.Proofs.YtchiikfdmogfpaaGreatDoor
open Go.RowKit

/-- A mail, as Fetch gave it. -/
structure Ml where
  u : Nat
  fl : Nat
  b : Bytes
  A : Option Addr
  c : Nat
def Ml.cells (m : Ml) : List Value := [.int .i64 m.u, .int .i64 m.fl, .slice m.A m.b.length m.c]
section
variable (ρ : Operand → Value) (dst : Option Tmp) (x y : Operand) (ty : TypeId) (pos : String) (after : Array Edge) (guard : Option (Nat × Bool))
theorem exec_loadMail : execOp ρ { dst, op := .load 46 x, type := ty, pos, after, guard } = loadOp 46 (ρ x) := rfl
theorem exec_append34 : execOp ρ { dst, op := .call { callee := .builtin .append, args := #[x, y], argTypes := #[34, 34] }, type := ty, pos, after, guard } = appendOp 34 ty (ρ x) (ρ y) := by simp [BigFrame.execOp_builtin, BigFrame.builtin_append, appendOp]
end
theorem Tryz.infoMail : (Tryz.prog.info? 46).map (fun i => (i.zero, i.size, i.bytes)) = some (some (.agg #[.int .i64 0, .int .i64 0, .slice none 0 0]), 3, 40) := by kernel_rfl
theorem Tryz.underMails : Tryz.prog.underlying 34 = some (.slice 46) := by kernel_rfl
theorem load_mailOp {w : World} {m : Nat} {x y z : Value} (hm : w.heap[m]? = some (.cells #[x, y, z] 46 (0, 0))) : (loadOp 46 (.pointer (some ⟨m, 0, none⟩))).run Tryz.prog w = .ok (.value (.agg #[x, y, z])) w :=
  run_loadOp (load_row _ _ Tryz.underlying46 rfl Tryz.rowMail (RowAt.whole hm))
/-- One more mail is put behind the others. -/
theorem append_mail (W3 : World) (base k : Nat) (v : Value) (m : Ml) (xs : List Value) (ho : W3.ownsRow base 46 3 v k xs) (hb : base ≤ W3.heap.size) (hk : k ≤ 10000000) :
    ∃ g c W5, (appendOp 34 34 v (.slice (some ⟨W3.heap.size, 0, none⟩) 1 1)).run Tryz.prog (W3.alloc (.cells m.cells.toArray 46)) = .ok (.value (.slice (some ⟨g, 0, none⟩) (k + 1) c)) W5 ∧
      W5.ownsRow base 46 3 (.slice (some ⟨g, 0, none⟩) (k + 1) c) (k + 1) (xs ++ m.cells) ∧ Frm (fun b => v.ownBlock = some b) W3 W5 := by
  obtain ⟨i0, hi, hz0, hz1, hz2⟩ := info_parts Tryz.infoMail
  obtain ⟨rv', W5, hap, hown, hgr, _, _⟩ := run_append_own_at (P := Tryz.prog) (w := W3.alloc (.cells m.cells.toArray 46)) base 34 34 46 i0 _ 3 40 Tryz.underMails hi hz0 hz1 hz2 rfl (by decide) v k xs (ho.alloc _) ⟨W3.heap.size, 0, none⟩ 1 1 m.cells rfl
    ((RowAt.new W3 m.cells.toArray 46 (n := 3) rfl rfl).src) (by intro u hu; simp [Ml.cells] at hu; rcases hu with rfl | rfl | rfl <;> rfl) (by unfold maxLen; omega) (by omega) (by simp; omega)
  obtain ⟨g, c, rfl⟩ := ownsRow_succ hown
  exact ⟨g, c, W5, run_appendOp hap, hown, ((Frm.refl _ _).alloc _).trans (Frm.of_grown hgr)⟩
theorem mail_cells (ms : List Ml) (k : Nat) (h : k < ms.length) (j : Nat) (hj : j < 3) : (ms.flatMap Ml.cells)[k * 3 + j]? = (ms[k].cells)[j]? := by
  induction ms generalizing k with
  | nil => simp at h
  | cons p r ih =>
    cases k with
    | zero => rw [List.flatMap_cons, List.getElem?_append_left (by simp [Ml.cells]; omega)]; simp
    | succ m =>
      rw [List.flatMap_cons, List.getElem?_append_right (by simp [Ml.cells]; omega)]
      have := ih m (by simpa using h)
      simp only [Ml.cells, List.length_cons, List.length_nil] at this ⊢
      rw [show (m + 1) * 3 + j - (0 + 1 + 1 + 1) = m * 3 + j from by omega, this]
      rfl
/-- A mail is loaded whole. -/
theorem load_mails {w : World} {base : Nat} {v : Value} {ms : List Ml} (ho : w.ownsRow base 46 3 v ms.length (ms.flatMap Ml.cells)) {k : Nat} (hk : k < ms.length) : ∃ g c, v = .slice (some ⟨g, 0, none⟩) ms.length c ∧
    (loadOp 46 (.pointer (some ⟨g, k * 3, none⟩))).run Tryz.prog w = .ok (.value (.agg ms[k].cells.toArray)) w := by
  rcases ho.2 with ⟨_, h0⟩ | ⟨g, cap, cur, rfl, _, hg, _⟩
  · omega
  · refine ⟨g, cap, rfl, run_loadOp (load_row _ _ Tryz.underlying46 rfl Tryz.rowMail ⟨rfl, fun j u hu => ?_⟩)⟩
    have hj : j < 3 := by
      have := (List.getElem?_eq_some_iff.1 hu).1
      simpa [Ml.cells] using this
    have := ho.cells (g := g) rfl (k * 3 + j) u (by rw [mail_cells ms k hk j hj]; exact hu)
    rw [Addr.add_mid, Nat.zero_add] at this
    exact this

/-- What a call to a folder leaves of the others. -/
structure Else (V V' : BState) (f : Bytes) : Prop where
  mail : ∀ g, g ≠ f → V'.mail g = V.mail g
  next : ∀ g, g ≠ f → V'.next g = V.next g
  up : ∀ g, V'.next g ≤ V.next g + 1
theorem Else.refl (V : BState) (f : Bytes) : Else V V f := ⟨fun _ _ => rfl, fun _ _ => rfl, fun _ => by omega⟩
theorem Else.list {V V' : BState} {f g : Bytes} (h : Else V V' f) (hg : g ≠ f) : V'.list g = V.list g := by
  unfold BState.list; rw [h.next g hg, h.mail g hg]
theorem deliver_how {B bx : Nat} {S : Sv} {w : World} (h : Bx B bx S w) {V : BState} (hr : BRel S.C V) (hmn : S.mn + 2 ≤ 10000) (f : Bytes) (hf : f.length ≤ 900000000000000) (hnx : V.next f < 4000000000) (A : Option Addr) (m : Bytes) (c : Nat) (hm : m.length ≤ 90000) (hmc : m.length ≤ c) (hrd : Rd w A (m.map bv)) :
    Calls Tryz.prog 12 #[.pointer (some ⟨bx, 0, none⟩), .string ⟨f.toArray⟩, .slice A m.length c] w fun e w' => ∃ (x y : Int) (S' : Sv) (V' : BState), e = .returned (.tuple #[.int .i64 x, .int .i64 y]) ∧ S.Step S' w w' ∧ BRel S'.C V' ∧ Else V V' f ∧ S'.mn ≤ S.mn + 2 := by
  cases hfo : folderOk f with
  | false =>
    refine (deliver_bad h hr f hf hfo A m.length c).mono ?_
    rintro e w' ⟨rfl, hb⟩
    exact ⟨0, 1, S, V, rfl, .of_below h.st hb, hr, .refl _ _, by omega⟩
  | true =>
    refine (deliver_any h hr hmn f hfo hnx A m c hm hmc hrd).mono ?_
    rintro e w' ⟨S', hst, ⟨rfl, hR, hm2, _⟩ | ⟨rfl, rfl, _⟩⟩
    · exact ⟨_, 0, S', V.deliver f m, rfl, hst, hR, ⟨fun g hg => by funext u; simp [BState.deliver, hg], fun g hg => by simp [BState.deliver, hg], fun g => by simp only [BState.deliver]; split <;> (try subst g) <;> omega⟩, by omega⟩
    · exact ⟨0, 6, _, V, rfl, hst, hr, .refl _ _, by omega⟩
theorem mark_how2 {B bx : Nat} {S : Sv} {w : World} (h : Bx B bx S w) {V : BState} (hr : BRel S.C V) (hmn : S.mn + 1 ≤ 10000) (f : Bytes) (hf : f.length ≤ 900000000000000) (u fl : Int) (h0 : -9223372036854775808 ≤ u) (h1 : u ≤ 9223372036854775807) :
    Calls Tryz.prog 14 #[.pointer (some ⟨bx, 0, none⟩), .string ⟨f.toArray⟩, .int .i64 u, .int .i64 fl] w fun e w' => ∃ (x : Int) (S' : Sv) (V' : BState), e = .returned (.int .i64 x) ∧ S.Step S' w w' ∧ BRel S'.C V' ∧ Else V V' f ∧ S'.mn ≤ S.mn + 1 := by
  by_cases hfl : fl < 0 ∨ 15 < fl
  · refine (mark_flags f u fl hfl w).mono ?_
    rintro e w' ⟨rfl, rfl⟩
    exact ⟨1, S, V, rfl, .of_below h.st (Below.refl _ _), hr, .refl _ _, by omega⟩
  · by_cases hin : folderOk f = true ∧ 1 ≤ u ∧ V.mail f u.toNat ≠ none
    · obtain ⟨un, rfl⟩ : ∃ un : Nat, u = un := ⟨u.toNat, by omega⟩
      obtain ⟨fn, rfl⟩ : ∃ fn : Nat, fl = fn := ⟨fl.toNat, by omega⟩
      obtain ⟨⟨fl0, b⟩, hm⟩ : ∃ p, V.mail f un = some p := by
        cases hm : V.mail f un with
        | none => exact absurd hm hin.2.2
        | some p => exact ⟨p, rfl⟩
      refine (mark_any h hr hmn f un (by omega) fl0 b hm fn (by omega)).mono ?_
      rintro e w' ⟨c, rfl, S', hst, ⟨rfl, hR, hm2, _⟩ | ⟨rfl, rfl, _⟩⟩
      · exact ⟨0, S', V.mark f un fn, rfl, hst, hR, ⟨fun g hg => by funext x; simp [BState.mark, hg], fun _ _ => rfl, fun g => by simp [BState.mark]⟩, by omega⟩
      · exact ⟨6, _, V, rfl, hst, hr, .refl _ _, by omega⟩
    · refine (mark_none h hr f hf u h0 h1 hin fl (by omega) (by omega)).mono ?_
      rintro e w' ⟨rfl, hb⟩
      exact ⟨7, S, V, rfl, .of_below h.st hb, hr, .refl _ _, by omega⟩
theorem expunge_how2 {B bx : Nat} {S : Sv} {w : World} (h : Bx B bx S w) {V : BState} (hr : BRel S.C V) (f : Bytes) (hf : f.length ≤ 900000000000000) (hmn : S.mn + (V.list f).length ≤ 10000) :
    Calls Tryz.prog 16 #[.pointer (some ⟨bx, 0, none⟩), .string ⟨f.toArray⟩] w fun e w' => ∃ (A : Option Addr) (n cc : Nat) (c : Int) (S' : Sv) (V' : BState), e = .returned (.tuple #[.slice A n cc, .int .i64 c]) ∧ S.Step S' w w' ∧ BRel S'.C V' ∧ Else V V' f ∧ S'.mn ≤ S.mn + (V.list f).length := by
  refine (expunge_how h hr f hf hmn).mono ?_
  rintro e w' ⟨A, n, cc, c, S', V', rfl, _, hst, hR, _, hnx, hm, hel⟩
  exact ⟨A, n, cc, c, S', V', rfl, hst, hR, ⟨hel, fun g _ => by rw [hnx], fun g => by rw [hnx]; omega⟩, hm⟩
end Go.Proofs.YtchiikfdmogfpaaGreatDoor
