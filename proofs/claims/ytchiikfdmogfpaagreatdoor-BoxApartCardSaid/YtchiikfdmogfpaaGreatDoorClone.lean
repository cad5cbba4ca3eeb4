/- slices.Clone of bytes: the same bytes in a new row. -/
import Derived.Test.YtchiikfdmogfpaaGreatDoorPut
import Derived.RangeFuncBox
namespace Go.Proofs.YtchiikfdmogfpaaGreatDoor
open Go.RowKit

set_option maxRecDepth 20000 in
set_option maxHeartbeats 1000000 in
theorem clone_any (A : Option Addr) (cap : Nat) (l : Bytes) (w : World) (hrd : Rd w A (l.map bv)) (hl : l.length ≤ 4000000000) :
    Calls Tryz.prog 48 #[.slice A l.length cap] w fun e w' => ∃ v, e = .returned v ∧ w'.ownsRow w.heap.size 5 1 v l.length (l.map bv) ∧ Below w.heap.size w w' := by
  obtain ⟨i0, hi, hz0, hz1, hz2⟩ := info_parts Tryz.infoU8
  have q24 : ∀ (w : World) (a : Option Addr) (n c n' c' : Nat), (binOp .eql 24 (.slice a n c) (.slice none n' c')).run Tryz.prog w = .ok (.bool a.isNone) w := fun w a n c n' c' => Lib.run_eql_slice_nil w _ _ a n c n' c' Tryz.underlying24
  cases A with
  | none =>
    have h0 : l = [] := by
      apply Classical.byContradiction; intro hne
      obtain ⟨b, o, e, _⟩ := hrd (by simpa using hne)
      cases e
    subst h0
    go_enter Tryz.func48, Tryz.ntmps48
    go_wp2
    go_ret
    exact ⟨_, rfl, World.ownsRow_nil _ _ _ _, Below.refl _ _⟩
  | some a =>
    obtain ⟨n, hn⟩ : ∃ n, n = l.length := ⟨_, rfl⟩
    have H := Lib.hid hrd
    have hn0 := Lib.hid hn
    rw [← hn]
    clear hrd hn
    go_enter Tryz.func48, Tryz.ntmps48
    go_wp2_with (at_builtin; refine wpList_append_own _ rfl _ _ 24 rfl w.heap.size 5 i0 (.int .u8 0) 1 1 Tryz.underlying24 hi hz0 hz1 hz2 rfl (by decide) _ _ _ rfl (World.ownsRow_made w #[] 0 (Nat.le_refl _) (Nat.zero_le _) rfl) a n cap (l.map bv) rfl ?qc1 ?qc2 ?qc3 ?qc4 ?qc5 ?qc6 ?_)
    case qc1 => simp [hn0.out]
    case qc2 =>
      intro j u hj
      have hne : l.map bv ≠ [] := by intro e; rw [e] at hj; simp at hj
      obtain ⟨b, o, e, hlt, hc⟩ := H.out hne
      simp only [Option.some.injEq] at e
      subst e
      rw [Addr.add_lit]
      exact Lib.cell?_alloc_some _ (hc j u hj)
    case qc3 => exact bvs_one l
    case qc4 => have := hn0.out; unfold maxLen; omega
    case qc5 => have := hn0.out; omega
    case qc6 => simp
    intro v' w1 hown hgrow hnil
    go_wp2
    go_ret
    refine ⟨v', rfl, by simpa using hown, ?_⟩
    exact ((Below.refl _ w).alloc (Nat.le_refl _) _).grown hgrow (by simp) (by intro k hk; simp [Value.ownBlock] at hk; omega)
end Go.Proofs.YtchiikfdmogfpaaGreatDoor
