/- store.Get. -/
import Derived.Test.YtchiikfdmogfpaaGreatDoorSt4
namespace Go.Proofs.YtchiikfdmogfpaaGreatDoor
open Go.RowKit
attribute [local go_sem ↓] exec_look90

/-- A store's struct: its journal, its map. -/
def StAt (w : World) (s j b : Nat) : Prop := w.heap[s]? = some (.cells #[.pointer (some ⟨j, 0, none⟩), .map (some b)] 94 (0, 0))
theorem StAt.c0 {w : World} {s j b : Nat} (h : StAt w s j b) : w.cell? ⟨s, 0, none⟩ = some (.pointer (some ⟨j, 0, none⟩)) := cell_of_row w s 0 _ _ _ h
theorem StAt.c1 {w : World} {s j b : Nat} (h : StAt w s j b) : w.cell? ⟨s, 1, none⟩ = some (.map (some b)) := cell_of_row w s 1 _ _ _ h
theorem StAt.lt {w : World} {s j b : Nat} (h : StAt w s j b) : s < w.heap.size := (Array.getElem?_eq_some_iff.1 h).1
theorem StAt.frm {F : Nat → Prop} {w w' : World} {s j b : Nat} (h : StAt w s j b) (hf : Frm F w w') (hn : ¬ F s) : StAt w' s j b := (hf.block s h.lt hn).trans h

set_option maxRecDepth 20000 in
set_option maxHeartbeats 1000000 in
theorem get_any (s j b n : Nat) (M : Bytes → Option Value) (C : Bytes → Option Bytes) (key : Bytes) (w : World) (hs : StAt w s j b) (hm : MapAt w b n M) (hh : Holds w M C) (hk : key.length ≤ 1000000000000000) (hl : ∀ l, C key = some l → l.length ≤ 100000000) :
    Calls Tryz.prog 31 #[.pointer (some ⟨s, 0, none⟩), .string ⟨key.toArray⟩] w fun e w' => ∃ v, e = .returned (.tuple #[v, .bool (C key).isSome]) ∧ w'.ownsRow w.heap.size 5 1 v ((C key).getD []).length (((C key).getD []).map bv) ∧ Below w.heap.size w w' := by
  have c1 := hs.c1
  have hget := hm.get key hk
  obtain ⟨l, hCl⟩ : ∃ l, (C key).getD [] = l := ⟨_, rfl⟩
  rw [hCl]
  obtain ⟨ok, hok⟩ : ∃ ok, (C key).isSome = ok := ⟨_, rfl⟩
  rw [hok]
  obtain ⟨A, c, hv, hrd, hll⟩ : ∃ A c, (M key).getD (.slice none 0 0) = .slice A l.length c ∧ Rd w A (l.map bv) ∧ l.length ≤ 100000000 := by
    cases hc : C key with
    | none =>
      rw [(hh key).1 hc]
      rw [hc] at hCl
      simp only [Option.getD_none] at hCl ⊢
      subst hCl
      exact ⟨none, 0, rfl, Rd.nil _ _, by simp⟩
    | some l' =>
      obtain ⟨v, hv, hvo⟩ := (hh key).2 l' hc
      rw [hc] at hCl
      simp only [Option.getD_some] at hCl
      subst hCl
      rw [hv]
      obtain ⟨A, c, rfl, _, _, hrd⟩ := owns_slice hvo
      exact ⟨A, c, rfl, hrd, hl _ hc⟩
  have hsome : (M key).isSome = ok := by
    rw [← hok]
    cases hc : C key with
    | none => rw [(hh key).1 hc]; rfl
    | some l' => obtain ⟨v, hv, _⟩ := (hh key).2 l' hc; rw [hv]; rfl
  rw [hv, hsome] at hget
  have HCL := Lib.hid (clone_any A c l w hrd (by omega))
  clear hv hsome hok hCl hh hm hs hrd
  go_enter Tryz.func31, Tryz.ntmps31
  go_wp2_with (fail)
  refine HCL.out.mono ?_
  rintro e w1 ⟨v, rfl, ho, hb⟩
  go_wp2_with (fail)
  go_ret2
  exact ⟨v, rfl, ho, hb⟩
end Go.Proofs.YtchiikfdmogfpaaGreatDoor
