/- store.Commit. -/
import Derived.Test.YtchiikfdmogfpaaGreatDoorSt5
import Derived.Test.YtchiikfdmogfpaaGreatDoorMc
namespace Go.Proofs.YtchiikfdmogfpaaGreatDoor
open Go.RowKit

theorem mclone_any (b n : Nat) (M : Bytes → Option Value) (w : World) (h : MapAt w b n M) :
    Calls Tryz.prog 37 #[.map (some b)] w fun e w' => e = .returned (.map (some w.heap.size)) ∧ MapAt w' w.heap.size n M ∧ Below w.heap.size w w' := by
  obtain ⟨D, h1, h2⟩ := h
  refine (AnyW.maps_Clone_owns Tryz.mclone37 _ _ b n D w h1).mono ?_
  rintro e w' ⟨rfl, h3, _, hb⟩
  exact ⟨rfl, ⟨D, h3, h2⟩, hb⟩

/-- A store: its journal and disk, its map, what it holds. -/
structure StoreAt (w : World) (s j d L n fr sz gen at_ k : Nat) (rv : Value) (img : Bytes) (xs : List Value) (b mn : Nat) (M : Bytes → Option Value) (C : Bytes → Option Bytes) : Prop where
  jr : JourAt w j d L n fr sz gen at_ k rv img xs
  st : StAt w s j b
  m : MapAt w b mn M
  h : Holds w M C
  ok : ∀ k l, C k = some l → 1 ≤ k.length ∧ k.length ≤ 1000 ∧ l.length ≤ 100000
/-- The blocks that a store may write. -/
def SOwn (s j d L : Nat) (rv : Value) (x : Nat) : Prop := x = s ∨ JOwn j d L rv x

theorem doC_ok (C : Bytes → Option Bytes) (ps : List Pr) (w : World) (hC : ∀ k l, C k = some l → 1 ≤ k.length ∧ k.length ≤ 1000 ∧ l.length ≤ 100000) (hp : ∀ p ∈ ps, p.Ok w) : ∀ k l, doC C ps k = some l → 1 ≤ k.length ∧ k.length ≤ 1000 ∧ l.length ≤ 100000 := by
  induction ps generalizing C with
  | nil => exact hC
  | cons p r ih =>
    refine ih _ ?_ (fun q hq => hp q (by simp [hq]))
    intro k l hk
    have hpo := hp p (by simp)
    by_cases hx : k = p.key
    · subst hx
      simp only [if_true] at hk
      split at hk
      · cases hk
      · cases hk; exact ⟨hpo.k1, hpo.k2, hpo.hv⟩
    · simp only [if_neg hx] at hk
      exact hC k l hk
end Go.Proofs.YtchiikfdmogfpaaGreatDoor
