/- Plain facts: what the calls to a box do to its state. -/
import Derived.Test.YtchiikfdmogfpaaGreatDoorPl3
namespace Go.Proofs.YtchiikfdmogfpaaGreatDoor
open Go.Lib

def BState.deliver (V : BState) (f m : Bytes) : BState :=
  ⟨fun g => if g = f then V.next f + 1 else V.next g, fun g u => if g = f ∧ u = V.next f then some (0, m) else V.mail g u⟩
def BState.mark (V : BState) (f : Bytes) (u fl : Nat) : BState :=
  ⟨V.next, fun g x => if g = f ∧ x = u then (V.mail f u).map fun p => (fl, p.2) else V.mail g x⟩
def dead (p : Nat × Bytes) : Bool := p.1 / 4 % 2 == 1
def BState.doomed (V : BState) (f : Bytes) : List Nat := (V.list f).filter fun u => (V.mail f u).any dead
def BState.expunge (V : BState) (f : Bytes) : BState :=
  ⟨V.next, fun g x => if g = f ∧ (V.mail f x).any dead then none else V.mail g x⟩

/-- A store's bytes of a pair. -/
def kvEnc (k v : Bytes) (gone : Bool) : Bytes := [if gone then 1 else 0] ++ (beN k.length 2 ++ (k ++ (beN v.length 4 ++ v)))
theorem Pr.enc_kv (p : Pr) : p.enc = kvEnc p.key p.val p.gone := rfl

theorem rel_deliver {C C' : Bytes → Option Bytes} {V : BState} (h : BRel C V) (f m : Bytes) (hf : folderOk f = true) (hn : V.next f < 4000000000)
    (hC : ∀ x, C' x = if x = nkeyOf f then some (beN (V.next f + 1) 8) else if x = mkeyOf f (V.next f : Nat) then some (0 :: m) else C x) : BRel C' (V.deliver f m) := by
  have hp := h.pos f
  have hnone : V.mail f (V.next f) = none := by
    cases hm : V.mail f (V.next f) with
    | none => rfl
    | some p => have := (h.has _ _ _ hm).2.2.1; omega
  refine ⟨fun g hg => ?_, fun g hg => ?_, fun g => ?_, fun g u hg hu => ?_, fun g u p hp' => ?_, fun k hk => ?_⟩
  · by_cases e : g = f
    · subst e; right; rw [hC, if_pos rfl]; simp [BState.deliver]
    · have e2 : nkeyOf g ≠ nkeyOf f := fun e2 => e (nkeyOf_inj e2)
      rw [hC, if_neg e2, if_neg (fun e3 => mkeyOf_ne_nkey f g _ e3.symm)]
      simp only [BState.deliver, if_neg e]
      exact h.next g hg
  · have e : g ≠ f := fun e => by subst e; rw [hf] at hg; cases hg
    simp only [BState.deliver, if_neg e]
    exact h.bad g hg
  · simp only [BState.deliver]
    split
    · omega
    · exact h.pos g
  · rw [hC, if_neg (mkeyOf_ne_nkey g f _)]
    by_cases e : g = f
    · subst e
      by_cases eu : u = V.next g
      · subst eu; rw [if_pos rfl]; simp [BState.deliver]
      · rw [if_neg (fun e2 => eu (mkeyOf_inj e2))]
        simp only [BState.deliver, eu, and_false, if_false]
        exact h.mail g u hg hu
    · rw [if_neg (fun e2 => e (mkeyOf_split (folder_colon hg) (folder_colon hf) e2).1)]
      simp only [BState.deliver, e, false_and, if_false]
      exact h.mail g u hg hu
  · simp only [BState.deliver] at hp'
    by_cases e : g = f ∧ u = V.next f
    · obtain ⟨rfl, rfl⟩ := e
      simp only [and_self, if_true, Option.some.injEq] at hp'
      subst hp'
      simp [BState.deliver, hf]
      omega
    · rw [if_neg e] at hp'
      have := h.has g u p hp'
      refine ⟨this.1, this.2.1, ?_, this.2.2.2⟩
      simp only [BState.deliver]
      split
      · rename_i e2; subst e2; omega
      · exact this.2.2.1
  · rw [hC] at hk
    by_cases e1 : k = nkeyOf f
    · exact .inl ⟨f, hf, e1⟩
    · rw [if_neg e1] at hk
      by_cases e2 : k = mkeyOf f (V.next f : Nat)
      · exact .inr ⟨f, V.next f, by simp [BState.deliver], e2⟩
      · rw [if_neg e2] at hk
        rcases h.keys k hk with q | ⟨g, u, hu, rfl⟩
        · exact .inl q
        · refine .inr ⟨g, u, ?_, rfl⟩
          simp only [BState.deliver]
          split
          · simp
          · exact hu
theorem rel_mark {C C' : Bytes → Option Bytes} {V : BState} (h : BRel C V) (f : Bytes) (u fl fl0 : Nat) (b : Bytes) (hm : V.mail f u = some (fl0, b)) (hfl : fl ≤ 15)
    (hC : ∀ x, C' x = if x = mkeyOf f (u : Nat) then some (UInt8.ofNat fl :: b) else C x) : BRel C' (V.mark f u fl) := by
  obtain ⟨hf, hu1, hu2, _⟩ := h.has f u _ hm
  refine ⟨fun g hg => ?_, h.bad, h.pos, fun g x hg hx => ?_, fun g x p hp' => ?_, fun k hk => ?_⟩
  · rw [hC, if_neg (fun e3 => mkeyOf_ne_nkey f g _ e3.symm)]
    exact h.next g hg
  · rw [hC]
    by_cases e : g = f
    · subst e
      by_cases eu : x = u
      · subst eu; rw [if_pos rfl]; simp [BState.mark, hm]
      · rw [if_neg (fun e2 => eu (mkeyOf_inj e2))]
        simp only [BState.mark, eu, and_false, if_false]
        exact h.mail g x hg hx
    · rw [if_neg (fun e2 => e (mkeyOf_split (folder_colon hg) (folder_colon hf) e2).1)]
      simp only [BState.mark, e, false_and, if_false]
      exact h.mail g x hg hx
  · simp only [BState.mark] at hp'
    by_cases e : g = f ∧ x = u
    · obtain ⟨rfl, rfl⟩ := e
      simp only [and_self, if_true, hm, Option.map_some, Option.some.injEq] at hp'
      subst hp'
      exact ⟨hf, hu1, hu2, hfl⟩
    · rw [if_neg e] at hp'
      exact h.has g x p hp'
  · rw [hC] at hk
    by_cases e2 : k = mkeyOf f (u : Nat)
    · exact .inr ⟨f, u, by simp [BState.mark, hm], e2⟩
    · rw [if_neg e2] at hk
      rcases h.keys k hk with q | ⟨g, x, hx, rfl⟩
      · exact .inl q
      · refine .inr ⟨g, x, ?_, rfl⟩
        simp only [BState.mark]
        split
        · simp [hm]
        · exact hx
theorem mem_doomed {C : Bytes → Option Bytes} {V : BState} (h : BRel C V) (f : Bytes) (u : Nat) : u ∈ V.doomed f ↔ (V.mail f u).any dead = true := by
  unfold BState.doomed
  rw [List.mem_filter, mem_list h]
  constructor
  · exact fun h => h.2
  · intro hd
    refine ⟨?_, hd⟩
    cases hm : V.mail f u with
    | none => rw [hm] at hd; cases hd
    | some p => rfl
theorem rel_expunge {C C' : Bytes → Option Bytes} {V : BState} (h : BRel C V) (f : Bytes) (hf : folderOk f = true)
    (hC : ∀ x, C' x = if x ∈ (V.doomed f).map (fun (u : Nat) => mkeyOf f (u : Int)) then none else C x) : BRel C' (V.expunge f) := by
  have hkey : ∀ (g : Bytes) (x : Nat), folderOk g = true → (mkeyOf g (x : Int) ∈ (V.doomed f).map (fun (u : Nat) => mkeyOf f (u : Int)) ↔ g = f ∧ (V.mail f x).any dead = true) := fun g x hg => by
    rw [List.mem_map]
    constructor
    · rintro ⟨u, hu, e⟩
      obtain ⟨rfl, e2⟩ := mkeyOf_split (folder_colon hf) (folder_colon hg) e
      obtain rfl := numOf_inj e2
      exact ⟨rfl, (mem_doomed h _ _).1 hu⟩
    · rintro ⟨rfl, hx⟩
      exact ⟨x, (mem_doomed h _ _).2 hx, rfl⟩
  refine ⟨fun g hg => ?_, h.bad, h.pos, fun g x hg hx => ?_, fun g x p hp' => ?_, fun k hk => ?_⟩
  · rw [hC, if_neg (fun e => by obtain ⟨u, _, e2⟩ := List.mem_map.1 e; exact mkeyOf_ne_nkey f g _ e2)]
    exact h.next g hg
  · rw [hC]
    simp only [BState.expunge]
    by_cases e : g = f ∧ (V.mail f x).any dead = true
    · rw [if_pos ((hkey g x hg).2 e), if_pos e]; rfl
    · rw [if_neg (fun e2 => e ((hkey g x hg).1 e2)), if_neg e]
      exact h.mail g x hg hx
  · simp only [BState.expunge] at hp'
    split at hp'
    · cases hp'
    · exact h.has g x p hp'
  · rw [hC] at hk
    split at hk
    · exact absurd rfl hk
    · rename_i hn
      rcases h.keys k hk with q | ⟨g, x, hx, rfl⟩
      · exact .inl q
      · refine .inr ⟨g, x, ?_, rfl⟩
        simp only [BState.expunge]
        obtain ⟨p, hp⟩ : ∃ p, V.mail g x = some p := by cases hm : V.mail g x with | none => exact absurd hm hx | some p => exact ⟨p, rfl⟩
        rw [if_neg (fun e => hn ((hkey g x (h.has g x p hp).1).2 e))]
        exact hx
end Go.Proofs.YtchiikfdmogfpaaGreatDoor
