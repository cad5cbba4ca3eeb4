/- Plain facts: a box's state, and how a store's keys tell it. -/
import Derived.Test.YtchiikfdmogfpaaGreatDoorPl2
import Derived.Test.YtchiikfdmogfpaaGreatDoorSt11
namespace Go.Proofs.YtchiikfdmogfpaaGreatDoor
open Go.Lib

theorem beN_split (v : Nat) : ∀ n k, k ≤ n → (beN v n).take k = beN (v / 256 ^ (n - k)) k
  | n, 0, _ => by simp [beN]
  | n + 1, k + 1, h => by
    rw [beN, List.take_succ_cons, beN_split v n k (by omega), beN, show n + 1 - (k + 1) = n - k from by omega]
    congr 2
    rw [Nat.div_div_eq_div_mul, ← Nat.pow_add, show n - k + k = n from by omega]
theorem beVal_cons (c : UInt8) (l : Bytes) : beVal (c :: l) = c.toNat * 256 ^ l.length + beVal l := by
  rw [← l.reverse_reverse]
  generalize l.reverse = r
  induction r with
  | nil => simp [beVal]
  | cons d r ih =>
    rw [List.reverse_cons, ← List.cons_append, beVal_snoc, beVal_snoc, ih, List.length_append, List.length_singleton, Nat.pow_succ, Nat.add_mul, Nat.mul_assoc, Nat.add_assoc]
theorem beVal_beN (v : Nat) : ∀ n, beVal (beN v n) = v % 256 ^ n
  | 0 => by simp [beN, beVal, Nat.mod_one]
  | n + 1 => by
    rw [beN, beVal_cons, beVal_beN v n, beN_length]
    have h : (UInt8.ofNat (v / 256 ^ n)).toNat = v / 256 ^ n % 256 := by simp
    rw [h, Nat.pow_succ]
    have h1 := Nat.mod_mul (x := v) (a := 256 ^ n) (b := 256)
    rw [h1, Nat.mul_comm (256 ^ n)]
    omega
theorem beVal_take_le (v n k : Nat) (h : k ≤ n) : beVal ((beN v n).take k) ≤ v := by
  rw [beN_split v n k h, beVal_beN]
  exact Nat.le_trans (Nat.mod_le _ _) (Nat.div_le_self _ _)

/-- A box: each folder's next number, each mail's flags and bytes. -/
structure BState where
  next : Bytes → Nat
  mail : Bytes → Nat → Option (Nat × Bytes)
/-- What a store holds is what the box is. -/
structure BRel (C : Bytes → Option Bytes) (V : BState) : Prop where
  next : ∀ f, folderOk f = true → (C (nkeyOf f) = none ∧ V.next f = 1) ∨ C (nkeyOf f) = some (beN (V.next f) 8)
  bad : ∀ f, folderOk f = false → V.next f = 1
  pos : ∀ f, 1 ≤ V.next f ∧ V.next f ≤ 4000000000
  mail : ∀ f (u : Nat), folderOk f = true → 1 ≤ u → C (mkeyOf f u) = (V.mail f u).map fun p => UInt8.ofNat p.1 :: p.2
  has : ∀ f u p, V.mail f u = some p → folderOk f = true ∧ 1 ≤ u ∧ u < V.next f ∧ p.1 ≤ 15
  keys : ∀ k, C k ≠ none → (∃ f, folderOk f = true ∧ k = nkeyOf f) ∨ ∃ f u, V.mail f u ≠ none ∧ k = mkeyOf f (u : Nat)

/-- The numbers of a folder's mails, rising. -/
def BState.list (V : BState) (f : Bytes) : List Nat := (List.range (V.next f)).filter fun u => (V.mail f u).isSome
theorem list_rising (V : BState) (f : Bytes) : (V.list f).Pairwise (· < ·) := by
  unfold BState.list
  exact List.Pairwise.filter _ List.pairwise_lt_range
theorem mem_list {C : Bytes → Option Bytes} {V : BState} (h : BRel C V) (f : Bytes) (u : Nat) : u ∈ V.list f ↔ (V.mail f u).isSome = true := by
  unfold BState.list
  rw [List.mem_filter, List.mem_range]
  constructor
  · exact fun h => h.2
  · intro hs
    obtain ⟨p, hp⟩ := Option.isSome_iff_exists.1 hs
    exact ⟨(h.has f u p hp).2.2.1, hs⟩
theorem list_lt {C : Bytes → Option Bytes} {V : BState} (h : BRel C V) (f : Bytes) (u : Nat) (hu : u ∈ V.list f) : u < 10000000000 := by
  have h1 := h.pos f
  have : u < V.next f := by unfold BState.list at hu; rw [List.mem_filter, List.mem_range] at hu; exact hu.1
  omega
theorem BRel.init : BRel (fun _ => none) ⟨fun _ => 1, fun _ _ => none⟩ :=
  ⟨fun _ _ => .inl ⟨rfl, rfl⟩, fun _ _ => rfl, fun _ => by simp, fun _ _ _ _ => rfl, fun _ _ _ h => (by cases h), fun _ h => absurd rfl h⟩
/-- The keys of a folder's mails, as Keys gives them. -/
theorem keys_list {C : Bytes → Option Bytes} {V : BState} (h : BRel C V) (f : Bytes) (hf : folderOk f = true) (ks : List Bytes) (h1 : ks.Pairwise (· ≤ ·)) (h2 : ks.Nodup) (h3 : ∀ k, k ∈ ks ↔ (C k ≠ none ∧ frontOf f <+: k)) :
    ks = (V.list f).map fun (u : Nat) => mkeyOf f (u : Int) := by
  obtain ⟨r1, r2⟩ := rising_keys f (V.list f) (list_rising V f) (list_lt h f)
  refine sorted_eq _ _ h1 r1 h2 r2 fun k => ?_
  rw [h3, List.mem_map]
  constructor
  · rintro ⟨hk, hp⟩
    rcases h.keys k hk with ⟨g, _, rfl⟩ | ⟨g, u, hu, rfl⟩
    · exact absurd hp front_nkey
    · obtain ⟨p, hp'⟩ : ∃ p, V.mail g u = some p := by cases hm : V.mail g u with | none => exact absurd hm hu | some p => exact ⟨p, rfl⟩
      obtain rfl := front_prefix (folder_colon hf) (folder_colon (h.has g u p hp').1) hp
      exact ⟨u, (mem_list h f u).2 (by rw [hp']; rfl), rfl⟩
  · rintro ⟨u, hu, rfl⟩
    have hs := (mem_list h f u).1 hu
    obtain ⟨p, hp⟩ := Option.isSome_iff_exists.1 hs
    refine ⟨?_, ⟨_, rfl⟩⟩
    rw [h.mail f u hf (h.has f u p hp).2.1, hp]
    simp
end Go.Proofs.YtchiikfdmogfpaaGreatDoor
