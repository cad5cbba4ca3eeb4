/- store.all: the pairs of all keys. -/
import Derived.Test.YtchiikfdmogfpaaGreatDoorSt3
import Derived.Test.YtchiikfdmogfpaaGreatDoorIter
namespace Go.Proofs.YtchiikfdmogfpaaGreatDoor
open Go.RowKit Go.ChangeMaps Go.Maps Go.Sort
attribute [local go_sem ↓] exec_look90

def lookOp1 (t : TypeId) (m k : Value) : Sem Next := do pure (.value (← Instr.lookup t m k false))
section
variable (ρ : Operand → Value) (dst : Option Tmp) (x y : Operand) (ty : TypeId) (pos : String) (after : Array Edge) (guard : Option (Nat × Bool))
theorem exec_look90f : execOp ρ { dst, op := .lookup 90 x y false, type := ty, pos, after, guard } = lookOp1 90 (ρ x) (ρ y) := rfl
theorem exec_append70 : execOp ρ { dst, op := .call { callee := .builtin .append, args := #[x, y], argTypes := #[70, 70] }, type := ty, pos, after, guard } = appendOp 70 ty (ρ x) (ρ y) := by simp [BigFrame.execOp_builtin, BigFrame.builtin_append, appendOp]
end
attribute [local go_sem ↓] exec_look90f
attribute [local go_sem ↓ high] exec_append70
theorem MapAt.get1 {w : World} {b n : Nat} {M : Bytes → Option Value} (h : MapAt w b n M) (k : Bytes) (hk : k.length ≤ 1000000000000000) :
    (lookOp1 90 (.map (some b)) (.string ⟨k.toArray⟩)).run Tryz.prog w = .ok (.value ((M k).getD (.slice none 0 0))) w := by
  obtain ⟨D, h1, h2⟩ := h
  obtain ⟨v, ps, hrun, hv⟩ := h1.lookup Tryz.keyedS Tryz.mapT (z := .slice none 0 0) (by kernel_rfl) (zd := .held (.slice none 0 0)) (zp := []) rfl (keyS k hk)
  obtain ⟨h3, h4⟩ := h2 k
  simp only [heldR, Option.some.injEq, Prod.mk.injEq] at hv
  have e : v = (M k).getD (.slice none 0 0) := by
    cases hm : M k with
    | none =>
      rw [hm] at h3
      rw [Maps.atKey_of_not_has (by simpa using h3)] at hv
      simpa using hv.1
    | some u =>
      rw [h4 u hm] at hv
      simpa using hv.1
  rw [← e]
  unfold lookOp1
  simp [hrun]
theorem mem_strKeys {w : World} {b n : Nat} {D : DataW Value} (h : w.ownsMap Tryz.prog 9 heldR b n D) (k : Bytes) : k ∈ strKeys D ↔ Maps.has D (.string k) = true := by
  obtain ⟨es, rfl, hko⟩ := h.keysOf
  have hk : ∀ p ∈ es, ∃ x, p.1 = .string x := fun p hp => by
    obtain ⟨v, hv⟩ := hko p hp
    obtain ⟨x, _, hx, _⟩ := Maps.keyOf_str Tryz.underlying9 hv
    exact ⟨x, hx⟩
  rw [Maps.has_eq]
  simp only [strKeys, List.mem_map, List.any_eq_true]
  constructor
  · rintro ⟨p, hp, e⟩
    obtain ⟨x, hx⟩ := hk p hp
    rw [hx] at e
    exact ⟨p, hp, by rw [hx]; simp only [strOf] at e; subst e; simp [Lit.sameKey]⟩
  · rintro ⟨p, hp, e⟩
    obtain ⟨x, hx⟩ := hk p hp
    rw [hx] at e
    exact ⟨p, hp, by rw [hx]; simpa [Lit.sameKey, strOf] using e⟩
theorem Tryz.infoPair : (Tryz.prog.info? 69).map (fun i => (i.zero, i.size, i.bytes)) = some (some (.agg #[.string ⟨#[]⟩, .slice none 0 0, .bool false]), 3, 48) := by kernel_rfl
theorem Tryz.underPairs : Tryz.prog.underlying 70 = some (.slice 69) := by kernel_rfl
theorem strKeys_length {w : World} {b n : Nat} {D : DataW Value} (h : w.ownsMap Tryz.prog 9 heldR b n D) : (strKeys D).length = Maps.size D := by
  obtain ⟨es, rfl⟩ := h.isMap
  simp [strKeys, Maps.size_eq]
theorem owns_rd {w : World} {base e size n : Nat} {v : Value} {xs : List Value} (h : w.ownsRow base e size v n xs) : ∃ A c, v = .slice A n c ∧ Rd w A xs := by
  rcases h.2 with ⟨rfl, rfl⟩ | ⟨g, cap, cur, rfl, _, hg, _⟩
  · exact ⟨none, 0, rfl, by have := h.1; rw [Nat.zero_mul] at this; rw [List.eq_nil_of_length_eq_zero this]; exact Rd.nil _ _⟩
  · refine ⟨_, cap, rfl, fun _ => ⟨g, 0, rfl, (Array.getElem?_eq_some_iff.1 hg).1, fun j u hu => ?_⟩⟩
    have := h.cells (g := g) rfl j u hu
    rwa [Addr.add_mid] at this
theorem Pr.Ok.below {p : Pr} {w w' : World} (h : p.Ok w) (hb : RowKit.Below w.heap.size w w') : p.Ok w' := ⟨h.k1, h.k2, h.hv, h.hc, h.hg, h.rd.below hb⟩
/-- One more pair is put behind the others. -/
theorem append_pair (W3 : World) (base k : Nat) (v : Value) (p : Pr) (xs : List Value) (ho : W3.ownsRow base 69 3 v k xs) (hb : base ≤ W3.heap.size) (hk : k ≤ 10000000) :
    ∃ g c W5, (appendOp 70 70 v (.slice (some ⟨W3.heap.size, 0, none⟩) 1 1)).run Tryz.prog (W3.alloc (.cells p.cells.toArray 69)) = .ok (.value (.slice (some ⟨g, 0, none⟩) (k + 1) c)) W5 ∧
      W5.ownsRow base 69 3 (.slice (some ⟨g, 0, none⟩) (k + 1) c) (k + 1) (xs ++ p.cells) ∧ Frm (fun b => v.ownBlock = some b) W3 W5 := by
  obtain ⟨i0, hi, hz0, hz1, hz2⟩ := info_parts Tryz.infoPair
  obtain ⟨rv', W5, hap, hown, hgr, _, _⟩ := run_append_own_at (P := Tryz.prog) (w := W3.alloc (.cells p.cells.toArray 69)) base 70 70 69 i0 _ 3 48 Tryz.underPairs hi hz0 hz1 hz2 rfl (by decide) v k xs (ho.alloc _) ⟨W3.heap.size, 0, none⟩ 1 1 p.cells rfl
    ((RowAt.new W3 p.cells.toArray 69 (n := 3) rfl rfl).src) (by intro u hu; simp [Pr.cells] at hu; rcases hu with rfl | rfl | rfl <;> rfl) (by unfold maxLen; omega) (by omega) (by simp; omega)
  obtain ⟨g, c, rfl⟩ := ownsRow_succ hown
  exact ⟨g, c, W5, run_appendOp hap, hown, ((Frm.refl _ _).alloc _).trans (Frm.of_grown hgr)⟩

set_option maxRecDepth 20000 in
set_option maxHeartbeats 1000000 in
theorem all_any (b n : Nat) (M : Bytes → Option Value) (C : Bytes → Option Bytes) (w : World) (hm : MapAt w b n M) (hh : Holds w M C) (hn : n ≤ 10000) (hk : ∀ k l, C k = some l → 1 ≤ k.length ∧ k.length ≤ 1000 ∧ l.length ≤ 100000) :
    Calls Tryz.prog 41 #[.map (some b)] w fun e w' => ∃ (ps : List Pr) (A : Option Addr) (cap : Nat), e = .returned (.slice A ps.length cap) ∧ ps.length ≤ n ∧ Rd w' A (ps.flatMap Pr.cells) ∧ (∀ p ∈ ps, p.Ok w') ∧ (∀ p ∈ ps, p.gone = false ∧ C p.key = some p.val) ∧
      (∀ k, C k ≠ none → ∃ p ∈ ps, p.key = k) ∧ Below w.heap.size w w' := by
  have hmm := hm
  obtain ⟨D, hown, hD⟩ := hm
  have hsz := hown.size_le
  have HK := Lib.hid (callsIn_wide.1 (Tryz.maps_Keys_61 (some b) w))
  have HS := Lib.hid (callsIn_wide.1 (Tryz.slices_Sorted_keys_60_61 b n D heldR w hown (by unfold maxLen; omega) (by omega)))
  go_enter Tryz.func41, Tryz.ntmps41
  go_wp2_with (fail)
  refine HK.out.mono ?_
  rintro e w1 ⟨rfl, rfl⟩
  go_wp2_with (fail)
  refine HS.out.mono ?_
  rintro e W2 ⟨v, ss, rfl, hperm, hrow, _, hb2⟩
  obtain ⟨ks, hks⟩ : ∃ ks, ss.mergeSort (fun x y => decide (x ≤ y)) = ks := ⟨_, rfl⟩
  rw [hks] at hrow
  have hkl : ks.length = ss.length := by rw [← hks]; simp
  have hmem : ∀ k, k ∈ ks ↔ (M k).isSome = true := fun k => by
    rw [← (hD k).1, ← mem_strKeys hown k, ← hks, List.mem_mergeSort, hperm.mem_iff]
  rw [← hkl] at hrow
  have hlen : ks.length ≤ n := by rw [hkl, hperm.length_eq, strKeys_length hown]; exact hsz
  have hb : Below w.heap.size w W2 := ((Below.refl _ w).alloc (Nat.le_refl _) _).trans (hb2.mono (by simp))
  obtain ⟨Av, cv, rfl, hcv, hlv, hrv⟩ := owns_slice hrow
  obtain ⟨N, hN⟩ : ∃ N, ks.length = N := ⟨_, rfl⟩
  rw [hN] at hrow hlen hlv ⊢
  have hrow0 := hrow.base (Nat.zero_le _)
  go_wp2_with (fail)
  go_loopw [2, 9] (fun o i wr => ∃ (k : Nat) (ps : List Pr), k ≤ N ∧ i = .int .i64 k ∧ wr.ownsRow w.heap.size 69 3 o k (ps.flatMap Pr.cells) ∧ ps.map Pr.key = ks.take k ∧ (∀ p ∈ ps, p.gone = false ∧ C p.key = some p.val ∧ p.Ok w) ∧
      wr.ownsRow 0 9 1 (.slice Av N cv) N (ks.map encStr) ∧ Below w.heap.size w wr) (fun _ i _ => N - (intOf i).toNat)
  case atStart => exact ⟨0, [], Nat.zero_le _, rfl, World.ownsRow_nil _ _ _ _, by simp, by simp, hrow0, hb⟩
  case round =>
    obtain ⟨k, ps, hkN, rfl, hown1, hkeys, hps, hrow1, hbr⟩ := hrel
    by_cases hlt : k < N
    · have hkp : k < ks.length := by omega
      obtain ⟨key, hkey⟩ : ∃ key, ks[k] = key := ⟨_, rfl⟩
      have hin : (M key).isSome = true := (hmem key).1 (hkey ▸ List.getElem_mem hkp)
      obtain ⟨l, hCl⟩ : ∃ l, C key = some l := by
        cases hc : C key with
        | none => rw [(hh key).1 hc] at hin; cases hin
        | some l => exact ⟨l, rfl⟩
      obtain ⟨v, hMv, hvo⟩ := (hh key).2 l hCl
      obtain ⟨Al, cl, rfl, hcl, _, hrl⟩ := owns_slice hvo
      obtain ⟨h1, h2, h3⟩ := hk key l hCl
      obtain ⟨_, _, hAv, _, _, hrd1⟩ := owns_slice hrow1
      simp only [Value.slice.injEq, true_and] at hAv
      obtain ⟨rfl, rfl⟩ := hAv
      obtain ⟨kb, ko, rfl, hkbl, hkc⟩ := hrd1 (by intro e; have := congrArg List.length e; simp at this; rw [this] at hkp; simp at hkp)
      have c0 : wr.cell? ⟨kb, ko + k, none⟩ = some (.string ⟨key.toArray⟩) := hkc k _ (by simp [hkp, hkey])
      have hget := (hmm.frm (F := NoB) (Frm.of_below hbr) id).get1 key (by omega)
      rw [hMv] at hget
      simp only [Option.getD_some] at hget
      obtain ⟨g, c, W5, hap, hown5, hf5⟩ := append_pair wr w.heap.size k u2 ⟨key, Al, cl, l, false⟩ (ps.flatMap Pr.cells) hown1 hbr.size (by omega)
      simp only [Pr.cells] at hap
      have hrow5 := owns_frm hrow1 hf5 (fun i hi e => owns_apart hrow1 hown1 (by decide) hi e)
      have hb5 : Below w.heap.size w W5 := hbr.trans ((hf5.weaken (G := fun b => w.heap.size ≤ b) (fun i _ e => (hown1.lt i e).1)).below' hbr.size)
      have HF := Lib.hid (And.intro hown5 (And.intro hrow5 hb5))
      clear hown5 hrow5 hb5 hf5 hkc hrow1 hown1 hrd1 hrow hrow0 hrv
      go_wp2_with (fail)
      obtain ⟨ho5, hr5, hb5⟩ := HF.out
      refine ⟨⟨k + 1, ps ++ [⟨key, Al, cl, l, false⟩], hlt, by simp, by rw [List.flatMap_append]; simpa using ho5, by rw [List.map_append, hkeys, List.take_succ_eq_append_getElem hkp, hkey]; rfl, fun p hp => ?_, hr5, hb5⟩, ?_⟩
      · rcases List.mem_append.1 hp with h | h
        · exact hps p h
        · simp only [List.mem_singleton] at h
          subst h
          exact ⟨rfl, hCl, ⟨h1, h2, h3, hcl, fun e => (by cases e), hrl⟩⟩
      · simp [intOf]
        omega
    · obtain rfl : k = N := by omega
      have hpl : ps.length = k := by have := congrArg List.length hkeys; simpa [hN] using this
      obtain ⟨A, c, rfl, hrdo⟩ := owns_rd hown1
      go_wp2_with (fail)
      go_ret
      refine ⟨ps, A, c, by rw [hpl]; rfl, by omega, hrdo, fun p hp => (hps p hp).2.2.below hbr, fun p hp => ⟨(hps p hp).1, (hps p hp).2.1⟩, fun x hx => ?_, hbr⟩
      have hin : x ∈ ks := (hmem x).2 (by
        cases hc : C x with
        | none => exact absurd hc hx
        | some l => obtain ⟨v, hv, _⟩ := (hh x).2 l hc; rw [hv]; rfl)
      rw [← hN, List.take_length] at hkeys
      rw [← hkeys] at hin
      obtain ⟨p, hp, e⟩ := List.mem_map.1 hin
      exact ⟨p, hp, e⟩
end Go.Proofs.YtchiikfdmogfpaaGreatDoor
