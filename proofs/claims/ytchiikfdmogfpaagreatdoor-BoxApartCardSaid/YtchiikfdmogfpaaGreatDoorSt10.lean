/- store.Keys: the keys that begin with a text, rising. -/
import Derived.Test.YtchiikfdmogfpaaGreatDoorSt9
import Derived.Test.YtchiikfdmogfpaaGreatDoorPl1
import Derived.Test.YtchiikfdmogfpaaGreatDoorShelf
import Derived.Maps.RangeWalk
import Derived.Sort.OwnSorted
namespace Go.Proofs.YtchiikfdmogfpaaGreatDoor
open Go.RowKit Go.Maps Go.Sort

section
variable (ρ : Operand → Value) (dst : Option Tmp) (x y : Operand) (ty : TypeId) (pos : String) (after : Array Edge) (guard : Option (Nat × Bool))
theorem exec_appendS : execOp ρ { dst, op := .call { callee := .builtin .append, args := #[x, y], argTypes := #[33, 33] }, type := ty, pos, after, guard } = appendOp 33 ty (ρ x) (ρ y) := by simp [BigFrame.execOp_builtin, BigFrame.builtin_append, appendOp]
end
attribute [local go_sem ↓ high] exec_appendS
theorem Tryz.infoStr : (Tryz.prog.info? 9).map (fun i => (i.zero, i.size, i.bytes)) = some (some (.string ⟨#[]⟩), 1, 16) := by kernel_rfl
theorem Tryz.underStrs : Tryz.prog.underlying 33 = some (.slice 9) := by kernel_rfl
/-- One more text is put behind the others. -/
theorem append_text (W3 : World) (base k : Nat) (v : Value) (s : Bytes) (xs : List Value) (ho : W3.ownsRow base 9 1 v k xs) (hb : base ≤ W3.heap.size) (hk : k ≤ 10000000) :
    ∃ g c W5, (appendOp 33 33 v (.slice (some ⟨W3.heap.size, 0, none⟩) 1 1)).run Tryz.prog (W3.alloc (.cells #[encStr s] 9)) = .ok (.value (.slice (some ⟨g, 0, none⟩) (k + 1) c)) W5 ∧
      W5.ownsRow base 9 1 (.slice (some ⟨g, 0, none⟩) (k + 1) c) (k + 1) (xs ++ [encStr s]) ∧ W3.grownBy W5 v.ownBlock := by
  obtain ⟨i0, hi, hz0, hz1, hz2⟩ := info_parts Tryz.infoStr
  obtain ⟨rv', W5, hap, hown, hgr, _, _⟩ := run_append_own_at (P := Tryz.prog) (w := W3.alloc (.cells #[encStr s] 9)) base 33 33 9 i0 _ 1 16 Tryz.underStrs hi hz0 hz1 hz2 rfl (by decide) v k xs (ho.alloc _) ⟨W3.heap.size, 0, none⟩ 1 1 [encStr s] rfl
    ((RowAt.new W3 #[encStr s] 9 (n := 1) rfl rfl).src) (by intro u hu; simp at hu; subst hu; rfl) (by unfold maxLen; omega) (by omega) (by simp; omega)
  obtain ⟨g, c, rfl⟩ := ownsRow_succ hown
  exact ⟨g, c, W5, run_appendOp hap, hown, (World.grownBy_alloc W3 _ _).trans hgr⟩

theorem sort_own (base : Nat) (v : Value) (ss : List Bytes) (w : World) (ho : w.ownsRow base 9 1 v ss.length (ss.map encStr)) (hn : ss.length ≤ 10000000) :
    Calls Tryz.prog 50 #[v] w fun e w' => e = .returned (.tuple #[]) ∧ w'.ownsRow base 9 1 v ss.length ((ss.mergeSort fun x y => decide (x ≤ y)).map encStr) ∧ Frm (fun b => v.ownBlock = some b) w w' := by
  rcases ho.2 with ⟨rfl, h0⟩ | ⟨g, cap, cur, rfl, hbase, hb, h1, h2, h3, h4⟩
  · have : ss = [] := by simpa using h0
    subst this
    exact (Tryz.slices_Sort_string_none none 0 w).mono fun _ _ ⟨he, hw⟩ => ⟨he, by rw [hw]; simpa using ho, by rw [hw]; exact Frm.refl _ _⟩
  · refine (Tryz.slices_Sort_string g 0 cap ss w (holds_of_block hb (by simpa using h4)) ((Array.getElem?_eq_some_iff.1 hb).1) (by omega)).mono ?_
    rintro e w' ⟨he, n, os, rfl⟩
    exact ⟨he, ownsRow_sorted (by simp) hbase hb h1 h2 h3, Frm.of_grown (grownBy_sorted _)⟩
theorem encStr_inj {x y : Bytes} (h : encStr x = encStr y) : x = y := by
  simp only [encStr, Value.string.injEq, ByteArray.mk.injEq] at h
  simpa using h
theorem text_of_key {x : Bytes} {kl : Lit} (h : keyOf Tryz.prog 9 (encStr x) = some kl) : kl = .string x := by
  obtain ⟨y, h1, h2, _⟩ := Maps.keyOf_str Tryz.underlying9 h
  rw [encStr_inj h1, h2]

theorem ranges_has {w : World} {b r n : Nat} {D : DataW Value} {left : Lit → Bool} {cnt : Nat} (h : w.ranges Tryz.prog 9 heldR b r n D left cnt) {x : Bytes} (hl : left (.string x) = true) : Maps.has D (.string x) = true := by
  obtain ⟨es, clock, since, seen, c0, hb, F, hs, rfl, hr, hold, hc, hl1, hl2, _⟩ := h
  obtain ⟨y, hy, e⟩ := hl2 _ hl
  refine List.any_eq_true.2 ⟨_, mem_sorted.2 (List.mem_map.2 ⟨y, hy, rfl⟩), ?_⟩
  rw [e]
  exact WideAt.sameKey_self (isKeyS x)

set_option maxRecDepth 20000 in
set_option maxHeartbeats 1000000 in
theorem keys_any (s j b n : Nat) (M : Bytes → Option Value) (p : Bytes) (w : World) (hs : StAt w s j b) (hm : MapAt w b n M) (hn : n ≤ 10000) :
    Calls Tryz.prog 32 #[.pointer (some ⟨s, 0, none⟩), .string ⟨p.toArray⟩] w fun e w' => ∃ (A : Option Addr) (c : Nat) (ks : List Bytes), e = .returned (.slice A ks.length c) ∧ Rd w' A (ks.map encStr) ∧ ks.length ≤ n ∧
      ks.Pairwise (· ≤ ·) ∧ ks.Nodup ∧ (∀ k, k ∈ ks ↔ ((M k).isSome = true ∧ p <+: k)) ∧ Below w.heap.size w w' := by
  have c1 := hs.c1
  obtain ⟨D, hown, hD⟩ := hm
  have hsz := hown.size_le
  have hbl := hown.lt
  have HD := Lib.hid (fun k => (hD k).1)
  have HPX : Hid (∀ (x : Bytes) w, Calls Tryz.prog 49 #[encStr x, .string ⟨p.toArray⟩] w fun e w' => e = .returned (.bool (p.isPrefixOf x)) ∧ w = w') :=
    Lib.hid (fun (x : Bytes) w => (Tryz.strings_HasPrefix ⟨x.toArray⟩ ⟨p.toArray⟩ w).mono fun _ _ h => ⟨h.1, h.2.symm⟩)
  clear hD hs
  go_enter Tryz.func32, Tryz.ntmps32
  go_wp2_with (first
    | (at_range; refine wpList_range_own _ rfl _ 90 rfl 9 24 Tryz.keyedS Tryz.mapT _ b n _ rfl hown ?_; intro w0 hrg0 hg0 hs0))
  try go_frame
  go_loopw [4] (fun o wr => ∃ (left : Lit → Bool) (cnt : Nat) (ks : List Bytes), wr.ranges Tryz.prog 9 heldR b w.heap.size n D left cnt ∧ wr.ownsRow (w.heap.size + 1) 9 1 o ks.length (ks.map encStr) ∧ ks.Nodup ∧
      (∀ k, k ∈ ks ↔ (Maps.has D (.string k) = true ∧ left (.string k) = false ∧ p <+: k)) ∧ ks.length + cnt ≤ n ∧ Below w.heap.size w wr ∧ w.heap.size + 1 ≤ wr.heap.size) (fun _ wr => wr.rangeLeft b w.heap.size)
  case atStart =>
    refine ⟨Maps.has D, Maps.size D, [], hrg0, World.ownsRow_nil _ _ _ _, List.nodup_nil, fun k => ⟨fun h => by simp at h, fun h => by rw [h.1] at h; exact absurd h.2.1 (by decide)⟩, by simpa using hsz, ?_, by omega⟩
    exact ⟨hg0.os, hg0.tape, hg0.output, hg0.size, fun i hi => hg0.block i (by omega) (by simp)⟩
  case round =>
    obtain ⟨left, cnt, ks, hrg, hro, hnd, hmem, hlen, hbr, hRs⟩ := hrel
    have HM := Lib.hid hmem
    have HN := Lib.hid hnd
    clear hmem hnd
    go_wp2_with (first
      | (at_next; refine wpList_next_ranges _ rfl _ rfl 9 Tryz.keyedS heldR encStr (id : Value → Value) (fun key kl h => by obtain ⟨x, hx, _⟩ := Maps.keyOf_str Tryz.underlying9 h; exact ⟨x, hx⟩) (fun v y _ => ⟨v, rfl⟩) b w.heap.size n _ _ _ rfl hrg ?_ ?_))
    · intro hc0 hl0
      go_wp2_with (fail)
      refine (sort_own (w.heap.size + 1) u4 ks _ hro (by omega)).mono ?_
      rintro e w2 ⟨rfl, hr2, hf2⟩
      go_wp2_with (fail)
      go_ret
      obtain ⟨A, c, rfl, hrd⟩ := owns_rd hr2
      refine ⟨A, c, ks.mergeSort fun x y => decide (x ≤ y), by rw [List.length_mergeSort]; rfl, hrd, by rw [List.length_mergeSort]; omega, ?_, (List.mergeSort_perm _ _).nodup_iff.2 HN.out, fun k => ?_, hbr.trans ((hf2.weaken (G := fun b => w.heap.size ≤ b) (fun i _ e => by have := (hro.lt i e).1; omega)).below' (by omega))⟩
      · have := List.pairwise_mergeSort (le := fun x y : Bytes => decide (x ≤ y)) (fun a b c h1 h2 => by simp only [decide_eq_true_eq] at h1 h2 ⊢; exact List.le_trans h1 h2) (fun a b => by simp only [Bool.or_eq_true, decide_eq_true_eq]; exact List.le_total a b) ks
        exact this.imp (fun h => by simpa using h)
      · rw [List.mem_mergeSort, HM.out k, hl0, HD.out k]
        simp
    · intro x c kl a1 b1 w1 cnt1 hkey hlk e1 e2 hat hrg1 hlt hg1 hs1 hen
      obtain rfl := text_of_key hkey
      have hhas := ranges_has hrg hlk
      have hro1 := owns_frm hro (Frm.of_grown hg1) (fun i hi e => by have := (hro.lt i hi).1; simp only [Option.some.injEq] at e; omega)
      have hf1 : Frm (fun i => w.heap.size ≤ i) wr w1 := (Frm.of_grown hg1).weaken (fun i _ e => by simp only [Option.some.injEq] at e; omega)
      have hb1 : Below w.heap.size w w1 := hbr.trans (hf1.below' (by omega))
      have hxn : x ∉ ks := fun h => by have := ((HM.out x).1 h).2.1; rw [hlk] at this; cases this
      have hmk : ∀ k : Bytes, (left (.string k) && !(Lit.string k).sameKey (.string x)) = false ↔ (left (.string k) = false ∨ k = x) := fun k => by
        by_cases hk : k = x
        · subst hk; simp [Lit.sameKey]
        · simp [Lit.sameKey, hk]
      have HK := Lib.hid (And.intro hkey (And.intro hhas (And.intro hxn (And.intro hmk (And.intro hat hlk)))))
      have HG := Lib.hid hrg1
      have HE := Lib.hid (And.intro e1 e2)
      have HL := Lib.hid (And.intro hlt hrg)
      clear hkey hhas hxn hmk hat hlk hrg1 e1 e2 hlt hrg hro hg1
      obtain ⟨pb, hpb⟩ : ∃ pb, p.isPrefixOf x = pb := ⟨_, rfl⟩
      have HP := (HPX.out x w1)
      rw [hpb] at HP
      have HPB := Lib.hid hpb
      have HP1 := Lib.hid HP
      clear hpb HP
      cases pb
      · go_wp2_with (fail)
        refine HP1.out.mono ?_
        rintro e w2 ⟨rfl, rfl⟩
        go_wp2_with (fail)
        go_roundw
        case rel =>
          obtain ⟨hkey, hhas, hxn, hmk, hat, hlk⟩ := HK.out
          refine ⟨_, cnt1, ks, HG.out, hro1, HN.out, fun k => ?_, by have := HL.out.1; omega, hb1, by omega⟩
          rw [HM.out k, hmk k]
          constructor
          · exact fun h => ⟨h.1, .inl h.2.1, h.2.2⟩
          · rintro ⟨h1, h2 | rfl, h3⟩
            · exact ⟨h1, h2, h3⟩
            · have := HPB.out; rw [← List.isPrefixOf_iff_prefix, this] at h3; cases h3
        case measure => rw [HG.out.left_eq, HL.out.2.left_eq]; exact HL.out.1
      · obtain ⟨g, c5, W5, hap, hown5, hg5⟩ := append_text w1 (w.heap.size + 1) ks.length u4 x (ks.map encStr) hro1 (by omega) (by omega)
        have hrg5 := HG.out.kept hg5 (row_ne_low hro1 (by omega)) (row_ne_low hro1 (by omega))
        have hb5 : Below w.heap.size w W5 := hb1.trans (((Frm.of_grown hg5).weaken (G := fun b => w.heap.size ≤ b) (fun i _ e => by have := (hro1.lt i e).1; omega)).below' (by omega))
        have hs5 := hg5.size
        rw [hs1] at hap
        have HF := Lib.hid (And.intro hown5 (And.intro hrg5 hb5))
        clear hown5 hrg5 hb5 hg5
        go_wp2_with (fail)
        refine HP1.out.mono ?_
        rintro e w2 ⟨rfl, rfl⟩
        go_wp2_with (fail)
        obtain ⟨hown5, hrg5, hb5⟩ := HF.out
        go_roundw
        case rel =>
          obtain ⟨hkey, hhas, hxn, hmk, hat, hlk⟩ := HK.out
          refine ⟨_, cnt1, ks ++ [x], hrg5, by rw [List.map_append, List.length_append]; exact hown5, ?_, fun k => ?_, by have := HL.out.1; rw [List.length_append, List.length_singleton]; omega, hb5, by omega⟩
          · rw [List.nodup_append]; exact ⟨HN.out, by simp, fun a ha b hb => by simp at hb; subst hb; exact fun e => hxn (e ▸ ha)⟩
          · rw [List.mem_append, List.mem_singleton, HM.out k, hmk k]
            constructor
            · rintro (h | rfl)
              · exact ⟨h.1, .inl h.2.1, h.2.2⟩
              · exact ⟨hhas, .inr rfl, List.isPrefixOf_iff_prefix.1 HPB.out⟩
            · rintro ⟨h1, h2 | rfl, h3⟩
              · exact .inl ⟨h1, h2, h3⟩
              · exact .inr rfl
        case measure => rw [hrg5.left_eq, HL.out.2.left_eq]; exact HL.out.1
end Go.Proofs.YtchiikfdmogfpaaGreatDoor
