/- BoxFull: the loop. -/
import Derived.Test.YtchiikfdmogfpaaGreatDoorLw3
namespace Go.Proofs.YtchiikfdmogfpaaGreatDoor
open Go.RowKit

/-- A call that comes in. -/
structure Ca where
  what : Int
  uid : Int
  flags : Int
  folder : Bytes
  A : Option Addr
  mail : Bytes
  cap : Nat
def Ca.cells (c : Ca) : List Value := [.int .i64 c.what, .int .i64 c.uid, .int .i64 c.flags, .string ⟨c.folder.toArray⟩, .slice c.A c.mail.length c.cap]
structure Ca.Ok (c : Ca) (w : World) : Prop where
  u0 : -9223372036854775808 ≤ c.uid
  u1 : c.uid ≤ 9223372036854775807
  f0 : -9223372036854775808 ≤ c.flags
  f1 : c.flags ≤ 9223372036854775807
  hc : c.mail.length ≤ c.cap
  rd : Rd w c.A (c.mail.map bv)
section
variable (ρ : Operand → Value) (dst : Option Tmp) (x y : Operand) (ty : TypeId) (pos : String) (after : Array Edge) (guard : Option (Nat × Bool))
theorem exec_loadCall : execOp ρ { dst, op := .load 26 x, type := ty, pos, after, guard } = loadOp 26 (ρ x) := rfl
theorem exec_storeCall : execOp ρ { dst, op := .store 26 x y, type := ty, pos, after, guard } = storeOp 26 (ρ x) (ρ y) := rfl
end
theorem Tryz.rowCall : (Tryz.prog.info? 26).map (·.size) = some 5 := by kernel_rfl
theorem call_cells (cs : List Ca) (k : Nat) (h : k < cs.length) (j : Nat) (hj : j < 5) : (cs.flatMap Ca.cells)[k * 5 + j]? = (cs[k].cells)[j]? := by
  induction cs generalizing k with
  | nil => simp at h
  | cons p r ih =>
    cases k with
    | zero => rw [List.flatMap_cons, List.getElem?_append_left (by simp [Ca.cells]; omega)]; simp
    | succ m =>
      rw [List.flatMap_cons, List.getElem?_append_right (by simp [Ca.cells]; omega)]
      have := ih m (by simpa using h)
      simp only [Ca.cells, List.length_cons, List.length_nil] at this ⊢
      rw [show (m + 1) * 5 + j - (0 + 1 + 1 + 1 + 1 + 1) = m * 5 + j from by omega, this]
      rfl
/-- A call is loaded whole. -/
theorem load_call {w : World} {Ac : Option Addr} {cs : List Ca} (h : Rd w Ac (cs.flatMap Ca.cells)) {k : Nat} (hk : k < cs.length) : ∃ b o, Ac = some ⟨b, o, none⟩ ∧ b < w.heap.size ∧ ∀ W, Below w.heap.size w W → (loadOp 26 (.pointer (some ⟨b, o + k * 5, none⟩))).run Tryz.prog W = .ok (.value (.agg cs[k].cells.toArray)) W := by
  obtain ⟨b, o, rfl, hlt, hc⟩ := h (by intro e; have := call_cells cs k hk 0 (by omega); rw [e] at this; simp [Ca.cells] at this)
  refine ⟨b, o, rfl, hlt, fun W hW => run_loadOp (load_row _ _ Tryz.underlying26 rfl Tryz.rowCall ⟨rfl, fun j v hv => ?_⟩)⟩
  have hj : j < 5 := by
    have := (List.getElem?_eq_some_iff.1 hv).1
    simpa [Ca.cells] using this
  rw [Nat.add_assoc, hW.cell (p := ⟨b, o + (k * 5 + j), none⟩) hlt]
  exact hc _ _ (by rw [call_cells cs k hk j hj]; exact hv)
theorem store_call {w : World} {m : Nat} {c : Array Value} (hm : w.heap[m]? = some (.cells c 26 (0, 0))) (hc : c.size = 5) (ca : Ca) :
    ∃ w', (storeOp 26 (.pointer (some ⟨m, 0, none⟩)) (.agg ca.cells.toArray)).run Tryz.prog w = .ok .skip w' ∧ w'.heap[m]? = some (.cells ca.cells.toArray 26 (0, 0)) ∧ Frm (fun b => b = m) w w' := by
  obtain ⟨L⟩ := c
  refine ⟨w.setCells m 0 ca.cells, run_storeOp (store_row 26 (n := 5) (cs := ca.cells.toArray) Tryz.rowCall rfl (by simp [Ca.cells, Value.oneCell']) (there_of_block hm 0 5 (by omega))), ?_, ?_⟩
  · rw [heap_setCells_list m _ _ ca.cells 0 w L hm (by simp at hc; simp [Ca.cells]; omega), splice_whole _ _ (by simpa [Ca.cells] using hc)]
  · exact ⟨(os_setCells _ _ _ _).1, (os_setCells _ _ _ _).2.1, (os_setCells _ _ _ _).2.2, by rw [size_setCells]; exact Nat.le_refl _, fun i _ hn => heap_setCells_other _ _ _ _ _ hn⟩
attribute [local go_sem ↓] exec_loadCall exec_storeCall exec_storeMail
theorem cells5 {w : World} {b t : Nat} {x y z u v : Value} (h : w.heap[b]? = some (.cells #[x, y, z, u, v] t (0, 0))) :
    w.cell? ⟨b, 0, none⟩ = some x ∧ w.cell? ⟨b, 1, none⟩ = some y ∧ w.cell? ⟨b, 2, none⟩ = some z ∧ w.cell? ⟨b, 3, none⟩ = some u ∧ w.cell? ⟨b, 4, none⟩ = some v :=
  ⟨cell_of_row w b 0 _ _ _ h, cell_of_row w b 1 _ _ _ h, cell_of_row w b 2 _ _ _ h, cell_of_row w b 3 _ _ _ h, cell_of_row w b 4 _ _ _ h⟩
theorem row_own_block {S : Sv} {w : World} (h : S.At w) {i e : Nat} {c : Array Value} (hc : w.heap[i]? = some (.cells c e (0, 0))) (he : e ≠ 94 ∧ e ≠ 86 ∧ e ≠ 118 ∧ e ≠ 175 ∧ e ≠ 24) : ¬ S.Own i := fun hx => by
  rcases hx with q | q | q | q | q
  · have h9 := h.st; unfold StAt at h9; rw [← q, hc] at h9; simp at h9; exact he.1 h9.2
  · have h9 := h.jr.d.hd; rw [← q, hc] at h9; simp at h9; exact he.2.1 h9.2
  · have h9 := h.jr.j; unfold JAt at h9; rw [← q, hc] at h9; simp at h9; exact he.2.2.1 h9.2
  · have h9 := h.jr.d.row; rw [← q, hc] at h9; simp at h9; exact he.2.2.2.1 h9.2
  · exact owns_ne h.jr.r hc he.2.2.2.2 q
theorem list_le {C : Bytes → Option Bytes} {V : BState} (_h : BRel C V) (f : Bytes) : (V.list f).length ≤ V.next f := by
  have := List.length_filter_le (fun u => (V.mail f u).isSome) (List.range (V.next f))
  rw [List.length_range] at this
  exact this

theorem list_expunge {C : Bytes → Option Bytes} {V : BState} (_h : BRel C V) (f : Bytes) : (V.expunge f).list f = (V.list f).filter fun u => !(V.mail f u).any dead := by
  unfold BState.list BState.expunge
  rw [List.filter_filter]
  apply List.filter_congr
  intro u hu
  simp only [true_and]
  cases hm : V.mail f u with
  | none => simp
  | some p => cases hd : dead p <;> simp [hd]
theorem list_expunge_length {C : Bytes → Option Bytes} {V : BState} (h : BRel C V) (f : Bytes) : ((V.expunge f).list f).length + (V.doomed f).length = (V.list f).length := by
  rw [list_expunge h f, BState.doomed]
  have : ∀ (p : Nat → Bool) (l : List Nat), (l.filter fun u => !p u).length + (l.filter p).length = l.length := by
    intro p l
    induction l with
    | nil => rfl
    | cons a r ih => cases h : p a <;> simp [h] <;> omega
  exact this (fun u => (V.mail f u).any dead) (V.list f)
theorem and15 (z : Int) : ∃ fl : Nat, fl ≤ 15 ∧ bits .and .i64 z 15 = (fl : Int) := by
  refine ⟨(BitVec.ofInt 64 z &&& BitVec.ofInt 64 15).toNat, ?_, ?_⟩
  · rw [BitVec.toNat_and]
    exact Nat.le_trans Nat.and_le_right (by decide)
  · have h : (BitVec.ofInt 64 z &&& BitVec.ofInt 64 15).toNat ≤ 15 := by rw [BitVec.toNat_and]; exact Nat.le_trans Nat.and_le_right (by decide)
    show IntKind.i64.wrap _ = _
    exact wraps_i64 _ (by omega) (by show ((BitVec.ofInt 64 z &&& BitVec.ofInt 64 15).toNat : Int) ≤ _; omega)
/-- Mark of a mail that is there, whatever becomes of it. -/
theorem mark_how {B bx : Nat} {S : Sv} {w : World} (h : Bx B bx S w) {V : BState} (hr : BRel S.C V) (hmn : S.mn + 1 ≤ 10000) (f : Bytes) (u : Nat) (hu : u ∈ V.list f) (fl : Nat) (hfl : fl ≤ 15) :
    Calls Tryz.prog 14 #[.pointer (some ⟨bx, 0, none⟩), .string ⟨f.toArray⟩, .int .i64 u, .int .i64 fl] w fun e w' => ∃ (c : Int) (S' : Sv) (V' : BState), e = .returned (.int .i64 c) ∧ (c = 0 ∨ c = 6) ∧ S.Step S' w w' ∧ BRel S'.C V' ∧
      (V'.list f = V.list f ∧ V'.next = V.next ∧ S'.mn ≤ S.mn + 1 ∧ ∀ g, g ≠ f → V'.mail g = V.mail g) := by
  have hul := list_lt hr f u hu
  obtain ⟨⟨fl0, b⟩, hm⟩ := Option.isSome_iff_exists.1 ((mem_list hr f u).1 hu)
  refine (mark_any h hr hmn f u (by omega) fl0 b hm fl hfl).mono ?_
  rintro e w' ⟨c, rfl, S', hst, ⟨rfl, hR, hm2, _⟩ | ⟨rfl, rfl, _⟩⟩
  · refine ⟨0, S', V.mark f u fl, rfl, .inl rfl, hst, hR, ?_, rfl, by omega, fun g hg => by funext x; simp [BState.mark, hg]⟩
    unfold BState.list BState.mark
    apply List.filter_congr
    intro x _
    simp only [true_and]
    split
    · rename_i e; subst e; simp
    · rfl
  · exact ⟨6, _, V, rfl, .inr rfl, hst, hr, rfl, rfl, by omega, fun _ _ => rfl⟩
/-- Expunge, whatever becomes of it. -/
theorem expunge_how {B bx : Nat} {S : Sv} {w : World} (h : Bx B bx S w) {V : BState} (hr : BRel S.C V) (f : Bytes) (hf : f.length ≤ 900000000000000) (hmn : S.mn + (V.list f).length ≤ 10000) :
    Calls Tryz.prog 16 #[.pointer (some ⟨bx, 0, none⟩), .string ⟨f.toArray⟩] w fun e w' => ∃ (A : Option Addr) (n cc : Nat) (c : Int) (S' : Sv) (V' : BState), e = .returned (.tuple #[.slice A n cc, .int .i64 c]) ∧ (c = 0 ∨ c = 6) ∧ S.Step S' w w' ∧ BRel S'.C V' ∧
      ((V'.list f).length + n = (V.list f).length ∧ V'.next = V.next ∧ S'.mn ≤ S.mn + (V.list f).length ∧ ∀ g, g ≠ f → V'.mail g = V.mail g) := by
  refine (expunge_any h hr f hf hmn).mono ?_
  rintro e w' ⟨v, c, us, rfl, ho, hcase⟩
  obtain ⟨A, cc, rfl, _, _, _⟩ := owns_slice ho
  rcases hcase with ⟨_, rfl, rfl, hb⟩ | ⟨_, ⟨S', hst, ⟨rfl, hR, hm, _⟩ | ⟨rfl, rfl, _⟩⟩, h0, h6⟩
  · exact ⟨A, _, cc, 0, S, V, rfl, .inl rfl, .of_below h.st hb, hr, by simp, rfl, by omega, fun _ _ => rfl⟩
  · obtain rfl := h0 rfl
    exact ⟨A, _, cc, 0, S', V.expunge f, rfl, .inl rfl, hst, hR, list_expunge_length hr f, rfl, by have := doomed_le V f; omega, fun g hg => by funext x; simp [BState.expunge, hg]⟩
  · obtain rfl := h6 rfl
    exact ⟨A, _, cc, 6, _, V, rfl, .inr rfl, hst, hr, by simp, rfl, by omega, fun _ _ => rfl⟩

set_option maxRecDepth 100000 in
set_option maxHeartbeats 2000000 in
theorem boxFull_any (n : Int) (cs : List Ca) (Ac : Option Addr) (cap : Nat) (w : World) (hg : 5 ≤ w.heap.size) (ht : TabG w) (hrd : Rd w Ac (cs.flatMap Ca.cells)) (hok : ∀ c ∈ cs, c.Ok w) :
    Calls Tryz.prog 4 #[.int .i64 n, .slice Ac cs.length cap] w fun e w' => e = .returned (.bool true) ∧ Below w.heap.size w w' := by
  have HS := Lib.hid (speaks_any w hg ht)
  by_cases h1 : n < 4 ∨ 100 < n ∨ 60 < cs.length
  · have hcases : (n < 4) ∨ (¬ n < 4 ∧ 100 < n) ∨ (¬ n < 4 ∧ ¬ 100 < n ∧ 60 < cs.length) := by omega
    clear h1
    obtain ⟨ln, hln⟩ : ∃ ln, cs.length = ln := ⟨_, rfl⟩
    rw [hln] at hcases ⊢
    clear hln
    rcases hcases with h1 | ⟨h1, h2⟩ | ⟨h1, h2, h3⟩
    · go_enter Tryz.func4, Tryz.ntmps4
      go_wp2_with (fail)
      refine HS.out.mono ?_
      rintro e w1 ⟨rfl, hb1⟩
      go_wp2_with (fail)
      go_ret
      exact ⟨rfl, hb1⟩
    · go_enter Tryz.func4, Tryz.ntmps4
      go_wp2_with (fail)
      refine HS.out.mono ?_
      rintro e w1 ⟨rfl, hb1⟩
      go_wp2_with (fail)
      go_ret
      exact ⟨rfl, hb1⟩
    · have e3 : ((60 : Int) < (ln : Int)) = True := by simp; omega
      go_enter Tryz.func4, Tryz.ntmps4
      go_wp2_with (fail)
      refine HS.out.mono ?_
      rintro e w1 ⟨rfl, hb1⟩
      go_wp2_with (fail)
      go_ret
      exact ⟨rfl, hb1⟩
  · obtain ⟨N, rfl⟩ : ∃ N : Nat, n = N := ⟨n.toNat, by omega⟩
    have hN4 : 4 ≤ N := by omega
    have hN1 : N ≤ 100 := by omega
    have hlen : cs.length ≤ 60 := by omega
    have e1 : ((N : Int) < 4) = False := by simp; omega
    have e2 : ((100 : Int) < (N : Int)) = False := by simp; omega
    have e3 : ((60 : Int) < (cs.length : Int)) = False := by simp; omega
    obtain ⟨ln, hln⟩ : ∃ ln, cs.length = ln := ⟨_, rfl⟩
    have HLN := Lib.hid hln
    rw [hln] at hlen e3 ⊢
    clear h1 hln
    go_enter Tryz.func4, Tryz.ntmps4
    go_wp2_with (fail)
    refine HS.out.mono ?_
    rintro e w1 ⟨rfl, hb1⟩
    go_wp2_with (fail)
    refine (laid_any N w1 (by omega) hN4 (by have := hb1.size; omega) (ht.below hb1 hg)).mono ?_
    rintro e w2 ⟨bx, S0, rfl, hB0, hF0, hb2⟩
    have hR0 : BRel S0.C V0 := by rw [hF0.C]; exact BRel.init
    have hmn0 := hF0.mn
    have hb02 : Below w.heap.size w w2 := hb1.trans (hb2.mono hb1.size)
    have H0 := Lib.hid (And.intro hB0 (And.intro hR0 (And.intro hmn0 hb02)))
    have hs1 := hb1.size
    clear hF0 hR0 hmn0 hB0 hb02 hb2
    go_wp2_with (fail)
    go_loopw [7, 43] (fun la i wr => ∃ (k last : Nat) (S : Sv) (V : BState), k ≤ ln ∧ i = .int .i64 k ∧ la = .int .i64 last ∧ Bx w1.heap.size bx S wr ∧ BRel S.C V ∧ last < V.next fIn ∧ V.next fIn ≤ k + 1 ∧ S.mn ≤ 61 * k ∧ Below w.heap.size w wr) (fun _ i _ => ln - (intOf i).toNat)
    case atStart => exact ⟨0, 0, S0, V0, Nat.zero_le _, rfl, rfl, H0.out.1, H0.out.2.1, by decide, by decide, by rw [H0.out.2.2.1]; omega, H0.out.2.2.2⟩
    case round =>
      obtain ⟨k, last, S, V, hk, rfl, rfl, hB, hR, hla, hnx, hmn, hbr⟩ := hrel
      by_cases hlt : k < ln
      · have hkc : k < cs.length := by have := HLN.out; omega
        obtain ⟨b, o, rfl, hbl, hld⟩ := load_call hrd hkc
        obtain ⟨ca, hca⟩ : ∃ ca, cs[k] = ca := ⟨_, rfl⟩
        rw [hca] at hld
        have hcok := hok ca (hca ▸ List.getElem_mem hkc)
        have hldr := hld wr hbr
        obtain ⟨W3, hst3, hm3, hf3⟩ := store_call (w := wr.alloc (.cells #[.int .i64 0, .int .i64 0, .int .i64 0, .string ⟨#[]⟩, .slice none 0 0] 26)) (hal_at rfl) rfl ca
        have hb3 : Below wr.heap.size wr W3 := ((Below.refl _ _).alloc (Nat.le_refl _) _).trans ((hf3.weaken (G := fun b => wr.heap.size ≤ b) (fun i _ e => by omega)).below' (by simp))
        have HCO := Lib.hid hcok
        have HRR := Lib.hid hR
        have HNX := Lib.hid (And.intro hla (And.intro hnx hmn))
        have HBR := Lib.hid hbr
        obtain ⟨what, uid, flags, folder, Am, mail, mc⟩ := ca
        simp only [Ca.cells] at hldr hst3 hm3
        obtain ⟨c0, _, c2, _, c4⟩ := cells5 hm3
        have hB3 := hB.below hb3
        have HM3 := Lib.hid hm3
        have HB3 := Lib.hid hB3
        have HBB := Lib.hid hb3
        clear hld hcok hca hR hla hnx hmn hbr hf3 hB hm3
        by_cases hml : 300 < mail.length
        · have e5 : ((300 : Int) < (mail.length : Int)) = True := by simp; omega
          have HFIN := Lib.hid (HBR.out.trans (HBB.out.mono HBR.out.size))
          clear hml hB3 hb3
          go_wp2_with (fail)
          go_ret
          exact ⟨rfl, HFIN.out⟩
        · have e5 : ((300 : Int) < (mail.length : Int)) = False := by simp; omega
          have hml' : mail.length ≤ 300 := by omega
          have HL := Lib.hid (list_any hB3 HRR.out (by have := HNX.out.2.2; omega) fIn (by decide))
          clear hml hB3 hb3
          go_wp2_with (fail)
          refine HL.out.mono ?_
          rintro e W4 ⟨v4, rfl, ho4, hb4⟩
          have HN := Lib.hid (next_any (HB3.out.below hb4) HRR.out fIn (by decide))
          have hm4 := (hb4.block _ (Array.getElem?_eq_some_iff.1 HM3.out).1).trans HM3.out
          have HO4 := Lib.hid ho4
          have HB4 := Lib.hid hb4
          obtain ⟨A4, c4', rfl, hc4, _, hr4⟩ := owns_slice ho4
          have HM4 := Lib.hid hm4
          clear ho4 hb4 hm4 c0 c2 c4 hr4 hc4
          go_wp2_with (fail)
          refine HN.out.mono ?_
          rintro e W5 ⟨rfl, hb5⟩
          have hm5 := (hb5.block _ (Array.getElem?_eq_some_iff.1 HM4.out).1).trans HM4.out
          obtain ⟨c0, _, c2, _, c4⟩ := cells5 hm5
          have HM5 := Lib.hid hm5
          have HB5 := Lib.hid hb5
          clear hm5 hb5
          have hb45 : Below W3.heap.size W3 W5 := HB4.out.trans (HB5.out.mono HB4.out.size)
          have hb35 : Below wr.heap.size wr W5 := HBB.out.trans (hb45.mono HBB.out.size)
          have HB05 := Lib.hid (HBR.out.trans (hb35.mono HBR.out.size))
          have HB5x := Lib.hid (HB3.out.below hb45)
          have HO5 := Lib.hid (owns_below HO4.out HB5.out)
          have hs5 := hb35.size
          clear hb45 hb35
          by_cases hw0 : what = 0 ∨ what = 1
          · have HD := Lib.hid (deliver_any HB5x.out HRR.out (by have := HNX.out.2.2; omega) fIn fIn_ok (by have := HNX.out.2.1; omega) Am mail mc (by omega) HCO.out.hc (HCO.out.rd.below HB05.out))
            have HXX : Hid (∀ W6 S', S.Step S' W5 W6 → W6.heap[wr.heap.size]? = some (.cells #[.int .i64 what, .int .i64 uid, .int .i64 flags, .string ⟨folder.toArray⟩, .slice Am mail.length mc] 26 (0, 0)) ∧ W6.ownsRow W3.heap.size 3 1 (.slice A4 (V.list fIn).length c4') (V.list fIn).length ((V.list fIn).map iv) ∧ Bx w1.heap.size bx S' W6 ∧ Below w.heap.size w W6) := Lib.hid fun W6 S' hst => by
              refine ⟨?_, owns_frm HO5.out hst.frm (fun i hi => HB5x.out.st.row_own HO5.out (by decide) hi), HB5x.out.step hst, HB05.out.trans ((hst.below HB5x.out.own HB5x.out.size).mono hs1)⟩
              have hmm := HM5.out
              have hlt5 := (Array.getElem?_eq_some_iff.1 hmm).1
              refine (hst.frm.block _ hlt5 (fun e => ?_)).trans hmm
              exact row_own_block HB5x.out.st hmm (by decide) e
            obtain ⟨Nx, hNx⟩ : ∃ Nx, V.next fIn = Nx := ⟨_, rfl⟩
            rw [hNx] at HD
            have HNN := Lib.hid hNx
            obtain ⟨hNla, hNk, hSm⟩ := HNX.out
            rw [hNx] at hNla hNk
            clear hNx hSm
            rw [HNN.out]
            rcases hw0 with rfl | rfl
            all_goals
              go_wp2_with (fail)
              refine HD.out.mono ?_
              rintro e W6 ⟨S', hst, hcase⟩
              obtain ⟨hm6, ho6, hB6, hb06⟩ := HXX.out W6 S' hst
              obtain ⟨_, _, _, _, c4⟩ := cells5 hm6
              rcases hcase with ⟨rfl, hR6, hmn6, _⟩ | ⟨rfl, rfl, _⟩
              · have hm1 : (V.deliver fIn mail).mail fIn Nx = some (0, mail) := by simp [BState.deliver, HNN.out]
                have HF6 := Lib.hid (fetch_yes hB6 hR6 fIn Nx (by have := HNX.out.2.1; have := HNN.out; omega) 0 mail hm1)
                have H6 := Lib.hid (And.intro hB6 (And.intro hb06 (And.intro hR6 (And.intro hmn6 hm6))))
                clear ho6 hB6 hb06 hst hR6 hmn6 hm6 hm1
                go_wp2_with (fail)
                refine HF6.out.mono ?_
                rintro e W7 ⟨A7, c7, rfl, _, hr7, _, hb7⟩
                rw [show ((0 : Nat) : Int) = 0 from rfl]
                obtain ⟨W8, hst8, hm8, hf8⟩ := store_mail (w := W7.alloc (.cells #[.int .i64 0, .int .i64 0, .slice none 0 0] 46)) (hal_at rfl) rfl (.int .i64 Nx) (.int .i64 0) (.slice A7 mail.length c7) rfl rfl rfl
                have hb78 : Below W7.heap.size W7 W8 := ((Below.refl _ _).alloc (Nat.le_refl _) _).trans ((hf8.weaken (G := fun b => W7.heap.size ≤ b) (fun i _ e => by omega)).below' (by simp))
                have hb68 : Below W6.heap.size W6 W8 := hb7.trans (hb78.mono hb7.size)
                have m8 := (cells3 hm8).2
                obtain ⟨_, q1, q2⟩ := m8
                have hmm := (hb68.block _ (Array.getElem?_eq_some_iff.1 H6.out.2.2.2.2).1).trans H6.out.2.2.2.2
                obtain ⟨_, _, _, _, c4⟩ := cells5 hmm
                have hb08 := H6.out.2.1.trans (hb68.mono H6.out.2.1.size)
                have HSM := Lib.hid (same_same A7 Am c7 mc mail W8 (hr7.below hb78) (HCO.out.rd.below hb08) (by omega))
                have H8 := Lib.hid (And.intro hb08 hb68)
                clear hb7 hb78 hb68 hm8 hf8 hmm hb08 hr7
                have hd1 : ((Nx : Int) ≤ (last : Int)) = False := by simp; omega
                go_wp2_with (fail)
                refine HSM.out.mono ?_
                rintro e W9 ⟨rfl, hb9⟩
                have hs8 := hb9.size
                have q3 := (hb9.cell (p := ⟨W7.heap.size, 1, none⟩) (lt_of_cell q1)).trans q1
                have HB9 := Lib.hid hb9
                clear hb9 q1 q2
                go_wp2_with (fail)
                go_roundw
                case rel =>
                  obtain ⟨g1, g2, g3, g4, g5⟩ := H6.out
                  refine ⟨k + 1, Nx, S', V.deliver fIn mail, hlt, by go_num, rfl, (g1.below H8.out.2).below HB9.out, g3, ?_, ?_, by have := HNX.out.2.2; omega, H8.out.1.trans (HB9.out.mono H8.out.1.size)⟩
                  · simp [BState.deliver, HNN.out]
                  · simp only [BState.deliver, if_true, HNN.out]; omega
                case measure => simp [intOf]; omega
              · have HL6 := Lib.hid (list_any hB6 HRR.out (by have := HNX.out.2.2; omega) fIn (by decide))
                have H6 := Lib.hid (And.intro ho6 (And.intro hB6 hb06))
                clear ho6 hB6 hb06 hst hm6
                go_wp2_with (fail)
                refine HL6.out.mono ?_
                rintro e W7 ⟨v7, rfl, ho7, hb7⟩
                obtain ⟨A7, c7, rfl, _, _, hr7⟩ := owns_slice ho7
                obtain ⟨A6, c6, he6, _, _, hr6⟩ := owns_slice (owns_below H6.out.1 hb7)
                simp only [Value.slice.injEq, true_and] at he6
                obtain ⟨rfl, rfl⟩ := he6
                have HSI := Lib.hid (sameInts_same A7 A4 c7 c4' (V.list fIn) W7 hr7 hr6 (by have := list_le HRR.out fIn; have := HNX.out.2.1; omega))
                have HB7 := Lib.hid hb7
                clear ho7 hr7 hr6 hb7
                go_wp2_with (fail)
                refine HSI.out.mono ?_
                rintro e W8 ⟨rfl, hb8⟩
                have HB8 := Lib.hid (H6.out.2.1.below (HB7.out.trans (hb8.mono HB7.out.size)))
                have HN8 := Lib.hid (next_any HB8.out HRR.out fIn (by decide))
                rw [HNN.out] at HN8
                have HB68 := Lib.hid (HB7.out.trans (hb8.mono HB7.out.size))
                clear hb8
                go_wp2_with (fail)
                refine HN8.out.mono ?_
                rintro e W9 ⟨rfl, hb9⟩
                have HB9 := Lib.hid hb9
                clear hb9
                go_wp2_with (fail)
                go_roundw
                case rel =>
                  refine ⟨k + 1, last, _, V, hlt, by go_num, rfl, HB8.out.below HB9.out, HRR.out, HNX.out.1, by have := HNX.out.2.1; omega, by have := HNX.out.2.2; omega, H6.out.2.2.trans ((HB68.out.trans (HB9.out.mono HB68.out.size)).mono H6.out.2.2.size)⟩
                case measure => simp [intOf]; omega
          · by_cases hw2 : what = 2
            · subst hw2
              obtain ⟨wo, rfl⟩ : ∃ wo : World, wo = wr := ⟨_, rfl⟩
              obtain ⟨fl, hfl, hand⟩ := and15 flags
              have hll := list_le HRR.out fIn
              obtain ⟨ls, hls⟩ : ∃ ls, V.list fIn = ls := ⟨_, rfl⟩
              have hl100 : ls.length ≤ 100 := by rw [← hls]; have := HNX.out.2.1; omega
              have HLS := Lib.hid hls
              have HO5' := Lib.hid (HO5.out)
              rw [hls] at HO5'
              rw [hls]
              have HIN : Hid (∃ (S' : Sv) (V' : BState), Bx w1.heap.size bx S' W5 ∧ BRel S'.C V' ∧ V'.next = V.next ∧ V'.list fIn = ls ∧ S'.mn ≤ S.mn + 0) := Lib.hid ⟨S, V, HB5x.out, HRR.out, rfl, hls, by omega⟩
              have HAND := Lib.hid (And.intro hfl hand)
              clear hw0 hll hls hfl hand
              go_wp2_with (fail)
              go_loopw [152] (fun i2 wi => ∃ q : Nat, q ≤ ls.length ∧ i2 = .int .i64 q ∧ Hid (∃ (S' : Sv) (V' : BState), Bx w1.heap.size bx S' wi ∧ BRel S'.C V' ∧ V'.next = V.next ∧ V'.list fIn = ls ∧ S'.mn ≤ S.mn + q) ∧
                  wi.heap[wo.heap.size]? = some (.cells #[.int .i64 2, .int .i64 uid, .int .i64 flags, .string ⟨folder.toArray⟩, .slice Am mail.length mc] 26 (0, 0)) ∧ wi.ownsRow W3.heap.size 3 1 (.slice A4 ls.length c4') ls.length (ls.map iv) ∧ Below w.heap.size w wi ∧ w1.heap.size ≤ wi.heap.size) (fun i2 _ => ls.length - (intOf i2).toNat)
              case atStart => exact ⟨0, Nat.zero_le _, rfl, HIN, HM5.out, HO5'.out, HB05.out, HB5x.out.size⟩
              case round =>
                obtain ⟨q, hq, rfl, hst, hmi, hoi, hbi, hwi⟩ := hrel
                by_cases hqlt : q < ls.length
                · obtain ⟨S', V', hBi, hRi, hnxi, hlsi, hmni⟩ := hst.out
                  obtain ⟨u, hu⟩ : ∃ u, ls[q] = u := ⟨_, rfl⟩
                  have hin : u ∈ V'.list fIn := by rw [hlsi, ← hu]; exact List.getElem_mem hqlt
                  obtain ⟨A', cc', he', _, _, hri⟩ := owns_slice hoi
                  simp only [Value.slice.injEq, true_and] at he'
                  obtain ⟨rfl, rfl⟩ := he'
                  obtain ⟨g, o4, rfl, hgl, hc⟩ := hri (by intro e; have := congrArg List.length e; simp at this; rw [this] at hqlt; simp at hqlt)
                  have hcell : wr.cell? ⟨g, o4 + q, none⟩ = some (.int .i64 (u : Int)) := hc q _ (by simp [hqlt, hu, iv])
                  obtain ⟨_, _, c2, _, _⟩ := cells5 hmi
                  have HMK := Lib.hid (mark_how hBi hRi (by have := HNX.out.2.2; omega) fIn u hin fl HAND.out.1)
                  have hfand := HAND.out.2
                  have HI := Lib.hid (And.intro hmi (And.intro hoi (And.intro hbi (And.intro hwi (And.intro hBi (And.intro hnxi (And.intro hlsi hmni)))))))
                  clear hst hmi hoi hbi hwi hBi hRi hnxi hlsi hmni hri hc hu hin
                  go_wp2_with (fail)
                  refine HMK.out.mono ?_
                  rintro e W6 ⟨c6, S6, V6, rfl, hc6, hst6, hR6, hls6, hnx6, hmn6, _⟩
                  have HI6 : Hid (Hid (∃ (S' : Sv) (V' : BState), Bx w1.heap.size bx S' W6 ∧ BRel S'.C V' ∧ V'.next = V.next ∧ V'.list fIn = ls ∧ S'.mn ≤ S.mn + (q + 1 : Nat)) ∧
                      W6.heap[wo.heap.size]? = some (.cells #[.int .i64 2, .int .i64 uid, .int .i64 flags, .string ⟨folder.toArray⟩, .slice Am mail.length mc] 26 (0, 0)) ∧ W6.ownsRow W3.heap.size 3 1 (.slice (some ⟨g, o4, none⟩) ls.length c4') ls.length (ls.map iv) ∧ Below w.heap.size w W6 ∧ w1.heap.size ≤ W6.heap.size) := by
                    obtain ⟨g1, g2, g3, g4, g5, g6, g7, g8⟩ := HI.out
                    refine Lib.hid ⟨Lib.hid ⟨S6, V6, g5.step hst6, hR6, by rw [hnx6, g6], by rw [hls6, g7], by omega⟩, ?_, owns_frm g2 hst6.frm (fun i hi => g5.st.row_own g2 (by decide) hi), g3.trans ((hst6.below g5.own g5.size).mono hs1), (g5.step hst6).size⟩
                    exact (hst6.frm.block _ (Array.getElem?_eq_some_iff.1 g1).1 (fun e => row_own_block g5.st g1 (by decide) e)).trans g1
                  clear hst6 hR6 hls6 hnx6 hmn6 c2 hcell hfand
                  rcases hc6 with rfl | rfl
                  all_goals
                    go_wp2_with (fail)
                    refine ⟨⟨q + 1, hqlt, by go_num, HI6.out.1, HI6.out.2.1, HI6.out.2.2.1, HI6.out.2.2.2.1, HI6.out.2.2.2.2⟩, by simp [intOf]; omega⟩
                · obtain rfl : q = ls.length := by omega
                  go_wp2_with (fail)
                  go_roundw
                  case rel =>
                    obtain ⟨S', V', hBi, hRi, hnxi, hlsi, hmni⟩ := hst.out
                    refine ⟨k + 1, last, S', V', hlt, by go_num, rfl, hBi, hRi, by rw [hnxi]; exact HNX.out.1, by rw [hnxi]; have := HNX.out.2.1; omega, ?_, hbi⟩
                    have := HNX.out.2.2
                    have := HNX.out.2.1
                    have h9 := list_le HRR.out fIn
                    rw [HLS.out] at h9
                    omega
                  case measure => simp [intOf]; omega
            · have f0 : (what == 0) = false := by apply beq_eq_false_iff_ne.2; omega
              have f1 : (what == 1) = false := by apply beq_eq_false_iff_ne.2; omega
              have f2 : (what == 2) = false := by apply beq_eq_false_iff_ne.2; omega
              have hll := list_le HRR.out fIn
              have HE := Lib.hid (expunge_how HB5x.out HRR.out fIn (by decide) (by have := HNX.out.2.1; have := HNX.out.2.2; omega))
              clear hw0 hw2 hll
              go_wp2_with (fail)
              refine HE.out.mono ?_
              rintro e W6 ⟨A6, n6, cc6, c6, S6, V6, rfl, hc6, hst6, hR6, hle6, hnx6, hmn6, _⟩
              have hB6 := HB5x.out.step hst6
              have hb06 := HB05.out.trans ((hst6.below HB5x.out.own HB5x.out.size).mono hs1)
              have hll := list_le HRR.out fIn
              have HL6 := Lib.hid (list_any hB6 hR6 (by have := HNX.out.2.1; have := HNX.out.2.2; omega) fIn (by decide))
              have hlm : ((V6.list fIn).length : Int) = ((V.list fIn).length : Int) - (n6 : Int) := by omega
              have H6 := Lib.hid (And.intro hB6 (And.intro hb06 (And.intro hR6 (And.intro hmn6 (And.intro hnx6 (And.intro hlm hle6))))))
              clear hst6 hB6 hb06 hR6 hmn6 hnx6 hll hlm hle6
              rcases hc6 with rfl | rfl
              all_goals
                go_wp2_with (fail)
                refine HL6.out.mono ?_
                rintro e W7 ⟨v7, rfl, ho7, hb7⟩
                obtain ⟨A7, c7, rfl, _, _, _⟩ := owns_slice ho7
                have HB7 := Lib.hid hb7
                have HN7 := Lib.hid (next_any (H6.out.1.below hb7) H6.out.2.2.1 fIn (by decide))
                rw [H6.out.2.2.2.2.1] at HN7
                clear ho7 hb7
                have hq1 : n6 ≤ (V.list fIn).length := by have := H6.out.2.2.2.2.2.2; omega
                have hq2 : (V.list fIn).length ≤ 1000 := by have := list_le HRR.out fIn; have := HNX.out.2.1; omega
                have hq3 : (((V6.list fIn).length : Int) != ((V.list fIn).length : Int) - (n6 : Int)) = false := by rw [H6.out.2.2.2.2.2.1]; simp
                have hq4 : (((V6.list fIn).length : Int) == ((V.list fIn).length : Int) - (n6 : Int)) = true := by rw [H6.out.2.2.2.2.2.1]; simp
                go_wp2_with (fail)
                refine HN7.out.mono ?_
                rintro e W8 ⟨rfl, hb8⟩
                have HB8 := Lib.hid hb8
                clear hb8 hq1 hq2 hq3 hq4
                go_wp2_with (fail)
                go_roundw
                case rel =>
                  obtain ⟨g1, g2, g3, g4, g5, g6, g7⟩ := H6.out
                  have hb68 := HB7.out.trans (HB8.out.mono HB7.out.size)
                  refine ⟨k + 1, last, S6, V6, hlt, by go_num, rfl, g1.below hb68, g3, by rw [g5]; exact HNX.out.1, by rw [g5]; have := HNX.out.2.1; omega, by have := HNX.out.2.1; have := HNX.out.2.2; have := list_le HRR.out fIn; omega, g2.trans (hb68.mono g2.size)⟩
                case measure => simp [intOf]; omega
      · obtain rfl : k = ln := by omega
        go_wp2_with (fail)
        go_ret
        exact ⟨rfl, hbr⟩
end Go.Proofs.YtchiikfdmogfpaaGreatDoor
