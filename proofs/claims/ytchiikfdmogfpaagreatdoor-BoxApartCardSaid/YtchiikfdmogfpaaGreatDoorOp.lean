/- The arguments, opened; what the row's list of variables gives. -/
import Derived.Test.YtchiikfdmogfpaaGreatDoorLw4
import Derived.Test.YtchiikfdmogfpaaGreatDoorCards
import Derived.Test.YtchiikfdmogfpaaGreatDoorTie
import Derived.ProofKit
import Derived.OpenShut
import Derived.Deep.Slices
import Derived.Deep.Fields
import Derived.ChangeSame
import Derived.Carry
import Derived.MakeChecks
import Derived.LaidMore
import Derived.Stop.LaidErr
import Derived.Lib.LaidTab
import Derived.Deep.DeepHandedRow
import Derived.Deep.DeepWitnessRowRef
namespace Go.Proofs.YtchiikfdmogfpaaGreatDoor
open Go.ChangeShapes Go.WideShapes Go.ChangeAt Go.RowKit Go.Deep

section
variable {H : Type} {enc : TypeId × Value → H} {P : Program} {w : World} {base : Nat} {spare : Nat → Bool} {held : Bool}
theorem open_slice_fields {t e : TypeId} {fs : Array Field} {fuel : Nat} {cs : List Value} {x : DataW H × List MemPlace} (ht : P.underlying t = some (.slice e)) (he : P.underlying e = some (.struct fs))
    (hone : oneCellFields P fs = true) (hC : P.cellsOf e = fs.size) (h : DataW.trod enc P w base spare held fuel t cs = some x) :
    (cs = [.slice none 0 0] ∧ x = (.nil, [])) ∨
    ∃ (a : Addr) (len cap m : Nat) (D : Nat → DataW H) (Pl : Nat → List MemPlace), cs = [.slice (some a) len cap] ∧ base ≤ a.block ∧ len ≤ cap ∧ cap ≤ maxLen ∧ m = (if spare a.block then cap else len) ∧
      x = (.slice ((List.range len).map D) ((List.range (m - len)).map fun j => D (len + j)), MemPlace.row a (m * fs.size) ++ (List.range m).flatMap Pl) ∧
      ∀ i, i < m → ∃ (ys : List (DataW H × List MemPlace)) (n : Nat), D i = .agg (ys.map (·.1)) ∧ Pl i = ys.flatMap (·.2) ∧ ys.length = fs.size ∧
        ∀ (j : Nat) (f : Field), fs[j]? = some f → ∃ (v : Value) (y : DataW H × List MemPlace), w.cell? (a.add (i * fs.size + j)) = some v ∧ ys[j]? = some y ∧ DataW.trod enc P w base spare held n f.type [v] = some y := by
  rcases open_slice ht h with h0 | ⟨a, len, cap, m, n, D, Pl, hcs, hb, hl, hm, hmm, hx, hi⟩
  · exact .inl h0
  · refine .inr ⟨a, len, cap, m, D, Pl, hcs, hb, hl, hm, hmm, by rw [hC] at hx; exact hx, fun i him => ?_⟩
    obtain ⟨cs', hc, ht'⟩ := hi i him
    rw [hC] at hc
    obtain ⟨ys, n', hn', hy, hlen, hyl, hf⟩ := DataW.trod_struct he ht'
    obtain ⟨_, hcl, hat⟩ := World.cells?_some hc
    simp only [Prod.mk.injEq] at hy
    refine ⟨ys, n', hy.1, hy.2, hyl, fun j f hj => ?_⟩
    obtain ⟨ho, hk⟩ := hone_of hone j f hj
    have hjl : j < fs.size := (Array.getElem?_eq_some_iff.1 hj).1
    have hcell := hat j hjl
    have hv : cs'[j]? = some (cs'[j]'(by omega)) := List.getElem?_eq_getElem (by omega)
    have h1 := hf j f hj
    rw [ho, hk] at h1
    have hone' : (cs'.drop j).take 1 = [cs'[j]'(by omega)] := by
      rw [List.drop_eq_getElem_cons (by omega)]
      rfl
    rw [hone'] at h1
    have hys : ys[j]? = some (ys[j]'(by omega)) := List.getElem?_eq_getElem (by omega)
    refine ⟨_, _, ?_, hys, h1.trans hys⟩
    rw [← Go.Deep.add_add, hcell, hv]
end

theorem Tryz.cellsU8 : Tryz.prog.cellsOf 5 = 1 := by kernel_rfl
theorem Tryz.laidOut : laidOutB Tryz.prog = true := by kernel_rfl
theorem Tryz.ownKnob : ownKnob Tryz.prog.godebug = none := by kernel_rfl

/-- Bytes that come in. -/
theorem open_bytes_rd {H : Type} {enc : TypeId × Value → H} {W : World} {base : Nat} {sp : Nat → Bool} {held : Bool} {fuel : Nat} {v : Value} {y : DataW H × List MemPlace}
    (h : DataW.trod enc Tryz.prog W base sp held fuel 24 [v] = some y) : ∃ (A : Option Addr) (l : Bytes) (c : Nat), v = .slice A l.length c ∧ l.length ≤ c ∧ Rd W A (l.map bv) := by
  rcases open_ints Tryz.under5 Tryz.underlying5 Tryz.cellsU8 h with ⟨hcs, hx⟩ | ⟨a, len, cap, zs, hcs, _, hl, hm, hz, hx, hcell, hwz⟩
  · simp only [List.cons.injEq, and_true] at hcs
    subst hcs
    exact ⟨none, [], 0, rfl, Nat.le_refl _, Rd.nil _ _⟩
  · simp only [List.cons.injEq, and_true] at hcs
    subst hcs
    have hzl : len ≤ zs.length := by rw [hz]; split <;> omega
    refine ⟨some a, (zs.take len).map (fun z => UInt8.ofNat z.toNat), cap, by simp; omega, by simp; omega, fun hne => ?_⟩
    have h0 : 0 < len := by
      apply Nat.pos_of_ne_zero; intro e; subst e; simp at hne
    obtain ⟨b, off, spot⟩ := a
    have hspot : spot = none := by simpa [Addr.add] using World.cell?_spot (hcell 0 (by omega))
    subst hspot
    have hc0 := hcell 0 (by omega)
    refine ⟨b, off, rfl, lt_of_cell (b := b) (o := off) (by simpa [Addr.add] using hc0), fun j u hu => ?_⟩
    simp only [List.map_map, List.getElem?_map, Option.map_eq_some_iff] at hu
    obtain ⟨z, hz1, rfl⟩ := hu
    have hj : j < len := by
      have := (List.getElem?_eq_some_iff.1 hz1).1
      simp at this; omega
    have hj2 : zs[j]? = some z := by rw [List.getElem?_take_of_lt hj] at hz1; exact hz1
    have hmem : z ∈ zs := List.mem_of_getElem? hj2
    have hw := hwz z hmem
    simp [Lit.wf, IntKind.min, IntKind.max, IntKind.signed, IntKind.bits] at hw
    have := hcell j (by omega)
    rw [Addr.add_mid] at this
    rw [this]
    simp only [List.getD, hj2, Option.getD_some, Function.comp, bv_ofNat]
    congr 2
    omega
theorem Tryz.underCalls : Tryz.prog.underlying 22 = some (.slice 26) := by kernel_rfl

theorem calls_length (cs : List Ca) : (cs.flatMap Ca.cells).length = cs.length * 5 := by
  induction cs with
  | nil => rfl
  | cons c r ih => rw [List.flatMap_cons, List.length_append, ih]; simp [Ca.cells]; omega
/-- The calls that come in. -/
theorem open_calls {H : Type} {enc : TypeId × Value → H} {W : World} {v : Value} {d : DataW H} {p : List MemPlace} (h : DataW.Trod enc Tryz.prog W 0 (fun _ => true) true 22 v d p)
    (hv : ∃ a l c, v = .slice a l c) : ∃ (Ac : Option Addr) (cs : List Ca) (cap : Nat), v = .slice Ac cs.length cap ∧ Rd W Ac (cs.flatMap Ca.cells) ∧ ∀ c ∈ cs, c.Ok W := by
  obtain ⟨a0, l0, c0, rfl⟩ := hv
  obtain ⟨fuel, hf⟩ := h
  rcases open_slice_fields Tryz.underCalls Tryz.underlying26 (by kernel_rfl) (by kernel_rfl) hf with ⟨hcs, hx⟩ | ⟨a, len, cap, m, D, Pl, hcs, _, hl, hm, hmm, hx, hel⟩
  · simp [Value.cells] at hcs
    obtain ⟨rfl, rfl, rfl⟩ := hcs
    exact ⟨none, [], 0, rfl, Rd.nil _ _, by simp⟩
  · simp [Value.cells] at hcs
    obtain ⟨rfl, rfl, rfl⟩ := hcs
    simp only [if_true] at hmm
    have each : ∀ i, i < l0 → ∃ c : Ca, c.Ok W ∧ ∀ j u, c.cells[j]? = some u → W.cell? (a.add (i * 5 + j)) = some u := fun i hi => by
      obtain ⟨ys, n, _, _, _, hfl⟩ := hel i (by omega)
      obtain ⟨v0, y0, h0, _, t0⟩ := hfl 0 _ rfl
      obtain ⟨v1, y1, h1, _, t1⟩ := hfl 1 _ rfl
      obtain ⟨v2, y2, h2, _, t2⟩ := hfl 2 _ rfl
      obtain ⟨v3, y3, h3, _, t3⟩ := hfl 3 _ rfl
      obtain ⟨v4, y4, h4, _, t4⟩ := hfl 4 _ rfl
      obtain ⟨z0, e0, _, w0⟩ := DataW.trod_int Tryz.underlying3 t0
      obtain ⟨z1, e1, _, w1⟩ := DataW.trod_int Tryz.underlying3 t1
      obtain ⟨z2, e2, _, w2⟩ := DataW.trod_int Tryz.underlying3 t2
      obtain ⟨s3, e3, _, w3⟩ := DataW.trod_string Tryz.underlying9 t3
      obtain ⟨A4, l4, c4, e4, hc4, hr4⟩ := open_bytes_rd t4
      simp only [List.cons.injEq, and_true] at e0 e1 e2 e3
      subst e0; subst e1; subst e2; subst e3; subst e4
      simp [Lit.wf, IntKind.min, IntKind.max, IntKind.signed, IntKind.bits] at w1 w2
      refine ⟨⟨z0, z1, z2, s3.data.toList, A4, l4, c4⟩, ⟨by simp only; omega, by simp only; omega, by simp only; omega, by simp only; omega, hc4, hr4⟩, fun j u hu => ?_⟩
      match j, hu with
      | 0, hu => simp [Ca.cells] at hu; subst hu; exact h0
      | 1, hu => simp [Ca.cells] at hu; subst hu; exact h1
      | 2, hu => simp [Ca.cells] at hu; subst hu; exact h2
      | 3, hu => simp [Ca.cells] at hu; subst hu; exact h3
      | 4, hu => simp [Ca.cells] at hu; subst hu; exact h4
      | j + 5, hu => simp [Ca.cells] at hu
    obtain ⟨f, hfn⟩ : ∃ f : Nat → Ca, ∀ i, i < l0 → (f i).Ok W ∧ ∀ j u, (f i).cells[j]? = some u → W.cell? (a.add (i * 5 + j)) = some u :=
      ⟨fun i => if h : i < l0 then (each i h).choose else ⟨0, 0, 0, [], none, [], 0⟩, fun i hi => by simp only [dif_pos hi]; exact (each i hi).choose_spec⟩
    refine ⟨some a, (List.range l0).map f, c0, by simp, fun hne => ?_, fun c hc => ?_⟩
    · have h0 : 0 < l0 := by apply Nat.pos_of_ne_zero; intro e; subst e; simp at hne
      have hc0 := (hfn 0 h0).2 0 _ rfl
      obtain ⟨b, off, spot⟩ := a
      have hspot : spot = none := by simpa [Addr.add] using World.cell?_spot hc0
      subst hspot
      refine ⟨b, off, rfl, lt_of_cell (b := b) (o := off) (by simpa [Addr.add] using hc0), fun j u hu => ?_⟩
      have hjl : j / 5 < l0 := by
        have := (List.getElem?_eq_some_iff.1 hu).1
        have hlen : (((List.range l0).map f).flatMap Ca.cells).length = l0 * 5 := by rw [calls_length]; simp
        omega
      have h2 := call_cells ((List.range l0).map f) (j / 5) (by simpa using hjl) (j % 5) (Nat.mod_lt _ (by omega))
      rw [show j / 5 * 5 + j % 5 = j from by omega, hu] at h2
      have h3 := (hfn (j / 5) hjl).2 (j % 5) u (by rw [h2]; simp)
      rw [show j / 5 * 5 + j % 5 = j from by omega, Addr.add_mid] at h3
      exact h3
    · obtain ⟨i, hi, rfl⟩ := List.mem_map.1 hc
      exact (hfn i (List.mem_range.1 hi)).1

abbrev lawList : List (String × DataW Unit) := [("math/bits.deBruijn32tab", Rows.laid_math_bits_deBruijn32tab), ("math/bits.deBruijn64tab", Rows.laid_math_bits_deBruijn64tab), ("internal/strconv.uint64pow10", Rows.laid_internal_strconv_uint64pow10), ("strconv.ErrRange", Rows.laid_strconv_ErrRange), ("strconv.ErrSyntax", Rows.laid_strconv_ErrSyntax)]
theorem pow10_data : (Rows.laid_internal_strconv_uint64pow10 : DataW Unit) = Lib.tabData .u64 Lib.pow10Tab := by kernel_rfl

theorem tab_of_laid {W : World} (h : laidMetH Tryz.prog lawList W) : TabG W := by
  rw [MakeChecks.laidMetH_plain _ _ _ (by kernel_rfl)] at h
  have h2 := h.tail.tail
  rw [pow10_data] at h2
  exact Lib.tabIs_of_head tab_block (by kernel_rfl) Tryz.underlying206 Tryz.underlying114 (by kernel_rfl) (by kernel_rfl) h2
theorem size_of_laid {W : World} (h : laidMetH Tryz.prog lawList W) : 5 ≤ W.heap.size := by
  rw [MakeChecks.laidMetH_plain _ _ _ (by kernel_rfl)] at h
  obtain ⟨ps1, ⟨g1, t1, cs1, f1, p1, q1, hg1, ht1, hv1, _⟩, _⟩ := h
  have lt : ∀ (n : String) (g : Nat) (cs : Array Value), Tryz.prog.globalNamed n = some g → W.var? Tryz.prog n = some cs → g < W.heap.size := fun n g cs h1 h2 => by
    unfold World.var? at h2
    rw [h1] at h2
    simp only [Option.bind_some] at h2
    cases hh : W.heap[g]? with
    | none => rw [hh] at h2; cases h2
    | some o => exact (Array.getElem?_eq_some_iff.1 hh).1
  exact lt _ 4 cs1 (by kernel_rfl) hv1
/-- The door's own heap holds what the row lists. -/
theorem door_met (os : Os) (args : Array Value) : laidMetH Tryz.prog lawList ((World.doorLaid Tryz.prog 400 os).forCall (fun _ _ => 0) ⟨#[], args, []⟩).memory :=
  laidMetH_of_parts3 (fuel := 8) (laidMet_of_run' 8 (by kernel_rfl) (by kernel_rfl)) (by kernel_rfl) (by kernel_rfl)
end Go.Proofs.YtchiikfdmogfpaaGreatDoor
