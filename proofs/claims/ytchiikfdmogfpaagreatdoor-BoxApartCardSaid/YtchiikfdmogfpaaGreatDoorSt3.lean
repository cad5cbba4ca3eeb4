/- store.do. -/
import Derived.Test.YtchiikfdmogfpaaGreatDoorMap1
import Derived.Test.YtchiikfdmogfpaaGreatDoorSt2
namespace Go.Proofs.YtchiikfdmogfpaaGreatDoor
open Go.RowKit
attribute [local go_sem ↓] exec_put90
attribute [local go_sem ↓ high] exec_del90

/-- The slices that M tells hold the bytes that C tells. -/
def Holds (w : World) (M : Bytes → Option Value) (C : Bytes → Option Bytes) : Prop :=
  ∀ k, (C k = none → M k = none) ∧ ∀ l, C k = some l → ∃ v, M k = some v ∧ w.ownsRow 0 5 1 v l.length (l.map bv)
/-- No block of F holds bytes. -/
def NoBytes (w : World) (F : Nat → Prop) : Prop := ∀ b, F b → ∀ cur, w.heap[b]? ≠ some (.cells cur 5 (0, 0))
theorem Holds.frm {F : Nat → Prop} {w w' : World} {M : Bytes → Option Value} {C : Bytes → Option Bytes} (h : Holds w M C) (hf : Frm F w w') (hn : NoBytes w F) : Holds w' M C := fun k =>
  ⟨(h k).1, fun l hl => by
    obtain ⟨v, h1, h2⟩ := (h k).2 l hl
    refine ⟨v, h1, owns_frm h2 hf fun i hi e => ?_⟩
    obtain ⟨cur, hc⟩ := owns_elem h2 hi
    exact hn i e cur hc⟩
theorem MapAt.noBytes {w : World} {b n : Nat} {M : Bytes → Option Value} (h : MapAt w b n M) : NoBytes w (fun x => x = b) := fun x hx cur hc => by
  subst hx
  obtain ⟨D, ⟨es, clock, hb, _⟩, _⟩ := h
  rw [hb] at hc; cases hc
theorem MapAt.ne_cell {w : World} {b n : Nat} {M : Bytes → Option Value} (h : MapAt w b n M) {a : Addr} {v : Value} (hc : w.cell? a = some v) : a.block ≠ b := fun e => by
  obtain ⟨D, ⟨es, clock, hb, _⟩, _⟩ := h
  unfold World.cell? at hc
  rw [e, hb] at hc
  simp at hc
def doC (C : Bytes → Option Bytes) (ps : List Pr) : Bytes → Option Bytes := ps.foldl (fun C p x => if x = p.key then (if p.gone then none else some p.val) else C x) C
theorem doC_take (C : Bytes → Option Bytes) (ps : List Pr) (k : Nat) (h : k < ps.length) : doC C (ps.take (k + 1)) = fun x => if x = ps[k].key then (if ps[k].gone then none else some ps[k].val) else doC C (ps.take k) x := by
  unfold doC; rw [List.take_succ_eq_append_getElem h, List.foldl_append]; rfl
theorem Holds.put {w : World} {M : Bytes → Option Value} {C : Bytes → Option Bytes} (h : Holds w M C) (k : Bytes) (v : Value) (l : Bytes) (hv : w.ownsRow 0 5 1 v l.length (l.map bv)) : Holds w (upd M k (some v)) (fun x => if x = k then some l else C x) := fun x => by
  by_cases hx : x = k
  · refine ⟨fun e => ?_, fun l' e => ?_⟩
    · simp [hx] at e
    · simp only [hx, if_true, Option.some.injEq] at e; subst e; exact ⟨v, by simp [upd, hx], hv⟩
  · refine ⟨fun e => ?_, fun l' e => ?_⟩
    · simp only [if_neg hx] at e; simp only [upd, if_neg hx]; exact (h x).1 e
    · simp only [if_neg hx] at e; simp only [upd, if_neg hx]; exact (h x).2 l' e
theorem Holds.del {w : World} {M : Bytes → Option Value} {C : Bytes → Option Bytes} (h : Holds w M C) (k : Bytes) : Holds w (upd M k none) (fun x => if x = k then none else C x) := fun x => by
  by_cases hx : x = k
  · refine ⟨fun _ => by simp [upd, hx], fun l' e => ?_⟩
    simp [hx] at e
  · refine ⟨fun e => ?_, fun l' e => ?_⟩
    · simp only [if_neg hx] at e; simp only [upd, if_neg hx]; exact (h x).1 e
    · simp only [if_neg hx] at e; simp only [upd, if_neg hx]; exact (h x).2 l' e
theorem MapAt.mono {w : World} {b n m : Nat} {M : Bytes → Option Value} (h : MapAt w b n M) (hn : n ≤ m) : MapAt w b m M := by
  obtain ⟨D, h1, h2⟩ := h; exact ⟨D, h1.mono hn, h2⟩

set_option maxRecDepth 20000 in
set_option maxHeartbeats 1000000 in
theorem do_any (b n : Nat) (M : Bytes → Option Value) (C : Bytes → Option Bytes) (ps : List Pr) (A : Option Addr) (cap : Nat) (w : World) (hm : MapAt w b n M) (hh : Holds w M C) (hrd : Rd w A (ps.flatMap Pr.cells)) (hok : ∀ p ∈ ps, p.Ok w) (hn : n + ps.length < 1000000)
    (hcl : ∀ p ∈ ps, ∀ a, p.A = some a → a.block ≠ b) :
    Calls Tryz.prog 38 #[.map (some b), .slice A ps.length cap] w fun e w' => e = .returned (.tuple #[]) ∧ ∃ M', MapAt w' b (n + ps.length) M' ∧ Holds w' M' (doC C ps) ∧ Frm (fun x => x = b) w w' := by
  obtain ⟨N, hN⟩ : ∃ N, ps.length = N := ⟨_, rfl⟩
  rw [hN] at hn ⊢
  go_enter Tryz.func38, Tryz.ntmps38
  go_wp2_with (fail)
  go_loopw [8] (fun i wr => ∃ (k : Nat) (M' : Bytes → Option Value), k ≤ N ∧ i = .int .i64 k ∧ MapAt wr b (n + k) M' ∧ Holds wr M' (doC C (ps.take k)) ∧ Frm (fun x => x = b) w wr) (fun i _ => N - (intOf i).toNat)
  case atStart => exact ⟨0, M, Nat.zero_le _, rfl, hm, hh, Frm.refl _ _⟩
  case round =>
    obtain ⟨k, M', hk, rfl, hmr, hhr, hfr⟩ := hrel
    by_cases hlt : k < N
    · have hkp : k < ps.length := by omega
      obtain ⟨pb, o, rfl, hbl, hcl0⟩ := hrd (by intro e; have := pair_cells ps k hkp 0 (by omega); rw [e] at this; simp [Pr.cells] at this)
      have hpb : pb ≠ b := hm.ne_cell (a := ⟨pb, o + (k * 3 + 0), none⟩) (hcl0 (k * 3 + 0) _ (by rw [pair_cells ps k hkp 0 (by omega)]; rfl))
      obtain ⟨p, hp⟩ : ∃ p, ps[k] = p := ⟨_, rfl⟩
      have hpk := (hok p (hp ▸ List.getElem_mem hkp))
      have hpc := (hcl p (hp ▸ List.getElem_mem hkp))
      have hcell : ∀ j u, p.cells[j]? = some u → j < 3 → wr.cell? ⟨pb, o + (k * 3 + j), none⟩ = some u := fun j u hu hj => (hfr.cell (p := ⟨pb, o + (k * 3 + j), none⟩) hbl hpb).trans (hcl0 (k * 3 + j) u (by rw [pair_cells ps k hkp j hj, hp]; exact hu))
      have c0 := hcell 0 _ rfl (by omega)
      have c1 := hcell 1 _ rfl (by omega)
      have c2 := hcell 2 _ rfl (by omega)
      simp only [← Nat.add_assoc, Nat.add_zero] at c0 c1 c2
      have hdo := doC_take C ps k hkp
      rw [hp] at hdo
      obtain ⟨key, Av, cv, val, gone⟩ := p
      obtain ⟨h1, h2, h3, h4, h5, hrv⟩ := hpk
      simp only at h1 h2 h3 h4 h5 hrv c0 c1 c2 hpc hdo
      have hrvr := hrv.frm hfr hpc
      have HD := Lib.hid hdo
      clear hcell hcl0 hdo h5
      cases gone
      · obtain ⟨W1, hW1⟩ : ∃ W1, wr.alloc (.cells #[.string ⟨key.toArray⟩, .slice Av val.length cv, .bool false] 69) = W1 := ⟨_, rfl⟩
        obtain ⟨P, hP⟩ : ∃ P, wr.heap.size = P := ⟨_, rfl⟩
        have hfa : Frm (fun x => x = b) wr W1 := by rw [← hW1]; exact (Frm.refl _ _).alloc _
        have hma : MapAt W1 b (n + k) M' := by rw [← hW1]; exact hmr.frm (F := NoB) ((Frm.refl _ _).alloc _) id
        have hha : Holds W1 M' (doC C (ps.take k)) := by rw [← hW1]; exact hhr.frm (F := NoB) ((Frm.refl _ _).alloc _) (fun _ e => e.elim)
        have hP1 : W1.heap[P]? = some (.cells #[.string ⟨key.toArray⟩, .slice Av val.length cv, .bool false] 69 (0, 0)) := by rw [← hW1]; exact hal_at hP.symm
        have hPl : P < W1.heap.size := (Array.getElem?_eq_some_iff.1 hP1).1
        have s0 : W1.cell? ⟨P, 0, none⟩ = some (.string ⟨key.toArray⟩) := (cells3 hP1).2.1
        have s1 : W1.cell? ⟨P, 1, none⟩ = some (.slice Av val.length cv) := (cells3 hP1).2.2.1
        have s2 : W1.cell? ⟨P, 2, none⟩ = some (.bool false) := (cells3 hP1).2.2.2
        have hPb : P ≠ b := hma.ne_cell s0
        have HCL := Lib.hid (clone_any Av cv val W1.drew ((hrvr.below (by rw [← hW1]; exact ((Below.refl _ wr).alloc (Nat.le_refl _) _).drew))) (by omega))
        have HAP : Hid (∀ W3 v, Below W1.drew.heap.size W1.drew W3 → W3.ownsRow W1.drew.heap.size 5 1 v val.length (val.map bv) → W3.cell? ⟨P, 0, none⟩ = some (.string ⟨key.toArray⟩) ∧ W3.cell? ⟨P, 1, none⟩ = some (.slice Av val.length cv) ∧
            ∃ W4, (mapPutOp 90 (.map (some b)) (.string ⟨key.toArray⟩) v).run Tryz.prog W3 = .ok .skip W4 ∧ W4.cell? ⟨P, 0, none⟩ = some (.string ⟨key.toArray⟩) ∧ W4.cell? ⟨P, 1, none⟩ = some (.slice Av val.length cv) ∧
              Hid (∃ M2, MapAt W4 b (n + k + 1) M2 ∧ Holds W4 M2 (fun x => if x = key then some val else doC C (ps.take k) x) ∧ Frm (fun x => x = b) w W4)) := Lib.hid fun W3 v hb3 ho3 => by
          have hf3 : Frm (fun x => x = b) W1 W3 := (Frm.of_below hb3).drew0
          have hf3' : Frm NoB W1 W3 := (Frm.of_below hb3).drew0
          have hm3 := hma.frm hf3' id
          have hh3 := (hha.frm hf3' (fun _ e => e.elim))
          obtain ⟨W4, hrun, hm4, hf4⟩ := hm3.put key (by omega) v (by omega)
          have q0 := (hf3'.cell (p := ⟨P, 0, none⟩) hPl id).trans s0
          have q1 := (hf3'.cell (p := ⟨P, 1, none⟩) hPl id).trans s1
          exact ⟨q0, q1, W4, hrun, (hf4.cell (p := ⟨P, 0, none⟩) (lt_of_cell q0) hPb).trans q0, (hf4.cell (p := ⟨P, 1, none⟩) (lt_of_cell q1) hPb).trans q1, Lib.hid ⟨_, hm4, (hh3.put key v val (ho3.base (Nat.zero_le _))).frm hf4 hm3.noBytes, ((hfr.trans hfa).trans hf3).trans hf4⟩⟩
        have HW := Lib.hid (And.intro hW1 hP)
        clear hfa hma hha hP1 hmr hhr hW1 hP
        go_wp2_with (fail)
        rw [HW.out.1, HW.out.2]
        clear HW s2
        go_region_held3 (fun w' => w'.cell? ⟨P, 0, none⟩ = some (.string ⟨key.toArray⟩) ∧ w'.cell? ⟨P, 1, none⟩ = some (.slice Av val.length cv))
          (first | exact ⟨s0, s1⟩ | exact ⟨k0, k1⟩ | exact ⟨q0, q1⟩)
          (first | (go_split_ands; go_at_call 48; refine Calls.mono (by with_reducible exact HCL.out) ?_; rintro e W3 ⟨v, rfl, ho3, hb3⟩; obtain ⟨k0, k1, W4, hrun, q0, q1, HQ⟩ := HAP.out W3 v hb3 ho3))
        obtain ⟨M2, hm4, hh4, hf4⟩ := HQ.out
        clear hrun HAP HCL
        go_wp2_with (fail)
        refine ⟨⟨k + 1, _, hlt, by simp, hm4, by rw [HD.out]; exact hh4, hf4⟩, ?_⟩
        simp [intOf]
        omega
      · obtain ⟨W1, hW1⟩ : ∃ W1, wr.alloc (.cells #[.string ⟨key.toArray⟩, .slice Av val.length cv, .bool true] 69) = W1 := ⟨_, rfl⟩
        have hfa : Frm (fun x => x = b) wr W1 := by rw [← hW1]; exact (Frm.refl _ _).alloc _
        have hma : MapAt W1 b (n + k) M' := by rw [← hW1]; exact hmr.frm (F := NoB) ((Frm.refl _ _).alloc _) id
        have hha : Holds W1 M' (doC C (ps.take k)) := by rw [← hW1]; exact hhr.frm (F := NoB) ((Frm.refl _ _).alloc _) (fun _ e => e.elim)
        obtain ⟨W2, hdl, hm2, hf2⟩ := hma.del key (by omega) 0
        have hh2 := (hha.frm hf2 hma.noBytes).del key
        rw [← hW1] at hdl
        have HF := Lib.hid (And.intro hm2 (And.intro hh2 ((hfr.trans hfa).trans hf2)))
        clear hm2 hh2 hf2 hfa hma hha hW1 hmr hhr
        go_wp2_with (fail)
        obtain ⟨hm2, hh2, hf2⟩ := HF.out
        refine ⟨⟨k + 1, _, hlt, by simp, hm2.mono (by omega), by rw [HD.out]; exact hh2, hf2⟩, ?_⟩
        simp [intOf]
        omega
    · obtain rfl : k = N := by omega
      go_wp2_with (fail)
      go_end0
      rw [← hN, List.take_length] at hhr
      exact ⟨rfl, M', hmr, hhr, hfr⟩
end Go.Proofs.YtchiikfdmogfpaaGreatDoor
