/- store.Commit. -/
import Derived.Test.YtchiikfdmogfpaaGreatDoorSt6
namespace Go.Proofs.YtchiikfdmogfpaaGreatDoor
open Go.RowKit

theorem jown_noBytes {w : World} {j d L n fr sz gen at_ k : Nat} {rv : Value} {img : Bytes} {xs : List Value} (h : JourAt w j d L n fr sz gen at_ k rv img xs) : NoBytes w (JOwn j d L rv) := fun b hb cur hc => by
  rcases hb with e | e | e | e
  · subst e; rw [h.d.hd] at hc; simp at hc
  · subst e; have := h.j; unfold JAt at this; rw [this] at hc; simp at hc
  · subst e; rw [h.d.row] at hc; simp at hc
  · exact owns_ne h.r hc (by decide) e

theorem jown_st {w : World} {s b j d L n fr sz gen at_ k : Nat} {rv : Value} {img : Bytes} {xs : List Value} (h : JourAt w j d L n fr sz gen at_ k rv img xs) (hs : StAt w s j b) (e : JOwn j d L rv s) : False := by
  unfold StAt at hs
  rcases e with e | e | e | e
  · subst e; rw [h.d.hd] at hs; simp at hs
  · subst e; have := h.j; unfold JAt at this; rw [this] at hs; simp at hs
  · subst e; rw [h.d.row] at hs; simp at hs
  · exact owns_ne h.r hs (by decide) e
theorem JourAt.frm {F : Nat → Prop} {w w' : World} {j d L n fr sz gen at_ k : Nat} {rv : Value} {img : Bytes} {xs : List Value} (h : JourAt w j d L n fr sz gen at_ k rv img xs) (hf : Frm F w w') (hn : ∀ x, JOwn j d L rv x → ¬ F x) : JourAt w' j d L n fr sz gen at_ k rv img xs :=
  { h with j := h.j.frm hf (hn _ (.inr (.inl rfl))), d := h.d.frm hf (hn _ (.inl rfl)) (hn _ (.inr (.inr (.inl rfl)))), r := owns_frm h.r hf (fun i hi e => hn i (.inr (.inr (.inr hi))) e) }
set_option maxRecDepth 20000 in
set_option maxHeartbeats 1000000 in
/-- Where the record has room behind the others, the pairs are done. -/
theorem commit_fits (s j d L n fr sz gen at_ k : Nat) (rv : Value) (img : Bytes) (xs : List Value) (b mn : Nat) (M : Bytes → Option Value) (C : Bytes → Option Bytes) (ps : List Pr) (A : Option Addr) (cap : Nat) (w : World)
    (h : StoreAt w s j d L n fr sz gen at_ k rv img xs b mn M C) (hrd : Rd w A (ps.flatMap Pr.cells)) (hok : ∀ p ∈ ps, p.Ok w) (hn : mn + ps.length ≤ 10000) (hpa : ∀ p ∈ ps, ∀ a, p.A = some a → a.block < w.heap.size) (hfit : at_ + blocksOf (encAll ps).length ≤ sz) :
    Calls Tryz.prog 27 #[.pointer (some ⟨s, 0, none⟩), .slice A ps.length cap] w fun e w' => e = .returned (.int .i64 0) ∧ ∃ rv' v b' M',
      StoreAt w' s j d L n fr sz gen (at_ + blocksOf (encAll ps).length) (k + 1) rv' (doneTo img (writesOf gen k (fr + at_) (encAll ps) (blocksOf (encAll ps).length) (blocksOf (encAll ps).length))) (xs ++ [v]) b' (mn + ps.length) M' (doC C ps) ∧
      w'.ownsRow w.heap.size 5 1 v (encAll ps).length ((encAll ps).map bv) ∧ Frm (SOwn s j d L rv) w w' ∧ (∀ x, SOwn s j d L rv' x → SOwn s j d L rv x ∨ w.heap.size ≤ x) := by
  have HE := Lib.hid (encode_any ps A cap w hrd hok (by omega))
  go_enter Tryz.func27, Tryz.ntmps27
  go_wp2_with (fail)
  refine HE.out.mono ?_
  rintro e w1 ⟨v1, rfl, ho1, hb1⟩
  have hs1 := h.st.frm (F := NoB) (Frm.of_below hb1) id
  have c0 := hs1.c0
  have c1 := hs1.c1
  go_wp2_with (fail)
  have hm1 := h.m.frm (F := NoB) (Frm.of_below hb1) id
  refine (mclone_any b mn M w1 hm1).mono ?_
  rintro e w2 ⟨rfl, hm2, hb2⟩
  have hb12 : Below w.heap.size w w2 := hb1.trans (hb2.mono hb1.size)
  have hh2 := h.h.frm (F := NoB) (Frm.of_below hb12) (fun _ e => e.elim)
  have HD := Lib.hid (do_any w1.heap.size mn M C ps A cap w2 hm2 hh2 (hrd.below hb12) (fun p hp => (hok p hp).below hb12) (by omega) (fun p hp a e => by have := hpa p hp a e; have := hb1.size; omega))
  go_wp2_with (fail)
  refine HD.out.mono ?_
  rintro e w3 ⟨rfl, M3, hm3, hh3, hf3⟩
  have hf13 : Frm (fun x => x = w1.heap.size) w1 w3 := (Frm.of_below hb2).trans hf3
  have hj1 := h.jr.frm (F := NoB) (Frm.of_below hb1) (fun _ _ => id)
  have hlt : ∀ x, JOwn j d L rv x → x < w1.heap.size := fun x hx => by
    rcases hx with e | e | e | e
    · subst e; exact hj1.d.ltd
    · subst e; exact hj1.j.lt
    · subst e; exact hj1.d.ltL
    · exact (hj1.r.lt x e).2
  have hj3 := hj1.frm hf13 (fun x hx e => by have := hlt x hx; omega)
  have hs3 := hs1.frm hf13 (fun e => by have := hs1.lt; omega)
  have ho3 := owns_frm ho1 hf13 (fun i hi e => by have := (ho1.lt i hi).2; omega)
  have d0 := hs3.c0
  have d1 := hs3.c1
  obtain ⟨A1, c1', rfl, hc1, _, hr1⟩ := owns_slice ho3
  go_wp2_with (fail)
  refine (fits_yes j d fr sz gen at_ rv (encAll ps).length w3 hj3.j (by have := hj3.hs; omega) hfit).mono ?_
  rintro e w4 ⟨rfl, q, rfl⟩
  have HA := Lib.hid (append_yes j d L n fr sz gen at_ k rv img (encAll ps) xs A1 c1' (w3.drewN q) ⟨hj3.j, ⟨hj3.d.hd, hj3.d.row, hj3.d.len⟩, hj3.r, hj3.hn, hj3.hf, hj3.hs, hj3.hk, hj3.ha, hj3.hf2, hj3.hfs⟩ (by have := encAll_le ps (fun p hp => ⟨(hok p hp).k2, (hok p hp).hv⟩); omega) hc1 hr1 (fun a e => ⟨fun e2 => owns_ne ho3 hj3.d.hd (by decide) (by rw [e]; simp [Value.ownBlock, e2]), fun e2 => owns_ne ho3 hj3.j (by decide) (by rw [e]; simp [Value.ownBlock, e2])⟩) hfit)
  go_wp2_with (fail)
  refine HA.out.mono ?_
  rintro e w5 ⟨rfl, rv5, v5, hj5, hv5, hf5, hg5⟩
  have hs5 : StAt w5 s j b := StAt.frm (w := w3.drewN q) hs3 hf5 (fun e => jown_st hj3 hs3 e)
  have e0 := hs5.c0
  have e1 := hs5.c1
  have ef : w5.frozen? ⟨s, 1, none⟩ = false := frozen_of_row w5 s 1 _ _ hs5
  go_wp2_with (fail)
  go_ret
  have hfs : Frm (fun x => x = s) w5 (w5.setCell ⟨s, 1, none⟩ (.map (some w1.heap.size))) := Frm.setCell (F := fun x => x = s) (p := ⟨s, 1, none⟩) (Frm.refl _ _) (fun _ => rfl) _
  have hnb : NoBytes w5 (fun x => x = s) := fun x hx cur hc => by subst hx; have h9 := hs5; unfold StAt at h9; rw [h9] at hc; simp at hc
  have hm5 : MapAt w5 w1.heap.size (mn + ps.length) M3 := MapAt.frm (w := w3.drewN q) hm3 hf5 (fun e => Nat.lt_irrefl _ (hlt _ e))
  have hh5 : Holds w5 M3 (doC C ps) := Holds.frm (w := w3.drewN q) hh3 hf5 (fun x hx => jown_noBytes hj3 x hx)
  have hsl := hs1.lt
  have hw1 := hb1.size
  have hw3 := hf13.size
  refine ⟨by rfl, rv5, v5, w1.heap.size, M3, ⟨hj5.frm hfs (fun x hx e => jown_st hj5 hs5 (e ▸ hx)), ?_, hm5.frm hfs (fun e => by omega), hh5.frm hfs hnb, doC_ok C ps w h.ok hok⟩, ?_, ?_, ?_⟩
  · unfold StAt; rw [heap_setCell_same _ s 1 _ _ _ hs5]; rfl
  · exact (owns_frm hv5 hfs (fun i hi e => owns_ne hv5 hs5 (by decide) (e ▸ hi))).base (by show w.heap.size ≤ w3.heap.size; omega)
  · have f1 : Frm (SOwn s j d L rv) w w1 := Frm.of_below hb1
    have f2 : Frm (SOwn s j d L rv) w w3 := f1.then hf13 (fun i hi e => by omega)
    exact (f2.then hf5.drewN0 (fun i _ e => .inr e)).then hfs (fun i _ e => .inl e)
  · intro x hx
    rcases hx with e | e
    · exact .inl (.inl e)
    · rcases hg5 x e with g | g
      · exact .inl (.inr g)
      · exact .inr (by have : w3.heap.size ≤ x := g; omega)
end Go.Proofs.YtchiikfdmogfpaaGreatDoor
