/- store.Commit where the record has no room: the whole is written anew, or it is refused. -/
import Derived.Test.YtchiikfdmogfpaaGreatDoorSt7
namespace Go.Proofs.YtchiikfdmogfpaaGreatDoor
open Go.RowKit

theorem below_drewN0 {a b : World} {q : Nat} (h : Below (a.drewN q).heap.size (a.drewN q) b) : Below a.heap.size a b := ⟨h.os, h.tape, h.output, h.size, h.block⟩

set_option maxRecDepth 20000 in
set_option maxHeartbeats 1000000 in
theorem commit_full (s j d L n fr sz gen at_ k : Nat) (rv : Value) (img : Bytes) (xs : List Value) (b mn : Nat) (M : Bytes → Option Value) (C : Bytes → Option Bytes) (ps : List Pr) (A : Option Addr) (cap : Nat) (w : World)
    (h : StoreAt w s j d L n fr sz gen at_ k rv img xs b mn M C) (hrd : Rd w A (ps.flatMap Pr.cells)) (hok : ∀ p ∈ ps, p.Ok w) (hn : mn + ps.length ≤ 10000) (hpa : ∀ p ∈ ps, ∀ a, p.A = some a → a.block < w.heap.size) (hfit : ¬ at_ + blocksOf (encAll ps).length ≤ sz) :
    Calls Tryz.prog 27 #[.pointer (some ⟨s, 0, none⟩), .slice A ps.length cap] w fun e w' =>
      (e = .returned (.int .i64 0) ∧ ∃ fr' gen' at' rv' img' v b' M', StoreAt w' s j d L n fr' sz gen' at' 1 rv' img' [v] b' (mn + ps.length) M' (doC C ps) ∧ Frm (SOwn s j d L rv) w w' ∧ (∀ x, SOwn s j d L rv' x → SOwn s j d L rv x ∨ w.heap.size ≤ x)) ∨
      (e = .returned (.int .i64 6) ∧ Below w.heap.size w w') := by
  have HE := Lib.hid (encode_any ps A cap w hrd hok (by omega))
  have hel : (encAll ps).length ≤ 1100000000 := by have := encAll_le ps (fun p hp => ⟨(hok p hp).k2, (hok p hp).hv⟩); omega
  go_enter Tryz.func27, Tryz.ntmps27
  go_wp2_with (fail)
  refine HE.out.mono ?_
  rintro e w1 ⟨v1, rfl, ho1, hb1⟩
  have hs1 := h.st.frm (F := NoB) (Frm.of_below hb1) id
  have c0 := hs1.c0
  have c1 := hs1.c1
  go_wp2_with (fail)
  have hm1 := h.m.frm (F := NoB) (Frm.of_below hb1) id
  refine (mclone_any b mn M w1 hm1).mono ?_
  rintro e w2 ⟨rfl, hm2, hb2⟩
  have hb12 : Below w.heap.size w w2 := hb1.trans (hb2.mono hb1.size)
  have hh2 := h.h.frm (F := NoB) (Frm.of_below hb12) (fun _ e => e.elim)
  have HD := Lib.hid (do_any w1.heap.size mn M C ps A cap w2 hm2 hh2 (hrd.below hb12) (fun p hp => (hok p hp).below hb12) (by omega) (fun p hp a e => by have := hpa p hp a e; have := hb1.size; omega))
  go_wp2_with (fail)
  refine HD.out.mono ?_
  rintro e w3 ⟨rfl, M3, hm3, hh3, hf3⟩
  have hf13 : Frm (fun x => x = w1.heap.size) w1 w3 := (Frm.of_below hb2).trans hf3
  have hj1 := h.jr.frm (F := NoB) (Frm.of_below hb1) (fun _ _ => id)
  have hlt : ∀ x, JOwn j d L rv x → x < w1.heap.size := fun x hx => by
    rcases hx with e | e | e | e
    · subst e; exact hj1.d.ltd
    · subst e; exact hj1.j.lt
    · subst e; exact hj1.d.ltL
    · exact (hj1.r.lt x e).2
  have hj3 := hj1.frm hf13 (fun x hx e => by have := hlt x hx; omega)
  have hs3 := hs1.frm hf13 (fun e => by have := hs1.lt; omega)
  have ho3 := owns_frm ho1 hf13 (fun i hi e => by have := (ho1.lt i hi).2; omega)
  have d0 := hs3.c0
  have d1 := hs3.c1
  obtain ⟨A1, c1', rfl, hc1, _, hr1⟩ := owns_slice ho3
  go_wp2_with (fail)
  refine (fits_no j d fr sz gen at_ rv (encAll ps).length w3 hj3.j (by have := hj3.hs; omega) hj3.ha (by omega) hfit).mono ?_
  rintro e w4 ⟨rfl, q, rfl⟩
  have HAL := Lib.hid (all_any w1.heap.size (mn + ps.length) M3 (doC C ps) (w3.drewN q) hm3 hh3 hn (doC_ok C ps w h.ok hok))
  go_wp2_with (fail)
  refine HAL.out.mono ?_
  rintro e w5 ⟨qs, A5, cap5, rfl, hql, hq1, hq2, hq3, hq4, hb5⟩
  have HE2 := Lib.hid (encode_any qs A5 cap5 w5 hq1 hq2 (by omega))
  go_wp2_with (fail)
  refine HE2.out.mono ?_
  rintro e w6 ⟨v6, rfl, ho6, hb6⟩
  have hb36 : Below w3.heap.size w3 w6 := (below_drewN0 hb5).trans (hb6.mono hb5.size)
  have hj6 := hj3.frm (F := NoB) (Frm.of_below hb36) (fun _ _ => id)
  have hs6 := hs3.frm (F := NoB) (Frm.of_below hb36) id
  have e0 := hs6.c0
  have e1 := hs6.c1
  obtain ⟨A6, c6, rfl, hc6, _, hr6⟩ := owns_slice ho6
  by_cases hyes : blocksOf (encAll qs).length ≤ sz ∧ newestOf img n ≠ 0
  · have HR := Lib.hid (restart_yes j d L n fr sz gen at_ k rv img (encAll qs) xs A6 c6 w6 hj6 (by have := encAll_le qs (fun p hp => ⟨(hq2 p hp).k2, (hq2 p hp).hv⟩); omega) hc6 hr6 (fun a e e2 => owns_ne ho6 hj6.d.hd (by decide) (by rw [e]; simp [Value.ownBlock, e2])) hyes.1 hyes.2)
    clear hyes
    go_wp2_with (fail)
    refine HR.out.mono ?_
    rintro e w7 ⟨rfl, rv7, v7, hj7, hv7, hf7, hg7⟩
    have hs7 : StAt w7 s j b := StAt.frm hs6 hf7 (fun e => jown_st hj6 hs6 e)
    have g0 := hs7.c0
    have g1 := hs7.c1
    have gf : w7.frozen? ⟨s, 1, none⟩ = false := frozen_of_row w7 s 1 _ _ hs7
    go_wp2_with (fail)
    go_ret
    have hfs : Frm (fun x => x = s) w7 (w7.setCell ⟨s, 1, none⟩ (.map (some w1.heap.size))) := Frm.setCell (F := fun x => x = s) (p := ⟨s, 1, none⟩) (Frm.refl _ _) (fun _ => rfl) _
    have hnb : NoBytes w7 (fun x => x = s) := fun x hx cur hc => by subst hx; have h9 := hs7; unfold StAt at h9; rw [h9] at hc; simp at hc
    have hm6 : MapAt w6 w1.heap.size (mn + ps.length) M3 := hm3.frm (F := NoB) (Frm.of_below hb36) id
    have hm7 : MapAt w7 w1.heap.size (mn + ps.length) M3 := hm6.frm hf7 (fun e => Nat.lt_irrefl _ (hlt _ e))
    have hh6 : Holds w6 M3 (doC C ps) := hh3.frm (F := NoB) (Frm.of_below hb36) (fun _ e => e.elim)
    have hh7 : Holds w7 M3 (doC C ps) := hh6.frm hf7 (fun x hx => jown_noBytes hj6 x hx)
    have hsl := hs1.lt
    have hw1 := hb1.size
    have hw3 := hf13.size
    have hw6 := hb36.size
    refine .inl ⟨rfl, _, _, _, rv7, _, v7, w1.heap.size, M3, ⟨hj7.frm hfs (fun x hx e => jown_st hj7 hs7 (e ▸ hx)), ?_, hm7.frm hfs (fun e => by omega), hh7.frm hfs hnb, doC_ok C ps w h.ok hok⟩, ?_, ?_⟩
    · unfold StAt; rw [heap_setCell_same _ s 1 _ _ _ hs7]; rfl
    · have f1 : Frm (SOwn s j d L rv) w w1 := Frm.of_below hb1
      have f2 : Frm (SOwn s j d L rv) w w3 := f1.then hf13 (fun i hi e => by omega)
      have f3 : Frm (SOwn s j d L rv) w w6 := f2.then (Frm.of_below (F := NoB) hb36) (fun i hi e => e.elim)
      exact (f3.then hf7 (fun i _ e => .inr e)).then hfs (fun i _ e => .inl e)
    · intro x hx
      rcases hx with e | e
      · exact .inl (.inl e)
      · rcases hg7 x e with g | g
        · exact .inl (.inr g)
        · exact .inr (by omega)
  · have HR := Lib.hid (restart_no j d L n fr sz gen at_ k rv img (encAll qs) xs A6 c6 w6 hj6 (by have := encAll_le qs (fun p hp => ⟨(hq2 p hp).k2, (hq2 p hp).hv⟩); omega) (by by_cases h1 : sz < blocksOf (encAll qs).length; exact .inl h1; exact .inr (Classical.byContradiction fun h2 => hyes ⟨by omega, h2⟩)))
    clear hyes
    go_wp2_with (fail)
    refine HR.out.mono ?_
    rintro e w7 ⟨rfl, hb7⟩
    go_wp2_with (fail)
    go_ret
    refine .inr ⟨rfl, ?_⟩
    have hw1 := hb1.size
    have hw3 := hf13.size
    have hw6 := hb36.size
    have f2 : Frm (fun x => x = w1.heap.size) w w3 := (Frm.of_below (F := fun x => x = w1.heap.size) hb1).trans hf13
    have hb03 : Below w.heap.size w w3 := ⟨f2.os, f2.tape, f2.output, f2.size, fun i hi => f2.block i hi (by omega)⟩
    exact (hb03.trans (hb36.mono (by omega))).trans (hb7.mono (by omega))
end Go.Proofs.YtchiikfdmogfpaaGreatDoor
