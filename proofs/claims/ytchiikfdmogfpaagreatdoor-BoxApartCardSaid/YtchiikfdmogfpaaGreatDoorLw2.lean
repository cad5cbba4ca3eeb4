/- The law's own functions: opened, laid (of a new disk). -/
import Derived.Test.YtchiikfdmogfpaaGreatDoorLw1
namespace Go.Proofs.YtchiikfdmogfpaaGreatDoor
open Go.RowKit

set_option maxRecDepth 20000 in
set_option maxHeartbeats 1000000 in
theorem bnew_any (s : Nat) (w : World) :
    Calls Tryz.prog 30 #[.pointer (some ⟨s, 0, none⟩)] w fun e w' => e = .returned (.pointer (some ⟨w.heap.size, 0, none⟩)) ∧ w' = w.alloc (.cells #[.pointer (some ⟨s, 0, none⟩)] 66) := by
  go_enter Tryz.func30, Tryz.ntmps30
  go_wp2_with (fail)
  go_ret
  exact ⟨rfl, rfl⟩

/-- What a store of a new disk is. -/
structure Fresh (S : Sv) (m : Nat) (w : World) : Prop where
  n : S.n = m
  fr : S.fr = 0
  sz : S.sz = m / 2
  gen : S.gen = 1
  at_ : S.at_ = 1
  k : S.k = 1
  mn : S.mn = 0
  C : S.C = fun _ => none
  img : S.img = doneTo (noughts (m * 64)) (writesOf 1 0 0 [] 1 1)
  xs : ∃ v, S.xs = [v] ∧ w.ownsRow 0 5 1 v 0 []

set_option maxRecDepth 20000 in
set_option maxHeartbeats 1000000 in
theorem opened_zero (B d L n : Nat) (w : World) (hd : DiskAt w d L n (noughts (n * 64)) (.slice none 0 0)) (hn : n ≤ 65536) (h4 : 4 ≤ n) (hB : B ≤ d) (hBL : B ≤ L) (hBw : B ≤ w.heap.size) (hg : 5 ≤ B) (ht : TabG w) :
    Calls Tryz.prog 19 #[.pointer (some ⟨d, 0, none⟩)] w fun e w' => ∃ bx S, e = .returned (.pointer (some ⟨bx, 0, none⟩)) ∧ Bx B bx S w' ∧ S.d = d ∧ S.L = L ∧ Fresh S n w' ∧ Below B w w' := by
  have HO := Lib.hid (sopen_zero d L n w hd hn h4)
  go_enter Tryz.func19, Tryz.ntmps19
  go_wp2_with (fail)
  refine HO.out.mono ?_
  rintro e w1 ⟨S, rfl, hS, ⟨q1, q2, q3, q4, q5, q6, q7, q8, q9, q10, q11⟩, ⟨v, hxs, hv⟩, hf, hown⟩
  have HQ := Lib.hid (And.intro q1 (And.intro q2 (And.intro q3 (And.intro q4 (And.intro q5 (And.intro q6 (And.intro q7 (And.intro q8 (And.intro q9 (And.intro q10 (And.intro q11 hxs)))))))))))
  clear q1 q2 q3 q4 q5 q6 q7 q8 q9 q10 q11 hxs
  go_wp2_with (fail)
  refine (bnew_any S.s w1).mono ?_
  rintro e w2 ⟨rfl, rfl⟩
  go_wp2_with (fail)
  go_ret
  obtain ⟨q1, q2, q3, q4, q5, q6, q7, q8, q9, q10, q11, hxs⟩ := HQ.out
  have hb1 : Below B w w1 := ⟨hf.os, hf.tape, hf.output, hf.size, fun i hi => hf.block i (by omega) (fun e => by omega)⟩
  have hb2 : Below w1.heap.size w1 (w1.alloc (.cells #[.pointer (some ⟨S.s, 0, none⟩)] 66)) := (Below.refl _ _).alloc (Nat.le_refl _) _
  have hs1 := hb1.size
  refine ⟨w1.heap.size, S, rfl, ⟨hal_at rfl, hS.below hb2, (ht.below hb1 hg).below (hb2.mono (by omega)) hg, fun x hx => ?_, by simp; omega, hg⟩, q1, q2, ⟨q3, q4, q5, q6, q7, q8, q9, q10, q11, v, hxs, owns_below hv hb2⟩, hb1.trans (hb2.mono (by omega))⟩
  rcases hown x hx with e | e | e <;> omega

set_option maxRecDepth 20000 in
set_option maxHeartbeats 1000000 in
theorem laid_any (n : Nat) (w : World) (hn : n ≤ 65536) (h4 : 4 ≤ n) (hg : 5 ≤ w.heap.size) (ht : TabG w) :
    Calls Tryz.prog 7 #[.int .i64 n] w fun e w' => ∃ bx S, e = .returned (.tuple #[.pointer (some ⟨S.d, 0, none⟩), .pointer (some ⟨bx, 0, none⟩)]) ∧ Bx w.heap.size bx S w' ∧ Fresh S n w' ∧ Below w.heap.size w w' := by
  have HN := Lib.hid (new_any n (by omega) hn w)
  go_enter Tryz.func7, Tryz.ntmps7
  go_wp2_with (fail)
  refine HN.out.mono ?_
  rintro e w1 ⟨d, L, rfl, hd, hL, hD, hb⟩
  go_wp2_with (fail)
  refine (opened_zero w.heap.size d L n w1 hD hn h4 hd hL hb.size hg (ht.below hb hg)).mono ?_
  rintro e w2 ⟨bx, S, rfl, hB, rfl, rfl, hF, hb2⟩
  go_wp2_with (fail)
  go_ret2
  exact ⟨bx, S, rfl, hB, hF, hb.trans hb2⟩
end Go.Proofs.YtchiikfdmogfpaaGreatDoor
