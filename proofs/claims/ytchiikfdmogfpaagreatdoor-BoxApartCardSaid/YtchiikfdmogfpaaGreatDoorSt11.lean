/- store.Open of a disk of noughts. -/
import Derived.Test.YtchiikfdmogfpaaGreatDoorSt10
namespace Go.Proofs.YtchiikfdmogfpaaGreatDoor
open Go.RowKit

set_option maxRecDepth 20000 in
set_option maxHeartbeats 1000000 in
theorem decode_nil (A : Option Addr) (c : Nat) (w : World) :
    Calls Tryz.prog 47 #[.slice A 0 c] w fun e w' => e = .returned (.tuple #[.slice none 0 0, .int .i64 0]) ∧ w = w' := by
  go_enter Tryz.func47, Tryz.ntmps47
  go_wp2_with (fail)
  refine wp_loop_rounds 1 ?_
  rw [rounds_succ]
  go_wp2_with (fail)
  go_ret2
  exact ⟨rfl, rfl⟩

set_option maxRecDepth 20000 in
set_option maxHeartbeats 1000000 in
theorem sopen_zero (d L n : Nat) (w : World) (hd : DiskAt w d L n (noughts (n * 64)) (.slice none 0 0)) (hn : n ≤ 65536) (h4 : 4 ≤ n) :
    Calls Tryz.prog 29 #[.pointer (some ⟨d, 0, none⟩)] w fun e w' => ∃ S : Sv, e = .returned (.tuple #[.pointer (some ⟨S.s, 0, none⟩), .int .i64 0]) ∧ S.At w' ∧
      (S.d = d ∧ S.L = L ∧ S.n = n ∧ S.fr = 0 ∧ S.sz = n / 2 ∧ S.gen = 1 ∧ S.at_ = 1 ∧ S.k = 1 ∧ S.mn = 0 ∧ S.C = (fun _ => none) ∧ S.img = doneTo (noughts (n * 64)) (writesOf 1 0 0 [] 1 1)) ∧
      (∃ v, S.xs = [v] ∧ w'.ownsRow 0 5 1 v 0 []) ∧ Frm (fun b => b = d ∨ b = L) w w' ∧ (∀ x, S.Own x → x = d ∨ x = L ∨ w.heap.size ≤ x) := by
  have hmm := @run_makeMap Tryz.prog
  have HO := Lib.hid (open_zero d L n w hd hn h4)
  go_enter Tryz.func29, Tryz.ntmps29
  go_wp2_with (fail)
  refine HO.out.mono ?_
  rintro e w1 ⟨j, rv, v, rfl, hj, hJ, hv, hrv, hf1⟩
  go_wp2_with (fail)
  obtain ⟨W2, hW2⟩ : ∃ W2, ((w1.alloc (Obj.map #[] 0)).alloc (Obj.cells #[Value.pointer (some ⟨j, 0, none⟩), Value.map (some w1.heap.size)] 94)) = W2 := ⟨_, rfl⟩
  rw [hW2]
  have hb2 : Below w1.heap.size w1 W2 := by rw [← hW2]; exact ((Below.refl _ _).alloc (Nat.le_refl _) _).alloc (by simp) _
  have hs2 : StAt W2 (w1.heap.size + 1) j w1.heap.size := by rw [← hW2]; exact hal_at (by simp)
  have hm2 : MapAt W2 w1.heap.size 0 (fun _ => none) := by rw [← hW2]; exact (MapAt.made w1).frm (F := NoB) ((Frm.refl _ _).alloc _) id
  have hJ2 := hJ.frm (F := NoB) (Frm.of_below hb2) (fun _ _ => id)
  have hv2 := owns_below hv hb2
  have hsz2 : W2.heap.size = w1.heap.size + 2 := by rw [← hW2]; simp
  clear hW2 hmm
  refine (records_one j d _ _ _ _ rv v W2 hJ2.j (hJ2.r) (hv2.base (Nat.zero_le _))).mono ?_
  rintro e w3 ⟨g, c, A, cc, rfl, hg, hb3, hgl⟩
  have hs3 := hs2.frm (F := NoB) (Frm.of_below hb3) id
  have c1 := hs3.c1
  have hm3 := hm2.frm (F := NoB) (Frm.of_below hb3) id
  have hh3 : Holds w3 (fun _ => none) (fun _ => none) := fun k => ⟨fun _ => rfl, fun l e => by cases e⟩
  have HD := Lib.hid (do_any w1.heap.size 0 (fun _ => none) (fun _ => none) [] none 0 w3 hm3 hh3 (Rd.nil _ _) (by simp) (by simp) (by simp))
  go_wp2_with (fail)
  refine wp_loop_rounds 2 ?_
  rw [rounds_succ]
  go_wp2_with (fail)
  refine (decode_nil A cc _).mono ?_
  rintro e w4 ⟨rfl, rfl⟩
  go_wp2_with (fail)
  refine HD.out.mono ?_
  rintro e w5 ⟨rfl, M5, hm5, hh5, hf5⟩
  go_wp2_with (fail)
  rw [rounds_succ]
  go_wp2_with (fail)
  go_ret2
  have hb23 : Below w1.heap.size w1 w3 := hb2.trans (hb3.mono (by omega))
  have hJ5 := (hJ.frm (F := NoB) (Frm.of_below hb23) (fun _ _ => id)).frm hf5 (fun x hx e => by
    have : x < w1.heap.size := by
      rcases hx with e | e | e | e
      · exact e ▸ hJ.d.ltd
      · exact e ▸ hJ.j.lt
      · exact e ▸ hJ.d.ltL
      · exact (hJ.r.lt x e).2
    omega)
  have hv5 := owns_frm (owns_below hv hb23) hf5 (fun i hi e => by have := (hv.lt i hi).2; omega)
  have hs5 := hs3.frm hf5 (fun e => by omega)
  refine ⟨{ s := w1.heap.size + 1, j := j, d := d, L := L, n := n, fr := 0, sz := n / 2, gen := 1, at_ := 1, k := 1, rv := rv, img := _, xs := [v], b := w1.heap.size, mn := 0, M := M5, C := fun _ => none }, rfl, ⟨hJ5, hs5, hm5, hh5, fun k l e => by cases e⟩, ⟨rfl, rfl, rfl, rfl, rfl, rfl, rfl, rfl, rfl, rfl, rfl⟩, ⟨v, rfl, hv5.base (Nat.zero_le _)⟩, (hf1.then (Frm.of_below (F := NoB) hb23) (fun _ _ e => e.elim)).then hf5 (fun i hi e => by have := hf1.size; omega), fun x hx => ?_⟩
  have := hf1.size
  rcases hx with e | e | e | e | e
  · exact .inr (.inr (by simp only at e; omega))
  · exact .inl e
  · exact .inr (.inr (by simp only at e; omega))
  · exact .inr (.inl e)
  · exact .inr (.inr (hrv x e))
end Go.Proofs.YtchiikfdmogfpaaGreatDoor
