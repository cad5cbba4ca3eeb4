/- journal.Open of a disk of noughts. -/
import Derived.Test.YtchiikfdmogfpaaGreatDoorJour9
namespace Go.Proofs.YtchiikfdmogfpaaGreatDoor
open Go.RowKit

theorem mostTo_zero (n : Nat) : ∀ k, k ≤ n → mostTo (noughts (n * 64)) k = 0
  | 0, _ => rfl
  | k + 1, h => by
    rw [mostTo, mostTo_zero n k (by omega), blockOf_zero n k h]
    rw [show (noughts 64).take 4 = noughts 4 from rfl, show ((noughts 64).drop 54).take 4 = noughts 4 from rfl, beVal_noughts]
    rfl
theorem newestOf_zero (n : Nat) : newestOf (noughts (n * 64)) n = 1 := by
  unfold newestOf; rw [mostTo_zero n n (Nat.le_refl _)]; rfl

set_option maxRecDepth 20000 in
set_option maxHeartbeats 1000000 in
theorem open_zero (d L n : Nat) (w : World) (hd : DiskAt w d L n (noughts (n * 64)) (.slice none 0 0)) (hn : n ≤ 65536) (h4 : 4 ≤ n) :
    Calls Tryz.prog 45 #[.pointer (some ⟨d, 0, none⟩)] w fun e w' => ∃ j rv v, e = .returned (.tuple #[.pointer (some ⟨j, 0, none⟩), .int .i64 0]) ∧ w.heap.size ≤ j ∧
      JourAt w' j d L n 0 (n / 2) 1 1 1 rv (doneTo (noughts (n * 64)) (writesOf 1 0 0 [] 1 1)) [v] ∧ w'.ownsRow w.heap.size 5 1 v 0 [] ∧ (∀ b, rv.ownBlock = some b → w.heap.size ≤ b) ∧
      Frm (fun b => b = d ∨ b = L) w w' := by
  obtain ⟨sz, hsz⟩ : ∃ sz, n / 2 = sz := ⟨_, rfl⟩
  rw [hsz]
  have hq : (n : Int).tdiv 2 = (sz : Int) := by rw [← hsz, Int.tdiv_eq_ediv_of_nonneg (by omega)]; omega
  have hd0 := hd.ltd
  have h5 : ((n : Int) < 4) = False := by simp; omega
  go_enter Tryz.func45, Tryz.ntmps45
  go_wp2_with (fail)
  refine (size_any d L n _ _ w hd).mono ?_
  rintro e w1 ⟨rfl, rfl⟩
  go_wp2_with (fail)
  refine (size_any d L n _ _ w hd).mono ?_
  rintro e w1 ⟨rfl, rfl⟩
  go_wp2_with (fail)
  obtain ⟨W1, hW1⟩ : ∃ W1, ((w.alloc (.cells #[.int .i64 0, .int .i64 sz, .int .u64 0, .slice none 0 0, .int .i64 0] 116)).alloc (.cells #[.int .i64 sz, .int .i64 sz, .int .u64 0, .slice none 0 0, .int .i64 0] 116)) = W1 := ⟨_, rfl⟩
  rw [hW1]
  have hb1 : Below w.heap.size w W1 := by rw [← hW1]; exact ((Below.refl _ _).alloc (Nat.le_refl _) _).alloc (by simp) _
  have hs1 : W1.heap.size = w.heap.size + 2 := by rw [← hW1]; simp
  have hA1 : HAt W1 w.heap.size (0 : Nat) sz := by rw [← hW1]; exact (hal_lt (by simp)).trans (hal_at rfl)
  have hA2 : HAt W1 (w.heap.size + 1) sz sz := by rw [← hW1]; exact hal_at (by simp)
  clear hW1
  refine (read_zero d L n w.heap.size 0 sz W1 (hd.below hb1) hA1 (by omega) hn (by omega) (by omega)).mono ?_
  rintro e W2 ⟨rfl, hb2⟩
  have hA3 : HAt W2 w.heap.size (0 : Nat) sz := (hb2.block _ (by omega)).trans hA1
  have hA4 : HAt W2 (w.heap.size + 1) sz sz := (hb2.block _ (by omega)).trans hA2
  have hb12 : Below w.heap.size w W2 := hb1.trans (hb2.mono (by omega))
  go_wp2_with (fail)
  refine (read_zero d L n (w.heap.size + 1) sz sz W2 (hd.below hb12) hA4 (by omega) hn (by omega) (by omega)).mono ?_
  rintro e W3 ⟨rfl, hb3⟩
  have hs2 := hb2.size
  have hs3 := hb3.size
  have hA5 : HAt W3 w.heap.size (0 : Nat) sz := (hb3.block _ (by omega)).trans hA3
  have hA6 : HAt W3 (w.heap.size + 1) sz sz := (hb3.block _ (by omega)).trans hA4
  have hb13 : Below w.heap.size w W3 := hb12.trans (hb3.mono (by omega))
  have a0 : W3.cell? ⟨w.heap.size, 0, none⟩ = some (.int .i64 0) := cell_of_row _ _ 0 _ _ _ hA5
  have a1 : W3.cell? ⟨w.heap.size, 1, none⟩ = some (.int .i64 sz) := cell_of_row _ _ 1 _ _ _ hA5
  have a2 : W3.cell? ⟨w.heap.size, 2, none⟩ = some (.int .u64 0) := cell_of_row _ _ 2 _ _ _ hA5
  have a3 : W3.cell? ⟨w.heap.size, 3, none⟩ = some (.slice none 0 0) := cell_of_row _ _ 3 _ _ _ hA5
  have a4 : W3.cell? ⟨w.heap.size, 4, none⟩ = some (.int .i64 0) := cell_of_row _ _ 4 _ _ _ hA5
  have b2 : W3.cell? ⟨w.heap.size + 1, 2, none⟩ = some (.int .u64 0) := cell_of_row _ _ 2 _ _ _ hA6
  have l1 : w.heap.size < W3.heap.size := by omega
  have l2 : w.heap.size + 1 < W3.heap.size := by omega
  clear hA1 hA2 hA3 hA4 hA5 hA6
  go_wp2_with (fail)
  obtain ⟨W4, hW4⟩ : ∃ W4, ((W3.alloc (.cells #[.pointer (some ⟨d, 0, none⟩), .int .i64 sz, .int .i64 sz, .int .u64 0, .slice (some ⟨W3.heap.size + 1, 0, none⟩) 1 1, .int .i64 0] 118)).alloc (.cells #[.slice none 0 0] 24)) = W4 := ⟨_, rfl⟩
  rw [hW4]
  have hb4 : Below w.heap.size w W4 := by rw [← hW4]; exact (hb13.alloc hb13.size _).alloc (by simp; omega) _
  have hj4 : JAt W4 W3.heap.size d sz sz (0 : Nat) (.slice (some ⟨W3.heap.size + 1, 0, none⟩) 1 1) (0 : Nat) := by rw [← hW4]; exact (hal_lt (by simp)).trans (hal_at rfl)
  have hl4 : W4.cell? ⟨W3.heap.size + 1, 0, none⟩ = some (.slice none ([] : Bytes).length 0) := by rw [← hW4]; simp [go_sem]
  clear hW4
  have HT := Lib.hid (turn_yes W3.heap.size d L n sz sz 0 0 (W3.heap.size + 1) _ (noughts (n * 64)) [] none 0 W4 hj4 (hd.below hb4) hn (Nat.le_refl _) (by omega) (by omega) hl4 (by simp) (Nat.le_refl _) (Rd.nil _ _) (fun a e => by cases e) (by show blocksOf 0 ≤ sz; unfold blocksOf; omega) (by rw [newestOf_zero]; decide))
  rw [newestOf_zero, Nat.sub_self] at HT
  refine HT.out.mono ?_
  rintro e W5 ⟨j5, rv5, v5, pv5, rfl, hjj, hj5, hd5, ho5, hr5, hv5, hf5⟩
  have HS := Lib.hid (sync_any d L n (noughts (n * 64)) pv5 _ _ W5 hd5 (fits_writes n 1 0 0 [] (blocksOf 0) (blocksOf 0) (by unfold blocksOf; omega)) (by rw [writesOf_length]; decide) (by rw [writesOf_length]; exact ho5))
  go_wp2_with (fail)
  refine HS.out.mono ?_
  rintro e w3 ⟨rfl, hd6, hf6⟩
  go_wp2_with (fail)
  go_ret2
  have hj3 := hj5.frm hf6 (fun e => by rcases e with e | e; exact jd_ne hj5 hd5 e; exact jL_ne hj5 hd5 e)
  have hr3 := owns_frm hr5 hf6 (fun i hi e => by
    rcases e with e | e
    · exact owns_ne hr5 hd5.hd (by decide) (e ▸ hi)
    · exact owns_ne hr5 hd5.row (by decide) (e ▸ hi))
  have hv3 := owns_frm hv5 hf6 (fun i hi e => by
    rcases e with e | e
    · exact owns_ne hv5 hd5.hd (by decide) (e ▸ hi)
    · exact owns_ne hv5 hd5.row (by decide) (e ▸ hi))
  have hs4 := hb4.size
  refine ⟨j5, rv5, v5, rfl, by omega, ⟨hj3, hd6, hr3.base (Nat.zero_le _), hn, by omega, by omega, Nat.le_refl _, by omega, by omega, by omega⟩, hv3.base hs4, fun b hb => by have := (hr5.lt b hb).1; omega, ((Frm.of_below hb4).then hf5 (fun i _ e => .inl e)).then hf6 (fun i _ e => e)⟩
end Go.Proofs.YtchiikfdmogfpaaGreatDoor
