/- The law's own functions: SameInts, Same. -/
import Derived.Test.YtchiikfdmogfpaaGreatDoorBx8
import Derived.BigQuiet
import Derived.Deep.QuietTactic
namespace Go.Proofs.YtchiikfdmogfpaaGreatDoor
open Go.RowKit

theorem below_drewNn (w : World) (q : Nat) : Below w.heap.size w (w.drewN q) := ⟨rfl, rfl, rfl, Nat.le_refl _, fun _ _ => rfl⟩

set_option maxRecDepth 20000 in
set_option maxHeartbeats 1000000 in
theorem sameInts_any (A A2 : Option Addr) (c c2 : Nat) (la lb : List Nat) (w : World) (ha : Rd w A (la.map iv)) (hb : Rd w A2 (lb.map iv)) (hla : la.length ≤ 1000000) :
    Calls Tryz.prog 18 #[.slice A la.length c, .slice A2 lb.length c2] w fun e w' => e = .returned (.bool (decide (la = lb))) ∧ Below w.heap.size w w' := by
  by_cases hl : la.length = lb.length
  · rw [← hl]
    obtain ⟨n, hn⟩ : ∃ n, la.length = n := ⟨_, rfl⟩
    rw [hn] at hla ⊢
    have HL := Lib.hid (And.intro hn (hl.symm.trans hn))
    clear hl hn
    go_enter Tryz.func18, Tryz.ntmps18
    go_wp2_with (fail)
    go_loopw [5] (fun i wr => ∃ k : Nat, k ≤ n ∧ i = .int .i64 k ∧ la.take k = lb.take k ∧ Below w.heap.size w wr) (fun i _ => n - (intOf i).toNat)
    case atStart => exact ⟨0, Nat.zero_le _, rfl, rfl, Below.refl _ _⟩
    case round =>
      obtain ⟨k, hk, rfl, htk, hbr⟩ := hrel
      have HT := Lib.hid htk
      clear htk
      by_cases hlt : k < n
      · have h1 : k < la.length := by have := HL.out.1; omega
        have h2 : k < lb.length := by have := HL.out.2; omega
        obtain ⟨g1, o1, rfl, hg1, hc1⟩ := ha (by intro e; have := congrArg List.length e; simp at this; rw [this] at h1; simp at h1)
        obtain ⟨g2, o2, rfl, hg2, hc2⟩ := hb (by intro e; have := congrArg List.length e; simp at this; rw [this] at h2; simp at h2)
        obtain ⟨x, hx⟩ : ∃ x, la[k] = x := ⟨_, rfl⟩
        obtain ⟨y, hy⟩ : ∃ y, lb[k] = y := ⟨_, rfl⟩
        have d1 : wr.cell? ⟨g1, o1 + k, none⟩ = some (.int .i64 (x : Int)) := (hbr.cell (p := ⟨g1, o1 + k, none⟩) hg1).trans (hc1 k _ (by simp [h1, hx, iv]))
        have d2 : wr.cell? ⟨g2, o2 + k, none⟩ = some (.int .i64 (y : Int)) := (hbr.cell (p := ⟨g2, o2 + k, none⟩) hg2).trans (hc2 k _ (by simp [h2, hy, iv]))
        have HXY := Lib.hid (And.intro hx hy)
        have e0 : (0 : Int) ≤ (k : Int) := by omega
        have e1 : (k : Int) < (n : Int) := by omega
        clear hc1 hc2 hx hy ha hb
        by_cases hxy : x = y
        · subst hxy
          go_wp2_with (fail)
          go_quiet (fail)
          go_wp2_with (fail)
          refine ⟨⟨k + 1, by omega, by go_num, ?_, hbr.trans ((below_drewNn wr _).mono hbr.size)⟩, by simp [intOf]; omega⟩
          rw [List.take_succ_eq_append_getElem h1, List.take_succ_eq_append_getElem h2, HT.out, HXY.out.1, HXY.out.2]
        · have f1 : ((x : Int) == (y : Int)) = false := by apply beq_eq_false_iff_ne.2; omega
          have f2 : ((x : Int) != (y : Int)) = true := by rw [bne_iff_ne]; omega
          have HN : Hid (la ≠ lb) := Lib.hid (fun e => hxy (by rw [← HXY.out.1, ← HXY.out.2]; simp only [e]))
          clear hxy
          go_wp2_with (fail)
          go_quiet (fail)
          go_wp2_with (fail)
          go_ret
          exact ⟨by rw [decide_eq_false HN.out]; rfl, hbr.trans ((below_drewNn wr _).mono hbr.size)⟩
      · obtain rfl : k = n := by omega
        go_wp2_with (fail)
        go_ret
        have := HT.out
        rw [List.take_of_length_le (by have := HL.out.1; omega), List.take_of_length_le (by have := HL.out.2; omega)] at this
        exact ⟨by rw [decide_eq_true this]; rfl, hbr⟩
  · have hne : la ≠ lb := fun e => hl (by rw [e])
    have HD := Lib.hid (decide_eq_false hne)
    have e1 : ((la.length : Int) == (lb.length : Int)) = false := by apply beq_eq_false_iff_ne.2; omega
    have e2 : ((la.length : Int) != (lb.length : Int)) = true := by rw [bne_iff_ne]; omega
    clear hl hne ha hb
    go_enter Tryz.func18, Tryz.ntmps18
    go_wp2_with (fail)
    go_ret
    exact ⟨by rw [HD.out]; rfl, Below.refl _ _⟩
set_option maxRecDepth 20000 in
set_option maxHeartbeats 1000000 in
theorem same_any (A A2 : Option Addr) (c c2 : Nat) (la lb : Bytes) (w : World) (ha : Rd w A (la.map bv)) (hb : Rd w A2 (lb.map bv)) (hla : la.length ≤ 1000000) :
    Calls Tryz.prog 21 #[.slice A la.length c, .slice A2 lb.length c2] w fun e w' => e = .returned (.bool (decide (la = lb))) ∧ Below w.heap.size w w' := by
  by_cases hl : la.length = lb.length
  · rw [← hl]
    obtain ⟨n, hn⟩ : ∃ n, la.length = n := ⟨_, rfl⟩
    rw [hn] at hla ⊢
    have HL := Lib.hid (And.intro hn (hl.symm.trans hn))
    clear hl hn
    go_enter Tryz.func21, Tryz.ntmps21
    go_wp2_with (fail)
    go_loopw [5] (fun i wr => ∃ k : Nat, k ≤ n ∧ i = .int .i64 k ∧ la.take k = lb.take k ∧ Below w.heap.size w wr) (fun i _ => n - (intOf i).toNat)
    case atStart => exact ⟨0, Nat.zero_le _, rfl, rfl, Below.refl _ _⟩
    case round =>
      obtain ⟨k, hk, rfl, htk, hbr⟩ := hrel
      have HT := Lib.hid htk
      clear htk
      by_cases hlt : k < n
      · have h1 : k < la.length := by have := HL.out.1; omega
        have h2 : k < lb.length := by have := HL.out.2; omega
        obtain ⟨g1, o1, rfl, hg1, hc1⟩ := ha (by intro e; have := congrArg List.length e; simp at this; rw [this] at h1; simp at h1)
        obtain ⟨g2, o2, rfl, hg2, hc2⟩ := hb (by intro e; have := congrArg List.length e; simp at this; rw [this] at h2; simp at h2)
        obtain ⟨x, hx⟩ : ∃ x, la[k] = x := ⟨_, rfl⟩
        obtain ⟨y, hy⟩ : ∃ y, lb[k] = y := ⟨_, rfl⟩
        have d1 : wr.cell? ⟨g1, o1 + k, none⟩ = some (.int .u8 (x.toNat : Int)) := (hbr.cell (p := ⟨g1, o1 + k, none⟩) hg1).trans (hc1 k _ (by simp [h1, hx, bv]))
        have d2 : wr.cell? ⟨g2, o2 + k, none⟩ = some (.int .u8 (y.toNat : Int)) := (hbr.cell (p := ⟨g2, o2 + k, none⟩) hg2).trans (hc2 k _ (by simp [h2, hy, bv]))
        have HXY := Lib.hid (And.intro hx hy)
        have e0 : (0 : Int) ≤ (k : Int) := by omega
        have e1 : (k : Int) < (n : Int) := by omega
        clear hc1 hc2 hx hy ha hb
        by_cases hxy : x = y
        · subst hxy
          go_wp2_with (fail)
          go_quiet (fail)
          go_wp2_with (fail)
          refine ⟨⟨k + 1, by omega, by go_num, ?_, hbr.trans ((below_drewNn wr _).mono hbr.size)⟩, by simp [intOf]; omega⟩
          rw [List.take_succ_eq_append_getElem h1, List.take_succ_eq_append_getElem h2, HT.out, HXY.out.1, HXY.out.2]
        · have f1 : ((x.toNat : Int) == (y.toNat : Int)) = false := by apply beq_eq_false_iff_ne.2; intro e; exact hxy (UInt8.toNat_inj.1 (by omega))
          have f2 : ((x.toNat : Int) != (y.toNat : Int)) = true := by rw [bne_iff_ne]; intro e; exact hxy (UInt8.toNat_inj.1 (by omega))
          have HN : Hid (la ≠ lb) := Lib.hid (fun e => hxy (by rw [← HXY.out.1, ← HXY.out.2]; simp only [e]))
          clear hxy
          go_wp2_with (fail)
          go_quiet (fail)
          go_wp2_with (fail)
          go_ret
          exact ⟨by rw [decide_eq_false HN.out]; rfl, hbr.trans ((below_drewNn wr _).mono hbr.size)⟩
      · obtain rfl : k = n := by omega
        go_wp2_with (fail)
        go_ret
        have := HT.out
        rw [List.take_of_length_le (by have := HL.out.1; omega), List.take_of_length_le (by have := HL.out.2; omega)] at this
        exact ⟨by rw [decide_eq_true this]; rfl, hbr⟩
  · have hne : la ≠ lb := fun e => hl (by rw [e])
    have HD := Lib.hid (decide_eq_false hne)
    have e1 : ((la.length : Int) == (lb.length : Int)) = false := by apply beq_eq_false_iff_ne.2; omega
    have e2 : ((la.length : Int) != (lb.length : Int)) = true := by rw [bne_iff_ne]; omega
    clear hl hne ha hb
    go_enter Tryz.func21, Tryz.ntmps21
    go_wp2_with (fail)
    go_ret
    exact ⟨by rw [HD.out]; rfl, Below.refl _ _⟩
theorem sameInts_same (A A2 : Option Addr) (c c2 : Nat) (la : List Nat) (w : World) (ha : Rd w A (la.map iv)) (hb : Rd w A2 (la.map iv)) (hla : la.length ≤ 1000000) :
    Calls Tryz.prog 18 #[.slice A la.length c, .slice A2 la.length c2] w fun e w' => e = .returned (.bool true) ∧ Below w.heap.size w w' :=
  (sameInts_any A A2 c c2 la la w ha hb hla).mono fun _ _ ⟨he, hb⟩ => ⟨by rw [he, decide_eq_true rfl], hb⟩
theorem same_same (A A2 : Option Addr) (c c2 : Nat) (la : Bytes) (w : World) (ha : Rd w A (la.map bv)) (hb : Rd w A2 (la.map bv)) (hla : la.length ≤ 1000000) :
    Calls Tryz.prog 21 #[.slice A la.length c, .slice A2 la.length c2] w fun e w' => e = .returned (.bool true) ∧ Below w.heap.size w w' :=
  (same_any A A2 c c2 la la w ha hb hla).mono fun _ _ ⟨he, hb⟩ => ⟨by rw [he, decide_eq_true rfl], hb⟩
end Go.Proofs.YtchiikfdmogfpaaGreatDoor
