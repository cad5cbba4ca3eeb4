/- store.Encode of right pairs. -/
import Derived.Test.YtchiikfdmogfpaaGreatDoorSt1
namespace Go.Proofs.YtchiikfdmogfpaaGreatDoor
open Go.RowKit
attribute [local go_sem ↓ high] exec_append24 exec_append24s

def Pr.enc (p : Pr) : Bytes := [if p.gone then 1 else 0] ++ (beN p.key.length 2 ++ (p.key ++ (beN p.val.length 4 ++ p.val)))
def encAll (ps : List Pr) : Bytes := ps.flatMap Pr.enc
theorem Pr.enc_length (p : Pr) : p.enc.length = 7 + p.key.length + p.val.length := by simp [Pr.enc, beN_length]; omega

theorem Frm.below' {B : Nat} {w w' : World} (h : Frm (fun b => B ≤ b) w w') (hb : B ≤ w.heap.size) : Below B w w' := ⟨h.os, h.tape, h.output, h.size, fun i hi => h.block i (by omega) (by omega)⟩
theorem encAll_take (ps : List Pr) (k : Nat) (h : k < ps.length) : encAll (ps.take (k + 1)) = encAll (ps.take k) ++ ps[k].enc := by
  unfold encAll; rw [List.take_succ_eq_append_getElem h, List.flatMap_append]; simp
theorem encAll_le (ps : List Pr) (h : ∀ p ∈ ps, p.key.length ≤ 1000 ∧ p.val.length ≤ 100000) : (encAll ps).length ≤ ps.length * 101007 := by
  induction ps with
  | nil => simp [encAll]
  | cons p r ih =>
    have h1 := h p (by simp)
    have h2 := ih (fun q hq => h q (by simp [hq]))
    have h3 := p.enc_length
    simp only [encAll, List.flatMap_cons, List.length_append, List.length_cons] at h2 ⊢
    omega
/-- What a pair's cells are, in a row of pairs. -/
theorem pair_cells (ps : List Pr) (k : Nat) (h : k < ps.length) (j : Nat) (hj : j < 3) : (ps.flatMap Pr.cells)[k * 3 + j]? = (ps[k].cells)[j]? := by
  induction ps generalizing k with
  | nil => simp at h
  | cons p r ih =>
    cases k with
    | zero => rw [List.flatMap_cons, List.getElem?_append_left (by simp [Pr.cells]; omega)]; simp
    | succ m =>
      rw [List.flatMap_cons, List.getElem?_append_right (by simp [Pr.cells]; omega)]
      have := ih m (by simpa using h)
      simp only [Pr.cells, List.length_cons, List.length_nil] at this ⊢
      rw [show (m + 1) * 3 + j - (0 + 1 + 1 + 1) = m * 3 + j from by omega, this]
      rfl

set_option maxRecDepth 20000 in
set_option maxHeartbeats 1000000 in
theorem encode_any (ps : List Pr) (A : Option Addr) (cap : Nat) (w : World) (hrd : Rd w A (ps.flatMap Pr.cells)) (hok : ∀ p ∈ ps, p.Ok w) (hn : ps.length ≤ 10000) :
    Calls Tryz.prog 36 #[.slice A ps.length cap] w fun e w' => ∃ v, e = .returned (.tuple #[v, .int .i64 0]) ∧ w'.ownsRow w.heap.size 5 1 v (encAll ps).length ((encAll ps).map bv) ∧ Below w.heap.size w w' := by
  obtain ⟨N, hN⟩ : ∃ N, ps.length = N := ⟨_, rfl⟩
  rw [hN] at hn ⊢
  go_enter Tryz.func36, Tryz.ntmps36
  go_wp2_with (fail)
  go_loopw [2, 9] (fun o i wr => ∃ k : Nat, k ≤ N ∧ i = .int .i64 k ∧ wr.ownsRow w.heap.size 5 1 o (encAll (ps.take k)).length ((encAll (ps.take k)).map bv) ∧ Below w.heap.size w wr) (fun _ i _ => N - (intOf i).toNat)
  case atStart => exact ⟨0, Nat.zero_le _, rfl, World.ownsRow_nil _ _ _ _, Below.refl _ _⟩
  case round =>
    obtain ⟨k, hk, rfl, hown, hbr⟩ := hrel
    by_cases hlt : k < N
    · have hkp : k < ps.length := by omega
      obtain ⟨b, o, rfl, hbl, hcl⟩ := hrd (by intro e; have := pair_cells ps k hkp 0 (by omega); rw [e] at this; simp [Pr.cells] at this)
      obtain ⟨p, hp⟩ : ∃ p, ps[k] = p := ⟨_, rfl⟩
      have hpk := (hok p (hp ▸ List.getElem_mem hkp))
      have hcell : ∀ j u, p.cells[j]? = some u → j < 3 → wr.cell? ⟨b, o + (k * 3 + j), none⟩ = some u := fun j u hu hj => (hbr.cell (p := ⟨b, o + (k * 3 + j), none⟩) hbl).trans (hcl (k * 3 + j) u (by rw [pair_cells ps k hkp j hj, hp]; exact hu))
      have c0 := hcell 0 _ rfl (by omega)
      have c1 := hcell 1 _ rfl (by omega)
      have c2 := hcell 2 _ rfl (by omega)
      simp only [← Nat.add_assoc, Nat.add_zero] at c0 c1 c2
      have hlen := encAll_le (ps.take k) (fun q hq => ⟨(hok q (List.mem_of_mem_take hq)).k2, (hok q (List.mem_of_mem_take hq)).hv⟩)
      rw [List.length_take] at hlen
      obtain ⟨key, Av, cv, val, gone⟩ := p
      obtain ⟨h1, h2, h3, h4, h5, hrv⟩ := hpk
      simp only at h1 h2 h3 h4 h5 hrv c0 c1 c2
      have HR := Lib.hid (fun w => right_yes key Av val.length cv gone w h1 h2 (fun e => by rw [h5 e]; rfl))
      clear hcell hcl h5
      go_wp2_with (fail)
      refine (HR.out _).mono ?_
      rintro e W2 ⟨rfl, hb2⟩
      obtain ⟨P, hP⟩ : ∃ P, wr.heap.size = P := ⟨_, rfl⟩
      obtain ⟨n, hn0⟩ : ∃ n, (encAll (ps.take k)).length = n := ⟨_, rfl⟩
      obtain ⟨xs, hxs⟩ : ∃ xs, (encAll (ps.take k)).map bv = xs := ⟨_, rfl⟩
      rw [hn0, hxs] at hown
      rw [hn0] at hlen
      have hb12 : Below wr.heap.size wr W2 := ((Below.refl _ wr).alloc (Nat.le_refl _) _).trans (hb2.mono (by simp))
      have hP2 : W2.heap[P]? = some (.cells #[.string ⟨key.toArray⟩, .slice Av val.length cv, .bool gone] 69 (0, 0)) := (hb2.block P (by simp; omega)).trans (hal_at hP.symm)
      have hbw2 : Below w.heap.size w W2 := hbr.trans (hb12.mono hbr.size)
      have hown2 := owns_below hown hb12
      have hPl : P < W2.heap.size := (Array.getElem?_eq_some_iff.1 hP2).1
      have hws := hbw2.size
      have s2 : W2.cell? ⟨P, 0, none⟩ = some (.string ⟨key.toArray⟩) := (cells3 hP2).2.1
      have s3 : W2.cell? ⟨P, 1, none⟩ = some (.slice Av val.length cv) := (cells3 hP2).2.2.1
      have s4 : W2.cell? ⟨P, 2, none⟩ = some (.bool gone) := (cells3 hP2).2.2.2
      have hA : ∀ (g : UInt8) (z : Int), z = g.toNat → ∃ v3 W3, (appendOp 24 24 u2 (.slice (some ⟨W2.heap.size, 0, none⟩) 1 1)).run Tryz.prog (W2.alloc (.cells #[.int .u8 z] 5)).drew = .ok (.value v3) W3 ∧
          W3.ownsRow w.heap.size 5 1 v3 (n + 1) (xs ++ [bv g]) ∧ Frm (fun b => u2.ownBlock = some b) W2 W3 := fun g z hz => by
        subst hz
        obtain ⟨v3, W3, h1, h2, h3⟩ := append_rd (w := (W2.alloc (.cells #[.int .u8 g.toNat] 5)).drew) w.heap.size u2 n xs ((hown2.alloc _).drew) (some ⟨W2.heap.size, 0, none⟩) [g] 1 (Rd.of_block (L := [bv g]) (w := (W2.alloc (.cells #[.int .u8 g.toNat] 5)).drew) (hal_at rfl) 0 1) (by simp; omega) (by simp; omega)
        exact ⟨v3, W3, h1, h2, (((Frm.refl _ _).alloc _).drew).trans h3⟩
      have HA := Lib.hid hA
      have HX := Lib.hid (And.intro hP2 (And.intro hown2 hbw2))
      clear hA hP2 hb12 hb2 hown2 hbw2 hown
      cases gone
      case' false =>
        obtain ⟨g, hg, hg0⟩ : ∃ g : UInt8, (if false = true then (1 : UInt8) else 0) = g ∧ (0 : Int) = g.toNat := ⟨0, rfl, rfl⟩
        obtain ⟨v3, W3, hap3, hown3, hf3⟩ := HA.out g 0 hg0
      case' true =>
        obtain ⟨g, hg, hg0⟩ : ∃ g : UInt8, (if true = true then (1 : UInt8) else 0) = g ∧ (1 : Int) = g.toNat := ⟨1, rfl, rfl⟩
        obtain ⟨v3, W3, hap3, hown3, hf3⟩ := HA.out g 1 hg0
      all_goals
        obtain ⟨hP2, hown2, hbw2⟩ := HX.out
        have hs3 : W2.heap.size ≤ W3.heap.size := hf3.size
        have hP3 := (hf3.block P hPl (owns_ne hown2 hP2 (by decide))).trans hP2
        have hput := sput_any key.length 2 (by decide) w.heap.size v3 (n + 1) (xs ++ [bv g]) W3 (by omega) (by omega) hown3
        rw [show ((2 : Nat) : Int) = 2 from rfl] at hput
        have k3 : W3.cell? ⟨P, 0, none⟩ = some (.string ⟨key.toArray⟩) := (cells3 hP3).2.1
        have hb3 : Below w.heap.size w W3 := hbw2.trans ((hf3.weaken (G := fun b => w.heap.size ≤ b) (fun i _ e => (hown2.lt i e).1)).below' hws)
        have hA2 : Hid (∀ W4 v4, Row W3 W4 v3 v4 w.heap.size 5 1 (n + 1 + 2) (xs ++ [bv g] ++ (beN key.length 2).map bv) → W4.cell? ⟨P, 0, none⟩ = some (.string ⟨key.toArray⟩) ∧ ∃ v5 W5, (appendStrOp 24 9 24 v4 (.string ⟨key.toArray⟩)).run Tryz.prog W4 = .ok (.value v5) W5 ∧
            W5.cell? ⟨P, 0, none⟩ = some (.string ⟨key.toArray⟩) ∧ P < W5.heap.size ∧ Hid (W5.heap[P]? = some (.cells #[.string ⟨key.toArray⟩, .slice Av val.length cv, .bool _] 69 (0, 0)) ∧ Below w.heap.size w W5 ∧
              W5.ownsRow w.heap.size 5 1 v5 (n + 1 + 2 + key.length) (xs ++ [bv g] ++ (beN key.length 2).map bv ++ key.map bv))) := Lib.hid fun W4 v4 hrow => by
          have hf4 := Frm.of_grown hrow.grow
          have hP4 := (hf4.block P (by omega) (owns_ne hown3 hP3 (by decide))).trans hP3
          have hs4 := hf4.size
          obtain ⟨v5, W5, hap5, hown5, hf5⟩ := append_str (w := W4) w.heap.size v4 _ _ hrow.own key (by omega) (by omega)
          have hP5 := (hf5.block P (by omega) (owns_ne hrow.own hP4 (by decide))).trans hP4
          have hb4 : Below w.heap.size w W4 := hb3.trans ((hf4.weaken (G := fun b => w.heap.size ≤ b) (fun i _ e => (hown3.lt i e).1)).below' (by omega))
          have hb5 : Below w.heap.size w W5 := hb4.trans ((hf5.weaken (G := fun b => w.heap.size ≤ b) (fun i _ e => (hrow.own.lt i e).1)).below' (by omega))
          exact ⟨(cells3 hP4).2.1, v5, W5, hap5, (cells3 hP5).2.1, (Array.getElem?_eq_some_iff.1 hP5).1, Lib.hid ⟨hP5, hb5, hown5⟩⟩
        have HP3 := Lib.hid (And.intro hP3 hown3)
        have HPUT := Lib.hid hput
        have HG := Lib.hid hg
        clear hg hg0 hP3 hown3 hput hP2 hown2 hbw2
        clear hb3
        go_wp2_with (fail)
        go_region_held3 (fun w' => w'.cell? ⟨P, 0, none⟩ = some (.string ⟨key.toArray⟩))
          (first | exact s2 | exact Lib.cell?_alloc_some _ s2 | exact k3 | exact k4 | exact k5)
          (first | (go_at_call 55; refine Calls.mono (by with_reducible exact HPUT.out) ?_; rintro e W4 ⟨v4, rfl, hrow4⟩; obtain ⟨k4, v5, W5, hap5, k5, hP5l, HQ⟩ := hA2.out W4 v4 hrow4))
        clear hap5 hap3 k3 k4 k5 hA2 HPUT s2 s3 s4 HA HX
        obtain ⟨hP5, hb5, hown5⟩ := HQ.out
        have hws5 := hb5.size
        have hput := sput_any val.length 4 (by decide) w.heap.size v5 _ _ W5.drew (by simp; omega) (by omega) hown5.drew
        rw [show ((4 : Nat) : Int) = 4 from rfl] at hput
        have hA3 : Hid (∀ W6 v6, Row W5.drew W6 v5 v6 w.heap.size 5 1 (n + 1 + 2 + key.length + 4) (xs ++ [bv g] ++ (beN key.length 2).map bv ++ key.map bv ++ (beN val.length 4).map bv) → W6.cell? ⟨P, 1, none⟩ = some (.slice Av val.length cv) ∧ ∃ v7 W7, (appendOp 24 24 v6 (.slice Av val.length cv)).run Tryz.prog W6 = .ok (.value v7) W7 ∧
            W7.cell? ⟨P, 1, none⟩ = some (.slice Av val.length cv) ∧ Hid (Below w.heap.size w W7 ∧
              W7.ownsRow w.heap.size 5 1 v7 (n + 1 + 2 + key.length + 4 + val.length) (xs ++ [bv g] ++ (beN key.length 2).map bv ++ key.map bv ++ (beN val.length 4).map bv ++ val.map bv))) := Lib.hid fun W6 v6 hrow => by
          have hf6 : Frm (fun b => v5.ownBlock = some b) W5 W6 := (Frm.of_grown hrow.grow).drew0
          have hP6 := (hf6.block P hP5l (owns_ne hown5 hP5 (by decide))).trans hP5
          have hs6 := hf6.size
          have hb6 : Below w.heap.size w W6 := hb5.trans ((hf6.weaken (G := fun b => w.heap.size ≤ b) (fun i _ e => (hown5.lt i e).1)).below' (by omega))
          obtain ⟨v7, W7, hap7, hown7, hf7⟩ := append_rd (w := W6) w.heap.size v6 _ _ hrow.own Av val cv (hrv.below hb6) (by omega) (by omega)
          have hP7 := (hf7.block P (by omega) (owns_ne hrow.own hP6 (by decide))).trans hP6
          have hb7 : Below w.heap.size w W7 := hb6.trans ((hf7.weaken (G := fun b => w.heap.size ≤ b) (fun i _ e => (hrow.own.lt i e).1)).below' (by omega))
          exact ⟨(cells3 hP6).2.2.1, v7, W7, hap7, (cells3 hP7).2.2.1, Lib.hid ⟨hb7, hown7⟩⟩
        have k5 : W5.cell? ⟨P, 1, none⟩ = some (.slice Av val.length cv) := (cells3 hP5).2.2.1
        have HPUT := Lib.hid hput
        clear hput hP5 hb5 hown5
        go_wp2_with (fail)
        go_region_held3 (fun w' => w'.cell? ⟨P, 1, none⟩ = some (.slice Av val.length cv))
          (first | exact k5 | exact k6 | exact k7)
          (first | (go_at_call 55; refine Calls.mono (by with_reducible exact HPUT.out) ?_; rintro e W6 ⟨v6, rfl, hrow6⟩; obtain ⟨k6, v7, W7, hap7, k7, HQ7⟩ := hA3.out W6 v6 hrow6))
        obtain ⟨hb7, hown7⟩ := HQ7.out
        have hg := HG.out
        clear HG
        have hlen7 : (encAll (ps.take (k + 1))).length = n + 1 + 2 + key.length + 4 + val.length := by rw [encAll_take ps k hkp, hp, List.length_append, hn0, Pr.enc_length]; simp only; omega
        have hmap7 : (encAll (ps.take (k + 1))).map bv = xs ++ [bv g] ++ (beN key.length 2).map bv ++ key.map bv ++ (beN val.length 4).map bv ++ val.map bv := by
          rw [encAll_take ps k hkp, hp, List.map_append, hxs]
          simp only [Pr.enc, hg, List.map_append, List.map_cons, List.map_nil, List.append_assoc]
        rw [← hlen7, ← hmap7] at hown7
        clear hg hlen7 hmap7 hap7 hA3 HPUT
        go_wp2_with (fail)
        refine ⟨⟨k + 1, hlt, by simp, hown7, hb7⟩, ?_⟩
        simp [intOf]
        omega
    · obtain rfl : k = N := by omega
      go_wp2_with (fail)
      go_ret2
      rw [← hN, List.take_length] at hown
      exact ⟨_, rfl, hown, hbr⟩
end Go.Proofs.YtchiikfdmogfpaaGreatDoor
