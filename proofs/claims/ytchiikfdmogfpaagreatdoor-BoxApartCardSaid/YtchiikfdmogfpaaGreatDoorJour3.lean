/- journal.write: a record's blocks are written. -/
import Derived.Test.YtchiikfdmogfpaaGreatDoorJour2
import Derived.Deep.RegionLaw
namespace Go.Proofs.YtchiikfdmogfpaaGreatDoor
open Go.RowKit
section
variable (ρ : Operand → Value) (dst : Option Tmp) (x y z : Operand) (ty : TypeId) (pos : String) (after : Array Edge) (guard : Option (Nat × Bool))
theorem exec_slice24 : execOp ρ { dst, op := .slice 24 x (some y) (some z) none, type := ty, pos, after, guard } = sliceOp 24 (ρ x) (some (ρ y)) (some (ρ z)) none := rfl
theorem exec_min3 : execOp ρ { dst, op := .call { callee := .builtin .min, args := #[x, y], argTypes := #[3, 3] }, type := ty, pos, after, guard } = minOp 3 ty (ρ x) (ρ y) := by simp [BigFrame.execOp_builtin, BigFrame.builtin_min, minOp]
theorem exec_alloc175 : execOp ρ { dst, op := .alloc 175, type := ty, pos, after, guard } = allocOp 175 := rfl
end
attribute [local go_sem ↓] exec_load175 exec_store175 exec_alloc175 exec_slice24
attribute [local go_sem ↓ high] exec_copy24 exec_min3

theorem Tryz.sizeU8 : (Tryz.prog.info? 5).map (·.size) = some 1 := by kernel_rfl
def partOf (b : Bytes) (i : Nat) : Bytes := (b.drop (i * 42)).take 42
theorem partOf_le (b : Bytes) (i : Nat) : (partOf b i).length ≤ 42 := by unfold partOf; simp; omega
def placeOf (i n : Nat) : Nat := if i + 1 = n then i + 32768 else i
def blockBytes (g r p : Nat) (part : Bytes) : Bytes := markOf g r p ++ beN part.length 2 ++ part ++ noughts (42 - part.length) ++ markOf g r p
def writesOf (g r pos : Nat) (b : Bytes) (n k : Nat) : List (Nat × Bytes) := (List.range k).map fun i => (pos + i, blockBytes g r (placeOf i n) (partOf b i))

theorem splice_map {α β : Type} (f : α → β) (L : List α) (o : Nat) (c : List α) : (splice L o c).map f = splice (L.map f) o (c.map f) := by simp [splice]
theorem splice_len {α : Type} (L : List α) (o : Nat) (c : List α) (h : o + c.length ≤ L.length) : (splice L o c).length = L.length := by simp [splice]; omega
theorem Rd.frm {F : Nat → Prop} {w w' : World} {A : Option Addr} {xs : List Value} (h : Rd w A xs) (hf : Frm F w w') (hA : ∀ a, A = some a → ¬ F a.block) : Rd w' A xs := fun hne => by
  obtain ⟨b, o, e, hlt, hc⟩ := h hne
  exact ⟨b, o, e, Nat.lt_of_lt_of_le hlt hf.size, fun j u hu => (hf.cell (p := ⟨b, o + j, none⟩) hlt (hA ⟨b, o, none⟩ e)).trans (hc j u hu)⟩
theorem step_copy_as {P : Program} {ops : Array Oper} {o : Oper} {a : Act} {w : World} {K : Act → World → Prop} {Q : Exit → Act → World → Prop} {E : Prop} (hgd : o.guard = none) (d s : Operand) (dT sT : TypeId)
    (ho : o.op = .call { callee := .builtin .copy, args := #[d, s], argTypes := #[dT, sT] }) (elem : TypeId) (g off dLen dCap : Nat) (A : Option Addr) (sLen sCap : Nat) (hd : a.eval d = .slice (some ⟨g, off, none⟩) dLen dCap) (hs : a.eval s = .slice A sLen sCap)
    (cur : List Value) (t : TypeId) (cs : List Value) (hu : P.underlying dT = some (.slice elem)) (hsz : (P.info? elem).map (·.size) = some 1) (hg : w.heap[g]? = some (.cells cur.toArray t (0, 0))) (hn : cs.length = Nat.min sLen dLen)
    (hsrc : Rd w A cs) (hfit : off + cs.length ≤ cur.length) (h1 : ∀ v ∈ cs, v.oneCell' = true) (w' : World) (hw : w.setRow g (splice cur off cs).toArray = w')
    (h : K (a.put o.dst (goInt cs.length)) w') : if Region.wanted o (yielded ops a.tmps) = true then Oper.wp P o a w K Q else E :=
  step_copy_rd hgd d s dT sT ho elem g off dLen dCap A sLen sCap hd hs cur t cs hu hsz hg hn hsrc hfit h1 (hw.symm ▸ h)
theorem owns_keep {w w' : World} {base e size n : Nat} {v : Value} {xs : List Value} (h : w.ownsRow base e size v n xs) (hk : ∀ k, v.ownBlock = some k → w'.heap[k]? = w.heap[k]?) : w'.ownsRow base e size v n xs :=
  ⟨h.1, h.2.imp id fun ⟨g, cap, cur, e1, h2, h3, h4⟩ => ⟨g, cap, cur, e1, h2, (hk g (by rw [e1]; rfl)).trans h3, h4⟩⟩
theorem owns_below {w w' : World} {base e size n : Nat} {v : Value} {xs : List Value} (h : w.ownsRow base e size v n xs) (hb : Below w.heap.size w w') : w'.ownsRow base e size v n xs :=
  owns_keep h fun k hk => hb.block k (h.lt k hk).2
theorem Frm.then {F G : Nat → Prop} {a b c : World} (h : Frm F a b) (k : Frm G b c) (hg : ∀ i, i < a.heap.size → G i → F i) : Frm F a c :=
  ⟨k.os.trans h.os, k.tape.trans h.tape, k.output.trans h.output, Nat.le_trans h.size k.size, fun i hi hn => (k.block i (Nat.lt_of_lt_of_le hi h.size) (fun g => hn (hg i hi g))).trans (h.block i hi hn)⟩
theorem flat_append (a b : List (Nat × Bytes)) : flat (a ++ b) = flat a ++ flat b := by simp [flat]
theorem writesOf_succ (g r pos : Nat) (b : Bytes) (n k : Nat) : writesOf g r pos b n (k + 1) = writesOf g r pos b n k ++ [(pos + k, blockBytes g r (placeOf k n) (partOf b k))] := by simp [writesOf, List.range_succ]
theorem splice_mid {α : Type} (a b c m : List α) (h : b.length = m.length) : splice (a ++ (b ++ c)) a.length m = a ++ (m ++ c) := by
  simp [splice, ← h]
theorem block_made (g r p : Nat) (part : Bytes) (h : part.length ≤ 42) : splice (splice (splice (noughts 64) 0 (markOf g r p ++ beN part.length 2)) 12 part) 54 (markOf g r p) = blockBytes g r p part := by
  have h1 := markOf_length g r p
  have h2 := beN_length part.length 2
  unfold blockBytes
  generalize markOf g r p = m at *
  generalize beN part.length 2 = e at *
  have e1 : noughts 64 = [] ++ (noughts 12 ++ (noughts part.length ++ (noughts (42 - part.length) ++ noughts 10))) := by
    simp only [noughts, List.nil_append, List.replicate_append_replicate]; congr 1; omega
  rw [e1]
  have s1 := splice_mid [] (noughts 12) (noughts part.length ++ (noughts (42 - part.length) ++ noughts 10)) (m ++ e) (by simp [noughts_length, h1, h2])
  rw [show ([] : Bytes).length = 0 from rfl] at s1
  rw [s1, List.nil_append]
  have s2 := splice_mid (m ++ e) (noughts part.length) (noughts (42 - part.length) ++ noughts 10) part (by simp [noughts_length])
  rw [show (m ++ e).length = 12 from by simp [h1, h2]] at s2
  rw [s2]
  have s3 := splice_mid (m ++ e ++ part ++ noughts (42 - part.length)) (noughts 10) [] m (by simp [noughts_length, h1])
  rw [show (m ++ e ++ part ++ noughts (42 - part.length)).length = 54 from by simp [h1, h2, noughts_length]; omega] at s3
  simp only [List.append_assoc, List.append_nil] at s3 ⊢
  exact s3

theorem or_last (k : Nat) (h : k < 32768) : bits .or .u64 (k : Int) 32768 = ((k + 32768 : Nat) : Int) := by
  rw [bits_join_low .u64 64 (by decide) (fun n h0 h1 => wraps_u64 n h0 h1) 15 (k : Int) 32768 (by omega) (by omega) (by omega) (by omega) (by decide) (by decide)]
  omega

set_option maxRecDepth 20000 in
set_option maxHeartbeats 1000000 in
theorem write_rec (j d L n fr sz gen at_ r at' base : Nat) (rv pv : Value) (img b : Bytes) (l : List (Nat × Bytes)) (A : Option Addr) (cap : Nat) (w : World)
    (hj : JAt w j d fr sz gen rv at_) (h : DiskAt w d L n img pv) (hk : l.length ≤ 100000) (ho : w.ownsRow base 180 65 pv l.length (flat l)) (hb : base ≤ w.heap.size)
    (hn : n ≤ 65536) (hbl : b.length ≤ 4000000000) (hbc : b.length ≤ cap) (hrd : Rd w A (b.map bv)) (hA : ∀ a, A = some a → a.block ≠ d ∧ pv.ownBlock ≠ some a.block) (hfit : fr + at' + blocksOf b.length ≤ n) (hbn : blocksOf b.length ≤ 32768) (hr : r ≤ 1000000) :
    Calls Tryz.prog 80 #[.pointer (some ⟨j, 0, none⟩), .int .i64 r, .int .i64 at', .slice A b.length cap] w fun e w' => e = .returned (.tuple #[]) ∧ ∃ pv', DiskAt w' d L n img pv' ∧
      w'.ownsRow base 180 65 pv' (l.length + blocksOf b.length) (flat (l ++ writesOf gen r (fr + at') b (blocksOf b.length) (blocksOf b.length))) ∧ Frm (fun b => b = d ∨ pv.ownBlock = some b) w w' ∧
      (pv'.ownBlock = pv.ownBlock ∨ ∀ b, pv'.ownBlock = some b → w.heap.size ≤ b) := by
  have hjF : ¬ (j = d ∨ pv.ownBlock = some j) := by
    rintro (e | e)
    · subst e; have h1 := h.hd; unfold JAt at hj; rw [hj] at h1; simp at h1
    · exact owns_ne ho hj (by decide) e
  go_enter Tryz.func80, Tryz.ntmps80
  go_wp2_with (fail)
  refine (blocks_any b.length (by omega) _).mono ?_
  rintro e w1 ⟨rfl, rfl⟩
  go_wp2_with (fail)
  obtain ⟨N, hN⟩ : ∃ N, N = blocksOf b.length := ⟨_, rfl⟩
  have hN1 : 1 ≤ N := by rw [hN]; unfold blocksOf; omega
  have hN2 : N ≤ 32768 := by rw [hN]; exact hbn
  have hN3 : fr + at' + N ≤ n := by rw [hN]; exact hfit
  rw [← hN]
  go_loopw [17] (fun i wr => ∃ (k : Nat) (pv' : Value), k ≤ N ∧ i = .int .i64 k ∧ DiskAt wr d L n img pv' ∧ wr.ownsRow base 180 65 pv' (l.length + k) (flat (l ++ writesOf gen r (fr + at') b N k)) ∧
      Frm (fun b => b = d ∨ pv.ownBlock = some b) w wr ∧ (pv'.ownBlock = pv.ownBlock ∨ ∀ b, pv'.ownBlock = some b → w.heap.size ≤ b)) (fun i _ => N - (intOf i).toNat)
  case atStart => exact ⟨0, pv, Nat.zero_le _, rfl, h, by simpa [writesOf] using ho, Frm.refl _ _, .inl rfl⟩
  case round =>
    obtain ⟨k, pv', hk', rfl, hd', ho', hfr, hloc⟩ := hrel
    by_cases hlt : k < N
    · have hjr : JAt wr j d fr sz gen rv at_ := hj.frm hfr hjF
      have hrdr : Rd wr A (b.map bv) := hrd.frm hfr (fun a e => by have := hA a e; rintro (h | h); exact this.1 h; exact this.2 h)
      have hj0 := hjr.c0
      have hj1 := hjr.c1
      have hj3 := hjr.c3
      have hjl := hjr.lt
      have hal := fun W => run_allocOp (P := Tryz.prog) (ty := 175) (z := .agg (cellsOf (noughts 64))) (w := W) (by kernel_rfl)
      obtain ⟨hi, hhi, hlast⟩ : ∃ hi : Nat, hi = min ((k + 1) * 42) b.length ∧ ((k + 1 < N ∧ (k + 1) * 42 ≤ b.length) ∨ (k + 1 = N ∧ b.length ≤ (k + 1) * 42)) := ⟨_, rfl, by rw [hN] at hlt ⊢; unfold blocksOf at *; omega⟩
      have hlo : k * 42 ≤ b.length := by rw [hN] at hlt; unfold blocksOf at hlt; omega
      have hpl : (partOf b k).length = hi - k * 42 := by unfold partOf; simp; omega
      have hpart : ((b.map bv).drop (k * 42)).take (hi - k * 42) = (partOf b k).map bv := by
        unfold partOf
        rw [← List.map_drop, ← List.map_take]
        congr 1
        rcases hlast with ⟨_, h2⟩ | ⟨_, h2⟩
        · rw [show hi - k * 42 = 42 from by omega]
        · rw [List.take_of_length_le (by simp; omega), List.take_of_length_le (by simp; omega)]
      obtain ⟨A', hcut, hrdp⟩ : ∃ A', (∀ w, (sliceOp 24 (.slice A b.length cap) (some (.int .i64 ((k : Int) * 42))) (some (.int .i64 hi)) none).run Tryz.prog w = .ok (.value (.slice A' (partOf b k).length (cap - k * 42))) w) ∧ Rd wr A' ((partOf b k).map bv) := by
        obtain ⟨A', hcut, hrdc⟩ := cut_slice (P := Tryz.prog) Tryz.underlying24 (fun w => by kernel_rfl) A b.length cap ((k : Int) * 42) hi (k * 42) hi (by omega) rfl (by omega) (by omega)
        refine ⟨A', fun w => ?_, ?_⟩
        · rw [hpl]; exact run_sliceOp (hcut w)
        · rw [← hpart]; exact hrdc wr (b.map bv) (by simp; omega) (by simpa using hbc) hrdr
      have hm1 := fun w => run_minOp (run_min (P := Tryz.prog) (k := .i64) (t := 3) (ty := 3) (a := (k : Int) * 42) (b := (b.length : Int)) (c := (k : Int) * 42) (by omega) w)
      have hm2 := fun w => run_minOp (run_min (P := Tryz.prog) (k := .i64) (t := 3) (ty := 3) (a := ((k : Int) + 1) * 42) (b := (b.length : Int)) (c := (hi : Int)) (by omega) w)
      have HN := Lib.hid hN
      have HP := Lib.hid hpart
      have HQ := Lib.hid hpl
      have HH := Lib.hid hhi
      clear hN hpart hpl hhi
      have hwsz : ∀ p : Int, ∀ W, W = ((wr.alloc (.cells #[.int .u64 gen, .int .u64 r, .int .u64 p] 173)).alloc (.cells (cellsOf (noughts 64)) 175)) → p = (placeOf k N : Int) →
          W.heap[wr.heap.size]? = some (.cells #[.int .u64 gen, .int .u64 r, .int .u64 (placeOf k N)] 173 (0, 0)) ∧ W.heap[wr.heap.size + 1]? = some (.cells (cellsOf (noughts 64)) 175 (0, 0)) ∧ Below wr.heap.size wr W ∧ W.heap.size = wr.heap.size + 2 := fun p W hW hp => by
        subst hW hp
        exact ⟨(hal_lt (by simp)).trans (hal_at rfl), hal_at (by simp), ((Below.refl _ wr).alloc (Nat.le_refl _) _).alloc (by simp) _, by simp⟩
      have HW := Lib.hid hwsz
      clear hwsz
      rcases hlast with ⟨hl1, hl2⟩ | ⟨hl1, hl2⟩
      case' inl =>
        go_wp2_with (fail)
        obtain ⟨W, hW⟩ : ∃ W, W = ((wr.alloc (.cells #[.int .u64 gen, .int .u64 r, .int .u64 k] 173)).alloc (.cells (cellsOf (noughts 64)) 175)) := ⟨_, rfl⟩
        rw [← hW]
        have HA := Lib.hid (HW.out k W hW (by unfold placeOf; rw [if_neg (by omega)]))
        clear hW
      case' inr =>
        have H1 := Lib.hid hl1
        have hkn : ((k : Int) == (N : Int) - 1) = true := by simp; omega
        clear hl1
        go_wp2_with (fail)
        obtain ⟨W, hW⟩ : ∃ W, W = ((wr.alloc (.cells #[.int .u64 gen, .int .u64 r, .int .u64 (bits .or .u64 (k : Int) 32768)] 173)).alloc (.cells (cellsOf (noughts 64)) 175)) := ⟨_, rfl⟩
        rw [← hW]
        have HA := Lib.hid (HW.out _ W hW (by unfold placeOf; rw [if_pos H1.out]; exact or_last k (by omega)))
        clear hW
      all_goals
        obtain ⟨hm, hx, hbW, hWs⟩ := HA.out
        have m0 := (cells3 hm).2.1
        have m1 := (cells3 hm).2.2.1
        have m2 := (cells3 hm).2.2.2
        have HM := Lib.hid hm
        have HX := Lib.hid hx
        have HS := Lib.hid hWs
        have hwp : IntKind.u64.wrap ((partOf b k).length : Int) = ((partOf b k).length : Int) := wraps_u64 _ (by omega) (by have := partOf_le b k; omega)
        have hbm : (cellsOf (noughts 64)) = ((noughts 64).map bv).toArray := rfl
        have HB := Lib.hid hbm
        have hc12 : ((markOf gen r (placeOf k N) ++ beN (partOf b k).length 2).map bv).length = Nat.min 12 64 ∧ 0 + ((markOf gen r (placeOf k N) ++ beN (partOf b k).length 2).map bv).length ≤ ((noughts 64).map bv).length := by
          have h2 : ((markOf gen r (placeOf k N) ++ beN (partOf b k).length 2).map bv).length = 12 := by simp [markOf_length, beN_length]
          rw [h2]; simp [noughts_length]
        have HC := Lib.hid hc12
        clear hm hx hWs hbm hc12
        go_region_law (first
          | (go_simp; go_at_call 106; refine (bytes_any gen r (placeOf k N) _).mono ?_; rintro e W1 ⟨v1, rfl, hown1, hb1⟩; have hz1 := hb1.size; have hx1 := (hb1.block (wr.heap.size + 1) (by have := HS.out; simp; omega)).trans HX.out; have hm1' := (hb1.block wr.heap.size (by have := HS.out; simp; omega)).trans HM.out)
          | (go_simp; go_at_call 105; refine Calls.mono (jputB _ _ ?_ ?_ ?_ _ hown1 ?_ ?_) ?_; (any_goals omega); rintro e W2 ⟨v2, rfl, hown2, hb2⟩; have hown2' : W2.ownsRow W.heap.size 5 1 v2 12 ((markOf gen r (placeOf k N) ++ beN (partOf b k).length 2).map bv) := (by simpa using hown2); obtain ⟨A2, c2, rfl, hc2, hl2', hr2⟩ := owns_slice hown2'; have hx2 := (hb2.block (wr.heap.size + 1) (by have := HS.out; simp; omega)).trans hx1; have hm2' := (hb2.block wr.heap.size (by have := HS.out; simp; omega)).trans hm1')
          | (obtain ⟨W3, hW3⟩ : ∃ W3, W2.setRow (wr.heap.size + 1) (splice ((noughts 64).map bv) 0 ((markOf gen r (placeOf k N) ++ beN (partOf b k).length 2).map bv)).toArray = W3 := ⟨_, rfl⟩
             refine step_copy_as rfl (.tmp 51) (.tmp 57) 24 24 rfl 5 (wr.heap.size + 1) 0 64 64 A2 12 c2 rfl rfl ((noughts 64).map bv) 175 ((markOf gen r (placeOf k N) ++ beN (partOf b k).length 2).map bv) Tryz.underlying24 Tryz.sizeU8 hx2 HC.out.1 hr2 HC.out.2 (bvs_one _) W3 hW3 ?_))
        all_goals
          have hx3 : W3.heap[wr.heap.size + 1]? = some (.cells ((splice (noughts 64) 0 (markOf gen r (placeOf k N) ++ beN (partOf b k).length 2)).map bv).toArray 175 (0, 0)) := by rw [← hW3, splice_map]; exact setRow_heap _ _ _ _ _ _ hx2
          have hm3 : W3.heap[wr.heap.size]? = some (.cells #[.int .u64 gen, .int .u64 r, .int .u64 (placeOf k N)] 173 (0, 0)) := by rw [← hW3, setRow_other _ _ _ _ (by omega)]; exact hm2'
          have hz1' : W.heap.size ≤ W1.heap.size := hz1
          have hb11 : Below wr.heap.size W.drew W1 := hb1.mono (by have := HS.out; simp; omega)
          have hb22 : Below wr.heap.size W1 W2 := hb2.mono (by have := HS.out; simp; omega)
          have hb3 : Below wr.heap.size wr W3 := by rw [← hW3]; exact below_setRow ((hbW.drew.trans hb11).trans hb22) (by omega) _
          have hs3 : W3.heap.size = W2.heap.size := by rw [← hW3]; exact size_setRow _ _ _
          have hcp := run_copy_rd (P := Tryz.prog) W3 24 24 3 5 (wr.heap.size + 1) 12 52 52 A' (partOf b k).length (cap - k * 42) _ _ ((partOf b k).map bv) Tryz.underlying24 Tryz.sizeU8 hx3
            (by have := partOf_le b k; rw [List.length_map]; show _ = min _ _; omega) (hrdp.below hb3) (by rw [List.length_map, List.length_map, splice_len _ _ _ (by simp [markOf_length, beN_length, noughts_length]), noughts_length]; have := partOf_le b k; omega) (bvs_one _)
          obtain ⟨W4, hW4⟩ : ∃ W4, W3.setRow (wr.heap.size + 1) (splice ((splice (noughts 64) 0 (markOf gen r (placeOf k N) ++ beN (partOf b k).length 2)).map bv) 12 ((partOf b k).map bv)).toArray = W4 := ⟨_, rfl⟩
          rw [hW4] at hcp
          have hcq := run_copyOp hcp
          have hx4 : W4.heap[wr.heap.size + 1]? = some (.cells ((splice (splice (noughts 64) 0 (markOf gen r (placeOf k N) ++ beN (partOf b k).length 2)) 12 (partOf b k)).map bv).toArray 175 (0, 0)) := by rw [← hW4, splice_map _ _ 12]; exact setRow_heap _ _ _ _ _ _ hx3
          have hm4 : W4.heap[wr.heap.size]? = some (.cells #[.int .u64 gen, .int .u64 r, .int .u64 (placeOf k N)] 173 (0, 0)) := by rw [← hW4, setRow_other _ _ _ _ (by omega)]; exact hm3
          have hb4 : Below wr.heap.size wr W4 := by rw [← hW4]; exact below_setRow hb3 (by omega) _
          have HX3 := Lib.hid hx3
          have HM3 := Lib.hid hm3
          have HX4 := Lib.hid hx4
          have HM4 := Lib.hid hm4
          clear hx3 hm3 hx4 hm4 hx2 hm2' hx1 hm1' hcp hW3 hW4
          go_wp2_with (fail)
          have n0 := (cells3 HM4.out).2.1
          have n1 := (cells3 HM4.out).2.2.1
          have n2 := (cells3 HM4.out).2.2.2
          have hs4 : wr.heap.size + 1 < W4.heap.size := (Array.getElem?_eq_some_iff.1 HX4.out).1
          have hc10 : ((markOf gen r (placeOf k N)).map bv).length = Nat.min 10 10 ∧ 54 + ((markOf gen r (placeOf k N)).map bv).length ≤ ((splice (splice (noughts 64) 0 (markOf gen r (placeOf k N) ++ beN (partOf b k).length 2)) 12 (partOf b k)).map bv).length := by
            have h2 : ((markOf gen r (placeOf k N)).map bv).length = 10 := by simp [markOf_length]
            have h3 : (splice (noughts 64) 0 (markOf gen r (placeOf k N) ++ beN (partOf b k).length 2)).length = 64 := by rw [splice_len _ _ _ (by simp [markOf_length, beN_length, noughts_length])]; exact noughts_length 64
            rw [h2, List.length_map, splice_len _ _ _ (by rw [h3]; have := partOf_le b k; omega), h3]; exact ⟨rfl, by omega⟩
          have HD := Lib.hid hc10
          clear hc10
          go_region_law (first
            | (go_simp; go_at_call 106; refine (bytes_any gen r (placeOf k N) _).mono ?_; rintro e W5 ⟨v5, rfl, hown5, hb5⟩; have hx5 := (hb5.block (wr.heap.size + 1) (by simp; omega)).trans HX4.out; obtain ⟨A5, c5, rfl, hc5, hl5', hr5⟩ := owns_slice hown5)
            | (obtain ⟨W6, hW6⟩ : ∃ W6, W5.setRow (wr.heap.size + 1) (splice ((splice (splice (noughts 64) 0 (markOf gen r (placeOf k N) ++ beN (partOf b k).length 2)) 12 (partOf b k)).map bv) 54 ((markOf gen r (placeOf k N)).map bv)).toArray = W6 := ⟨_, rfl⟩
               refine step_copy_as rfl (.tmp 62) (.tmp 64) 24 24 rfl 5 (wr.heap.size + 1) 54 10 10 A5 10 c5 ?_ ?_ _ 175 ((markOf gen r (placeOf k N)).map bv) Tryz.underlying24 Tryz.sizeU8 hx5 HD.out.1 hr5 HD.out.2 (bvs_one _) W6 hW6 ?_; rfl; rfl))
          all_goals
            have hx6 : W6.heap[wr.heap.size + 1]? = some (.cells (cellsOf (blockBytes gen r (placeOf k N) (partOf b k))) 175 (0, 0)) := by rw [← hW6, ← splice_map, ← block_made _ _ _ _ (partOf_le b k)]; exact setRow_heap _ _ _ _ _ _ hx5
            have hb55 : Below wr.heap.size W4.drew W5 := hb5.mono (by simp; omega)
            have hb6 : Below wr.heap.size wr W6 := by rw [← hW6]; exact below_setRow (hb4.drew.trans hb55) (by omega) _
            have hs6 : wr.heap.size + 1 < W6.heap.size := (Array.getElem?_eq_some_iff.1 hx6).1
            have q0 : W6.cell? ⟨j, 0, none⟩ = some (.pointer (some ⟨d, 0, none⟩)) := (hb6.cell (p := ⟨j, 0, none⟩) hjl).trans hj0
            have q1 : W6.cell? ⟨j, 1, none⟩ = some (.int .i64 fr) := (hb6.cell (p := ⟨j, 1, none⟩) hjl).trans hj1
            have hbl64 : (blockBytes gen r (placeOf k N) (partOf b k)).length = 64 := by unfold blockBytes; simp [markOf_length, beN_length, noughts_length]; have := partOf_le b k; omega
            have hld : ∀ W', W'.heap = W6.heap → (loadOp 175 (.pointer (some ⟨wr.heap.size + 1, 0, none⟩))).run Tryz.prog W' = .ok (.value (.agg (cellsOf (blockBytes gen r (placeOf k N) (partOf b k))))) W' := fun W' hW' => load175 ⟨by rw [cellsOf_size]; exact hbl64, by rw [cellsOf_list]; have h9 := rangeAt_of_list (w := W') (L := (blockBytes gen r (placeOf k N) (partOf b k)).map bv) (by rw [hW']; exact hx6) 0 64; rwa [List.drop_zero, List.take_of_length_le (by simp [hbl64])] at h9⟩
            have hd6 := hd'.frm (F := NoB) (Frm.of_below (hb6.mono (Nat.le_refl _))) id id
            have ho6 := owns_below ho' hb6
            have hwa : IntKind.i64.wrap ((fr : Int) + at') = (fr : Int) + at' := IntWalk.i64_in _ (by omega)
            have hwb : IntKind.i64.wrap ((fr : Int) + at' + k) = (fr : Int) + at' + k := IntWalk.i64_in _ (by omega)
            have hwr := write_any d L n (fr + at' + k) img (blockBytes gen r (placeOf k N) (partOf b k)) pv' base (l.length + k) _ W6.drew ⟨hd6.hd, hd6.row, hd6.len⟩ (by omega) hbl64 (by omega) (by have := hfr.size; have := hb6.size; simp; omega) ho6
            rw [Int.natCast_add, Int.natCast_add] at hwr
            have HW6 := Lib.hid hwr
            have hld1 := hld W6 rfl
            have hld2 := hld W6.drew rfl
            clear hx5 hW6 hld
            go_wp2_with (fail)
            go_region_law (first
              | (go_simp; (try rw [hwa]); (try rw [hwb]); go_at_call 107; refine Calls.mono hwr ?_; rintro e W7 ⟨rfl, pv7, hd7, ho7, hf7, hl7⟩))
            all_goals
              have hfF : Frm (fun b => b = d ∨ pv.ownBlock = some b) w W7 := (hfr.trans (Frm.of_below hb6)).drew.then hf7 (fun i hi g => by
                rcases g with g | g
                · exact .inl g
                · rcases hloc with e | e
                  · exact .inr (e ▸ g)
                  · exact absurd (e i g) (by omega))
              have hln : pv7.ownBlock = pv.ownBlock ∨ ∀ b, pv7.ownBlock = some b → w.heap.size ≤ b := by
                rcases hl7 with e | e
                · rw [e]; exact hloc
                · exact .inr fun b hb => by have := e b hb; have := hfr.size; have := hb6.size; simp at *; omega
              have ho77 : W7.ownsRow base 180 65 pv7 (l.length + (k + 1)) (flat (l ++ writesOf gen r (fr + at') b N (k + 1))) := by
                rw [writesOf_succ, ← List.append_assoc, flat_append]
                simpa [flat, Nat.add_assoc] using ho7
              go_wp2_with (fail)
              all_goals
                refine ⟨⟨k + 1, pv7, hlt, by simp, hd7, ho77, hfF, hln⟩, ?_⟩
                simp [intOf]
                omega
    · have hkN : k = N := by omega
      subst hkN
      go_wp2_with (fail)
      go_end0
      rw [← hN]
      exact ⟨rfl, pv', hd', ho', hfr, hloc⟩
end Go.Proofs.YtchiikfdmogfpaaGreatDoor
