/- box.Deliver. -/
import Derived.Test.YtchiikfdmogfpaaGreatDoorBx5
import Derived.Test.YtchiikfdmogfpaaGreatDoorPl4
import Derived.Deep.RegionHeld3
namespace Go.Proofs.YtchiikfdmogfpaaGreatDoor
open Go.RowKit

theorem mail_bad {C : Bytes → Option Bytes} {V : BState} (h : BRel C V) {f : Bytes} (hf : folderOk f = false) (u : Nat) : V.mail f u = none := by
  cases hm : V.mail f u with
  | none => rfl
  | some p => have := (h.has f u p hm).1; rw [hf] at this; cases this

set_option maxRecDepth 20000 in
set_option maxHeartbeats 1000000 in
theorem deliver_bad {B bx : Nat} {S : Sv} {w : World} (h : Bx B bx S w) {V : BState} (hr : BRel S.C V) (f : Bytes) (hf : f.length ≤ 900000000000000) (hfo : folderOk f = false) (A : Option Addr) (n c : Nat) :
    Calls Tryz.prog 12 #[.pointer (some ⟨bx, 0, none⟩), .string ⟨f.toArray⟩, .slice A n c] w fun e w' => e = .returned (.tuple #[.int .i64 0, .int .i64 1]) ∧ Below w.heap.size w w' := by
  have HN := Lib.hid (next_any h hr f hf)
  have HF := Lib.hid (fun w => folder_any f (by omega) w)
  rw [hfo] at HF
  clear h hr hfo
  go_enter Tryz.func12, Tryz.ntmps12
  go_wp2_with (fail)
  refine HN.out.mono ?_
  rintro e w1 ⟨rfl, hb1⟩
  go_wp2_with (fail)
  refine (HF.out _).mono ?_
  rintro e w2 ⟨rfl, hb2⟩
  go_wp2_with (fail)
  go_ret2
  exact ⟨rfl, hb1.trans (hb2.mono hb1.size)⟩

attribute [local go_sem ↓ high] exec_append24

theorem own_one {w : World} {base g e : Nat} {v : Value} (h : w.heap[g]? = some (.cells #[v] e (0, 0))) (hb : base ≤ g) : w.ownsRow base e 1 (.slice (some ⟨g, 0, none⟩) 1 1) 1 [v] :=
  ⟨rfl, .inr ⟨g, 1, #[v], rfl, hb, h, Nat.le_refl _, by unfold maxLen; omega, rfl, rfl⟩⟩
/-- One byte ahead of bytes that can be read. -/
theorem append_ahead {w : World} (base g : Nat) (x : UInt8) (h : w.heap[g]? = some (.cells #[bv x] 5 (0, 0))) (hb : base ≤ g) (hw : base ≤ w.heap.size) (A : Option Addr) (l : Bytes) (c : Nat) (hrd : Rd w A (l.map bv)) (hl : l.length ≤ 1000000) :
    ∃ g1 c1 w', (appendOp 24 24 (.slice (some ⟨g, 0, none⟩) 1 1) (.slice A l.length c)).run Tryz.prog w = .ok (.value (.slice (some ⟨g1, 0, none⟩) (l.length + 1) c1)) w' ∧ w'.ownsRow base 5 1 (.slice (some ⟨g1, 0, none⟩) (l.length + 1) c1) (l.length + 1) ((x :: l).map bv) ∧ Frm (fun b => b = g) w w' := by
  obtain ⟨v', w', hap, ho, hf⟩ := append_rd (w := w) base _ 1 [bv x] (own_one h hb) A l c hrd hw (by omega)
  rw [Nat.add_comm] at ho
  obtain ⟨g1, c1, rfl⟩ := ownsRow_succ ho
  exact ⟨g1, c1, w', hap, ho, hf.weaken fun i _ e => by simp [Value.ownBlock] at e; exact e.symm⟩
theorem Pr.ok_of {w : World} {base g c : Nat} {k l : Bytes} (h : w.ownsRow base 5 1 (.slice (some ⟨g, 0, none⟩) l.length c) l.length (l.map bv)) (h1 : 1 ≤ k.length) (h2 : k.length ≤ 1000) (hl : l.length ≤ 100000) : (Pr.mk k (some ⟨g, 0, none⟩) c l false).Ok w := by
  obtain ⟨A, c', e, hc, _, hr⟩ := owns_slice h
  simp only [Value.slice.injEq, true_and] at e
  obtain ⟨rfl, rfl⟩ := e
  exact ⟨h1, h2, hl, hc, fun e => (by cases e), hr⟩
def encDeliver (f : Bytes) (N : Nat) (m : Bytes) : Bytes := kvEnc (mkeyOf f (N : Int)) (0 :: m) false ++ (kvEnc (nkeyOf f) (beN (N + 1) 8) false ++ [])
def Fate (S : Sv) (w : World) (E : Bytes) (V' : BState) (k : Nat) (c : Int) (w' : World) : Prop :=
  ∃ S', S.Step S' w w' ∧ ((c = 0 ∧ BRel S'.C V' ∧ S'.mn = S.mn + k ∧ (S.at_ + blocksOf E.length ≤ S.sz → S.Fit S' w' E)) ∨ (c = 6 ∧ S' = S ∧ ¬ S.at_ + blocksOf E.length ≤ S.sz))
theorem Fate.cell {B bx : Nat} {S : Sv} {w w' : World} {E : Bytes} {V' : BState} {k : Nat} {c : Int} (h : Fate S w E V' k c w') (hb : Bx B bx S w) : w'.cell? ⟨bx, 0, none⟩ = some (.pointer (some ⟨S.s, 0, none⟩)) := by
  obtain ⟨S', hs, _⟩ := h
  rw [← hs.s]; exact (hb.step hs).c0
/-- What becomes of a box where a record E is to be written and the state V' to come. -/
def Done (S : Sv) (w : World) (E : Bytes) (V' : BState) (k : Nat) (ok no : Ending) (e : Ending) (w' : World) : Prop :=
  ∃ S', S.Step S' w w' ∧ ((e = ok ∧ BRel S'.C V' ∧ S'.mn = S.mn + k ∧ (S.at_ + blocksOf E.length ≤ S.sz → S.Fit S' w' E)) ∨ (e = no ∧ S' = S ∧ ¬ S.at_ + blocksOf E.length ≤ S.sz))

set_option maxRecDepth 20000 in
set_option maxHeartbeats 1000000 in
theorem deliver_any {B bx : Nat} {S : Sv} {w : World} (h : Bx B bx S w) {V : BState} (hr : BRel S.C V) (hmn : S.mn + 2 ≤ 10000) (f : Bytes) (hfo : folderOk f = true) (hnx : V.next f < 4000000000) (A : Option Addr) (m : Bytes) (c : Nat) (hm : m.length ≤ 90000) (_hmc : m.length ≤ c) (hrd : Rd w A (m.map bv)) :
    Calls Tryz.prog 12 #[.pointer (some ⟨bx, 0, none⟩), .string ⟨f.toArray⟩, .slice A m.length c] w fun e w' => Done S w (encDeliver f (V.next f) m) (V.deliver f m) 2 (.returned (.tuple #[.int .i64 (V.next f), .int .i64 0])) (.returned (.tuple #[.int .i64 0, .int .i64 6])) e w' := by
  have hflen := folder_length hfo
  have HN := Lib.hid (next_any h hr f (by omega))
  have HF := Lib.hid (fun w => folder_any f (by omega) w)
  rw [hfo] at HF
  obtain ⟨i0, hi, hz0, hz1, hz2⟩ := info_parts Tryz.infoU8
  obtain ⟨N, hN⟩ : ∃ N, V.next f = N := ⟨_, rfl⟩
  have hNp := hr.pos f
  rw [hN] at HN hNp hnx ⊢
  obtain ⟨hN1, hN2⟩ := hNp
  have HX := Lib.hid (And.intro h (And.intro hr (And.intro hN (And.intro hfo hnx))))
  clear h hr hfo hN hnx
  go_enter Tryz.func12, Tryz.ntmps12
  go_wp2_with (fail)
  refine HN.out.mono ?_
  rintro e w1 ⟨rfl, hb1⟩
  go_wp2_with (fail)
  refine (HF.out _).mono ?_
  rintro e w2 ⟨rfl, hb2⟩
  go_wp2_with (fail)
  go_loopw [9, 10] (fun o i wr => ∃ k : Nat, k ≤ 8 ∧ i = .int .i64 ((7 : Int) - k) ∧ Row w2 wr (.slice none 0 0) o w2.heap.size 5 1 k (((beN (N + 1) 8).take k).map bv)) (fun _ i _ => (intOf i + 1).toNat)
  case atStart => exact ⟨0, Nat.zero_le _, by simp, Row.start (World.ownsRow_nil _ _ _ _)⟩
  case round =>
    obtain ⟨k, hk, rfl, hrow⟩ := hrel
    by_cases hlt : k < 8
    · go_wp2_with (at_builtin; refine wpList_append_own_at _ rfl _ _ 24 rfl w2.heap.size 5 i0 (.int .u8 0) 1 1 Tryz.under5 hi hz0 hz1 hz2 rfl (by decide) _ _ _ rfl (hrow.own.alloc _) ⟨wr.heap.size, 0, none⟩ 1 1 _ rfl rfl (cell_one_new _ _ _) ?c2 ?c3 ?c4 ?c5 ?_)
      case c2 => intro u hu; simp at hu; subst hu; rfl
      case c3 => unfold maxLen; omega
      case c4 => omega
      case c5 => have := hrow.grow.size; simp; omega
      · intro v' w1 hown' hgrow _ hloc
        go_wp2
        go_roundw
        case rel =>
          refine ⟨k + 1, by omega, by go_num, ?_⟩
          have hr := Row.app _ hrow hown' hgrow (by simpa using hloc)
          rw [beN_step (N + 1) 8 k hlt]
          exact hr
        case measure => simp [intOf]; omega
    · obtain rfl : k = 8 := by omega
      go_wp2_with (fail)
      have hb2w : Below w2.heap.size w2 wr := hrow.below (World.ownsRow_nil _ _ _ _) (Nat.le_refl _)
      have hb02 : Below w.heap.size w w2 := hb1.trans (hb2.mono hb1.size)
      have hb0 : Below w.heap.size w wr := hb02.trans (hb2w.mono hb02.size)
      have hown9 := hrow.own
      rw [List.take_of_length_le (by rw [beN_length]; exact Nat.le_refl _)] at hown9
      obtain ⟨g9, c9, rfl⟩ := ownsRow_succ (k := 7) hown9
      have hBx := HX.out.1.below hb0
      have d0 := hBx.c0
      have hlt : bx < wr.heap.size := lt_of_cell d0
      have hrd0 := hrd.below hb0
      have HAPP : Hid (∀ W g, Below wr.heap.size wr W → W.heap[g]? = some (.cells #[.int .u8 0] 5 (0, 0)) → wr.heap.size ≤ g → ∃ g1 c1 Wa, (appendOp 24 24 (.slice (some ⟨g, 0, none⟩) 1 1) (.slice A m.length c)).run Tryz.prog W = .ok (.value (.slice (some ⟨g1, 0, none⟩) (m.length + 1) c1)) Wa ∧
          Wa.cell? ⟨bx, 0, none⟩ = some (.pointer (some ⟨S.s, 0, none⟩)) ∧ Hid (Calls Tryz.prog 27 #[.pointer (some ⟨S.s, 0, none⟩), .slice (some ⟨Wa.heap.size, 0, none⟩) 2 2]
            (Wa.alloc (.cells #[.string ⟨(mkeyOf f N).toArray⟩, .slice (some ⟨g1, 0, none⟩) (m.length + 1) c1, .bool false, .string ⟨(nkeyOf f).toArray⟩, .slice (some ⟨g9, 0, none⟩) 8 c9, .bool false] 69))
            fun e w' => ∃ c : Int, e = .returned (.int .i64 c) ∧ Hid (Fate S w (encDeliver f N m) (V.deliver f m) 2 c w'))) := Lib.hid fun W g hb hg hgl => by
        obtain ⟨hBw, hrV, hVN, hfo, hnx⟩ := HX.out
        obtain ⟨g1, c1, Wa, hap, ho, hf⟩ := append_ahead wr.heap.size g 0 hg hgl (hb.size) A m c (hrd0.below hb) (by omega)
        have hba : Below wr.heap.size wr Wa := hb.trans ((hf.weaken (G := fun b => wr.heap.size ≤ b) (fun i _ e => by omega)).below' hb.size)
        refine ⟨g1, c1, Wa, hap, (hba.cell (p := ⟨bx, 0, none⟩) hlt).trans d0, Lib.hid ?_⟩
        obtain ⟨Wc, hWc⟩ : ∃ Wc, Wa.alloc (.cells #[.string ⟨(mkeyOf f N).toArray⟩, .slice (some ⟨g1, 0, none⟩) (m.length + 1) c1, .bool false, .string ⟨(nkeyOf f).toArray⟩, .slice (some ⟨g9, 0, none⟩) 8 c9, .bool false] 69) = Wc := ⟨_, rfl⟩
        have hbc : Below Wa.heap.size Wa Wc := by rw [← hWc]; exact (Below.refl _ _).alloc (Nat.le_refl _) _
        have hbw : Below w.heap.size w Wc := (hb0.trans (hba.mono hb0.size)).trans (hbc.mono (by have := hb0.size; have := hba.size; omega))
        have hBc := HX.out.1.below hbw
        have ho1 := owns_below ho hbc
        have ho9 := owns_below hown9 (hba.trans (hbc.mono hba.size))
        have hfl := folder_length hfo
        have hp1 : (Pr.mk (mkeyOf f N) (some ⟨g1, 0, none⟩) c1 (0 :: m) false).Ok Wc := Pr.ok_of ho1 (by rw [mkeyOf_length (by omega)]; omega) (by rw [mkeyOf_length (by omega)]; omega) (by simp; omega)
        have hp2 : (Pr.mk (nkeyOf f) (some ⟨g9, 0, none⟩) c9 (beN (N + 1) 8) false).Ok Wc := Pr.ok_of (by rw [beN_length]; exact ho9) (by simp [nkeyOf]) (by simp [nkeyOf]; omega) (by rw [beN_length]; omega)
        have hblk : Wc.heap[Wa.heap.size]? = some (.cells ([Pr.mk (mkeyOf f N) (some ⟨g1, 0, none⟩) c1 (0 :: m) false, Pr.mk (nkeyOf f) (some ⟨g9, 0, none⟩) c9 (beN (N + 1) 8) false].flatMap Pr.cells).toArray 69 (0, 0)) := by rw [← hWc, hal_at rfl]; simp [Pr.cells, beN_length]
        have hc := commit_any S [Pr.mk (mkeyOf f N) (some ⟨g1, 0, none⟩) c1 (0 :: m) false, Pr.mk (nkeyOf f) (some ⟨g9, 0, none⟩) c9 (beN (N + 1) 8) false] (some ⟨Wa.heap.size, 0, none⟩) 2 Wc hBc.st (Rd.of_block hblk 0 6)
          (fun p hp => by simp only [List.mem_cons, List.not_mem_nil, or_false] at hp; rcases hp with rfl | rfl; exact hp1; exact hp2) hmn
          (fun p hp a e => by simp only [List.mem_cons, List.not_mem_nil, or_false] at hp; rcases hp with rfl | rfl <;> (simp only [Option.some.injEq] at e; subst e); exact (ho1.lt g1 rfl).2; exact (ho9.lt g9 rfl).2)
        rw [hWc]
        refine hc.mono ?_
        rintro e w' ⟨S', hst, hcase⟩
        have hst' := Sv.Step.below_then hBw.st hbw hst
        rcases hcase with ⟨rfl, hC, hmn', hfit⟩ | ⟨rfl, hS, hno⟩
        · refine ⟨0, rfl, Lib.hid ⟨S', hst', .inl ⟨rfl, rel_deliver hrV f m hfo (by omega) (fun x => ?_), hmn', hfit⟩⟩⟩
          rw [hC, hVN]; rfl
        · exact ⟨6, rfl, Lib.hid ⟨S', hst', .inr ⟨rfl, hS, hno⟩⟩⟩
      have hfl := hflen.2
      have HK1 := Lib.hid (key_any f (by omega) N (by omega) (by omega) wr.drew (hBx.below ((Below.refl _ _).drew)).tab)
      have hba1 : Below wr.heap.size wr (wr.alloc (.cells #[.int .u8 0] 5)).drew := ((Below.refl _ _).alloc (Nat.le_refl _) _).drew
      have HK2 := Lib.hid (key_any f (by omega) N (by omega) (by omega) (wr.alloc (.cells #[.int .u8 0] 5)).drew (hBx.below hba1).tab)
      have HA1 : Hid (∀ Wk, Below wr.drew.heap.size wr.drew Wk → _) := Lib.hid fun Wk hbk => HAPP.out (Wk.alloc (.cells #[.int .u8 0] 5)) Wk.heap.size ((below_drew0 hbk).trans ((Below.refl _ _).alloc hbk.size _)) (hal_at rfl) hbk.size
      have HA2 : Hid (∀ Wk, Below (wr.alloc (.cells #[.int .u8 0] 5)).drew.heap.size (wr.alloc (.cells #[.int .u8 0] 5)).drew Wk → _) := Lib.hid fun Wk hbk => HAPP.out Wk wr.heap.size (hba1.trans (hbk.mono (by simp))) ((hbk.block wr.heap.size (by simp)).trans (hal_at rfl)) (Nat.le_refl _)
      have hcat : ¬ 9223372036854775807 < 2 + f.length := by omega
      have hnk : (nkeyOf f).length ≤ 100 := by simp [nkeyOf]; omega
      have hstr : (⟨#[110, 58]⟩ : ByteArray) ++ ⟨f.toArray⟩ = ⟨(nkeyOf f).toArray⟩ := str_cat [110, 58] f
      have d1 : (wr.alloc (.cells #[.int .u8 0] 5)).cell? ⟨bx, 0, none⟩ = some (.pointer (some ⟨S.s, 0, none⟩)) := (hba1.cell (p := ⟨bx, 0, none⟩) hlt).trans d0
      have hlt1 : bx < (wr.alloc (.cells #[.int .u8 0] 5)).drew.heap.size := lt_of_cell d1
      clear hrow hb2w hb02 hb0 hown9 hBx hrd0 hba1 HAPP hb1 hb2 hrd hi hz0 hz1 hz2 hflen
      go_region_held3 (fun w' => w'.cell? ⟨bx, 0, none⟩ = some (.pointer (some ⟨S.s, 0, none⟩)))
        (first | exact d0 | exact d1 | exact k0 | exact Lib.cell?_alloc_some _ k0 | exact ka | exact Lib.cell?_alloc_some _ ka | exact k9)
        (first | (go_at_call 28; refine Calls.mono (by with_reducible exact HK1.out) ?_; rintro e Wk ⟨rfl, hbk⟩; have k0 := (hbk.cell (p := ⟨bx, 0, none⟩) hlt).trans d0; obtain ⟨g1, c1, Wa, hap, ka, HQ⟩ := HA1.out Wk hbk) | (go_at_call 28; refine Calls.mono (by with_reducible exact HK2.out) ?_; rintro e Wk ⟨rfl, hbk⟩; have k0 := (hbk.cell (p := ⟨bx, 0, none⟩) hlt1).trans d1; obtain ⟨g1, c1, Wa, hap, ka, HQ⟩ := HA2.out Wk hbk) | (go_at_call 27; refine Calls.mono (by with_reducible exact HQ.out) ?_; rintro e w9 ⟨cd, rfl, hfin⟩; have k9 := hfin.out.cell HX.out.1))
      all_goals
        clear hap k0 ka k9 HA1 HA2 HK1 HK2 d0 d1 hstr hcat HQ
        obtain ⟨S', hst, ⟨rfl, hrest⟩ | ⟨rfl, hrest⟩⟩ := hfin.out
        · have HH := Lib.hid (And.intro hst hrest)
          clear hst hrest hfin
          go_wp2_with (fail)
          go_ret2
          exact ⟨S', HH.out.1, .inl ⟨rfl, HH.out.2⟩⟩
        · have HH := Lib.hid (And.intro hst hrest)
          clear hst hrest hfin
          go_wp2_with (fail)
          go_ret2
          exact ⟨S', HH.out.1, .inr ⟨rfl, HH.out.2⟩⟩
end Go.Proofs.YtchiikfdmogfpaaGreatDoor
