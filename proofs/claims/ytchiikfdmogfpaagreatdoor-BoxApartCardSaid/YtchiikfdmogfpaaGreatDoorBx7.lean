/- box.Mark. -/
import Derived.Test.YtchiikfdmogfpaaGreatDoorBx6
namespace Go.Proofs.YtchiikfdmogfpaaGreatDoor
open Go.RowKit
attribute [local go_sem ↓] exec_storeMail
attribute [local go_sem ↓ high] exec_append24

set_option maxRecDepth 20000 in
set_option maxHeartbeats 1000000 in
theorem mark_flags {bx : Nat} (f : Bytes) (u fl : Int) (h : fl < 0 ∨ 15 < fl) (w : World) :
    Calls Tryz.prog 14 #[.pointer (some ⟨bx, 0, none⟩), .string ⟨f.toArray⟩, .int .i64 u, .int .i64 fl] w fun e w' => e = .returned (.int .i64 1) ∧ w = w' := by
  by_cases h0 : fl < 0
  · go_enter Tryz.func14, Tryz.ntmps14
    go_wp2_with (fail)
    go_ret
    exact ⟨rfl, rfl⟩
  · have h1 : 15 < fl := by omega
    have h2 : ¬ fl < 0 := h0
    clear h h0
    go_enter Tryz.func14, Tryz.ntmps14
    go_wp2_with (fail)
    go_ret
    exact ⟨rfl, rfl⟩

set_option maxRecDepth 20000 in
set_option maxHeartbeats 1000000 in
theorem mark_none {B bx : Nat} {S : Sv} {w : World} (h : Bx B bx S w) {V : BState} (hr : BRel S.C V) (f : Bytes) (hf : f.length ≤ 900000000000000) (u : Int) (h0 : -9223372036854775808 ≤ u) (h1 : u ≤ 9223372036854775807)
    (hno : ¬ (folderOk f = true ∧ 1 ≤ u ∧ V.mail f u.toNat ≠ none)) (fl : Int) (hfl : 0 ≤ fl) (hfl2 : fl ≤ 15) :
    Calls Tryz.prog 14 #[.pointer (some ⟨bx, 0, none⟩), .string ⟨f.toArray⟩, .int .i64 u, .int .i64 fl] w fun e w' => e = .returned (.int .i64 7) ∧ Below w.heap.size w w' := by
  have HF := Lib.hid (fetch_no h hr f hf u h0 h1 hno)
  have h2 : ¬ fl < 0 := by omega
  clear h hr hno h0 h1
  go_enter Tryz.func14, Tryz.ntmps14
  go_wp2_with (fail)
  refine HF.out.mono ?_
  rintro e w1 ⟨rfl, hb1⟩
  obtain ⟨w2, hst, hm2, hf2⟩ := store_mail (w := w1.alloc (.cells #[.int .i64 0, .int .i64 0, .slice none 0 0] 46)) (hal_at rfl) rfl (.int .i64 0) (.int .i64 0) (.slice none 0 0) rfl rfl rfl
  have HB : Hid (Below w.heap.size w w2) := Lib.hid ((hb1.alloc hb1.size _).trans ((hf2.weaken (G := fun b => w.heap.size ≤ b) (fun i _ e => by have := hb1.size; omega)).below' (by have := hb1.size; simp; omega)))
  clear hf2 hm2 hb1
  go_wp2_with (fail)
  go_ret
  exact ⟨rfl, HB.out⟩

set_option maxRecDepth 20000 in
set_option maxHeartbeats 1000000 in
theorem mark_any {B bx : Nat} {S : Sv} {w : World} (h : Bx B bx S w) {V : BState} (hr : BRel S.C V) (hmn : S.mn + 1 ≤ 10000) (f : Bytes) (u : Nat) (hu : u ≤ 9223372036854775807) (fl0 : Nat) (b : Bytes) (hm : V.mail f u = some (fl0, b)) (fl : Nat) (hfl : fl ≤ 15) :
    Calls Tryz.prog 14 #[.pointer (some ⟨bx, 0, none⟩), .string ⟨f.toArray⟩, .int .i64 u, .int .i64 fl] w fun e w' => ∃ c : Int, e = .returned (.int .i64 c) ∧ Fate S w (kvEnc (mkeyOf f u) (UInt8.ofNat fl :: b) false ++ []) (V.mark f u fl) 1 c w' := by
  have HF := Lib.hid (fetch_yes h hr f u hu fl0 b hm)
  obtain ⟨hfo, hu1, huN, _⟩ := hr.has f u _ hm
  have hflen := folder_length hfo
  have hpos := hr.pos f
  have hbl : b.length ≤ 99999 := by
    have := hr.mail f u hfo hu1
    rw [hm] at this
    have := (h.st.ok _ _ this).2.2
    simp at this
    omega
  have h2 : ¬ (fl : Int) < 0 := by omega
  have h3 : (fl : Int) ≤ 15 := by omega
  have HX := Lib.hid (And.intro h (And.intro hr (And.intro hm hfo)))
  clear h hr hm hfo
  go_enter Tryz.func14, Tryz.ntmps14
  go_wp2_with (fail)
  refine HF.out.mono ?_
  rintro e w1 ⟨A, c, rfl, hbc, hrd, hA, hb1⟩
  obtain ⟨w2, hst, hm2, hf2⟩ := store_mail (w := w1.alloc (.cells #[.int .i64 0, .int .i64 0, .slice none 0 0] 46)) (hal_at rfl) rfl (.int .i64 u) (.int .i64 fl0) (.slice A b.length c) rfl rfl rfl
  have hb12 : Below w1.heap.size w1 w2 := ((Below.refl _ _).alloc (Nat.le_refl _) _).trans ((hf2.weaken (G := fun b => w1.heap.size ≤ b) (fun i _ e => by omega)).below' (by simp))
  have hb0 : Below w.heap.size w w2 := hb1.trans (hb12.mono hb1.size)
  have hrd0 := hrd.below hb12
  have hBx := HX.out.1.below hb0
  have d0 := hBx.c0
  have m0 : w2.cell? ⟨w1.heap.size, 2, none⟩ = some (.slice A b.length c) := (cells3 hm2).2.2.2
  have hlt : bx < w2.heap.size := lt_of_cell d0
  have hltm : w1.heap.size < w2.heap.size := lt_of_cell m0
  have hst' := hst
  clear hf2 hm2 hrd hst
  go_wp2_with (fail)
  have hbvx : bv (UInt8.ofNat fl) = .int .u8 (fl : Int) := by rw [bv_ofNat]; congr 1; omega
  have HAPP : Hid (∀ W g, Below w2.heap.size w2 W → W.heap[g]? = some (.cells #[.int .u8 (fl : Int)] 5 (0, 0)) → w2.heap.size ≤ g → ∃ g1 c1 Wa, (appendOp 24 24 (.slice (some ⟨g, 0, none⟩) 1 1) (.slice A b.length c)).run Tryz.prog W = .ok (.value (.slice (some ⟨g1, 0, none⟩) (b.length + 1) c1)) Wa ∧
      (Wa.cell? ⟨bx, 0, none⟩ = some (.pointer (some ⟨S.s, 0, none⟩)) ∧ Wa.cell? ⟨w1.heap.size, 2, none⟩ = some (.slice A b.length c)) ∧ Hid (Calls Tryz.prog 27 #[.pointer (some ⟨S.s, 0, none⟩), .slice (some ⟨Wa.heap.size, 0, none⟩) 1 1]
        (Wa.alloc (.cells #[.string ⟨(mkeyOf f u).toArray⟩, .slice (some ⟨g1, 0, none⟩) (b.length + 1) c1, .bool false] 69))
        fun e w' => ∃ cc : Int, e = .returned (.int .i64 cc) ∧ Hid (Fate S w (kvEnc (mkeyOf f u) (UInt8.ofNat fl :: b) false ++ []) (V.mark f u fl) 1 cc w' ∧ w'.cell? ⟨w1.heap.size, 2, none⟩ = some (.slice A b.length c)))) := Lib.hid fun W g hb hg hgl => by
    obtain ⟨hBw, hrV, hm, hfo⟩ := HX.out
    obtain ⟨g1, c1, Wa, hap, ho, hf⟩ := append_ahead w2.heap.size g (UInt8.ofNat fl) (by rw [hbvx]; exact hg) hgl (hb.size) A b c (hrd0.below hb) (by omega)
    have hba : Below w2.heap.size w2 Wa := hb.trans ((hf.weaken (G := fun b => w2.heap.size ≤ b) (fun i _ e => by omega)).below' hb.size)
    refine ⟨g1, c1, Wa, hap, ⟨(hba.cell (p := ⟨bx, 0, none⟩) hlt).trans d0, (hba.cell (p := ⟨w1.heap.size, 2, none⟩) hltm).trans m0⟩, Lib.hid ?_⟩
    obtain ⟨Wc, hWc⟩ : ∃ Wc, Wa.alloc (.cells #[.string ⟨(mkeyOf f u).toArray⟩, .slice (some ⟨g1, 0, none⟩) (b.length + 1) c1, .bool false] 69) = Wc := ⟨_, rfl⟩
    have hbc : Below Wa.heap.size Wa Wc := by rw [← hWc]; exact (Below.refl _ _).alloc (Nat.le_refl _) _
    have hbw2 : Below w2.heap.size w2 Wc := hba.trans (hbc.mono hba.size)
    have hbw : Below w.heap.size w Wc := hb0.trans (hbw2.mono hb0.size)
    have hBc := HX.out.1.below hbw
    have ho1 := owns_below ho hbc
    have hfl := folder_length hfo
    have hp1 : (Pr.mk (mkeyOf f u) (some ⟨g1, 0, none⟩) c1 (UInt8.ofNat fl :: b) false).Ok Wc := Pr.ok_of ho1 (by rw [mkeyOf_length (by omega)]; omega) (by rw [mkeyOf_length (by omega)]; omega) (by simp; omega)
    have hblk : Wc.heap[Wa.heap.size]? = some (.cells ([Pr.mk (mkeyOf f u) (some ⟨g1, 0, none⟩) c1 (UInt8.ofNat fl :: b) false].flatMap Pr.cells).toArray 69 (0, 0)) := by rw [← hWc, hal_at rfl]; simp [Pr.cells]
    have hc := commit_any S [Pr.mk (mkeyOf f u) (some ⟨g1, 0, none⟩) c1 (UInt8.ofNat fl :: b) false] (some ⟨Wa.heap.size, 0, none⟩) 1 Wc hBc.st (Rd.of_block hblk 0 3)
      (fun p hp => by simp only [List.mem_cons, List.not_mem_nil, or_false] at hp; subst hp; exact hp1) hmn
      (fun p hp a e => by simp only [List.mem_cons, List.not_mem_nil, or_false] at hp; subst hp; simp only [Option.some.injEq] at e; subst e; exact (ho1.lt g1 rfl).2)
    rw [hWc]
    refine hc.mono ?_
    rintro e w' ⟨S', hst, hcase⟩
    have hst' := Sv.Step.below_then hBw.st hbw hst
    have hmc : w'.cell? ⟨w1.heap.size, 2, none⟩ = some (.slice A b.length c) := by
      have hn : ¬ S.Own w1.heap.size := fun e => by have := hBw.st.lt e; have := hb1.size; omega
      rw [hst.frm.cell (p := ⟨w1.heap.size, 2, none⟩) (by have := hbw2.size; show w1.heap.size < _; omega) hn]
      exact (hbw2.cell (p := ⟨w1.heap.size, 2, none⟩) hltm).trans m0
    rcases hcase with ⟨rfl, hC, hmn', hfit⟩ | ⟨rfl, hS, hno⟩
    · refine ⟨0, rfl, Lib.hid ⟨⟨S', hst', .inl ⟨rfl, rel_mark hrV f u fl fl0 b hm (by omega) (fun x => ?_), hmn', hfit⟩⟩, hmc⟩⟩
      rw [hC]; rfl
    · exact ⟨6, rfl, Lib.hid ⟨⟨S', hst', .inr ⟨rfl, hS, hno⟩⟩, hmc⟩⟩
  have hfl' := hflen.2
  have HK1 := Lib.hid (key_any f (by omega) u (by omega) (by omega) w2.drew (hBx.below ((Below.refl _ _).drew)).tab)
  have hba1 : Below w2.heap.size w2 (w2.alloc (.cells #[.int .u8 (fl : Int)] 5)).drew := ((Below.refl _ _).alloc (Nat.le_refl _) _).drew
  have HK2 := Lib.hid (key_any f (by omega) u (by omega) (by omega) (w2.alloc (.cells #[.int .u8 (fl : Int)] 5)).drew (hBx.below hba1).tab)
  have HA1 : Hid (∀ Wk, Below w2.drew.heap.size w2.drew Wk → _) := Lib.hid fun Wk hbk => HAPP.out (Wk.alloc (.cells #[.int .u8 (fl : Int)] 5)) Wk.heap.size ((below_drew0 hbk).trans ((Below.refl _ _).alloc hbk.size _)) (hal_at rfl) hbk.size
  have HA2 : Hid (∀ Wk, Below (w2.alloc (.cells #[.int .u8 (fl : Int)] 5)).drew.heap.size (w2.alloc (.cells #[.int .u8 (fl : Int)] 5)).drew Wk → _) := Lib.hid fun Wk hbk => HAPP.out Wk w2.heap.size (hba1.trans (hbk.mono (by simp))) ((hbk.block w2.heap.size (by simp)).trans (hal_at rfl)) (Nat.le_refl _)
  have d1 : (w2.alloc (.cells #[.int .u8 (fl : Int)] 5)).cell? ⟨bx, 0, none⟩ = some (.pointer (some ⟨S.s, 0, none⟩)) := (hba1.cell (p := ⟨bx, 0, none⟩) hlt).trans d0
  have m1 : (w2.alloc (.cells #[.int .u8 (fl : Int)] 5)).cell? ⟨w1.heap.size, 2, none⟩ = some (.slice A b.length c) := (hba1.cell (p := ⟨w1.heap.size, 2, none⟩) hltm).trans m0
  have hlt1 : bx < (w2.alloc (.cells #[.int .u8 (fl : Int)] 5)).drew.heap.size := lt_of_cell d1
  have hltm1 : w1.heap.size < (w2.alloc (.cells #[.int .u8 (fl : Int)] 5)).drew.heap.size := lt_of_cell m1
  have hwr : IntKind.u8.wrap (fl : Int) = (fl : Int) := by rw [IntKind.wrap_u8]; omega
  clear hst' hb12 hb0 hBx hrd0 hba1 HAPP hb1 hflen hA hbvx
  go_region_held3 (fun w' => w'.cell? ⟨bx, 0, none⟩ = some (.pointer (some ⟨S.s, 0, none⟩)) ∧ w'.cell? ⟨w1.heap.size, 2, none⟩ = some (.slice A b.length c))
    (first | exact ⟨d0, m0⟩ | exact ⟨d1, m1⟩ | exact k0 | exact ⟨Lib.cell?_alloc_some _ k0.1, Lib.cell?_alloc_some _ k0.2⟩ | exact ka | exact ⟨Lib.cell?_alloc_some _ ka.1, Lib.cell?_alloc_some _ ka.2⟩ | exact k9)
    (first | (go_at_call 28; refine Calls.mono (by with_reducible exact HK1.out) ?_; rintro e Wk ⟨rfl, hbk⟩; have k0 := And.intro ((hbk.cell (p := ⟨bx, 0, none⟩) hlt).trans d0) ((hbk.cell (p := ⟨w1.heap.size, 2, none⟩) hltm).trans m0); obtain ⟨g1, c1, Wa, hap, ka, HQ⟩ := HA1.out Wk hbk) | (go_at_call 28; refine Calls.mono (by with_reducible exact HK2.out) ?_; rintro e Wk ⟨rfl, hbk⟩; have k0 := And.intro ((hbk.cell (p := ⟨bx, 0, none⟩) hlt1).trans d1) ((hbk.cell (p := ⟨w1.heap.size, 2, none⟩) hltm1).trans m1); obtain ⟨g1, c1, Wa, hap, ka, HQ⟩ := HA2.out Wk hbk) | (go_at_call 27; refine Calls.mono (by with_reducible exact HQ.out) ?_; rintro e w9 ⟨cd, rfl, hfin⟩; have k9 := And.intro (hfin.out.1.cell HX.out.1) hfin.out.2))
  all_goals
    clear hap k0 ka k9 HA1 HA2 HK1 HK2 d0 d1 m0 m1 HQ
    go_wp2_with (fail)
    go_ret
    exact ⟨_, rfl, hfin.out.1⟩
end Go.Proofs.YtchiikfdmogfpaaGreatDoor
