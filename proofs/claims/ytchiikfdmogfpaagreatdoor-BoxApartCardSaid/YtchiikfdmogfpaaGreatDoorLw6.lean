/- BoxApart: the walk. -/
import Derived.Test.YtchiikfdmogfpaaGreatDoorLw5
namespace Go.Proofs.YtchiikfdmogfpaaGreatDoor
open Go.RowKit
attribute [local go_sem ↓] exec_loadCall exec_storeCall exec_storeMail exec_loadMail
attribute [local go_sem ↓ high] exec_append34

/-- The mails that were fetched are in the box V; their bytes can be read. -/
def MsOk (V : BState) (f : Bytes) (w : World) (ms : List Ml) : Prop := ∀ m ∈ ms, V.mail f m.u = some (m.fl, m.b) ∧ m.b.length ≤ m.c ∧ Bs w m.A m.b
theorem MsOk.frm {V : BState} {f : Bytes} {w w' : World} {ms : List Ml} {F : Nat → Prop} (h : MsOk V f w ms) (hf : Frm F w w') (hn : NoBytes w F) : MsOk V f w' ms := fun m hm => ⟨(h m hm).1, (h m hm).2.1, (h m hm).2.2.frm hf hn⟩
theorem MsOk.below {V : BState} {f : Bytes} {w w' : World} {ms : List Ml} (h : MsOk V f w ms) (hb : Below w.heap.size w w') : MsOk V f w' ms := h.frm (F := NoB) (Frm.of_below hb) (fun _ e => e.elim)

set_option maxRecDepth 100000 in
set_option maxHeartbeats 4000000 in
theorem boxApart_any (cs : List Ca) (Ac : Option Addr) (cap : Nat) (f : Bytes) (hf : f.length ≤ 900000000000000) (w : World) (hg : 5 ≤ w.heap.size) (ht : TabG w) (hrd : Rd w Ac (cs.flatMap Ca.cells)) (hok : ∀ c ∈ cs, c.Ok w) :
    Calls Tryz.prog 5 #[.slice Ac cs.length cap, .string ⟨f.toArray⟩] w fun e w' => e = .returned (.bool true) ∧ Below w.heap.size w w' := by
  have HS := Lib.hid (speaks_any w hg ht)
  obtain ⟨ln, hln⟩ : ∃ ln, cs.length = ln := ⟨_, rfl⟩
  have HLN := Lib.hid hln
  rw [hln]
  clear hln
  by_cases h1 : 60 < ln
  · have e3 : ((60 : Int) < (ln : Int)) = True := by simp; omega
    go_enter Tryz.func5, Tryz.ntmps5
    go_wp2_with (fail)
    refine HS.out.mono ?_
    rintro e w1 ⟨rfl, hb1⟩
    go_wp2_with (fail)
    go_ret
    exact ⟨rfl, hb1⟩
  · have hlen : ln ≤ 60 := by omega
    have e3 : ((60 : Int) < (ln : Int)) = False := by simp; omega
    clear h1
    go_enter Tryz.func5, Tryz.ntmps5
    go_wp2_with (fail)
    refine HS.out.mono ?_
    rintro e w1 ⟨rfl, hb1⟩
    have HLD := Lib.hid (laid_any 4000 w1 (by omega) (by omega) (by have := hb1.size; omega) (ht.below hb1 hg))
    rw [show ((4000 : Nat) : Int) = 4000 from rfl] at HLD
    go_wp2_with (fail)
    refine HLD.out.mono ?_
    rintro e w2 ⟨bx, S0, rfl, hB0, hF0, hb2⟩
    have hR0 : BRel S0.C V0 := by rw [hF0.C]; exact BRel.init
    have hmn0 := hF0.mn
    have hb02 : Below w.heap.size w w2 := hb1.trans (hb2.mono hb1.size)
    have H0 := Lib.hid (And.intro hB0 (And.intro hR0 (And.intro hmn0 hb02)))
    have hs1 := hb1.size
    clear hF0 hR0 hmn0 hB0 hb02 hb2
    go_wp2_with (fail)
    go_loopw [33] (fun i wr => ∃ (k : Nat) (S : Sv) (V : BState), k ≤ ln ∧ i = .int .i64 k ∧ Bx w1.heap.size bx S wr ∧ BRel S.C V ∧ (∀ g, V.next g ≤ k + 1) ∧ S.mn ≤ 61 * k ∧ Below w.heap.size w wr) (fun i _ => ln - (intOf i).toNat)
    case atStart => exact ⟨0, S0, V0, Nat.zero_le _, rfl, H0.out.1, H0.out.2.1, fun _ => Nat.le_refl _, by rw [H0.out.2.2.1]; omega, H0.out.2.2.2⟩
    case round =>
      obtain ⟨k, S, V, hk, rfl, hB, hR, hnx, hmn, hbr⟩ := hrel
      by_cases hlt : k < ln
      · obtain ⟨wo, rfl⟩ : ∃ wo : World, wo = wr := ⟨_, rfl⟩
        have hkc : k < cs.length := by have := HLN.out; omega
        obtain ⟨b, o, rfl, hbl, hld⟩ := load_call hrd hkc
        obtain ⟨ca, hca⟩ : ∃ ca, cs[k] = ca := ⟨_, rfl⟩
        rw [hca] at hld
        have hcok := hok ca (hca ▸ List.getElem_mem hkc)
        have hldr := hld wo hbr
        obtain ⟨W3, hst3, hm3, hf3⟩ := store_call (w := wo.alloc (.cells #[.int .i64 0, .int .i64 0, .int .i64 0, .string ⟨#[]⟩, .slice none 0 0] 26)) (hal_at rfl) rfl ca
        have hb3 : Below wo.heap.size wo W3 := ((Below.refl _ _).alloc (Nat.le_refl _) _).trans ((hf3.weaken (G := fun b => wo.heap.size ≤ b) (fun i _ e => by omega)).below' (by simp))
        have HCO := Lib.hid hcok
        have HRR := Lib.hid hR
        have HNX := Lib.hid (And.intro hnx hmn)
        have HBR := Lib.hid hbr
        obtain ⟨what, uid, flags, cf, Am, mail, mc⟩ := ca
        simp only [Ca.cells] at hldr hst3 hm3
        obtain ⟨c0, c1, c2, c3, c4⟩ := cells5 hm3
        have hB3 := hB.below hb3
        have HM3 := Lib.hid hm3
        have HB3 := Lib.hid hB3
        have HBB := Lib.hid hb3
        have HFIN := Lib.hid (hbr.trans (hb3.mono hbr.size))
        clear hld hcok hca hR hnx hmn hbr hf3 hB hm3
        by_cases hml : 100 < mail.length
        · have e5 : ((100 : Int) < (mail.length : Int)) = True := by simp; omega
          clear hml hB3 hb3
          go_wp2_with (fail)
          go_ret
          exact ⟨rfl, HFIN.out⟩
        · have e5 : ((100 : Int) < (mail.length : Int)) = False := by simp; omega
          by_cases hcl : 100 < cf.length
          · have e6 : ((100 : Int) < (cf.length : Int)) = True := by simp; omega
            clear hml hcl hB3 hb3
            go_wp2_with (fail)
            go_ret
            exact ⟨rfl, HFIN.out⟩
          · have e6 : ((100 : Int) < (cf.length : Int)) = False := by simp; omega
            have HMC : Hid (mail.length ≤ 100 ∧ cf.length ≤ 100) := Lib.hid ⟨by omega, by omega⟩
            have HL := Lib.hid (list_any hB3 HRR.out (by have := HNX.out.2; omega) f hf)
            clear hml hcl hB3 hb3
            go_wp2_with (fail)
            refine HL.out.mono ?_
            rintro e W4 ⟨v4, rfl, ho4, hb4⟩
            have HN := Lib.hid (next_any (HB3.out.below hb4) HRR.out f hf)
            have HO4 := Lib.hid ho4
            have HB4 := Lib.hid hb4
            obtain ⟨A4, c4', rfl, hc4, _, hr4⟩ := owns_slice ho4
            clear ho4 hb4 c0 c1 c2 c3 c4 hr4 hc4
            go_wp2_with (fail)
            refine HN.out.mono ?_
            rintro e W5 ⟨rfl, hb5⟩
            have HB5 := Lib.hid hb5
            clear hb5
            go_wp2_with (fail)
            obtain ⟨ls, hls⟩ : ∃ ls, V.list f = ls := ⟨_, rfl⟩
            have HLS := Lib.hid hls
            have HO5 := Lib.hid (owns_below HO4.out HB5.out)
            rw [hls] at HO5
            have hl61 : ls.length ≤ 61 := by rw [← hls]; have := list_le HRR.out f; have := HNX.out.1 f; omega
            have hb45 : Below W3.heap.size W3 W5 := HB4.out.trans (HB5.out.mono HB4.out.size)
            have hb35 : Below wo.heap.size wo W5 := HBB.out.trans (hb45.mono HBB.out.size)
            have HB05 := Lib.hid (HBR.out.trans (hb35.mono HBR.out.size))
            have HB5x := Lib.hid (HB3.out.below hb45)
            have HM5 := Lib.hid ((hb45.block _ (Array.getElem?_eq_some_iff.1 HM3.out).1).trans HM3.out)
            have hs5 := hb35.size
            have hs35 := hb45.size
            have HV5 := Lib.hid hs35
            rw [hls]
            clear hls hb45 hb35
            go_wp2_with (fail)
            go_loopw [11, 56] (fun mv i wr => ∃ (q : Nat) (ms : List Ml), q ≤ ls.length ∧ i = .int .i64 q ∧ ms.map Ml.u = ls.take q ∧ wr.ownsRow W5.heap.size 46 3 mv q (ms.flatMap Ml.cells) ∧ MsOk V f wr ms ∧ Below W5.heap.size W5 wr) (fun _ i _ => ls.length - (intOf i).toNat)
            case atStart => exact ⟨0, [], Nat.zero_le _, rfl, rfl, ⟨rfl, .inr ⟨W5.heap.size, 0, #[], rfl, Nat.le_refl _, hal_at rfl, Nat.le_refl _, Nat.zero_le _, rfl, rfl⟩⟩, fun _ h => by simp at h, (Below.refl _ _).alloc (Nat.le_refl _) _⟩
            case round =>
              obtain ⟨q, ms, hq, rfl, hmu, hmv, hms, hbr5⟩ := hrel
              have hmsl : ms.length = q := by have := congrArg List.length hmu; simp at this; omega
              have hB5r := HB5x.out.below hbr5
              have hb0r := HB05.out.trans (hbr5.mono (by have := HB05.out.size; omega))
              by_cases hqlt : q < ls.length
              · obtain ⟨u, hu⟩ : ∃ u, ls[q] = u := ⟨_, rfl⟩
                have hin : u ∈ V.list f := by rw [HLS.out, ← hu]; exact List.getElem_mem hqlt
                obtain ⟨⟨fl, bm⟩, hmm⟩ := Option.isSome_iff_exists.1 ((mem_list HRR.out f u).1 hin)
                have hul := list_lt HRR.out f u hin
                have hoi := owns_below HO5.out hbr5
                obtain ⟨A', cc', he', _, _, hri⟩ := owns_slice hoi
                simp only [Value.slice.injEq, true_and] at he'
                obtain ⟨rfl, rfl⟩ := he'
                obtain ⟨g, o4, rfl, hgl, hc⟩ := hri (by intro e; have := congrArg List.length e; simp at this; rw [this] at hqlt; simp at hqlt)
                have hcell : wr.cell? ⟨g, o4 + q, none⟩ = some (.int .i64 (u : Int)) := hc q _ (by simp [hqlt, hu, iv])
                have HF := Lib.hid (fetch_yes hB5r HRR.out f u (by omega) fl bm hmm)
                have HI := Lib.hid (And.intro hmu (And.intro hmv (And.intro hms (And.intro hbr5 (And.intro hu (And.intro hmm hmsl))))))
                clear hmu hmv hms hbr5 hB5r hb0r hin hmm hoi hri hc hu
                go_wp2_with (fail)
                refine HF.out.mono ?_
                rintro e W7 ⟨A7, c7, rfl, hc7, hr7, hA7, hb7⟩
                obtain ⟨W8, hst8, hm8, hf8⟩ := store_mail (w := W7.alloc (.cells #[.int .i64 0, .int .i64 0, .slice none 0 0] 46)) (hal_at rfl) rfl (.int .i64 u) (.int .i64 fl) (.slice A7 bm.length c7) rfl rfl rfl
                have hb78 : Below W7.heap.size W7 W8 := ((Below.refl _ _).alloc (Nat.le_refl _) _).trans ((hf8.weaken (G := fun b => W7.heap.size ≤ b) (fun i _ e => by omega)).below' (by simp))
                have hld8 := load_mailOp hm8
                have hb8 : Below wr.heap.size wr W8 := hb7.trans (hb78.mono hb7.size)
                have hmv8 := owns_below HI.out.2.1 hb8
                have hs8 := hb8.size
                have hs5r := HI.out.2.2.2.1.size
                obtain ⟨g9, c9, W9, hap, hown9, hf9⟩ := append_mail W8 W5.heap.size q u11 (Ml.mk u fl bm A7 c7) _ hmv8 (by omega) (by omega)
                simp only [Ml.cells] at hap
                have hnb : NoBytes W8 (fun b => u11.ownBlock = some b) := fun b hb cur hc => owns_ne hmv8 hc (by decide) hb
                have HQ : Hid ((ms ++ [(Ml.mk u fl bm A7 c7)]).map Ml.u = ls.take (q + 1) ∧ W9.ownsRow W5.heap.size 46 3 (.slice (some ⟨g9, 0, none⟩) (q + 1) c9) (q + 1) ((ms ++ [(Ml.mk u fl bm A7 c7)]).flatMap Ml.cells) ∧ MsOk V f W9 (ms ++ [(Ml.mk u fl bm A7 c7)]) ∧ Below W5.heap.size W5 W9) := by
                  obtain ⟨g1, g2, g3, g4, g5, g6, g7⟩ := HI.out
                  refine Lib.hid ⟨?_, ?_, ?_, ?_⟩
                  · rw [List.map_append, g1, List.take_succ_eq_append_getElem hqlt, g5]; rfl
                  · rw [List.flatMap_append]; simpa using hown9
                  · intro m hm
                    rcases List.mem_append.1 hm with h | h
                    · exact ((g3.below hb8).frm hf9 hnb) m h
                    · simp only [List.mem_singleton] at h; subst h
                      refine ⟨g6, hc7, ?_⟩
                      have hbs : Bs W7 A7 bm := ⟨hr7, fun a e => (hA7 a e).2⟩
                      exact (hbs.frm (F := NoB) (Frm.of_below hb78) (fun _ e => e.elim)).frm hf9 hnb
                  · exact (g4.trans (hb8.mono hs5r)).trans ((hf9.weaken (G := fun b => W5.heap.size ≤ b) (fun i _ e => (hmv8.lt i e).1)).below' (by omega))
                clear hnb hmv8 hown9 hf9 hb8 hb78 hf8 hm8 hr7 hA7 hb7
                go_wp2_with (fail)
                go_roundw
                case rel => exact ⟨q + 1, ms ++ [(Ml.mk u fl bm A7 c7)], hqlt, by go_num, HQ.out.1, HQ.out.2.1, HQ.out.2.2.1, HQ.out.2.2.2⟩
                case measure => simp [intOf]; omega
              · obtain rfl : q = ls.length := by omega
                obtain ⟨wp, rfl⟩ : ∃ wp : World, wp = wr := ⟨_, rfl⟩
                rw [List.take_length] at hmu
                have hm5 := (hbr5.block _ (Array.getElem?_eq_some_iff.1 HM5.out).1).trans HM5.out
                obtain ⟨c0, c1, c2, c3, c4⟩ := cells5 hm5
                have hol := owns_below HO5.out hbr5
                obtain ⟨Av, cv, rfl, _⟩ := owns_rd hmv
                have HCH := Lib.hid (And.intro hmu (And.intro hmsl HMC.out))
                have HXX : Hid (∀ W7 S', S.Step S' wp W7 → W7.heap[wo.heap.size]? = some (.cells #[.int .i64 what, .int .i64 uid, .int .i64 flags, .string ⟨cf.toArray⟩, .slice Am mail.length mc] 26 (0, 0)) ∧ W7.ownsRow W3.heap.size 3 1 (.slice A4 ls.length c4') ls.length (ls.map iv) ∧
                    Bx w1.heap.size bx S' W7 ∧ Below w.heap.size w W7 ∧ MsOk V f W7 ms ∧ W7.ownsRow W5.heap.size 46 3 (.slice Av ls.length cv) ls.length (ms.flatMap Ml.cells)) := Lib.hid fun W7 S' hst => by
                  refine ⟨?_, owns_frm hol hst.frm (fun i hi => hB5r.st.row_own hol (by decide) hi), hB5r.step hst, hb0r.trans ((hst.below hB5r.own hB5r.size).mono hs1), hms.frm hst.frm hB5r.st.noBytes, owns_frm hmv hst.frm (fun i hi => hB5r.st.row_own hmv (by decide) hi)⟩
                  exact (hst.frm.block _ (Array.getElem?_eq_some_iff.1 hm5).1 (fun e => row_own_block hB5r.st hm5 (by decide) e)).trans hm5
                have hnx : ∀ g, V.next g ≤ k + 1 := HNX.out.1
                have HD := Lib.hid (deliver_how hB5r HRR.out (by have := HNX.out.2; omega) cf (by have := HMC.out.2; omega) (by have := hnx cf; omega) Am mail mc (by have := HMC.out.1; omega) HCO.out.hc (HCO.out.rd.below hb0r))
                have HMK := Lib.hid (mark_how2 hB5r HRR.out (by have := HNX.out.2; omega) cf (by have := HMC.out.2; omega) uid flags HCO.out.u0 HCO.out.u1)
                have hcl := list_le HRR.out cf
                have hcx := hnx cf
                have HEX := Lib.hid (expunge_how2 hB5r HRR.out cf (by have := HMC.out.2; omega) (by have := HNX.out.2; omega))
                have HNO : Hid (∃ (S' : Sv) (V' : BState), S.Step S' wp wp ∧ BRel S'.C V' ∧ Else V V' cf ∧ S'.mn ≤ S.mn + 61) := Lib.hid ⟨S, V, .of_below hB5r.st (Below.refl _ _), HRR.out, .refl _ _, by omega⟩
                have HCL : Hid ((V.list cf).length ≤ 61) := Lib.hid (by omega)
                clear hmu hmv hms hbr5 hB5r hb0r hm5 hol hnx hcl hcx
                have hw : what = 0 ∨ what = 1 ∨ what = 2 ∨ (¬ what = 0 ∧ ¬ what = 1 ∧ ¬ what = 2) := by omega
                rcases hw with rfl | rfl | rfl | ⟨hw0, hw1, hw2⟩
                case' inl =>
                  clear HMK HEX HNO
                  go_wp2_with (fail)
                  refine HD.out.mono ?_
                  rintro e W7 ⟨x7, y7, S7, V7, rfl, hst7, hR7, hE7, hmn7⟩
                  have H7 : Hid (S.Step S7 wp W7 ∧ BRel S7.C V7 ∧ Else V V7 cf ∧ S7.mn ≤ S.mn + 61) := Lib.hid ⟨hst7, hR7, hE7, by omega⟩
                  clear hst7 hR7 hE7 hmn7 HD
                case' inr.inl =>
                  clear HD HEX HNO
                  go_wp2_with (fail)
                  refine HMK.out.mono ?_
                  rintro e W7 ⟨x7, S7, V7, rfl, hst7, hR7, hE7, hmn7⟩
                  have H7 : Hid (S.Step S7 wp W7 ∧ BRel S7.C V7 ∧ Else V V7 cf ∧ S7.mn ≤ S.mn + 61) := Lib.hid ⟨hst7, hR7, hE7, by omega⟩
                  clear hst7 hR7 hE7 hmn7 HMK
                case' inr.inr.inl =>
                  clear HD HMK HNO
                  go_wp2_with (fail)
                  refine HEX.out.mono ?_
                  rintro e W7 ⟨A7, n7, cc7, c7, S7, V7, rfl, hst7, hR7, hE7, hmn7⟩
                  have H7 : Hid (S.Step S7 wp W7 ∧ BRel S7.C V7 ∧ Else V V7 cf ∧ S7.mn ≤ S.mn + 61) := Lib.hid ⟨hst7, hR7, hE7, by have := HCL.out; omega⟩
                  clear hst7 hR7 hE7 hmn7 HEX
                case' inr.inr.inr =>
                  have f0 : (what == 0) = false := by apply beq_eq_false_iff_ne.2; omega
                  have f1 : (what == 1) = false := by apply beq_eq_false_iff_ne.2; omega
                  have f2 : (what == 2) = false := by apply beq_eq_false_iff_ne.2; omega
                  obtain ⟨W7, hW7⟩ : ∃ W7 : World, W7 = wp := ⟨_, rfl⟩
                  obtain ⟨S7, V7, H7a⟩ := HNO.out
                  have H7 : Hid (S.Step S7 wp W7 ∧ BRel S7.C V7 ∧ Else V V7 cf ∧ S7.mn ≤ S.mn + 61) := Lib.hid (by rw [hW7]; exact H7a)
                  clear H7a HD HMK HEX HNO hw0 hw1 hw2
                  rw [← hW7]
                  have c0 : W7.cell? ⟨wo.heap.size, 0, none⟩ = some (.int .i64 what) := by rw [hW7]; exact c0
                  clear hW7
                all_goals
                  obtain ⟨hm7, ho7, hB7, hb7, hms7, hmv7⟩ := HXX.out W7 S7 H7.out.1
                  obtain ⟨_, _, _, c37, _⟩ := cells5 hm7
                  have HK7 := Lib.hid (And.intro ho7 (And.intro hB7 (And.intro hb7 (And.intro hms7 hmv7))))
                  clear hm7 ho7 hB7 hb7 hms7 hmv7 HXX
                  by_cases heq : cf = f
                  · subst heq
                    go_wp2_with (fail)
                    refine ⟨⟨k + 1, S7, V7, hlt, by go_num, HK7.out.2.1, H7.out.2.1, fun g => ?_, ?_, HK7.out.2.2.1⟩, by simp [intOf]; omega⟩
                    · have := H7.out.2.2.1.up g; have := HNX.out.1 g; omega
                    · have := H7.out.2.2.2; have := HNX.out.2; omega
                  · have hbe : (cf == f) = false := beq_eq_false_iff_ne.2 heq
                    have hls7 : V7.list f = ls := by rw [H7.out.2.2.1.list (fun e => heq e.symm), HLS.out]
                    have hnx7 : V7.next f = V.next f := H7.out.2.2.1.next f (fun e => heq e.symm)
                    have hml7 : V7.mail f = V.mail f := H7.out.2.2.1.mail f (fun e => heq e.symm)
                    have HL7 := Lib.hid (list_any HK7.out.2.1 H7.out.2.1 (by have := HNX.out.2; have := H7.out.2.2.2; omega) f hf)
                    rw [hls7] at HL7
                    have HE7 := Lib.hid (And.intro hnx7 hml7)
                    clear heq hls7 hnx7 hml7
                    go_wp2_with (fail)
                    refine HL7.out.mono ?_
                    rintro e W8 ⟨v8, rfl, ho8, hb8⟩
                    obtain ⟨A8, c8, rfl, _, _, hr8⟩ := owns_slice ho8
                    obtain ⟨A4', c4'', he4, _, _, hr4⟩ := owns_slice (owns_below HK7.out.1 hb8)
                    simp only [Value.slice.injEq, true_and] at he4
                    obtain ⟨rfl, rfl⟩ := he4
                    have HSI := Lib.hid (sameInts_same A8 A4 c8 c4' ls W8 hr8 hr4 (by omega))
                    have HB8 := Lib.hid hb8
                    clear ho8 hr8 hr4 hb8
                    go_wp2_with (fail)
                    refine HSI.out.mono ?_
                    rintro e W9 ⟨rfl, hb9⟩
                    have hb79 := HB8.out.trans (hb9.mono HB8.out.size)
                    have HN9 := Lib.hid (next_any (HK7.out.2.1.below hb79) H7.out.2.1 f hf)
                    rw [HE7.out.1] at HN9
                    have HB9 := Lib.hid hb79
                    clear hb9 hb79
                    go_wp2_with (fail)
                    refine HN9.out.mono ?_
                    rintro e W10 ⟨rfl, hb10⟩
                    have HB10 : Hid (Below W7.heap.size W7 W10) := Lib.hid (HB9.out.trans (hb10.mono HB9.out.size))
                    clear hb10 c37
                    go_wp2_with (fail)
                    go_loopw [117] (fun i wr => ∃ q : Nat, q ≤ ls.length ∧ i = .int .i64 q ∧ Below W7.heap.size W7 wr) (fun i _ => ls.length - (intOf i).toNat)
                    case atStart => exact ⟨0, Nat.zero_le _, rfl, HB10.out⟩
                    case round =>
                      obtain ⟨q, hq, rfl, hbr7⟩ := hrel
                      by_cases hqlt : q < ls.length
                      · have hqm : q < ms.length := by rw [HCH.out.2.1]; exact hqlt
                        have hmvr := owns_below HK7.out.2.2.2.2 hbr7
                        rw [← HCH.out.2.1] at hmvr
                        obtain ⟨g, c', he', hldm⟩ := load_mails hmvr hqm
                        simp only [Value.slice.injEq, true_and] at he'
                        obtain ⟨rfl, rfl⟩ := he'
                        obtain ⟨m, hm⟩ : ∃ m, ms[q] = m := ⟨_, rfl⟩
                        have hmok := (HK7.out.2.2.2.1.below hbr7) m (hm ▸ List.getElem_mem hqm)
                        rw [hm] at hldm
                        obtain ⟨um, flm, bm, Am2, cm2⟩ := m
                        obtain ⟨hmm, hcm, hbs⟩ := hmok
                        simp only at hmm hcm hbs
                        simp only [Ml.cells] at hldm
                        rw [← HE7.out.2] at hmm
                        have hBr := HK7.out.2.1.below hbr7
                        obtain ⟨Wa, hsta, hma, hfa⟩ := store_mail (w := wr.alloc (.cells #[.int .i64 0, .int .i64 0, .slice none 0 0] 46)) (hal_at rfl) rfl (.int .i64 um) (.int .i64 flm) (.slice Am2 bm.length cm2) rfl rfl rfl
                        have hbra : Below wr.heap.size wr Wa := ((Below.refl _ _).alloc (Nat.le_refl _) _).trans ((hfa.weaken (G := fun b => wr.heap.size ≤ b) (fun i _ e => by omega)).below' (by simp))
                        have hul := list_lt H7.out.2.1 f um ((mem_list H7.out.2.1 f um).2 (by rw [hmm]; rfl))
                        have HF := Lib.hid (fetch_yes (hBr.below hbra) H7.out.2.1 f um (by omega) flm bm hmm)
                        have hbml : bm.length ≤ 100000 := by
                          have hh := H7.out.2.1.has f um _ hmm
                          have := H7.out.2.1.mail f um hh.1 hh.2.1
                          rw [hmm] at this
                          have := (hBr.st.ok _ _ this).2.2
                          simp at this
                          omega
                        obtain ⟨_, a0, a1, a2⟩ := cells3 hma
                        have HA := Lib.hid (And.intro hma (And.intro hbra (And.intro hbs hbr7)))
                        clear hmvr hm hmm hcm hbs hBr hma hfa hbra hbr7
                        go_wp2_with (fail)
                        refine HF.out.mono ?_
                        rintro e Wb ⟨Ab, cb, rfl, hcb, hrb, _, hbb⟩
                        obtain ⟨Wc, hstc, hmc, hfc⟩ := store_mail (w := Wb.alloc (.cells #[.int .i64 0, .int .i64 0, .slice none 0 0] 46)) (hal_at rfl) rfl (.int .i64 um) (.int .i64 flm) (.slice Ab bm.length cb) rfl rfl rfl
                        have hbbc : Below Wb.heap.size Wb Wc := ((Below.refl _ _).alloc (Nat.le_refl _) _).trans ((hfc.weaken (G := fun b => Wb.heap.size ≤ b) (fun i _ e => by omega)).below' (by simp))
                        have hbac : Below Wa.heap.size Wa Wc := hbb.trans (hbbc.mono hbb.size)
                        have hmac := (hbac.block _ (Array.getElem?_eq_some_iff.1 HA.out.1).1).trans HA.out.1
                        obtain ⟨_, _, x1, x2⟩ := cells3 hmc
                        obtain ⟨_, _, y1, y2⟩ := cells3 hmac
                        have hbrc : Below wr.heap.size wr Wc := HA.out.2.1.trans (hbac.mono HA.out.2.1.size)
                        have HSM := Lib.hid (same_same Ab Am2 cb cm2 bm Wc (hrb.below hbbc) ((HA.out.2.2.1.frm (F := NoB) (Frm.of_below hbrc) (fun _ e => e.elim)).1) (by omega))
                        have HC := Lib.hid (HA.out.2.2.2.trans (hbrc.mono HA.out.2.2.2.size))
                        clear hbb hbbc hbac hmac hmc hfc hrb hbrc hcb a0 a1 a2
                        go_wp2_with (fail)
                        refine HSM.out.mono ?_
                        rintro e Wd ⟨rfl, hbd⟩
                        have HDD := Lib.hid (HC.out.trans (hbd.mono HC.out.size))
                        clear hbd x1 x2 y1 y2
                        go_wp2_with (fail)
                        refine ⟨⟨q + 1, hqlt, by go_num, HDD.out⟩, by simp [intOf]; omega⟩
                      · obtain rfl : q = ls.length := by omega
                        go_wp2_with (fail)
                        go_roundw
                        case rel =>
                          refine ⟨k + 1, S7, V7, hlt, by go_num, HK7.out.2.1.below hbr7, H7.out.2.1, fun g => ?_, ?_, HK7.out.2.2.1.trans (hbr7.mono HK7.out.2.2.1.size)⟩
                          · have := H7.out.2.2.1.up g; have := HNX.out.1 g; omega
                          · have := H7.out.2.2.2; have := HNX.out.2; omega
                        case measure => simp [intOf]; omega
      · obtain rfl : k = ln := by omega
        go_wp2_with (fail)
        go_ret
        exact ⟨rfl, hbr⟩
end Go.Proofs.YtchiikfdmogfpaaGreatDoor
