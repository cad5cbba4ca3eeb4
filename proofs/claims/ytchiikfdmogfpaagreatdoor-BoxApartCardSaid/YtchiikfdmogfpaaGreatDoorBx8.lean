/- box.Expunge. -/
import Derived.Test.YtchiikfdmogfpaaGreatDoorBx7
namespace Go.Proofs.YtchiikfdmogfpaaGreatDoor
open Go.RowKit
attribute [local go_sem ↓] exec_storeMail
attribute [local go_sem ↓ high] exec_append35 exec_append70

theorem and4 : ∀ x : Fin 16, bits .and .i64 (x.val : Int) 4 = if x.val / 4 % 2 == 1 then 4 else 0 := by decide +kernel
def gonePr (f : Bytes) (u : Nat) : Pr := ⟨mkeyOf f u, none, 0, [], true⟩
def encExpunge (f : Bytes) (us : List Nat) : Bytes := us.flatMap fun (u : Nat) => kvEnc (mkeyOf f u) [] true
theorem encAll_gone (f : Bytes) (us : List Nat) : encAll (us.map (gonePr f)) = encExpunge f us := by
  simp only [encAll, encExpunge, List.flatMap_map]; rfl
theorem doC_gone (f : Bytes) (us : List Nat) : ∀ (C : Bytes → Option Bytes) x, doC C (us.map (gonePr f)) x = if x ∈ us.map (fun (u : Nat) => mkeyOf f (u : Int)) then none else C x := by
  induction us with
  | nil => intro C x; simp [doC]
  | cons u r ih =>
    intro C x
    have h := ih (fun x => if x = mkeyOf f u then none else C x) x
    have e : doC C ((u :: r).map (gonePr f)) x = doC (fun x => if x = mkeyOf f u then none else C x) (r.map (gonePr f)) x := rfl
    rw [e, h]
    by_cases h1 : x ∈ r.map (fun (u : Nat) => mkeyOf f (u : Int))
    · rw [if_pos h1, if_pos (by rw [List.map_cons]; exact List.mem_cons_of_mem _ h1)]
    · rw [if_neg h1]
      by_cases h2 : x = mkeyOf f u
      · rw [if_pos h2, if_pos (by rw [List.map_cons, h2]; exact List.mem_cons_self)]
      · rw [if_neg h2, if_neg (by rw [List.map_cons, List.mem_cons]; exact fun e => e.elim h2 h1)]
theorem doomed_le (V : BState) (f : Bytes) : (V.doomed f).length ≤ (V.list f).length := List.length_filter_le _ _

set_option maxRecDepth 20000 in
set_option maxHeartbeats 1000000 in
theorem expunge_any {B bx : Nat} {S : Sv} {w : World} (h : Bx B bx S w) {V : BState} (hr : BRel S.C V) (f : Bytes) (hf : f.length ≤ 900000000000000) (hmn : S.mn + (V.list f).length ≤ 10000) :
    Calls Tryz.prog 16 #[.pointer (some ⟨bx, 0, none⟩), .string ⟨f.toArray⟩] w fun e w' => ∃ (v : Value) (c : Int) (us : List Nat), e = .returned (.tuple #[v, .int .i64 c]) ∧ w'.ownsRow w.heap.size 3 1 v us.length (us.map iv) ∧
      ((V.doomed f = [] ∧ c = 0 ∧ us = [] ∧ Below w.heap.size w w') ∨ (V.doomed f ≠ [] ∧ Fate S w (encExpunge f (V.doomed f)) (V.expunge f) (V.doomed f).length c w' ∧ (c = 0 → us = V.doomed f) ∧ (c = 6 → us = []))) := by
  have HL := Lib.hid (list_any h hr (by omega) f hf)
  have HX := Lib.hid (And.intro h (And.intro hr hmn))
  obtain ⟨ls, hls⟩ : ∃ ls, V.list f = ls := ⟨_, rfl⟩
  have hlen : ls.length ≤ 10000 := by rw [← hls]; omega
  have HLS := Lib.hid hls
  rw [hls] at HL
  have HD : Hid (V.doomed f = ls.filter fun u => (V.mail f u).any dead) := Lib.hid (by unfold BState.doomed; rw [hls])
  clear h hr hmn hls
  go_enter Tryz.func16, Tryz.ntmps16
  go_wp2_with (fail)
  refine HL.out.mono ?_
  rintro e w1 ⟨v1, rfl, ho1, hb1⟩
  obtain ⟨A1, c1, rfl, _, _, hrd1⟩ := owns_slice ho1
  have HB1 := Lib.hid hb1
  clear hb1 HL
  go_wp2_with (fail)
  go_loopw [4, 6, 16] (fun o gn i wr => ∃ (k : Nat) (us : List Nat), k ≤ ls.length ∧ i = .int .i64 k ∧ us = (ls.take k).filter (fun u => (V.mail f u).any dead) ∧ wr.ownsRow w1.heap.size 3 1 o us.length (us.map iv) ∧
      wr.ownsRow w1.heap.size 69 3 gn us.length ((us.map (gonePr f)).flatMap Pr.cells) ∧ Below w1.heap.size w1 wr) (fun _ _ i _ => ls.length - (intOf i).toNat)
  case atStart => exact ⟨0, [], Nat.zero_le _, rfl, by simp, World.ownsRow_nil _ _ _ _, World.ownsRow_nil _ _ _ _, Below.refl _ _⟩
  case round =>
    obtain ⟨k, us, hk, rfl, hus, ho, hg, hbr⟩ := hrel
    have HUS := Lib.hid hus
    have hul : us.length ≤ 10000 := by rw [hus]; have := List.length_filter_le (fun u => (V.mail f u).any dead) (ls.take k); rw [List.length_take] at this; omega
    clear hus
    by_cases hlt : k < ls.length
    · obtain ⟨u, hu⟩ : ∃ u, ls[k] = u := ⟨_, rfl⟩
      have hin : u ∈ V.list f := by rw [HLS.out, ← hu]; exact List.getElem_mem hlt
      obtain ⟨⟨fl, b⟩, hm⟩ := Option.isSome_iff_exists.1 ((mem_list HX.out.2.1 f u).1 hin)
      have hul2 : u < 10000000000 := list_lt HX.out.2.1 f u hin
      have hmf := HX.out.2.1.has f u _ hm
      have hfl : fl ≤ 15 := hmf.2.2.2
      have hflen := (folder_length hmf.1).2
      obtain ⟨g, o, rfl, hgl, hc⟩ := hrd1 (by intro e; have := congrArg List.length e; simp at this; rw [this] at hlt; simp at hlt)
      have hcell : wr.cell? ⟨g, o + k, none⟩ = some (.int .i64 (u : Int)) := (hbr.cell (p := ⟨g, o + k, none⟩) hgl).trans (hc k _ (by simp [hlt, hu, iv]))
      have hbwr : Below w.heap.size w wr := HB1.out.trans (hbr.mono HB1.out.size)
      have HF := Lib.hid (fetch_yes (HX.out.1.below hbwr) HX.out.2.1 f u (by omega) fl b hm)
      have HUK := Lib.hid hu
      have HMF := Lib.hid (And.intro hmf hm)
      clear hc hu hin hmf hm
      go_wp2_with (fail)
      refine HF.out.mono ?_
      rintro e w2 ⟨A, c, rfl, _, _, _, hb2⟩
      obtain ⟨w3, hst, hm3, hf3⟩ := store_mail (w := w2.alloc (.cells #[.int .i64 0, .int .i64 0, .slice none 0 0] 46)) (hal_at rfl) rfl (.int .i64 u) (.int .i64 fl) (.slice A b.length c) rfl rfl rfl
      have hb23 : Below w2.heap.size w2 w3 := ((Below.refl _ _).alloc (Nat.le_refl _) _).trans ((hf3.weaken (G := fun b => w2.heap.size ≤ b) (fun i _ e => by omega)).below' (by simp))
      have hbr3 : Below wr.heap.size wr w3 := hb2.trans (hb23.mono hb2.size)
      have hb13 : Below w1.heap.size w1 w3 := hbr.trans (hbr3.mono hbr.size)
      have m1 : w3.cell? ⟨w2.heap.size, 1, none⟩ = some (.int .i64 (fl : Int)) := (cells3 hm3).2.2.1
      have hs13 := hb13.size
      cases hd : fl / 4 % 2 == 1 with
      | false =>
        have hand : bits .and .i64 (fl : Int) 4 = 0 := by have := and4 ⟨fl, by omega⟩; simp only at this; rw [this, hd]; rfl
        have HQ := Lib.hid (And.intro (owns_below ho hbr3) (And.intro (owns_below hg hbr3) hb13))
        have HDD := Lib.hid hd
        clear hd hb2 hf3 hm3 hb23 hbr3 hb13 hbwr hbr ho hg
        go_wp2_with (fail)
        go_roundw
        case rel => exact ⟨k + 1, us, hlt, by go_num, by rw [List.take_succ_eq_append_getElem hlt, HUK.out, List.filter_append, HUS.out]; simp [HMF.out.2, dead, HDD.out], HQ.out.1, HQ.out.2.1, HQ.out.2.2⟩
        case measure => simp [intOf]; omega
      | true =>
        have hand : bits .and .i64 (fl : Int) 4 = 4 := by have := and4 ⟨fl, by omega⟩; simp only at this; rw [this, hd]; rfl
        obtain ⟨g4, c4, W4, hap4, ho4, hg4⟩ := append_int w3 w1.heap.size us.length u4 u _ (owns_below ho hbr3) (by omega) (by omega)
        have hg3 := owns_below hg hbr3
        have hb14 : Below w1.heap.size w1 W4 := hb13.trans (((Frm.of_grown hg4).weaken (G := fun b => w1.heap.size ≤ b) (fun i _ e => ((owns_below ho hbr3).lt i e).1)).below' hs13)
        have hg4' := owns_frm hg3 (Frm.of_grown hg4) (fun i hi e => owns_apart hg3 (owns_below ho hbr3) (by decide) hi e)
        have hb04 : Below w.heap.size w W4 := HB1.out.trans (hb14.mono HB1.out.size)
        have HK := Lib.hid (key_any f (by omega) u (by omega) (by omega) W4 (HX.out.1.below hb04).tab)
        have HAP : Hid (∀ W, Below W4.heap.size W4 W → ∃ g5 c5 W5, (appendOp 70 70 u6 (.slice (some ⟨W.heap.size, 0, none⟩) 1 1)).run Tryz.prog (W.alloc (.cells #[.string ⟨(mkeyOf f u).toArray⟩, .slice none 0 0, .bool true] 69)) = .ok (.value (.slice (some ⟨g5, 0, none⟩) (us.length + 1) c5)) W5 ∧
            Hid (W5.ownsRow w1.heap.size 3 1 (.slice (some ⟨g4, 0, none⟩) (us.length + 1) c4) (us.length + 1) ((us ++ [u]).map iv) ∧ W5.ownsRow w1.heap.size 69 3 (.slice (some ⟨g5, 0, none⟩) (us.length + 1) c5) (us.length + 1) (((us ++ [u]).map (gonePr f)).flatMap Pr.cells) ∧ Below w1.heap.size w1 W5)) := Lib.hid fun W hb => by
          have h4 := hb14.size
          have hW := hb.size
          have hgW := owns_below hg4' hb
          obtain ⟨g5, c5, W5, hap, ho5, hf5⟩ := append_pair W w1.heap.size us.length u6 (gonePr f u) _ hgW (by omega) (by omega)
          refine ⟨g5, c5, W5, hap, Lib.hid ⟨?_, ?_, ?_⟩⟩
          · have := owns_frm (owns_below ho4 hb) hf5 (fun i hi e => owns_apart (owns_below ho4 hb) hgW (by decide) hi e)
            rw [List.map_append]; exact this
          · rw [List.map_append, List.flatMap_append]; simpa using ho5
          · exact (hb14.trans (hb.mono h4)).trans ((hf5.weaken (G := fun b => w1.heap.size ≤ b) (fun i _ e => (hgW.lt i e).1)).below' (by omega))
        have HDD := Lib.hid hd
        clear hd hb2 hf3 hm3 hb23 hbr3 hb13 hbwr hbr ho hg hg3 hg4' hb04 hb14 ho4 hg4
        go_wp2_with (fail)
        refine HK.out.mono ?_
        rintro e W5 ⟨rfl, hb5⟩
        obtain ⟨g5, c5, W6, hap5, HQ⟩ := HAP.out W5 hb5
        clear HAP HK hb5
        go_wp2_with (fail)
        go_roundw
        case rel =>
          refine ⟨k + 1, us ++ [u], hlt, by go_num, ?_, ?_, ?_, HQ.out.2.2⟩
          · rw [List.take_succ_eq_append_getElem hlt, HUK.out, List.filter_append, HUS.out]; simp [HMF.out.2, dead, HDD.out]
          · rw [List.length_append, List.length_singleton]; exact HQ.out.1
          · rw [List.length_append, List.length_singleton]; exact HQ.out.2.1
        case measure => simp [intOf]; omega
    · obtain rfl : k = ls.length := by omega
      have hdm : V.doomed f = us := by have := HUS.out; rw [List.take_length] at this; rw [HD.out, this]
      have hb0 : Below w.heap.size w wr := HB1.out.trans (hbr.mono HB1.out.size)
      by_cases h0 : us = []
      · subst h0
        have HDM := Lib.hid hdm
        simp only [List.length_nil] at ho hg hul
        obtain ⟨Ag, cg, rfl, _⟩ := owns_rd hg
        have HB0 := Lib.hid hb0
        clear hdm hg hbr hb0
        go_wp2_with (fail)
        go_ret2
        exact ⟨_, 0, [], rfl, World.ownsRow_nil _ _ _ _, .inl ⟨HDM.out, rfl, rfl, HB0.out⟩⟩
      · obtain ⟨Ag, cg, rfl, hrg⟩ := owns_rd hg
        have hBw := HX.out.1.below hb0
        have c0 := hBw.c0
        have hul0 : 0 < us.length := List.length_pos_iff.2 h0
        have hne : ((us.length : Int) == 0) = false := by apply beq_eq_false_iff_ne.2; omega
        have HC : Hid (Calls Tryz.prog 27 #[.pointer (some ⟨S.s, 0, none⟩), .slice Ag us.length cg] wr fun e w' => ∃ cc : Int, e = .returned (.int .i64 cc) ∧ Hid (Fate S w (encExpunge f us) (V.expunge f) us.length cc w' ∧ w'.ownsRow w1.heap.size 3 1 u4 us.length (us.map iv))) := Lib.hid (by
          obtain ⟨h, hr, hmn⟩ := HX.out
          obtain ⟨u0, hu0⟩ : ∃ u0, u0 ∈ us := by cases us with | nil => exact absurd rfl h0 | cons a r => exact ⟨a, by simp⟩
          have hmail : ∀ u, u ∈ us → folderOk f = true ∧ u < 10000000000 := fun u hu => by
            rw [← hdm] at hu
            have h1 := (mem_doomed hr f u).1 hu
            have h2 : u ∈ V.list f := by unfold BState.doomed at hu; exact (List.mem_filter.1 hu).1
            obtain ⟨p, hp⟩ := Option.isSome_iff_exists.1 ((mem_list hr f u).1 h2)
            exact ⟨(hr.has f u p hp).1, list_lt hr f u h2⟩
          have hfo := (hmail u0 hu0).1
          have hfl := folder_length hfo
          have hc := commit_any S (us.map (gonePr f)) Ag cg wr hBw.st hrg
            (fun p hp => by
              obtain ⟨u, hu, rfl⟩ := List.mem_map.1 hp
              have hul := (hmail u hu).2
              exact ⟨by simp only [gonePr]; rw [mkeyOf_length hul]; omega, by simp only [gonePr]; rw [mkeyOf_length hul]; omega, by simp [gonePr], by simp [gonePr], fun _ => rfl, Rd.nil _ _⟩)
            (by rw [List.length_map]; have := doomed_le V f; rw [hdm] at this; omega)
            (fun p hp a e => by obtain ⟨u, hu, rfl⟩ := List.mem_map.1 hp; cases e)
          rw [List.length_map, encAll_gone] at hc
          refine hc.mono ?_
          rintro e w' ⟨S', hst, hcase⟩
          have hst' := Sv.Step.below_then h.st hb0 hst
          have hown := owns_frm ho hst.frm (fun i hi e => by have := h.st.lt e; have := (ho.lt i hi).1; have := HB1.out.size; omega)
          rcases hcase with ⟨rfl, hC, hmn', hfit⟩ | ⟨rfl, hS, hno⟩
          · exact ⟨0, rfl, Lib.hid ⟨⟨S', hst', .inl ⟨rfl, rel_expunge hr f hfo (fun x => by rw [hC, doC_gone, hdm]), hmn', hfit⟩⟩, hown⟩⟩
          · exact ⟨6, rfl, Lib.hid ⟨⟨S', hst', .inr ⟨rfl, hS, hno⟩⟩, hown⟩⟩)
        have HDM := Lib.hid (And.intro hdm h0)
        clear hdm hg hbr hb0 hrg hBw ho h0
        go_wp2_with (fail)
        refine HC.out.mono ?_
        rintro e w9 ⟨cc, rfl, hfin⟩
        obtain ⟨S', hst, ⟨rfl, _⟩ | ⟨rfl, _⟩⟩ := hfin.out.1
        · clear hst
          go_wp2_with (fail)
          go_ret2
          exact ⟨_, 0, us, rfl, hfin.out.2.base (HB1.out.size), .inr ⟨by rw [HDM.out.1]; exact HDM.out.2, by rw [HDM.out.1]; exact hfin.out.1, fun _ => HDM.out.1.symm, fun e => by omega⟩⟩
        · clear hst
          go_wp2_with (fail)
          go_ret2
          exact ⟨_, 6, [], rfl, World.ownsRow_nil _ _ _ _, .inr ⟨by rw [HDM.out.1]; exact HDM.out.2, by rw [HDM.out.1]; exact hfin.out.1, fun e => by omega, fun _ => rfl⟩⟩
end Go.Proofs.YtchiikfdmogfpaaGreatDoor
