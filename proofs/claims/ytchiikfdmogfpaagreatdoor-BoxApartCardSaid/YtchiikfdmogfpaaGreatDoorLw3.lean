/- The law's own functions: speaks. -/
import Derived.Test.YtchiikfdmogfpaaGreatDoorLw2
import Derived.Lib.SlBytesConst
namespace Go.Proofs.YtchiikfdmogfpaaGreatDoor
open Go.RowKit
theorem kvEnc_length (k v : Bytes) (g : Bool) : (kvEnc k v g).length = 7 + k.length + v.length := by simp [kvEnc, beN_length]; omega
abbrev fIn : Bytes := [105, 110]
theorem fIn_ok : folderOk fIn = true := by decide
def V0 : BState := ⟨fun _ => 1, fun _ _ => none⟩
def V1 : BState := V0.deliver fIn [97]
def V2 : BState := V1.mark fIn 1 4
def V3 : BState := V2.expunge fIn
theorem V0_next : V0.next fIn = 1 := rfl
theorem V1_next : V1.next fIn = 2 := by decide
theorem V1_mail : V1.mail fIn 1 = some (0, [97]) := by decide
theorem V2_list : V2.list fIn = [1] := by decide
theorem V2_doomed : V2.doomed fIn = [1] := by decide
theorem V3_next : V3.next fIn = 2 := by decide
theorem E1_len : (encDeliver fIn 1 [97]).length = 43 := by
  have := mkeyOf_length (f := fIn) (u := 1) (by omega)
  simp only [encDeliver, List.length_append, kvEnc_length, this, nkeyOf, beN_length, List.length_cons, List.length_nil]
theorem E2_len : (kvEnc (mkeyOf fIn (1 : Nat)) (UInt8.ofNat 4 :: [97]) false ++ []).length = 24 := by
  have := mkeyOf_length (f := fIn) (u := 1) (by omega)
  simp only [List.length_append, kvEnc_length, this, List.length_cons, List.length_nil]
theorem E3_len : (encExpunge fIn [1]).length = 22 := by
  have := mkeyOf_length (f := fIn) (u := 1) (by omega)
  simp only [encExpunge, List.flatMap_cons, List.flatMap_nil, List.length_append, kvEnc_length, this, List.length_cons, List.length_nil]
theorem E4_len : (encDeliver fIn 2 []).length = 42 := by
  have := mkeyOf_length (f := fIn) (u := 2) (by omega)
  simp only [encDeliver, List.length_append, kvEnc_length, this, nkeyOf, beN_length, List.length_cons, List.length_nil]

/-- A row of other elements is none of a store's own blocks. -/
theorem Sv.At.row_own {S : Sv} {w : World} (h : S.At w) {base e size n : Nat} {v : Value} {xs : List Value} (ho : w.ownsRow base e size v n xs) (he : e ≠ 94 ∧ e ≠ 86 ∧ e ≠ 118 ∧ e ≠ 175 ∧ e ≠ 24) {i : Nat} (hi : v.ownBlock = some i) : ¬ S.Own i := fun hx => by
  obtain ⟨cur, hc⟩ := owns_elem ho hi
  rcases hx with q | q | q | q | q
  · have h9 := h.st; unfold StAt at h9; rw [← q, hc] at h9; simp at h9; exact he.1 h9.2
  · have h9 := h.jr.d.hd; rw [← q, hc] at h9; simp at h9; exact he.2.1 h9.2
  · have h9 := h.jr.j; unfold JAt at h9; rw [← q, hc] at h9; simp at h9; exact he.2.2.1 h9.2
  · have h9 := h.jr.d.row; rw [← q, hc] at h9; simp at h9; exact he.2.2.2.1 h9.2
  · exact owns_ne h.jr.r hc he.2.2.2.2 q

set_option maxRecDepth 20000 in
set_option maxHeartbeats 1000000 in
theorem speaks_any (w : World) (hg : 5 ≤ w.heap.size) (ht : TabG w) :
    Calls Tryz.prog 6 #[] w fun e w' => e = .returned (.bool true) ∧ Below w.heap.size w w' := by
  have kc := fun (w : World) (C : Array Value) (n c : Nat) => Lib.run_convert_bytes_const (P := Tryz.prog) w 24 5 C n c Tryz.under5 Tryz.underlying5
  have HL := Lib.hid (laid_any 40 w (by omega) (by omega) hg ht)
  go_enter Tryz.func6, Tryz.ntmps6
  go_wp2_with (fail)
  refine HL.out.mono ?_
  rintro e w1 ⟨bx, S, rfl, hB, hF, hb1⟩
  have HF := Lib.hid hF
  have hsz : S.sz = 20 := hF.sz
  have hat : S.at_ = 1 := hF.at_
  have hmn : S.mn = 0 := hF.mn
  have hR0 : BRel S.C V0 := by rw [hF.C]; exact BRel.init
  have HN := Lib.hid (And.intro hsz (And.intro hat hmn))
  clear hsz hat hmn hF
  have hb12 : Below w1.heap.size w1 (w1.alloc (.cells #[.int .u8 97] 5 (1, 2))) := (Below.refl _ _).alloc (Nat.le_refl _) _
  have hB2 := hB.below hb12
  have HD := Lib.hid (deliver_any hB2 hR0 (by have := HN.out; omega) fIn fIn_ok (by rw [V0_next]; omega) (some ⟨w1.heap.size, 0, none⟩) [97] 1 (by simp) (by simp) (Rd.of_block (L := [bv 97]) (hal_at rfl) 0 1))
  rw [V0_next] at HD
  have HB0 := Lib.hid (And.intro hB2 (hb1.trans (hb12.mono hb1.size)))
  clear hB hB2 hb1 hb12 hR0
  go_wp2_with (fail)
  refine HD.out.mono ?_
  rintro e w3 ⟨S1, hst1, ⟨rfl, hR1, hmn1, hfit1⟩ | ⟨rfl, _, hno⟩⟩
  case inr => exact absurd (by rw [E1_len, HN.out.1, HN.out.2.1]; decide) hno
  have hF1 := hfit1 (by rw [E1_len, HN.out.1, HN.out.2.1]; decide)
  have hat1 : S1.at_ = 3 := by rw [hF1.at_, E1_len, HN.out.2.1]; rfl
  have hsz1 : S1.sz = 20 := by rw [hst1.sz, HN.out.1]
  have hmn1' : S1.mn = 2 := by rw [hmn1, HN.out.2.2]
  have hB3 := HB0.out.1.step hst1
  have hb3 : Below w.heap.size w w3 := HB0.out.2.trans (hst1.below HB0.out.1.own HB0.out.1.size)
  have HN1 := Lib.hid (And.intro hsz1 (And.intro hat1 hmn1'))
  have HM := Lib.hid (mark_any hB3 hR1 (by omega) fIn 1 (by omega) 0 [97] V1_mail 4 (by omega))
  have HB3 := Lib.hid (And.intro hB3 hb3)
  clear hsz1 hat1 hmn1' hB3 hb3 hst1 hR1 hmn1 hfit1 hF1 HD
  go_wp2_with (fail)
  rw [show ((1 : Nat) : Int) = 1 from rfl, show ((4 : Nat) : Int) = 4 from rfl] at HM
  refine HM.out.mono ?_
  rintro e w4 ⟨c4, rfl, S2, hst2, ⟨rfl, hR2, hmn2, hfit2⟩ | ⟨rfl, _, hno⟩⟩
  case inr => exact absurd (by rw [show ((1 : Int)) = ((1 : Nat) : Int) from rfl, E2_len, HN1.out.1, HN1.out.2.1]; decide) hno
  have hF2 := hfit2 (by rw [show ((1 : Int)) = ((1 : Nat) : Int) from rfl, E2_len, HN1.out.1, HN1.out.2.1]; decide)
  have hat2 : S2.at_ = 4 := by rw [hF2.at_, show ((1 : Int)) = ((1 : Nat) : Int) from rfl, E2_len, HN1.out.2.1]; rfl
  have hsz2 : S2.sz = 20 := by rw [hst2.sz, HN1.out.1]
  have hmn2' : S2.mn = 3 := by rw [hmn2, HN1.out.2.2]
  have hB4 := HB3.out.1.step hst2
  have hb4 : Below w.heap.size w w4 := HB3.out.2.trans (hst2.below HB3.out.1.own HB3.out.1.size)
  have HN2 := Lib.hid (And.intro hsz2 (And.intro hat2 hmn2'))
  have HE := Lib.hid (expunge_any (V := V2) hB4 hR2 fIn (by decide) (by rw [V2_list, hmn2']; decide))
  have HB4 := Lib.hid (And.intro hB4 hb4)
  have HR2 := Lib.hid hR2
  clear hsz2 hat2 hmn2' hB4 hb4 hst2 hR2 hmn2 hfit2 hF2 HM
  go_wp2_with (fail)
  refine HE.out.mono ?_
  rintro e w5 ⟨v5, c5, us, rfl, ho5, ⟨hd, _⟩ | ⟨_, ⟨S3, hst3, ⟨rfl, hR3, hmn3, hfit3⟩ | ⟨rfl, _, hno⟩⟩, hus, _⟩⟩
  case inl => rw [V2_doomed] at hd; cases hd
  case inr.inr => rw [V2_doomed] at hno; exact absurd (by rw [E3_len, HN2.out.1, HN2.out.2.1]; decide) hno
  obtain rfl := hus rfl
  rw [V2_doomed] at ho5 hfit3 hmn3
  have hF3 := hfit3 (by rw [E3_len, HN2.out.1, HN2.out.2.1]; decide)
  have hat3 : S3.at_ = 5 := by rw [hF3.at_, E3_len, HN2.out.2.1]; rfl
  have hsz3 : S3.sz = 20 := by rw [hst3.sz, HN2.out.1]
  have hmn3' : S3.mn = 4 := by rw [hmn3, HN2.out.2.2]; rfl
  have hB5 := HB4.out.1.step hst3
  have hb5 : Below w.heap.size w w5 := HB4.out.2.trans (hst3.below HB4.out.1.own HB4.out.1.size)
  have HN3 := Lib.hid (And.intro hsz3 (And.intro hat3 hmn3'))
  have HD2 := Lib.hid (deliver_any (V := V3) hB5 hR3 (by omega) fIn fIn_ok (by rw [V3_next]; omega) none [] 0 (by simp) (by simp) (Rd.nil _ _))
  rw [V3_next] at HD2
  have HB5 := Lib.hid (And.intro hB5 (And.intro hb5 (HB4.out.1.size)))
  obtain ⟨A5, c6, rfl, hc6, _, hr5⟩ := owns_slice ho5
  have HO5 := Lib.hid ho5
  clear hsz3 hat3 hmn3' hB5 hb5 hst3 hR3 hmn3 hfit3 hF3 HE hr5 ho5 hc6 hus
  go_wp2_with (fail)
  refine HD2.out.mono ?_
  rintro e w6 ⟨S4, hst4, ⟨rfl, hR4, hmn4, hfit4⟩ | ⟨rfl, _, hno⟩⟩
  case inr => exact absurd (by rw [E4_len, HN3.out.1, HN3.out.2.1]; decide) hno
  have hb6 : Below w.heap.size w w6 := HB5.out.2.1.trans (hst4.below HB5.out.1.own HB5.out.1.size)
  have hr6 := (owns_slice (owns_frm HO5.out hst4.frm (fun i hi => HB5.out.1.st.row_own HO5.out (by decide) hi)))
  obtain ⟨A6, c7, he6, _, _, hr6⟩ := hr6
  simp only [Value.slice.injEq, true_and] at he6
  obtain ⟨rfl, rfl⟩ := he6
  have hbn : Below w6.heap.size w6 (w6.alloc (.cells #[.int .i64 1] 3)) := (Below.refl _ _).alloc (Nat.le_refl _) _
  have HS := Lib.hid (sameInts_any A5 (some ⟨w6.heap.size, 0, none⟩) c6 1 [1] [1] (w6.alloc (.cells #[.int .i64 1] 3)) (hr6.below hbn) (Rd.of_block (L := [iv 1]) (hal_at rfl) 0 1) (by simp))
  have HB6 := Lib.hid (hb6.trans (hbn.mono hb6.size))
  clear hb6 hbn hr6 hst4 hR4 hmn4 hfit4 HD2 kc
  go_wp2_with (fail)
  refine HS.out.mono ?_
  rintro e w7 ⟨rfl, hb7⟩
  go_wp2_with (fail)
  go_ret
  exact ⟨rfl, HB6.out.trans (hb7.mono HB6.out.size)⟩
end Go.Proofs.YtchiikfdmogfpaaGreatDoor
