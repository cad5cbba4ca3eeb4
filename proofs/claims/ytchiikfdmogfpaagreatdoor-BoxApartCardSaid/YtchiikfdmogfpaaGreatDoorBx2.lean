/- box.Next. -/
import Derived.Test.YtchiikfdmogfpaaGreatDoorPl3
import Derived.Test.YtchiikfdmogfpaaGreatDoorBx1
namespace Go.Proofs.YtchiikfdmogfpaaGreatDoor
open Go.RowKit

/-- A box over a store; all that it may write lies from B on. -/
structure Bx (B bx : Nat) (S : Sv) (w : World) : Prop where
  box : w.heap[bx]? = some (.cells #[.pointer (some ⟨S.s, 0, none⟩)] 66 (0, 0))
  st : S.At w
  tab : TabG w
  own : ∀ x, S.Own x → B ≤ x
  size : B ≤ w.heap.size
  g : 5 ≤ B
theorem Bx.lt {B bx : Nat} {S : Sv} {w : World} (h : Bx B bx S w) : bx < w.heap.size := (Array.getElem?_eq_some_iff.1 h.box).1
theorem Bx.c0 {B bx : Nat} {S : Sv} {w : World} (h : Bx B bx S w) : w.cell? ⟨bx, 0, none⟩ = some (.pointer (some ⟨S.s, 0, none⟩)) := cell_of_row w bx 0 _ _ _ h.box
theorem tab_block : Tryz.prog.globalNamed "internal/strconv.uint64pow10" = some 2 := by kernel_rfl
theorem TabG.below {B : Nat} {w w' : World} (h : TabG w) (hb : Below B w w') (hB : 5 ≤ B) : TabG w' := var?_below hb tab_block (by omega) h
theorem Bx.not_own {B bx : Nat} {S : Sv} {w : World} (h : Bx B bx S w) : ¬ S.Own bx := fun hx => by
  have hb := h.box
  have hS := h.st
  rcases hx with e | e | e | e | e
  · have h9 := hS.st; unfold StAt at h9; rw [← e, hb] at h9; simp at h9
  · have h9 := hS.jr.d.hd; rw [← e, hb] at h9; simp at h9
  · have h9 := hS.jr.j; unfold JAt at h9; rw [← e, hb] at h9; simp at h9
  · have h9 := hS.jr.d.row; rw [← e, hb] at h9; simp at h9
  · exact owns_ne hS.jr.r hb (by decide) e
theorem Bx.step {B bx : Nat} {S T : Sv} {w w' : World} (h : Bx B bx S w) (k : S.Step T w w') : Bx B bx T w' :=
  ⟨by rw [k.s]; exact (k.frm.block bx h.lt h.not_own).trans h.box, k.here, h.tab.below (k.below h.own h.size) h.g, k.base h.own h.size, Nat.le_trans h.size k.frm.size, h.g⟩
theorem Bx.below {B bx : Nat} {S : Sv} {w w' : World} (h : Bx B bx S w) (hb : Below w.heap.size w w') : Bx B bx S w' := h.step (.of_below h.st hb)

theorem wraps_i64 (n : Int) (h0 : -9223372036854775808 ≤ n) (h1 : n ≤ 9223372036854775807) : IntKind.i64.wrap n = n := by rw [IntKind.wrap_i64]; omega
theorem shl8_or_i (x : Nat) (c : UInt8) (hx : x < 256 ^ 6) :
    bits .or .i64 (wrap64 ((x : Int) * 256)) (wrap64 (c.toNat : Int)) = ((x * 256 + c.toNat : Nat) : Int) := by
  have hc := c.toNat_lt
  have hx' : x < 281474976710656 := hx
  rw [show wrap64 ((x : Int) * 256) = (x : Int) * 256 from by unfold wrap64; omega, show wrap64 (c.toNat : Int) = c.toNat from by unfold wrap64; omega]
  rw [bits_join .i64 63 (by decide) (fun n h0 h1 => wraps_i64 n (by omega) (by omega)) 8 ((x : Int) * 256) (c.toNat : Int) (by omega) (by omega) (by omega) (by omega) (by omega) (by omega)]
  omega

set_option maxRecDepth 20000 in
set_option maxHeartbeats 1000000 in
theorem next_any {B bx : Nat} {S : Sv} {w : World} (h : Bx B bx S w) {V : BState} (hr : BRel S.C V) (f : Bytes) (hf : f.length ≤ 900000000000000) :
    Calls Tryz.prog 23 #[.pointer (some ⟨bx, 0, none⟩), .string ⟨f.toArray⟩] w fun e w' => e = .returned (.int .i64 (V.next f)) ∧ Below w.heap.size w w' := by
  have c0 := h.c0
  have HG := Lib.hid (get_any S.s S.j S.b S.mn S.M S.C (nkeyOf f) w h.st.st h.st.m h.st.h (by simp [nkeyOf]; omega) (fun l e => by have := (h.st.ok _ l e).2.2; omega))
  have HF := Lib.hid (fun w => folder_any f (by omega) w)
  have HK : Hid ((⟨#[110, 58]⟩ : ByteArray) ++ ⟨f.toArray⟩ = ⟨(nkeyOf f).toArray⟩) := Lib.hid (str_cat [110, 58] f)
  go_enter Tryz.func23, Tryz.ntmps23
  go_wp2_with (fail)
  rw [HK.out]
  refine HG.out.mono ?_
  rintro e w1 ⟨v, rfl, ho, hb⟩
  have HH := Lib.hid hr
  have HX := Lib.hid h
  have hnb := (hr.pos f).2
  have HN := Lib.hid hnb
  clear h hr hnb c0
  cases hok : folderOk f with
  | false =>
    have HV := Lib.hid (HH.out.bad f hok)
    rw [hok] at HF
    clear hok
    cases hc : (S.C (nkeyOf f)).isSome with
    | false =>
      clear hc
      go_wp2_with (fail)
      go_ret
      exact ⟨by rw [HV.out]; rfl, hb⟩
    | true =>
      clear hc
      go_wp2_with (fail)
      refine (HF.out _).mono ?_
      rintro e w2 ⟨rfl, hb2⟩
      go_wp2_with (fail)
      go_ret
      exact ⟨by rw [HV.out]; rfl, hb.trans (hb2.mono hb.size)⟩
  | true =>
    rcases HH.out.next f hok with ⟨hC, hV⟩ | hC
    · have HV := Lib.hid hV
      rw [hC]
      clear hok hC hV
      go_wp2_with (fail)
      go_ret
      exact ⟨by rw [HV.out]; rfl, hb⟩
    · obtain ⟨N, hN⟩ : ∃ N, V.next f = N := ⟨_, rfl⟩
      rw [hC] at ho
      rw [hN] at ho HN
      rw [hC, hN]
      rw [hok] at HF
      simp only [Option.getD_some] at ho
      have HNV := Lib.hid hN
      clear hok hC hN
      rw [beN_length] at ho
      have hlen := beN_length N 8
      obtain ⟨A, c, rfl, hc, _, hrd⟩ := owns_slice ho
      obtain ⟨l, hl⟩ : ∃ l, beN N 8 = l := ⟨_, rfl⟩
      have HL : Hid (beVal l = N ∧ ∀ k, k ≤ 8 → beVal (l.take k) ≤ N) := Lib.hid (by
        rw [← hl]
        refine ⟨?_, fun k hk => beVal_take_le N 8 k hk⟩
        rw [beVal_beN]; have := HN.out; exact Nat.mod_eq_of_lt (by omega))
      rw [hl] at hlen hrd
      have HB := Lib.hid hb
      have HLN := Lib.hid hlen
      clear hl ho hb hc
      go_wp2_with (fail)
      refine (HF.out _).mono ?_
      rintro e w2 ⟨rfl, hb2⟩
      have hrd2 := hrd.below hb2
      go_wp2_with (fail)
      go_loop [7, 29] (fun v i => ∃ k : Nat, k ≤ 8 ∧ i = .int .i64 k ∧ v = .int .i64 (beVal (l.take k))) (fun _ i => 8 - (intOf i).toNat)
      case atStart => exact ⟨0, Nat.zero_le _, rfl, rfl⟩
      case round =>
        obtain ⟨k, hk, rfl, rfl⟩ := hrel
        by_cases hlt : k < 8
        · have hkl : k < l.length := by rw [HLN.out]; exact hlt
          obtain ⟨b, o, rfl, _, hc⟩ := hrd2 (by intro e; simp at e; subst e; simp at hkl)
          have hcell : w2.cell? ⟨b, o + k, none⟩ = some (.int .u8 l[k].toNat) := hc k _ (by simp [hkl, bv])
          clear hc hrd2 hrd
          go_wp2
          go_round
          case rel =>
            refine ⟨k + 1, by omega, by go_num, ?_⟩
            rw [beVal_take l k hkl, shl8_or_i]
            have := HL.out.2 k hk
            have := HN.out
            omega
          case measure => simp [intOf]; omega
        · obtain rfl : k = 8 := by omega
          go_wp2
          go_ret
          refine ⟨ret_int ?_, HB.out.trans (hb2.mono HB.out.size)⟩
          rw [List.take_of_length_le (by rw [HLN.out]; exact Nat.le_refl _), HL.out.1, HNV.out]
end Go.Proofs.YtchiikfdmogfpaaGreatDoor
