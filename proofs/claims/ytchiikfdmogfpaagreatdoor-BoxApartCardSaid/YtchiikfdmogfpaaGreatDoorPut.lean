/- journal.put, store.put, journal.get: numbers as bytes, and back. -/
import Derived.Test.YtchiikfdmogfpaaGreatDoorRows
import Derived.Test.YtchiikfdmogfpaaGreatDoorBase
import Derived.Lib.EndianBits
namespace Go.Proofs.YtchiikfdmogfpaaGreatDoor
open Go.RowKit

theorem Tryz.under5 : Tryz.prog.underlying 24 = some (.slice 5) := by kernel_rfl
theorem Tryz.infoU8 : (Tryz.prog.info? 5).map (fun i => (i.zero, i.size, i.bytes)) = some (some (.int .u8 0), 1, 1) := by kernel_rfl

/-- The low n bytes of v, the highest first. -/
def beN (v : Nat) : Nat → Bytes
  | 0 => []
  | n + 1 => UInt8.ofNat (v / 256 ^ n) :: beN v n
theorem beN_length (v n : Nat) : (beN v n).length = n := by induction n with
  | zero => rfl
  | succ n ih => simp [beN, ih]

theorem beN_get (v : Nat) : ∀ n k, k < n → (beN v n)[k]? = some (UInt8.ofNat (v / 256 ^ (n - 1 - k)))
  | n + 1, 0, _ => by simp [beN]
  | n + 1, k + 1, h => by
    rw [beN, List.getElem?_cons_succ, beN_get v n k (by omega)]
    rw [show n + 1 - 1 - (k + 1) = n - 1 - k from by omega]
theorem bv_ofNat (m : Nat) : bv (UInt8.ofNat m) = .int .u8 ((m : Int) % 256) := by
  unfold bv; simp
theorem beN_step (v n k : Nat) (h : k < n) : ((beN v n).take (k + 1)).map bv = ((beN v n).map bv).take k ++ [.int .u8 ((v : Int) / 2 ^ (8 * (n - 1 - k)) % 256)] := by
  rw [List.take_add_one, List.map_append, List.map_take, beN_get v n k h]
  simp only [Option.toList_some, List.map_cons, List.map_nil, bv_ofNat]
  rw [show (256 : Nat) = 2 ^ 8 from rfl, ← Nat.pow_mul]
  simp
set_option maxRecDepth 20000 in
set_option maxHeartbeats 400000 in
theorem jput_any (v : Nat) (n : Nat) (hn : n ≤ 8) (base : Nat) (ov : Value) (len : Nat) (xs : List Value) (w : World) (hb : base ≤ w.heap.size)
    (hl : len ≤ 1000000000000) (h : w.ownsRow base 5 1 ov len xs) :
    Calls Tryz.prog 105 #[ov, .int .u64 v, .int .i64 n] w fun e w' => ∃ v', e = .returned v' ∧ Row w w' ov v' base 5 1 (len + n) (xs ++ (beN v n).map bv) := by
  obtain ⟨i0, hi, hz0, hz1, hz2⟩ := info_parts Tryz.infoU8
  have HL := Lib.hid hl
  clear hl
  go_enter Tryz.func105, Tryz.ntmps105
  go_wp2
  go_loopw [0, 7] (fun o i wr => ∃ k : Nat, k ≤ n ∧ i = .int .i64 ((n : Int) - 1 - k) ∧ Row w wr ov o base 5 1 (len + k) (xs ++ ((beN v n).take k).map bv))
    (fun _ i _ => (intOf i + 1).toNat)
  case atStart => exact ⟨0, Nat.zero_le _, by simp, by simpa using Row.start h⟩
  case round =>
    obtain ⟨k, hk, rfl, hrow⟩ := hrel
    by_cases hlt : k < n
    · go_wp2_with (at_builtin; refine wpList_append_own_at _ rfl _ _ 24 rfl base 5 i0 (.int .u8 0) 1 1 Tryz.under5 hi hz0 hz1 hz2 rfl (by decide) _ _ _ rfl (hrow.own.alloc _) ⟨wr.heap.size, 0, none⟩ 1 1 _ rfl rfl (cell_one_new _ _ _) ?c2 ?c3 ?c4 ?c5 ?_)
      case c2 => intro u hu; simp at hu; subst hu; rfl
      case c3 => have := HL.out; unfold maxLen; omega
      case c4 => have := HL.out; omega
      case c5 => have := hrow.grow.size; simp; omega
      · intro v' w1 hown' hgrow _ hloc
        go_wp2
        go_roundw
        case rel =>
          refine ⟨k + 1, by omega, by go_num, ?_⟩
          have hr := Row.app _ hrow hown' hgrow (by simpa using hloc)
          rw [beN_step v n k hlt]
          exact hr
        case measure => simp [intOf]; omega
    · obtain rfl : k = n := by omega
      go_wp2
      go_ret
      rw [List.take_of_length_le (by rw [beN_length]; exact Nat.le_refl _)] at hrow
      exact ⟨_, rfl, hrow⟩
set_option maxRecDepth 20000 in
set_option maxHeartbeats 400000 in
theorem sput_any (v : Nat) (n : Nat) (hn : n ≤ 8) (base : Nat) (ov : Value) (len : Nat) (xs : List Value) (w : World) (hb : base ≤ w.heap.size)
    (hl : len ≤ 1000000000000) (h : w.ownsRow base 5 1 ov len xs) :
    Calls Tryz.prog 55 #[ov, .int .i64 v, .int .i64 n] w fun e w' => ∃ v', e = .returned v' ∧ Row w w' ov v' base 5 1 (len + n) (xs ++ (beN v n).map bv) := by
  obtain ⟨i0, hi, hz0, hz1, hz2⟩ := info_parts Tryz.infoU8
  have HL := Lib.hid hl
  clear hl
  go_enter Tryz.func55, Tryz.ntmps55
  go_wp2
  go_loopw [0, 7] (fun o i wr => ∃ k : Nat, k ≤ n ∧ i = .int .i64 ((n : Int) - 1 - k) ∧ Row w wr ov o base 5 1 (len + k) (xs ++ ((beN v n).take k).map bv))
    (fun _ i _ => (intOf i + 1).toNat)
  case atStart => exact ⟨0, Nat.zero_le _, by simp, by simpa using Row.start h⟩
  case round =>
    obtain ⟨k, hk, rfl, hrow⟩ := hrel
    by_cases hlt : k < n
    · go_wp2_with (at_builtin; refine wpList_append_own_at _ rfl _ _ 24 rfl base 5 i0 (.int .u8 0) 1 1 Tryz.under5 hi hz0 hz1 hz2 rfl (by decide) _ _ _ rfl (hrow.own.alloc _) ⟨wr.heap.size, 0, none⟩ 1 1 _ rfl rfl (cell_one_new _ _ _) ?c2 ?c3 ?c4 ?c5 ?_)
      case c2 => intro u hu; simp at hu; subst hu; rfl
      case c3 => have := HL.out; unfold maxLen; omega
      case c4 => have := HL.out; omega
      case c5 => have := hrow.grow.size; simp; omega
      · intro v' w1 hown' hgrow _ hloc
        go_wp2
        go_roundw
        case rel =>
          refine ⟨k + 1, by omega, by go_num, ?_⟩
          have hr := Row.app _ hrow hown' hgrow (by simpa using hloc)
          rw [beN_step v n k hlt]
          exact hr
        case measure => simp [intOf]; omega
    · obtain rfl : k = n := by omega
      go_wp2
      go_ret
      rw [List.take_of_length_le (by rw [beN_length]; exact Nat.le_refl _)] at hrow
      exact ⟨_, rfl, hrow⟩

theorem jputB (v n : Int) (hv : 0 ≤ v) (hn0 : 0 ≤ n) (hn : n ≤ 8) {base : Nat} {ov : Value} {len : Nat} {xs : List Value} (w : World) (h : w.ownsRow base 5 1 ov len xs) (hb : base ≤ w.heap.size)
    (hl : len ≤ 1000000000000) :
    Calls Tryz.prog 105 #[ov, .int .u64 v, .int .i64 n] w fun e w' => ∃ v', e = .returned v' ∧ w'.ownsRow base 5 1 v' (len + n.toNat) (xs ++ (beN v.toNat n.toNat).map bv) ∧ Below base w w' := by
  obtain ⟨v, rfl⟩ := Int.eq_ofNat_of_zero_le hv
  obtain ⟨n, rfl⟩ := Int.eq_ofNat_of_zero_le hn0
  exact (jput_any v n (by omega) base ov len xs w hb hl h).mono fun e w' ⟨v', he, hr⟩ => ⟨v', he, hr.own, hr.below h hb⟩
theorem sputB (v n : Int) (hv : 0 ≤ v) (hn0 : 0 ≤ n) (hn : n ≤ 8) {base : Nat} {ov : Value} {len : Nat} {xs : List Value} (w : World) (h : w.ownsRow base 5 1 ov len xs) (hb : base ≤ w.heap.size)
    (hl : len ≤ 1000000000000) :
    Calls Tryz.prog 55 #[ov, .int .i64 v, .int .i64 n] w fun e w' => ∃ v', e = .returned v' ∧ w'.ownsRow base 5 1 v' (len + n.toNat) (xs ++ (beN v.toNat n.toNat).map bv) ∧ Below base w w' := by
  obtain ⟨v, rfl⟩ := Int.eq_ofNat_of_zero_le hv
  obtain ⟨n, rfl⟩ := Int.eq_ofNat_of_zero_le hn0
  exact (sput_any v n (by omega) base ov len xs w hb hl h).mono fun e w' ⟨v', he, hr⟩ => ⟨v', he, hr.own, hr.below h hb⟩

/-- The number that bytes tell. -/
def beVal (l : Bytes) : Nat := l.foldl (fun v c => v * 256 + c.toNat) 0
theorem beVal_snoc (l : Bytes) (c : UInt8) : beVal (l ++ [c]) = beVal l * 256 + c.toNat := by simp [beVal]
theorem beVal_lt (l : Bytes) : beVal l < 256 ^ l.length := by
  rw [← l.reverse_reverse]
  generalize l.reverse = r
  induction r with
  | nil => simp [beVal]
  | cons c r ih =>
    rw [List.reverse_cons, beVal_snoc, List.length_append, List.length_singleton, Nat.pow_succ]
    have := c.toNat_lt
    omega
theorem shl8_or (x : Nat) (c : UInt8) (hx : x < 256 ^ 6) :
    bits .or .u64 (IntKind.u64.wrap ((x : Int) * 256)) (IntKind.u64.wrap (c.toNat : Int)) = ((x * 256 + c.toNat : Nat) : Int) := by
  have hc := c.toNat_lt
  have hx' : x < 281474976710656 := hx
  rw [wraps_u64 _ (by omega) (by omega), wraps_u64 _ (by omega) (by omega)]
  rw [bits_join .u64 64 (by decide) (fun n h0 h1 => wraps_u64 n h0 h1) 8 ((x : Int) * 256) (c.toNat : Int) (by omega) (by omega) (by omega) (by omega) (by omega) (by omega)]
  omega
theorem beVal_take (l : Bytes) (k : Nat) (h : k < l.length) : beVal (l.take (k + 1)) = beVal (l.take k) * 256 + l[k].toNat := by
  rw [List.take_succ_eq_append_getElem h, beVal_snoc]

set_option maxRecDepth 20000 in
set_option maxHeartbeats 400000 in
theorem jget_any (A : Option Addr) (cap : Nat) (l : Bytes) (hl : l.length ≤ 7) (w : World) (h : Rd w A (l.map bv)) :
    Calls Tryz.prog 110 #[.slice A l.length cap] w fun e w' => e = .returned (.int .u64 (beVal l)) ∧ w = w' := by
  go_enter Tryz.func110, Tryz.ntmps110
  go_wp2
  go_loop [2, 7] (fun v i => ∃ k : Nat, k ≤ l.length ∧ i = .int .i64 k ∧ v = .int .u64 (beVal (l.take k))) (fun _ i => l.length - (intOf i).toNat)
  case atStart => exact ⟨0, Nat.zero_le _, rfl, rfl⟩
  case round =>
    obtain ⟨k, hk, rfl, rfl⟩ := hrel
    by_cases hlt : k < l.length
    · obtain ⟨b, o, rfl, _, hc⟩ := h (by intro e; simp at e; subst e; simp at hlt)
      have hcell : w.cell? ⟨b, o + k, none⟩ = some (.int .u8 l[k].toNat) := hc k _ (by simp [hlt, bv])
      clear hc h
      go_wp2
      go_round
      case rel =>
        refine ⟨k + 1, by omega, by go_num, ?_⟩
        rw [beVal_take l k hlt, shl8_or]
        refine Nat.lt_of_lt_of_le (beVal_lt _) (Nat.pow_le_pow_right (by omega) ?_)
        rw [List.length_take]; omega
      case measure => simp [intOf]; omega
    · obtain rfl : k = l.length := by omega
      go_wp2
      go_ret
      exact ⟨by simp, rfl⟩
end Go.Proofs.YtchiikfdmogfpaaGreatDoor
