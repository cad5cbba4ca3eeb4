/- journal: a journal and its disk; Append. -/
import Derived.Test.YtchiikfdmogfpaaGreatDoorJour4
import Derived.Test.YtchiikfdmogfpaaGreatDoorDisk4
namespace Go.Proofs.YtchiikfdmogfpaaGreatDoor
open Go.RowKit

/-- A journal with its disk, on which nothing waits. -/
structure JourAt (w : World) (j d L n fr sz gen at_ k : Nat) (rv : Value) (img : Bytes) (xs : List Value) : Prop where
  j : JAt w j d fr sz gen rv at_
  d : DiskAt w d L n img (.slice none 0 0)
  r : w.ownsRow 0 24 1 rv k xs
  hn : n ≤ 65536
  hf : fr + sz ≤ n
  hs : sz ≤ 32768
  hk : k ≤ at_
  ha : at_ ≤ sz
  hf2 : sz - fr + sz ≤ n
  hfs : fr ≤ sz

/-- The blocks that a journal may write. -/
def JOwn (j d L : Nat) (rv : Value) (b : Nat) : Prop := b = d ∨ b = j ∨ b = L ∨ rv.ownBlock = some b

theorem Frm.drewN0 {F : Nat → Prop} {q : Nat} {a b : World} (h : Frm F (a.drewN q) b) : Frm F a b := ⟨h.os, h.tape, h.output, h.size, h.block⟩
theorem jd_ne {w : World} {j d L n fr sz gen at_ : Nat} {rv pv : Value} {img : Bytes} (hj : JAt w j d fr sz gen rv at_) (h : DiskAt w d L n img pv) : j ≠ d := fun e => by
  subst e; have h1 := h.hd; unfold JAt at hj; rw [hj] at h1; simp at h1
theorem jL_ne {w : World} {j d L n fr sz gen at_ : Nat} {rv pv : Value} {img : Bytes} (hj : JAt w j d fr sz gen rv at_) (h : DiskAt w d L n img pv) : j ≠ L := fun e => by
  subst e; have h1 := h.row; unfold JAt at hj; rw [hj] at h1; simp at h1
theorem fits_writes (n g r pos : Nat) (b : Bytes) (N k : Nat) (h : pos + k ≤ n) : Fits n (writesOf g r pos b N k) := by
  intro p hp
  unfold writesOf at hp
  obtain ⟨i, hi, rfl⟩ := List.mem_map.1 hp
  have hi := List.mem_range.1 hi
  refine ⟨by simp; omega, ?_⟩
  simp only [blockBytes, List.length_append, markOf_length, beN_length, noughts_length]
  have := partOf_le b i
  omega
theorem writesOf_length (g r pos : Nat) (b : Bytes) (N k : Nat) : (writesOf g r pos b N k).length = k := by simp [writesOf]

set_option maxRecDepth 20000 in
set_option maxHeartbeats 1000000 in
theorem append_yes (j d L n fr sz gen at_ k : Nat) (rv : Value) (img b : Bytes) (xs : List Value) (A : Option Addr) (cap : Nat) (w : World) (h : JourAt w j d L n fr sz gen at_ k rv img xs)
    (hbl : b.length ≤ 4000000000) (hbc : b.length ≤ cap) (hrd : Rd w A (b.map bv)) (hA : ∀ a, A = some a → a.block ≠ d ∧ a.block ≠ j) (hfit : at_ + blocksOf b.length ≤ sz) :
    Calls Tryz.prog 40 #[.pointer (some ⟨j, 0, none⟩), .slice A b.length cap] w fun e w' => e = .returned (.int .i64 0) ∧ ∃ rv' v,
      JourAt w' j d L n fr sz gen (at_ + blocksOf b.length) (k + 1) rv' (doneTo img (writesOf gen k (fr + at_) b (blocksOf b.length) (blocksOf b.length))) (xs ++ [v]) ∧ w'.ownsRow w.heap.size 5 1 v b.length (b.map bv) ∧
      Frm (JOwn j d L rv) w w' ∧ (∀ b, JOwn j d L rv' b → JOwn j d L rv b ∨ w.heap.size ≤ b) := by
  have hf := h.hf
  have hs := h.hs
  have hn := h.hn
  have hb1 : 1 ≤ blocksOf b.length := by unfold blocksOf; omega
  have HF := Lib.hid (fits_yes j d fr sz gen at_ rv b.length w h.j (by omega) hfit)
  have HL := fun q => Lib.hid (lay_any j d L n fr sz gen at_ k 0 rv img b xs A cap (w.drewN q) h.j ⟨h.d.hd, h.d.row, h.d.len⟩ h.r (Nat.zero_le _) hn hbl hbc hrd hA (by omega) (by omega) (by have := h.hk; omega))
  go_enter Tryz.func40, Tryz.ntmps40
  go_wp2_with (fail)
  refine HF.out.mono ?_
  rintro e w1 ⟨rfl, q, rfl⟩
  go_wp2_with (fail)
  refine (HL q).out.mono ?_
  rintro e w2 ⟨rfl, pv2, rv2, v2, hj2, hd2, ho2, hr2, hv2, hf2, hl2⟩
  have HS := Lib.hid (sync_any d L n img pv2 _ _ w2 hd2 (fits_writes n gen k (fr + at_) b (blocksOf b.length) (blocksOf b.length) (by omega)) (by rw [writesOf_length]; omega) (by rw [writesOf_length]; exact ho2))
  have c0 := hj2.c0
  go_wp2_with (fail)
  refine HS.out.mono ?_
  rintro e w3 ⟨rfl, hd3, hf3⟩
  go_wp2_with (fail)
  go_ret
  have hj3 := hj2.frm hf3 (fun e => by rcases e with e | e; exact jd_ne hj2 hd2 e; exact jL_ne hj2 hd2 e)
  have hr3 := owns_frm hr2 hf3 (fun i hi e => by
    rcases e with e | e
    · exact owns_ne hr2 hd2.hd (by decide) (e ▸ hi)
    · exact owns_ne hr2 hd2.row (by decide) (e ▸ hi))
  have hv3 := owns_frm hv2 hf3 (fun i hi e => by
    rcases e with e | e
    · exact owns_ne hv2 hd2.hd (by decide) (e ▸ hi)
    · exact owns_ne hv2 hd2.row (by decide) (e ▸ hi))
  refine ⟨rfl, rv2, v2, ⟨hj3, hd3, hr3, hn, hf, hs, by have := h.hk; omega, by omega, h.hf2, h.hfs⟩, hv3, ?_, ?_⟩
  · exact ((hf2.drewN0).weaken (G := JOwn j d L rv) (fun i _ e => by rcases e with e | e | e; exact .inl e; exact .inr (.inl e); exact .inr (.inr (.inr e)))).then hf3 (fun i _ e => by rcases e with e | e; exact .inl e; exact .inr (.inr (.inl e)))
  · intro i hi
    rcases hi with e | e | e | e
    · exact .inl (.inl e)
    · exact .inl (.inr (.inl e))
    · exact .inl (.inr (.inr (.inl e)))
    · rcases hl2 with g | g
      · exact .inl (.inr (.inr (.inr (g ▸ e))))
      · exact .inr (by have := g i e; simpa using this)
end Go.Proofs.YtchiikfdmogfpaaGreatDoor
