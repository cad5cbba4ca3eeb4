/- store.Commit, in one; a store's state as one record. -/
import Derived.Test.YtchiikfdmogfpaaGreatDoorSt8
namespace Go.Proofs.YtchiikfdmogfpaaGreatDoor
open Go.RowKit

/-- A store: where its parts lie, how far its journal goes, what it holds. -/
structure Sv where
  s : Nat
  j : Nat
  d : Nat
  L : Nat
  n : Nat
  fr : Nat
  sz : Nat
  gen : Nat
  at_ : Nat
  k : Nat
  rv : Value
  img : Bytes
  xs : List Value
  b : Nat
  mn : Nat
  M : Bytes → Option Value
  C : Bytes → Option Bytes
def Sv.At (S : Sv) (w : World) : Prop := StoreAt w S.s S.j S.d S.L S.n S.fr S.sz S.gen S.at_ S.k S.rv S.img S.xs S.b S.mn S.M S.C
def Sv.Own (S : Sv) : Nat → Prop := SOwn S.s S.j S.d S.L S.rv
/-- The store has gone on from S to S'. -/
structure Sv.Step (S S' : Sv) (w w' : World) : Prop where
  here : S'.At w'
  s : S'.s = S.s
  d : S'.d = S.d
  L : S'.L = S.L
  n : S'.n = S.n
  sz : S'.sz = S.sz
  frm : Frm S.Own w w'
  own : ∀ x, S'.Own x → S.Own x ∨ w.heap.size ≤ x
/-- .. by one record behind the others. -/
structure Sv.Fit (S S' : Sv) (w' : World) (E : Bytes) : Prop where
  j : S'.j = S.j
  fr : S'.fr = S.fr
  gen : S'.gen = S.gen
  at_ : S'.at_ = S.at_ + blocksOf E.length
  k : S'.k = S.k + 1
  img : S'.img = doneTo S.img (writesOf S.gen S.k (S.fr + S.at_) E (blocksOf E.length) (blocksOf E.length))
  xs : ∃ v, S'.xs = S.xs ++ [v] ∧ w'.ownsRow 0 5 1 v E.length (E.map bv)

theorem Sv.At.lt {S : Sv} {w : World} (h : S.At w) {x : Nat} (hx : S.Own x) : x < w.heap.size := by
  rcases hx with e | e | e | e | e
  · exact e ▸ h.st.lt
  · exact e ▸ h.jr.d.ltd
  · exact e ▸ h.jr.j.lt
  · exact e ▸ h.jr.d.ltL
  · exact (h.jr.r.lt x e).2
theorem Sv.At.noBytes {S : Sv} {w : World} (h : S.At w) : NoBytes w S.Own := fun x hx cur hc => by
  rcases hx with e | e
  · subst e; have h9 := h.st; unfold StAt at h9; rw [h9] at hc; simp at hc
  · exact jown_noBytes h.jr x e cur hc
theorem Sv.At.b_own {S : Sv} {w : World} (h : S.At w) : ¬ S.Own S.b := fun hx => by
  obtain ⟨D, ⟨es, clock, hb, _⟩, _⟩ := h.m
  rcases hx with e | e | e | e | e
  · have h9 := h.st; unfold StAt at h9; rw [← e, hb] at h9; simp at h9
  · have h9 := h.jr.d.hd; rw [← e, hb] at h9; simp at h9
  · have h9 := h.jr.j; unfold JAt at h9; rw [← e, hb] at h9; simp at h9
  · have h9 := h.jr.d.row; rw [← e, hb] at h9; simp at h9
  · obtain ⟨cur, hc⟩ := owns_elem h.jr.r e; rw [hb] at hc; simp at hc
/-- What was there before and is not its own stays; so stays the store where nothing of its own turns. -/
theorem Sv.At.frm {F : Nat → Prop} {S : Sv} {w w' : World} (h : S.At w) (hf : Frm F w w') (ho : ∀ x, S.Own x → ¬ F x) (hb : ¬ F S.b) (hn : NoBytes w F) : S.At w' :=
  ⟨h.jr.frm hf (fun x hx => ho x (.inr hx)), h.st.frm hf (ho _ (.inl rfl)), h.m.frm hf hb, h.h.frm hf hn, h.ok⟩
theorem Sv.At.below {S : Sv} {w w' : World} (h : S.At w) (hb : Below w.heap.size w w') : S.At w' :=
  h.frm (F := NoB) (Frm.of_below hb) (fun _ _ e => e) id (fun _ e => e.elim)
theorem Sv.Step.of_below {S : Sv} {w w' : World} (h : S.At w) (hb : Below w.heap.size w w') : S.Step S w w' :=
  ⟨h.below hb, rfl, rfl, rfl, rfl, rfl, Frm.of_below hb, fun _ e => .inl e⟩
theorem Sv.Step.trans {S T U : Sv} {w w1 w2 : World} (h : S.Step T w w1) (k : T.Step U w1 w2) : S.Step U w w2 :=
  ⟨k.here, k.s.trans h.s, k.d.trans h.d, k.L.trans h.L, k.n.trans h.n, k.sz.trans h.sz, h.frm.then k.frm (fun i hi e => by rcases h.own i e with g | g; exact g; omega),
    fun x hx => by
      rcases k.own x hx with g | g
      · exact h.own x g
      · exact .inr (by have := h.frm.size; omega)⟩
theorem Sv.Step.then_below {S T : Sv} {w w1 w2 : World} (h : S.Step T w w1) (hb : Below w1.heap.size w1 w2) : S.Step T w w2 := h.trans (.of_below h.here hb)
theorem Sv.Step.below_then {S T : Sv} {w w1 w2 : World} (hs : S.At w) (hb : Below w.heap.size w w1) (h : S.Step T w1 w2) : S.Step T w w2 := (Sv.Step.of_below hs hb).trans h
/-- Where all its own lies from B on, what is below B stays. -/
theorem Sv.Step.below {S T : Sv} {w w1 : World} {B : Nat} (h : S.Step T w w1) (hB : ∀ x, S.Own x → B ≤ x) (hs : B ≤ w.heap.size) : Below B w w1 :=
  ⟨h.frm.os, h.frm.tape, h.frm.output, h.frm.size, fun i hi => h.frm.block i (by omega) (fun e => by have := hB i e; omega)⟩
theorem Sv.Step.base {S T : Sv} {w w1 : World} {B : Nat} (h : S.Step T w w1) (hB : ∀ x, S.Own x → B ≤ x) (hs : B ≤ w.heap.size) : ∀ x, T.Own x → B ≤ x := fun x hx => by
  rcases h.own x hx with g | g
  · exact hB x g
  · omega

theorem commit_any (S : Sv) (ps : List Pr) (A : Option Addr) (cap : Nat) (w : World) (h : S.At w) (hrd : Rd w A (ps.flatMap Pr.cells)) (hok : ∀ p ∈ ps, p.Ok w) (hn : S.mn + ps.length ≤ 10000) (hpa : ∀ p ∈ ps, ∀ a, p.A = some a → a.block < w.heap.size) :
    Calls Tryz.prog 27 #[.pointer (some ⟨S.s, 0, none⟩), .slice A ps.length cap] w fun e w' =>
      ∃ S', S.Step S' w w' ∧ ((e = .returned (.int .i64 0) ∧ S'.C = doC S.C ps ∧ S'.mn = S.mn + ps.length ∧ (S.at_ + blocksOf (encAll ps).length ≤ S.sz → S.Fit S' w' (encAll ps))) ∨
        (e = .returned (.int .i64 6) ∧ S' = S ∧ ¬ S.at_ + blocksOf (encAll ps).length ≤ S.sz)) := by
  by_cases hfit : S.at_ + blocksOf (encAll ps).length ≤ S.sz
  · refine (commit_fits S.s S.j S.d S.L S.n S.fr S.sz S.gen S.at_ S.k S.rv S.img S.xs S.b S.mn S.M S.C ps A cap w h hrd hok hn hpa hfit).mono ?_
    rintro e w' ⟨rfl, rv', v, b', M', h1, h2, h3, h4⟩
    refine ⟨{ S with at_ := S.at_ + blocksOf (encAll ps).length, k := S.k + 1, rv := rv', img := _, xs := S.xs ++ [v], b := b', mn := S.mn + ps.length, M := M', C := doC S.C ps }, ⟨h1, rfl, rfl, rfl, rfl, rfl, h3, h4⟩, .inl ⟨rfl, rfl, rfl, fun _ => ⟨rfl, rfl, rfl, rfl, rfl, rfl, v, rfl, h2.base (Nat.zero_le _)⟩⟩⟩
  · refine (commit_full S.s S.j S.d S.L S.n S.fr S.sz S.gen S.at_ S.k S.rv S.img S.xs S.b S.mn S.M S.C ps A cap w h hrd hok hn hpa hfit).mono ?_
    rintro e w' (⟨rfl, fr', gen', at', rv', img', v, b', M', h1, h2, h3⟩ | ⟨rfl, hb⟩)
    · exact ⟨{ S with fr := fr', gen := gen', at_ := at', k := 1, rv := rv', img := img', xs := [v], b := b', mn := S.mn + ps.length, M := M', C := doC S.C ps }, ⟨h1, rfl, rfl, rfl, rfl, rfl, h2, h3⟩, .inl ⟨rfl, rfl, rfl, fun hf => absurd hf hfit⟩⟩
    · exact ⟨S, .of_below h hb, .inr ⟨rfl, rfl, hfit⟩⟩
end Go.Proofs.YtchiikfdmogfpaaGreatDoor
