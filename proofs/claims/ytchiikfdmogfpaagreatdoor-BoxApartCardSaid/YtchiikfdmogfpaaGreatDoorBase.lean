/- Words on memory for this seat's walks: byte rows, slices that read as lists, rows that a call owns, what a call leaves as it was. No program is named here. -/
import Derived.WalkKit
import Derived.WalkSpells
import Derived.WalkLawsBesides
import Derived.Maps.AppendAt
import Derived.Laws.CopyOwn
import Derived.Laws.AppendOwnNone
import Derived.Deep.MidRow
import Derived.Deep.LoopGhost
import Derived.BigQuiet
import Derived.Deep.QuietTactic
import Derived.Lib.Hide
namespace Go.Proofs.YtchiikfdmogfpaaGreatDoor
open Go.RowKit

/-- A byte as a value. -/
def bv (b : UInt8) : Value := .int .u8 b.toNat
abbrev Bytes := List UInt8
theorem bv_one (b : UInt8) : (bv b).oneCell' = true := rfl
theorem bvs_one (l : Bytes) : ∀ u ∈ l.map bv, u.oneCell' = true := by
  intro u hu; obtain ⟨b, _, rfl⟩ := List.mem_map.1 hu; rfl

/-- The cells xs can be read behind the address A (of no cells nothing is said). -/
def Rd (w : World) (A : Option Addr) (xs : List Value) : Prop :=
  xs ≠ [] → ∃ b o, A = some ⟨b, o, none⟩ ∧ b < w.heap.size ∧ ∀ j u, xs[j]? = some u → w.cell? ⟨b, o + j, none⟩ = some u

/-- A value that is a slice of these bytes. -/
def IsBs (w : World) (v : Value) (l : Bytes) : Prop := ∃ A c, v = .slice A l.length c ∧ l.length ≤ c ∧ Rd w A (l.map bv)

theorem lt_of_cell {w : World} {b o : Nat} {u : Value} (h : w.cell? ⟨b, o, none⟩ = some u) : b < w.heap.size := by
  unfold World.cell? at h
  cases hb : w.heap[b]? with
  | none => simp [hb] at h
  | some x => exact (Array.getElem?_eq_some_iff.1 hb).1

theorem Rd.below {w w' : World} {A : Option Addr} {xs : List Value} (h : Rd w A xs) (hb : Below w.heap.size w w') : Rd w' A xs := fun hne => by
  obtain ⟨b, o, e, hlt, hc⟩ := h hne
  exact ⟨b, o, e, Nat.lt_of_lt_of_le hlt hb.size, fun j u hu => (hb.cell (p := ⟨b, o + j, none⟩) hlt).trans (hc j u hu)⟩
theorem IsBs.below {w w' : World} {v : Value} {l : Bytes} (h : IsBs w v l) (hb : Below w.heap.size w w') : IsBs w' v l := by
  obtain ⟨A, c, e, hl, hr⟩ := h; exact ⟨A, c, e, hl, hr.below hb⟩
theorem Rd.nil (w : World) (A : Option Addr) : Rd w A [] := fun h => absurd rfl h
theorem IsBs.nil (w : World) : IsBs w (.slice none 0 0) [] := ⟨none, 0, rfl, Nat.le_refl _, Rd.nil _ _⟩

theorem heap_alloc_new' (w : World) (o : Obj) (k : Nat) (h : k = w.heap.size) : (w.alloc o).heap[k]? = some o := by subst h; exact heap_alloc_new w o

theorem hal_lt {w : World} {o : Obj} {k : Nat} (h : k < w.heap.size) : (w.alloc o).heap[k]? = w.heap[k]? := Below.heap_alloc w o k h
theorem hal_at {w : World} {o : Obj} {k : Nat} (h : k = w.heap.size) : (w.alloc o).heap[k]? = some o := heap_alloc_new' w o k h

theorem rangeAt_setCell {w : World} {b o : Nat} {cs : List Value} (h : w.rangeAt b o cs) {p : Addr} (hp : p.block ≠ b) (u : Value) : (w.setCell p u).rangeAt b o cs := fun j v hv =>
  (World.cell?_of_block (w := w) (a := ⟨b, o + j, none⟩) (Below.heap_setCell w p u b (fun e => hp e.symm))).trans (h j v hv)
theorem there_setCell {w : World} {b o n : Nat} (h : w.there b o n) {p : Addr} (hp : p.block ≠ b) (u : Value) : (w.setCell p u).there b o n := fun j hj => by
  obtain ⟨h1, h2⟩ := h j hj
  rw [World.cell?_of_block (w := w) (a := ⟨b, o + j, none⟩) (Below.heap_setCell w p u b (fun e => hp e.symm)), World.frozen?_of_block (w := w) (a := ⟨b, o + j, none⟩) (Below.heap_setCell w p u b (fun e => hp e.symm))]
  exact ⟨h1, h2⟩
theorem there_of_block {w : World} {b : Nat} {c : Array Value} {t : TypeId} (h : w.heap[b]? = some (.cells c t (0, 0))) (o n : Nat) (hn : o + n ≤ c.size) : w.there b o n := fun j hj => by
  rw [cell_of_row w b (o + j) c t _ h, frozen_of_row w b (o + j) c t h]
  exact ⟨by simp; omega, rfl⟩
theorem rangeAt_of_list {w : World} {b : Nat} {L : List Value} {t : TypeId} {fr : Nat × Nat} (h : w.heap[b]? = some (.cells L.toArray t fr)) (o n : Nat) : w.rangeAt b o ((L.drop o).take n) := fun j v hv => by
  rw [cell_of_row w b (o + j) _ t fr h]
  rw [List.getElem?_take] at hv
  split at hv
  · simpa using hv
  · cases hv

/-- These cells lie in block b from o on. -/
def RowAt (w : World) (b o n : Nat) (cs : Array Value) : Prop := cs.size = n ∧ w.rangeAt b o cs.toList
/-- Into these cells one may store. -/
def Room (w : World) (b o n : Nat) : Prop := w.there b o n
theorem RowAt.drew {w : World} {b o n : Nat} {cs : Array Value} (h : RowAt w b o n cs) : RowAt w.drew b o n cs := h
theorem Room.drew {w : World} {b o n : Nat} (h : Room w b o n) : Room w.drew b o n := h
theorem RowAt.of_block {w : World} {b : Nat} {L : List Value} {t : TypeId} {fr : Nat × Nat} (h : w.heap[b]? = some (.cells L.toArray t fr)) (o n : Nat) (hn : o + n ≤ L.length) : RowAt w b o n ((L.drop o).take n).toArray :=
  ⟨by simp; omega, by simpa using rangeAt_of_list h o n⟩
theorem RowAt.whole {w : World} {b : Nat} {c : Array Value} {t : TypeId} {fr : Nat × Nat} (h : w.heap[b]? = some (.cells c t fr)) : RowAt w b 0 c.size c :=
  ⟨rfl, fun j v hv => by rw [Nat.zero_add, cell_of_row w b j c t fr h]; simpa using hv⟩
theorem RowAt.new (w : World) (c : Array Value) (t : TypeId) {n k : Nat} (h : c.size = n) (hk : k = w.heap.size) : RowAt (w.alloc (.cells c t)) k 0 n c := by
  subst h; exact RowAt.whole (hal_at hk)
theorem RowAt.src {w : World} {b n : Nat} {cs : List Value} (h : RowAt w b 0 n cs.toArray) : ∀ j u, cs[j]? = some u → w.cell? ((⟨b, 0, none⟩ : Addr).add j) = some u := fun j u hu => by
  rw [Addr.add_mid]; exact h.2 j u (by simpa using hu)
theorem load_row {P : Program} {w : World} {b o n : Nat} {cs : Array Value} (ty : TypeId) (d : TypeDesc) (hu : P.underlying ty = some d) (hd : d.isRow = true) (hi : (P.info? ty).map (·.size) = some n) (h : RowAt w b o n cs) :
    (Instr.loadAt ty (.pointer (some ⟨b, o, none⟩))).run P w = .ok (.agg cs) w := by
  have := run_loadAt_mid (P := P) w b o ty cs.toList d h.2 hu hd (by rw [hi]; simp [h.1])
  simpa using this
theorem store_row {P : Program} {w : World} {b o n : Nat} {cs : Array Value} (ty : TypeId) (hi : (P.info? ty).map (·.size) = some n) (hs : cs.size = n) (h1 : cs.all (·.oneCell') = true) (h : Room w b o n) :
    (Instr.storeAt ty (.pointer (some ⟨b, o, none⟩)) (.agg cs)).run P w = .ok () (w.setCells b o cs.toList) :=
  run_storeAt_mid w b o ty cs (by rw [hs]; exact h) (by rw [hi, hs]) h1

/-- A load and a store of many cells, under names that the walk does not open. -/
def loadOp (ty : TypeId) (p : Value) : Sem Next := do pure (.value (← Instr.loadAt ty p))
def storeOp (ty : TypeId) (p v : Value) : Sem Next := do Instr.storeAt ty p v; pure .skip
theorem run_loadOp {P : Program} {ty : TypeId} {p v : Value} {w : World} (h : (Instr.loadAt ty p).run P w = .ok v w) : (loadOp ty p).run P w = .ok (.value v) w := by
  unfold loadOp; simp [h]
theorem run_storeOp {P : Program} {ty : TypeId} {p v : Value} {w w' : World} (h : (Instr.storeAt ty p v).run P w = .ok () w') : (storeOp ty p v).run P w = .ok .skip w' := by
  unfold storeOp; simp [h]

theorem results_cells2 {P : Program} {fn : Func} {p q : Tmp} {t u : TypeId} (h : fn.results = #[.cell p t, .cell q u]) (tmps : Array Value) (w : World) (a b : Addr) (v x : Value)
    (hp : tmps.getD p undef = .pointer (some a)) (hq : tmps.getD q undef = .pointer (some b)) (h1 : (loadVar t a).run P w = .ok v w) (h2 : (loadVar u b).run P w = .ok x w) :
    (results fn tmps).run P w = .ok (.tuple #[v, x]) w := by
  have hp' : tmps[p]?.getD undef = .pointer (some a) := by simpa using hp
  have hq' : tmps[q]?.getD undef = .pointer (some b) := by simpa using hq
  simp [results, h, hp', hq', asAddr, h1, h2]
theorem loadVar_row {P : Program} {w : World} {b o n : Nat} {cs : Array Value} (ty : TypeId) (d : TypeDesc) (hu : P.underlying ty = some d) (hd : d.isRow = true) (hi : (P.info? ty).map (·.size) = some n) (h : RowAt w b o n cs) :
    (loadVar ty ⟨b, o, none⟩).run P w = .ok (.agg cs) w := by
  have := run_loadVar_mid (P := P) w b o ty cs.toList d h.2 hu hd (by rw [hi]; simp [h.1])
  simpa using this

theorem heap_setCells_other (b : Nat) : ∀ (vs : List Value) (o : Nat) (w : World) (k : Nat), k ≠ b → (w.setCells b o vs).heap[k]? = w.heap[k]?
  | [], _, _, _, _ => rfl
  | v :: r, o, w, k, h => by rw [World.setCells, heap_setCells_other b r (o + 1) _ k h, Below.heap_setCell _ _ _ _ h]
theorem size_setCells (b : Nat) : ∀ (vs : List Value) (o : Nat) (w : World), (w.setCells b o vs).heap.size = w.heap.size
  | [], _, _ => rfl
  | v :: r, o, w => by rw [World.setCells, size_setCells b r]; simp [World.setCell]
theorem os_setCells (b : Nat) : ∀ (vs : List Value) (o : Nat) (w : World), (w.setCells b o vs).os = w.os ∧ (w.setCells b o vs).tape = w.tape ∧ (w.setCells b o vs).output = w.output
  | [], _, _ => ⟨rfl, rfl, rfl⟩
  | v :: r, o, w => by rw [World.setCells]; exact os_setCells b r (o + 1) _
theorem below_setCells {B b : Nat} {w0 w : World} (h : Below B w0 w) (hb : B ≤ b) (vs : List Value) (o : Nat) : Below B w0 (w.setCells b o vs) := by
  obtain ⟨h1, h2, h3⟩ := os_setCells b vs o w
  exact h.trans ⟨h1, h2, h3, Nat.le_of_eq (size_setCells b vs o w).symm, fun k hk => heap_setCells_other b vs o w k (by omega)⟩
theorem heap_setCell_list {w : World} {b o : Nat} {L : List Value} {t : TypeId} {fr : Nat × Nat} (h : w.heap[b]? = some (.cells L.toArray t fr)) (v : Value) :
    (w.setCell ⟨b, o, none⟩ v).heap[b]? = some (.cells (L.set o v).toArray t fr) := by
  simp [World.setCell, Array.getElem?_modify, h]
theorem heap_setCells_list (b : Nat) (t : TypeId) (fr : Nat × Nat) : ∀ (vs : List Value) (o : Nat) (w : World) (L : List Value), w.heap[b]? = some (.cells L.toArray t fr) → o + vs.length ≤ L.length →
    (w.setCells b o vs).heap[b]? = some (.cells (splice L o vs).toArray t fr)
  | [], o, w, L, h, _ => by rw [World.setCells, h]; simp [splice]
  | v :: r, o, w, L, h, hl => by
    rw [List.length_cons] at hl
    rw [World.setCells, heap_setCells_list b t fr r (o + 1) _ (L.set o v) (heap_setCell_list h v) (by simp; omega)]
    congr 3
    simp only [splice, List.length_cons]
    rw [List.drop_set_of_lt (by omega), List.take_set, List.take_add_one, List.set_append_right _ _ (by simp; omega)]
    have h1 : min o L.length = o := by omega
    simp [h1, List.getElem?_eq_getElem (show o < L.length by omega), show o + 1 + r.length = o + (r.length + 1) from by omega]

/-- How a composite is filled: part by part. -/
theorem fill_fold (off : Nat) : ∀ (cs : List Value) (k : Nat) (L : List Value), off + k + cs.length ≤ L.length →
    (cs.zipIdx k).foldl (fun (a : Array Value) (p : Value × Nat) => a.setIfInBounds (off + p.2) p.1) L.toArray = (splice L (off + k) cs).toArray
  | [], k, L, _ => by simp [splice]
  | v :: r, k, L, h => by
    rw [List.length_cons] at h
    rw [List.zipIdx_cons, List.foldl_cons]
    simp only [List.setIfInBounds_toArray]
    rw [fill_fold off r (k + 1) (L.set (off + k) v) (by simp; omega)]
    congr 1
    simp only [splice, List.length_cons]
    rw [List.drop_set_of_lt (by omega), List.take_set, ← Nat.add_assoc, List.take_add_one, List.set_append_right _ _ (by simp; omega)]
    have h1 : min (off + k) L.length = off + k := by omega
    simp [h1, List.getElem?_eq_getElem (show off + k < L.length by omega), show off + k + 1 + r.length = off + k + (r.length + 1) from by omega]
theorem fill_cons {place : Nat → Option (Nat × Nat)} {L cs : List Value} {i off size : Nat} {v : Value} {rest : List (Nat × Value)} (hv : v.cells = cs.toArray) (hp : place i = some (off, size)) (hs : cs.length = size) (hl : off + size ≤ L.length) :
    Instr.fill place L.toArray ((i, v) :: rest) = Instr.fill place (splice L off cs).toArray rest := by
  have h := fill_fold off cs 0 L (by omega)
  rw [Instr.fill, hp]
  simp only [hv]
  rw [if_neg (by simp; omega)]
  congr 1
  rw [← Array.foldl_toList]
  simpa using h
theorem splice_whole (L cs : List Value) (h : L.length = cs.length) : splice L 0 cs = cs := by simp [splice, ← h]

theorem run_build_struct {P : Program} {t : TypeId} {fields : Array Field} {Z : List Value} {places : Array (Nat × Nat)} {w : World} (parts : Array (Nat × Value)) (cells : Array Value)
    (hu : P.underlying t = some (.struct fields)) (hz : (zeroValue t).run P w = .ok (.agg Z.toArray) w)
    (hp : (fields.mapM (fun f => do pure (f.offset, ← sizeOf f.type)) : Sem (Array (Nat × Nat))).run P w = .ok places w) (hf : Instr.fill (fun i => places[i]?) Z.toArray parts.toList = some cells) :
    (Instr.build t parts).run P w = .ok (.agg cells) w := by
  unfold Instr.build
  rw [Sem.run_bind, hz]
  simp only [Result.andThen, Sem.run_bind, run_underlying hu, hp]
  simp only [Value.cells, hf]
  rfl

theorem run_buildSlice {P : Program} {t elem : TypeId} {n size : Nat} {z : Value} {w : World} (parts : Array (Nat × Value)) (cells : Array Value)
    (hu : P.underlying t = some (.slice elem)) (hs : (sizeOf elem).run P w = .ok size w) (hz : (zeroValue elem).run P w = .ok z w) (hn : ¬ n * size > 2 ^ 24) (h0 : ¬ n * size = 0)
    (hf : Instr.fill (fun i => some (i * size, size)) ((Array.range (n * size)).map (z.cells[· % z.cells.size]!)) parts.toList = some cells) :
    (Instr.buildSlice t n parts).run P w = .ok (.slice (some ⟨w.heap.size, 0, none⟩) n n) (w.alloc (.cells cells elem)) := by
  unfold Instr.buildSlice
  simp only [Sem.run_bind, run_underlying hu, Result.andThen, hs, if_neg hn, if_neg h0, hz]
  simp only [Sem.run_pure, hf]
  simp [go_sem, newRow]

def buildOp (t : TypeId) (parts : Array (Nat × Value)) : Sem Next := do pure (.value (← Instr.build t parts))
def buildSliceOp (t : TypeId) (n : Nat) (parts : Array (Nat × Value)) : Sem Next := do pure (.value (← Instr.buildSlice t n parts))
def appendOp (t ty : TypeId) (s x : Value) : Sem Next := do pure (.value (← Builtin.append_ #[t, t] ty #[s, x]))
theorem run_buildOp {P : Program} {t : TypeId} {ps : Array (Nat × Value)} {v : Value} {w w' : World} (h : (Instr.build t ps).run P w = .ok v w') : (buildOp t ps).run P w = .ok (.value v) w' := by
  unfold buildOp; simp [h]
theorem run_buildSliceOp {P : Program} {t : TypeId} {n : Nat} {ps : Array (Nat × Value)} {v : Value} {w w' : World} (h : (Instr.buildSlice t n ps).run P w = .ok v w') : (buildSliceOp t n ps).run P w = .ok (.value v) w' := by
  unfold buildSliceOp; simp [h]
theorem run_appendOp {P : Program} {t ty : TypeId} {s x v : Value} {w w' : World} (h : (Builtin.append_ #[t, t] ty #[s, x]).run P w = .ok v w') : (appendOp t ty s x).run P w = .ok (.value v) w' := by
  unfold appendOp; simp [h]

/-- A row's block holds its elements' type. -/
theorem owns_elem {w : World} {base e size n : Nat} {v : Value} {xs : List Value} (h : w.ownsRow base e size v n xs) {g : Nat} (hg : v.ownBlock = some g) : ∃ cur, w.heap[g]? = some (.cells cur e (0, 0)) := by
  obtain ⟨_, ⟨rfl, _⟩ | ⟨g', cap, cur, rfl, _, hh, _⟩⟩ := h
  · simp [Value.ownBlock] at hg
  · simp only [Value.ownBlock, Option.some.injEq] at hg; subst hg; exact ⟨cur, hh⟩
theorem owns_ne {w : World} {base e size n t d : Nat} {v : Value} {xs : List Value} {c : Array Value} {fr : Nat × Nat} (h : w.ownsRow base e size v n xs) (hd : w.heap[d]? = some (.cells c t fr)) (hne : t ≠ e) : v.ownBlock ≠ some d := fun hg => by
  obtain ⟨cur, hh⟩ := owns_elem h hg
  rw [hd] at hh
  simp only [Option.some.injEq, Obj.cells.injEq] at hh
  exact hne hh.2.1

def allocOp (ty : TypeId) : Sem Next := do pure (.value (← Instr.alloc ty true (.tuple #[])))
theorem run_allocOp {P : Program} {ty : TypeId} {z : Value} {w : World} (h : (zeroValue ty).run P w = .ok z w) : (allocOp ty).run P w = .ok (.value (.pointer (some ⟨w.heap.size, 0, none⟩))) (w.alloc (.cells z.cells ty)) := by
  unfold allocOp Instr.alloc
  simp [Sem.run_bind, h, newVar, newRow, go_sem, Result.andThen]
def copyOp (dT sT ty : TypeId) (d s : Value) : Sem Next := do pure (.value (← Builtin.copy_ #[dT, sT] ty #[d, s]))
theorem run_copyOp {P : Program} {dT sT ty : TypeId} {d s v : Value} {w w' : World} (h : (Builtin.copy_ #[dT, sT] ty #[d, s]).run P w = .ok v w') : (copyOp dT sT ty d s).run P w = .ok (.value v) w' := by
  unfold copyOp; simp [h]
theorem world_ext {w w' : World} (h : w.heap = w'.heap) (ht : w.tape = w'.tape) (hd : w.drawn = w'.drawn) (ho : w.os = w'.os) (hu : w.output = w'.output) : w = w' := by
  cases w; cases w'; simp_all
theorem drawn_setCells (b : Nat) : ∀ (vs : List Value) (o : Nat) (w : World), (w.setCells b o vs).drawn = w.drawn
  | [], _, _ => rfl
  | v :: r, o, w => by rw [World.setCells, drawn_setCells b r]; rfl
theorem alloc_setCells (w : World) (L vs : List Value) (t : TypeId) (h : L.length = vs.length) : (w.alloc (.cells L.toArray t)).setCells w.heap.size 0 vs = w.alloc (.cells vs.toArray t) := by
  obtain ⟨h1, h2, h3⟩ := os_setCells w.heap.size vs 0 (w.alloc (.cells L.toArray t))
  refine world_ext ?_ h2 (drawn_setCells _ _ _ _) h1 h3
  apply Array.ext_getElem?
  intro k
  by_cases hk : k = w.heap.size
  · subst hk
    rw [heap_setCells_list w.heap.size t (0, 0) vs 0 _ L (hal_at rfl) (by omega), hal_at rfl, splice_whole _ _ h]
  · rw [heap_setCells_other _ _ _ _ _ hk]
    rcases Nat.lt_or_ge k w.heap.size with hlt | hge
    · rw [hal_lt hlt, hal_lt hlt]
    · rw [Array.getElem?_eq_none (by simp; omega), Array.getElem?_eq_none (by simp; omega)]

theorem ret_int {k : IntKind} {a b : Int} (h : a = b) : Ending.returned (.int k a) = .returned (.int k b) := by rw [h]
theorem cells3 {w : World} {b t : Nat} {x y z : Value} (h : w.heap[b]? = some (.cells #[x, y, z] t (0, 0))) :
    w.heap[b]? = some (.cells #[x, y, z] t (0, 0)) ∧ w.cell? ⟨b, 0, none⟩ = some x ∧ w.cell? ⟨b, 1, none⟩ = some y ∧ w.cell? ⟨b, 2, none⟩ = some z :=
  ⟨h, cell_of_row w b 0 _ _ _ h, cell_of_row w b 1 _ _ _ h, cell_of_row w b 2 _ _ _ h⟩

theorem _root_.Go.World.ownsRow.base {w : World} {base b e size n : Nat} {v : Value} {xs : List Value} (h : w.ownsRow base e size v n xs) (hb : b ≤ base) : w.ownsRow b e size v n xs := by
  obtain ⟨h1, h2 | ⟨g, cap, cur, h3, h4, h5⟩⟩ := h
  · exact ⟨h1, .inl h2⟩
  · exact ⟨h1, .inr ⟨g, cap, cur, h3, by omega, h5⟩⟩

def sliceOp (ty : TypeId) (x : Value) (lo hi mx : Option Value) : Sem Next := do pure (.value (← Instr.sliceAt ty x lo hi mx))
theorem run_sliceOp {P : Program} {ty : TypeId} {x v : Value} {lo hi mx : Option Value} {w w' : World} (h : (Instr.sliceAt ty x lo hi mx).run P w = .ok v w') : (sliceOp ty x lo hi mx).run P w = .ok (.value v) w' := by
  unfold sliceOp; simp [h]
theorem Rd.drop {w : World} {A : Option Addr} {xs : List Value} (h : Rd w A xs) (lo : Nat) : Rd w (A.map (·.add lo)) (xs.drop lo) := fun hne => by
  obtain ⟨b, o, e, hlt, hc⟩ := h (by intro e; subst e; simp at hne)
  refine ⟨b, o + lo, by rw [e]; simp [Addr.add_mid], hlt, fun j u hu => ?_⟩
  rw [Nat.add_assoc]; exact hc _ _ (by simpa using hu)
theorem Rd.take {w : World} {A : Option Addr} {xs : List Value} (h : Rd w A xs) (n : Nat) : Rd w A (xs.take n) := fun hne => by
  obtain ⟨b, o, e, hlt, hc⟩ := h (by intro e; subst e; simp at hne)
  refine ⟨b, o, e, hlt, fun j u hu => hc j u ?_⟩
  rw [List.getElem?_take] at hu
  split at hu
  · exact hu
  · cases hu
/-- A cut of a slice of one-cell elements: it reads as the cut of what the slice reads as. -/
theorem cut_slice {P : Program} {ty e : TypeId} (hu : P.underlying ty = some (.slice e)) (hs : ∀ w, (sizeOf e).run P w = .ok 1 w) (A : Option Addr) (len cap : Nat) (l h : Int) (lo hi : Nat) (hl : l = lo) (hh : h = hi) (h1 : lo ≤ hi) (h2 : hi ≤ cap) :
    ∃ A', (∀ w, (Instr.sliceAt ty (.slice A len cap) (some (.int .i64 l)) (some (.int .i64 h)) none).run P w = .ok (.slice A' (hi - lo) (cap - lo)) w) ∧ (∀ w xs, hi ≤ xs.length → xs.length ≤ cap → Rd w A xs → Rd w A' ((xs.drop lo).take (hi - lo))) := by
  subst hl hh
  refine ⟨if cap = lo then A else A.map (·.add lo), fun w => ?_, fun w xs hx hc hr => ?_⟩
  · simp [Instr.sliceAt, Instr.slice, Sem.run_bind, run_underlying hu, Result.andThen, Instr.sliceBounds, Instr.sliceBound, asIntOf, h1, h2, hs]
  · split
    · rename_i e
      rw [show hi - lo = 0 from by omega, List.take_zero]; exact Rd.nil _ _
    · exact (hr.drop lo).take _

/-- copy onto a row that is known whole, from whatever slice that can be read. -/
theorem run_copy_rd {P : Program} (w : World) (dT sT ty elem : TypeId) (g o dLen dCap : Nat) (A : Option Addr) (sLen sCap : Nat) (cur : List Value) (t : TypeId) (cs : List Value)
    (hu : P.underlying dT = some (.slice elem)) (hs : (P.info? elem).map (·.size) = some 1) (hg : w.heap[g]? = some (.cells cur.toArray t (0, 0))) (hn : cs.length = Nat.min sLen dLen)
    (hsrc : Rd w A cs) (hfit : o + cs.length ≤ cur.length) (h1 : ∀ v ∈ cs, v.oneCell' = true) :
    (Builtin.copy_ #[dT, sT] ty #[.slice (some ⟨g, o, none⟩) dLen dCap, .slice A sLen sCap]).run P w = .ok (goInt cs.length) (w.setRow g (splice cur o cs).toArray) := by
  by_cases h0 : cs = []
  · subst h0
    have e : splice cur o [] = cur := by simp [splice]
    rw [e, setRow_self w g _ t (0, 0) hg]
    simp only [List.length_nil] at hn
    cases hq : P.info? elem with
    | none => simp [hq] at hs
    | some i => cases A <;> simp [Builtin.copy_, run_underlying hu, Builtin.lenOf, Builtin.firstCells, sizeOf, typeInfo, hq, storeCells, ← hn, Sem.run_bind, Result.andThen, loadCells, loadCellsFrom]
  · obtain ⟨b, p, rfl, _, hc⟩ := hsrc h0
    rw [run_copy_row (P := P) w dT sT ty elem g o dLen dCap ⟨b, p, none⟩ sLen sCap cur.toArray t cs hu hs hg hn (fun j v hv => by rw [Addr.add_mid]; exact hc j v hv) (by simpa using hfit) h1]
    simp [splice]

def minOp (t ty : TypeId) (x y : Value) : Sem Next := do pure (.value (← Builtin.min_ #[t, t] ty #[x, y]))
theorem run_minOp {P : Program} {t ty : TypeId} {x y v : Value} {w w' : World} (h : (Builtin.min_ #[t, t] ty #[x, y]).run P w = .ok v w') : (minOp t ty x y).run P w = .ok (.value v) w' := by
  unfold minOp; simp [h]

theorem run_min {P : Program} {k : IntKind} {t ty : TypeId} {a b c : Int} (h : min a b = c) (w : World) : (Builtin.min_ #[t, t] ty #[.int k a, .int k b]).run P w = .ok (.int k c) w := by
  subst h
  have e : (if b < a then b else a) = min a b := by simp only [Int.min_def]; split <;> split <;> omega
  simp [Builtin.min_, Builtin.min2, e]

theorem owns_slice {w : World} {base e n : Nat} {v : Value} {xs : List Value} (h : w.ownsRow base e 1 v n xs) : ∃ A c, v = .slice A n c ∧ n ≤ c ∧ xs.length = n ∧ Rd w A xs := by
  obtain ⟨hl, ⟨rfl, rfl⟩ | ⟨g, cap, cur, rfl, h4, hh, hn, hm, hs, ht⟩⟩ := h
  · have : xs = [] := List.eq_nil_of_length_eq_zero (by simpa using hl)
    subst this
    exact ⟨none, 0, rfl, Nat.le_refl _, rfl, Rd.nil _ _⟩
  · refine ⟨_, cap, rfl, hn, by simpa using hl, fun _ => ⟨g, 0, rfl, (Array.getElem?_eq_some_iff.1 hh).1, fun j u hu => ?_⟩⟩
    rw [Nat.zero_add, cell_of_row w g j _ _ _ hh]
    rw [← ht, List.getElem?_take] at hu
    split at hu
    · simpa using hu
    · cases hu
theorem owns_bytes {w : World} {base e n : Nat} {v : Value} {l : Bytes} (h : w.ownsRow base e 1 v n (l.map bv)) : IsBs w v l := by
  obtain ⟨A, c, rfl, hc, hl, hr⟩ := owns_slice h
  simp only [List.length_map] at hl
  subst hl
  exact ⟨A, c, rfl, hc, hr⟩
/-- copy, as a step of a region that draws its order. -/
theorem step_copy_rd {P : Program} {ops : Array Oper} {o : Oper} {a : Act} {w : World} {K : Act → World → Prop} {Q : Exit → Act → World → Prop} {E : Prop} (hgd : o.guard = none) (d s : Operand) (dT sT : TypeId)
    (ho : o.op = .call { callee := .builtin .copy, args := #[d, s], argTypes := #[dT, sT] }) (elem : TypeId) (g off dLen dCap : Nat) (A : Option Addr) (sLen sCap : Nat) (hd : a.eval d = .slice (some ⟨g, off, none⟩) dLen dCap) (hs : a.eval s = .slice A sLen sCap)
    (cur : List Value) (t : TypeId) (cs : List Value) (hu : P.underlying dT = some (.slice elem)) (hsz : (P.info? elem).map (·.size) = some 1) (hg : w.heap[g]? = some (.cells cur.toArray t (0, 0))) (hn : cs.length = Nat.min sLen dLen)
    (hsrc : Rd w A cs) (hfit : off + cs.length ≤ cur.length) (h1 : ∀ v ∈ cs, v.oneCell' = true)
    (h : K (a.put o.dst (goInt cs.length)) (w.setRow g (splice cur off cs).toArray)) : if Region.wanted o (yielded ops a.tmps) = true then Oper.wp P o a w K Q else E := by
  have hw : Region.wanted o (yielded ops a.tmps) = true := by simp [Region.wanted, hgd]
  rw [if_pos hw]
  have hrun := run_copy_rd (P := P) w dT sT o.type elem g off dLen dCap A sLen sCap cur t cs hu hsz hg hn hsrc hfit h1
  unfold Oper.wp
  simp [execOp, ho, resolve, invoke, builtin, hd, hs, hrun, Result.andThen]
  exact h

/-- What is w but for the blocks of F (and new ones). -/
structure Frm (F : Nat → Prop) (w w' : World) : Prop where
  os : w'.os = w.os
  tape : w'.tape = w.tape
  output : w'.output = w.output
  size : w.heap.size ≤ w'.heap.size
  block : ∀ k, k < w.heap.size → ¬ F k → w'.heap[k]? = w.heap[k]?
def NoB : Nat → Prop := fun _ => False

theorem Frm.refl (F : Nat → Prop) (w : World) : Frm F w w := ⟨rfl, rfl, rfl, Nat.le_refl _, fun _ _ _ => rfl⟩
theorem Frm.trans {F : Nat → Prop} {a b c : World} (h : Frm F a b) (k : Frm F b c) : Frm F a c :=
  ⟨k.os.trans h.os, k.tape.trans h.tape, k.output.trans h.output, Nat.le_trans h.size k.size, fun i hi hn => (k.block i (Nat.lt_of_lt_of_le hi h.size) hn).trans (h.block i hi hn)⟩
theorem Frm.weaken {F G : Nat → Prop} {a b : World} (h : Frm F a b) (hg : ∀ k, k < a.heap.size → F k → G k) : Frm G a b :=
  ⟨h.os, h.tape, h.output, h.size, fun i hi hn => h.block i hi fun hf => hn (hg i hi hf)⟩
theorem Frm.of_below {F : Nat → Prop} {a b : World} (h : Below a.heap.size a b) : Frm F a b := ⟨h.os, h.tape, h.output, h.size, fun i hi _ => h.block i hi⟩
theorem Frm.drew {F : Nat → Prop} {a b : World} (h : Frm F a b) : Frm F a b.drew := ⟨h.os, h.tape, h.output, h.size, h.block⟩
theorem Frm.alloc {F : Nat → Prop} {a b : World} (h : Frm F a b) (o : Obj) : Frm F a (b.alloc o) :=
  h.trans (Frm.of_below ((Below.refl _ _).alloc (Nat.le_refl _) o))
theorem Frm.grown {F : Nat → Prop} {a b c : World} {row : Option Nat} (h : Frm F a b) (hg : b.grownBy c row) (hr : ∀ k, row = some k → k < a.heap.size → F k) : Frm F a c :=
  ⟨hg.os.trans h.os, hg.tape.trans h.tape, hg.output.trans h.output, Nat.le_trans h.size hg.size, fun i hi hn =>
    (hg.block i (Nat.lt_of_lt_of_le hi h.size) (fun e => hn (hr i e.symm hi))).trans (h.block i hi hn)⟩
theorem Frm.setCell {F : Nat → Prop} {a b : World} (h : Frm F a b) {p : Addr} (hp : p.block < a.heap.size → F p.block) (u : Value) : Frm F a (b.setCell p u) :=
  ⟨h.os, h.tape, h.output, by simp [World.setCell]; exact h.size, fun k hk hn => by
    by_cases e : k = p.block
    · subst e; exact absurd (hp hk) hn
    · exact (Below.heap_setCell _ _ _ _ e).trans (h.block k hk hn)⟩
theorem Frm.cell {F : Nat → Prop} {w w' : World} (h : Frm F w w') {p : Addr} (hp : p.block < w.heap.size) (hn : ¬ F p.block) : w'.cell? p = w.cell? p := World.cell?_of_block (w := w) (h.block p.block hp hn)
theorem Frm.frozen {F : Nat → Prop} {w w' : World} (h : Frm F w w') {p : Addr} (hp : p.block < w.heap.size) (hn : ¬ F p.block) : w'.frozen? p = w.frozen? p := World.frozen?_of_block (w := w) (h.block p.block hp hn)
theorem Frm.below {w w' : World} (h : Frm NoB w w') : Below w.heap.size w w' := ⟨h.os, h.tape, h.output, h.size, fun k hk => h.block k hk id⟩

/-- A row that the call owns, as it has become since w0, when it was v0: nothing else that was there has turned. -/
structure Row (w0 w : World) (v0 v : Value) (base e size n : Nat) (xs : List Value) : Prop where
  own : w.ownsRow base e size v n xs
  grow : w0.grownBy w v0.ownBlock
  loc : v.ownBlock = v0.ownBlock ∨ ∀ k, v.ownBlock = some k → w0.heap.size ≤ k
theorem Row.start {w : World} {v : Value} {base e size n : Nat} {xs : List Value} (h : w.ownsRow base e size v n xs) : Row w w v v base e size n xs :=
  ⟨h, World.grownBy.refl _ _, .inl rfl⟩
theorem Row.below {w0 w : World} {v0 v : Value} {base e size n m : Nat} {xs ys : List Value} (h : Row w0 w v0 v base e size n xs) (h0 : w0.ownsRow base e size v0 m ys) (hb : base ≤ w0.heap.size) : Below base w0 w :=
  ⟨h.grow.os, h.grow.tape, h.grow.output, h.grow.size, fun k hk => h.grow.block k (by omega) (fun e => by have := h0.lt k e.symm; omega)⟩
/-- An append behind a new block. -/
theorem Row.app {w0 w w1 : World} {v0 v v' : Value} {base e size n n' : Nat} {xs ys : List Value} (o : Obj) (h : Row w0 w v0 v base e size n xs)
    (h' : w1.ownsRow base e size v' n' ys) (hg : (w.alloc o).grownBy w1 v.ownBlock) (hl : v'.ownBlock = v.ownBlock ∨ v'.ownBlock = some (w.alloc o).heap.size) : Row w0 w1 v0 v' base e size n' ys := by
  have hs := h.grow.size
  refine ⟨h', ?_, ?_⟩
  · have hg' : w.grownBy w1 v.ownBlock := (World.grownBy_alloc w o _).trans hg
    rcases h.loc with e1 | e1
    · rw [e1] at hg'; exact h.grow.trans hg'
    · refine ⟨hg'.os.trans h.grow.os, hg'.tape.trans h.grow.tape, hg'.output.trans h.grow.output, Nat.le_trans hs hg'.size, fun k hk hne => (hg'.block k (by omega) (fun e => by have := e1 k e.symm; omega)).trans (h.grow.block k hk hne)⟩
  · rcases hl with e1 | e1
    · rw [e1]; exact h.loc
    · exact .inr fun k hk => by rw [e1] at hk; cases hk; simp; omega

/-- The bytes as cells, behind a name that the walk does not open. -/
def cellsOf (l : Bytes) : Array Value := (l.map bv).toArray
def noughts (n : Nat) : Bytes := List.replicate n 0
theorem noughts_length (n : Nat) : (noughts n).length = n := List.length_replicate
theorem cellsOf_size (l : Bytes) : (cellsOf l).size = l.length := by simp [cellsOf]
theorem made_noughts (n m : Nat) (hn : 0 < n) : madeCells (Array.replicate n (.int .u8 0)) m = cellsOf (noughts m) := by
  apply Array.ext
  · simp [size_madeCells, cellsOf_size, noughts_length]
  · intro i h1 h2
    have : i % n < n := Nat.mod_lt _ hn
    simp [madeCells, cellsOf, noughts, bv, this]

theorem cellsOf_one (l : Bytes) : (cellsOf l).all (·.oneCell') = true := by
  simp [cellsOf, bv_one]
theorem cellsOf_list (l : Bytes) : (cellsOf l).toList = l.map bv := by simp [cellsOf]

end Go.Proofs.YtchiikfdmogfpaaGreatDoor
