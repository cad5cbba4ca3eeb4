/- journal.Records of one record of no bytes. -/
import Derived.Test.YtchiikfdmogfpaaGreatDoorJour10
namespace Go.Proofs.YtchiikfdmogfpaaGreatDoor
open Go.RowKit
attribute [local go_sem ↓ high] exec_append102

set_option maxRecDepth 20000 in
set_option maxHeartbeats 1000000 in
theorem records_one (j d fr sz gen at_ : Nat) (rv v : Value) (w : World) (hj : JAt w j d fr sz gen rv at_) (hr : w.ownsRow 0 24 1 rv 1 [v]) (hv : w.ownsRow 0 5 1 v 0 []) :
    Calls Tryz.prog 46 #[.pointer (some ⟨j, 0, none⟩)] w fun e w' => ∃ g c A cc, e = .returned (.slice (some ⟨g, 0, none⟩) 1 c) ∧ w'.cell? ⟨g, 0, none⟩ = some (.slice A 0 cc) ∧ Below w.heap.size w w' ∧ w.heap.size ≤ g := by
  obtain ⟨A, cc, rfl, _, _, _⟩ := owns_slice hv
  obtain ⟨g, c, rfl⟩ := ownsRow_succ hr
  have c4 := hj.c4
  have hg : w.cell? ⟨g, 0, none⟩ = some (.slice A 0 cc) := hr.cellAt 0 (by omega)
  have HCL := Lib.hid (clone_any A cc [] w (Rd.nil _ _) (by simp))
  have HAP := Lib.hid fun (W3 : World) (v : Value) (hb3 : Below w.heap.size w W3) (h1 : v.oneCell' = true) => append_rec W3 w.heap.size 0 (.slice none 0 0) v [] (World.ownsRow_nil _ _ _ _) h1 hb3.size (by omega)
  go_enter Tryz.func46, Tryz.ntmps46
  go_wp2_with (fail)
  refine wp_loop_rounds 2 ?_
  rw [rounds_succ]
  go_wp2_with (fail)
  refine HCL.out.mono ?_
  rintro e W3 ⟨v3, rfl, ho3, hb3⟩
  obtain ⟨A3, c3, rfl, _, _, _⟩ := owns_slice ho3
  obtain ⟨g5, c5, W5, hap, hown, hf5, hloc⟩ := HAP.out W3 (.slice A3 ([] : Bytes).length c3) hb3 rfl
  simp only [List.length_nil, Nat.zero_add, List.nil_append] at hap hown
  go_wp2_with (fail)
  rw [rounds_succ]
  go_wp2_with (fail)
  go_ret
  have hb5 : Below w.heap.size w W5 := hb3.trans ((hf5.weaken (G := NoB) (fun i _ e => by simp [Value.ownBlock] at e)).below.mono hb3.size)
  exact ⟨g5, c5, A3, c3, rfl, hown.cellAt 0 (by omega), hb5, (hown.lt g5 rfl).1⟩
end Go.Proofs.YtchiikfdmogfpaaGreatDoor
