/- The row RebuildDesk, and its tied card: the law is true of whatever input; the table holds what the program's text lays. No other condition. -/
import Derived.Test.YtmiibfolfflbmaaDoorHrRlaws
import Derived.Test.YtmiibfolfflbmaaDoorLibK
import Derived.Test.YtmiibfolfflbmaaDoorRows
import Derived.Test.YtmiibfolfflbmaaDoorCards
import Derived.Test.YtmiibfolfflbmaaDoorTie
import Derived.SevenTiedAt
import Derived.LaidMore
namespace Go.Proofs.YtmiibfolfflbmaaDoor
open Go.RowKit Go.V Go.Hr

theorem tables_rebuildDesk {W : World} (h : laidMetH Tryd.prog [("reredos/wire.records", Rows.laid_reredos_wire_records)] W) : ∀ g t, Go.V.look cx.G g = some t → RepR W (tabS W cx.G) t (.pointer (some ⟨g, 0, none⟩)) := by
  rw [MakeChecks.laidMetH_plain _ _ _ (by kernel_rfl)] at h
  obtain ⟨ps, ⟨g0, t0, cs0, f0, p0, q0, hg0, ht0, hv0, hd0, _⟩, _, _⟩ := h
  have e0 : Tryd.prog.globalNamed "reredos/wire.records" = some 1 := by kernel_rfl
  obtain rfl := Option.some.inj (e0.symm.trans hg0)
  have k0 : (Tryd.prog.globals[1]?).map (·.type) = some 143 := by kernel_rfl
  obtain rfl := Option.some.inj (k0.symm.trans ht0)
  intro g t hgt
  change Go.V.look ((1, _) :: []) g = some t at hgt
  rw [look_cons] at hgt
  split at hgt
  · rename_i e
    subst e
    simp only [Option.some.injEq] at hgt
    subst hgt
    have hlt : 1 < W.heap.size := by
      have hc := World.var?_cell hg0 hv0 0
      have hs : cs0.toList.length = Tryd.prog.cellsOf 143 := (DataW.trod_array (show Tryd.prog.underlying 143 = some (.array 7 137) by kernel_rfl) hd0).choose_spec.choose_spec.2.2.1
      have hz : Tryd.prog.cellsOf 143 = 56 := by kernel_rfl
      rw [hz] at hs
      have h0 : 0 < cs0.size := by rw [← Array.length_toList]; omega
      rw [Array.getElem?_eq_getElem h0] at hc
      exact World.block_lt_of_cell? W _ hc
    exact table_rep (P := Tryd.prog) (n := 7) (e := 137) hg0 hv0 hd0 (by kernel_rfl) (by kernel_rfl) (by kernel_rfl) (.inr ⟨rfl, hlt, by rfl⟩)
  · cases hgt

set_option maxRecDepth 100000 in
theorem rebuildDesk_row : Rows.RebuildDeskSaid :=
  OpenClaim.holds_of_wide 5 Tryd.f5 rfl rfl rfl rfl rfl rfl rfl ⟨rfl, rfl, rfl, rfl, rfl⟩ rfl rfl rfl rfl rfl (by kernel_rfl) Tryd.func5 (by kernel_rfl)
    (of_decide_eq_true (by kernel_rfl)) (by unfold Func.isWrapper; first | (rw [if_pos (by decide +kernel)]; kernel_rfl) | (rw [if_neg (by decide +kernel)]; exact ⟨rfl, rfl⟩))
    (fun os started H enc _ => law_holds_tab (C := Tryd.checked) (s := Rows.rebuildDeskSpec) (laid := [("reredos/wire.records", Rows.laid_reredos_wire_records)]) (G := cx.G) (show ownKnob Tryd.prog.godebug = none by kernel_rfl) started (by kernel_rfl) Tryd.func5
      (ChangeSpec.witness_shaped (enc := enc) (C := Tryd.checked) (os := os) (X := fun w _ => laidMetH Tryd.prog [("reredos/wire.records", Rows.laid_reredos_wire_records)] w) false (World.doorLaid Tryd.prog 4000 os) #[.int .i64 0, .int .i64 0, .bool false] 8 rfl (World.shaped_of_RefB (by kernel_rfl) (by kernel_rfl)) (by kernel_rfl) (by kernel_rfl) (by kernel_rfl)
        (laidMetH_of_parts3 (fuel := 8) (laidMet_of_run' 8 (by kernel_rfl) (by kernel_rfl)) (by kernel_rfl) (by kernel_rfl)))
      rfl (tb := 4) (ps := sg5.ps) (sem := r5) s5 (by kernel_rfl) (bs := [false, false, false]) (by kernel_rfl) (fun d hd hz => rebuildDesk (i64_of hd.1) (i64_of hd.2.1) d.2.2) (fun W h => tables_rebuildDesk h) (show laidOutB Tryd.prog = true by kernel_rfl) (by kernel_rfl) (by kernel_rfl) (by kernel_rfl)
      (fun ds h => by match ds, h with | [d1, d2, d3], _ => exact ⟨rfl, rfl, rfl⟩))

/-- The card. -/
theorem rebuildDesk_holds : Rows.RebuildDeskCardSaid :=
  Claim7.holds_tied_plain_at .later [] [.data] true (true, "b8e50a0e2bbe27f43a49cf1e2e438a5d2996db91305e1737c2b2e77c7e376509") false
    rebuildDesk_row (fun _ h => by cases h) (by kernel_rfl) (fun _ h => by cases h) rebuildDesk_row_tie rfl ⟨rfl, rfl⟩ (by kernel_rfl) rfl
    (fun f fn hf hfn => by
      obtain rfl : f = 5 := Option.some.inj ((show Tryd.prog.funcNamed "reredos/reredoskeep.RebuildDesk" = some 5 by kernel_rfl).symm.trans hf) |>.symm
      obtain rfl : fn = Tryd.f5 := (Option.some.inj (Tryd.func5.symm.trans hfn)).symm
      exact ⟨by kernel_rfl, fun j t ht => by
        have hm : t ∈ Tryd.f5.params.toList := by simpa using Array.mem_of_getElem? ht
        have hall : (Tryd.f5.params.toList.all fun u => !Tryd.prog.wantsStandIn u) = true := by kernel_rfl
        exact (show Tryd.prog.wantsStandIn t = false by simpa using List.all_eq_true.1 hall t hm)⟩)
    (by kernel_rfl)
end Go.Proofs.YtmiibfolfflbmaaDoor
