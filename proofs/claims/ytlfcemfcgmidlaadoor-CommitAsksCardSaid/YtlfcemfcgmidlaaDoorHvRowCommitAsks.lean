import Derived.Test.YtlfcemfcgmidlaaDoorHvAsks
import Derived.Test.YtlfcemfcgmidlaaDoorLibK
import Derived.Test.YtlfcemfcgmidlaaDoorRows
import Derived.Test.YtlfcemfcgmidlaaDoorCards
import Derived.Test.YtlfcemfcgmidlaaDoorTie
import Derived.SevenTiedAt
import Derived.Lay
namespace Go.Proofs.YtlfcemfcgmidlaaDoor
open Go.RowKit Go.V Go.Hv
theorem tables_commitAsks {W:World} (h:laidMetH Tryd.prog [("reredos/wire.messages",Rows.laid_reredos_wire_messages)] W):∀ g t,Go.V.look cx.G g=some t→RepR W (tabS W cx.G) t (.pointer (some ⟨g,0,none⟩)):=by
 have hp:(([("reredos/wire.messages",Rows.laid_reredos_wire_messages)]:List (String×DataW Unit)).all fun x=>x.2.handleName?.isNone)=true:=by kernel_rfl
 have r0:ReadsAs Tryd.prog W "reredos/wire.messages" 0 155 Rows.laid_reredos_wire_messages:=reads_of hp h (by kernel_rfl) (by kernel_rfl) (.head _)
 intro g t hgt
 change Go.V.look ((0,_) :: []) g=some t at hgt
 rw [look_cons] at hgt
 split at hgt
 ·rename_i e
  subst e
  simp only [Option.some.injEq] at hgt
  subst hgt
  exact table_of (n:=10) (e:=154) r0 (by kernel_rfl) (by kernel_rfl) (by kernel_rfl) (by kernel_rfl) (by rfl)
 cases hgt
set_option maxRecDepth 100000 in
theorem commitAsks_row:Rows.CommitAsksSaid :=
 OpenClaim.holds_of_wide 8 Tryd.f8 rfl rfl rfl rfl rfl rfl rfl ⟨rfl,rfl,rfl,rfl,rfl⟩ rfl rfl rfl rfl rfl (by kernel_rfl) Tryd.func8 (by kernel_rfl)
  (of_decide_eq_true (by kernel_rfl)) (by unfold Func.isWrapper; first | (rw [if_pos (by decide +kernel)]; kernel_rfl) | (rw [if_neg (by decide +kernel)]; exact ⟨rfl,rfl⟩))
  (fun os started H enc _=>law_holds_tab (C:=Tryd.checked) (s:=Rows.commitAsksSpec) (laid:=[("reredos/wire.messages",Rows.laid_reredos_wire_messages)]) (G:=cx.G) (show ownKnob Tryd.prog.godebug=none by kernel_rfl) started (by kernel_rfl) Tryd.func8
   (ChangeSpec.witness_shaped (enc:=enc) (C:=Tryd.checked) (os:=os) (X:=fun w _=>laidMetH Tryd.prog [("reredos/wire.messages",Rows.laid_reredos_wire_messages)] w) false (World.laidAll Tryd.prog os [("reredos/wire.messages",Rows.laid_reredos_wire_messages)]) #[.int .i64 0,.slice none 0 0,.int .i64 0] 8 (World.laidAll_os _ _ _) (World.shaped_of_ZipB (by kernel_rfl) (by kernel_rfl)) (by kernel_rfl) (by kernel_rfl) (by kernel_rfl)
    (by rw [MakeChecks.laidMetH_plain _ _ _ (by kernel_rfl)]; exact laidMet_laidAll _ (by kernel_rfl) (by kernel_rfl)))
   rfl (tb:=4) (ps:=sg8.ps) (sem:=r8) s8 (by kernel_rfl) (bs:=[false,true,false]) (by kernel_rfl) (fun d hd hz=>commitAsks (i64_of hd.1) (i64_len hd.2.1.1) (i64_of hd.2.2)) (fun W h=>tables_commitAsks h) (show laidOutB Tryd.prog=true by kernel_rfl) (by kernel_rfl) (by kernel_rfl) (by kernel_rfl)
   (fun ds h=>by match ds,h with | [d1,d2,d3],_=>exact ⟨rfl,rfl,rfl⟩))
theorem commitAsks_holds:Rows.CommitAsksCardSaid :=
 Claim7.holds_tied_plain_at .later [] [.data] true (true, "24345609f3f80e89cc8ebdb0f4b40753a28526397943cd244f2e6da08421813d") false
  commitAsks_row (fun _ h=>by cases h) (by kernel_rfl) (fun _ h=>by cases h) commitAsks_row_tie rfl ⟨rfl,rfl⟩ (by kernel_rfl) rfl
  (fun f fn hf hfn=>by
   obtain rfl:f=8:=Option.some.inj ((show Tryd.prog.funcNamed "reredos/reredoskeep.CommitAsks" = some 8 by kernel_rfl).symm.trans hf) |>.symm
   obtain rfl:fn=Tryd.f8:=(Option.some.inj (Tryd.func8.symm.trans hfn)).symm
   exact ⟨by kernel_rfl,fun j t ht=>by
    have hm:t∈Tryd.f8.params.toList:=by simpa using Array.mem_of_getElem? ht
    have hall:(Tryd.f8.params.toList.all fun u=>!Tryd.prog.wantsStandIn u)=true:=by kernel_rfl
    exact (show Tryd.prog.wantsStandIn t=false by simpa using List.all_eq_true.1 hall t hm)⟩)
  (by kernel_rfl)
end Go.Proofs.YtlfcemfcgmidlaaDoor
