import Derived.Test.YtlfcemfcgmidlaaDoorLibK
namespace Go.V
open Go.RowKit
def i64 (n:Int):Prop:=-9223372036854775808≤n∧n≤9223372036854775807
theorem i64_of {n:Int} (h:(Lit.int .i64 n).wf=true):i64 n:=by
 simp [Lit.wf,IntKind.min,IntKind.max,IntKind.signed,IntKind.bits] at h
 unfold i64
 omega
theorem wrap_i64 {n:Int} (h:i64 n):Go.IntKind.wrap .i64 n=n:=by
 unfold i64 at h
 unfold IntKind.wrap
 simp [IntKind.signed,IntKind.bits]
 omega
theorem idxI_is {β:Type} {xs:List β} {n:Int} (h0:0≤n) (h1:n<xs.length):∃ x,idxI xs n=some x∧xs[n.toNat]?=some x:=by
 have hlt:n.toNat<xs.length:=by omega
 refine ⟨xs[n.toNat],?_,List.getElem?_eq_getElem hlt⟩
 unfold idxI idxN
 rw [decide_eq_true h0]
 exact List.getElem?_eq_getElem hlt
theorem inB_true {n:Int} {l:Nat} (h0:0≤n) (h1:n<l):inB n l=true:=by
 unfold inB
 rw [decide_eq_true h0,decide_eq_true h1]; rfl
theorem roomOk_true {z:Bool} {n m b:Nat} (h:(2 * (n+m)+192) * b≤281474976710656):roomOk z n m b=true:=by
 unfold roomOk
 cases z with
 | false=>exact Nat.ble_eq_true_of_le h
 | true =>
  refine Nat.ble_eq_true_of_le (Nat.le_trans ?_ h)
  exact Nat.mul_le_mul_right _ (by omega)
theorem loop_rule {σ ρ:Type} {body:σ→Option (σ ⊕ ρ)} (I:σ→Prop) (μ:σ→Nat) (Q:ρ→Prop)
 (h:∀ d,I d→(∃ d',body d=some (.inl d')∧I d'∧μ d'<μ d)∨(∃ r,body d=some (.inr r)∧Q r)):∀ d,I d→∃ r,loopR body d=some r∧Q r:=by
 have key:∀ n d,μ d<n→I d→∃ r,loopR body d=some r∧Q r:=by
  intro n
  induction n with
  | zero=>intro d hd; omega
  | succ n ih =>
   intro d hd hi
   rcases h d hi with ⟨d',h1,h2,h3⟩ | ⟨r,h1,h2⟩
   ·obtain ⟨r,h4,h5⟩:=ih d' (by omega) h2
    exact ⟨r,by rw [loopR_step,h1]; exact h4,h5⟩
   ·exact ⟨r,by rw [loopR_step,h1]; rfl,h2⟩
 intro d hi
 exact key _ d (Nat.lt_succ_self _) hi
theorem bif_t {α:Type} {b:Bool} {x y:α} (h:b=true):(bif b then x else y)=x:=by rw [h]; rfl
theorem bif_some {α:Type} {b:Bool} {x y:α}:(bif b then some x else some y)=some (bif b then x else y):=by cases b <;> rfl
theorem and_bif {b c:Bool}:(bif b then c else false)=(b && c):=by cases b <;> rfl
theorem or_bif {b c:Bool}:(bif !b then c else true)=(b || c):=by cases b <;> rfl
end Go.V
