import Derived.Test.YtlfcemfcgmidlaaDoorHaRun
namespace Go.V
open Go.RowKit
theorem fold_loop {β σ ρ τ:Type} {body:σ→Option (σ ⊕ ρ)} {xs:List β} {emb:Int→τ→σ} {out:τ→ρ} (step:τ→β→τ) (I:Nat→τ→Prop) (hlen:xs.length≤9223372036854775806)
 (hb:∀ (i:Nat) x s,xs[i]?=some x→I i s→body (emb i s)=some (.inl (emb (Go.IntKind.wrap .i64 ((i:Int)+1)) (step s x)))∧I (i+1) (step s x))
 (he:∀ s,I xs.length s→body (emb (xs.length:Nat) s)=some (.inr (out s))) {s0:τ} (h0:I 0 s0):loopR body (emb 0 s0)=some (out (xs.foldl step s0))∧I xs.length (xs.foldl step s0):=by
 have key:∀ (m i:Nat) (s:τ),m=xs.length - i→i≤xs.length→I i s→loopR body (emb i s)=some (out ((xs.drop i).foldl step s))∧I xs.length ((xs.drop i).foldl step s):=by
  intro m
  induction m with
  | zero =>
   intro i s hm hi hs
   have:i=xs.length:=by omega
   subst this
   rw [List.drop_length,loopR_go,he s hs,goL_inr]
   exact ⟨rfl,hs⟩
  | succ m ih =>
   intro i s hm hi hs
   have hil:i<xs.length:=by omega
   have hx:xs[i]?=some xs[i]:=List.getElem?_eq_getElem hil
   obtain ⟨h1,h2⟩:=hb i _ s hx hs
   rw [loopR_go,h1,goL_inl,wrap_i64 (by unfold i64; omega),List.drop_eq_getElem_cons hil,List.foldl_cons]
   exact ih (i+1) _ (by omega) (by omega) h2
 exact key xs.length 0 s0 (by omega) (by omega) h0
end Go.V
