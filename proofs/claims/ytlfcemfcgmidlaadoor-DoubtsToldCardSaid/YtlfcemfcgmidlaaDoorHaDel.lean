import Derived.Test.YtlfcemfcgmidlaaDoorHaRun
namespace Go.V
open Go.RowKit
theorem fold_loop {β σ ρ τ:Type} {body:σ→Option (σ ⊕ ρ)} {xs:List β} {emb:Int→τ→σ} {out:τ→ρ} (step:τ→β→τ) (I:Nat→τ→Prop) (hlen:xs.length≤9223372036854775806)
 (hb:∀ (i:Nat) x s,xs[i]?=some x→I i s→body (emb i s)=some (.inl (emb (Go.IntKind.wrap .i64 ((i:Int)+1)) (step s x)))∧I (i+1) (step s x))
 (he:∀ s,I xs.length s→body (emb (xs.length:Nat) s)=some (.inr (out s))) {s0:τ} (h0:I 0 s0):loopR body (emb 0 s0)=some (out (xs.foldl step s0))∧I xs.length (xs.foldl step s0):=by
 have key:∀ (m i:Nat) (s:τ),m=xs.length - i→i≤xs.length→I i s→loopR body (emb i s)=some (out ((xs.drop i).foldl step s))∧I xs.length ((xs.drop i).foldl step s):=by
  intro m
  induction m with
  | zero =>
   intro i s hm hi hs
   have:i=xs.length:=by omega
   subst this
   rw [List.drop_length,loopR_go,he s hs,goL_inr]
   exact ⟨rfl,hs⟩
  | succ m ih =>
   intro i s hm hi hs
   have hil:i<xs.length:=by omega
   have hx:xs[i]?=some xs[i]:=List.getElem?_eq_getElem hil
   obtain ⟨h1,h2⟩:=hb i _ s hx hs
   rw [loopR_go,h1,goL_inl,wrap_i64 (by unfold i64; omega),List.drop_eq_getElem_cons hil,List.foldl_cons]
   exact ih (i+1) _ (by omega) (by omega) h2
 exact key xs.length 0 s0 (by omega) (by omega) h0
theorem find_split {β:Type} {p:β→Bool} {xs:List β} {i:Nat} (h:xs.findIdx? p=some i):i<xs.length∧xs.take i=(xs.take (i+1)).filter (fun x=>!p x):=by
 obtain ⟨h1,h2,h3⟩:=List.findIdx?_eq_some_iff_getElem.1 h
 refine ⟨h1,?_⟩
 rw [List.take_add_one,List.getElem?_eq_getElem h1,List.filter_append]
 have:(xs.take i).filter (fun x=>!p x)=xs.take i:=by
  rw [List.filter_eq_self]
  intro x hx
  obtain ⟨j,hj,rfl⟩:=List.mem_take_iff_getElem.1 hx
  have:=h3 j (by omega)
  simpa using this
 rw [this]
 simp [h2]
theorem find_all {β:Type} {p:β→Bool} {xs:List β} (h:xs.findIdx? p=none):xs.filter (fun x=>!p x)=xs:=by
 rw [List.findIdx?_eq_none_iff] at h
 rw [List.filter_eq_self]
 intro x hx
 rw [h x hx]; rfl
theorem cut_is {β:Type} {ys:List β} {n:Nat} (h:n≤ys.length) (z:β):okB (some (n:Int)) none none ys.length=true ∧
 okB none (some (n:Int)) none ((app (List.take (Int.toNat (n:Int)) ys) (app (List.replicate (ys.length - (Int.toNat (n:Int))) z) (List.drop ((Int.toNat (n:Int))+(ys.length - (Int.toNat (n:Int)))) ys))).length)=true ∧
 midL (app (List.take (Int.toNat (n:Int)) ys) (app (List.replicate (ys.length - (Int.toNat (n:Int))) z) (List.drop ((Int.toNat (n:Int))+(ys.length - (Int.toNat (n:Int)))) ys))) 0 (Int.toNat (n:Int))=ys.take n:=by
 have hl:(app (List.take (Int.toNat (n:Int)) ys) (app (List.replicate (ys.length - (Int.toNat (n:Int))) z) (List.drop ((Int.toNat (n:Int))+(ys.length - (Int.toNat (n:Int)))) ys))).length=ys.length:=by
  simp [app_eq]; omega
 rw [hl]
 refine ⟨?_,?_,?_⟩
 ·unfold okB
  simp only
  rw [decide_eq_true (show (0:Int)≤(n:Int) by omega),decide_eq_true (show (n:Int)≤(ys.length:Int) by omega)]; rfl
 ·unfold okB
  simp only
  rw [decide_eq_true (show (0:Int)≤(n:Int) by omega),decide_eq_true (show (n:Int)≤(ys.length:Int) by omega)]; rfl
 ·unfold midL
  simp only [app_eq,Int.toNat_natCast,List.drop_zero]
  rw [List.take_append_of_le_length (by simp; omega),List.take_take,Nat.min_self]
end Go.V
