import Derived.Test.YtlfcemfcgmidlaaDoorHaLaw
namespace Go.V
open Go.RowKit
noncomputable def goL {σ ρ:Type} (body:σ→Option (σ ⊕ ρ)):Option (σ ⊕ ρ)→Option ρ:=fun r=>r.bind fun r=>match r with
 | .inl d'=>loopR body d'
 | .inr r=>some r
theorem loopR_go {σ ρ:Type} (body:σ→Option (σ ⊕ ρ)) (d:σ):loopR body d=goL body (body d):=loopR_step body d
theorem goL_inl {σ ρ:Type} (body:σ→Option (σ ⊕ ρ)) (d:σ):goL body (some (.inl d))=loopR body d:=rfl
theorem goL_inr {σ ρ:Type} (body:σ→Option (σ ⊕ ρ)) (r:ρ):goL body (some (.inr r))=some r:=rfl
theorem idxI_nn {β:Type} (xs:List β) (n:Nat):idxI xs (n:Int)=xs[n]?:=rfl
theorem nilR_clone {β:Type} {xs:List β} {b:Nat} (h:(2 * (0+xs.length)+192) * b≤281474976710656) :
 (nilR xs fun (n:Bool)=>bif n then some [] else bif roomOk false 0 xs.length b then some xs else none)=some xs :=
 nilR_eq (fun h=>by rw [h]; rfl) (bif_t (roomOk_true h))
theorem find_loop {β:Type} {body:Int→Option (Int ⊕ (Unit ⊕ Int))} {xs:List β} {p:β→Bool} (hlen:xs.length≤9223372036854775807)
 (hb:∀ (i:Nat) x,xs[i]?=some x→body i=some (bif p x then .inr (.inr (i:Int)) else .inl (Go.IntKind.wrap .i64 ((i:Int)+1)))) (he:body xs.length=some (.inr (.inl ()))) :
 loopR body 0=some (match xs.findIdx? p with | some i=>.inr (i:Int) | none=>.inl ()):=by
 obtain ⟨r,h1,h2⟩:=loop_rule (body:=body) (fun j=>0≤j∧j≤xs.length∧(xs.take j.toNat).all (fun x=>!(p x))=true) (fun j=>xs.length - j.toNat) (fun r=>r=match xs.findIdx? p with | some i=>.inr (i:Int) | none=>.inl ()) (fun j hj=>by
  obtain ⟨j0,j1,j2⟩:=hj
  obtain ⟨i,rfl⟩:=Int.eq_ofNat_of_zero_le j0
  simp only [Int.toNat_natCast] at j2
  by_cases g:i<xs.length
  ·have hx:xs[i]?=some xs[i]:=List.getElem?_eq_getElem g
   rw [hb i _ hx]
   cases hp:p xs[i] with
   | true =>
    refine .inr ⟨_,rfl,?_⟩
    have:xs.findIdx? p=some i:=by
     rw [List.findIdx?_eq_some_iff_getElem]
     refine ⟨g,hp,fun k hk=>?_⟩
     rw [List.all_eq_true] at j2
     have:=j2 xs[k] (List.mem_take_iff_getElem.2 ⟨k,by omega,rfl⟩)
     simpa using this
    rw [this]
   | false =>
    have hw:Go.IntKind.wrap .i64 ((i:Int)+1)=i+1:=wrap_i64 (by unfold i64; omega)
    rw [hw]
    refine .inl ⟨_,rfl,⟨by omega,by omega,?_⟩,by omega⟩
    rw [show ((i:Int)+1).toNat=i+1 by omega,List.take_add_one,hx,List.all_append,j2]
    simp [hp]
  ·have:i=xs.length:=by omega
   subst this
   rw [he]
   refine .inr ⟨_,rfl,?_⟩
   rw [List.take_length] at j2
   have:xs.findIdx? p=none:=by
    rw [List.findIdx?_eq_none_iff]
    intro x hx
    rw [List.all_eq_true] at j2
    simpa using j2 x hx
   rw [this]) 0 (by simp)
 rw [h1,h2]
def idxOr:Option Nat→Int
 | some i=>i
 | none=>-1
theorem find_is {β:Type} {body:Int→Option (Int ⊕ (Unit ⊕ Int))} {xs:List β} {p:β→Bool} (hlen:xs.length≤9223372036854775807)
 (hb:∀ (i:Nat) x,xs[i]?=some x→body i=some (bif p x then .inr (.inr (i:Int)) else .inl (Go.IntKind.wrap .i64 ((i:Int)+1)))) (he:body xs.length=some (.inr (.inl ()))) :
 (Option.bind (loopR body 0) fun (q:(Unit ⊕ Int))=>Sum.elim (fun (_:Unit)=>some (-1:Int)) (fun (v:Int)=>some v) q)=some (idxOr (xs.findIdx? p)):=by
 rw [find_loop hlen hb he]
 cases xs.findIdx? p <;> rfl
theorem idxOr_any {β:Type} (xs:List β) (p:β→Bool):decide (0≤idxOr (xs.findIdx? p))=xs.any p:=by
 cases h:xs.findIdx? p with
 | none =>
  rw [List.findIdx?_eq_none_iff] at h
  have:xs.any p=false:=by
   rw [List.any_eq_false]
   intro x hx
   rw [h x hx]; simp
  rw [this]; rfl
 | some i =>
  rw [List.findIdx?_eq_some_iff_getElem] at h
  obtain ⟨h1,h2,-⟩:=h
  have:xs.any p=true:=List.any_eq_true.2 ⟨xs[i],List.getElem_mem _,h2⟩
  rw [this]
  exact decide_eq_true (by simp [idxOr])
theorem in_len {β:Type} {xs:List β} {i:Nat} {x:β} (h:xs[i]?=some x):decide ((i:Int)<(xs.length:Int))=true∧idxI xs (i:Int)=some x∧inB (i:Int) xs.length=true∧idxN xs i=some x:=by
 have hl:=(List.getElem?_eq_some_iff.mp h).1
 exact ⟨decide_eq_true (by omega),by rw [idxI_nn]; exact h,inB_true (by omega) (by omega),h⟩
theorem at_len {β:Type} (xs:List β):decide ((xs.length:Int)<(xs.length:Int))=false:=decide_eq_false (by omega)
theorem all_loop {β ρ:Type} {body:Int→Option (Int ⊕ (Unit ⊕ ρ))} {xs:List β} (hlen:xs.length≤9223372036854775806)
 (hb:∀ (i:Nat) x,xs[i]?=some x→body i=some (.inl (Go.IntKind.wrap .i64 ((i:Int)+1)))) (he:body xs.length=some (.inr (.inl ()))):loopR body 0=some (.inl ()):=by
 obtain ⟨r,h1,h2⟩:=loop_rule (body:=body) (fun j=>0≤j∧j≤xs.length) (fun j=>xs.length - j.toNat) (fun r=>r = .inl ()) (fun j hj=>by
  obtain ⟨j0,j1⟩:=hj
  obtain ⟨i,rfl⟩:=Int.eq_ofNat_of_zero_le j0
  by_cases g:i<xs.length
  ·rw [hb i _ (List.getElem?_eq_getElem g),wrap_i64 (by unfold i64; omega)]
   exact .inl ⟨_,rfl,⟨by omega,by omega⟩,by omega⟩
  ·have:i=xs.length:=by omega
   subst this
   exact .inr ⟨_,he,rfl⟩) 0 (by simp)
 rw [h1,h2]
end Go.V
