import Derived.Test.YtlfcemfcgmidlaaDoorHvCfg
namespace Go.Hv.Cf
open Go.RowKit Go.Proofs Go.V
abbrev Cfg:=Int×(List (Int×Int)×Int)
abbrev Msg:=Int×(Int×(Int×((Int×Int)×(Int×(Int×(Int×(Int×(Int×(Bool×Int)))))))))
abbrev Parts:=Bool×(Bool×(Bool×(Bool×(Bool×(Bool×(Bool×Bool))))))
def txnOk (c:Cfg) (t:Int×Int):Bool:=((decide (0≤t.1) && decide (t.1<c.1)) && decide (1≤t.2)) && decide (t.2≤1048576)
theorem txn_is (c:Cfg) (t:Int×Int):r69 (c,t)=some (txnOk c t):=by
 unfold r69
 simp only [bif_some,and_bif,Option.bind_some]
 rfl
def keyOk (k:Int):Bool:=decide (0≤k) && decide (k<8)
theorem key_is (k:Int):r70 k=some (keyOk k):=by
 unfold r70
 simp only [bif_some,and_bif]
 rfl
def valueOk (k:Int):Bool:=decide (0≤k) && decide (k≤1073741824)
theorem value_is (k:Int):r71 k=some (valueOk k):=by
 unfold r71
 simp only [bif_some,and_bif]
 rfl
def askOk (k:Int):Bool:=decide (0≤k) && decide (k≤1048576)
theorem askOk_is (k:Int):r72 k=some (askOk k):=by
 unfold r72
 simp only [bif_some,and_bif]
 rfl
def codeOk (k:Int):Bool:=(decide (k=0) || decide (k=11)) || decide (k=8)
theorem code_is (k:Int):r73 k=some (codeOk k):=by
 unfold r73
 simp only [bif_some,or_bif,Option.bind_some]
 rfl
def rangeBad (c:Cfg) (m:Msg):Bool :=
 (((((((((((decide (m.2.1<0) || decide (c.1≤m.2.1)) || decide (m.2.2.1<0)) || decide (c.1≤m.2.2.1)) || !txnOk c m.2.2.2.1) || decide (m.2.2.2.2.1<0)) || decide ((c.2.1.length:Int)≤m.2.2.2.2.1)) || !keyOk m.2.2.2.2.2.1) || !valueOk m.2.2.2.2.2.2.1) ||
  decide (m.2.2.2.2.2.2.2.1<0)) || decide (1048576<m.2.2.2.2.2.2.2.1)) || !askOk m.2.2.2.2.2.2.2.2.1) || !codeOk m.2.2.2.2.2.2.2.2.2.2
def formBad (p:Parts) (m:Msg):Bool :=
 (((((((!p.1 && !decide (m.2.2.2.2.1=0)) || (!p.2.1 && !decide (m.2.2.2.2.2.1=0))) || (!p.2.2.1 && !decide (m.2.2.2.2.2.2.1=0))) || (!p.2.2.2.1 && !decide (m.2.2.2.2.2.2.2.1=0))) || (!p.2.2.2.2.1 && !decide (m.2.2.2.2.2.2.2.2.1=0))) ||
  (!p.2.2.2.2.2.1 && m.2.2.2.2.2.2.2.2.2.1)) || (!p.2.2.2.2.2.2.1 && !decide (m.2.2.2.2.2.2.2.2.2.2=0))) || (!decide (m.2.2.2.2.2.2.2.2.2.2=0) && !decide (Go.IntKind.wrap .i64 (m.2.2.2.2.2.2.1+m.2.2.2.2.2.2.2.1)=0))
theorem checkMsg_is {c:Cfg} (hc:CfgOk c) (m:Msg):r41 (c,m)=bif decide (m.1<1) || decide (9<m.1) then some 3 else bif rangeBad c m then some 2 else Option.bind (idxI tab0 m.1) fun p=>bif formBad p m then some 4 else some 0:=by
 unfold r41
 simp only [check_ok hc,bif_some,or_bif,and_bif,Option.bind_some,txn_is,key_is,value_is,askOk_is,code_is]
 rfl
structure MsgOk (c:Cfg) (m:Msg):Prop where
 k0:1≤m.1
 k1:m.1≤9
 f0:0≤m.2.1
 f1:m.2.1<c.1
 t0:0≤m.2.2.1
 t1:m.2.2.1<c.1
 x0:0≤m.2.2.2.1.1
 x1:m.2.2.2.1.1<c.1
 n0:1≤m.2.2.2.1.2
 n1:m.2.2.2.1.2≤1048576
 l0:0≤m.2.2.2.2.1
 l1:m.2.2.2.2.1<c.2.1.length
 y0:0≤m.2.2.2.2.2.1
 y1:m.2.2.2.2.2.1<8
 v0:0≤m.2.2.2.2.2.2.1
 v1:m.2.2.2.2.2.2.1≤1073741824
 r0:0≤m.2.2.2.2.2.2.2.1
 r1:m.2.2.2.2.2.2.2.1≤1048576
 a0:0≤m.2.2.2.2.2.2.2.2.1
 a1:m.2.2.2.2.2.2.2.2.1≤1048576
 cd:m.2.2.2.2.2.2.2.2.2.2=0∨m.2.2.2.2.2.2.2.2.2.2=11∨m.2.2.2.2.2.2.2.2.2.2=8
 form:∃ p,idxI tab0 m.1=some p∧formBad p m=false
theorem MsgOk.range {c:Cfg} {m:Msg} (h:MsgOk c m):rangeBad c m=false:=by
 have e1:txnOk c m.2.2.2.1=true:=by
  unfold txnOk
  rw [decide_eq_true h.x0,decide_eq_true h.x1,decide_eq_true h.n0,decide_eq_true h.n1]; rfl
 have e2:keyOk m.2.2.2.2.2.1=true:=by unfold keyOk; rw [decide_eq_true h.y0,decide_eq_true h.y1]; rfl
 have e3:valueOk m.2.2.2.2.2.2.1=true:=by unfold valueOk; rw [decide_eq_true h.v0,decide_eq_true h.v1]; rfl
 have e4:askOk m.2.2.2.2.2.2.2.2.1=true:=by unfold askOk; rw [decide_eq_true h.a0,decide_eq_true h.a1]; rfl
 have e5:codeOk m.2.2.2.2.2.2.2.2.2.2=true:=by unfold codeOk; rcases h.cd with e | e | e <;> rw [e] <;> rfl
 have f0:=h.f0
 have f1:=h.f1
 have t0:=h.t0
 have t1:=h.t1
 have l0:=h.l0
 have l1:=h.l1
 have r0:=h.r0
 have r1:=h.r1
 unfold rangeBad
 rw [e1,e2,e3,e4,e5,decide_eq_false (by omega : ¬ m.2.1<0),decide_eq_false (by omega : ¬ c.1≤m.2.1),decide_eq_false (by omega : ¬ m.2.2.1<0),decide_eq_false (by omega : ¬ c.1≤m.2.2.1),decide_eq_false (by omega : ¬ m.2.2.2.2.1<0),
  decide_eq_false (by omega : ¬ (c.2.1.length:Int)≤m.2.2.2.2.1),decide_eq_false (by omega : ¬ m.2.2.2.2.2.2.2.1<0),decide_eq_false (by omega : ¬ 1048576<m.2.2.2.2.2.2.2.1)]
 rfl
theorem msg_ok {c:Cfg} (hc:CfgOk c) {m:Msg} (h:MsgOk c m):r41 (c,m)=some 0:=by
 obtain ⟨p,h1,h2⟩:=h.form
 have k0:=h.k0
 have k1:=h.k1
 rw [checkMsg_is hc,decide_eq_false (by omega : ¬ m.1<1),decide_eq_false (by omega : ¬ 9<m.1),h.range,h1]
 simp only [Bool.or_self,cond_false,Option.bind_some,h2]
end Go.Hv.Cf
