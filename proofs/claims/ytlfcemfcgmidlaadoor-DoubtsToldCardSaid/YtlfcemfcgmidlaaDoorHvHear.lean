import Derived.Test.YtlfcemfcgmidlaaDoorHvSure
import Derived.Test.YtlfcemfcgmidlaaDoorHvMsg
namespace Go.Hv
open Go.RowKit Go.Proofs Go.V
section
variable {c:Conf} {l me:Int} {d:Desk} {m:Msg}
theorem hear_done (hc:c.1≤4) (hk:r29 c=some 0) (hd:DeskOk c d) (l0:0≤l) (l1:l<c.2.1.length) (m0:0≤me) (m1:me<c.1) (hm:r41 (c,m)=some 0) (ht:m.2.2.1=me) (hx:m.2.2.2.1.1=me) (h6:m.1=5∨m.1=6)
 {i:Int} (i0:0≤i) (hp:r35 (mkW c l me d.1 d.2 [] [] [] 0 0,m.2.2.2.1.2)=some (i,mkW c l me d.1 d.2 [] [] [] 0 0)) {z:Work} (hz:r43 (mkW c l me d.1 d.2 [] [] [] 0 0,(i,(m,decide (m.1=6))))=some z) :
 r21 (c,(l,(me,(d,m))))=some (z.2.2.2,0):=by
 have hck:=desk_ok hc hk hd
 have how:=own_is hc hd
 unfold mkW at hp hz
 unfold r21
 simp only [hck,how,hm,Option.bind_some,decide_true,Bool.not_true,Bool.not_false,cond_true,cond_false,decide_eq_false (show ¬ l<0 by omega),decide_eq_false (show ¬ (c.2.1.length:Int)≤l by omega),decide_eq_false (show ¬ me<0 by omega),decide_eq_false (show ¬ c.1≤me by omega),
  decide_eq_true ht,decide_eq_true hx,decide_eq_false (show ¬ m.1<5 by omega),hp,decide_eq_false (show ¬ m.1=9 by omega),decide_eq_false (show ¬ i<0 by omega)]
 rcases h6 with h6 | h6
 ·rw [decide_eq_false (show ¬ m.1=6 by omega)] at hz
  simp only [decide_eq_true h6,cond_true,hz,Option.bind_some]
 ·rw [decide_eq_true h6] at hz
  simp only [decide_eq_false (show ¬ m.1=5 by omega),decide_eq_true h6,cond_true,cond_false,hz,Option.bind_some]
theorem hear_sure (hc:c.1≤4) (hk:r29 c=some 0) (hd:DeskOk c d) (l0:0≤l) (l1:l<c.2.1.length) (m0:0≤me) (m1:me<c.1) (hm:r41 (c,m)=some 0) (ht:m.2.2.1=me) (hx:m.2.2.2.1.1=me) (h7:m.1=7)
 {i:Int} (i0:0≤i) (hp:r35 (mkW c l me d.1 d.2 [] [] [] 0 0,m.2.2.2.1.2)=some (i,mkW c l me d.1 d.2 [] [] [] 0 0)) {z:Work} (hz:r44 (mkW c l me d.1 d.2 [] [] [] 0 0,(i,m))=some z) :
 r21 (c,(l,(me,(d,m))))=some (z.2.2.2,0):=by
 have hck:=desk_ok hc hk hd
 have how:=own_is hc hd
 unfold mkW at hp hz
 unfold r21
 simp only [hck,how,hm,Option.bind_some,decide_true,Bool.not_true,Bool.not_false,cond_true,cond_false,decide_eq_false (show ¬ l<0 by omega),decide_eq_false (show ¬ (c.2.1.length:Int)≤l by omega),decide_eq_false (show ¬ me<0 by omega),decide_eq_false (show ¬ c.1≤me by omega),
  decide_eq_true ht,decide_eq_true hx,decide_eq_false (show ¬ m.1<5 by omega),hp,decide_eq_false (show ¬ m.1=9 by omega),decide_eq_false (show ¬ i<0 by omega),decide_eq_false (show ¬ m.1=5 by omega),decide_eq_false (show ¬ m.1=6 by omega),decide_eq_true h7,hz]
end
end Go.Hv
