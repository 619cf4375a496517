import Derived.Test.YtlfcemfcgmidlaaDoorLibI
import Derived.WalkKit
import Derived.Lib.Walk
import Derived.Lib.JoinLaws
import Derived.Test.YtlfcemfcgmidlaaDoorLibL
import Derived.Test.YtlfcemfcgmidlaaDoorProg
import Derived.KernelRfl
namespace Go.Hv
open Go.RowKit Go.Proofs Go.V Go.Proofs
abbrev E_79:Ty:=(.pair (.int .i64) (.pair (.sl (.pair (.int .i64) (.int .i64))) (.int .i64)))
abbrev E_78:Ty:=(.pair (.int .i64) (.pair (.int .i64) (.pair (.int .i64) (.pair (.int .i64) (.int .i64)))))
abbrev E_77:Ty:=(.pair (.int .i64) E_78)
abbrev E_76:Ty:=(.sl E_77)
abbrev E_75:Ty:=(.pair .bool (.pair (.int .i64) (.pair (.int .i64) (.pair (.int .i64) (.pair (.int .i64) (.pair (.int .i64) (.pair .bool .bool)))))))
abbrev E_74:Ty:=(.pair (.int .i64) (.pair (.pair (.int .i64) (.int .i64)) (.pair (.int .i64) (.pair (.int .i64) (.pair (.int .i64) (.pair .bool (.rsl (.int .i64))))))))
abbrev E_73:Ty:=(.pair (.int .i64) (.pair (.int .i64) (.pair (.int .i64) (.pair (.pair (.int .i64) (.int .i64)) (.pair (.int .i64) (.pair (.int .i64) (.pair (.int .i64) (.pair (.int .i64) (.pair (.int .i64) (.pair .bool (.int .i64)))))))))))
abbrev E_72:Ty:=(.pair (.int .i64) (.pair (.int .i64) (.pair (.sl E_75) (.pair (.sl (.int .i64)) (.pair (.int .i64) (.int .i64))))))
abbrev E_71:Ty:=(.sl E_72)
abbrev E_70:Ty:=(.pair (.int .i64) E_71)
abbrev E_69:Ty:=(.pair E_70 (.pair (.sl E_73) (.pair (.sl E_74) (.pair E_76 (.pair (.int .i64) (.int .i64))))))
abbrev E_68:Ty:=(.pair (.int .i64) E_69)
abbrev E_67:Ty:=(.pair (.int .i64) E_68)
abbrev E_66:Ty:=(.pair (.pair (.int .i64) (.pair (.rsl (.pair (.int .i64) (.int .i64))) (.int .i64))) E_67)
abbrev E_65:Ty:=(.ptr E_66)
abbrev T_64:Type:=((Unit×(Unit×Unit))×Nat)
abbrev T_63:Type:=(Int×(List ((Int×Int))×Int))
abbrev T_62:Type:=(Int×(Int×(Int×(Int×(Int×Int)))))
abbrev T_61:Type:=(Bool×(Int×(Int×(Int×(Int×(Int×(Bool×Bool)))))))
abbrev T_60:Type:=(Unit×(Unit×(Int×(Int×(Int×(Bool×(Bool×List Int)))))))
abbrev T_59:Type:=(Int×(Int×(Int×((Int×Int)×(Int×(Int×(Int×(Int×(Int×(Bool×Int))))))))))
abbrev T_58:Type:=(Int×(Int×(List (T_61)×(List Int×(Int×Int)))))
abbrev T_57:Type:=(Int×List (T_58))
abbrev T_56:Type:=(Unit×T_57)
abbrev T_55:Type:=(Unit×(Int×T_57))
abbrev T_53:Type:=(T_63×(Int×(Int×(T_57×T_62))))
abbrev T_52:Type:=(T_63×(T_57×T_58))
abbrev T_51:Type:=(T_57×(List (T_59)×(List ((Int×((Int×Int)×(Int×(Int×(Int×(Bool×List Int)))))))×(List (T_62)×(Int×Int)))))
abbrev T_50:Type:=(T_51×Int)
abbrev T_49:Type:=(Int×(List ((Int×Int))×(Int×(Int×(Int×(Int×(List (T_58)×(List (T_59)×(List ((Int×((Int×Int)×(Int×(Int×(Int×(Bool×List Int)))))))×(List (T_62)×(Int×Int)))))))))))
abbrev T_48:Type:=(T_63×(Int×(Int×T_51)))
abbrev T_47:Type:=(Int×T_49)
abbrev T_46:Type:=(Int×T_48)
abbrev T_45:Type:=(T_48×Int)
abbrev T_44:Type:=(Unit×T_49)
abbrev T_43:Type:=(Bool×T_49)
abbrev T_42:Type:=(Unit×T_47)
abbrev T_41:Type:=(Unit×T_44)
abbrev T_40:Type:=((Unit×(Unit×(Nat×Unit)))×T_49)
abbrev T_39:Type:=(T_64×T_49)
abbrev T_38:Type:=((Unit×(Unit×(Nat×Unit)))×T_47)
abbrev T_37:Type:=(((Unit×(Unit×(Nat×Unit)))×Nat)×T_49)
abbrev T_36:Type:=(Unit×T_39)
abbrev T_35:Type:=(Unit×(T_64×T_43))
abbrev T_34:Type:=(Unit×(Unit×T_38))
abbrev T_33:Type:=(Unit×(Unit×((Unit×(Unit×(Nat×Unit)))×T_44)))
abbrev T_32:Type:=(Unit×(T_64×(Bool×T_43)))
abbrev T_31:Type:=(Unit×(T_64×(Bool×(Bool×T_47))))
abbrev T_30:Type:=(T_64×T_40)
abbrev T_29:Type:=(T_48×(Int×T_61))
abbrev T_28:Type:=(Unit×(T_64×T_37))
abbrev T_27:Type:=(Unit×(T_64×(Bool×T_37)))
abbrev T_26:Type:=(T_64×(T_64×T_39))
abbrev T_25:Type:=(T_48×(Int×T_59))
abbrev T_24:Type:=(T_48×(Int×(T_59×Bool)))
abbrev T_23:Type:=(Unit×(T_64×(T_64×T_38)))
abbrev T_22:Type:=(Unit×(T_64×(Unit×T_30)))
abbrev T_21:Type:=(Unit×(T_64×(T_64×((Unit×(Unit×(Nat×Unit)))×(Int×T_47)))))
abbrev T_20:Type:=(Unit×(T_64×(Unit×(T_64×(Bool×T_40)))))
abbrev T_19:Type:=(Unit×(T_64×(Unit×(T_64×(Bool×T_38)))))
abbrev T_18:Type:=(Unit×(T_64×T_26))
abbrev T_17:Type:=(Unit×(Unit×(Unit×(Unit×(T_64×(T_64×(T_64×T_44)))))))
abbrev T_16:Type:=(Unit×(T_64×(Unit×(T_64×T_30))))
abbrev T_15:Type:=(T_64×(((Unit×(Unit×(Nat×Unit)))×Nat)×T_26))
abbrev T_14:Type:=((Unit×(Unit×(Nat×Unit)))×T_17)
abbrev T_13:Type:=(T_64×T_17)
abbrev T_11:Type:=(Unit×T_15)
abbrev T_10:Type:=(Unit×T_13)
abbrev T_9:Type:=(T_64×T_14)
abbrev T_7:Type:=(Unit×T_9)
abbrev T_5:Type:=(T_64×T_7)
abbrev T_4:Type:=(Unit×T_5)
def tys:List (Nat×TyInfo):=[
 (3,⟨.int .i64,1,8,[.int .i64 0],false,[none],[none],(.int .i64)⟩),
 (4,⟨.bool,1,1,[.bool false],false,[none],[none],.bool⟩),
 (5,⟨.int .u8,1,1,[.int .u8 0],false,[none],[none],(.int .u8)⟩),
 (9,⟨.str,1,16,[.string ⟨#[]⟩],false,[none],[none],.str⟩),
 (22,⟨.sl 55,1,24,[.slice none 0 0],false,[some E_77],[none],E_76⟩),
 (23,⟨.sl 95,1,24,[.slice none 0 0],false,[some (.pair (.int .i64) (.int .i64))],[none],(.sl (.pair (.int .i64) (.int .i64)))⟩),
 (25,⟨.st [(0,3),(1,23),(2,3)],3,40,[.int .i64 0,.slice none 0 0,.int .i64 0],false,[none,some (.pair (.int .i64) (.int .i64)),none],[none,none,none],(.pair (.int .i64) (.pair (.rsl (.pair (.int .i64) (.int .i64))) (.int .i64)))⟩),
 (27,⟨.sl 68,1,24,[.slice none 0 0],false,[some E_72],[none],E_71⟩),
 (29,⟨.st [(0,3),(1,27)],2,32,[.int .i64 0,.slice none 0 0],false,[none,some E_72],[none,none],E_70⟩),
 (32,⟨.int .i64,1,8,[.int .i64 0],false,[none],[none],(.int .i64)⟩),
 (35,⟨.sl 58,1,24,[.slice none 0 0],false,[some E_73],[none],(.sl E_73)⟩),
 (36,⟨.sl 51,1,24,[.slice none 0 0],false,[some E_74],[none],(.sl E_74)⟩),
 (37,⟨.sl 45,1,24,[.slice none 0 0],false,[some E_77],[none],E_76⟩),
 (39,⟨.st [(0,29),(2,35),(3,36),(4,37),(5,3),(6,3)],7,120,[.int .i64 0,.slice none 0 0,.slice none 0 0,.slice none 0 0,.slice none 0 0,.int .i64 0,.int .i64 0],false,[none,some E_72,some E_73,some E_74,some E_77,none,none],[none,none,none,none,none,none,none],E_69⟩),
 (43,⟨.st [(0,3),(1,3),(2,3),(3,3),(4,3)],5,40,[.int .i64 0,.int .i64 0,.int .i64 0,.int .i64 0,.int .i64 0],false,[none,none,none,none,none],[none,none,none,none,none],E_78⟩),
 (45,⟨.st [(0,3),(1,3),(2,3),(3,3),(4,3),(5,32)],6,48,[.int .i64 0,.int .i64 0,.int .i64 0,.int .i64 0,.int .i64 0,.int .i64 0],true,[none,none,none,none,none,none],[none,none,none,none,none,none],E_77⟩),
 (48,⟨.st [(0,3),(1,3)],2,16,[.int .i64 0,.int .i64 0],false,[none,none],[none,none],(.pair (.int .i64) (.int .i64))⟩),
 (49,⟨.sl 3,1,24,[.slice none 0 0],false,[some (.int .i64)],[none],(.sl (.int .i64))⟩),
 (51,⟨.st [(0,3),(1,48),(3,3),(4,3),(5,3),(6,4),(7,49)],8,80,[.int .i64 0,.int .i64 0,.int .i64 0,.int .i64 0,.int .i64 0,.int .i64 0,.bool false,.slice none 0 0],false,[none,none,none,none,none,none,none,some (.int .i64)],[none,none,none,none,none,none,none,none],E_74⟩),
 (52,⟨.sl 43,1,24,[.slice none 0 0],false,[some E_78],[none],(.sl E_78)⟩),
 (55,⟨.st [(0,3),(1,3),(2,3),(3,3),(4,3),(5,3)],6,48,[.int .i64 0,.int .i64 0,.int .i64 0,.int .i64 0,.int .i64 0,.int .i64 0],false,[none,none,none,none,none,none],[none,none,none,none,none,none],E_77⟩),
 (58,⟨.st [(0,3),(1,3),(2,3),(3,48),(5,3),(6,3),(7,3),(8,3),(9,3),(10,4),(11,32)],12,96,[.int .i64 0,.int .i64 0,.int .i64 0,.int .i64 0,.int .i64 0,.int .i64 0,.int .i64 0,.int .i64 0,.int .i64 0,.int .i64 0,.bool false,.int .i64 0],false,[none,none,none,none,none,none,none,none,none,none,none,none],[none,none,none,none,none,none,none,none,none,none,none,none],E_73⟩),
 (62,⟨.sl 4,1,24,[.slice none 0 0],false,[some .bool],[none],(.sl .bool)⟩),
 (66,⟨.sl 110,1,24,[.slice none 0 0],false,[some E_75],[none],(.sl E_75)⟩),
 (68,⟨.st [(0,3),(1,3),(2,66),(3,49),(4,3),(5,3)],6,80,[.int .i64 0,.int .i64 0,.slice none 0 0,.slice none 0 0,.int .i64 0,.int .i64 0],false,[none,none,some E_75,some (.int .i64),none,none],[none,none,none,none,none,none],E_72⟩),
 (95,⟨.st [(0,3),(1,3)],2,16,[.int .i64 0,.int .i64 0],true,[none,none],[none,none],(.pair (.int .i64) (.int .i64))⟩),
 (99,⟨.ptr,1,8,[.pointer none],false,[none],[none],.unit⟩),
 (104,⟨.st [(0,25),(3,3),(4,3),(5,39)],12,176,[.int .i64 0,.slice none 0 0,.int .i64 0,.int .i64 0,.int .i64 0,.int .i64 0,.slice none 0 0,.slice none 0 0,.slice none 0 0,.slice none 0 0,.int .i64 0,.int .i64 0],false,[none,some (.pair (.int .i64) (.int .i64)),none,none,none,none,some E_72,some E_73,some E_74,some E_77,none,none],[none,none,none,none,none,none,none,none,none,none,none,none],E_66⟩),
 (110,⟨.st [(0,4),(1,3),(2,3),(3,3),(4,3),(5,3),(6,4),(7,4)],8,56,[.bool false,.int .i64 0,.int .i64 0,.int .i64 0,.int .i64 0,.int .i64 0,.bool false,.bool false],true,[none,none,none,none,none,none,none,none],[none,none,none,none,none,none,none,none],E_75⟩),
 (113,⟨.sl 32,1,24,[.slice none 0 0],false,[some (.int .i64)],[none],(.sl (.int .i64))⟩),
 (154,⟨.st [(0,4),(1,4),(2,4),(3,4),(4,4),(5,4),(6,4),(7,4)],8,8,[.bool false,.bool false,.bool false,.bool false,.bool false,.bool false,.bool false,.bool false],false,[none,none,none,none,none,none,none,none],[none,none,none,none,none,none,none,none],(.pair .bool (.pair .bool (.pair .bool (.pair .bool (.pair .bool (.pair .bool (.pair .bool .bool)))))))⟩),
 (155,⟨.arr 10 154,80,80,[.bool false,.bool false,.bool false,.bool false,.bool false,.bool false,.bool false,.bool false,.bool false,.bool false,.bool false,.bool false,.bool false,.bool false,.bool false,.bool false,.bool false,.bool false,.bool false,.bool false,.bool false,.bool false,.bool false,.bool false,.bool false,.bool false,.bool false,.bool false,.bool false,.bool false,.bool false,.bool false,.bool false,.bool false,.bool false,.bool false,.bool false,.bool false,.bool false,.bool false,.bool false,.bool false,.bool false,.bool false,.bool false,.bool false,.bool false,.bool false,.bool false,.bool false,.bool false,.bool false,.bool false,.bool false,.bool false,.bool false,.bool false,.bool false,.bool false,.bool false,.bool false,.bool false,.bool false,.bool false,.bool false,.bool false,.bool false,.bool false,.bool false,.bool false,.bool false,.bool false,.bool false,.bool false,.bool false,.bool false,.bool false,.bool false,.bool false,.bool false],false,[none,none,none,none,none,none,none,none,none,none,none,none,none,none,none,none,none,none,none,none,none,none,none,none,none,none,none,none,none,none,none,none,none,none,none,none,none,none,none,none,none,none,none,none,none,none,none,none,none,none,none,none,none,none,none,none,none,none,none,none,none,none,none,none,none,none,none,none,none,none,none,none,none,none,none,none,none,none,none,none],[none,none,none,none,none,none,none,none,none,none,none,none,none,none,none,none,none,none,none,none,none,none,none,none,none,none,none,none,none,none,none,none,none,none,none,none,none,none,none,none,none,none,none,none,none,none,none,none,none,none,none,none,none,none,none,none,none,none,none,none,none,none,none,none,none,none,none,none,none,none,none,none,none,none,none,none,none,none,none,none],.unit⟩),
 (208,⟨.int .u64,1,8,[.int .u64 0],false,[none],[none],(.int .u64)⟩),
 (212,⟨.int .i64,1,8,[.int .i64 0],false,[none],[none],(.int .i64)⟩),
 (220,⟨.int .u32,1,4,[.int .u32 0],false,[none],[none],(.int .u32)⟩),
 (222,⟨.int .u64,1,8,[.int .u64 0],false,[none],[none],(.int .u64)⟩),
 (228,⟨.int .u64,1,8,[.int .u64 0],false,[none],[none],(.int .u64)⟩),
 (232,⟨.ptr,1,8,[.pointer none],false,[none],[none],.unit⟩),
 (235,⟨.arr 20 222,20,160,[.int .u64 0,.int .u64 0,.int .u64 0,.int .u64 0,.int .u64 0,.int .u64 0,.int .u64 0,.int .u64 0,.int .u64 0,.int .u64 0,.int .u64 0,.int .u64 0,.int .u64 0,.int .u64 0,.int .u64 0,.int .u64 0,.int .u64 0,.int .u64 0,.int .u64 0,.int .u64 0],false,[none,none,none,none,none,none,none,none,none,none,none,none,none,none,none,none,none,none,none,none],[none,none,none,none,none,none,none,none,none,none,none,none,none,none,none,none,none,none,none,none],.unit⟩),
 (237,⟨.ptr,1,8,[.pointer none],false,[none],[none],.unit⟩),
 (240,⟨.arr 32 5,32,32,[.int .u8 0,.int .u8 0,.int .u8 0,.int .u8 0,.int .u8 0,.int .u8 0,.int .u8 0,.int .u8 0,.int .u8 0,.int .u8 0,.int .u8 0,.int .u8 0,.int .u8 0,.int .u8 0,.int .u8 0,.int .u8 0,.int .u8 0,.int .u8 0,.int .u8 0,.int .u8 0,.int .u8 0,.int .u8 0,.int .u8 0,.int .u8 0,.int .u8 0,.int .u8 0,.int .u8 0,.int .u8 0,.int .u8 0,.int .u8 0,.int .u8 0,.int .u8 0],false,[none,none,none,none,none,none,none,none,none,none,none,none,none,none,none,none,none,none,none,none,none,none,none,none,none,none,none,none,none,none,none,none],[none,none,none,none,none,none,none,none,none,none,none,none,none,none,none,none,none,none,none,none,none,none,none,none,none,none,none,none,none,none,none,none],.unit⟩),
 (241,⟨.arr 64 5,64,64,[.int .u8 0,.int .u8 0,.int .u8 0,.int .u8 0,.int .u8 0,.int .u8 0,.int .u8 0,.int .u8 0,.int .u8 0,.int .u8 0,.int .u8 0,.int .u8 0,.int .u8 0,.int .u8 0,.int .u8 0,.int .u8 0,.int .u8 0,.int .u8 0,.int .u8 0,.int .u8 0,.int .u8 0,.int .u8 0,.int .u8 0,.int .u8 0,.int .u8 0,.int .u8 0,.int .u8 0,.int .u8 0,.int .u8 0,.int .u8 0,.int .u8 0,.int .u8 0,.int .u8 0,.int .u8 0,.int .u8 0,.int .u8 0,.int .u8 0,.int .u8 0,.int .u8 0,.int .u8 0,.int .u8 0,.int .u8 0,.int .u8 0,.int .u8 0,.int .u8 0,.int .u8 0,.int .u8 0,.int .u8 0,.int .u8 0,.int .u8 0,.int .u8 0,.int .u8 0,.int .u8 0,.int .u8 0,.int .u8 0,.int .u8 0,.int .u8 0,.int .u8 0,.int .u8 0,.int .u8 0,.int .u8 0,.int .u8 0,.int .u8 0,.int .u8 0],false,[none,none,none,none,none,none,none,none,none,none,none,none,none,none,none,none,none,none,none,none,none,none,none,none,none,none,none,none,none,none,none,none,none,none,none,none,none,none,none,none,none,none,none,none,none,none,none,none,none,none,none,none,none,none,none,none,none,none,none,none,none,none,none,none],[none,none,none,none,none,none,none,none,none,none,none,none,none,none,none,none,none,none,none,none,none,none,none,none,none,none,none,none,none,none,none,none,none,none,none,none,none,none,none,none,none,none,none,none,none,none,none,none,none,none,none,none,none,none,none,none,none,none,none,none,none,none,none,none],.unit⟩)]
theorem tysOk:TyOk Tryd.prog tys:=tyOk_of fun e he=>by
 simp only [tys,List.mem_cons,List.not_mem_nil,or_false] at he
 rcases he with rfl | rfl | rfl | rfl | rfl | rfl | rfl | rfl | rfl | rfl | rfl | rfl | rfl | rfl | rfl | rfl | rfl | rfl | rfl | rfl | rfl | rfl | rfl | rfl | rfl | rfl | rfl | rfl | rfl | rfl | rfl | rfl | rfl | rfl | rfl | rfl | rfl | rfl | rfl | rfl | rfl | rfl
 ·exact ⟨by kernel_rfl,by kernel_rfl,fun h=>nomatch h⟩
 ·exact ⟨by kernel_rfl,by kernel_rfl,fun h=>nomatch h⟩
 ·exact ⟨by kernel_rfl,by kernel_rfl,fun h=>nomatch h⟩
 ·exact ⟨by kernel_rfl,by kernel_rfl,fun h=>nomatch h⟩
 ·exact ⟨by kernel_rfl,by kernel_rfl,fun h=>nomatch h⟩
 ·exact ⟨by kernel_rfl,by kernel_rfl,fun h=>nomatch h⟩
 ·exact ⟨by kernel_rfl,by kernel_rfl,fun h=>nomatch h⟩
 ·exact ⟨by kernel_rfl,by kernel_rfl,fun h=>nomatch h⟩
 ·exact ⟨by kernel_rfl,by kernel_rfl,fun h=>nomatch h⟩
 ·exact ⟨by kernel_rfl,by kernel_rfl,fun h=>nomatch h⟩
 ·exact ⟨by kernel_rfl,by kernel_rfl,fun h=>nomatch h⟩
 ·exact ⟨by kernel_rfl,by kernel_rfl,fun h=>nomatch h⟩
 ·exact ⟨by kernel_rfl,by kernel_rfl,fun h=>nomatch h⟩
 ·exact ⟨by kernel_rfl,by kernel_rfl,fun h=>nomatch h⟩
 ·exact ⟨by kernel_rfl,by kernel_rfl,fun h=>nomatch h⟩
 ·exact ⟨by kernel_rfl,by kernel_rfl,fun _=>⟨by kernel_rfl,by kernel_rfl,by kernel_rfl⟩⟩
 ·exact ⟨by kernel_rfl,by kernel_rfl,fun h=>nomatch h⟩
 ·exact ⟨by kernel_rfl,by kernel_rfl,fun h=>nomatch h⟩
 ·exact ⟨by kernel_rfl,by kernel_rfl,fun h=>nomatch h⟩
 ·exact ⟨by kernel_rfl,by kernel_rfl,fun h=>nomatch h⟩
 ·exact ⟨by kernel_rfl,by kernel_rfl,fun h=>nomatch h⟩
 ·exact ⟨by kernel_rfl,by kernel_rfl,fun h=>nomatch h⟩
 ·exact ⟨by kernel_rfl,by kernel_rfl,fun h=>nomatch h⟩
 ·exact ⟨by kernel_rfl,by kernel_rfl,fun h=>nomatch h⟩
 ·exact ⟨by kernel_rfl,by kernel_rfl,fun h=>nomatch h⟩
 ·exact ⟨by kernel_rfl,by kernel_rfl,fun _=>⟨by kernel_rfl,by kernel_rfl,by kernel_rfl⟩⟩
 ·exact ⟨by kernel_rfl,by kernel_rfl,fun h=>nomatch h⟩
 ·exact ⟨by kernel_rfl,by kernel_rfl,fun h=>nomatch h⟩
 ·exact ⟨by kernel_rfl,by kernel_rfl,fun _=>⟨by kernel_rfl,by kernel_rfl,by kernel_rfl⟩⟩
 ·exact ⟨by kernel_rfl,by kernel_rfl,fun h=>nomatch h⟩
 ·exact ⟨by kernel_rfl,by kernel_rfl,fun h=>nomatch h⟩
 ·exact ⟨by kernel_rfl,by kernel_rfl,fun h=>nomatch h⟩
 ·exact ⟨by kernel_rfl,by kernel_rfl,fun h=>nomatch h⟩
 ·exact ⟨by kernel_rfl,by kernel_rfl,fun h=>nomatch h⟩
 ·exact ⟨by kernel_rfl,by kernel_rfl,fun h=>nomatch h⟩
 ·exact ⟨by kernel_rfl,by kernel_rfl,fun h=>nomatch h⟩
 ·exact ⟨by kernel_rfl,by kernel_rfl,fun h=>nomatch h⟩
 ·exact ⟨by kernel_rfl,by kernel_rfl,fun h=>nomatch h⟩
 ·exact ⟨by kernel_rfl,by kernel_rfl,fun h=>nomatch h⟩
 ·exact ⟨by kernel_rfl,by kernel_rfl,fun h=>nomatch h⟩
 ·exact ⟨by kernel_rfl,by kernel_rfl,fun h=>nomatch h⟩
 ·exact ⟨by kernel_rfl,by kernel_rfl,fun h=>nomatch h⟩
def tab0:List (Bool×(Bool×(Bool×(Bool×(Bool×(Bool×(Bool×Bool))))))):=[(false,(false,(false,(false,(false,(false,(false,false))))))),
 (true,(true,(false,(false,(true,(false,(false,false))))))),
 (false,(true,(true,(false,(true,(false,(false,false))))))),
 (true,(true,(false,(true,(false,(false,(false,false))))))),
 (false,(false,(false,(false,(false,(true,(false,false))))))),
 (true,(true,(true,(true,(true,(false,(true,false))))))),
 (false,(true,(false,(false,(true,(false,(true,false))))))),
 (true,(true,(false,(true,(false,(true,(false,false))))))),
 (false,(false,(false,(false,(false,(false,(false,false))))))),
 (false,(false,(false,(false,(false,(false,(false,false)))))))]
noncomputable def inls:List (Nat×Go.Func):=[(31,Tryd.f31),(34,Tryd.f34),(61,Tryd.f61),(62,Tryd.f62),(63,Tryd.f63),(64,Tryd.f64),(65,Tryd.f65),(67,Tryd.f67),(68,Tryd.f68),(75,Tryd.f75),(76,Tryd.f76),(77,Tryd.f77),(100,Tryd.f100),(101,Tryd.f101),(102,Tryd.f102),(105,Tryd.f105),(125,Tryd.f125),(126,Tryd.f126),(133,Tryd.f133)]
theorem inlsOk:∀ f fn,Go.V.look inls f=some fn→Tryd.prog.funcs[f]?=some fn∧(fn.name == "runtime.NumGoroutine")=false:=inlOk_of fun e he=>by
 simp only [inls,List.mem_cons,List.not_mem_nil,or_false] at he
 rcases he with rfl | rfl | rfl | rfl | rfl | rfl | rfl | rfl | rfl | rfl | rfl | rfl | rfl | rfl | rfl | rfl | rfl | rfl | rfl
 ·exact ⟨Tryd.func31,by kernel_rfl⟩
 ·exact ⟨Tryd.func34,by kernel_rfl⟩
 ·exact ⟨Tryd.func61,by kernel_rfl⟩
 ·exact ⟨Tryd.func62,by kernel_rfl⟩
 ·exact ⟨Tryd.func63,by kernel_rfl⟩
 ·exact ⟨Tryd.func64,by kernel_rfl⟩
 ·exact ⟨Tryd.func65,by kernel_rfl⟩
 ·exact ⟨Tryd.func67,by kernel_rfl⟩
 ·exact ⟨Tryd.func68,by kernel_rfl⟩
 ·exact ⟨Tryd.func75,by kernel_rfl⟩
 ·exact ⟨Tryd.func76,by kernel_rfl⟩
 ·exact ⟨Tryd.func77,by kernel_rfl⟩
 ·exact ⟨Tryd.func100,by kernel_rfl⟩
 ·exact ⟨Tryd.func101,by kernel_rfl⟩
 ·exact ⟨Tryd.func102,by kernel_rfl⟩
 ·exact ⟨Tryd.func105,by kernel_rfl⟩
 ·exact ⟨Tryd.func125,by kernel_rfl⟩
 ·exact ⟨Tryd.func126,by kernel_rfl⟩
 ·exact ⟨Tryd.func133,by kernel_rfl⟩
noncomputable def cx:Ctx:=⟨Tryd.prog,tys,tysOk,[(0,.ga (.pair .bool (.pair .bool (.pair .bool (.pair .bool (.pair .bool (.pair .bool (.pair .bool .bool))))))) tab0)],0,inls,inlsOk,by kernel_rfl⟩
def sg15:Sig:=⟨[⟨false,.bo,(.int .i64)⟩,⟨false,.bo,(.int .i64)⟩],[⟨false,.own,(.int .i64)⟩]⟩
noncomputable def r15 (a:(Int×Int)):Option Int :=
 Option.bind (
 bif decide (a.1<(0:Int)) then
 some (Go.IntKind.wrap .i64 (0 - (Go.IntKind.wrap .i64 (a.1+(1:Int)))))
 else
 some a.1) fun (d1:Int) =>
 bif decide (a.2=0) then
 none
 else
 some (Int.tmod d1 a.2)
def an15:Ann:=.two (.leaf) (.two (.join [1] [] [⟨.normal,[],[.tmp 0 (.int .i64)]⟩] (.two (.leaf) (.two (.leaf) (.leaf)))) (.two (.leaf) (.leaf)))
theorem s15:SoundF cx.P cx.G 15 sg15 r15:=by
 have e:denF cx [] an15 Tryd.f15.ntmps (Tryd.f15.body.getD .skip) Tryd.f15.results.toList sg15=r15:=by kernel_rfl
 rw [← e]
 exact sound_of_den (c:=cx) (Known.nil) Tryd.func15 (by kernel_rfl) (Nat.le_of_ble_eq_true (by kernel_rfl)) rfl
def sg13:Sig:=⟨[⟨false,.bo,(.int .i64)⟩],[⟨true,.ro,E_79⟩]⟩
noncomputable def r13 (a:Int):Option T_63 :=
 Option.bind (r15 (a,(3:Int))) fun (y1:Int) =>
 some ((Go.IntKind.wrap .i64 ((1:Int)+y1)),([((0:Int),(0:Int)),((1:Int),(0:Int))],(3:Int)))
def an13:Ann:=.two (.leaf) (.two (.leaf) (.leaf))
theorem s13:SoundF cx.P cx.G 13 sg13 r13:=by
 have e:denF cx [(15,⟨sg15,r15⟩)] an13 Tryd.f13.ntmps (Tryd.f13.body.getD .skip) Tryd.f13.results.toList sg13=r13:=by kernel_rfl
 rw [← e]
 exact sound_of_den (c:=cx) (Known.cons (.ofF s15 (by kernel_rfl)) Tryd.func15 (by kernel_rfl) (by kernel_rfl) (Known.nil)) Tryd.func13 (by kernel_rfl) (Nat.le_of_ble_eq_true (by kernel_rfl)) rfl
def sg58:Sig:=⟨[⟨true,.bo,(.pair (.int .i64) (.int .i64))⟩],[⟨false,.own,.bool⟩]⟩
noncomputable def r58 (a:(Int×Int)):Option Bool :=
 Option.bind (
 bif decide ((0:Int)≤a.1) then
 some (decide (a.1≤(9:Int)))
 else
 some false) fun (g1:Bool) =>
 Option.bind (
 bif g1 then
 some (decide ((0:Int)≤a.2))
 else
 some false) fun (g2:Bool) =>
 bif g2 then
 some (decide (a.2≤(15:Int)))
 else
 some false
def an58:Ann:=.two (.leaf) (.two (.segs [(8,([1],([1],[.tmp 10 (.bool)]))),(5,([1],([1],[.tmp 15 (.bool)])))]) (.leaf))
theorem s58:SoundF cx.P cx.G 58 sg58 r58:=by
 have e:denF cx [] an58 Tryd.f58.ntmps (Tryd.f58.body.getD .skip) Tryd.f58.results.toList sg58=r58:=by kernel_rfl
 rw [← e]
 exact sound_of_den (c:=cx) (Known.nil) Tryd.func58 (by kernel_rfl) (Nat.le_of_ble_eq_true (by kernel_rfl)) rfl
noncomputable def r29_L0 (d3:Int) (a:T_63) (b4:(Int×Int)) (d6:Int):Option (Int ⊕ (Unit ⊕ Int)) :=
 bif decide (d6<(↑((List.take (Int.toNat d3) a.2.1).length):Int)) then
 Option.bind (idxI (List.take (Int.toNat d3) a.2.1) d6) fun (b7:(Int×Int)) =>
 bif (decide (b7.1=b4.1) && (decide (b7.2=b4.2) && true)) then
 some (Sum.inr (Sum.inr (7:Int)))
 else
 some (Sum.inl (Go.IntKind.wrap .i64 (d6+(1:Int))))
 else
 some (Sum.inr (Sum.inl ()))
noncomputable def r29_L1 (a:T_63) (d3:Int):Option (Int ⊕ (Unit ⊕ Int)) :=
 bif decide (d3<(↑a.2.1.length:Int)) then
 Option.bind (idxI a.2.1 d3) fun (b4:(Int×Int)) =>
 Option.bind (r58 b4) fun (y5:Bool) =>
 bif !(y5) then
 some (Sum.inr (Sum.inr (2:Int)))
 else
 bif okB none (some d3) none a.2.1.length then
 Option.bind (loopR (r29_L0 d3 a b4) (0:Int)) fun (q8:(Unit ⊕ Int)) =>
 Sum.elim (fun (_:Unit) =>
 some (Sum.inl (Go.IntKind.wrap .i64 (d3+(1:Int)))))
 (fun (v10:Int) =>
 some (Sum.inr (Sum.inr v10))) q8
 else
 none
 else
 some (Sum.inr (Sum.inl ()))
def sg29:Sig:=⟨[⟨true,.bo,E_79⟩],[⟨false,.own,(.int .i64)⟩]⟩
noncomputable def r29 (a:T_63):Option Int :=
 Option.bind (
 bif !(decide (a.1<(1:Int))) then
 some (decide ((4:Int)<a.1))
 else
 some true) fun (d1:Bool) =>
 bif d1 then
 some (2:Int)
 else
 Option.bind (
 bif !(decide ((↑a.2.1.length:Int)<(1:Int))) then
 some (decide ((6:Int)<(↑a.2.1.length:Int)))
 else
 some true) fun (d2:Bool) =>
 bif d2 then
 some (1:Int)
 else
 Option.bind (loopR (r29_L1 a) (0:Int)) fun (q11:(Unit ⊕ Int)) =>
 Sum.elim (fun (_:Unit) =>
 Option.bind (
 bif !(decide (a.2.2<(1:Int))) then
 some (decide ((1048576:Int)<a.2.2))
 else
 some true) fun (d14:Bool) =>
 bif d14 then
 some (2:Int)
 else
 some (0:Int))
 (fun (v13:Int) =>
 some v13) q11
def an29:Ann:=.two (.leaf) (.two (.two (.join [1] [1] [⟨.normal,[],[.tmp 14 (.bool)]⟩] (.leaf)) (.two (.two (.leaf) (.leaf)) (.leaf))) (.two (.two (.join [1] [1] [⟨.normal,[],[.tmp 24 (.bool)]⟩] (.leaf)) (.two (.two (.leaf) (.leaf)) (.leaf))) (.two (.two (.leaf) (.one (.loop [1,26,27] [1] [] [.tmp 28 (.int .i64)] [⟨.exit 0,[],[]⟩,⟨.ret,[],[.tmp 2 (.int .i64)]⟩] (.two (.leaf) (.two (.two (.leaf) (.leaf)) (.two (.one (.two (.leaf) (.two (.two (.leaf) (.two (.two (.leaf) (.leaf)) (.leaf))) (.two (.leaf) (.one (.loop [1,4,26,27,28,39,40] [1,4] [] [.tmp 41 (.int .i64)] [⟨.exit 2,[],[]⟩,⟨.ret,[],[.tmp 2 (.int .i64)]⟩] (.two (.leaf) (.two (.two (.leaf) (.leaf)) (.two (.one (.two (.leaf) (.two (.leaf) (.two (.two (.leaf) (.leaf)) (.leaf))))) (.leaf)))))))))) (.leaf))))))) (.two (.two (.join [] [] [⟨.normal,[],[.tmp 57 (.bool)]⟩] (.leaf)) (.two (.two (.leaf) (.leaf)) (.leaf))) (.two (.leaf) (.leaf))))))
theorem s29:SoundF cx.P cx.G 29 sg29 r29:=by
 have e:denF cx [(58,⟨sg58,r58⟩)] an29 Tryd.f29.ntmps (Tryd.f29.body.getD .skip) Tryd.f29.results.toList sg29=r29:=by kernel_rfl
 rw [← e]
 exact sound_of_den (c:=cx) (Known.cons (.ofF s58 (by kernel_rfl)) Tryd.func58 (by kernel_rfl) (by kernel_rfl) (Known.nil)) Tryd.func29 (by kernel_rfl) (Nat.le_of_ble_eq_true (by kernel_rfl)) rfl
def sg59:Sig:=⟨[⟨true,.bo,E_79⟩,⟨true,.bo,E_75⟩],[⟨false,.own,.bool⟩]⟩
noncomputable def r59 (a:(T_63×T_61)):Option Bool :=
 Option.bind (
 Option.bind (
 bif !(decide (a.2.2.1<(0:Int))) then
 some (decide ((↑a.1.2.1.length:Int)≤a.2.2.1))
 else
 some true) fun (g17:Bool) =>
 Option.bind (
 bif !(g17) then
 some (decide (a.2.2.2.1<(0:Int)))
 else
 some true) fun (g18:Bool) =>
 Option.bind (
 bif !(g18) then
 some (decide ((8:Int)≤a.2.2.2.1))
 else
 some true) fun (g19:Bool) =>
 Option.bind (
 bif !(g19) then
 some (decide (a.2.2.2.2.1<(0:Int)))
 else
 some true) fun (g20:Bool) =>
 Option.bind (
 bif !(g20) then
 some (decide ((1073741824:Int)<a.2.2.2.2.1))
 else
 some true) fun (g21:Bool) =>
 Option.bind (
 bif !(g21) then
 some (decide (a.2.2.2.2.2.1<(0:Int)))
 else
 some true) fun (g22:Bool) =>
 Option.bind (
 bif !(g22) then
 some (decide ((1048576:Int)<a.2.2.2.2.2.1))
 else
 some true) fun (g23:Bool) =>
 Option.bind (
 bif !(g23) then
 some (decide (a.2.2.2.2.2.2.1<(1:Int)))
 else
 some true) fun (g24:Bool) =>
 bif !(g24) then
 some (decide ((1048576:Int)<a.2.2.2.2.2.2.1))
 else
 some true) fun (d25:Bool) =>
 bif d25 then
 some false
 else
 bif !(a.2.2.2.2.2.2.2.1) then
 bif !(a.2.2.2.2.2.2.2.2) then
 bif !(a.2.1) then
 some (decide ((Go.IntKind.wrap .i64 (a.2.2.2.2.1+a.2.2.2.2.2.1))=(0:Int)))
 else
 some true
 else
 some false
 else
 some true
def an59:Ann:=.two (.leaf) (.two (.two (.join [3] [3] [⟨.normal,[],[.tmp 55 (.bool)]⟩] (.segs [(11,([3],([3],[.tmp 15 (.bool)]))),(5,([3],([3],[.tmp 20 (.bool)]))),(5,([3],([3],[.tmp 25 (.bool)]))),(5,([3],([3],[.tmp 30 (.bool)]))),(5,([3],([3],[.tmp 35 (.bool)]))),(5,([3],([3],[.tmp 40 (.bool)]))),(5,([3],([3],[.tmp 45 (.bool)]))),(5,([3],([3],[.tmp 50 (.bool)])))])) (.two (.two (.leaf) (.leaf)) (.leaf))) (.two (.leaf) (.leaf)))
theorem s59:SoundF cx.P cx.G 59 sg59 r59:=by
 have e:denF cx [] an59 Tryd.f59.ntmps (Tryd.f59.body.getD .skip) Tryd.f59.results.toList sg59=r59:=by kernel_rfl
 rw [← e]
 exact sound_of_den (c:=cx) (Known.nil) Tryd.func59 (by kernel_rfl) (Nat.le_of_ble_eq_true (by kernel_rfl)) rfl
noncomputable def r30_L0 (a:T_52) (d23:Int):Option (Int ⊕ (Unit ⊕ Bool)) :=
 bif decide (d23<(↑a.2.2.2.2.1.length:Int)) then
 Option.bind (idxI a.2.2.2.2.1 d23) fun (b24:T_61) =>
 Option.bind (
 Option.bind (r59 (a.1,b24)) fun (y35:Bool) =>
 bif !(!(y35)) then
 bif !(decide (a.2.2.2.2.2.2.1<b24.2.2.2.2.2.1)) then
 bif decide ((0:Int)<d23) then
 Option.bind (idxI a.2.2.2.2.1 (Go.IntKind.wrap .i64 (d23 - (1:Int)))) fun (b36:T_61) =>
 bif !(decide (b24.2.2.2.2.2.1≤b36.2.2.2.2.2.1)) then
 bif !(b24.2.2.2.2.2.2.1) then
 bif !(decide (d23<(Go.IntKind.wrap .i64 ((↑a.2.2.2.2.1.length:Int) - (1:Int))))) then
 bif !(b24.2.2.2.2.2.2.1) then
 some (!(decide (a.2.2.2.1=(1:Int))))
 else
 some false
 else
 some true
 else
 bif !(b24.2.2.2.2.2.2.1) then
 some (!(decide (a.2.2.2.1=(1:Int))))
 else
 some false
 else
 some true
 else
 bif !(b24.2.2.2.2.2.2.1) then
 bif !(decide (d23<(Go.IntKind.wrap .i64 ((↑a.2.2.2.2.1.length:Int) - (1:Int))))) then
 bif !(b24.2.2.2.2.2.2.1) then
 some (!(decide (a.2.2.2.1=(1:Int))))
 else
 some false
 else
 some true
 else
 bif !(b24.2.2.2.2.2.2.1) then
 some (!(decide (a.2.2.2.1=(1:Int))))
 else
 some false
 else
 some true
 else
 some true) fun (d37:Bool) =>
 bif d37 then
 some (Sum.inr (Sum.inr false))
 else
 some (Sum.inl (Go.IntKind.wrap .i64 (d23+(1:Int))))
 else
 some (Sum.inr (Sum.inl ()))
noncomputable def r30_L1 (a:T_52) (d41:Int):Option (Int ⊕ (Unit ⊕ Bool)) :=
 bif decide (d41<(↑a.2.2.2.2.2.1.length:Int)) then
 Option.bind (idxI a.2.2.2.2.2.1 d41) fun (b42:Int) =>
 Option.bind (
 Option.bind (
 bif !(decide (b42<(0:Int))) then
 some (decide (a.1.1≤b42))
 else
 some true) fun (g47:Bool) =>
 bif !(g47) then
 bif decide ((0:Int)<d41) then
 Option.bind (idxI a.2.2.2.2.2.1 (Go.IntKind.wrap .i64 (d41 - (1:Int)))) fun (b48:Int) =>
 some (decide (b42≤b48))
 else
 some false
 else
 some true) fun (d49:Bool) =>
 bif d49 then
 some (Sum.inr (Sum.inr false))
 else
 some (Sum.inl (Go.IntKind.wrap .i64 (d41+(1:Int))))
 else
 some (Sum.inr (Sum.inl ()))
def sg30:Sig:=⟨[⟨true,.bo,E_79⟩,⟨true,.bo,E_70⟩,⟨true,.bo,E_72⟩],[⟨false,.own,.bool⟩]⟩
noncomputable def r30 (a:T_52):Option Bool :=
 Option.bind (
 Option.bind (
 bif !(decide (a.2.2.1<(1:Int))) then
 some (decide (a.2.1.1≤a.2.2.1))
 else
 some true) fun (g15:Bool) =>
 Option.bind (
 bif !(g15) then
 some (decide (a.2.2.2.2.2.2.2<(0:Int)))
 else
 some true) fun (g16:Bool) =>
 Option.bind (
 bif !(g16) then
 some (decide ((1048576:Int)<a.2.2.2.2.2.2.2))
 else
 some true) fun (g17:Bool) =>
 Option.bind (
 bif !(g17) then
 some (decide (a.2.2.2.1<(1:Int)))
 else
 some true) fun (g18:Bool) =>
 Option.bind (
 bif !(g18) then
 some (decide ((3:Int)<a.2.2.2.1))
 else
 some true) fun (g19:Bool) =>
 Option.bind (
 bif !(g19) then
 some (decide ((10:Int)<(↑a.2.2.2.2.1.length:Int)))
 else
 some true) fun (g20:Bool) =>
 Option.bind (
 bif !(g20) then
 some (decide (a.2.2.2.2.2.2.1<(0:Int)))
 else
 some true) fun (g21:Bool) =>
 bif !(g21) then
 some (decide ((1048576:Int)<a.2.2.2.2.2.2.1))
 else
 some true) fun (d22:Bool) =>
 bif d22 then
 some false
 else
 Option.bind (loopR (r30_L0 a) (0:Int)) fun (q38:(Unit ⊕ Bool)) =>
 Sum.elim (fun (_:Unit) =>
 Option.bind (loopR (r30_L1 a) (0:Int)) fun (q50:(Unit ⊕ Bool)) =>
 Sum.elim (fun (_:Unit) =>
 some (decide (decide (a.2.2.2.1=(3:Int))=decide ((0:Int)<(↑a.2.2.2.2.2.1.length:Int)))))
 (fun (v52:Bool) =>
 some v52) q50)
 (fun (v40:Bool) =>
 some v40) q38
def an30:Ann:=.two (.leaf) (.two (.two (.join [3,5] [3,5] [⟨.normal,[],[.tmp 56 (.bool)]⟩] (.segs [(10,([3,5],([3,5],[.tmp 20 (.bool)]))),(5,([3,5],([3,5],[.tmp 25 (.bool)]))),(5,([3,5],([3,5],[.tmp 30 (.bool)]))),(5,([3,5],([3,5],[.tmp 35 (.bool)]))),(5,([3,5],([3,5],[.tmp 40 (.bool)]))),(6,([3,5],([3,5],[.tmp 46 (.bool)]))),(5,([3,5],([3,5],[.tmp 51 (.bool)])))])) (.two (.two (.leaf) (.leaf)) (.leaf))) (.two (.two (.leaf) (.one (.loop [3,5,58,59] [3,5] [] [.tmp 60 (.int .i64)] [⟨.exit 0,[],[]⟩,⟨.ret,[],[.tmp 6 (.bool)]⟩] (.two (.leaf) (.two (.two (.leaf) (.leaf)) (.two (.one (.two (.leaf) (.two (.join [3,5,58,59,60] [3,5] [⟨.normal,[],[.tmp 114 (.bool)]⟩] (.draw 37)) (.two (.two (.leaf) (.leaf)) (.leaf))))) (.leaf))))))) (.two (.two (.leaf) (.one (.loop [3,5,117,118] [3,5] [] [.tmp 119 (.int .i64)] [⟨.exit 2,[],[]⟩,⟨.ret,[],[.tmp 6 (.bool)]⟩] (.two (.leaf) (.two (.two (.leaf) (.leaf)) (.two (.one (.two (.leaf) (.two (.join [3,5,117,118,119] [3,5] [⟨.normal,[],[.tmp 145 (.bool)]⟩] (.segs [(8,([3,5,9,10,117,118,119],([3,5],[.tmp 131 (.bool)])))])) (.two (.two (.leaf) (.leaf)) (.leaf))))) (.leaf))))))) (.two (.leaf) (.leaf)))))
theorem s30:SoundF cx.P cx.G 30 sg30 r30:=by
 have e:denF cx [(59,⟨sg59,r59⟩)] an30 Tryd.f30.ntmps (Tryd.f30.body.getD .skip) Tryd.f30.results.toList sg30=r30:=by kernel_rfl
 rw [← e]
 exact sound_of_den (c:=cx) (Known.cons (.ofF s59 (by kernel_rfl)) Tryd.func59 (by kernel_rfl) (by kernel_rfl) (Known.nil)) Tryd.func30 (by kernel_rfl) (Nat.le_of_ble_eq_true (by kernel_rfl)) rfl
noncomputable def r16_L0 (a:(T_63×T_57)) (d6:Int):Option (Int ⊕ (Unit ⊕ Int)) :=
 bif decide (d6<(↑a.2.2.length:Int)) then
 Option.bind (idxI a.2.2 d6) fun (b7:T_58) =>
 Option.bind (
 Option.bind (r30 (a.1,a.2,b7)) fun (y18:Bool) =>
 bif !(!(y18)) then
 bif decide ((0:Int)<d6) then
 Option.bind (idxI a.2.2 (Go.IntKind.wrap .i64 (d6 - (1:Int)))) fun (b19:T_58) =>
 some (decide (b7.1≤b19.1))
 else
 some false
 else
 some true) fun (d20:Bool) =>
 bif d20 then
 some (Sum.inr (Sum.inr (9:Int)))
 else
 some (Sum.inl (Go.IntKind.wrap .i64 (d6+(1:Int))))
 else
 some (Sum.inr (Sum.inl ()))
def sg16:Sig:=⟨[⟨true,.bo,E_79⟩,⟨true,.bo,E_70⟩],[⟨false,.own,(.int .i64)⟩]⟩
noncomputable def r16 (a:(T_63×T_57)):Option Int :=
 Option.bind (r29 a.1) fun (y1:Int) =>
 bif !(decide (y1=(0:Int))) then
 some y1
 else
 Option.bind (
 Option.bind (
 bif !(decide (a.2.1<(1:Int))) then
 some (decide ((1048577:Int)<a.2.1))
 else
 some true) fun (g4:Bool) =>
 bif !(g4) then
 some (decide ((6:Int)<(↑a.2.2.length:Int)))
 else
 some true) fun (d5:Bool) =>
 bif d5 then
 some (9:Int)
 else
 Option.bind (loopR (r16_L0 a) (0:Int)) fun (q21:(Unit ⊕ Int)) =>
 Sum.elim (fun (_:Unit) =>
 some (0:Int))
 (fun (v23:Int) =>
 some v23) q21
def an16:Ann:=.two (.leaf) (.two (.two (.leaf) (.two (.leaf) (.two (.two (.leaf) (.leaf)) (.leaf)))) (.two (.two (.join [2,3] [2,3] [⟨.normal,[],[.tmp 26 (.bool)]⟩] (.segs [(8,([2,3],([2,3],[.tmp 20 (.bool)])))])) (.two (.two (.leaf) (.leaf)) (.leaf))) (.two (.two (.leaf) (.one (.loop [2,3,28,29] [2,3] [] [.tmp 30 (.int .i64)] [⟨.exit 0,[],[]⟩,⟨.ret,[],[.tmp 4 (.int .i64)]⟩] (.two (.leaf) (.two (.two (.leaf) (.leaf)) (.two (.one (.two (.leaf) (.two (.join [2,3,28,29,30] [2,3] [⟨.normal,[],[.tmp 55 (.bool)]⟩] (.draw 18)) (.two (.two (.leaf) (.leaf)) (.leaf))))) (.leaf))))))) (.two (.leaf) (.leaf)))))
theorem s16:SoundF cx.P cx.G 16 sg16 r16:=by
 have e:denF cx [(29,⟨sg29,r29⟩),(30,⟨sg30,r30⟩)] an16 Tryd.f16.ntmps (Tryd.f16.body.getD .skip) Tryd.f16.results.toList sg16=r16:=by kernel_rfl
 rw [← e]
 exact sound_of_den (c:=cx) (Known.cons (.ofF s29 (by kernel_rfl)) Tryd.func29 (by kernel_rfl) (by kernel_rfl) (Known.cons (.ofF s30 (by kernel_rfl)) Tryd.func30 (by kernel_rfl) (by kernel_rfl) (Known.nil))) Tryd.func16 (by kernel_rfl) (Nat.le_of_ble_eq_true (by kernel_rfl)) rfl
def sg98:Sig:=⟨[⟨false,.bo,(.sl E_75)⟩],[⟨false,.own,(.sl E_75)⟩]⟩
noncomputable def r98 (a:List (T_61)):Option (List (T_61)) :=
 nilR a fun (n1:Bool) =>
 bif n1 then
 some []
 else
 bif roomOk false 0 a.length 56 then
 some a
 else
 none
def an98:Ann:=.two (.leaf) (.two (.two (.leaf) (.two (.two (.leaf) (.leaf)) (.leaf))) (.two (.leaf) (.leaf)))
theorem s98:SoundF cx.P cx.G 98 sg98 r98:=by
 have e:denF cx [] an98 Tryd.f98.ntmps (Tryd.f98.body.getD .skip) Tryd.f98.results.toList sg98=r98:=by kernel_rfl
 rw [← e]
 exact sound_of_den (c:=cx) (Known.nil) Tryd.func98 (by kernel_rfl) (Nat.le_of_ble_eq_true (by kernel_rfl)) rfl
def sg99:Sig:=⟨[⟨false,.bo,(.sl (.int .i64))⟩],[⟨false,.own,(.sl (.int .i64))⟩]⟩
noncomputable def r99 (a:List Int):Option (List Int) :=
 nilR a fun (n1:Bool) =>
 bif n1 then
 some []
 else
 bif roomOk false 0 a.length 8 then
 some a
 else
 none
def an99:Ann:=.two (.leaf) (.two (.two (.leaf) (.two (.two (.leaf) (.leaf)) (.leaf))) (.two (.leaf) (.leaf)))
theorem s99:SoundF cx.P cx.G 99 sg99 r99:=by
 have e:denF cx [] an99 Tryd.f99.ntmps (Tryd.f99.body.getD .skip) Tryd.f99.results.toList sg99=r99:=by kernel_rfl
 rw [← e]
 exact sound_of_den (c:=cx) (Known.nil) Tryd.func99 (by kernel_rfl) (Nat.le_of_ble_eq_true (by kernel_rfl)) rfl
noncomputable def r60_L0 (a:T_57) (d7:T_55):Option (T_55 ⊕ T_56) :=
 bif decide (d7.2.1<(↑a.2.length:Int)) then
 Option.bind (idxI a.2 d7.2.1) fun (b8:T_58) =>
 Option.bind (r98 b8.2.2.1) fun (y11:List (T_61)) =>
 Option.bind (r99 b8.2.2.2.1) fun (y12:List Int) =>
 bif roomOk false d7.2.2.2.length 1 80 then
 some (Sum.inl ((),((Go.IntKind.wrap .i64 (d7.2.1+(1:Int))),(d7.2.2.1,app d7.2.2.2 [(b8.1,(b8.2.1,(y11,(y12,b8.2.2.2.2))))]))))
 else
 none
 else
 some (Sum.inr ((),d7.2.2))
def sg60:Sig:=⟨[⟨true,.bo,E_70⟩],[⟨true,.own,E_70⟩]⟩
noncomputable def r60 (a:T_57):Option T_57 :=
 Option.bind (loopR (r60_L0 a) ((),((0:Int),(a.1,[])))) fun (q13:T_56) =>
 some q13.2
def an60:Ann:=.two (.leaf) (.two (.leaf) (.two (.two (.leaf) (.one (.loop [2,10,11] [2] [] [.tmp 3 (.pt 3 [(0,0)] 0 0 2),.tmp 12 (.int .i64),.box 3 [.int .i64,.sl .own E_72]] [⟨.exit 0,[],[.tmp 3 (.pt 3 [(0,0)] 0 0 2),.box 3 [.int .i64,.sl .own E_72]]⟩] (.two (.leaf) (.two (.two (.leaf) (.leaf)) (.two (.one (.two (.leaf) (.two (.draw 7) (.leaf)))) (.leaf))))))) (.two (.leaf) (.leaf))))
theorem s60:SoundF cx.P cx.G 60 sg60 r60:=by
 have e:denF cx [(98,⟨sg98,r98⟩),(99,⟨sg99,r99⟩)] an60 Tryd.f60.ntmps (Tryd.f60.body.getD .skip) Tryd.f60.results.toList sg60=r60:=by kernel_rfl
 rw [← e]
 exact sound_of_den (c:=cx) (Known.cons (.ofF s98 (by kernel_rfl)) Tryd.func98 (by kernel_rfl) (by kernel_rfl) (Known.cons (.ofF s99 (by kernel_rfl)) Tryd.func99 (by kernel_rfl) (by kernel_rfl) (Known.nil))) Tryd.func60 (by kernel_rfl) (Nat.le_of_ble_eq_true (by kernel_rfl)) rfl
def sg32:Sig:=⟨[⟨false,.own,E_65⟩,⟨false,.bo,(.int .i64)⟩],[⟨false,.own,E_65⟩]⟩
noncomputable def r32 (a:T_45):Option T_48 :=
 Option.bind (
 Option.bind (
 bif !(decide ((↑a.1.2.2.2.1.2.length:Int)=(6:Int))) then
 some (decide ((1048576:Int)<a.1.2.2.2.1.1))
 else
 some true) fun (g3:Bool) =>
 bif !(g3) then
 some (decide (a.2<(600:Int)))
 else
 some true) fun (d4:Bool) =>
 bif d4 then
 Option.bind (
 bif roomOk false a.1.2.2.2.2.2.2.1.length 1 48 then
 some ((),(a.1.1.1,(a.1.1.2.1,(a.1.1.2.2,(a.1.2.1,(a.1.2.2.1,(a.1.2.2.2.1.1,(a.1.2.2.2.1.2,(a.1.2.2.2.2.1,(a.1.2.2.2.2.2.1,(app a.1.2.2.2.2.2.2.1 [(a.1.2.2.1,((1:Int),((0:Int),((0:Int),((0:Int),(8:Int))))))],a.1.2.2.2.2.2.2.2)))))))))))
 else
 none) fun (d5:T_44) =>
 some ((d5.2.1,(d5.2.2.1,d5.2.2.2.1)),(d5.2.2.2.2.1,(d5.2.2.2.2.2.1,((d5.2.2.2.2.2.2.1,d5.2.2.2.2.2.2.2.1),d5.2.2.2.2.2.2.2.2))))
 else
 bif roomOk false a.1.2.2.2.1.2.length 1 80 then
 Option.bind (
 bif roomOk false a.1.2.2.2.2.2.1.length 1 80 then
 some ((),(a.1.1.1,(a.1.1.2.1,(a.1.1.2.2,(a.1.2.1,(a.1.2.2.1,((Go.IntKind.wrap .i64 (a.1.2.2.2.1.1+(1:Int))),(app a.1.2.2.2.1.2 [(a.1.2.2.2.1.1,((1:Int),([],([],((0:Int),(0:Int))))))],(a.1.2.2.2.2.1,(app a.1.2.2.2.2.2.1 [((5:Int),((a.1.2.2.1,a.1.2.2.2.1.1),((0:Int),((0:Int),((0:Int),(false,[]))))))],a.1.2.2.2.2.2.2))))))))))
 else
 none) fun (d6:T_44) =>
 Option.bind (
 bif roomOk false d6.2.2.2.2.2.2.2.2.2.2.1.length 1 48 then
 some ((),(d6.2.1,(d6.2.2.1,(d6.2.2.2.1,(d6.2.2.2.2.1,(d6.2.2.2.2.2.1,(d6.2.2.2.2.2.2.1,(d6.2.2.2.2.2.2.2.1,(d6.2.2.2.2.2.2.2.2.1,(d6.2.2.2.2.2.2.2.2.2.1,(app d6.2.2.2.2.2.2.2.2.2.2.1 [(d6.2.2.2.2.2.1,((1:Int),(a.1.2.2.2.1.1,((0:Int),((0:Int),(0:Int))))))],d6.2.2.2.2.2.2.2.2.2.2.2)))))))))))
 else
 none) fun (d7:T_44) =>
 some ((d7.2.1,(d7.2.2.1,d7.2.2.2.1)),(d7.2.2.2.2.1,(d7.2.2.2.2.2.1,((d7.2.2.2.2.2.2.1,d7.2.2.2.2.2.2.2.1),d7.2.2.2.2.2.2.2.2))))
 else
 none
noncomputable def r32_s0 (a:T_45):Option T_44 :=
 some ((),(a.1.1.1,(a.1.1.2.1,(a.1.1.2.2,(a.1.2.1,(a.1.2.2.1,(a.1.2.2.2.1.1,(a.1.2.2.2.1.2,(a.1.2.2.2.2.1,(a.1.2.2.2.2.2.1,(app a.1.2.2.2.2.2.2.1 [(a.1.2.2.1,((1:Int),((0:Int),((0:Int),((0:Int),(8:Int))))))],a.1.2.2.2.2.2.2.2)))))))))))
noncomputable def r32_s1 (a:T_45):Option T_44 :=
 some ((),(a.1.1.1,(a.1.1.2.1,(a.1.1.2.2,(a.1.2.1,(a.1.2.2.1,((Go.IntKind.wrap .i64 (a.1.2.2.2.1.1+(1:Int))),(app a.1.2.2.2.1.2 [(a.1.2.2.2.1.1,((1:Int),([],([],((0:Int),(0:Int))))))],(a.1.2.2.2.2.1,(app a.1.2.2.2.2.2.1 [((5:Int),((a.1.2.2.1,a.1.2.2.2.1.1),((0:Int),((0:Int),((0:Int),(false,[]))))))],a.1.2.2.2.2.2.2))))))))))
noncomputable def r32_s2 (d6:T_44) (a:T_45):Option T_44 :=
 some ((),(d6.2.1,(d6.2.2.1,(d6.2.2.2.1,(d6.2.2.2.2.1,(d6.2.2.2.2.2.1,(d6.2.2.2.2.2.2.1,(d6.2.2.2.2.2.2.2.1,(d6.2.2.2.2.2.2.2.2.1,(d6.2.2.2.2.2.2.2.2.2.1,(app d6.2.2.2.2.2.2.2.2.2.2.1 [(d6.2.2.2.2.2.1,((1:Int),(a.1.2.2.2.1.1,((0:Int),((0:Int),(0:Int))))))],d6.2.2.2.2.2.2.2.2.2.2.2)))))))))))
noncomputable def r32q:T_45→Option T_48:=fun a =>
 Option.bind (
 Option.bind (
 bif !(decide ((↑a.1.2.2.2.1.2.length:Int)=(6:Int))) then
 some (decide ((1048576:Int)<a.1.2.2.2.1.1))
 else
 some true) fun (g3:Bool) =>
 bif !(g3) then
 some (decide (a.2<(600:Int)))
 else
 some true) fun (d4:Bool) =>
 bif d4 then
 Option.bind (
 sameR (
 bif roomOk false a.1.2.2.2.2.2.2.1.length 1 48 then
 r32_s0 a
 else
 none)
 (
 sameR (
 bif roomOk false a.1.2.2.2.2.2.2.1.length 1 48 then
 r32_s0 a
 else
 none)
 (
 bif roomOk false a.1.2.2.2.2.2.2.1.length 1 48 then
 r32_s0 a
 else
 none))) fun (d5:T_44) =>
 some ((d5.2.1,(d5.2.2.1,d5.2.2.2.1)),(d5.2.2.2.2.1,(d5.2.2.2.2.2.1,((d5.2.2.2.2.2.2.1,d5.2.2.2.2.2.2.2.1),d5.2.2.2.2.2.2.2.2))))
 else
 bif roomOk false a.1.2.2.2.1.2.length 1 80 then
 Option.bind (
 sameR (
 bif roomOk false a.1.2.2.2.2.2.1.length 1 80 then
 r32_s1 a
 else
 none)
 (
 sameR (
 bif roomOk false a.1.2.2.2.2.2.1.length 1 80 then
 r32_s1 a
 else
 none)
 (
 bif roomOk false a.1.2.2.2.2.2.1.length 1 80 then
 r32_s1 a
 else
 none))) fun (d6:T_44) =>
 Option.bind (
 sameR (
 bif roomOk false d6.2.2.2.2.2.2.2.2.2.2.1.length 1 48 then
 r32_s2 d6 a
 else
 none)
 (
 sameR (
 bif roomOk false d6.2.2.2.2.2.2.2.2.2.2.1.length 1 48 then
 r32_s2 d6 a
 else
 none)
 (
 bif roomOk false d6.2.2.2.2.2.2.2.2.2.2.1.length 1 48 then
 r32_s2 d6 a
 else
 none))) fun (d7:T_44) =>
 some ((d7.2.1,(d7.2.2.1,d7.2.2.2.1)),(d7.2.2.2.2.1,(d7.2.2.2.2.2.1,((d7.2.2.2.2.2.2.1,d7.2.2.2.2.2.2.2.1),d7.2.2.2.2.2.2.2.2))))
 else
 none
theorem r32e:r32q=r32:=by unfold r32q r32; simp only [r32_s0,r32_s1,r32_s2,sameR_self]
def an32:Ann:=.two (.leaf) (.two (.two (.join [0,4] [0] [⟨.normal,[],[.tmp 26 (.bool)]⟩] (.segs [(13,([0,1,4],([0],[.tmp 22 (.bool)])))])) (.two (.two (.inl 1 57 (.join [] [] [⟨.normal,[],[.tmp 0 (.pt 0 [(0,0)] 0 0 0),.box 0 [.int .i64,.sl .ro (.pair (.int .i64) (.int .i64)),.int .i64,.int .i64,.int .i64,.int .i64,.sl .own E_72,.sl .own E_73,.sl .own E_74,.sl .own E_77,.int .i64,.int .i64]]⟩] (.drawT [0,1,2,3,4,5,6,7,8,9,10,11,12,13,14,15,16] [0])) (.leaf)) (.leaf)) (.leaf))) (.two (.leaf) (.two (.leaf) (.two (.leaf) (.two (.inl 2 90 (.join [5] [] [⟨.normal,[],[.tmp 0 (.pt 0 [(0,0)] 0 0 0),.box 0 [.int .i64,.sl .ro (.pair (.int .i64) (.int .i64)),.int .i64,.int .i64,.int .i64,.int .i64,.sl .own E_72,.sl .own E_73,.sl .own E_74,.sl .own E_77,.int .i64,.int .i64]]⟩] (.drawT [0,1,2,3,4,5,6,7,8,9,10,11,12,13,14,15] [0])) (.leaf)) (.inl 2 118 (.join [] [] [⟨.normal,[],[.tmp 0 (.pt 0 [(0,0)] 0 0 0),.box 0 [.int .i64,.sl .ro (.pair (.int .i64) (.int .i64)),.int .i64,.int .i64,.int .i64,.int .i64,.sl .own E_72,.sl .own E_73,.sl .own E_74,.sl .own E_77,.int .i64,.int .i64]]⟩] (.drawT [0,1,2,3,4,5,6,7,8,9,10,11,12,13,14,15,16] [0])) (.leaf)))))))
theorem s32:SoundM cx.P cx.G 32 sg32 r32:=by
 have e:denM cx [] an32 Tryd.f32.ntmps (Tryd.f32.body.getD .skip) Tryd.f32.results.toList sg32=r32q:=by kernel_rfl
 rw [← r32e,← e]
 exact sound_of_denM (c:=cx) (Known.nil) Tryd.func32 (by kernel_rfl) (Nat.le_of_ble_eq_true (by kernel_rfl)) rfl
noncomputable def r35_L0 (a:T_45) (d11:Int):Option (Int ⊕ (Unit ⊕ Int)) :=
 bif decide (d11<(↑a.1.2.2.2.1.2.length:Int)) then
 bif inB d11 a.1.2.2.2.1.2.length then
 Option.bind (idxN a.1.2.2.2.1.2 (Int.toNat d11)) fun (x12:T_58) =>
 bif decide (x12.1=a.2) then
 some (Sum.inr (Sum.inr d11))
 else
 some (Sum.inl (Go.IntKind.wrap .i64 (d11+(1:Int))))
 else
 none
 else
 some (Sum.inr (Sum.inl ()))
def sg35:Sig:=⟨[⟨false,.own,E_65⟩,⟨false,.bo,(.int .i64)⟩],[⟨false,.own,(.int .i64)⟩,⟨false,.own,E_65⟩]⟩
noncomputable def r35 (a:T_45):Option T_46 :=
 Option.bind (
 Option.bind (loopR (r35_L0 a) (0:Int)) fun (q13:(Unit ⊕ Int)) =>
 Sum.elim (fun (_:Unit) =>
 some (-1:Int))
 (fun (v15:Int) =>
 some v15) q13) fun (d16:Int) =>
 some (d16,a.1)
def an35:Ann:=.two (.leaf) (.two (.inl 7 13 (.join [0] [0] [⟨.ret,[],[.tmp 17 (.int .i64)]⟩] (.two (.leaf) (.two (.two (.leaf) (.one (.loop [0,13,14,20] [0,3] [] [.tmp 21 (.int .i64)] [⟨.exit 0,[],[]⟩,⟨.ret,[],[.tmp 17 (.int .i64)]⟩] (.two (.leaf) (.two (.two (.leaf) (.leaf)) (.two (.one (.two (.leaf) (.two (.inl 5 32 (.two (.leaf) (.two (.leaf) (.leaf))) (.leaf)) (.two (.two (.leaf) (.leaf)) (.leaf))))) (.leaf))))))) (.two (.leaf) (.leaf))))) (.leaf)) (.leaf))
theorem s35:SoundM cx.P cx.G 35 sg35 r35:=by
 have e:denM cx [] an35 Tryd.f35.ntmps (Tryd.f35.body.getD .skip) Tryd.f35.results.toList sg35=r35:=by kernel_rfl
 rw [← e]
 exact sound_of_denM (c:=cx) (Known.nil) Tryd.func35 (by kernel_rfl) (Nat.le_of_ble_eq_true (by kernel_rfl)) rfl
def sg48:Sig:=⟨[⟨true,.bo,(.pair (.int .i64) (.int .i64))⟩,⟨true,.bo,(.pair (.int .i64) (.int .i64))⟩],[⟨false,.own,.bool⟩]⟩
noncomputable def r48 (a:((Int×Int)×(Int×Int))):Option Bool :=
 bif decide (a.2.1≤a.1.1) then
 some (decide ((Go.bits .and .i64 a.1.2 a.2.2)=a.2.2))
 else
 some false
def an48:Ann:=.two (.leaf) (.two (.leaf) (.leaf))
theorem s48:SoundF cx.P cx.G 48 sg48 r48:=by
 have e:denF cx [] an48 Tryd.f48.ntmps (Tryd.f48.body.getD .skip) Tryd.f48.results.toList sg48=r48:=by kernel_rfl
 rw [← e]
 exact sound_of_den (c:=cx) (Known.nil) Tryd.func48 (by kernel_rfl) (Nat.le_of_ble_eq_true (by kernel_rfl)) rfl
def sg33:Sig:=⟨[⟨false,.own,E_65⟩,⟨true,.bo,E_78⟩],[⟨false,.own,(.int .i64)⟩,⟨false,.own,E_65⟩]⟩
noncomputable def r33 (a:(T_48×(Int×(Int×(Int×(Int×Int)))))):Option T_46 :=
 Option.bind (r35 (a.1,a.2.2.1)) fun (y1:T_46) =>
 bif decide (y1.1<(0:Int)) then
 some ((6:Int),y1.2)
 else
 bif inB y1.1 y1.2.2.2.2.1.2.length then
 Option.bind (idxN y1.2.2.2.2.1.2 (Int.toNat y1.1)) fun (x2:T_58) =>
 bif !(decide (x2.2.1=(1:Int))) then
 some ((13:Int),y1.2)
 else
 Option.bind (
 Option.bind (idxN y1.2.2.2.2.1.2 (Int.toNat y1.1)) fun (x13:T_58) =>
 bif decide ((0:Int)<(↑x13.2.2.1.length:Int)) then
 Option.bind (idxN y1.2.2.2.2.1.2 (Int.toNat y1.1)) fun (x14:T_58) =>
 Option.bind (idxN y1.2.2.2.2.1.2 (Int.toNat y1.1)) fun (x15:T_58) =>
 bif inB (Go.IntKind.wrap .i64 ((↑x14.2.2.1.length:Int) - (1:Int))) x15.2.2.1.length then
 Option.bind (idxN y1.2.2.2.2.1.2 (Int.toNat y1.1)) fun (x16:T_58) =>
 Option.bind (idxN x16.2.2.1 (Int.toNat (Go.IntKind.wrap .i64 ((↑x14.2.2.1.length:Int) - (1:Int))))) fun (x17:T_61) =>
 some !(x17.2.2.2.2.2.2.1)
 else
 none
 else
 some false) fun (d18:Bool) =>
 bif d18 then
 some ((14:Int),y1.2)
 else
 Option.bind (
 bif !(decide (a.2.1=(2:Int))) then
 some (!(decide (a.2.1=(3:Int))))
 else
 some false) fun (d19:Bool) =>
 bif d19 then
 some ((0:Int),y1.2)
 else
 Option.bind (
 Option.bind (
 bif !(decide (a.2.2.2.2.1<(0:Int))) then
 some (decide ((8:Int)≤a.2.2.2.2.1))
 else
 some true) fun (g24:Bool) =>
 Option.bind (
 bif !(g24) then
 some (decide (a.2.2.2.2.2<(0:Int)))
 else
 some true) fun (g25:Bool) =>
 bif !(g25) then
 some (decide ((1073741824:Int)<a.2.2.2.2.2))
 else
 some true) fun (d26:Bool) =>
 bif d26 then
 some ((2:Int),y1.2)
 else
 Option.bind (
 bif decide (a.2.1=(2:Int)) then
 bif !(decide (a.2.2.2.1<(0:Int))) then
 bif !(decide ((↑y1.2.1.2.1.length:Int)≤a.2.2.2.1)) then
 Option.bind (idxI y1.2.1.2.1 y1.2.2.1) fun (b42:(Int×Int)) =>
 Option.bind (idxI y1.2.1.2.1 a.2.2.2.1) fun (b43:(Int×Int)) =>
 Option.bind (r48 (b42,b43)) fun (y44:Bool) =>
 some !(y44)
 else
 some true
 else
 some true
 else
 some false) fun (d45:Bool) =>
 bif d45 then
 some ((10:Int),y1.2)
 else
 Option.bind (
 Option.bind (idxN y1.2.2.2.2.1.2 (Int.toNat y1.1)) fun (x48:T_58) =>
 bif !(decide ((↑x48.2.2.1.length:Int)=(10:Int))) then
 some (decide (x2.2.2.2.2.1=(1048576:Int)))
 else
 some true) fun (d49:Bool) =>
 bif d49 then
 some ((8:Int),y1.2)
 else
 some ((0:Int),y1.2)
 else
 none
def an33:Ann:=.two (.leaf) (.two (.leaf) (.two (.two (.leaf) (.two (.two (.leaf) (.leaf)) (.leaf))) (.two (.leaf) (.two (.one (.two (.leaf) (.two (.two (.leaf) (.leaf)) (.two (.join [0,3,6] [0,3] [⟨.normal,[],[.tmp 26 (.bool)]⟩] (.leaf)) (.two (.two (.leaf) (.leaf)) (.two (.join [0,3,6] [0,3] [⟨.normal,[],[.tmp 43 (.bool)]⟩] (.leaf)) (.two (.two (.leaf) (.leaf)) (.two (.join [0,3,6] [0,3] [⟨.normal,[],[.tmp 52 (.bool)]⟩] (.segs [(8,([0,3,6],([0,3],[.tmp 60 (.bool)]))),(5,([0,3,6],([0,3],[.tmp 65 (.bool)])))])) (.two (.two (.leaf) (.leaf)) (.two (.join [0,6] [0] [⟨.normal,[],[.tmp 71 (.bool)]⟩] (.draw 39)) (.two (.two (.leaf) (.leaf)) (.two (.join [0] [0] [⟨.normal,[],[.tmp 115 (.bool)]⟩] (.leaf)) (.two (.two (.leaf) (.leaf)) (.leaf)))))))))))))) (.two (.leaf) (.leaf))))))
theorem s33:SoundM cx.P cx.G 33 sg33 r33:=by
 have e:denM cx [(35,⟨sg35,r35⟩),(48,⟨sg48,r48⟩)] an33 Tryd.f33.ntmps (Tryd.f33.body.getD .skip) Tryd.f33.results.toList sg33=r33:=by kernel_rfl
 rw [← e]
 exact sound_of_denM (c:=cx) (Known.cons (.ofM s35 (by kernel_rfl)) Tryd.func35 (by kernel_rfl) (by kernel_rfl) (Known.cons (.ofF s48 (by kernel_rfl)) Tryd.func48 (by kernel_rfl) (by kernel_rfl) (Known.nil))) Tryd.func33 (by kernel_rfl) (Nat.le_of_ble_eq_true (by kernel_rfl)) rfl
def sg36:Sig:=⟨[⟨false,.own,E_65⟩,⟨false,.bo,(.int .i64)⟩,⟨true,.bo,E_75⟩],[⟨false,.own,E_65⟩]⟩
noncomputable def r36 (a:T_29):Option T_48 :=
 bif inB a.2.1 a.1.2.2.2.1.2.length then
 Option.bind (idxN a.1.2.2.2.1.2 (Int.toNat a.2.1)) fun (x1:T_58) =>
 Option.bind (idxN a.1.2.2.2.1.2 (Int.toNat a.2.1)) fun (x2:T_58) =>
 Option.bind (idxN (List.set a.1.2.2.2.1.2 (Int.toNat a.2.1) (x2.1,(x2.2.1,(x2.2.2.1,(x2.2.2.2.1,((Go.IntKind.wrap .i64 (x1.2.2.2.2.1+(1:Int))),x2.2.2.2.2.2)))))) (Int.toNat a.2.1)) fun (x3:T_58) =>
 Option.bind (
 Option.bind (idxN (List.set a.1.2.2.2.1.2 (Int.toNat a.2.1) (x2.1,(x2.2.1,(x2.2.2.1,(x2.2.2.2.1,((Go.IntKind.wrap .i64 (x1.2.2.2.2.1+(1:Int))),x2.2.2.2.2.2)))))) (Int.toNat a.2.1)) fun (_:T_58) =>
 Option.bind (idxN (List.set a.1.2.2.2.1.2 (Int.toNat a.2.1) (x2.1,(x2.2.1,(x2.2.2.1,(x2.2.2.2.1,((Go.IntKind.wrap .i64 (x1.2.2.2.2.1+(1:Int))),x2.2.2.2.2.2)))))) (Int.toNat a.2.1)) fun (x14:T_58) =>
 bif roomOk false x14.2.2.1.length 1 56 then
 Option.bind (idxN (List.set a.1.2.2.2.1.2 (Int.toNat a.2.1) (x2.1,(x2.2.1,(x2.2.2.1,(x2.2.2.2.1,((Go.IntKind.wrap .i64 (x1.2.2.2.2.1+(1:Int))),x2.2.2.2.2.2)))))) (Int.toNat a.2.1)) fun (_:T_58) =>
 bif Nat.beq (Int.toNat a.2.1) (Int.toNat a.2.1) then
 some ((),((((),((),())),(Int.toNat a.2.1)),(a.1.1.1,(a.1.1.2.1,(a.1.1.2.2,(a.1.2.1,(a.1.2.2.1,(a.1.2.2.2.1.1,(List.set (List.set a.1.2.2.2.1.2 (Int.toNat a.2.1) (x2.1,(x2.2.1,(x2.2.2.1,(x2.2.2.2.1,((Go.IntKind.wrap .i64 (x1.2.2.2.2.1+(1:Int))),x2.2.2.2.2.2)))))) (Int.toNat a.2.1) (x14.1,(x14.2.1,(app x14.2.2.1 [(a.2.2.1,(a.2.2.2.1,(a.2.2.2.2.1,(a.2.2.2.2.2.1,(a.2.2.2.2.2.2.1,(x3.2.2.2.2.1,a.2.2.2.2.2.2.2.2))))))],x14.2.2.2))),a.1.2.2.2.2)))))))))
 else
 none
 else
 none) fun (d20:T_36) =>
 Option.bind (idxN d20.2.2.2.2.2.2.2.2.1 d20.2.1.2) fun (x21:T_58) =>
 Option.bind (
 bif a.2.2.1 then
 some (2:Int)
 else
 some (1:Int)) fun (d22:Int) =>
 Option.bind (
 bif decide (d20.2.2.1=0) then
 none
 else
 Option.bind (idxN (List.set d20.2.2.2.2.2.2.2.2.1 d20.2.1.2 (x21.1,(x21.2.1,(x21.2.2.1,(x21.2.2.2.1,(x21.2.2.2.2.1,(0:Int))))))) d20.2.1.2) fun (x27:T_58) =>
 Option.bind (
 bif roomOk false d20.2.2.2.2.2.2.2.2.2.1.length 1 96 then
 some ((),((((),((),())),d20.2.1.2),((),((),((),((),((((),((),())),d20.2.1.2),((((),((),())),d20.2.1.2),((((),((),())),d20.2.1.2),((),(d20.2.2.1,(d20.2.2.2.1,(d20.2.2.2.2.1,(d20.2.2.2.2.2.1,(d20.2.2.2.2.2.2.1,(d20.2.2.2.2.2.2.2.1,(List.set d20.2.2.2.2.2.2.2.2.1 d20.2.1.2 (x21.1,(x21.2.1,(x21.2.2.1,(x21.2.2.2.1,(x21.2.2.2.2.1,(0:Int)))))),(app d20.2.2.2.2.2.2.2.2.2.1 [(d22,(d20.2.2.2.2.2.2.1,((Int.tmod a.2.2.2.2.1 d20.2.2.1),((d20.2.2.2.2.2.2.1,x27.1),((0:Int),((0:Int),((0:Int),((0:Int),((0:Int),(false,(0:Int)))))))))))],d20.2.2.2.2.2.2.2.2.2.2))))))))))))))))))
 else
 none) fun (d28:T_10) =>
 bif inB (Go.IntKind.wrap .i64 ((↑d28.2.2.2.2.2.2.2.2.2.2.2.2.2.2.2.2.2.1.length:Int) - (1:Int))) d28.2.2.2.2.2.2.2.2.2.2.2.2.2.2.2.2.2.1.length then
 some ((),((((),((),())),(Int.toNat (Go.IntKind.wrap .i64 ((↑d28.2.2.2.2.2.2.2.2.2.2.2.2.2.2.2.2.2.1.length:Int) - (1:Int))))),d28.2.2.2.2.2.2.2.2.2.2))
 else
 none) fun (d29:T_36) =>
 Option.bind (
 Option.bind (idxN d29.2.2.2.2.2.2.2.2.2.1 d29.2.1.2) fun (x1086:T_59) =>
 Option.bind (idxN (List.set d29.2.2.2.2.2.2.2.2.2.1 d29.2.1.2 (x1086.1,(x1086.2.1,(x1086.2.2.1,(x1086.2.2.2.1,(x1086.2.2.2.2.1,(a.2.2.2.2.1,x1086.2.2.2.2.2.2))))))) d29.2.1.2) fun (x1087:T_59) =>
 Option.bind (idxN (List.set (List.set d29.2.2.2.2.2.2.2.2.2.1 d29.2.1.2 (x1086.1,(x1086.2.1,(x1086.2.2.1,(x1086.2.2.2.1,(x1086.2.2.2.2.1,(a.2.2.2.2.1,x1086.2.2.2.2.2.2))))))) d29.2.1.2 (x1087.1,(x1087.2.1,(x1087.2.2.1,(x1087.2.2.2.1,(x1087.2.2.2.2.1,(x1087.2.2.2.2.2.1,(a.2.2.2.2.2.1,x1087.2.2.2.2.2.2.2)))))))) d29.2.1.2) fun (x1088:T_59) =>
 some ((),((((),((),())),d29.2.1.2),(d29.2.2.1,(d29.2.2.2.1,(d29.2.2.2.2.1,(d29.2.2.2.2.2.1,(d29.2.2.2.2.2.2.1,(d29.2.2.2.2.2.2.2.1,(d29.2.2.2.2.2.2.2.2.1,(List.set (List.set (List.set d29.2.2.2.2.2.2.2.2.2.1 d29.2.1.2 (x1086.1,(x1086.2.1,(x1086.2.2.1,(x1086.2.2.2.1,(x1086.2.2.2.2.1,(a.2.2.2.2.1,x1086.2.2.2.2.2.2))))))) d29.2.1.2 (x1087.1,(x1087.2.1,(x1087.2.2.1,(x1087.2.2.2.1,(x1087.2.2.2.2.1,(x1087.2.2.2.2.2.1,(a.2.2.2.2.2.1,x1087.2.2.2.2.2.2.2)))))))) d29.2.1.2 (x1088.1,(x1088.2.1,(x1088.2.2.1,(x1088.2.2.2.1,(x1088.2.2.2.2.1,(x1088.2.2.2.2.2.1,(x1088.2.2.2.2.2.2.1,(x1088.2.2.2.2.2.2.2.1,(x3.2.2.2.2.1,x1088.2.2.2.2.2.2.2.2.2))))))))),d29.2.2.2.2.2.2.2.2.2.2))))))))))) fun (d2022:T_36) =>
 bif !(a.2.2.1) then
 Option.bind (idxN d2022.2.2.2.2.2.2.2.2.2.1 d2022.2.1.2) fun (x2023:T_59) =>
 some ((d2022.2.2.1,(d2022.2.2.2.1,d2022.2.2.2.2.1)),(d2022.2.2.2.2.2.1,(d2022.2.2.2.2.2.2.1,((d2022.2.2.2.2.2.2.2.1,d2022.2.2.2.2.2.2.2.2.1),(List.set d2022.2.2.2.2.2.2.2.2.2.1 d2022.2.1.2 (x2023.1,(x2023.2.1,(x2023.2.2.1,(x2023.2.2.2.1,(a.2.2.2.1,x2023.2.2.2.2.2))))),d2022.2.2.2.2.2.2.2.2.2.2)))))
 else
 some ((d2022.2.2.1,(d2022.2.2.2.1,d2022.2.2.2.2.1)),(d2022.2.2.2.2.2.1,(d2022.2.2.2.2.2.2.1,((d2022.2.2.2.2.2.2.2.1,d2022.2.2.2.2.2.2.2.2.1),d2022.2.2.2.2.2.2.2.2.2))))
 else
 none
noncomputable def r36_s1 (a:T_29) (x2:T_58) (x1:T_58) (x14:T_58) (x3:T_58):Option T_36 :=
 Option.bind (idxN (List.set a.1.2.2.2.1.2 (Int.toNat a.2.1) (x2.1,(x2.2.1,(x2.2.2.1,(x2.2.2.2.1,((Go.IntKind.wrap .i64 (x1.2.2.2.2.1+(1:Int))),x2.2.2.2.2.2)))))) (Int.toNat a.2.1)) fun (_:T_58) =>
 bif Nat.beq (Int.toNat a.2.1) (Int.toNat a.2.1) then
 some ((),((((),((),())),(Int.toNat a.2.1)),(a.1.1.1,(a.1.1.2.1,(a.1.1.2.2,(a.1.2.1,(a.1.2.2.1,(a.1.2.2.2.1.1,(List.set (List.set a.1.2.2.2.1.2 (Int.toNat a.2.1) (x2.1,(x2.2.1,(x2.2.2.1,(x2.2.2.2.1,((Go.IntKind.wrap .i64 (x1.2.2.2.2.1+(1:Int))),x2.2.2.2.2.2)))))) (Int.toNat a.2.1) (x14.1,(x14.2.1,(app x14.2.2.1 [(a.2.2.1,(a.2.2.2.1,(a.2.2.2.2.1,(a.2.2.2.2.2.1,(a.2.2.2.2.2.2.1,(x3.2.2.2.2.1,a.2.2.2.2.2.2.2.2))))))],x14.2.2.2))),a.1.2.2.2.2)))))))))
 else
 none
noncomputable def r36_s0 (a:T_29) (x2:T_58) (x1:T_58) (x3:T_58):Option T_36 :=
 Option.bind (idxN (List.set a.1.2.2.2.1.2 (Int.toNat a.2.1) (x2.1,(x2.2.1,(x2.2.2.1,(x2.2.2.2.1,((Go.IntKind.wrap .i64 (x1.2.2.2.2.1+(1:Int))),x2.2.2.2.2.2)))))) (Int.toNat a.2.1)) fun (x14:T_58) =>
 bif roomOk false x14.2.2.1.length 1 56 then
 r36_s1 a x2 x1 x14 x3
 else
 none
noncomputable def r36_s2 (d20:T_36) (x21:T_58) (d22:Int) (a:T_29) (x27:T_58):Option T_10 :=
 some ((),((((),((),())),d20.2.1.2),((),((),((),((),((((),((),())),d20.2.1.2),((((),((),())),d20.2.1.2),((((),((),())),d20.2.1.2),((),(d20.2.2.1,(d20.2.2.2.1,(d20.2.2.2.2.1,(d20.2.2.2.2.2.1,(d20.2.2.2.2.2.2.1,(d20.2.2.2.2.2.2.2.1,(List.set d20.2.2.2.2.2.2.2.2.1 d20.2.1.2 (x21.1,(x21.2.1,(x21.2.2.1,(x21.2.2.2.1,(x21.2.2.2.2.1,(0:Int)))))),(app d20.2.2.2.2.2.2.2.2.2.1 [(d22,(d20.2.2.2.2.2.2.1,((Int.tmod a.2.2.2.2.1 d20.2.2.1),((d20.2.2.2.2.2.2.1,x27.1),((0:Int),((0:Int),((0:Int),((0:Int),((0:Int),(false,(0:Int)))))))))))],d20.2.2.2.2.2.2.2.2.2.2))))))))))))))))))
noncomputable def r36_s4 (d29:T_36) (x1086:T_59) (a:T_29) (x3:T_58):Option T_36 :=
 Option.bind (idxN (List.set d29.2.2.2.2.2.2.2.2.2.1 d29.2.1.2 (x1086.1,(x1086.2.1,(x1086.2.2.1,(x1086.2.2.2.1,(x1086.2.2.2.2.1,(a.2.2.2.2.1,x1086.2.2.2.2.2.2))))))) d29.2.1.2) fun (x1087:T_59) =>
 Option.bind (idxN (List.set (List.set d29.2.2.2.2.2.2.2.2.2.1 d29.2.1.2 (x1086.1,(x1086.2.1,(x1086.2.2.1,(x1086.2.2.2.1,(x1086.2.2.2.2.1,(a.2.2.2.2.1,x1086.2.2.2.2.2.2))))))) d29.2.1.2 (x1087.1,(x1087.2.1,(x1087.2.2.1,(x1087.2.2.2.1,(x1087.2.2.2.2.1,(x1087.2.2.2.2.2.1,(a.2.2.2.2.2.1,x1087.2.2.2.2.2.2.2)))))))) d29.2.1.2) fun (x1088:T_59) =>
 some ((),((((),((),())),d29.2.1.2),(d29.2.2.1,(d29.2.2.2.1,(d29.2.2.2.2.1,(d29.2.2.2.2.2.1,(d29.2.2.2.2.2.2.1,(d29.2.2.2.2.2.2.2.1,(d29.2.2.2.2.2.2.2.2.1,(List.set (List.set (List.set d29.2.2.2.2.2.2.2.2.2.1 d29.2.1.2 (x1086.1,(x1086.2.1,(x1086.2.2.1,(x1086.2.2.2.1,(x1086.2.2.2.2.1,(a.2.2.2.2.1,x1086.2.2.2.2.2.2))))))) d29.2.1.2 (x1087.1,(x1087.2.1,(x1087.2.2.1,(x1087.2.2.2.1,(x1087.2.2.2.2.1,(x1087.2.2.2.2.2.1,(a.2.2.2.2.2.1,x1087.2.2.2.2.2.2.2)))))))) d29.2.1.2 (x1088.1,(x1088.2.1,(x1088.2.2.1,(x1088.2.2.2.1,(x1088.2.2.2.2.1,(x1088.2.2.2.2.2.1,(x1088.2.2.2.2.2.2.1,(x1088.2.2.2.2.2.2.2.1,(x3.2.2.2.2.1,x1088.2.2.2.2.2.2.2.2.2))))))))),d29.2.2.2.2.2.2.2.2.2.2))))))))))
noncomputable def r36_s3 (d29:T_36) (a:T_29) (x3:T_58):Option T_36 :=
 Option.bind (idxN d29.2.2.2.2.2.2.2.2.2.1 d29.2.1.2) fun (x1086:T_59) =>
 r36_s4 d29 x1086 a x3
noncomputable def r36_s5 (d29:T_36) (a:T_29) (x3:T_58):Option T_36 :=
 Option.bind (idxN d29.2.2.2.2.2.2.2.2.2.1 d29.2.1.2) fun (x1089:T_59) =>
 sameR (
 r36_s4 d29 x1089 a x3)
 (
 sameR (
 r36_s4 d29 x1089 a x3)
 (
 sameR (
 r36_s4 d29 x1089 a x3)
 (
 r36_s4 d29 x1089 a x3)))
noncomputable def r36_s6 (d29:T_36) (a:T_29) (x3:T_58):Option T_36 :=
 Option.bind (idxN d29.2.2.2.2.2.2.2.2.2.1 d29.2.1.2) fun (x1098:T_59) =>
 sameR (
 r36_s4 d29 x1098 a x3)
 (
 sameR (
 sameR (
 r36_s4 d29 x1098 a x3)
 (
 sameR (
 r36_s4 d29 x1098 a x3)
 (
 r36_s4 d29 x1098 a x3)))
 (
 sameR (
 r36_s4 d29 x1098 a x3)
 (
 sameR (
 sameR (
 r36_s4 d29 x1098 a x3)
 (
 r36_s4 d29 x1098 a x3))
 (
 sameR (
 r36_s4 d29 x1098 a x3)
 (
 sameR (
 r36_s4 d29 x1098 a x3)
 (
 r36_s4 d29 x1098 a x3))))))
noncomputable def r36_s8 (d29:T_36) (x1194:T_59) (a:T_29) (x3:T_58):Option T_36 :=
 sameR (
 r36_s4 d29 x1194 a x3)
 (
 sameR (
 sameR (
 r36_s4 d29 x1194 a x3)
 (
 r36_s4 d29 x1194 a x3))
 (
 sameR (
 sameR (
 r36_s4 d29 x1194 a x3)
 (
 r36_s4 d29 x1194 a x3))
 (
 sameR (
 r36_s4 d29 x1194 a x3)
 (
 sameR (
 r36_s4 d29 x1194 a x3)
 (
 sameR (
 r36_s4 d29 x1194 a x3)
 (
 r36_s4 d29 x1194 a x3))))))
noncomputable def r36_s7 (d29:T_36) (a:T_29) (x3:T_58):Option T_36 :=
 Option.bind (idxN d29.2.2.2.2.2.2.2.2.2.1 d29.2.1.2) fun (x1194:T_59) =>
 sameR (
 r36_s4 d29 x1194 a x3)
 (
 sameR (
 sameR (
 r36_s4 d29 x1194 a x3)
 (
 sameR (
 r36_s4 d29 x1194 a x3)
 (
 r36_s4 d29 x1194 a x3)))
 (
 sameR (
 sameR (
 r36_s4 d29 x1194 a x3)
 (
 sameR (
 r36_s4 d29 x1194 a x3)
 (
 r36_s4 d29 x1194 a x3)))
 (
 r36_s8 d29 x1194 a x3)))
noncomputable def r36_s9 (d29:T_36) (a:T_29) (x3:T_58):Option T_36 :=
 Option.bind (idxN d29.2.2.2.2.2.2.2.2.2.1 d29.2.1.2) fun (x1227:T_59) =>
 sameR (
 r36_s4 d29 x1227 a x3)
 (
 sameR (
 sameR (
 r36_s4 d29 x1227 a x3)
 (
 sameR (
 r36_s4 d29 x1227 a x3)
 (
 r36_s4 d29 x1227 a x3)))
 (
 sameR (
 sameR (
 r36_s4 d29 x1227 a x3)
 (
 sameR (
 sameR (
 r36_s4 d29 x1227 a x3)
 (
 r36_s4 d29 x1227 a x3))
 (
 sameR (
 r36_s4 d29 x1227 a x3)
 (
 sameR (
 r36_s4 d29 x1227 a x3)
 (
 r36_s4 d29 x1227 a x3)))))
 (
 sameR (
 sameR (
 r36_s4 d29 x1227 a x3)
 (
 sameR (
 r36_s4 d29 x1227 a x3)
 (
 r36_s4 d29 x1227 a x3)))
 (
 sameR (
 r36_s8 d29 x1227 a x3)
 (
 sameR (
 r36_s4 d29 x1227 a x3)
 (
 sameR (
 sameR (
 r36_s4 d29 x1227 a x3)
 (
 r36_s4 d29 x1227 a x3))
 (
 sameR (
 sameR (
 r36_s4 d29 x1227 a x3)
 (
 sameR (
 r36_s4 d29 x1227 a x3)
 (
 r36_s4 d29 x1227 a x3)))
 (
 sameR (
 sameR (
 r36_s4 d29 x1227 a x3)
 (
 r36_s4 d29 x1227 a x3))
 (
 sameR (
 sameR (
 r36_s4 d29 x1227 a x3)
 (
 sameR (
 r36_s4 d29 x1227 a x3)
 (
 sameR (
 r36_s4 d29 x1227 a x3)
 (
 r36_s4 d29 x1227 a x3))))
 (
 sameR (
 r36_s4 d29 x1227 a x3)
 (
 sameR (
 r36_s4 d29 x1227 a x3)
 (
 sameR (
 r36_s4 d29 x1227 a x3)
 (
 sameR (
 r36_s4 d29 x1227 a x3)
 (
 sameR (
 r36_s4 d29 x1227 a x3)
 (
 r36_s4 d29 x1227 a x3)))))))))))))))
noncomputable def r36q:T_29→Option T_48:=fun a =>
 bif inB a.2.1 a.1.2.2.2.1.2.length then
 Option.bind (idxN a.1.2.2.2.1.2 (Int.toNat a.2.1)) fun (x1:T_58) =>
 Option.bind (idxN a.1.2.2.2.1.2 (Int.toNat a.2.1)) fun (x2:T_58) =>
 Option.bind (idxN (List.set a.1.2.2.2.1.2 (Int.toNat a.2.1) (x2.1,(x2.2.1,(x2.2.2.1,(x2.2.2.2.1,((Go.IntKind.wrap .i64 (x1.2.2.2.2.1+(1:Int))),x2.2.2.2.2.2)))))) (Int.toNat a.2.1)) fun (x3:T_58) =>
 Option.bind (
 Option.bind (idxN (List.set a.1.2.2.2.1.2 (Int.toNat a.2.1) (x2.1,(x2.2.1,(x2.2.2.1,(x2.2.2.2.1,((Go.IntKind.wrap .i64 (x1.2.2.2.2.1+(1:Int))),x2.2.2.2.2.2)))))) (Int.toNat a.2.1)) fun (_:T_58) =>
 sameR (
 r36_s0 a x2 x1 x3)
 (
 sameR (
 r36_s0 a x2 x1 x3)
 (
 Option.bind (idxN (List.set a.1.2.2.2.1.2 (Int.toNat a.2.1) (x2.1,(x2.2.1,(x2.2.2.1,(x2.2.2.2.1,((Go.IntKind.wrap .i64 (x1.2.2.2.2.1+(1:Int))),x2.2.2.2.2.2)))))) (Int.toNat a.2.1)) fun (x18:T_58) =>
 bif roomOk false x18.2.2.1.length 1 56 then
 r36_s1 a x2 x1 x18 x3
 else
 none))) fun (d20:T_36) =>
 Option.bind (idxN d20.2.2.2.2.2.2.2.2.1 d20.2.1.2) fun (x21:T_58) =>
 Option.bind (
 bif a.2.2.1 then
 some (2:Int)
 else
 some (1:Int)) fun (d22:Int) =>
 Option.bind (
 bif decide (d20.2.2.1=0) then
 none
 else
 Option.bind (idxN (List.set d20.2.2.2.2.2.2.2.2.1 d20.2.1.2 (x21.1,(x21.2.1,(x21.2.2.1,(x21.2.2.2.1,(x21.2.2.2.2.1,(0:Int))))))) d20.2.1.2) fun (x27:T_58) =>
 Option.bind (
 sameR (
 bif roomOk false d20.2.2.2.2.2.2.2.2.2.1.length 1 96 then
 r36_s2 d20 x21 d22 a x27
 else
 none)
 (
 sameR (
 bif roomOk false d20.2.2.2.2.2.2.2.2.2.1.length 1 96 then
 r36_s2 d20 x21 d22 a x27
 else
 none)
 (
 bif roomOk false d20.2.2.2.2.2.2.2.2.2.1.length 1 96 then
 r36_s2 d20 x21 d22 a x27
 else
 none))) fun (d28:T_10) =>
 bif inB (Go.IntKind.wrap .i64 ((↑d28.2.2.2.2.2.2.2.2.2.2.2.2.2.2.2.2.2.1.length:Int) - (1:Int))) d28.2.2.2.2.2.2.2.2.2.2.2.2.2.2.2.2.2.1.length then
 some ((),((((),((),())),(Int.toNat (Go.IntKind.wrap .i64 ((↑d28.2.2.2.2.2.2.2.2.2.2.2.2.2.2.2.2.2.1.length:Int) - (1:Int))))),d28.2.2.2.2.2.2.2.2.2.2))
 else
 none) fun (d29:T_36) =>
 Option.bind (
 sameR (
 r36_s3 d29 a x3)
 (
 sameR (
 r36_s5 d29 a x3)
 (
 sameR (
 r36_s6 d29 a x3)
 (
 sameR (
 r36_s3 d29 a x3)
 (
 sameR (
 r36_s5 d29 a x3)
 (
 sameR (
 r36_s6 d29 a x3)
 (
 sameR (
 r36_s3 d29 a x3)
 (
 sameR (
 r36_s5 d29 a x3)
 (
 sameR (
 r36_s6 d29 a x3)
 (
 sameR (
 r36_s5 d29 a x3)
 (
 sameR (
 r36_s7 d29 a x3)
 (
 sameR (
 r36_s9 d29 a x3)
 (
 sameR (
 r36_s5 d29 a x3)
 (
 sameR (
 r36_s7 d29 a x3)
 (
 sameR (
 r36_s9 d29 a x3)
 (
 sameR (
 r36_s5 d29 a x3)
 (
 sameR (
 r36_s7 d29 a x3)
 (
 sameR (
 r36_s9 d29 a x3)
 (
 sameR (
 r36_s3 d29 a x3)
 (
 sameR (
 r36_s5 d29 a x3)
 (
 sameR (
 r36_s6 d29 a x3)
 (
 sameR (
 r36_s3 d29 a x3)
 (
 sameR (
 r36_s5 d29 a x3)
 (
 sameR (
 r36_s6 d29 a x3)
 (
 sameR (
 r36_s3 d29 a x3)
 (
 sameR (
 r36_s5 d29 a x3)
 (
 sameR (
 r36_s6 d29 a x3)
 (
 sameR (
 r36_s5 d29 a x3)
 (
 sameR (
 r36_s7 d29 a x3)
 (
 sameR (
 r36_s9 d29 a x3)
 (
 sameR (
 r36_s5 d29 a x3)
 (
 sameR (
 r36_s7 d29 a x3)
 (
 sameR (
 r36_s9 d29 a x3)
 (
 sameR (
 r36_s5 d29 a x3)
 (
 sameR (
 r36_s7 d29 a x3)
 (
 r36_s9 d29 a x3)))))))))))))))))))))))))))))))))))) fun (d2022:T_36) =>
 bif !(a.2.2.1) then
 Option.bind (idxN d2022.2.2.2.2.2.2.2.2.2.1 d2022.2.1.2) fun (x2023:T_59) =>
 some ((d2022.2.2.1,(d2022.2.2.2.1,d2022.2.2.2.2.1)),(d2022.2.2.2.2.2.1,(d2022.2.2.2.2.2.2.1,((d2022.2.2.2.2.2.2.2.1,d2022.2.2.2.2.2.2.2.2.1),(List.set d2022.2.2.2.2.2.2.2.2.2.1 d2022.2.1.2 (x2023.1,(x2023.2.1,(x2023.2.2.1,(x2023.2.2.2.1,(a.2.2.2.1,x2023.2.2.2.2.2))))),d2022.2.2.2.2.2.2.2.2.2.2)))))
 else
 some ((d2022.2.2.1,(d2022.2.2.2.1,d2022.2.2.2.2.1)),(d2022.2.2.2.2.2.1,(d2022.2.2.2.2.2.2.1,((d2022.2.2.2.2.2.2.2.1,d2022.2.2.2.2.2.2.2.2.1),d2022.2.2.2.2.2.2.2.2.2))))
 else
 none
theorem r36e:r36q=r36:=by unfold r36q r36; simp only [r36_s1,r36_s0,r36_s2,r36_s4,r36_s3,r36_s5,r36_s6,r36_s8,r36_s7,r36_s9,sameR_self]
def an36:Ann:=.two (.leaf) (.two (.leaf) (.two (.leaf) (.two (.leaf) (.two (.join [5] [5] [⟨.normal,[],[.tmp 0 (.pt 0 [(0,0)] 0 0 0),.tmp 6 (.ptx 0 [(some 0,0),(some 0,6)] 0 6),.box 0 [.int .i64,.sl .ro (.pair (.int .i64) (.int .i64)),.int .i64,.int .i64,.int .i64,.int .i64,.sl .own E_72,.sl .own E_73,.sl .own E_74,.sl .own E_77,.int .i64,.int .i64]]⟩] (.drawT [0,1,2,3,4,5,6] [0])) (.two (.leaf) (.two (.leaf) (.two (.join [0,5,6] [0,5] [⟨.normal,[],[.tmp 7 (.int .i64)]⟩] (.two (.leaf) (.two (.leaf) (.leaf)))) (.two (.join [5] [5] [⟨.normal,[],[.tmp 0 (.pt 0 [(0,0)] 0 0 0),.tmp 8 (.ptx 0 [(some 0,0),(some 0,7)] 0 12),.box 0 [.int .i64,.sl .ro (.pair (.int .i64) (.int .i64)),.int .i64,.int .i64,.int .i64,.int .i64,.sl .own E_72,.sl .own E_73,.sl .own E_74,.sl .own E_77,.int .i64,.int .i64]]⟩] (.stagesI [0,1,2,3,4,5,6,7,8,9,10,11,12,13] 14 82 (.two (.leaf) (.two (.join [5,7,46,47,52] [5] [⟨.normal,[],[.tmp 0 (.pt 0 [(0,0)] 0 0 0),.tmp 6 (.ptx 0 [(some 0,0),(some 0,6)] 0 6),.tmp 48 (.pt 0 [(0,0)] 0 0 0),.tmp 49 (.pt 0 [(0,0)] 0 0 0),.tmp 50 (.pt 0 [(0,0)] 0 0 0),.tmp 51 (.pt 0 [(0,0)] 0 0 0),.tmp 54 (.ptx 0 [(some 0,0),(some 0,6)] 0 6),.tmp 55 (.ptx 0 [(some 0,0),(some 0,6)] 0 6),.tmp 56 (.ptx 0 [(some 0,0),(some 0,6)] 0 6),.tmp 82 (.pt 0 [(0,0)] 0 0 0),.box 0 [.int .i64,.sl .ro (.pair (.int .i64) (.int .i64)),.int .i64,.int .i64,.int .i64,.int .i64,.sl .own E_72,.sl .own E_73,.sl .own E_74,.sl .own E_77,.int .i64,.int .i64]]⟩] (.drawT [0,1,2,3,4,5,6,7,8,9,10,11,12,13,14,15,16,17,18,19] [0])) (.two (.draw 12) (.leaf)))))) (.two (.join [5] [5] [⟨.normal,[],[.tmp 0 (.pt 0 [(0,0)] 0 0 0),.tmp 8 (.ptx 0 [(some 0,0),(some 0,7)] 0 12),.box 0 [.int .i64,.sl .ro (.pair (.int .i64) (.int .i64)),.int .i64,.int .i64,.int .i64,.int .i64,.sl .own E_72,.sl .own E_73,.sl .own E_74,.sl .own E_77,.int .i64,.int .i64]]⟩] (.stages [0,1,2,3,4,5,6,7,8,9,10])) (.two (.leaf) (.two (.leaf) (.leaf))))))))))))
theorem s36:SoundM cx.P cx.G 36 sg36 r36:=by
 have e:denM cx [] an36 Tryd.f36.ntmps (Tryd.f36.body.getD .skip) Tryd.f36.results.toList sg36=r36q:=by kernel_rfl
 rw [← r36e,← e]
 exact sound_of_denM (c:=cx) (Known.nil) Tryd.func36 (by kernel_rfl) (Nat.le_of_ble_eq_true (by kernel_rfl)) rfl
noncomputable def r104_L0 (a:(List Int×Int)) (d1:Int):Option (Int ⊕ (Unit ⊕ Int)) :=
 bif decide (d1<(↑a.1.length:Int)) then
 Option.bind (idxI a.1 d1) fun (b2:Int) =>
 bif decide (a.2=b2) then
 some (Sum.inr (Sum.inr d1))
 else
 some (Sum.inl (Go.IntKind.wrap .i64 (d1+(1:Int))))
 else
 some (Sum.inr (Sum.inl ()))
def sg104:Sig:=⟨[⟨false,.bo,(.sl (.int .i64))⟩,⟨false,.bo,(.int .i64)⟩],[⟨false,.own,(.int .i64)⟩]⟩
noncomputable def r104 (a:(List Int×Int)):Option Int :=
 Option.bind (loopR (r104_L0 a) (0:Int)) fun (q3:(Unit ⊕ Int)) =>
 Sum.elim (fun (_:Unit) =>
 some (-1:Int))
 (fun (v5:Int) =>
 some v5) q3
def an104:Ann:=.two (.leaf) (.two (.two (.leaf) (.one (.loop [0,1,7] [] [] [.tmp 8 (.int .i64)] [⟨.exit 0,[],[]⟩,⟨.ret,[],[.tmp 4 (.int .i64)]⟩] (.two (.leaf) (.two (.two (.leaf) (.leaf)) (.two (.one (.two (.leaf) (.two (.leaf) (.two (.two (.leaf) (.leaf)) (.leaf))))) (.leaf))))))) (.two (.leaf) (.leaf)))
theorem s104:SoundF cx.P cx.G 104 sg104 r104:=by
 have e:denF cx [] an104 Tryd.f104.ntmps (Tryd.f104.body.getD .skip) Tryd.f104.results.toList sg104=r104:=by kernel_rfl
 rw [← e]
 exact sound_of_den (c:=cx) (Known.nil) Tryd.func104 (by kernel_rfl) (Nat.le_of_ble_eq_true (by kernel_rfl)) rfl
def sg74:Sig:=⟨[⟨false,.bo,(.sl (.int .i64))⟩,⟨false,.bo,(.int .i64)⟩],[⟨false,.own,.bool⟩]⟩
noncomputable def r74 (a:(List Int×Int)):Option Bool :=
 Option.bind (r104 (a.1,a.2)) fun (y1:Int) =>
 some (decide ((0:Int)≤y1))
def an74:Ann:=.two (.leaf) (.two (.leaf) (.leaf))
theorem s74:SoundF cx.P cx.G 74 sg74 r74:=by
 have e:denF cx [(104,⟨sg104,r104⟩)] an74 Tryd.f74.ntmps (Tryd.f74.body.getD .skip) Tryd.f74.results.toList sg74=r74:=by kernel_rfl
 rw [← e]
 exact sound_of_den (c:=cx) (Known.cons (.ofF s104 (by kernel_rfl)) Tryd.func104 (by kernel_rfl) (by kernel_rfl) (Known.nil)) Tryd.func74 (by kernel_rfl) (Nat.le_of_ble_eq_true (by kernel_rfl)) rfl
def sg131:Sig:=⟨[⟨false,.bo,(.int .i64)⟩],[⟨false,.own,.bool⟩]⟩
noncomputable def r131 (a:Int):Option Bool :=
 some (!(decide (a=a)))
def an131:Ann:=.two (.leaf) (.two (.leaf) (.leaf))
theorem s131:SoundF cx.P cx.G 131 sg131 r131:=by
 have e:denF cx [] an131 Tryd.f131.ntmps (Tryd.f131.body.getD .skip) Tryd.f131.results.toList sg131=r131:=by kernel_rfl
 rw [← e]
 exact sound_of_den (c:=cx) (Known.nil) Tryd.func131 (by kernel_rfl) (Nat.le_of_ble_eq_true (by kernel_rfl)) rfl
def sg139:Sig:=⟨[⟨false,.bo,(.int .i64)⟩,⟨false,.bo,(.int .i64)⟩],[⟨false,.own,.bool⟩]⟩
noncomputable def r139 (a:(Int×Int)):Option Bool :=
 Option.bind (
 Option.bind (r131 a.1) fun (y1:Bool) =>
 bif y1 then
 Option.bind (r131 a.2) fun (y2:Bool) =>
 some !(y2)
 else
 some false) fun (g3:Bool) =>
 bif !(g3) then
 some (decide (a.1<a.2))
 else
 some true
def an139:Ann:=.two (.leaf) (.two (.segs [(7,([0,1],([],[.tmp 11 (.bool)])))]) (.leaf))
theorem s139:SoundF cx.P cx.G 139 sg139 r139:=by
 have e:denF cx [(131,⟨sg131,r131⟩)] an139 Tryd.f139.ntmps (Tryd.f139.body.getD .skip) Tryd.f139.results.toList sg139=r139:=by kernel_rfl
 rw [← e]
 exact sound_of_den (c:=cx) (Known.cons (.ofF s131 (by kernel_rfl)) Tryd.func131 (by kernel_rfl) (by kernel_rfl) (Known.nil)) Tryd.func139 (by kernel_rfl) (Nat.le_of_ble_eq_true (by kernel_rfl)) rfl
def sg143:Sig:=⟨[⟨false,.bo,(.int .u64)⟩],[⟨false,.own,(.int .i64)⟩]⟩
noncomputable def r143 (a:Int):Option Int :=
 Option.bind (
 bif decide ((4294967296:Int)≤a) then
 some ((Int.fdiv a (2 ^ 32)),(32:Int))
 else
 some (a,(0:Int))) fun (d1:(Int×Int)) =>
 Option.bind (
 bif decide ((65536:Int)≤d1.1) then
 some ((Int.fdiv d1.1 (2 ^ 16)),(Go.IntKind.wrap .i64 (d1.2+(16:Int))))
 else
 some d1) fun (d2:(Int×Int)) =>
 Option.bind (
 bif decide ((256:Int)≤d2.1) then
 some ((Int.fdiv d2.1 (2 ^ 8)),(Go.IntKind.wrap .i64 (d2.2+(8:Int))))
 else
 some d2) fun (d3:(Int×Int)) =>
 Option.bind (idxI ([0,1,2,2,3,3,3,3,4,4,4,4,4,4,4,4,5,5,5,5,5,5,5,5,5,5,5,5,5,5,5,5,6,6,6,6,6,6,6,6,6,6,6,6,6,6,6,6,6,6,6,6,6,6,6,6,6,6,6,6,6,6,6,6,7,7,7,7,7,7,7,7,7,7,7,7,7,7,7,7,7,7,7,7,7,7,7,7,7,7,7,7,7,7,7,7,7,7,7,7,7,7,7,7,7,7,7,7,7,7,7,7,7,7,7,7,7,7,7,7,7,7,7,7,7,7,7,7,8,8,8,8,8,8,8,8,8,8,8,8,8,8,8,8,8,8,8,8,8,8,8,8,8,8,8,8,8,8,8,8,8,8,8,8,8,8,8,8,8,8,8,8,8,8,8,8,8,8,8,8,8,8,8,8,8,8,8,8,8,8,8,8,8,8,8,8,8,8,8,8,8,8,8,8,8,8,8,8,8,8,8,8,8,8,8,8,8,8,8,8,8,8,8,8,8,8,8,8,8,8,8,8,8,8,8,8,8,8,8,8,8,8,8,8,8,8,8,8,8,8,8,8,8,8,8,8]:List UInt8) (Go.IntKind.wrap .u8 d3.1)) fun (b4:UInt8) =>
 some (Go.IntKind.wrap .i64 (d3.2+(Go.IntKind.wrap .i64 (↑(UInt8.toNat b4):Int))))
def an143:Ann:=.two (.leaf) (.two (.join [] [] [⟨.normal,[],[.tmp 0 (.int .u64),.tmp 2 (.int .i64)]⟩] (.two (.leaf) (.two (.two (.leaf) (.leaf)) (.leaf)))) (.two (.join [] [] [⟨.normal,[],[.tmp 0 (.int .u64),.tmp 2 (.int .i64)]⟩] (.two (.leaf) (.two (.two (.leaf) (.leaf)) (.leaf)))) (.two (.join [] [] [⟨.normal,[],[.tmp 0 (.int .u64),.tmp 2 (.int .i64)]⟩] (.two (.leaf) (.two (.two (.leaf) (.leaf)) (.leaf)))) (.two (.leaf) (.leaf)))))
theorem s143:SoundF cx.P cx.G 143 sg143 r143:=by
 have e:denF cx [] an143 Tryd.f143.ntmps (Tryd.f143.body.getD .skip) Tryd.f143.results.toList sg143=r143:=by kernel_rfl
 rw [← e]
 exact sound_of_den (c:=cx) (Known.nil) Tryd.func143 (by kernel_rfl) (Nat.le_of_ble_eq_true (by kernel_rfl)) rfl
def sg127:Sig:=⟨[⟨false,.bo,(.int .u64)⟩],[⟨false,.own,(.int .i64)⟩]⟩
noncomputable def r127 (a:Int):Option Int :=
 Option.bind (r143 a) fun (y1:Int) =>
 some y1
def an127:Ann:=.two (.leaf) (.two (.two .leaf (.leaf)) (.two (.leaf) (.leaf)))
theorem s127:SoundF cx.P cx.G 127 sg127 r127:=by
 have e:denF cx [(143,⟨sg143,r143⟩)] an127 Tryd.f127.ntmps (Tryd.f127.body.getD .skip) Tryd.f127.results.toList sg127=r127:=by kernel_rfl
 rw [← e]
 exact sound_of_den (c:=cx) (Known.cons (.ofF s143 (by kernel_rfl)) Tryd.func143 (by kernel_rfl) (by kernel_rfl) (Known.nil)) Tryd.func127 (by kernel_rfl) (Nat.le_of_ble_eq_true (by kernel_rfl)) rfl
def sg158:Sig:=⟨[⟨false,.bo,(.sl (.int .i64))⟩,⟨false,.bo,(.int .i64)⟩,⟨false,.bo,(.int .i64)⟩,⟨false,.own,(.ptr (.int .i64))⟩],[⟨false,.own,(.int .i64)⟩,⟨false,.own,(.int .i64)⟩,⟨false,.own,(.ptr (.int .i64))⟩]⟩
noncomputable def r158 (a:(List Int×(Int×(Int×Int)))):Option (Int×(Int×Int)) :=
 Option.bind (idxI a.1 a.2.2.1) fun (b4:Int) =>
 Option.bind (idxI a.1 a.2.1) fun (b5:Int) =>
 Option.bind (r139 (b4,b5)) fun (y6:Bool) =>
 bif y6 then
 some (a.2.2.1,(a.2.1,(Go.IntKind.wrap .i64 (a.2.2.2+(1:Int)))))
 else
 some a.2
def an158:Ann:=.two (.leaf) (.two (.two (.draw 8) (.two (.two (.leaf) (.two (.leaf) (.leaf))) (.leaf))) (.two (.leaf) (.leaf)))
theorem s158:SoundM cx.P cx.G 158 sg158 r158:=by
 have e:denM cx [(139,⟨sg139,r139⟩)] an158 Tryd.f158.ntmps (Tryd.f158.body.getD .skip) Tryd.f158.results.toList sg158=r158:=by kernel_rfl
 rw [← e]
 exact sound_of_denM (c:=cx) (Known.cons (.ofF s139 (by kernel_rfl)) Tryd.func139 (by kernel_rfl) (by kernel_rfl) (Known.nil)) Tryd.func158 (by kernel_rfl) (Nat.le_of_ble_eq_true (by kernel_rfl)) rfl
def sg153:Sig:=⟨[⟨false,.bo,(.sl (.int .i64))⟩,⟨false,.bo,(.int .i64)⟩,⟨false,.bo,(.int .i64)⟩,⟨false,.bo,(.int .i64)⟩,⟨false,.own,(.ptr (.int .i64))⟩],[⟨false,.own,(.int .i64)⟩,⟨false,.own,(.ptr (.int .i64))⟩]⟩
noncomputable def r153 (a:(List Int×(Int×(Int×(Int×Int))))):Option (Int×Int) :=
 Option.bind (r158 (a.1,a.2.1,a.2.2.1,a.2.2.2.2)) fun (y1:(Int×(Int×Int))) =>
 Option.bind (r158 (a.1,y1.2.1,a.2.2.2.1,y1.2.2)) fun (y2:(Int×(Int×Int))) =>
 Option.bind (r158 (a.1,y1.1,y2.1,y2.2.2)) fun (y3:(Int×(Int×Int))) =>
 some y3.2
def an153:Ann:=.two (.leaf) (.two (.leaf) (.two (.leaf) (.two (.leaf) (.two (.leaf) (.leaf)))))
theorem s153:SoundM cx.P cx.G 153 sg153 r153:=by
 have e:denM cx [(158,⟨sg158,r158⟩)] an153 Tryd.f153.ntmps (Tryd.f153.body.getD .skip) Tryd.f153.results.toList sg153=r153:=by kernel_rfl
 rw [← e]
 exact sound_of_denM (c:=cx) (Known.cons (.ofM s158 (by kernel_rfl)) Tryd.func158 (by kernel_rfl) (by kernel_rfl) (Known.nil)) Tryd.func153 (by kernel_rfl) (Nat.le_of_ble_eq_true (by kernel_rfl)) rfl
def sg152:Sig:=⟨[⟨false,.bo,(.sl (.int .i64))⟩,⟨false,.bo,(.int .i64)⟩,⟨false,.own,(.ptr (.int .i64))⟩],[⟨false,.own,(.int .i64)⟩,⟨false,.own,(.ptr (.int .i64))⟩]⟩
noncomputable def r152 (a:(List Int×(Int×Int))):Option (Int×Int) :=
 Option.bind (r153 (a.1,(Go.IntKind.wrap .i64 (a.2.1 - (1:Int))),a.2.1,(Go.IntKind.wrap .i64 (a.2.1+(1:Int))),a.2.2)) fun (y1:(Int×Int)) =>
 some y1
def an152:Ann:=.two (.leaf) (.two (.leaf) (.leaf))
theorem s152:SoundM cx.P cx.G 152 sg152 r152:=by
 have e:denM cx [(153,⟨sg153,r153⟩)] an152 Tryd.f152.ntmps (Tryd.f152.body.getD .skip) Tryd.f152.results.toList sg152=r152:=by kernel_rfl
 rw [← e]
 exact sound_of_denM (c:=cx) (Known.cons (.ofM s153 (by kernel_rfl)) Tryd.func153 (by kernel_rfl) (by kernel_rfl) (Known.nil)) Tryd.func152 (by kernel_rfl) (Nat.le_of_ble_eq_true (by kernel_rfl)) rfl
def sg136:Sig:=⟨[⟨false,.bo,(.sl (.int .i64))⟩,⟨false,.bo,(.int .i64)⟩,⟨false,.bo,(.int .i64)⟩],[⟨false,.own,(.int .i64)⟩,⟨false,.own,(.int .i64)⟩]⟩
noncomputable def r136 (a:(List Int×(Int×Int))):Option (Int×Int) :=
 Option.bind (
 bif decide ((8:Int)≤(Go.IntKind.wrap .i64 (a.2.2 - a.2.1))) then
 Option.bind (
 bif decide ((50:Int)≤(Go.IntKind.wrap .i64 (a.2.2 - a.2.1))) then
 Option.bind (r152 (a.1,(Go.IntKind.wrap .i64 (a.2.1+(Go.IntKind.wrap .i64 ((Go.IntKind.wrap .i64 (Int.tdiv (Go.IntKind.wrap .i64 (a.2.2 - a.2.1)) (4:Int))) * (1:Int))))),(0:Int))) fun (y29:(Int×Int)) =>
 Option.bind (r152 (a.1,(Go.IntKind.wrap .i64 (a.2.1+(Go.IntKind.wrap .i64 ((Go.IntKind.wrap .i64 (Int.tdiv (Go.IntKind.wrap .i64 (a.2.2 - a.2.1)) (4:Int))) * (2:Int))))),y29.2)) fun (y30:(Int×Int)) =>
 Option.bind (r152 (a.1,(Go.IntKind.wrap .i64 (a.2.1+(Go.IntKind.wrap .i64 ((Go.IntKind.wrap .i64 (Int.tdiv (Go.IntKind.wrap .i64 (a.2.2 - a.2.1)) (4:Int))) * (3:Int))))),y30.2)) fun (y31:(Int×Int)) =>
 some ((),(y29.1,(y30.1,y31)))
 else
 some ((),((Go.IntKind.wrap .i64 (a.2.1+(Go.IntKind.wrap .i64 ((Go.IntKind.wrap .i64 (Int.tdiv (Go.IntKind.wrap .i64 (a.2.2 - a.2.1)) (4:Int))) * (1:Int))))),((Go.IntKind.wrap .i64 (a.2.1+(Go.IntKind.wrap .i64 ((Go.IntKind.wrap .i64 (Int.tdiv (Go.IntKind.wrap .i64 (a.2.2 - a.2.1)) (4:Int))) * (2:Int))))),((Go.IntKind.wrap .i64 (a.2.1+(Go.IntKind.wrap .i64 ((Go.IntKind.wrap .i64 (Int.tdiv (Go.IntKind.wrap .i64 (a.2.2 - a.2.1)) (4:Int))) * (3:Int))))),(0:Int)))))) fun (d32:(Unit×(Int×(Int×(Int×Int))))) =>
 Option.bind (r153 (a.1,d32.2.1,d32.2.2.1,d32.2.2.2.1,d32.2.2.2.2)) fun (y33:(Int×Int)) =>
 some ((),y33)
 else
 some ((),((Go.IntKind.wrap .i64 (a.2.1+(Go.IntKind.wrap .i64 ((Go.IntKind.wrap .i64 (Int.tdiv (Go.IntKind.wrap .i64 (a.2.2 - a.2.1)) (4:Int))) * (2:Int))))),(0:Int)))) fun (d34:(Unit×(Int×Int))) =>
 bif decide (d34.2.2=(0:Int)) then
 some (d34.2.1,(1:Int))
 else
 bif decide (d34.2.2=(12:Int)) then
 some (d34.2.1,(2:Int))
 else
 some (d34.2.1,(0:Int))
def an136:Ann:=.two (.leaf) (.two (.leaf) (.two (.leaf) (.two (.leaf) (.two (.leaf) (.two (.leaf) (.two (.join [] [] [⟨.normal,[],[.tmp 9 (.pt 9 [(0,0)] 0 0 1),.tmp 11 (.int .i64),.box 9 [.int .i64]]⟩] (.two (.leaf) (.two (.two (.join [0] [] [⟨.normal,[],[.tmp 9 (.pt 9 [(0,0)] 0 0 1),.tmp 10 (.int .i64),.tmp 11 (.int .i64),.tmp 12 (.int .i64),.box 9 [.int .i64]]⟩] (.two (.leaf) (.two (.two (.leaf) (.two (.leaf) (.leaf))) (.leaf)))) (.leaf)) (.leaf)))) (.two (.leaf) (.one (.two (.leaf) (.two (.two (.leaf) (.leaf)) (.two (.leaf) (.two (.two (.leaf) (.leaf)) (.two (.leaf) (.leaf))))))))))))))
theorem s136:SoundF cx.P cx.G 136 sg136 r136:=by
 have e:denF cx [(152,⟨sg152,r152⟩),(153,⟨sg153,r153⟩)] an136 Tryd.f136.ntmps (Tryd.f136.body.getD .skip) Tryd.f136.results.toList sg136=r136:=by kernel_rfl
 rw [← e]
 exact sound_of_den (c:=cx) (Known.cons (.ofM s152 (by kernel_rfl)) Tryd.func152 (by kernel_rfl) (by kernel_rfl) (Known.cons (.ofM s153 (by kernel_rfl)) Tryd.func153 (by kernel_rfl) (by kernel_rfl) (Known.nil))) Tryd.func136 (by kernel_rfl) (Nat.le_of_ble_eq_true (by kernel_rfl)) rfl
set_option maxRecDepth 20000 in
theorem del103 {ei ti:TyInfo} {e:TypeId} (hi:TyOk1 Tryd.prog 27 ti) (hd:ti.d = .sl e) (hei:TyOk1 Tryd.prog e ei) (hone:∀ u∈ei.zero,u.oneCell'=true) (hsz:ei.zero.length=ei.size) (hs0:0<ei.size):DelOk Tryd.prog 103 ei.size:=by
 constructor
 ·intro w ad n cap i hin hnc
  have s1:=fun w=>raw_slice3 (P:=Tryd.prog) hi hd hei (ad:=ad) (n:=n) (cap:=cap) (l:=i) (h:=i) (m:=n) (by omega) hin hnc w
  simp only [iv] at s1 ⊢
  go_enter Tryd.func103,Tryd.f103
  go_wp
  go_ret
  exact ⟨rfl,rfl⟩
 ·intro w b off n cap i j el L hij hjn hnc hb hfit hL
  obtain ⟨v1,v3,v5,w3,s1,s2,s3,⟨w2,s4,s5,s6⟩,hfin⟩:=del_steps hi hd hei hone hsz hs0 hij hjn hnc hb hfit hL
  simp only [iv] at s1 s2 s3 s4 s5 s6 ⊢
  have hne : ¬ (i:Int)=j:=by omega
  go_enter Tryd.func103,Tryd.f103
  go_wp
  ·refine wp_drawn_pure (m:=6) (ks:=[20,21,22,23,24,25]) (vs:=[.slice (some ⟨b,off,none⟩) n cap,.int .i64 i,.slice (some ⟨b,off,none⟩) i cap,.slice (some ⟨b,off,none⟩) n cap,.int .i64 j,v3]) (by kernel_rfl) (by kernel_rfl) rfl rfl (by decide) (by simp) ?_ ?_
   ·intro k ks v hk hv
    match k with
    | 0 =>
     cases hk; cases hv
     exact ⟨_,rfl,rfl,rfl,fun a' ho hd w'=>by have e:=ho 0 (by decide); simp at e; simp [execOp,Act.eval,e]⟩
    | 1 =>
     cases hk; cases hv
     exact ⟨_,rfl,rfl,rfl,fun a' ho hd w'=>by have e:=ho 1 (by decide); simp at e; simp [execOp,Act.eval,e]⟩
    | 2 =>
     cases hk; cases hv
     exact ⟨_,rfl,rfl,rfl,fun a' ho hd w'=>by
      have e0:=hd 0 20 _ ((mem_iff _ _).1 (by kernel_rfl)) rfl rfl
      have e1:=hd 1 21 _ ((mem_iff _ _).1 (by kernel_rfl)) rfl rfl
      simp [execOp,Act.eval,e0,e1,s2]⟩
    | 3 =>
     cases hk; cases hv
     exact ⟨_,rfl,rfl,rfl,fun a' ho hd w'=>by have e:=ho 0 (by decide); simp at e; simp [execOp,Act.eval,e]⟩
    | 4 =>
     cases hk; cases hv
     exact ⟨_,rfl,rfl,rfl,fun a' ho hd w'=>by have e:=ho 2 (by decide); simp at e; simp [execOp,Act.eval,e]⟩
    | 5 =>
     cases hk; cases hv
     exact ⟨_,rfl,rfl,rfl,fun a' ho hd w'=>by
      have e0:=hd 3 23 _ ((mem_iff _ _).1 (by kernel_rfl)) rfl rfl
      have e1:=hd 4 24 _ ((mem_iff _ _).1 (by kernel_rfl)) rfl rfl
      simp [execOp,Act.eval,e0,e1,s3]⟩
    | k+6=>simp at hk
   ·simp only [Act.putAll,Act.put,List.drop_succ_cons,List.drop_zero]
    have s4':(Builtin.append_ #[27,27] 27 #[.slice (some ⟨b,off,none⟩) i cap,v3]).run Tryd.prog w.drew = .ok (.slice (some ⟨b,off,none⟩) (n - (j - i)) cap) w2:=s4
    refine wpList_val rfl (v:=.slice (some ⟨b,off,none⟩) (n - (j - i)) cap) (w':=w2) (by simp [execOp,resolve,invoke,builtin,Act.eval,s4']) ?_
    go_wp
    go_ret
    exact ⟨rfl,hfin⟩
def sg103:Sig:=delS E_72
noncomputable def r103 (a:List T_58×(Int×Int)):Option (List T_58):=delR a
theorem s103:SoundD cx.P 103 sg103 r103:=del_sound (P:=cx.P) (del103 (tysOk 27 ⟨.sl 68,1,24,[.slice none 0 0],false,[some E_72],[none],E_71⟩ (by kernel_rfl)) rfl (tysOk 68 ⟨.st [(0,3),(1,3),(2,66),(3,49),(4,3),(5,3)],6,80,[.int .i64 0,.int .i64 0,.slice none 0 0,.slice none 0 0,.int .i64 0,.int .i64 0],false,[none,none,some E_75,some (.int .i64),none,none],[none,none,none,none,none,none],E_72⟩ (by kernel_rfl)) ((allB_iff _ _).1 (by kernel_rfl)) rfl (by decide))
end Go.Hv
