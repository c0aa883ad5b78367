/- Lemmas on the program and on partial functions that stand in place of its code (part 8); no condition beyond those that each one states. -/
import Derived.Test.YtkaollfdhoaihaaDoorZ7
import Derived.KernelRfl
namespace Go.Proofs.YtkaollfdhoaihaaDoor
section
open Go.RowKit Go.Deep
set_option maxRecDepth 4000
def I6:AC :=
 (.seq (rg [xo 142 (qb .lss (tm 141) (tm 140))])
 (.seq (.cond (tm 142)
  .skip
  (.exit 4))
 (.seq (.block 5 (.seq (rg [xo 143 (qx 1 (tm 139) (tm 141)),xo 144 (ql (tm 143)),xo 22 (qm (tm 144))])
 (rg [xo 145 (qm (tm 0)),xo 146 (qm (tm 17)),xo 147 (qm (tm 22)),xo 148 (qm (tm 17)),xo 149 (qm (tm 22)),xo 150 (qc 47 [tm 149] [[some .int]]),xo 151 (qx 1 (tm 148) (tm 150)),xo 152 (ql (tm 151)),xo 153 (qc 46 [tm 145,tm 146,tm 147,tm 152] [[],[some .int],[some .int],[]])])))
 (rg [xo 154 (qb .add (tm 141) (ci 1)),xo 141 (qm (tm 154))]))))
def Iz:AC :=
 (.seq (rg [xo 120 (qb .lss (tm 119) (tm 118))])
 (.seq (.cond (tm 120)
  .skip
  (.exit 2))
 (.seq (.block 3 (.seq (rg [xo 121 (qx 1 (tm 117) (tm 119)),xo 122 (ql (tm 121)),xo 20 (qm (tm 122))])
 (.region [xo 123 (qm (tm 18)),xo 124 (qm (tm 0)),xo 125 (qm (tm 16)),xo 126 (qm (tm 10)),xo 127 (qm (tm 20)),xo 128 (qc 42 [tm 124,tm 125,tm 126,tm 127] [[],[],[some (.slice .int)],[some .int]]),xo 129 (qf 0 (tm 5)),xo 130 (ql (tm 129)),xo 131 (.slice 1 (tm 128) none (some (tm 130)) none),xo 132 (.mkV 23 (.slice .int) 1 [tm 131]),xo 133 (.appV 23 (.slice .int) 24 (tm 123) (tm 132)),xo 18 (qm (tm 133))] true [(5,7)])))
 (rg [xo 134 (qb .add (tm 119) (ci 1)),xo 119 (qm (tm 134))]))))
def I9:AC :=
 (.seq (rg [xo 69 (qb .lss (tm 68) (tm 67))])
 (.seq (.cond (tm 69)
  .skip
  (.exit 0))
 (.seq (.block 1 (.seq (rg [xo 70 (qx 1 (tm 66) (tm 68)),xo 71 (ql (tm 70)),xo 13 (qm (tm 71))])
 (.region [xo 72 (qf 1 (tm 11)),xo 73 (ql (tm 72)),xo 74 (.i (.ld false 4 (tm 5))),xo 75 (qm (tm 13)),⟨some 76,none,qc 39 [tm 74,tm 75] [[none,some (.pair .int (.pair .int .int)),some .int,some .int],[some .int]]⟩,xo 77 (.mkV 23 (.slice .int) 1 [tm 76]),xo 78 (.appV 23 (.slice .int) 24 (tm 73) (tm 77)),xo 79 (qf 1 (tm 11)),xn (qs (tm 79) (tm 78))] true [(1,4),(1,5)])))
 (rg [xo 80 (qb .add (tm 68) (ci 1)),xo 68 (qm (tm 80))]))))
def Kd:AC :=
 (.seq (rg [xo 5 (.i (.box 34 (tm 1))),xo 8 (qm (.cst .nils)),xo 9 (qm (cb false))])
 (.seq (.seq (rg [xo 23 (qm (tm 0)),xo 24 (.i (.ld false 4 (tm 5))),⟨some 25,none,qc 22 [tm 23,tm 24] [[],[none,some (.pair .int (.pair .int .int)),some .int,some .int]]⟩,xo 26 (.i (.not (tm 25))),xo 27 (qm (tm 26)),⟨some 28,some (27,false),qm (tm 2)⟩,⟨some 29,some (27,false),.i (.len (tm 28))⟩,⟨some 30,some (27,false),qf 2 (tm 5)⟩,⟨some 31,some (27,false),ql (tm 30)⟩,⟨some 32,some (27,false),.i (.len (tm 31))⟩,⟨some 33,some (27,false),qb .mul (ci 2) (tm 32)⟩,⟨some 34,some (27,false),qb .neq (tm 29) (tm 33)⟩,xo 35 (.i (.pick (tm 27) (cb true) (tm 34))),xo 36 (qm (tm 35)),⟨some 37,some (36,false),qm (tm 3)⟩,⟨some 38,some (36,false),.i (.len (tm 37))⟩,⟨some 39,some (36,false),qf 3 (tm 5)⟩,⟨some 40,some (36,false),ql (tm 39)⟩,⟨some 41,some (36,false),.i (.len (tm 40))⟩,⟨some 42,some (36,false),qb .mul (ci 2) (tm 41)⟩,⟨some 43,some (36,false),qb .neq (tm 38) (tm 42)⟩,xo 44 (.i (.pick (tm 36) (cb true) (tm 43))),xo 45 (qm (tm 44)),⟨some 46,some (45,false),qm (tm 0)⟩,⟨some 47,some (45,false),qm (tm 2)⟩,⟨some 48,some (45,false),qc 37 [tm 46,tm 47] [[],[some .int]]⟩,⟨some 49,some (45,false),.i (.not (tm 48))⟩,xo 50 (.i (.pick (tm 45) (cb true) (tm 49))),xo 51 (qm (tm 50)),⟨some 52,some (51,false),qm (tm 0)⟩,⟨some 53,some (51,false),qm (tm 3)⟩,⟨some 54,some (51,false),qc 37 [tm 52,tm 53] [[],[some .int]]⟩,⟨some 55,some (51,false),.i (.not (tm 54))⟩,xo 56 (.i (.pick (tm 51) (cb true) (tm 55)))])
 (.cond (tm 56)
  (.seq (rg [xo 8 (qm (.cst .nils)),xo 9 (qm (cb false))])
  .ret)
  .skip))
 (.seq (rg [xo 57 (qm (tm 0)),xo 58 (.i (.ld false 4 (tm 5))),⟨some 59,none,qc 38 [tm 57,tm 58] [[],[none,some (.pair .int (.pair .int .int)),some .int,some .int]]⟩,xo 10 (qm (tm 59))])
 (.seq (rg [xo 60 (qm (tm 2)),xo 61 (.i (.len (tm 60))),xo 62 (qm (tm 3)),xo 63 (.i (.len (tm 62))),xo 64 (qb .add (tm 61) (tm 63)),xo 65 (.build [.int .i64 0,.nils] [(0,1,tm 64)]),xo 11 (.i (.alloc 64 [.int .i64 0,.nils])),xn (.st false 2 (tm 11) (tm 65))])
 (.seq (.seq (rg [xo 66 (qm (tm 10)),xo 67 (.i (.len (tm 66))),xo 68 (qm (ci 0))])
 (.block 0 (.loop I9)))
 (.seq (.region [xo 82 (qm (tm 0)),xo 83 (.i (.ld false 2 (tm 11))),xo 84 (qm (tm 2)),xo 85 (qc 41 [tm 84] [[some .int]]),xo 86 (qm (tm 3)),xo 87 (.append 3 .int 8 (tm 85) (tm 86)),xo 88 (qc 40 [tm 82,tm 83,tm 87] [[],[none,some (.slice .int)],[some .int]]),xo 81 (qm (tm 88)),xo 89 (.i (.extr 0 (tm 81))),xo 90 (.i (.extr 1 (tm 81))),xo 14 (qm (tm 89)),xo 15 (qm (tm 90))] true [(1,3),(1,5)])
 (.seq (.seq (rg [xo 91 (qm (tm 15)),xo 92 (.i (.not (tm 91)))])
 (.cond (tm 92)
  (.seq (rg [xo 8 (qm (.cst .nils)),xo 9 (qm (cb false))])
  .ret)
  .skip))
 (.seq (rg [xo 93 (qf 0 (tm 5)),xo 94 (ql (tm 93)),xo 95 (qf 2 (tm 5)),xo 96 (ql (tm 95)),xo 97 (.i (.len (tm 96))),xo 98 (qb .add (tm 94) (tm 97)),xo 99 (qf 3 (tm 5)),xo 100 (ql (tm 99)),xo 101 (.i (.len (tm 100))),xo 102 (qb .add (tm 98) (tm 101)),xo 16 (qm (tm 102))])
 (.seq (.region [xo 103 (qm (tm 0)),xo 104 (qm (tm 16)),xo 105 (qm (tm 10)),xo 106 (qm (tm 14)),xo 107 (qc 42 [tm 103,tm 104,tm 105,tm 106] [[],[],[some (.slice .int)],[some .int]]),xo 108 (qf 0 (tm 5)),xo 109 (ql (tm 108)),xo 110 (.slice 1 (tm 107) none (some (tm 109)) none),xo 17 (qm (tm 110))] true [(4,6)])
 (.seq (rg [xo 18 (qm (.cst .nils))])
 (.seq (.seq (rg [xo 111 (qm (tm 0)),xo 112 (qm (tm 10)),xo 113 (.i (.len (tm 112))),xo 114 (.i (.ld false 2 (tm 11))),xo 115 (qc 44 [tm 114] [[none,some (.slice .int)]]),xo 116 (.i (.ofld true 1 1 (tm 115))),xo 117 (qc 43 [tm 111,tm 113,tm 116] [[],[],[some (.slice .int)]]),xo 118 (.i (.len (tm 117))),xo 119 (qm (ci 0))])
 (.block 2 (.loop Iz)))
 (.seq (.seq (rg [xo 135 (qm (tm 0)),xo 136 (qf 0 (tm 5)),xo 137 (ql (tm 136)),xo 138 (qm (tm 18)),xo 139 (qc 45 [tm 135,tm 137,tm 138] [[],[],[some (.slice .int)]]),xo 140 (.i (.len (tm 139))),xo 141 (qm (ci 0))])
 (.block 4 (.loop I6)))
 (.seq (rg [xo 155 (qm (tm 17)),xo 156 (qc 41 [tm 155] [[some .int]]),xo 8 (qm (tm 156)),xo 9 (qm (cb true))])
 .ret)))))))))))))
def Q4:List Res:=[.tmp 8,.tmp 9]
theorem Q7:Aw Tryd.prog Tryd.f14=some (Kd,Q4):=by kernel_rfl
theorem Qc:A6 Tryd.prog 14=true:=by kernel_rfl
def By (y14:List (List Int)) (a1_0:Int) (a1_1:List (Int×Int×Int)) (a1_2:List Int) (a1_3:List Int) (l18_m68:Nat) (l18_m11_1:List (List Int)):Option (Ctl (Nat×List (List Int)) (List (List Int))) :=
 cond (decide (((l18_m68:Nat):Int)<((y14.length:Nat):Int)))
 (Option.bind (y14[l18_m68]?) fun x24 =>
 Option.bind (I5 a1_0 a1_1 a1_2 a1_3 x24) fun y25 =>
 og (l18_m11_1.length+1<=1073741824∧(l18_m11_1.length+1)*24<=140737488355328) <|
 og (l18_m68+1<4611686018427387904) <|
 some (Ctl.next (l18_m68+1,l18_m11_1++[y25])))
 (some (Ctl.out l18_m11_1))
def Bv (y44:List (List Int)) (a0:Int) (a1_0:Int) (a1_2:List Int) (a1_3:List Int) (y14:List (List Int)) (l45_m119:Nat) (l45_m18:List (List Int)):Option (Ctl (Nat×List (List Int)) (List (List Int))) :=
 cond (decide (((l45_m119:Nat):Int)<((y44.length:Nat):Int)))
 (Option.bind (y44[l45_m119]?) fun x51 =>
 Option.bind (Gp a0 (wI (wI (a1_0+((a1_2.length:Nat):Int))+((a1_3.length:Nat):Int))) y14 x51) fun y52 =>
 og ((0:Int)<=0∧0<=a1_0∧a1_0<=((y52.length:Nat):Int)) <|
 og (l45_m18.length+1<=1073741824∧(l45_m18.length+1)*24<=140737488355328) <|
 og (l45_m119+1<4611686018427387904) <|
 some (Ctl.next (l45_m119+1,l45_m18++[y52.take a1_0.toNat])))
 (some (Ctl.out l45_m18))
def Cc (y58:List (List Int)) (a0:Int) (l59_m141:Nat) (l59_m17:List Int):Option (Ctl (Nat×List Int) (List Int)) :=
 cond (decide (((l59_m141:Nat):Int)<((y58.length:Nat):Int)))
 (Option.bind (y58[l59_m141]?) fun x65 =>
 Option.bind (Ee x65) fun y66 =>
 Option.bind (Ex l59_m17 y66) fun x67 =>
 Option.bind (Dx a0 l59_m17 x65 x67) fun y68 =>
 og (y68.length=l59_m17.length) <|
 og (l59_m141+1<4611686018427387904) <|
 some (Ctl.next (l59_m141+1,y68)))
 (some (Ctl.out l59_m17))
def Dm (a0:Int) (a1_0:Int) (a1_1:List (Int×Int×Int)) (a1_2:List Int) (a1_3:List Int) (a2:List Int) (a3:List Int):Option (List Int×Bool) :=
 Option.bind (Option.bind (I7 a0 a1_0 a1_1 a1_2 a1_3) fun y4 =>
 cond (!y4)
  (some true)
  (cond (((a2.length:Nat):Int) !=(wI (2*((a1_2.length:Nat):Int))))
   (some true)
   (cond (((a3.length:Nat):Int) !=(wI (2*((a1_3.length:Nat):Int))))
    (some true)
    (Option.bind (Jo a0 a2) fun y8 =>
    cond (!y8)
     (some true)
     (Option.bind (Jo a0 a3) fun y10 =>
     some (!y10)))))) fun l3_m56 =>
cond l3_m56
 (some ([],false))
 (Option.bind (E7 a0 a1_0 a1_1 a1_2 a1_3) fun y14 =>
 Option.bind (Av (fun s_:Nat×List (List Int)=>By y14 a1_0 a1_1 a1_2 a1_3 s_.1 s_.2) 4611686018427387904 (0,([]:List (List Int)))) fun l16_m11_1 =>
 Option.bind (Cw a2) fun y29 =>
 og (y29.length+a3.length<=1073741824∧(y29.length+a3.length)*8<=140737488355328) <|
 Option.bind (Fv a0 (wI (((a2.length:Nat):Int)+((a3.length:Nat):Int))) l16_m11_1 (y29++a3)) fun y31 =>
 cond (!y31.2)
  (some ([],false))
  (Option.bind (Gp a0 (wI (wI (a1_0+((a1_2.length:Nat):Int))+((a1_3.length:Nat):Int))) y14 y31.1) fun y38 =>
  og ((0:Int)<=0∧0<=a1_0∧a1_0<=((y38.length:Nat):Int)) <|
  Option.bind (Option.bind (G9 (wI (((a2.length:Nat):Int)+((a3.length:Nat):Int))) l16_m11_1) fun y43 =>
   Option.bind (Fn a0 ((y14.length:Nat):Int) y43) fun y44 =>
   Av (fun s_:Nat×List (List Int)=>Bv y44 a0 a1_0 a1_2 a1_3 y14 s_.1 s_.2) 4611686018427387904 (0,([]:List (List Int)))) fun l41_m18 =>
  Option.bind (Option.bind (Dh a0 a1_0 l41_m18) fun y58 =>
   Av (fun s_:Nat×List Int=>Cc y58 a0 s_.1 s_.2) 4611686018427387904 (0,y38.take a1_0.toNat)) fun l56_m17 =>
  Option.bind (Cw l56_m17) fun y72 =>
  some (y72,true)))
def Qa (r:List Int×Bool):RV:=⟨true,[(false,[.new 3 .int r.1]),(false,[.sc (.bool r.2)])]⟩
set_option maxHeartbeats 1600000 in
theorem P9 {a0:Int} {a1_0:Int} {a1_1:List (Int×Int×Int)} {a1_2:List Int} {a1_3:List Int} {a2:List Int} {a3:List Int} {r:List Int×Bool} (h:Dm a0 a1_0 a1_1 a1_2 a1_3 a2 a3=some r):Bm Tryd.prog Tab 14 [ai a0,.agg [ai a1_0,.tree (.pair .int (.pair .int .int)) a1_1,.tree .int a1_2,.tree .int a1_3],.tree .int a2,.tree .int a3] (Qa r):=by
 refine Ba (by kernel_rfl) Tryd.func14 Q7 (n:=157) (by kernel_rfl) (by simp) (tl:=[(0,ai a0),(1,.agg [ai a1_0,.tree (.pair .int (.pair .int .int)) a1_1,.tree .int a1_2,.tree .int a1_3]),(2,.tree .int a2),(3,.tree .int a3)]) rfl ?_;unfold Kd;unfold Dm at h;refine An ?_;refine Ab ?_;refine As h (fun (l3_m56:Bool) S_=>S_=⟨Ap [(0,ai a0),(2,.tree .int a2),(3,.tree .int a3),(5,.box (oi 0 1) 0),(56,.bool l3_m56)],Aj (Ar [(oi 0 1,.cells 34 [ai a1_0,.tree (.pair .int (.pair .int .int)) a1_1,.tree .int a1_2,.tree .int a1_3])]),2⟩) ?_ ?_
 ·intro v_ h;obtain ⟨y4,h4,h⟩:=Ad h;rcases Ae h with ⟨q5,h⟩ | ⟨q5,h⟩
  ·refine Aa 38 ?_;refine rz0 (ai a0) ?_;refine rzl (.agg [ai a1_0,.tree (.pair .int (.pair .int .int)) a1_1,.tree .int a1_2,.tree .int a1_3]) ?_;refine zc (.bool y4) [] [ai a0,.agg [ai a1_0,.tree (.pair .int (.pair .int .int)) a1_1,.tree .int a1_2,.tree .int a1_3]] (H3 h4) ?_;refine rz0 (.bool (!y4)) ?_;refine rz0 (.bool (!y4)) ?_;refine zs q5 ?_;refine zs q5 ?_;refine zs q5 ?_;refine zs q5 ?_;refine zs q5 ?_;refine zs q5 ?_;refine zs q5 ?_;refine rs0 (.bool true) (zT q5) ?_;refine rsB 21 ?_;refine Aq (tn_ ?_);obtain rfl:=zj h;exact ⟨_,Ac [(oi 0 1,oi 5 1)],rfl⟩
  rcases Ae h with ⟨q6,h⟩ | ⟨q6,h⟩
  ·refine Aa 38 ?_;refine rz0 (ai a0) ?_;refine rzl (.agg [ai a1_0,.tree (.pair .int (.pair .int .int)) a1_1,.tree .int a1_2,.tree .int a1_3]) ?_;refine zc (.bool y4) [] [ai a0,.agg [ai a1_0,.tree (.pair .int (.pair .int .int)) a1_1,.tree .int a1_2,.tree .int a1_3]] (H3 h4) ?_;refine rz0 (.bool (!y4)) ?_;refine rz0 (.bool (!y4)) ?_;refine rs0 (.tree .int a2) (zg q5) ?_;refine rs0 (ai ((a2.length:Nat):Int)) (zg q5) ?_;refine rs0 (.box (oi 5 1) 2) (zg q5) ?_;refine rsl (.tree .int a1_2) (zg q5) ?_;refine rs0 (ai ((a1_2.length:Nat):Int)) (zg q5) ?_;refine rs0 (ai (wI (2*((a1_2.length:Nat):Int)))) (zg q5) ?_;refine rs0 (.bool (((a2.length:Nat):Int) !=(wI (2*((a1_2.length:Nat):Int))))) (zg q5) ?_;refine rs0 (.bool (((a2.length:Nat):Int) !=(wI (2*((a1_2.length:Nat):Int))))) (zF q5) ?_;refine rz0 (.bool (((a2.length:Nat):Int) !=(wI (2*((a1_2.length:Nat):Int))))) ?_;refine zs q6 ?_;refine zs q6 ?_;refine zs q6 ?_;refine zs q6 ?_;refine zs q6 ?_;refine zs q6 ?_;refine zs q6 ?_;refine rs0 (.bool true) (zT q6) ?_;refine rsB 12 ?_;refine Aq (tn_ ?_);obtain rfl:=zj h;exact ⟨_,Ac [(oi 0 1,oi 5 1)],rfl⟩
  rcases Ae h with ⟨q7,h⟩ | ⟨q7,h⟩
  ·refine Aa 38 ?_;refine rz0 (ai a0) ?_;refine rzl (.agg [ai a1_0,.tree (.pair .int (.pair .int .int)) a1_1,.tree .int a1_2,.tree .int a1_3]) ?_;refine zc (.bool y4) [] [ai a0,.agg [ai a1_0,.tree (.pair .int (.pair .int .int)) a1_1,.tree .int a1_2,.tree .int a1_3]] (H3 h4) ?_;refine rz0 (.bool (!y4)) ?_;refine rz0 (.bool (!y4)) ?_;refine rs0 (.tree .int a2) (zg q5) ?_;refine rs0 (ai ((a2.length:Nat):Int)) (zg q5) ?_;refine rs0 (.box (oi 5 1) 2) (zg q5) ?_;refine rsl (.tree .int a1_2) (zg q5) ?_;refine rs0 (ai ((a1_2.length:Nat):Int)) (zg q5) ?_;refine rs0 (ai (wI (2*((a1_2.length:Nat):Int)))) (zg q5) ?_;refine rs0 (.bool (((a2.length:Nat):Int) !=(wI (2*((a1_2.length:Nat):Int))))) (zg q5) ?_;refine rs0 (.bool (((a2.length:Nat):Int) !=(wI (2*((a1_2.length:Nat):Int))))) (zF q5) ?_;refine rz0 (.bool (((a2.length:Nat):Int) !=(wI (2*((a1_2.length:Nat):Int))))) ?_;refine rs0 (.tree .int a3) (zg q6) ?_;refine rs0 (ai ((a3.length:Nat):Int)) (zg q6) ?_;refine rs0 (.box (oi 5 1) 3) (zg q6) ?_;refine rsl (.tree .int a1_3) (zg q6) ?_;refine rs0 (ai ((a1_3.length:Nat):Int)) (zg q6) ?_;refine rs0 (ai (wI (2*((a1_3.length:Nat):Int)))) (zg q6) ?_;refine rs0 (.bool (((a3.length:Nat):Int) !=(wI (2*((a1_3.length:Nat):Int))))) (zg q6) ?_;refine rs0 (.bool (((a3.length:Nat):Int) !=(wI (2*((a1_3.length:Nat):Int))))) (zF q6) ?_;refine rz0 (.bool (((a3.length:Nat):Int) !=(wI (2*((a1_3.length:Nat):Int))))) ?_;refine zs q7 ?_;refine zs q7 ?_;refine zs q7 ?_;refine zs q7 ?_;refine rs0 (.bool true) (zT q7) ?_;refine rsB 6 ?_;refine Aq (tn_ ?_);obtain rfl:=zj h;exact ⟨_,Ac [(oi 0 1,oi 5 1)],rfl⟩
  obtain ⟨y8,h8,h⟩:=Ad h;rcases Ae h with ⟨q9,h⟩ | ⟨q9,h⟩
  ·refine Aa 38 ?_;refine rz0 (ai a0) ?_;refine rzl (.agg [ai a1_0,.tree (.pair .int (.pair .int .int)) a1_1,.tree .int a1_2,.tree .int a1_3]) ?_;refine zc (.bool y4) [] [ai a0,.agg [ai a1_0,.tree (.pair .int (.pair .int .int)) a1_1,.tree .int a1_2,.tree .int a1_3]] (H3 h4) ?_;refine rz0 (.bool (!y4)) ?_;refine rz0 (.bool (!y4)) ?_;refine rs0 (.tree .int a2) (zg q5) ?_;refine rs0 (ai ((a2.length:Nat):Int)) (zg q5) ?_;refine rs0 (.box (oi 5 1) 2) (zg q5) ?_;refine rsl (.tree .int a1_2) (zg q5) ?_;refine rs0 (ai ((a1_2.length:Nat):Int)) (zg q5) ?_;refine rs0 (ai (wI (2*((a1_2.length:Nat):Int)))) (zg q5) ?_;refine rs0 (.bool (((a2.length:Nat):Int) !=(wI (2*((a1_2.length:Nat):Int))))) (zg q5) ?_;refine rs0 (.bool (((a2.length:Nat):Int) !=(wI (2*((a1_2.length:Nat):Int))))) (zF q5) ?_;refine rz0 (.bool (((a2.length:Nat):Int) !=(wI (2*((a1_2.length:Nat):Int))))) ?_;refine rs0 (.tree .int a3) (zg q6) ?_;refine rs0 (ai ((a3.length:Nat):Int)) (zg q6) ?_;refine rs0 (.box (oi 5 1) 3) (zg q6) ?_;refine rsl (.tree .int a1_3) (zg q6) ?_;refine rs0 (ai ((a1_3.length:Nat):Int)) (zg q6) ?_;refine rs0 (ai (wI (2*((a1_3.length:Nat):Int)))) (zg q6) ?_;refine rs0 (.bool (((a3.length:Nat):Int) !=(wI (2*((a1_3.length:Nat):Int))))) (zg q6) ?_;refine rs0 (.bool (((a3.length:Nat):Int) !=(wI (2*((a1_3.length:Nat):Int))))) (zF q6) ?_;refine rz0 (.bool (((a3.length:Nat):Int) !=(wI (2*((a1_3.length:Nat):Int))))) ?_;refine rs0 (ai a0) (zg q7) ?_;refine rs0 (.tree .int a2) (zg q7) ?_;refine B9 (.bool y8) [] [ai a0,.tree .int a2] _ (caps:=[]) (args0:=[ai a0,.tree .int a2]) (C9 (by kernel_rfl) q7) (by kernel_rfl) (P4 h8) Qg ?_;refine rs0 (.bool (!y8)) (zg q7) ?_;refine rs0 (.bool (!y8)) (zF q7) ?_;refine rz0 (.bool (!y8)) ?_;refine zs q9 ?_;refine zs q9 ?_;refine zs q9 ?_;refine zs q9 ?_;refine rs0 (.bool true) (zT q9) ?_;refine Aq (tn_ ?_);obtain rfl:=zj h;exact ⟨_,Ac [(oi 0 1,oi 5 1)],rfl⟩
  obtain ⟨y10,h10,h⟩:=Ad h;refine Aa 38 ?_;refine rz0 (ai a0) ?_;refine rzl (.agg [ai a1_0,.tree (.pair .int (.pair .int .int)) a1_1,.tree .int a1_2,.tree .int a1_3]) ?_;refine zc (.bool y4) [] [ai a0,.agg [ai a1_0,.tree (.pair .int (.pair .int .int)) a1_1,.tree .int a1_2,.tree .int a1_3]] (H3 h4) ?_;refine rz0 (.bool (!y4)) ?_;refine rz0 (.bool (!y4)) ?_;refine rs0 (.tree .int a2) (zg q5) ?_;refine rs0 (ai ((a2.length:Nat):Int)) (zg q5) ?_;refine rs0 (.box (oi 5 1) 2) (zg q5) ?_;refine rsl (.tree .int a1_2) (zg q5) ?_;refine rs0 (ai ((a1_2.length:Nat):Int)) (zg q5) ?_;refine rs0 (ai (wI (2*((a1_2.length:Nat):Int)))) (zg q5) ?_;refine rs0 (.bool (((a2.length:Nat):Int) !=(wI (2*((a1_2.length:Nat):Int))))) (zg q5) ?_;refine rs0 (.bool (((a2.length:Nat):Int) !=(wI (2*((a1_2.length:Nat):Int))))) (zF q5) ?_;refine rz0 (.bool (((a2.length:Nat):Int) !=(wI (2*((a1_2.length:Nat):Int))))) ?_;refine rs0 (.tree .int a3) (zg q6) ?_;refine rs0 (ai ((a3.length:Nat):Int)) (zg q6) ?_;refine rs0 (.box (oi 5 1) 3) (zg q6) ?_;refine rsl (.tree .int a1_3) (zg q6) ?_;refine rs0 (ai ((a1_3.length:Nat):Int)) (zg q6) ?_;refine rs0 (ai (wI (2*((a1_3.length:Nat):Int)))) (zg q6) ?_;refine rs0 (.bool (((a3.length:Nat):Int) !=(wI (2*((a1_3.length:Nat):Int))))) (zg q6) ?_;refine rs0 (.bool (((a3.length:Nat):Int) !=(wI (2*((a1_3.length:Nat):Int))))) (zF q6) ?_;refine rz0 (.bool (((a3.length:Nat):Int) !=(wI (2*((a1_3.length:Nat):Int))))) ?_;refine rs0 (ai a0) (zg q7) ?_;refine rs0 (.tree .int a2) (zg q7) ?_;refine B9 (.bool y8) [] [ai a0,.tree .int a2] _ (caps:=[]) (args0:=[ai a0,.tree .int a2]) (C9 (by kernel_rfl) q7) (by kernel_rfl) (P4 h8) Qg ?_;refine rs0 (.bool (!y8)) (zg q7) ?_;refine rs0 (.bool (!y8)) (zF q7) ?_;refine rz0 (.bool (!y8)) ?_;refine rs0 (ai a0) (zg q9) ?_;refine rs0 (.tree .int a3) (zg q9) ?_;refine B9 (.bool y10) [] [ai a0,.tree .int a3] _ (caps:=[]) (args0:=[ai a0,.tree .int a3]) (C9 (by kernel_rfl) q9) (by kernel_rfl) (P4 h10) Qg ?_;refine rs0 (.bool (!y10)) (zg q9) ?_;refine rs0 (.bool (!y10)) (zF q9) ?_;refine Aq (tn_ ?_);obtain rfl:=zj h;exact ⟨_,Ac [(oi 0 1,oi 5 1)],rfl⟩
 rintro l3_m56 _ rfl h
 (try dsimp only at h);rcases Ae h with ⟨q11,h⟩ | ⟨q11,h⟩
 ·refine Ah q11 ?_;refine An ?_;refine Ao (tr_ ?_);obtain rfl:=zj h;exact Br [.nils,.bool false] (A8 rfl (Agv rfl) (A8 rfl zl Bc))
 refine Ag q11 ?_;refine Ai (tn_ ?_);refine wr_ ?_;refine Ab ?_;obtain ⟨y14,h14,h⟩:=Ad h;refine Aa 6 ?_;refine rsB 2 ?_;refine C3 (.own (oi 944 4) (.slice .int) 0 y14.length) [(oi 944 4,some (.mat 23 (oi 945 4) .int y14)),(oi 945 4,some (.pool 3 .int y14))] [] [ai a0,.agg [ai a1_0,.tree (.pair .int (.pair .int .int)) a1_1,.tree .int a1_2,.tree .int a1_3]] (caps:=[]) trivial (Xg h14) Wl trivial (.cons (.ren (by kernel_rfl)) (.cons (.ren (by kernel_rfl)) .nil)) (A7 (by kernel_rfl) (by kernel_rfl) trivial) ?_;refine rsB 1 ?_;refine Aq (tn_ ?_);refine wr_ ?_;refine An ?_;refine As h (fun (l16_m11_1:List (List Int)) S_=>S_=⟨Ap [(0,ai a0),(2,.tree .int a2),(3,.tree .int a3),(5,.box (oi 0 1) 0),(10,.own (oi 1 1) (.slice .int) 0 y14.length),(11,.box (oi 3 1) 0)],Aj (Ar [(oi 0 1,.cells 34 [ai a1_0,.tree (.pair .int (.pair .int .int)) a1_1,.tree .int a1_2,.tree .int a1_3]),(oi 1 1,.mat 23 (oi 2 1) .int y14),(oi 2 1,.pool 3 .int y14),(oi 3 1,.cells 64 [ai (wI (((a2.length:Nat):Int)+((a3.length:Nat):Int))),.own (oi 4 1) (.slice .int) 0 l16_m11_1.length]),(oi 4 1,.mat 23 (oi 5 1) .int l16_m11_1),(oi 5 1,.pool 3 .int l16_m11_1)]),2⟩) ?_ ?_
 ·intro v_ h;refine An ?_;refine Af ?_;refine Ax h (fun t_ S_=>∃ (l18_m68:Nat),∃ (l18_m11_1:List (List Int)),t_=(l18_m68,l18_m11_1)∧S_=⟨Ap [(0,ai a0),(2,.tree .int a2),(3,.tree .int a3),(5,.box (oi 0 1) 0),(10,.own (oi 1 1) (.slice .int) 0 y14.length),(11,.box (oi 3 1) 0),(66,.own (oi 1 1) (.slice .int) 0 y14.length),(67,ai ((y14.length:Nat):Int)),(68,ai ((l18_m68:Nat):Int))],Aj (Ar [(oi 0 1,.cells 34 [ai a1_0,.tree (.pair .int (.pair .int .int)) a1_1,.tree .int a1_2,.tree .int a1_3]),(oi 1 1,.mat 23 (oi 2 1) .int y14),(oi 2 1,.pool 3 .int y14),(oi 3 1,.cells 64 [ai (wI (((a2.length:Nat):Int)+((a3.length:Nat):Int))),.own (oi 4 1) (.slice .int) 0 l18_m11_1.length]),(oi 4 1,.mat 23 (oi 5 1) .int l18_m11_1),(oi 5 1,.pool 3 .int l18_m11_1)]),2⟩) ⟨_,(Qj 9000 (oi 11 12) 1 64 [ai (wI (((a2.length:Nat):Int)+((a3.length:Nat):Int))),.nils] [ai (wI (((a2.length:Nat):Int)+((a3.length:Nat):Int))),.own (oi 9000 17) (.slice .int) 0 0] 23 (.slice .int) (by kernel_rfl) (by kernel_rfl) (by kernel_rfl)).trans ((Gt (e1:=23) (n:=0) 9000 (oi 9000 17) 3 .int (by kernel_rfl) (by kernel_rfl) rfl (by kernel_rfl) (by kernel_rfl)).trans (Ac [(oi 1 1,oi 944 4),(oi 2 1,oi 945 4),(oi 3 1,oi 11 12),(oi 4 1,oi 9000 17),(oi 5 1,oi 9000 18)])),⟨0,([]:List (List Int)),rfl,rfl⟩⟩ ?_;rintro n_ _ _ c_ ⟨l18_m68,l18_m11_1,rfl,rfl⟩ h hn18
  (try dsimp only at h);unfold By at h;unfold I9;refine An ?_;refine Ab ?_;rcases Ae h with ⟨q21,h⟩ | ⟨q21,h⟩
  ·have q21_:=of_decide_eq_true q21;refine Ah q21 ?_;refine Ai (tn_ ?_);refine wr_ ?_;refine Ab ?_;refine Af ?_;refine Ab ?_;obtain ⟨x24,e24,h⟩:=Ad h;refine Aa 6 ?_;refine rs0 (.elt (oi 1 1) l18_m68 0) (zo (t:=.slice .int) (o:=oi 1 1) (len:=y14.length) (k:=.i64) (m:=((l18_m68:Nat):Int)) (At _) (Al e24)) ?_;refine rsl (.own (kid (oi 2 1) l18_m68) .int 0 x24.length) (Bs (o:=oi 1 1) (p:=oi 2 1) (e1:=23) (u:=.int) (xss:=y14) (row:=x24) (j:=l18_m68) (by kernel_rfl) (by kernel_rfl) e24) ?_;refine rsB 1 ?_;refine Aq (tn_ ?_);refine wr_ ?_;obtain ⟨y25,h25,h⟩:=Ad h;obtain ⟨g26,h⟩:=Am h;refine Az 15 ?_;refine dz0 (.box (oi 3 1) 1) ?_;refine dzl (.own (oi 4 1) (.slice .int) 0 l18_m11_1.length) ?_;refine dzl (.agg [ai a1_0,.tree (.pair .int (.pair .int .int)) a1_1,.tree .int a1_2,.tree .int a1_3]) ?_;refine dz0 (.own (kid (oi 2 1) l18_m68) .int 0 x24.length) ?_;refine D4 (.own (oi 1216 10) .int 0 y25.length) [(oi 1216 10,some (.arr 3 .int y25))] [.agg [ai a1_0,.tree (.pair .int (.pair .int .int)) a1_1,.tree .int a1_2,.tree .int a1_3],.own (kid (oi 2 1) l18_m68) .int 0 x24.length] _ (caps:=[]) (args0:=[.agg [ai a1_0,.tree (.pair .int (.pair .int .int)) a1_1,.tree .int a1_2,.tree .int a1_3],.tree .int x24]) trivial (Ay (by kernel_rfl) (Ay (Bn (e:=3) (u:=.int) (xs:=x24) ((Hk (H5 (t:=.int) (off:=0) (len:=x24.length) 1 rfl (by kernel_rfl))).trans (A0 (by kernel_rfl) e24)) rfl) Cj)) (Abk h25) Abb ?_;refine Am1 (.own (oi 77 11) (.slice .int) 0 1) (oi 77 11) (.vec 23 1 1 ([.own (oi 1216 10) .int 0 y25.length])) trivial (L7 (by kernel_rfl)) ?_;refine ds2 (.own (oi 4 12) (.slice .int) 0 (l18_m11_1.length+1)) (oi 4 1) (oi 4 12) (.vec 23 1 (l18_m11_1.length+1) (hdL (oi 5 1) .int l18_m11_1++[.own (oi 1216 10) .int 0 y25.length])) (Jf (u:=.int) (t':=.slice .int) (t2:=.slice .int) (o:=oi 4 1) (q:=oi 77 11) (e2:=23) (p:=oi 5 1) (xss:=l18_m11_1) (cs:=[.own (oi 1216 10) .int 0 y25.length]) (len:=l18_m11_1.length) (by kernel_rfl) (by kernel_rfl) rfl (by kernel_rfl) (by kernel_rfl) rfl g26) ?_;refine dz0 (.box (oi 3 1) 1) ?_;refine Mx (oi 3 1) (oi 3 1) (.cells 64 [ai (wI (((a2.length:Nat):Int)+((a3.length:Nat):Int))),.own (oi 4 12) (.slice .int) 0 (l18_m11_1.length+1)]) (by kernel_rfl) ?_;refine Ft (Bd (by kernel_rfl)) (bn_ (tn_ ?_));refine ⟨_,Fb (e1:=23) (e:=3) (u:=.int) (n:=l18_m11_1.length+1) (len:=y25.length) (row:=y25) (ys:=y25) (xss:=l18_m11_1) 9000 (oi 4 12) (oi 5 1) (oi 1216 10) (by kernel_rfl) (by kernel_rfl) rfl (by kernel_rfl) (by kernel_rfl) (Pf rfl) (Oo rfl) (by kernel_rfl) (by kernel_rfl) (by kernel_rfl),?_⟩;obtain ⟨g27,h⟩:=Am h;refine Aa 18 ?_;refine rs0 (ai ((l18_m68+1:Nat):Int)) (za g27) ?_;refine rsB 1 ?_;refine Aq (tn_ ?_);obtain rfl:=zj h;exact ⟨(l18_m68+1,l18_m11_1++[y25]),_,(Dy (oi 3 1) (.cells 64 [ai (wI (((a2.length:Nat):Int)+((a3.length:Nat):Int))),.own (oi 4 12) (.slice .int) 0 (l18_m11_1.length+1)]) (.cells 64 [ai (wI (((a2.length:Nat):Int)+((a3.length:Nat):Int))),.own (oi 4 12) (.slice .int) 0 ((l18_m11_1++[y25]).length)]) (by kernel_rfl) (congrArg (fun z_=>(.cells 64 [ai (wI (((a2.length:Nat):Int)+((a3.length:Nat):Int))),.own (oi 4 12) (.slice .int) 0 z_]:Ob)) ((by simp):l18_m11_1.length+1=(l18_m11_1++[y25]).length))).trans (Ac [(oi 4 1,oi 4 12),(oi 5 1,oi 9000 15)]),⟨l18_m68+1,l18_m11_1++[y25],rfl,rfl⟩,hn18⟩
  have q21_:=of_decide_eq_false q21;refine Ag q21 ?_;refine Au (te_ (te_ (be_ (tn_ ?_))));obtain rfl:=zj h;have h:=hn18
  (try dsimp only at h);obtain rfl:=zj h;exact ⟨_,Ac [],rfl⟩
 rintro l16_m11_1 _ rfl h
 (try dsimp only at h);refine Ab ?_;obtain ⟨y29,h29,h⟩:=Ad h;obtain ⟨g30,h⟩:=Am h;obtain ⟨y31,h31,h⟩:=Ad h;refine Az 14 ?_;refine dz0 (ai a0) ?_;refine dzl (.agg [ai (wI (((a2.length:Nat):Int)+((a3.length:Nat):Int))),.own (oi 4 1) (.slice .int) 0 l16_m11_1.length]) ?_;refine dz0 (.tree .int a2) ?_;refine D4 (.own (oi 1360 5) .int 0 y29.length) [(oi 1360 5,some (.arr 3 .int y29))] [.tree .int a2] _ (caps:=[]) (args0:=[.tree .int a2]) trivial (by kernel_rfl) (Hc h29) Iu ?_;refine dz0 (.tree .int a3) ?_;refine ds2 (.own (oi 1360 7) .int 0 ((y29++a3).length)) (oi 1360 5) (oi 1360 7) (.arr 3 .int (y29++a3)) (It (t:=.int) (t':=.int) (xs:=y29) (ys:=a3) (zs:=y29++a3) (j:=oi 1360 5) (len:=y29.length) (c:=.tree .int a3) (by kernel_rfl) (by kernel_rfl) rfl (by kernel_rfl) Ln rfl g30) ?_;refine D4 (.tup [.own (oi 1408 8) .int 0 y31.1.length,.bool y31.2]) [(oi 1408 8,some (.arr 3 .int y31.1))] [ai a0,.agg [ai (wI (((a2.length:Nat):Int)+((a3.length:Nat):Int))),.own (oi 4 1) (.slice .int) 0 l16_m11_1.length],.own (oi 1360 7) .int 0 ((y29++a3).length)] _ (caps:=[]) (args0:=[ai a0,.agg [ai (wI (((a2.length:Nat):Int)+((a3.length:Nat):Int))),.tree (.slice .int) l16_m11_1],.tree .int (y29++a3)]) trivial (Ay (by kernel_rfl) (Ay (Xv (Ay (by kernel_rfl) (Ay (M6 (p:=oi 5 1) (e1:=23) (e:=3) (u:=.int) (xss:=l16_m11_1) ((Hk (Aru [ai (wI (((a2.length:Nat):Int)+((a3.length:Nat):Int))),.own (oi 4 1) (.slice .int) 0 l16_m11_1.length] (t:=.slice .int) (off:=0) (len:=l16_m11_1.length) 1 1 rfl (by kernel_rfl) rfl)).trans (by kernel_rfl)) (Akf [ai (wI (((a2.length:Nat):Int)+((a3.length:Nat):Int))),.own (oi 4 1) (.slice .int) 0 l16_m11_1.length] (t:=.slice .int) (off:=0) (len:=l16_m11_1.length) (i:=oi 4 1) (e1:=23) (z:=1) (m:=l16_m11_1.length) 1 1 rfl (by kernel_rfl) rfl (by kernel_rfl) (Hb (by kernel_rfl))) rfl) Cj))) (Ay (Bn (e:=3) ((Hk (H5 (t:=.int) (off:=0) (len:=(y29++a3).length) 2 rfl (by kernel_rfl))).trans (by kernel_rfl)) rfl) Cj))) (Ys h31) Yy ?_;refine dz0 (.tup [.own (oi 1408 8) .int 0 y31.1.length,.bool y31.2]) ?_;refine dz0 (.own (oi 1408 8) .int 0 y31.1.length) ?_;refine dz0 (.bool y31.2) ?_;refine dz0 (.own (oi 1408 8) .int 0 y31.1.length) ?_;refine dz0 (.bool y31.2) ?_;refine Ft (Bd (by kernel_rfl)) (tn_ ?_);refine wr_ ?_;refine Ab ?_;refine An ?_;rcases Ae h with ⟨q34,h⟩ | ⟨q34,h⟩
 ·refine Ah q34 ?_;refine An ?_;refine Ao (tr_ ?_);obtain rfl:=zj h;exact Br [.nils,.bool false] (A8 rfl (Agv rfl) (A8 rfl zl Bc))
 refine Ag q34 ?_;refine Ai (tn_ ?_);refine wr_ ?_;refine An ?_;refine Ab ?_;obtain ⟨y38,h38,h⟩:=Ad h;obtain ⟨g39,h⟩:=Am h;refine Az 36 ?_;refine dz0 (ai a0) ?_;refine dz0 (ai (wI (wI (a1_0+((a1_2.length:Nat):Int))+((a1_3.length:Nat):Int)))) ?_;refine dz0 (.own (oi 1 1) (.slice .int) 0 y14.length) ?_;refine dz0 (.own (oi 1408 8) .int 0 y31.1.length) ?_;refine D4 (.own (oi 1712 31) .int 0 y38.length) [(oi 1712 31,some (.arr 3 .int y38))] [ai a0,ai (wI (wI (a1_0+((a1_2.length:Nat):Int))+((a1_3.length:Nat):Int))),.own (oi 1 1) (.slice .int) 0 y14.length,.own (oi 1408 8) .int 0 y31.1.length] _ (caps:=[]) (args0:=[ai a0,ai (wI (wI (a1_0+((a1_2.length:Nat):Int))+((a1_3.length:Nat):Int))),.tree (.slice .int) y14,.tree .int y31.1]) trivial (Ay (by kernel_rfl) (Ay (by kernel_rfl) (Ay (M6 (p:=oi 2 1) (e1:=23) (e:=3) (u:=.int) (xss:=y14) (by kernel_rfl) (Aby (t:=.slice .int) (off:=0) (len:=y14.length) (i:=oi 1 1) (e1:=23) (z:=1) (m:=y14.length) 2 rfl (by kernel_rfl) (by kernel_rfl) (Hb (by kernel_rfl))) rfl) (Ay (Bn (e:=3) ((Hk (H5 (t:=.int) (off:=0) (len:=y31.1.length) 3 rfl (by kernel_rfl))).trans (by kernel_rfl)) rfl) Cj)))) (Ta h38) S4 ?_;refine dz0 (.box (oi 0 1) 0) ?_;refine dzl (ai a1_0) ?_;refine ds0 (.own (oi 1712 31) .int 0 a1_0.toNat) (Rj (t:=.int) (i:=oi 1712 31) (off:=0) (len:=y38.length) (l:=0) (h:=a1_0) (by kernel_rfl) (by kernel_rfl) (by kernel_rfl) rfl g39 rfl (by omega)) ?_;refine dz0 (.own (oi 1712 31) .int 0 a1_0.toNat) ?_;refine Ft (Bd (by kernel_rfl)) (tn_ ?_);refine ⟨_,Aj5 (e:=3) (t:=.int) (xs:=y38) (k:=a1_0.toNat) (oi 1712 31) (by kernel_rfl) (by omega),?_⟩;refine An ?_;refine As h (fun (l41_m18:List (List Int)) S_=>S_=⟨Ap [(0,ai a0),(5,.box (oi 0 1) 0),(17,.own (oi 1 1) .int 0 ((y38.take a1_0.toNat).length)),(18,.own (oi 2 1) (.slice .int) 0 l41_m18.length)],Aj (Ar [(oi 0 1,.cells 34 [ai a1_0,.tree (.pair .int (.pair .int .int)) a1_1,.tree .int a1_2,.tree .int a1_3]),(oi 1 1,.arr 3 .int (y38.take a1_0.toNat)),(oi 2 1,.mat 23 (oi 3 1) .int l41_m18),(oi 3 1,.pool 3 .int l41_m18)]),2⟩) ?_ ?_
 ·intro v_ h;refine Ab ?_;obtain ⟨y43,h43,h⟩:=Ad h;obtain ⟨y44,h44,h⟩:=Ad h;refine Aa 46 ?_;refine rz0 (ai a0) ?_;refine rz0 (.own (oi 1 1) (.slice .int) 0 y14.length) ?_;refine rz0 (ai ((y14.length:Nat):Int)) ?_;refine rzl (.agg [ai (wI (((a2.length:Nat):Int)+((a3.length:Nat):Int))),.own (oi 4 1) (.slice .int) 0 l16_m11_1.length]) ?_;refine C3 (.agg [ai (((l16_m11_1.length:Nat):Int)),.own (oi 1841 41) (.slice .int) 0 y43.length]) [(oi 1840 41,some (.cells 64 [ai (((l16_m11_1.length:Nat):Int)),.own (oi 1841 41) (.slice .int) 0 y43.length])),(oi 1841 41,some (.mat 23 (oi 1842 41) .int y43)),(oi 1842 41,some (.pool 3 .int y43))] [] [.agg [ai (wI (((a2.length:Nat):Int)+((a3.length:Nat):Int))),.own (oi 4 1) (.slice .int) 0 l16_m11_1.length]] (caps:=[]) trivial (Aar h43) Ab8 trivial (.cons (.agg (.cons (.ren (by kernel_rfl)) (.cons (.gnd (by kernel_rfl) (M6 (p:=oi 5 1) (e1:=23) (e:=3) (u:=.int) (xss:=l16_m11_1) ((Np (by kernel_rfl) (by kernel_rfl) (by kernel_rfl)).trans (by kernel_rfl)) (Lt (by kernel_rfl) (by kernel_rfl) (Hb (by kernel_rfl)) (by kernel_rfl)) rfl)) .nil))) .nil) (A7 (by kernel_rfl) (by kernel_rfl) trivial) ?_;refine rsB 1 ?_;refine C3 (.own (oi 1872 43) (.slice .int) 0 y44.length) [(oi 1872 43,some (.mat 23 (oi 1873 43) .int y44)),(oi 1873 43,some (.pool 3 .int y44))] [] [ai a0,ai ((y14.length:Nat):Int),.own (oi 1841 41) (.slice .int) 0 y43.length] (caps:=[]) trivial (Rw h44) Rl trivial (.cons (.ren (by kernel_rfl)) (.cons (.ren (by kernel_rfl)) (.cons (.gnd (by kernel_rfl) (M6 (p:=oi 1842 41) (e1:=23) (e:=3) (u:=.int) (xss:=y43) ((Np (by kernel_rfl) (by kernel_rfl) (by kernel_rfl)).trans (by kernel_rfl)) (Lt (by kernel_rfl) (by kernel_rfl) (Hb (by kernel_rfl)) (by kernel_rfl)) rfl)) .nil))) (A7 (by kernel_rfl) (by kernel_rfl) trivial) ?_;refine rsB 2 ?_;refine Aq (tn_ ?_);refine wr_ ?_;refine Af ?_;refine Ax h (fun t_ S_=>∃ (l45_m119:Nat),∃ (l45_m18:List (List Int)),t_=(l45_m119,l45_m18)∧S_=⟨Ap [(0,ai a0),(5,.box (oi 0 1) 0),(10,.own (oi 1 1) (.slice .int) 0 y14.length),(16,ai (wI (wI (a1_0+((a1_2.length:Nat):Int))+((a1_3.length:Nat):Int)))),(17,.own (oi 3 1) .int 0 ((y38.take a1_0.toNat).length)),(18,.own (oi 4 1) (.slice .int) 0 l45_m18.length),(117,.own (oi 6 1) (.slice .int) 0 y44.length),(118,ai ((y44.length:Nat):Int)),(119,ai ((l45_m119:Nat):Int))],Aj (Ar [(oi 0 1,.cells 34 [ai a1_0,.tree (.pair .int (.pair .int .int)) a1_1,.tree .int a1_2,.tree .int a1_3]),(oi 1 1,.mat 23 (oi 2 1) .int y14),(oi 2 1,.pool 3 .int y14),(oi 3 1,.arr 3 .int (y38.take a1_0.toNat)),(oi 4 1,.mat 23 (oi 5 1) .int l45_m18),(oi 5 1,.pool 3 .int l45_m18),(oi 6 1,.mat 23 (oi 7 1) .int y44),(oi 7 1,.pool 3 .int y44)]),2⟩) ⟨_,(A9 17 (.own (oi 1712 31) .int 0 a1_0.toNat) (.own (oi 1712 31) .int 0 ((y38.take a1_0.toNat).length)) (by kernel_rfl) (congrArg (fun z_=>((.own (oi 1712 31) .int 0 z_):AV)) ((Agd (by omega)):a1_0.toNat=(y38.take a1_0.toNat).length))).trans ((Pr 18 23 (.slice .int) (by kernel_rfl)).trans ((Gt (e1:=23) (n:=0) 9000 (oi 18 46) 3 .int (by kernel_rfl) (by kernel_rfl) rfl (by kernel_rfl) (by kernel_rfl)).trans (Ac [(oi 3 1,oi 1712 31),(oi 4 1,oi 18 46),(oi 5 1,oi 9000 47),(oi 6 1,oi 1872 43),(oi 7 1,oi 1873 43)]))),⟨0,([]:List (List Int)),rfl,rfl⟩⟩ ?_;rintro n_ _ _ c_ ⟨l45_m119,l45_m18,rfl,rfl⟩ h hn45
  (try dsimp only at h);unfold Bv at h;unfold Iz;refine An ?_;refine Ab ?_;rcases Ae h with ⟨q48,h⟩ | ⟨q48,h⟩
  ·have q48_:=of_decide_eq_true q48;refine Ah q48 ?_;refine Ai (tn_ ?_);refine wr_ ?_;refine Ab ?_;refine Af ?_;refine Ab ?_;obtain ⟨x51,e51,h⟩:=Ad h;refine Aa 6 ?_;refine rs0 (.elt (oi 6 1) l45_m119 0) (zo (t:=.slice .int) (o:=oi 6 1) (len:=y44.length) (k:=.i64) (m:=((l45_m119:Nat):Int)) (At _) (Al e51)) ?_;refine rsl (.own (kid (oi 7 1) l45_m119) .int 0 x51.length) (Bs (o:=oi 6 1) (p:=oi 7 1) (e1:=23) (u:=.int) (xss:=y44) (row:=x51) (j:=l45_m119) (by kernel_rfl) (by kernel_rfl) e51) ?_;refine rsB 1 ?_;refine Aq (tn_ ?_);refine wr_ ?_;obtain ⟨y52,h52,h⟩:=Ad h;obtain ⟨g53,h⟩:=Am h;obtain ⟨g54,h⟩:=Am h;refine Az 18 ?_;refine dz0 (.own (oi 4 1) (.slice .int) 0 l45_m18.length) ?_;refine dz0 (ai a0) ?_;refine dz0 (ai (wI (wI (a1_0+((a1_2.length:Nat):Int))+((a1_3.length:Nat):Int)))) ?_;refine dz0 (.own (oi 1 1) (.slice .int) 0 y14.length) ?_;refine dz0 (.own (kid (oi 7 1) l45_m119) .int 0 x51.length) ?_;refine D4 (.own (oi 2048 11) .int 0 y52.length) [(oi 2048 11,some (.arr 3 .int y52))] [ai a0,ai (wI (wI (a1_0+((a1_2.length:Nat):Int))+((a1_3.length:Nat):Int))),.own (oi 1 1) (.slice .int) 0 y14.length,.own (kid (oi 7 1) l45_m119) .int 0 x51.length] _ (caps:=[]) (args0:=[ai a0,ai (wI (wI (a1_0+((a1_2.length:Nat):Int))+((a1_3.length:Nat):Int))),.tree (.slice .int) y14,.tree .int x51]) trivial (Ay (by kernel_rfl) (Ay (by kernel_rfl) (Ay (M6 (p:=oi 2 1) (e1:=23) (e:=3) (u:=.int) (xss:=y14) (by kernel_rfl) (Aby (t:=.slice .int) (off:=0) (len:=y14.length) (i:=oi 1 1) (e1:=23) (z:=1) (m:=y14.length) 2 rfl (by kernel_rfl) (by kernel_rfl) (Hb (by kernel_rfl))) rfl) (Ay (Bn (e:=3) (u:=.int) (xs:=x51) ((Hk (H5 (t:=.int) (off:=0) (len:=x51.length) 3 rfl (by kernel_rfl))).trans (A0 (by kernel_rfl) e51)) rfl) Cj)))) (Ta h52) S4 ?_;refine dz0 (.box (oi 0 1) 0) ?_;refine dzl (ai a1_0) ?_;refine ds0 (.own (oi 2048 11) .int 0 a1_0.toNat) (Rj (t:=.int) (i:=oi 2048 11) (off:=0) (len:=y52.length) (l:=0) (h:=a1_0) (by kernel_rfl) (by kernel_rfl) (by kernel_rfl) rfl g53 rfl (by omega)) ?_;refine Am1 (.own (oi 132 15) (.slice .int) 0 1) (oi 132 15) (.vec 23 1 1 ([.own (oi 2048 11) .int 0 a1_0.toNat])) trivial (L7 (by kernel_rfl)) ?_;refine ds2 (.own (oi 4 16) (.slice .int) 0 (l45_m18.length+1)) (oi 4 1) (oi 4 16) (.vec 23 1 (l45_m18.length+1) (hdL (oi 5 1) .int l45_m18++[.own (oi 2048 11) .int 0 a1_0.toNat])) (Jf (u:=.int) (t':=.slice .int) (t2:=.slice .int) (o:=oi 4 1) (q:=oi 132 15) (e2:=23) (p:=oi 5 1) (xss:=l45_m18) (cs:=[.own (oi 2048 11) .int 0 a1_0.toNat]) (len:=l45_m18.length) (by kernel_rfl) (by kernel_rfl) rfl (by kernel_rfl) (by kernel_rfl) rfl g54) ?_;refine dz0 (.own (oi 4 16) (.slice .int) 0 (l45_m18.length+1)) ?_;refine Ft (Bd (by kernel_rfl)) (bn_ (tn_ ?_));refine ⟨_,Fb (e1:=23) (e:=3) (u:=.int) (n:=l45_m18.length+1) (len:=a1_0.toNat) (row:=y52.take a1_0.toNat) (ys:=y52) (xss:=l45_m18) 9000 (oi 4 16) (oi 5 1) (oi 2048 11) (by kernel_rfl) (by kernel_rfl) rfl (by kernel_rfl) (by kernel_rfl) (by omega) rfl (by kernel_rfl) (by kernel_rfl) (by kernel_rfl),?_⟩;obtain ⟨g55,h⟩:=Am h;refine Aa 21 ?_;refine rs0 (ai ((l45_m119+1:Nat):Int)) (za g55) ?_;refine rsB 1 ?_;refine Aq (tn_ ?_);obtain rfl:=zj h;exact ⟨(l45_m119+1,l45_m18++[y52.take a1_0.toNat]),_,(A9 18 (.own (oi 4 16) (.slice .int) 0 (l45_m18.length+1)) (.own (oi 4 16) (.slice .int) 0 ((l45_m18++[y52.take a1_0.toNat]).length)) (by kernel_rfl) (congrArg (fun z_=>((.own (oi 4 16) (.slice .int) 0 z_):AV)) ((by simp):l45_m18.length+1=(l45_m18++[y52.take a1_0.toNat]).length))).trans (Ac [(oi 4 1,oi 4 16),(oi 5 1,oi 9000 18)]),⟨l45_m119+1,l45_m18++[y52.take a1_0.toNat],rfl,rfl⟩,hn45⟩
  have q48_:=of_decide_eq_false q48;refine Ag q48 ?_;refine Au (te_ (te_ (be_ (tn_ ?_))));obtain rfl:=zj h;have h:=hn45
  (try dsimp only at h);obtain rfl:=zj h;exact ⟨_,Ac [(oi 1 1,oi 3 1),(oi 2 1,oi 4 1),(oi 3 1,oi 5 1)],rfl⟩
 rintro l41_m18 _ rfl h
 (try dsimp only at h);refine As h (fun (l56_m17:List Int) S_=>S_=⟨Ap [(17,.own (oi 0 1) .int 0 l56_m17.length)],Aj (Ar [(oi 0 1,.arr 3 .int l56_m17)]),2⟩) ?_ ?_
 ·intro v_ h;refine Ab ?_;obtain ⟨y58,h58,h⟩:=Ad h;refine Aa 9 ?_;refine rsB 4 ?_;refine C3 (.own (oi 2224 6) (.slice .int) 0 y58.length) [(oi 2224 6,some (.mat 23 (oi 2225 6) .int y58)),(oi 2225 6,some (.pool 3 .int y58))] [] [ai a0,ai a1_0,.own (oi 2 1) (.slice .int) 0 l41_m18.length] (caps:=[]) trivial (Kn h58) Kh trivial (.cons (.ren (by kernel_rfl)) (.cons (.ren (by kernel_rfl)) (.cons (.gnd (by kernel_rfl) (M6 (p:=oi 3 1) (e1:=23) (e:=3) (u:=.int) (xss:=l41_m18) ((Np (by kernel_rfl) (by kernel_rfl) (by kernel_rfl)).trans (by kernel_rfl)) (Lt (by kernel_rfl) (by kernel_rfl) (Hb (by kernel_rfl)) (by kernel_rfl)) rfl)) .nil))) (A7 (by kernel_rfl) (by kernel_rfl) trivial) ?_;refine rsB 2 ?_;refine Aq (tn_ ?_);refine wr_ ?_;refine Af ?_;refine Ax h (fun t_ S_=>∃ (l59_m141:Nat),∃ (l59_m17:List Int),t_=(l59_m141,l59_m17)∧S_=⟨Ap [(0,ai a0),(17,.own (oi 0 1) .int 0 l59_m17.length),(139,.own (oi 1 1) (.slice .int) 0 y58.length),(140,ai ((y58.length:Nat):Int)),(141,ai ((l59_m141:Nat):Int))],Aj (Ar [(oi 0 1,.arr 3 .int l59_m17),(oi 1 1,.mat 23 (oi 2 1) .int y58),(oi 2 1,.pool 3 .int y58)]),2⟩) ⟨_,Ac [(oi 0 1,oi 1 1),(oi 1 1,oi 2224 6),(oi 2 1,oi 2225 6)],⟨0,y38.take a1_0.toNat,rfl,rfl⟩⟩ ?_;rintro n_ _ _ c_ ⟨l59_m141,l59_m17,rfl,rfl⟩ h hn59
  (try dsimp only at h);unfold Cc at h;unfold I6;refine An ?_;refine Ab ?_;rcases Ae h with ⟨q62,h⟩ | ⟨q62,h⟩
  ·have q62_:=of_decide_eq_true q62;refine Ah q62 ?_;refine Ai (tn_ ?_);refine wr_ ?_;refine Ab ?_;refine Af ?_;refine Ab ?_;obtain ⟨x65,e65,h⟩:=Ad h;refine Aa 6 ?_;refine rs0 (.elt (oi 1 1) l59_m141 0) (zo (t:=.slice .int) (o:=oi 1 1) (len:=y58.length) (k:=.i64) (m:=((l59_m141:Nat):Int)) (At _) (Al e65)) ?_;refine rsl (.own (kid (oi 2 1) l59_m141) .int 0 x65.length) (Bs (o:=oi 1 1) (p:=oi 2 1) (e1:=23) (u:=.int) (xss:=y58) (row:=x65) (j:=l59_m141) (by kernel_rfl) (by kernel_rfl) e65) ?_;refine rsB 1 ?_;refine Aq (tn_ ?_);refine wr_ ?_;obtain ⟨y66,h66,h⟩:=Ad h;obtain ⟨x67,f67,h⟩:=Ad h;obtain ⟨p67,b67,e67⟩:=Bi f67;obtain ⟨y68,h68,h⟩:=Ad h;obtain ⟨g69,h⟩:=Am h;refine Aa 15 ?_;refine rz0 (ai a0) ?_;refine rz0 (.own (oi 0 1) .int 0 l59_m17.length) ?_;refine rz0 (.own (kid (oi 2 1) l59_m141) .int 0 x65.length) ?_;refine rz0 (.own (oi 0 1) .int 0 l59_m17.length) ?_;refine rz0 (.own (kid (oi 2 1) l59_m141) .int 0 x65.length) ?_;refine B9 (ai y66) [] [.own (kid (oi 2 1) l59_m141) .int 0 x65.length] _ (caps:=[]) (args0:=[.tree .int x65]) trivial (Ay (Bn (e:=3) (u:=.int) (xs:=x65) (A0 (by kernel_rfl) e65) rfl) Cj) (J2 h66) J0 ?_;refine rs0 (.elt (oi 0 1) y66.toNat 0) (zo (t:=.int) (o:=oi 0 1) (len:=l59_m17.length) (k:=.i64) (m:=y66) p67 (Al e67)) ?_;refine rsl (ai x67) (Ed (i:=oi 0 1) (j:=y66.toNat) (k:=0) (e:=3) (t:=.int) (xs:=l59_m17) (by kernel_rfl) (by kernel_rfl) e67 (by kernel_rfl)) ?_;refine C3 (.tup []) [(oi 0 1,some (.arr 3 .int y68)),(oi 0 1,none)] [(oi 0 0,oi 0 1)] [ai a0,.own (oi 0 1) .int 0 l59_m17.length,.own (kid (oi 2 1) l59_m141) .int 0 x65.length,ai x67] (caps:=[]) trivial (H0 h68 rfl) H1 ⟨by kernel_rfl,trivial⟩ (.cons (.ren (by kernel_rfl)) (.cons (.ren (by kernel_rfl)) (.cons (.gnd (by kernel_rfl) (Bn (e:=3) (u:=.int) (xs:=x65) ((R8 (L:=[oi 0 1]) (by kernel_rfl) ⟨Afg rfl,trivial⟩).trans (A0 (by kernel_rfl) e65)) rfl)) (.cons (.ren (by kernel_rfl)) .nil)))) (A7 (by kernel_rfl) (by kernel_rfl) ⟨B2 (by kernel_rfl),trivial⟩) ?_;refine Aq (bn_ (tn_ ?_));refine wr_ ?_;obtain ⟨g70,h⟩:=Am h;refine Aa 17 ?_;refine rs0 (ai ((l59_m141+1:Nat):Int)) (za g70) ?_;refine rsB 1 ?_;refine Aq (tn_ ?_);obtain rfl:=zj h;exact ⟨(l59_m141+1,y68),_,(A9 17 (.own (oi 0 1) .int 0 l59_m17.length) (.own (oi 0 1) .int 0 y68.length) (by kernel_rfl) (congrArg (fun z_=>((.own (oi 0 1) .int 0 z_):AV)) (g69.symm:l59_m17.length=y68.length))).trans (Ac []),⟨l59_m141+1,y68,rfl,rfl⟩,hn59⟩
  have q62_:=of_decide_eq_false q62;refine Ag q62 ?_;refine Au (te_ (te_ (be_ (tn_ ?_))));obtain rfl:=zj h;have h:=hn59
  (try dsimp only at h);obtain rfl:=zj h;exact ⟨_,Ac [],rfl⟩
 rintro l56_m17 _ rfl h
 (try dsimp only at h);refine Ab ?_;obtain ⟨y72,h72,h⟩:=Ad h;refine Aa 6 ?_;refine rsB 1 ?_;refine B9 (.own (oi 2496 3) .int 0 y72.length) [(oi 2496 3,some (.arr 3 .int y72))] [.own (oi 0 1) .int 0 l56_m17.length] _ (caps:=[]) (args0:=[.tree .int l56_m17]) trivial (Ay (Bn (e:=3) (by kernel_rfl) rfl) Cj) (Hc h72) Iu ?_;refine rsB 2 ?_;refine Aq (tn_ ?_);refine wr_ ?_;refine Ao ?_;obtain rfl:=zj h;exact Br [.own (oi 2496 3) .int 0 y72.length,.bool true] (A8 rfl (Kb (by kernel_rfl) rfl) (A8 rfl zl Bc))
def I2:AC :=
 (.seq (rg [xo 112 (qb .lss (tm 111) (tm 110))])
 (.seq (.cond (tm 112)
  .skip
  (.exit 4))
 (.seq (.block 5 (.seq (rg [xo 113 (qm (tm 111)),xo 114 (qx 1 (tm 109) (tm 111)),xo 115 (ql (tm 114)),xo 18 (qm (tm 113)),xo 19 (qm (tm 115))])
 (.region [xo 116 (qm (tm 13)),xo 117 (qf 0 (tm 5)),xo 118 (ql (tm 117)),xo 119 (qm (tm 19)),xo 120 (qm (tm 3)),xo 121 (qm (tm 18)),xo 122 (qx 1 (tm 120) (tm 121)),xo 123 (ql (tm 122)),xo 124 (qc 52 [tm 118,tm 119,tm 123] [[],[],[]]),xo 125 (.mkV 23 (.slice .int) 1 [tm 124]),xo 126 (.appV 23 (.slice .int) 24 (tm 116) (tm 125)),xo 13 (qm (tm 126))] true [])))
 (rg [xo 127 (qb .add (tm 111) (ci 1)),xo 111 (qm (tm 127))]))))
def I1:AC :=
 (.seq (rg [xo 92 (qb .lss (tm 91) (tm 90))])
 (.seq (.cond (tm 92)
  .skip
  (.exit 2))
 (.seq (.block 3 (.seq (rg [xo 93 (qm (tm 91)),xo 94 (qx 1 (tm 89) (tm 91)),xo 95 (ql (tm 94)),xo 16 (qm (tm 93)),xo 17 (qm (tm 95))])
 (.region [xo 96 (qm (tm 13)),xo 97 (qf 0 (tm 5)),xo 98 (ql (tm 97)),xo 99 (qm (tm 17)),xo 100 (qm (tm 2)),xo 101 (qm (tm 16)),xo 102 (qx 1 (tm 100) (tm 101)),xo 103 (ql (tm 102)),xo 104 (qc 52 [tm 98,tm 99,tm 103] [[],[],[]]),xo 105 (.mkV 23 (.slice .int) 1 [tm 104]),xo 106 (.appV 23 (.slice .int) 24 (tm 96) (tm 105)),xo 13 (qm (tm 106))] true [])))
 (rg [xo 107 (qb .add (tm 91) (ci 1)),xo 91 (qm (tm 107))]))))
def Ix:AC :=
 (.seq (rg [xo 64 (qb .lss (tm 63) (tm 62))])
 (.seq (.cond (tm 64)
  .skip
  (.exit 0))
 (.seq (.block 1 (.seq (rg [xo 65 (qx 1 (tm 61) (tm 63)),xo 66 (ql (tm 65)),xo 15 (qm (tm 66))])
 (.region [xo 67 (qm (tm 13)),xo 68 (qm (tm 15)),xo 69 (qf 0 (tm 5)),xo 70 (ql (tm 69)),xo 71 (.slice 1 (tm 68) none (some (tm 70)) none),xo 72 (qc 49 [tm 71] [[some .int]]),xo 73 (qm (tm 0)),xo 74 (qm (tm 0)),xo 75 (qm (tm 12)),xo 76 (qm (tm 15)),xo 77 (qf 0 (tm 5)),xo 78 (ql (tm 77)),xo 79 (.slice 1 (tm 76) (some (tm 78)) none none),xo 80 (qc 51 [tm 74,tm 75,tm 79] [[],[some .int],[some .int]]),xo 81 (.i (.neg (tm 80))),xo 82 (qc 50 [tm 73,tm 81] [[],[]]),xo 83 (.mkS 3 .int [tm 82]),xo 84 (.append 3 .int 8 (tm 72) (tm 83)),xo 85 (.mkV 23 (.slice .int) 1 [tm 84]),xo 86 (.appV 23 (.slice .int) 24 (tm 67) (tm 85)),xo 13 (qm (tm 86))] true [(5,11)])))
 (rg [xo 87 (qb .add (tm 63) (ci 1)),xo 63 (qm (tm 87))]))))
def J8:AC :=
 (.seq (rg [xo 5 (.i (.box 34 (tm 1))),xo 8 (qm (.cst .nils)),xo 9 (qm (cb false))])
 (.seq (.seq (rg [xo 20 (qm (tm 0)),xo 21 (.i (.ld false 4 (tm 5))),⟨some 22,none,qc 25 [tm 20,tm 21] [[],[none,some (.pair .int (.pair .int .int)),some .int,some .int]]⟩,xo 23 (.i (.not (tm 22))),xo 24 (qm (tm 23)),⟨some 25,some (24,false),qm (tm 0)⟩,⟨some 26,some (24,false),qm (tm 2)⟩,⟨some 27,some (24,false),qf 2 (tm 5)⟩,⟨some 28,some (24,false),ql (tm 27)⟩,⟨some 29,some (24,false),.i (.len (tm 28))⟩,⟨some 30,some (24,false),qb .mul (ci 2) (tm 29)⟩,⟨some 31,some (24,false),qc 48 [tm 25,tm 26,tm 30] [[],[some .int],[]]⟩,⟨some 32,some (24,false),.i (.not (tm 31))⟩,xo 33 (.i (.pick (tm 24) (cb true) (tm 32))),xo 34 (qm (tm 33)),⟨some 35,some (34,false),qm (tm 0)⟩,⟨some 36,some (34,false),qm (tm 3)⟩,⟨some 37,some (34,false),qf 3 (tm 5)⟩,⟨some 38,some (34,false),ql (tm 37)⟩,⟨some 39,some (34,false),.i (.len (tm 38))⟩,⟨some 40,some (34,false),qb .mul (ci 2) (tm 39)⟩,⟨some 41,some (34,false),qc 48 [tm 35,tm 36,tm 40] [[],[some .int],[]]⟩,⟨some 42,some (34,false),.i (.not (tm 41))⟩,xo 43 (.i (.pick (tm 34) (cb true) (tm 42)))])
 (.cond (tm 43)
  (.seq (rg [xo 8 (qm (.cst .nils)),xo 9 (qm (cb false))])
  .ret)
  .skip))
 (.seq (.region [xo 44 (qf 2 (tm 5)),xo 45 (ql (tm 44)),xo 46 (.i (.len (tm 45))),xo 47 (qf 3 (tm 5)),xo 48 (ql (tm 47)),xo 49 (.i (.len (tm 48))),xo 10 (qm (tm 46)),xo 11 (qm (tm 49))] true [])
 (.seq (.region [xo 50 (qm (tm 2)),xo 51 (qm (tm 10)),xo 52 (.slice 1 (tm 50) (some (tm 51)) none none),xo 53 (qm (tm 3)),xo 54 (qm (tm 11)),xo 55 (.slice 1 (tm 53) (some (tm 54)) none none),xo 56 (.mkV 23 (.slice .int) 1 [tm 52,tm 55]),xo 57 (qc 26 [tm 56] [[some (.slice .int)]]),xo 12 (qm (tm 57))] true [])
 (.seq (rg [xo 58 (.mkV 23 (.slice .int) 1 []),xo 13 (qm (tm 58))])
 (.seq (.seq (rg [xo 59 (.i (.ld false 4 (tm 5))),xo 60 (qm (tm 0)),⟨some 61,none,qc 29 [tm 59,tm 60] [[none,some (.pair .int (.pair .int .int)),some .int,some .int],[]]⟩,xo 62 (.i (.len (tm 61))),xo 63 (qm (ci 0))])
 (.block 0 (.loop Ix)))
 (.seq (.seq (rg [xo 88 (qf 2 (tm 5)),xo 89 (ql (tm 88)),xo 90 (.i (.len (tm 89))),xo 91 (qm (ci 0))])
 (.block 2 (.loop I1)))
 (.seq (.seq (rg [xo 108 (qf 3 (tm 5)),xo 109 (ql (tm 108)),xo 110 (.i (.len (tm 109))),xo 111 (qm (ci 0))])
 (.block 4 (.loop I2)))
 (.seq (rg [xo 128 (qm (tm 0)),xo 129 (qm (tm 13)),xo 130 (qf 0 (tm 5)),xo 131 (ql (tm 130)),xo 132 (qc 53 [tm 128,tm 129,tm 131] [[],[some (.slice .int)],[]]),xo 133 (.i (.extr 0 (tm 132))),xo 134 (.i (.extr 1 (tm 132))),xo 8 (qm (tm 133)),xo 9 (qm (tm 134))])
 .ret)))))))))
def Q2:List Res:=[.tmp 8,.tmp 9]
theorem Ra:Aw Tryd.prog Tryd.f16=some (J8,Q2):=by kernel_rfl
theorem Jy:A6 Tryd.prog 16=true:=by kernel_rfl
def Bp (y19:List (List Int)) (a1_0:Int) (a0:Int) (y15:List Int) (l20_m63:Nat) (l20_m13:List (List Int)):Option (Ctl (Nat×List (List Int)) (List (List Int))) :=
 cond (decide (((l20_m63:Nat):Int)<((y19.length:Nat):Int)))
 (Option.bind (y19[l20_m63]?) fun x26 =>
 og ((0:Int)<=0∧0<=a1_0∧a1_0<=((x26.length:Nat):Int)) <|
 Option.bind (Ie (x26.take a1_0.toNat)) fun y28 =>
 og ((0:Int)<=a1_0∧a1_0<=((x26.length:Nat):Int)∧((x26.length:Nat):Int)<=((x26.length:Nat):Int)) <|
 Option.bind (Mm a0 y15 ((x26.drop a1_0.toNat).take ((((x26.length:Nat):Int) - a1_0).toNat))) fun y30 =>
 Option.bind (E3 a0 (wI (0 - y30))) fun y31 =>
 og (y28.length+1<=1073741824∧(y28.length+1)*8<=140737488355328) <|
 og (l20_m13.length+1<=1073741824∧(l20_m13.length+1)*24<=140737488355328) <|
 og (l20_m63+1<4611686018427387904) <|
 some (Ctl.next (l20_m63+1,l20_m13++[y28++([y31])])))
 (some (Ctl.out l20_m13))
def Bw (a1_2:List Int) (a2:List Int) (a1_0:Int) (l37_m91:Nat) (l37_m13:List (List Int)):Option (Ctl (Nat×List (List Int)) (List (List Int))) :=
 cond (decide (((l37_m91:Nat):Int)<((a1_2.length:Nat):Int)))
 (Option.bind (a1_2[l37_m91]?) fun x43 =>
 Option.bind (a2[l37_m91]?) fun x44 =>
 Option.bind (If a1_0 x43 x44) fun y45 =>
 og (l37_m13.length+1<=1073741824∧(l37_m13.length+1)*24<=140737488355328) <|
 og (l37_m91+1<4611686018427387904) <|
 some (Ctl.next (l37_m91+1,l37_m13++[y45])))
 (some (Ctl.out l37_m13))
def Bx (a1_3:List Int) (a3:List Int) (a1_0:Int) (l50_m111:Nat) (l50_m13:List (List Int)):Option (Ctl (Nat×List (List Int)) (List (List Int))) :=
 cond (decide (((l50_m111:Nat):Int)<((a1_3.length:Nat):Int)))
 (Option.bind (a1_3[l50_m111]?) fun x56 =>
 Option.bind (a3[l50_m111]?) fun x57 =>
 Option.bind (If a1_0 x56 x57) fun y58 =>
 og (l50_m13.length+1<=1073741824∧(l50_m13.length+1)*24<=140737488355328) <|
 og (l50_m111+1<4611686018427387904) <|
 some (Ctl.next (l50_m111+1,l50_m13++[y58])))
 (some (Ctl.out l50_m13))
def Cn (a0:Int) (a1_0:Int) (a1_1:List (Int×Int×Int)) (a1_2:List Int) (a1_3:List Int) (a2:List Int) (a3:List Int):Option (List Int×Bool) :=
 Option.bind (Option.bind (Gd a0 a1_0 a1_1 a1_2 a1_3) fun y4 =>
 cond (!y4)
  (some true)
  (Option.bind (Fa a0 a2 (wI (2*((a1_2.length:Nat):Int)))) fun y6 =>
  cond (!y6)
   (some true)
   (Option.bind (Fa a0 a3 (wI (2*((a1_3.length:Nat):Int)))) fun y8 =>
   some (!y8)))) fun l3_m43 =>
cond l3_m43
 (some ([],false))
 (og ((0:Int)<=((a1_2.length:Nat):Int)∧((a1_2.length:Nat):Int)<=((a2.length:Nat):Int)∧((a2.length:Nat):Int)<=((a2.length:Nat):Int)∧((a2.length:Nat):Int)<=((a2.length:Nat):Int)) <|
 og ((0:Int)<=((a1_3.length:Nat):Int)∧((a1_3.length:Nat):Int)<=((a3.length:Nat):Int)∧((a3.length:Nat):Int)<=((a3.length:Nat):Int)∧((a3.length:Nat):Int)<=((a3.length:Nat):Int)) <|
 Option.bind (Ef ([a2.drop a1_2.length,a3.drop a1_3.length])) fun y15 =>
 Option.bind (Option.bind (B0 a1_0 a1_1 a1_2 a1_3 a0) fun y19 =>
  Av (fun s_:Nat×List (List Int)=>Bp y19 a1_0 a0 y15 s_.1 s_.2) 4611686018427387904 (0,([]:List (List Int)))) fun l17_m13 =>
 Option.bind (Av (fun s_:Nat×List (List Int)=>Bw a1_2 a2 a1_0 s_.1 s_.2) 4611686018427387904 (0,l17_m13)) fun l35_m13 =>
 Option.bind (Av (fun s_:Nat×List (List Int)=>Bx a1_3 a3 a1_0 s_.1 s_.2) 4611686018427387904 (0,l35_m13)) fun l48_m13 =>
 Option.bind (Cl a0 l48_m13 a1_0) fun y62 =>
 some (y62.1,y62.2))
def P0 (r:List Int×Bool):RV:=⟨true,[(false,[.new 3 .int r.1]),(false,[.sc (.bool r.2)])]⟩
set_option maxHeartbeats 1600000 in
theorem J6 {a0:Int} {a1_0:Int} {a1_1:List (Int×Int×Int)} {a1_2:List Int} {a1_3:List Int} {a2:List Int} {a3:List Int} {r:List Int×Bool} (h:Cn a0 a1_0 a1_1 a1_2 a1_3 a2 a3=some r):Bm Tryd.prog Tab 16 [ai a0,.agg [ai a1_0,.tree (.pair .int (.pair .int .int)) a1_1,.tree .int a1_2,.tree .int a1_3],.tree .int a2,.tree .int a3] (P0 r):=by
 refine Ba (by kernel_rfl) Tryd.func16 Ra (n:=135) (by kernel_rfl) (by simp) (tl:=[(0,ai a0),(1,.agg [ai a1_0,.tree (.pair .int (.pair .int .int)) a1_1,.tree .int a1_2,.tree .int a1_3]),(2,.tree .int a2),(3,.tree .int a3)]) rfl ?_;unfold J8;unfold Cn at h;refine An ?_;refine Ab ?_;refine As h (fun (l3_m43:Bool) S_=>S_=⟨Ap [(0,ai a0),(2,.tree .int a2),(3,.tree .int a3),(5,.box (oi 0 1) 0),(43,.bool l3_m43)],Aj (Ar [(oi 0 1,.cells 34 [ai a1_0,.tree (.pair .int (.pair .int .int)) a1_1,.tree .int a1_2,.tree .int a1_3])]),2⟩) ?_ ?_
 ·intro v_ h;obtain ⟨y4,h4,h⟩:=Ad h;rcases Ae h with ⟨q5,h⟩ | ⟨q5,h⟩
  ·refine Aa 28 ?_;refine rz0 (ai a0) ?_;refine rzl (.agg [ai a1_0,.tree (.pair .int (.pair .int .int)) a1_1,.tree .int a1_2,.tree .int a1_3]) ?_;refine zc (.bool y4) [] [ai a0,.agg [ai a1_0,.tree (.pair .int (.pair .int .int)) a1_1,.tree .int a1_2,.tree .int a1_3]] (J1 h4) ?_;refine rz0 (.bool (!y4)) ?_;refine rz0 (.bool (!y4)) ?_;refine zs q5 ?_;refine zs q5 ?_;refine zs q5 ?_;refine zs q5 ?_;refine zs q5 ?_;refine zs q5 ?_;refine zs q5 ?_;refine zs q5 ?_;refine rs0 (.bool true) (zT q5) ?_;refine rsB 10 ?_;refine Aq (tn_ ?_);obtain rfl:=zj h;exact ⟨_,Ac [(oi 0 1,oi 5 1)],rfl⟩
  obtain ⟨y6,h6,h⟩:=Ad h;rcases Ae h with ⟨q7,h⟩ | ⟨q7,h⟩
  ·refine Aa 28 ?_;refine rz0 (ai a0) ?_;refine rzl (.agg [ai a1_0,.tree (.pair .int (.pair .int .int)) a1_1,.tree .int a1_2,.tree .int a1_3]) ?_;refine zc (.bool y4) [] [ai a0,.agg [ai a1_0,.tree (.pair .int (.pair .int .int)) a1_1,.tree .int a1_2,.tree .int a1_3]] (J1 h4) ?_;refine rz0 (.bool (!y4)) ?_;refine rz0 (.bool (!y4)) ?_;refine rs0 (ai a0) (zg q5) ?_;refine rs0 (.tree .int a2) (zg q5) ?_;refine rs0 (.box (oi 5 1) 2) (zg q5) ?_;refine rsl (.tree .int a1_2) (zg q5) ?_;refine rs0 (ai ((a1_2.length:Nat):Int)) (zg q5) ?_;refine rs0 (ai (wI (2*((a1_2.length:Nat):Int)))) (zg q5) ?_;refine B9 (.bool y6) [] [ai a0,.tree .int a2,ai (wI (2*((a1_2.length:Nat):Int)))] _ (caps:=[]) (args0:=[ai a0,.tree .int a2,ai (wI (2*((a1_2.length:Nat):Int)))]) (C9 (by kernel_rfl) q5) (by kernel_rfl) (Ke h6) Kj ?_;refine rs0 (.bool (!y6)) (zg q5) ?_;refine rs0 (.bool (!y6)) (zF q5) ?_;refine rz0 (.bool (!y6)) ?_;refine zs q7 ?_;refine zs q7 ?_;refine zs q7 ?_;refine zs q7 ?_;refine zs q7 ?_;refine zs q7 ?_;refine zs q7 ?_;refine zs q7 ?_;refine rs0 (.bool true) (zT q7) ?_;refine Aq (tn_ ?_);obtain rfl:=zj h;exact ⟨_,Ac [(oi 0 1,oi 5 1)],rfl⟩
  obtain ⟨y8,h8,h⟩:=Ad h;refine Aa 28 ?_;refine rz0 (ai a0) ?_;refine rzl (.agg [ai a1_0,.tree (.pair .int (.pair .int .int)) a1_1,.tree .int a1_2,.tree .int a1_3]) ?_;refine zc (.bool y4) [] [ai a0,.agg [ai a1_0,.tree (.pair .int (.pair .int .int)) a1_1,.tree .int a1_2,.tree .int a1_3]] (J1 h4) ?_;refine rz0 (.bool (!y4)) ?_;refine rz0 (.bool (!y4)) ?_;refine rs0 (ai a0) (zg q5) ?_;refine rs0 (.tree .int a2) (zg q5) ?_;refine rs0 (.box (oi 5 1) 2) (zg q5) ?_;refine rsl (.tree .int a1_2) (zg q5) ?_;refine rs0 (ai ((a1_2.length:Nat):Int)) (zg q5) ?_;refine rs0 (ai (wI (2*((a1_2.length:Nat):Int)))) (zg q5) ?_;refine B9 (.bool y6) [] [ai a0,.tree .int a2,ai (wI (2*((a1_2.length:Nat):Int)))] _ (caps:=[]) (args0:=[ai a0,.tree .int a2,ai (wI (2*((a1_2.length:Nat):Int)))]) (C9 (by kernel_rfl) q5) (by kernel_rfl) (Ke h6) Kj ?_;refine rs0 (.bool (!y6)) (zg q5) ?_;refine rs0 (.bool (!y6)) (zF q5) ?_;refine rz0 (.bool (!y6)) ?_;refine rs0 (ai a0) (zg q7) ?_;refine rs0 (.tree .int a3) (zg q7) ?_;refine rs0 (.box (oi 5 1) 3) (zg q7) ?_;refine rsl (.tree .int a1_3) (zg q7) ?_;refine rs0 (ai ((a1_3.length:Nat):Int)) (zg q7) ?_;refine rs0 (ai (wI (2*((a1_3.length:Nat):Int)))) (zg q7) ?_;refine B9 (.bool y8) [] [ai a0,.tree .int a3,ai (wI (2*((a1_3.length:Nat):Int)))] _ (caps:=[]) (args0:=[ai a0,.tree .int a3,ai (wI (2*((a1_3.length:Nat):Int)))]) (C9 (by kernel_rfl) q7) (by kernel_rfl) (Ke h8) Kj ?_;refine rs0 (.bool (!y8)) (zg q7) ?_;refine rs0 (.bool (!y8)) (zF q7) ?_;refine Aq (tn_ ?_);obtain rfl:=zj h;exact ⟨_,Ac [(oi 0 1,oi 5 1)],rfl⟩
 rintro l3_m43 _ rfl h
 (try dsimp only at h);rcases Ae h with ⟨q9,h⟩ | ⟨q9,h⟩
 ·refine Ah q9 ?_;refine An ?_;refine Ao (tr_ ?_);obtain rfl:=zj h;exact Br [.nils,.bool false] (A8 rfl (Agv rfl) (A8 rfl zl Bc))
 refine Ag q9 ?_;refine Ai (tn_ ?_);refine wr_ ?_;refine Ab ?_;refine Az 10 ?_;refine dsB 8 ?_;refine Ft (Bd (by kernel_rfl)) (tn_ ?_);refine wr_ ?_;refine Ab ?_;obtain ⟨g13,h⟩:=Am h;obtain ⟨g14,h⟩:=Am h;obtain ⟨y15,h15,h⟩:=Ad h;refine Az 19 ?_;refine dz0 (.tree .int a2) ?_;refine dz0 (ai ((a1_2.length:Nat):Int)) ?_;refine ds0 (.tree .int (a2.drop a1_2.length)) (Vg (t:=.int) (xs:=a2) (zs:=a2.drop a1_2.length) (l:=((a1_2.length:Nat):Int)) (h:=((a2.length:Nat):Int)) (m:=((a2.length:Nat):Int)) (by kernel_rfl) (by kernel_rfl) (by kernel_rfl) (by kernel_rfl) rfl g13 (by first | (rw [show ((a2.length:Nat):Int).toNat=a2.length from rfl,List.take_length]; done) | (rw [show ((a2.length:Nat):Int).toNat=a2.length from rfl,List.take_length]; rfl))) ?_;refine dz0 (.tree .int a3) ?_;refine dz0 (ai ((a1_3.length:Nat):Int)) ?_;refine ds0 (.tree .int (a3.drop a1_3.length)) (Vg (t:=.int) (xs:=a3) (zs:=a3.drop a1_3.length) (l:=((a1_3.length:Nat):Int)) (h:=((a3.length:Nat):Int)) (m:=((a3.length:Nat):Int)) (by kernel_rfl) (by kernel_rfl) (by kernel_rfl) (by kernel_rfl) rfl g14 (by first | (rw [show ((a3.length:Nat):Int).toNat=a3.length from rfl,List.take_length]; done) | (rw [show ((a3.length:Nat):Int).toNat=a3.length from rfl,List.take_length]; rfl))) ?_;refine dsU (.tree (.slice .int) ([a2.drop a1_2.length,a3.drop a1_3.length])) [] (Asm (t:=.int) (yss:=[a2.drop a1_2.length,a3.drop a1_3.length]) (Vb (t:=.int) (c:=.tree .int (a2.drop a1_2.length)) (ys:=a2.drop a1_2.length) (by kernel_rfl) Ln (Vb (t:=.int) (c:=.tree .int (a3.drop a1_3.length)) (ys:=a3.drop a1_3.length) (by kernel_rfl) Ln Al9)) (by kernel_rfl)) ?_;refine D4 (.own (oi 912 17) .int 0 y15.length) [(oi 912 17,some (.arr 3 .int y15))] [.tree (.slice .int) ([a2.drop a1_2.length,a3.drop a1_3.length])] _ (caps:=[]) (args0:=[.tree (.slice .int) ([a2.drop a1_2.length,a3.drop a1_3.length])]) trivial (by kernel_rfl) (R3 h15) Abn ?_;refine dz0 (.own (oi 912 17) .int 0 y15.length) ?_;refine Ft (Bd (by kernel_rfl)) (tn_ ?_);refine wr_ ?_;refine Ab ?_;refine Aa 21 ?_;refine Afp (.own (oi 58 19) (.slice .int) 0 0) (oi 58 19) (.vec 23 1 0 []) trivial (L7 (by kernel_rfl)) ?_;refine rsB 1 ?_;refine Aq (tn_ ?_);refine ⟨_,Gt (e1:=23) (n:=0) 9000 (oi 58 19) 3 .int (by kernel_rfl) (by kernel_rfl) rfl (by kernel_rfl) (by kernel_rfl),?_⟩;refine As h (fun (l17_m13:List (List Int)) S_=>S_=⟨Ap [(0,ai a0),(2,.tree .int a2),(3,.tree .int a3),(5,.box (oi 0 1) 0),(13,.own (oi 1 1) (.slice .int) 0 l17_m13.length)],Aj (Ar [(oi 0 1,.cells 34 [ai a1_0,.tree (.pair .int (.pair .int .int)) a1_1,.tree .int a1_2,.tree .int a1_3]),(oi 1 1,.mat 23 (oi 2 1) .int l17_m13),(oi 2 1,.pool 3 .int l17_m13)]),2⟩) ?_ ?_
 ·intro v_ h;refine Ab ?_;obtain ⟨y19,h19,h⟩:=Ad h;refine Aa 27 ?_;refine rsB 2 ?_;refine C3 (.own (oi 976 24) (.slice .int) 0 y19.length) [(oi 976 24,some (.mat 23 (oi 977 24) .int y19)),(oi 977 24,some (.pool 3 .int y19))] [] [.agg [ai a1_0,.tree (.pair .int (.pair .int .int)) a1_1,.tree .int a1_2,.tree .int a1_3],ai a0] (caps:=[]) trivial (N2 h19) N4 trivial (.cons (.ren (by kernel_rfl)) (.cons (.ren (by kernel_rfl)) .nil)) (A7 (by kernel_rfl) (by kernel_rfl) trivial) ?_;refine rsB 2 ?_;refine Aq (tn_ ?_);refine wr_ ?_;refine Af ?_;refine Ax h (fun t_ S_=>∃ (l20_m63:Nat),∃ (l20_m13:List (List Int)),t_=(l20_m63,l20_m13)∧S_=⟨Ap [(0,ai a0),(2,.tree .int a2),(3,.tree .int a3),(5,.box (oi 0 1) 0),(12,.own (oi 1 1) .int 0 y15.length),(13,.own (oi 2 1) (.slice .int) 0 l20_m13.length),(61,.own (oi 4 1) (.slice .int) 0 y19.length),(62,ai ((y19.length:Nat):Int)),(63,ai ((l20_m63:Nat):Int))],Aj (Ar [(oi 0 1,.cells 34 [ai a1_0,.tree (.pair .int (.pair .int .int)) a1_1,.tree .int a1_2,.tree .int a1_3]),(oi 1 1,.arr 3 .int y15),(oi 2 1,.mat 23 (oi 3 1) .int l20_m13),(oi 3 1,.pool 3 .int l20_m13),(oi 4 1,.mat 23 (oi 5 1) .int y19),(oi 5 1,.pool 3 .int y19)]),2⟩) ⟨_,Ac [(oi 1 1,oi 912 17),(oi 2 1,oi 58 19),(oi 3 1,oi 9000 21),(oi 4 1,oi 976 24),(oi 5 1,oi 977 24)],⟨0,([]:List (List Int)),rfl,rfl⟩⟩ ?_;rintro n_ _ _ c_ ⟨l20_m63,l20_m13,rfl,rfl⟩ h hn20
  (try dsimp only at h);unfold Bp at h;unfold Ix;refine An ?_;refine Ab ?_;rcases Ae h with ⟨q23,h⟩ | ⟨q23,h⟩
  ·have q23_:=of_decide_eq_true q23;refine Ah q23 ?_;refine Ai (tn_ ?_);refine wr_ ?_;refine Ab ?_;refine Af ?_;refine Ab ?_;obtain ⟨x26,e26,h⟩:=Ad h;refine Aa 6 ?_;refine rs0 (.elt (oi 4 1) l20_m63 0) (zo (t:=.slice .int) (o:=oi 4 1) (len:=y19.length) (k:=.i64) (m:=((l20_m63:Nat):Int)) (At _) (Al e26)) ?_;refine rsl (.own (kid (oi 5 1) l20_m63) .int 0 x26.length) (Bs (o:=oi 4 1) (p:=oi 5 1) (e1:=23) (u:=.int) (xss:=y19) (row:=x26) (j:=l20_m63) (by kernel_rfl) (by kernel_rfl) e26) ?_;refine rsB 1 ?_;refine Aq (tn_ ?_);refine wr_ ?_;obtain ⟨g27,h⟩:=Am h;obtain ⟨y28,h28,h⟩:=Ad h;obtain ⟨g29,h⟩:=Am h;obtain ⟨y30,h30,h⟩:=Ad h;obtain ⟨y31,h31,h⟩:=Ad h;obtain ⟨g32,h⟩:=Am h;obtain ⟨g33,h⟩:=Am h;refine Az 27 ?_;refine dz0 (.own (oi 2 1) (.slice .int) 0 l20_m13.length) ?_;refine dz0 (.own (kid (oi 5 1) l20_m63) .int 0 x26.length) ?_;refine dz0 (.box (oi 0 1) 0) ?_;refine dzl (ai a1_0) ?_;refine ds0 (.own (kid (oi 5 1) l20_m63) .int 0 a1_0.toNat) (Rj (t:=.int) (i:=kid (oi 5 1) l20_m63) (off:=0) (len:=x26.length) (l:=0) (h:=a1_0) (by kernel_rfl) (by kernel_rfl) (by kernel_rfl) rfl g27 rfl (by omega)) ?_;refine D4 (.own (oi 1152 11) .int 0 y28.length) [(oi 1152 11,some (.arr 3 .int y28))] [.own (kid (oi 5 1) l20_m63) .int 0 a1_0.toNat] _ (caps:=[]) (args0:=[.tree .int (x26.take a1_0.toNat)]) trivial (Ay (Aq4 (e:=3) (u:=.int) (xs:=x26) ((Hk (H5 (t:=.int) (off:=0) (len:=a1_0.toNat) 0 rfl (by kernel_rfl))).trans (A0 (by kernel_rfl) e26)) (by omega)) Cj) (Tk h28) Acp ?_;refine dz0 (ai a0) ?_;refine dz0 (ai a0) ?_;refine dz0 (.own (oi 1 1) .int 0 y15.length) ?_;refine dz0 (.own (kid (oi 5 1) l20_m63) .int 0 x26.length) ?_;refine dz0 (.box (oi 0 1) 0) ?_;refine dzl (ai a1_0) ?_;refine ds0 (.own (kid (oi 5 1) l20_m63) .int a1_0.toNat ((((x26.length:Nat):Int) - a1_0).toNat)) (Rj (t:=.int) (i:=kid (oi 5 1) l20_m63) (off:=0) (len:=x26.length) (l:=a1_0) (h:=((x26.length:Nat):Int)) (by kernel_rfl) (by kernel_rfl) (by kernel_rfl) rfl g29 (Nat.zero_add _) (by omega)) ?_;refine D4 (ai y30) [] [ai a0,.own (oi 1 1) .int 0 y15.length,.own (kid (oi 5 1) l20_m63) .int a1_0.toNat ((((x26.length:Nat):Int) - a1_0).toNat)] _ (caps:=[]) (args0:=[ai a0,.tree .int y15,.tree .int ((x26.drop a1_0.toNat).take ((((x26.length:Nat):Int) - a1_0).toNat))]) trivial (Ay (by kernel_rfl) (Ay (Bn (e:=3) (by kernel_rfl) rfl) (Ay (Atm (e:=3) (u:=.int) (xs:=x26) ((Hk (H5 (t:=.int) (off:=a1_0.toNat) (len:=(((x26.length:Nat):Int) - a1_0).toNat) 2 rfl (by kernel_rfl))).trans (A0 (by kernel_rfl) e26)) (by omega) rfl) Cj))) (Ahu h30) Ah6 ?_;refine dz0 (ai (wI (0 - y30))) ?_;refine D4 (ai y31) [] [ai a0,ai (wI (0 - y30))] _ (caps:=[]) (args0:=[ai a0,ai (wI (0 - y30))]) trivial (by kernel_rfl) (Hw h31) K7 ?_;refine ds1 (.own (oi 83 22) .int 0 1) (oi 83 22) (.arr 3 .int ([y31])) (by kernel_rfl) ?_;refine ds2 (.own (oi 1152 23) .int 0 ((y28++([y31])).length)) (oi 1152 11) (oi 1152 23) (.arr 3 .int (y28++([y31]))) (It (t:=.int) (t':=.int) (xs:=y28) (ys:=[y31]) (zs:=y28++([y31])) (j:=oi 1152 11) (len:=y28.length) (c:=.own (oi 83 22) .int 0 1) (by kernel_rfl) (by kernel_rfl) rfl (by kernel_rfl) (Me (e:=3) (by kernel_rfl) rfl) rfl g32) ?_;refine Am1 (.own (oi 85 24) (.slice .int) 0 1) (oi 85 24) (.vec 23 1 1 ([.own (oi 1152 23) .int 0 ((y28++([y31])).length)])) trivial (L7 (by kernel_rfl)) ?_;refine ds2 (.own (oi 2 25) (.slice .int) 0 (l20_m13.length+1)) (oi 2 1) (oi 2 25) (.vec 23 1 (l20_m13.length+1) (hdL (oi 3 1) .int l20_m13++[.own (oi 1152 23) .int 0 ((y28++([y31])).length)])) (Jf (u:=.int) (t':=.slice .int) (t2:=.slice .int) (o:=oi 2 1) (q:=oi 85 24) (e2:=23) (p:=oi 3 1) (xss:=l20_m13) (cs:=[.own (oi 1152 23) .int 0 ((y28++([y31])).length)]) (len:=l20_m13.length) (by kernel_rfl) (by kernel_rfl) rfl (by kernel_rfl) (by kernel_rfl) rfl g33) ?_;refine dz0 (.own (oi 2 25) (.slice .int) 0 (l20_m13.length+1)) ?_;refine Ft (Bd (by kernel_rfl)) (bn_ (tn_ ?_));refine ⟨_,Fb (e1:=23) (e:=3) (u:=.int) (n:=l20_m13.length+1) (len:=(y28++([y31])).length) (row:=y28++([y31])) (ys:=y28++([y31])) (xss:=l20_m13) 9000 (oi 2 25) (oi 3 1) (oi 1152 23) (by kernel_rfl) (by kernel_rfl) rfl (by kernel_rfl) (by kernel_rfl) (Pf rfl) (Oo rfl) (by kernel_rfl) (by kernel_rfl) (by kernel_rfl),?_⟩;obtain ⟨g34,h⟩:=Am h;refine Aa 30 ?_;refine rs0 (ai ((l20_m63+1:Nat):Int)) (za g34) ?_;refine rsB 1 ?_;refine Aq (tn_ ?_);obtain rfl:=zj h;exact ⟨(l20_m63+1,l20_m13++[y28++([y31])]),_,(A9 13 (.own (oi 2 25) (.slice .int) 0 (l20_m13.length+1)) (.own (oi 2 25) (.slice .int) 0 ((l20_m13++[y28++([y31])]).length)) (by kernel_rfl) (congrArg (fun z_=>((.own (oi 2 25) (.slice .int) 0 z_):AV)) ((by simp):l20_m13.length+1=(l20_m13++[y28++([y31])]).length))).trans (Ac [(oi 2 1,oi 2 25),(oi 3 1,oi 9000 27)]),⟨l20_m63+1,l20_m13++[y28++([y31])],rfl,rfl⟩,hn20⟩
  have q23_:=of_decide_eq_false q23;refine Ag q23 ?_;refine Au (te_ (te_ (be_ (tn_ ?_))));obtain rfl:=zj h;have h:=hn20
  (try dsimp only at h);obtain rfl:=zj h;exact ⟨_,Ac [(oi 1 1,oi 2 1),(oi 2 1,oi 3 1)],rfl⟩
 rintro l17_m13 _ rfl h
 (try dsimp only at h);refine As h (fun (l35_m13:List (List Int)) S_=>S_=⟨Ap [(0,ai a0),(3,.tree .int a3),(5,.box (oi 0 1) 0),(13,.own (oi 1 1) (.slice .int) 0 l35_m13.length)],Aj (Ar [(oi 0 1,.cells 34 [ai a1_0,.tree (.pair .int (.pair .int .int)) a1_1,.tree .int a1_2,.tree .int a1_3]),(oi 1 1,.mat 23 (oi 2 1) .int l35_m13),(oi 2 1,.pool 3 .int l35_m13)]),2⟩) ?_ ?_
 ·intro v_ h;refine An ?_;refine Af ?_;refine Ax h (fun t_ S_=>∃ (l37_m91:Nat),∃ (l37_m13:List (List Int)),t_=(l37_m91,l37_m13)∧S_=⟨Ap [(0,ai a0),(2,.tree .int a2),(3,.tree .int a3),(5,.box (oi 0 1) 0),(13,.own (oi 1 1) (.slice .int) 0 l37_m13.length),(89,.tree .int a1_2),(90,ai ((a1_2.length:Nat):Int)),(91,ai ((l37_m91:Nat):Int))],Aj (Ar [(oi 0 1,.cells 34 [ai a1_0,.tree (.pair .int (.pair .int .int)) a1_1,.tree .int a1_2,.tree .int a1_3]),(oi 1 1,.mat 23 (oi 2 1) .int l37_m13),(oi 2 1,.pool 3 .int l37_m13)]),2⟩) ⟨_,Ac [],⟨0,l17_m13,rfl,rfl⟩⟩ ?_;rintro n_ _ _ c_ ⟨l37_m91,l37_m13,rfl,rfl⟩ h hn37
  (try dsimp only at h);unfold Bw at h;unfold I1;refine An ?_;refine Ab ?_;rcases Ae h with ⟨q40,h⟩ | ⟨q40,h⟩
  ·have q40_:=of_decide_eq_true q40;refine Ah q40 ?_;refine Ai (tn_ ?_);refine wr_ ?_;refine Ab ?_;refine Af ?_;refine Ab ?_;obtain ⟨x43,e43,h⟩:=Ad h;refine Aa 8 ?_;refine rsB 1 ?_;refine rs0 (.telt .int x43 0) (zi (t:=.int) (xs:=a1_2) (k:=.i64) (m:=((l37_m91:Nat):Int)) (At _) e43) ?_;refine rsB 3 ?_;refine Aq (tn_ ?_);refine wr_ ?_;obtain ⟨x44,e44,h⟩:=Ad h;obtain ⟨y45,h45,h⟩:=Ad h;obtain ⟨g46,h⟩:=Am h;refine Az 20 ?_;refine dz0 (.own (oi 1 1) (.slice .int) 0 l37_m13.length) ?_;refine dz0 (.box (oi 0 1) 0) ?_;refine dzl (ai a1_0) ?_;refine dz0 (ai x43) ?_;refine dz0 (.tree .int a2) ?_;refine dz0 (ai ((l37_m91:Nat):Int)) ?_;refine ds0 (.telt .int x44 0) (zi (t:=.int) (xs:=a2) (k:=.i64) (m:=((l37_m91:Nat):Int)) (At _) e44) ?_;refine dz0 (ai x44) ?_;refine D4 (.own (oi 1664 16) .int 0 y45.length) [(oi 1664 16,some (.arr 3 .int y45))] [ai a1_0,ai x43,ai x44] _ (caps:=[]) (args0:=[ai a1_0,ai x43,ai x44]) trivial (by kernel_rfl) (Tc h45) Tl ?_;refine Am1 (.own (oi 105 17) (.slice .int) 0 1) (oi 105 17) (.vec 23 1 1 ([.own (oi 1664 16) .int 0 y45.length])) trivial (L7 (by kernel_rfl)) ?_;refine ds2 (.own (oi 1 18) (.slice .int) 0 (l37_m13.length+1)) (oi 1 1) (oi 1 18) (.vec 23 1 (l37_m13.length+1) (hdL (oi 2 1) .int l37_m13++[.own (oi 1664 16) .int 0 y45.length])) (Jf (u:=.int) (t':=.slice .int) (t2:=.slice .int) (o:=oi 1 1) (q:=oi 105 17) (e2:=23) (p:=oi 2 1) (xss:=l37_m13) (cs:=[.own (oi 1664 16) .int 0 y45.length]) (len:=l37_m13.length) (by kernel_rfl) (by kernel_rfl) rfl (by kernel_rfl) (by kernel_rfl) rfl g46) ?_;refine dz0 (.own (oi 1 18) (.slice .int) 0 (l37_m13.length+1)) ?_;refine Ft (Bd (by kernel_rfl)) (bn_ (tn_ ?_));refine ⟨_,Fb (e1:=23) (e:=3) (u:=.int) (n:=l37_m13.length+1) (len:=y45.length) (row:=y45) (ys:=y45) (xss:=l37_m13) 9000 (oi 1 18) (oi 2 1) (oi 1664 16) (by kernel_rfl) (by kernel_rfl) rfl (by kernel_rfl) (by kernel_rfl) (Pf rfl) (Oo rfl) (by kernel_rfl) (by kernel_rfl) (by kernel_rfl),?_⟩;obtain ⟨g47,h⟩:=Am h;refine Aa 23 ?_;refine rs0 (ai ((l37_m91+1:Nat):Int)) (za g47) ?_;refine rsB 1 ?_;refine Aq (tn_ ?_);obtain rfl:=zj h;exact ⟨(l37_m91+1,l37_m13++[y45]),_,(A9 13 (.own (oi 1 18) (.slice .int) 0 (l37_m13.length+1)) (.own (oi 1 18) (.slice .int) 0 ((l37_m13++[y45]).length)) (by kernel_rfl) (congrArg (fun z_=>((.own (oi 1 18) (.slice .int) 0 z_):AV)) ((by simp):l37_m13.length+1=(l37_m13++[y45]).length))).trans (Ac [(oi 1 1,oi 1 18),(oi 2 1,oi 9000 20)]),⟨l37_m91+1,l37_m13++[y45],rfl,rfl⟩,hn37⟩
  have q40_:=of_decide_eq_false q40;refine Ag q40 ?_;refine Au (te_ (te_ (be_ (tn_ ?_))));obtain rfl:=zj h;have h:=hn37
  (try dsimp only at h);obtain rfl:=zj h;exact ⟨_,Ac [],rfl⟩
 rintro l35_m13 _ rfl h
 (try dsimp only at h);refine As h (fun (l48_m13:List (List Int)) S_=>S_=⟨Ap [(0,ai a0),(5,.box (oi 0 1) 0),(13,.own (oi 1 1) (.slice .int) 0 l48_m13.length)],Aj (Ar [(oi 0 1,.cells 34 [ai a1_0,.tree (.pair .int (.pair .int .int)) a1_1,.tree .int a1_2,.tree .int a1_3]),(oi 1 1,.mat 23 (oi 2 1) .int l48_m13),(oi 2 1,.pool 3 .int l48_m13)]),2⟩) ?_ ?_
 ·intro v_ h;refine An ?_;refine Af ?_;refine Ax h (fun t_ S_=>∃ (l50_m111:Nat),∃ (l50_m13:List (List Int)),t_=(l50_m111,l50_m13)∧S_=⟨Ap [(0,ai a0),(3,.tree .int a3),(5,.box (oi 0 1) 0),(13,.own (oi 1 1) (.slice .int) 0 l50_m13.length),(109,.tree .int a1_3),(110,ai ((a1_3.length:Nat):Int)),(111,ai ((l50_m111:Nat):Int))],Aj (Ar [(oi 0 1,.cells 34 [ai a1_0,.tree (.pair .int (.pair .int .int)) a1_1,.tree .int a1_2,.tree .int a1_3]),(oi 1 1,.mat 23 (oi 2 1) .int l50_m13),(oi 2 1,.pool 3 .int l50_m13)]),2⟩) ⟨_,Ac [],⟨0,l35_m13,rfl,rfl⟩⟩ ?_;rintro n_ _ _ c_ ⟨l50_m111,l50_m13,rfl,rfl⟩ h hn50
  (try dsimp only at h);unfold Bx at h;unfold I2;refine An ?_;refine Ab ?_;rcases Ae h with ⟨q53,h⟩ | ⟨q53,h⟩
  ·have q53_:=of_decide_eq_true q53;refine Ah q53 ?_;refine Ai (tn_ ?_);refine wr_ ?_;refine Ab ?_;refine Af ?_;refine Ab ?_;obtain ⟨x56,e56,h⟩:=Ad h;refine Aa 8 ?_;refine rsB 1 ?_;refine rs0 (.telt .int x56 0) (zi (t:=.int) (xs:=a1_3) (k:=.i64) (m:=((l50_m111:Nat):Int)) (At _) e56) ?_;refine rsB 3 ?_;refine Aq (tn_ ?_);refine wr_ ?_;obtain ⟨x57,e57,h⟩:=Ad h;obtain ⟨y58,h58,h⟩:=Ad h;obtain ⟨g59,h⟩:=Am h;refine Az 20 ?_;refine dz0 (.own (oi 1 1) (.slice .int) 0 l50_m13.length) ?_;refine dz0 (.box (oi 0 1) 0) ?_;refine dzl (ai a1_0) ?_;refine dz0 (ai x56) ?_;refine dz0 (.tree .int a3) ?_;refine dz0 (ai ((l50_m111:Nat):Int)) ?_;refine ds0 (.telt .int x57 0) (zi (t:=.int) (xs:=a3) (k:=.i64) (m:=((l50_m111:Nat):Int)) (At _) e57) ?_;refine dz0 (ai x57) ?_;refine D4 (.own (oi 1984 16) .int 0 y58.length) [(oi 1984 16,some (.arr 3 .int y58))] [ai a1_0,ai x56,ai x57] _ (caps:=[]) (args0:=[ai a1_0,ai x56,ai x57]) trivial (by kernel_rfl) (Tc h58) Tl ?_;refine Am1 (.own (oi 125 17) (.slice .int) 0 1) (oi 125 17) (.vec 23 1 1 ([.own (oi 1984 16) .int 0 y58.length])) trivial (L7 (by kernel_rfl)) ?_;refine ds2 (.own (oi 1 18) (.slice .int) 0 (l50_m13.length+1)) (oi 1 1) (oi 1 18) (.vec 23 1 (l50_m13.length+1) (hdL (oi 2 1) .int l50_m13++[.own (oi 1984 16) .int 0 y58.length])) (Jf (u:=.int) (t':=.slice .int) (t2:=.slice .int) (o:=oi 1 1) (q:=oi 125 17) (e2:=23) (p:=oi 2 1) (xss:=l50_m13) (cs:=[.own (oi 1984 16) .int 0 y58.length]) (len:=l50_m13.length) (by kernel_rfl) (by kernel_rfl) rfl (by kernel_rfl) (by kernel_rfl) rfl g59) ?_;refine dz0 (.own (oi 1 18) (.slice .int) 0 (l50_m13.length+1)) ?_;refine Ft (Bd (by kernel_rfl)) (bn_ (tn_ ?_));refine ⟨_,Fb (e1:=23) (e:=3) (u:=.int) (n:=l50_m13.length+1) (len:=y58.length) (row:=y58) (ys:=y58) (xss:=l50_m13) 9000 (oi 1 18) (oi 2 1) (oi 1984 16) (by kernel_rfl) (by kernel_rfl) rfl (by kernel_rfl) (by kernel_rfl) (Pf rfl) (Oo rfl) (by kernel_rfl) (by kernel_rfl) (by kernel_rfl),?_⟩;obtain ⟨g60,h⟩:=Am h;refine Aa 23 ?_;refine rs0 (ai ((l50_m111+1:Nat):Int)) (za g60) ?_;refine rsB 1 ?_;refine Aq (tn_ ?_);obtain rfl:=zj h;exact ⟨(l50_m111+1,l50_m13++[y58]),_,(A9 13 (.own (oi 1 18) (.slice .int) 0 (l50_m13.length+1)) (.own (oi 1 18) (.slice .int) 0 ((l50_m13++[y58]).length)) (by kernel_rfl) (congrArg (fun z_=>((.own (oi 1 18) (.slice .int) 0 z_):AV)) ((by simp):l50_m13.length+1=(l50_m13++[y58]).length))).trans (Ac [(oi 1 1,oi 1 18),(oi 2 1,oi 9000 20)]),⟨l50_m111+1,l50_m13++[y58],rfl,rfl⟩,hn50⟩
  have q53_:=of_decide_eq_false q53;refine Ag q53 ?_;refine Au (te_ (te_ (be_ (tn_ ?_))));obtain rfl:=zj h;have h:=hn50
  (try dsimp only at h);obtain rfl:=zj h;exact ⟨_,Ac [],rfl⟩
 rintro l48_m13 _ rfl h
 (try dsimp only at h);refine Ab ?_;obtain ⟨y62,h62,h⟩:=Ad h;refine Aa 11 ?_;refine rsB 4 ?_;refine B9 (.tup [.own (oi 2112 6) .int 0 y62.1.length,.bool y62.2]) [(oi 2112 6,some (.arr 3 .int y62.1))] [ai a0,.own (oi 1 1) (.slice .int) 0 l48_m13.length,ai a1_0] _ (caps:=[]) (args0:=[ai a0,.tree (.slice .int) l48_m13,ai a1_0]) trivial (Ay (by kernel_rfl) (Ay (M6 (p:=oi 2 1) (e1:=23) (e:=3) (u:=.int) (xss:=l48_m13) (by kernel_rfl) (Hb (by kernel_rfl)) rfl) (Ay (by kernel_rfl) Cj))) (Q5 h62) Q9 ?_;refine rsB 4 ?_;refine Aq (tn_ ?_);refine wr_ ?_;refine Ao ?_;obtain rfl:=zj h;exact Br [.own (oi 2112 6) .int 0 y62.1.length,.bool y62.2] (A8 rfl (Kb (by kernel_rfl) rfl) (A8 rfl zl Bc))
def G0:AC :=
 (.seq (rg [xo 5 (.i (.box 25 (tm 1))),xo 8 (qm (cb false))])
 (.seq (.seq (rg [xo 22 (qm (tm 2)),xo 23 (.i (.len (tm 22))),xo 24 (qb .gtr (tm 23) (ci 1048576))])
 (.cond (tm 24)
  (.seq (rg [xo 8 (qm (cb true))])
  .ret)
  .skip))
 (.seq (.seq (rg [xo 25 (qm (tm 3)),xo 26 (.i (.len (tm 25))),xo 27 (qb .gtr (tm 26) (ci 1048576))])
 (.cond (tm 27)
  (.seq (rg [xo 8 (qm (cb true))])
  .ret)
  .skip))
 (.seq (rg [xo 9 (qm (ci 1048576))])
 (.seq (rg [xo 28 (.i (.ld false 4 (tm 5))),xo 29 (qm (tm 9)),⟨some 30,none,qc 5 [tm 28,tm 29] [[none,some (.pair .int (.pair .int .int)),some .int,some .int],[]]⟩,xo 9 (qm (tm 30))])
 (.seq (.seq (rg [xo 31 (qm (tm 9)),xo 32 (qb .lss (tm 31) (ci 0))])
 (.cond (tm 32)
  (.seq (rg [xo 8 (qm (cb true))])
  .ret)
  .skip))
 (.seq (rg [xo 34 (qm (tm 0)),xo 35 (.i (.ld false 4 (tm 5))),⟨some 36,none,qc 7 [tm 35] [[none,some (.pair .int (.pair .int .int)),some .int,some .int]]⟩,xo 37 (qm (tm 2)),xo 38 (qc 15 [tm 37] [[some .int]]),xo 39 (qm (tm 3)),xo 40 (qc 15 [tm 39] [[some .int]]),⟨some 41,none,qc 14 [tm 34,tm 36,tm 38,tm 40] [[],[none,some (.pair .int (.pair .int .int)),some .int,some .int],[some .int],[some .int]]⟩,xo 33 (qm (tm 41)),xo 42 (.i (.extr 0 (tm 33))),xo 43 (.i (.extr 1 (tm 33))),xo 10 (qm (tm 42)),xo 11 (qm (tm 43))])
 (.seq (rg [xo 44 (.i (.ld false 4 (tm 5))),⟨some 45,none,qc 7 [tm 44] [[none,some (.pair .int (.pair .int .int)),some .int,some .int]]⟩,xo 12 (.i (.alloc 34 [.int .i64 0,.nils,.nils,.nils])),xn (.st false 4 (tm 12) (tm 45))])
 (.seq (rg [xo 46 (qm (tm 2)),xo 47 (qc 15 [tm 46] [[some .int]]),xo 13 (qm (tm 47))])
 (.seq (rg [xo 48 (qm (tm 3)),xo 49 (qc 15 [tm 48] [[some .int]]),xo 14 (qm (tm 49))])
 (.seq (rg [xo 51 (qm (tm 0)),xo 52 (.i (.ld false 4 (tm 12))),xo 53 (qm (tm 13)),xo 54 (qm (tm 14)),⟨some 55,none,qc 16 [tm 51,tm 52,tm 53,tm 54] [[],[none,some (.pair .int (.pair .int .int)),some .int,some .int],[some .int],[some .int]]⟩,xo 50 (qm (tm 55)),xo 56 (.i (.extr 0 (tm 50))),xo 57 (.i (.extr 1 (tm 50))),xo 15 (qm (tm 56)),xo 16 (qm (tm 57))])
 (.seq (.seq (rg [xo 58 (qm (tm 15)),xo 59 (qm (tm 10)),xo 60 (qc 17 [tm 58,tm 59] [[some .int],[some .int]]),xo 61 (.i (.not (tm 60))),xo 62 (qm (tm 61)),⟨some 63,some (62,false),qm (tm 16)⟩,⟨some 64,some (62,false),qm (tm 11)⟩,⟨some 65,some (62,false),.i (.cmp true 0 (tm 63) (tm 64))⟩,xo 66 (.i (.pick (tm 62) (cb true) (tm 65)))])
 (.cond (tm 66)
  (.seq (rg [xo 8 (qm (cb false))])
  .ret)
  .skip))
 (.seq (.seq (.region [xo 67 (.i (.ld false 4 (tm 12))),xo 68 (.i (.ld false 4 (tm 5))),⟨some 69,none,qc 7 [tm 68] [[none,some (.pair .int (.pair .int .int)),some .int,some .int]]⟩,⟨some 70,none,qc 10 [tm 67,tm 69] [[none,some (.pair .int (.pair .int .int)),some .int,some .int],[none,some (.pair .int (.pair .int .int)),some .int,some .int]]⟩,xo 71 (.i (.not (tm 70)))] true [(0,2)])
 (.cond (tm 71)
  (.seq (rg [xo 8 (qm (cb false))])
  .ret)
  .skip))
 (.seq (.seq (rg [xo 72 (qm (tm 13)),xo 73 (qm (tm 2)),xo 74 (qc 15 [tm 73] [[some .int]]),xo 75 (qc 17 [tm 72,tm 74] [[some .int],[some .int]]),xo 76 (.i (.not (tm 75)))])
 (.cond (tm 76)
  (.seq (rg [xo 8 (qm (cb false))])
  .ret)
  .skip))
 (.seq (.seq (rg [xo 77 (qm (tm 14)),xo 78 (qm (tm 3)),xo 79 (qc 15 [tm 78] [[some .int]]),xo 80 (qc 17 [tm 77,tm 79] [[some .int],[some .int]]),xo 81 (.i (.not (tm 80)))])
 (.cond (tm 81)
  (.seq (rg [xo 8 (qm (cb false))])
  .ret)
  .skip))
 (.seq (rg [xo 17 (qm (ci 1))])
 (.seq (rg [xo 82 (.i (.ld false 4 (tm 12))),xo 83 (qm (tm 17)),⟨some 84,none,qc 11 [tm 82,tm 83] [[none,some (.pair .int (.pair .int .int)),some .int,some .int],[]]⟩,xo 17 (qm (tm 84))])
 (.seq (rg [xo 85 (qm (tm 13)),xo 86 (qm (tm 17)),xo 87 (qc 18 [tm 85,tm 86] [[some .int],[]]),xo 17 (qm (tm 87))])
 (.seq (rg [xo 88 (qm (tm 14)),xo 89 (qm (tm 17)),xo 90 (qc 18 [tm 88,tm 89] [[some .int],[]]),xo 17 (qm (tm 90))])
 (.seq (.seq (rg [xo 91 (qm (tm 17)),xo 92 (qb .lss (tm 91) (ci 0)),xo 93 (qm (tm 92)),⟨some 94,some (93,false),qm (tm 15)⟩,⟨some 95,some (93,false),qm (tm 10)⟩,⟨some 96,some (93,false),qc 17 [tm 94,tm 95] [[some .int],[some .int]]⟩,⟨some 97,some (93,false),.i (.not (tm 96))⟩,xo 98 (.i (.pick (tm 93) (cb true) (tm 97))),xo 99 (qm (tm 98)),⟨some 100,some (99,false),qm (tm 16)⟩,⟨some 101,some (99,false),qm (tm 11)⟩,⟨some 102,some (99,false),.i (.cmp true 0 (tm 100) (tm 101))⟩,xo 103 (.i (.pick (tm 99) (cb true) (tm 102)))])
 (.cond (tm 103)
  (.seq (rg [xo 8 (qm (cb false))])
  .ret)
  .skip))
 (.seq (rg [xo 18 (qm (ci 1))])
 (.seq (rg [xo 104 (qm (tm 15)),xo 105 (qm (tm 18)),xo 106 (qc 18 [tm 104,tm 105] [[some .int],[]]),xo 18 (qm (tm 106))])
 (.seq (rg [xo 19 (qm (ci 1))])
 (.seq (rg [xo 107 (qm (tm 15)),xo 108 (qm (tm 19)),xo 109 (qc 19 [tm 107,tm 108] [[some .int],[]]),xo 19 (qm (tm 109))])
 (.seq (.seq (rg [xo 110 (qm (tm 19)),xo 111 (qb .lss (tm 110) (ci 0))])
 (.cond (tm 111)
  (.seq (rg [xo 8 (qm (cb false))])
  .ret)
  .skip))
 (.seq (.seq (rg [xo 112 (qm (tm 19)),xo 113 (qm (tm 18)),xo 114 (qb .neq (tm 112) (tm 113))])
 (.cond (tm 114)
  (.seq (rg [xo 8 (qm (cb false))])
  .ret)
  .skip))
 (.seq (rg [xo 116 (qm (tm 0)),xo 117 (.i (.ld false 4 (tm 5))),⟨some 118,none,qc 7 [tm 117] [[none,some (.pair .int (.pair .int .int)),some .int,some .int]]⟩,xo 119 (qm (tm 2)),xo 120 (qc 15 [tm 119] [[some .int]]),xo 121 (qm (tm 3)),xo 122 (qc 15 [tm 121] [[some .int]]),⟨some 123,none,qc 16 [tm 116,tm 118,tm 120,tm 122] [[],[none,some (.pair .int (.pair .int .int)),some .int,some .int],[some .int],[some .int]]⟩,xo 115 (qm (tm 123)),xo 124 (.i (.extr 0 (tm 115))),xo 125 (.i (.extr 1 (tm 115))),xo 20 (qm (tm 124)),xo 21 (qm (tm 125))])
 (.seq (.seq (rg [xo 126 (qm (tm 20)),xo 127 (qm (tm 10)),xo 128 (qc 17 [tm 126,tm 127] [[some .int],[some .int]]),xo 129 (.i (.not (tm 128))),xo 130 (qm (tm 129)),⟨some 131,some (130,false),qm (tm 21)⟩,⟨some 132,some (130,false),qm (tm 11)⟩,⟨some 133,some (130,false),.i (.cmp true 0 (tm 131) (tm 132))⟩,xo 134 (.i (.pick (tm 130) (cb true) (tm 133)))])
 (.cond (tm 134)
  (.seq (rg [xo 8 (qm (cb false))])
  .ret)
  .skip))
 (.seq (rg [xo 19 (qm (ci 1))])
 (.seq (rg [xo 135 (qm (tm 15)),xo 136 (qm (tm 19)),xo 137 (qc 19 [tm 135,tm 136] [[some .int],[]]),xo 19 (qm (tm 137))])
 (.seq (.seq (rg [xo 138 (qm (tm 19)),xo 139 (qb .lss (tm 138) (ci 0))])
 (.cond (tm 139)
  (.seq (rg [xo 8 (qm (cb false))])
  .ret)
  .skip))
 (.seq (.seq (rg [xo 140 (qm (tm 19)),xo 141 (qm (tm 18)),xo 142 (qb .neq (tm 140) (tm 141))])
 (.cond (tm 142)
  (.seq (rg [xo 8 (qm (cb false))])
  .ret)
  .skip))
 (.seq (rg [xo 8 (qm (cb true))])
 .ret)))))))))))))))))))))))))))))))))
def Lc:List Res:=[.tmp 8]
theorem La:Aw Tryd.prog Tryd.f4=some (G0,Lc):=by kernel_rfl
def Cb (a0:Int) (a1_0:Int) (a1_1:List (Int×Int×Int)) (a1_2:List Int) (a1_3:List Int) (a2:List Int) (a3:List Int):Option Bool :=
 cond (decide (1048576<((a2.length:Nat):Int)))
 (some true)
 (cond (decide (1048576<((a3.length:Nat):Int)))
  (some true)
  (Option.bind (Gb a1_0 a1_1 a1_2 a1_3 1048576) fun y12 =>
  cond (decide (y12<0))
   (some true)
   (Option.bind (C7 a1_0 a1_1 a1_2 a1_3) fun y18 =>
   Option.bind (B5 a2) fun y19 =>
   Option.bind (B5 a3) fun y20 =>
   Option.bind (Dm a0 y18.1 y18.2.1 y18.2.2.1 y18.2.2.2 y19 y20) fun y21 =>
   Option.bind (C7 a1_0 a1_1 a1_2 a1_3) fun y23 =>
   Option.bind (B5 a2) fun y25 =>
   Option.bind (B5 a3) fun y27 =>
   Option.bind (Cn a0 y23.1 y23.2.1 y23.2.2.1 y23.2.2.2 y25 y27) fun y29 =>
   Option.bind (Option.bind (Co y29.1 y21.1) fun y32 =>
    cond (!y32)
     (some true)
     (some (y29.2 !=y21.2))) fun l31_m66 =>
   cond l31_m66
    (some false)
    (Option.bind (C7 a1_0 a1_1 a1_2 a1_3) fun y38 =>
    Option.bind (Gi y23.1 y23.2.1 y23.2.2.1 y23.2.2.2 y38.1 y38.2.1 y38.2.2.1 y38.2.2.2) fun y39 =>
    cond (!y39)
     (some false)
     (Option.bind (B5 a2) fun y44 =>
     Option.bind (Co y25 y44) fun y45 =>
     cond (!y45)
      (some false)
      (Option.bind (B5 a3) fun y50 =>
      Option.bind (Co y27 y50) fun y51 =>
      cond (!y51)
       (some false)
       (Option.bind (Ey y23.1 y23.2.1 y23.2.2.1 y23.2.2.2 1) fun y56 =>
       og (y56.1.length=y23.2.1.length) <|
       og (y56.2.1.length=y23.2.2.1.length) <|
       og (y56.2.2.1.length=y23.2.2.2.length) <|
       Option.bind (Cu y25 y56.2.2.2) fun y61 =>
       og (y61.1.length=y25.length) <|
       Option.bind (Cu y27 y61.2) fun y64 =>
       og (y64.1.length=y27.length) <|
       Option.bind (cond (decide (y64.2<0))
         (some true)
         (Option.bind (Co y29.1 y21.1) fun y69 =>
         cond (!y69)
          (some true)
          (some (y29.2 !=y21.2)))) fun l67_m103 =>
       cond l67_m103
        (some false)
        (Option.bind (Cu y29.1 1) fun y75 =>
        og (y75.1.length=y29.1.length) <|
        Option.bind (E8 y75.1 1) fun y79 =>
        cond (decide (y79<0))
         (some false)
         (cond (y79 !=y75.2)
          (some false)
          (Option.bind (C7 a1_0 a1_1 a1_2 a1_3) fun y89 =>
          Option.bind (B5 a2) fun y90 =>
          Option.bind (B5 a3) fun y91 =>
          Option.bind (Cn a0 y89.1 y89.2.1 y89.2.2.1 y89.2.2.2 y90 y91) fun y92 =>
          Option.bind (Option.bind (Co y92.1 y21.1) fun y95 =>
           cond (!y95)
            (some true)
            (some (y92.2 !=y21.2))) fun l94_m134 =>
          cond l94_m134
           (some false)
           (Option.bind (E8 y75.1 1) fun y101 =>
           cond (decide (y101<0))
            (some false)
            (cond (y101 !=y75.2)
             (some false)
             (some true)))))))))))))
def K2 (r:Bool):RV:=⟨false,[(false,[.sc (.bool r)])]⟩
set_option maxHeartbeats 1600000 in
theorem K1 {a0:Int} {a1_0:Int} {a1_1:List (Int×Int×Int)} {a1_2:List Int} {a1_3:List Int} {a2:List Int} {a3:List Int} {r:Bool} (h:Cb a0 a1_0 a1_1 a1_2 a1_3 a2 a3=some r):Bm Tryd.prog Tab 4 [ai a0,.agg [ai a1_0,.tree (.pair .int (.pair .int .int)) a1_1,.tree .int a1_2,.tree .int a1_3],.tree .int a2,.tree .int a3] (K2 r):=by
 refine Ba (by kernel_rfl) Tryd.func4 La (n:=143) (by kernel_rfl) (by simp) (tl:=[(0,ai a0),(1,.agg [ai a1_0,.tree (.pair .int (.pair .int .int)) a1_1,.tree .int a1_2,.tree .int a1_3]),(2,.tree .int a2),(3,.tree .int a3)]) rfl ?_;unfold G0;unfold Cb at h;refine An ?_;refine Ab ?_;refine An ?_;rcases Ae h with ⟨q4,h⟩ | ⟨q4,h⟩
 ·have q4_:=of_decide_eq_true q4;refine Ah q4 ?_;refine An ?_;refine Ao (tr_ ?_);obtain rfl:=zj h;exact Br [.bool true] (A8 rfl zl Bc)
 have q4_:=of_decide_eq_false q4;refine Ag q4 ?_;refine Ai (tn_ ?_);refine wr_ ?_;refine Ab ?_;refine An ?_;rcases Ae h with ⟨q8,h⟩ | ⟨q8,h⟩
 ·have q8_:=of_decide_eq_true q8;refine Ah q8 ?_;refine An ?_;refine Ao (tr_ ?_);obtain rfl:=zj h;exact Br [.bool true] (A8 rfl zl Bc)
 have q8_:=of_decide_eq_false q8;refine Ag q8 ?_;refine Ai (tn_ ?_);refine wr_ ?_;refine An ?_;refine Ab ?_;obtain ⟨y12,h12,h⟩:=Ad h;refine Aa 14 ?_;refine rsB 2 ?_;refine zc (ai y12) [] [.agg [ai a1_0,.tree (.pair .int (.pair .int .int)) a1_1,.tree .int a1_2,.tree .int a1_3],ai 1048576] (Vq h12) ?_;refine rsB 1 ?_;refine Aq (tn_ ?_);refine wr_ ?_;refine Ab ?_;refine An ?_;rcases Ae h with ⟨q15,h⟩ | ⟨q15,h⟩
 ·have q15_:=of_decide_eq_true q15;refine Ah q15 ?_;refine An ?_;refine Ao (tr_ ?_);obtain rfl:=zj h;exact Br [.bool true] (A8 rfl zl Bc)
 have q15_:=of_decide_eq_false q15;refine Ag q15 ?_;refine Ai (tn_ ?_);refine wr_ ?_;refine Ab ?_;obtain ⟨y18,h18,h⟩:=Ad h;obtain ⟨y19,h19,h⟩:=Ad h;obtain ⟨y20,h20,h⟩:=Ad h;obtain ⟨y21,h21,h⟩:=Ad h;refine Aa 29 ?_;refine rz0 (ai a0) ?_;refine rzl (.agg [ai a1_0,.tree (.pair .int (.pair .int .int)) a1_1,.tree .int a1_2,.tree .int a1_3]) ?_;refine zc (.agg [ai y18.1,.own (oi 576 18) (.pair .int (.pair .int .int)) 0 y18.2.1.length,.own (oi 577 18) .int 0 y18.2.2.1.length,.own (oi 578 18) .int 0 y18.2.2.2.length]) [(oi 576 18,some (.arr 81 (.pair .int (.pair .int .int)) y18.2.1)),(oi 577 18,some (.arr 3 .int y18.2.2.1)),(oi 578 18,some (.arr 3 .int y18.2.2.2))] [.agg [ai a1_0,.tree (.pair .int (.pair .int .int)) a1_1,.tree .int a1_2,.tree .int a1_3]] (Hp h18) ?_;refine rz0 (.tree .int a2) ?_;refine zc (.own (oi 608 20) .int 0 y19.length) [(oi 608 20,some (.arr 3 .int y19))] [.tree .int a2] (Cr h19) ?_;refine rz0 (.tree .int a3) ?_;refine zc (.own (oi 640 22) .int 0 y20.length) [(oi 640 22,some (.arr 3 .int y20))] [.tree .int a3] (Cr h20) ?_;refine B9 (.tup [.own (oi 656 23) .int 0 y21.1.length,.bool y21.2]) [(oi 656 23,some (.arr 3 .int y21.1))] [ai a0,.agg [ai y18.1,.own (oi 576 18) (.pair .int (.pair .int .int)) 0 y18.2.1.length,.own (oi 577 18) .int 0 y18.2.2.1.length,.own (oi 578 18) .int 0 y18.2.2.2.length],.own (oi 608 20) .int 0 y19.length,.own (oi 640 22) .int 0 y20.length] _ (caps:=[]) (args0:=[ai a0,.agg [ai y18.1,.tree (.pair .int (.pair .int .int)) y18.2.1,.tree .int y18.2.2.1,.tree .int y18.2.2.2],.tree .int y19,.tree .int y20]) trivial (Ay (by kernel_rfl) (Ay (Xv (Ay (by kernel_rfl) (Ay (Bn (e:=81) (by kernel_rfl) rfl) (Ay (Bn (e:=3) (by kernel_rfl) rfl) (Ay (Bn (e:=3) (by kernel_rfl) rfl) Cj))))) (Ay (Bn (e:=3) (by kernel_rfl) rfl) (Ay (Bn (e:=3) (by kernel_rfl) rfl) Cj)))) (P9 h21) Qc ?_;refine rsB 5 ?_;refine Aq (tn_ ?_);refine wr_ ?_;refine Ab ?_;obtain ⟨y23,h23,h⟩:=Ad h;refine Aa 33 ?_;refine rsB 1 ?_;refine zc (.agg [ai y23.1,.own (oi 720 30) (.pair .int (.pair .int .int)) 0 y23.2.1.length,.own (oi 721 30) .int 0 y23.2.2.1.length,.own (oi 722 30) .int 0 y23.2.2.2.length]) [(oi 720 30,some (.arr 81 (.pair .int (.pair .int .int)) y23.2.1)),(oi 721 30,some (.arr 3 .int y23.2.2.1)),(oi 722 30,some (.arr 3 .int y23.2.2.2))] [.agg [ai a1_0,.tree (.pair .int (.pair .int .int)) a1_1,.tree .int a1_2,.tree .int a1_3]] (Hp h23) ?_;refine rsB 2 ?_;refine Aq (tn_ ?_);refine wr_ ?_;refine Ab ?_;obtain ⟨y25,h25,h⟩:=Ad h;refine Aa 36 ?_;refine rsB 1 ?_;refine zc (.own (oi 752 34) .int 0 y25.length) [(oi 752 34,some (.arr 3 .int y25))] [.tree .int a2] (Cr h25) ?_;refine rsB 1 ?_;refine Aq (tn_ ?_);refine wr_ ?_;refine Ab ?_;obtain ⟨y27,h27,h⟩:=Ad h;refine Aa 39 ?_;refine rsB 1 ?_;refine zc (.own (oi 784 37) .int 0 y27.length) [(oi 784 37,some (.arr 3 .int y27))] [.tree .int a3] (Cr h27) ?_;refine rsB 1 ?_;refine Aq (tn_ ?_);refine wr_ ?_;refine Ab ?_;obtain ⟨y29,h29,h⟩:=Ad h;refine Aa 49 ?_;refine rsB 4 ?_;refine B9 (.tup [.own (oi 880 43) .int 0 y29.1.length,.bool y29.2]) [(oi 880 43,some (.arr 3 .int y29.1))] [ai a0,.agg [ai y23.1,.own (oi 720 30) (.pair .int (.pair .int .int)) 0 y23.2.1.length,.own (oi 721 30) .int 0 y23.2.2.1.length,.own (oi 722 30) .int 0 y23.2.2.2.length],.own (oi 752 34) .int 0 y25.length,.own (oi 784 37) .int 0 y27.length] _ (caps:=[]) (args0:=[ai a0,.agg [ai y23.1,.tree (.pair .int (.pair .int .int)) y23.2.1,.tree .int y23.2.2.1,.tree .int y23.2.2.2],.tree .int y25,.tree .int y27]) trivial (Ay (by kernel_rfl) (Ay (Xv (Ay (by kernel_rfl) (Ay (Bn (e:=81) (by kernel_rfl) rfl) (Ay (Bn (e:=3) (by kernel_rfl) rfl) (Ay (Bn (e:=3) (by kernel_rfl) rfl) Cj))))) (Ay (Bn (e:=3) (by kernel_rfl) rfl) (Ay (Bn (e:=3) (by kernel_rfl) rfl) Cj)))) (J6 h29) Jy ?_;refine rsB 5 ?_;refine Aq (tn_ ?_);refine wr_ ?_;refine Ab ?_;refine As h (fun (l31_m66:Bool) S_=>S_=⟨Ap [(0,ai a0),(2,.tree .int a2),(3,.tree .int a3),(5,.box (oi 0 1) 0),(10,.own (oi 1 1) .int 0 y21.1.length),(11,.bool y21.2),(12,.box (oi 2 1) 0),(13,.own (oi 3 1) .int 0 y25.length),(14,.own (oi 4 1) .int 0 y27.length),(15,.own (oi 5 1) .int 0 y29.1.length),(16,.bool y29.2),(66,.bool l31_m66)],Aj (Ar [(oi 0 1,.cells 25 [ai a1_0,.tree (.pair .int (.pair .int .int)) a1_1,.tree .int a1_2,.tree .int a1_3]),(oi 1 1,.arr 3 .int y21.1),(oi 2 1,.cells 34 [ai y23.1,.own (oi 6 1) (.pair .int (.pair .int .int)) 0 y23.2.1.length,.own (oi 7 1) .int 0 y23.2.2.1.length,.own (oi 8 1) .int 0 y23.2.2.2.length]),(oi 3 1,.arr 3 .int y25),(oi 4 1,.arr 3 .int y27),(oi 5 1,.arr 3 .int y29.1),(oi 6 1,.arr 81 (.pair .int (.pair .int .int)) y23.2.1),(oi 7 1,.arr 3 .int y23.2.2.1),(oi 8 1,.arr 3 .int y23.2.2.2)]),2⟩) ?_ ?_
 ·intro v_ h;obtain ⟨y32,h32,h⟩:=Ad h;rcases Ae h with ⟨q33,h⟩ | ⟨q33,h⟩
  ·refine Aa 58 ?_;refine rz0 (.own (oi 880 43) .int 0 y29.1.length) ?_;refine rz0 (.own (oi 656 23) .int 0 y21.1.length) ?_;refine B9 (.bool y32) [] [.own (oi 880 43) .int 0 y29.1.length,.own (oi 656 23) .int 0 y21.1.length] _ (caps:=[]) (args0:=[.tree .int y29.1,.tree .int y21.1]) trivial (Ay (Bn (e:=3) (by kernel_rfl) rfl) (Ay (Bn (e:=3) (by kernel_rfl) rfl) Cj)) (Cp h32) D1 ?_;refine rz0 (.bool (!y32)) ?_;refine rz0 (.bool (!y32)) ?_;refine zs q33 ?_;refine zs q33 ?_;refine zs q33 ?_;refine rs0 (.bool true) (zT q33) ?_;refine Aq (tn_ ?_);obtain rfl:=zj h;exact ⟨_,Ac [(oi 0 1,oi 5 1),(oi 1 1,oi 656 23),(oi 2 1,oi 12 31),(oi 6 1,oi 720 30),(oi 7 1,oi 721 30),(oi 8 1,oi 722 30),(oi 3 1,oi 752 34),(oi 4 1,oi 784 37),(oi 5 1,oi 880 43)],rfl⟩
  refine Aa 58 ?_;refine rz0 (.own (oi 880 43) .int 0 y29.1.length) ?_;refine rz0 (.own (oi 656 23) .int 0 y21.1.length) ?_;refine B9 (.bool y32) [] [.own (oi 880 43) .int 0 y29.1.length,.own (oi 656 23) .int 0 y21.1.length] _ (caps:=[]) (args0:=[.tree .int y29.1,.tree .int y21.1]) trivial (Ay (Bn (e:=3) (by kernel_rfl) rfl) (Ay (Bn (e:=3) (by kernel_rfl) rfl) Cj)) (Cp h32) D1 ?_;refine rz0 (.bool (!y32)) ?_;refine rz0 (.bool (!y32)) ?_;refine rs0 (.bool y29.2) (zg q33) ?_;refine rs0 (.bool y21.2) (zg q33) ?_;refine rs0 (.bool (y29.2 !=y21.2)) (zg q33) ?_;refine rs0 (.bool (y29.2 !=y21.2)) (zF q33) ?_;refine Aq (tn_ ?_);obtain rfl:=zj h;exact ⟨_,Ac [(oi 0 1,oi 5 1),(oi 1 1,oi 656 23),(oi 2 1,oi 12 31),(oi 6 1,oi 720 30),(oi 7 1,oi 721 30),(oi 8 1,oi 722 30),(oi 3 1,oi 752 34),(oi 4 1,oi 784 37),(oi 5 1,oi 880 43)],rfl⟩
 rintro l31_m66 _ rfl h
 (try dsimp only at h);rcases Ae h with ⟨q34,h⟩ | ⟨q34,h⟩
 ·refine Ah q34 ?_;refine An ?_;refine Ao (tr_ ?_);obtain rfl:=zj h;exact Br [.bool false] (A8 rfl zl Bc)
 refine Ag q34 ?_;refine Ai (tn_ ?_);refine wr_ ?_;refine Ab ?_;refine Ab ?_;obtain ⟨y38,h38,h⟩:=Ad h;obtain ⟨y39,h39,h⟩:=Ad h;refine Az 7 ?_;refine dzl (.agg [ai y23.1,.own (oi 6 1) (.pair .int (.pair .int .int)) 0 y23.2.1.length,.own (oi 7 1) .int 0 y23.2.2.1.length,.own (oi 8 1) .int 0 y23.2.2.2.length]) ?_;refine dzl (.agg [ai a1_0,.tree (.pair .int (.pair .int .int)) a1_1,.tree .int a1_2,.tree .int a1_3]) ?_;refine D4 (.agg [ai y38.1,.own (oi 1104 4) (.pair .int (.pair .int .int)) 0 y38.2.1.length,.own (oi 1105 4) .int 0 y38.2.2.1.length,.own (oi 1106 4) .int 0 y38.2.2.2.length]) [(oi 1104 4,some (.arr 81 (.pair .int (.pair .int .int)) y38.2.1)),(oi 1105 4,some (.arr 3 .int y38.2.2.1)),(oi 1106 4,some (.arr 3 .int y38.2.2.2))] [.agg [ai a1_0,.tree (.pair .int (.pair .int .int)) a1_1,.tree .int a1_2,.tree .int a1_3]] _ (caps:=[]) (args0:=[.agg [ai a1_0,.tree (.pair .int (.pair .int .int)) a1_1,.tree .int a1_2,.tree .int a1_3]]) trivial (by kernel_rfl) (Hp h38) Ux ?_;refine D4 (.bool y39) [] [.agg [ai y23.1,.own (oi 6 1) (.pair .int (.pair .int .int)) 0 y23.2.1.length,.own (oi 7 1) .int 0 y23.2.2.1.length,.own (oi 8 1) .int 0 y23.2.2.2.length],.agg [ai y38.1,.own (oi 1104 4) (.pair .int (.pair .int .int)) 0 y38.2.1.length,.own (oi 1105 4) .int 0 y38.2.2.1.length,.own (oi 1106 4) .int 0 y38.2.2.2.length]] _ (caps:=[]) (args0:=[.agg [ai y23.1,.tree (.pair .int (.pair .int .int)) y23.2.1,.tree .int y23.2.2.1,.tree .int y23.2.2.2],.agg [ai y38.1,.tree (.pair .int (.pair .int .int)) y38.2.1,.tree .int y38.2.2.1,.tree .int y38.2.2.2]]) trivial (Ay (Xv (Ay (by kernel_rfl) (Ay (Bn (e:=81) (by kernel_rfl) rfl) (Ay (Bn (e:=3) (by kernel_rfl) rfl) (Ay (Bn (e:=3) (by kernel_rfl) rfl) Cj))))) (Ay (Xv (Ay (by kernel_rfl) (Ay (Bn (e:=81) (by kernel_rfl) rfl) (Ay (Bn (e:=3) (by kernel_rfl) rfl) (Ay (Bn (e:=3) (by kernel_rfl) rfl) Cj))))) Cj)) (U7 h39) Ut ?_;refine dz0 (.bool (!y39)) ?_;refine Ft (Bd (by kernel_rfl)) (tn_ ?_);refine wr_ ?_;rcases Ae h with ⟨q40,h⟩ | ⟨q40,h⟩
 ·refine Ah q40 ?_;refine An ?_;refine Ao (tr_ ?_);obtain rfl:=zj h;exact Br [.bool false] (A8 rfl zl Bc)
 refine Ag q40 ?_;refine Ai (tn_ ?_);refine wr_ ?_;refine Ab ?_;refine Ab ?_;obtain ⟨y44,h44,h⟩:=Ad h;obtain ⟨y45,h45,h⟩:=Ad h;refine Aa 12 ?_;refine rz0 (.own (oi 3 1) .int 0 y25.length) ?_;refine rz0 (.tree .int a2) ?_;refine zc (.own (oi 1184 9) .int 0 y44.length) [(oi 1184 9,some (.arr 3 .int y44))] [.tree .int a2] (Cr h44) ?_;refine B9 (.bool y45) [] [.own (oi 3 1) .int 0 y25.length,.own (oi 1184 9) .int 0 y44.length] _ (caps:=[]) (args0:=[.tree .int y25,.tree .int y44]) trivial (Ay (Bn (e:=3) (by kernel_rfl) rfl) (Ay (Bn (e:=3) (by kernel_rfl) rfl) Cj)) (Cp h45) D1 ?_;refine rsB 1 ?_;refine Aq (tn_ ?_);refine wr_ ?_;rcases Ae h with ⟨q46,h⟩ | ⟨q46,h⟩
 ·refine Ah q46 ?_;refine An ?_;refine Ao (tr_ ?_);obtain rfl:=zj h;exact Br [.bool false] (A8 rfl zl Bc)
 refine Ag q46 ?_;refine Ai (tn_ ?_);refine wr_ ?_;refine Ab ?_;refine Ab ?_;obtain ⟨y50,h50,h⟩:=Ad h;obtain ⟨y51,h51,h⟩:=Ad h;refine Aa 17 ?_;refine rz0 (.own (oi 4 1) .int 0 y27.length) ?_;refine rz0 (.tree .int a3) ?_;refine zc (.own (oi 1264 14) .int 0 y50.length) [(oi 1264 14,some (.arr 3 .int y50))] [.tree .int a3] (Cr h50) ?_;refine B9 (.bool y51) [] [.own (oi 4 1) .int 0 y27.length,.own (oi 1264 14) .int 0 y50.length] _ (caps:=[]) (args0:=[.tree .int y27,.tree .int y50]) trivial (Ay (Bn (e:=3) (by kernel_rfl) rfl) (Ay (Bn (e:=3) (by kernel_rfl) rfl) Cj)) (Cp h51) D1 ?_;refine rsB 1 ?_;refine Aq (tn_ ?_);refine wr_ ?_;rcases Ae h with ⟨q52,h⟩ | ⟨q52,h⟩
 ·refine Ah q52 ?_;refine An ?_;refine Ao (tr_ ?_);obtain rfl:=zj h;exact Br [.bool false] (A8 rfl zl Bc)
 refine Ag q52 ?_;refine Ai (tn_ ?_);refine wr_ ?_;refine An ?_;refine Ab ?_;obtain ⟨y56,h56,h⟩:=Ad h;obtain ⟨g57,h⟩:=Am h;obtain ⟨g58,h⟩:=Am h;obtain ⟨g59,h⟩:=Am h;refine Aa 22 ?_;refine rsB 2 ?_;refine C3 (ai y56.2.2.2) [(oi 6 1,some (.arr 81 (.pair .int (.pair .int .int)) y56.1)),(oi 7 1,some (.arr 3 .int y56.2.1)),(oi 8 1,some (.arr 3 .int y56.2.2.1)),(oi 6 1,none),(oi 7 1,none),(oi 8 1,none)] [(oi 0 0,oi 6 1),(oi 1 0,oi 7 1),(oi 2 0,oi 8 1)] [.agg [ai y23.1,.own (oi 6 1) (.pair .int (.pair .int .int)) 0 y23.2.1.length,.own (oi 7 1) .int 0 y23.2.2.1.length,.own (oi 8 1) .int 0 y23.2.2.2.length],ai 1] (caps:=[]) trivial (Sy h56 rfl rfl rfl) Sp ⟨by kernel_rfl,⟨by kernel_rfl,⟨by kernel_rfl,trivial⟩⟩⟩ (.cons (.agg (.cons (.ren (by kernel_rfl)) (.cons (.ren (by kernel_rfl)) (.cons (.ren (by kernel_rfl)) (.cons (.ren (by kernel_rfl)) .nil))))) (.cons (.ren (by kernel_rfl)) .nil)) (A7 (by kernel_rfl) (by kernel_rfl) ⟨B2 (by kernel_rfl),⟨B2 (by kernel_rfl),⟨B2 (by kernel_rfl),trivial⟩⟩⟩) ?_;refine rsB 1 ?_;refine Aq (tn_ ?_);refine wr_ ?_;refine Ab ?_;obtain ⟨y61,h61,h⟩:=Ad h;obtain ⟨g62,h⟩:=Am h;refine Aa 26 ?_;refine rsB 2 ?_;refine C3 (ai y61.2) [(oi 3 1,some (.arr 3 .int y61.1)),(oi 3 1,none)] [(oi 0 0,oi 3 1)] [.own (oi 3 1) .int 0 y25.length,ai y56.2.2.2] (caps:=[]) trivial (Fx h61 rfl) F6 ⟨by kernel_rfl,trivial⟩ (.cons (.ren (by kernel_rfl)) (.cons (.ren (by kernel_rfl)) .nil)) (A7 (by kernel_rfl) (by kernel_rfl) ⟨B2 (by kernel_rfl),trivial⟩) ?_;refine rsB 1 ?_;refine Aq (tn_ ?_);refine wr_ ?_;refine Ab ?_;obtain ⟨y64,h64,h⟩:=Ad h;obtain ⟨g65,h⟩:=Am h;refine Aa 30 ?_;refine rsB 2 ?_;refine C3 (ai y64.2) [(oi 4 1,some (.arr 3 .int y64.1)),(oi 4 1,none)] [(oi 0 0,oi 4 1)] [.own (oi 4 1) .int 0 y27.length,ai y61.2] (caps:=[]) trivial (Fx h64 rfl) F6 ⟨by kernel_rfl,trivial⟩ (.cons (.ren (by kernel_rfl)) (.cons (.ren (by kernel_rfl)) .nil)) (A7 (by kernel_rfl) (by kernel_rfl) ⟨B2 (by kernel_rfl),trivial⟩) ?_;refine rsB 1 ?_;refine Aq (tn_ ?_);refine wr_ ?_;refine Ab ?_;refine As h (fun (l67_m103:Bool) S_=>S_=⟨Ap [(0,ai a0),(2,.tree .int a2),(3,.tree .int a3),(5,.box (oi 0 1) 0),(10,.own (oi 1 1) .int 0 y21.1.length),(11,.bool y21.2),(15,.own (oi 2 1) .int 0 y29.1.length),(103,.bool l67_m103)],Aj (Ar [(oi 0 1,.cells 25 [ai a1_0,.tree (.pair .int (.pair .int .int)) a1_1,.tree .int a1_2,.tree .int a1_3]),(oi 1 1,.arr 3 .int y21.1),(oi 2 1,.arr 3 .int y29.1)]),2⟩) ?_ ?_
 ·intro v_ h;rcases Ae h with ⟨q68,h⟩ | ⟨q68,h⟩
  ·have q68_:=of_decide_eq_true q68;refine Aa 43 ?_;refine rz0 (ai y64.2) ?_;refine rz0 (.bool (decide (y64.2<0))) ?_;refine rz0 (.bool (decide (y64.2<0))) ?_;refine zs q68 ?_;refine zs q68 ?_;refine zs q68 ?_;refine zs q68 ?_;refine rs0 (.bool true) (zT q68) ?_;refine rsB 5 ?_;refine Aq (tn_ ?_);obtain rfl:=zj h;exact ⟨_,Ac [(oi 2 1,oi 5 1)],rfl⟩
  have q68_:=of_decide_eq_false q68;obtain ⟨y69,h69,h⟩:=Ad h;rcases Ae h with ⟨q70,h⟩ | ⟨q70,h⟩
  ·refine Aa 43 ?_;refine rz0 (ai y64.2) ?_;refine rz0 (.bool (decide (y64.2<0))) ?_;refine rz0 (.bool (decide (y64.2<0))) ?_;refine rs0 (.own (oi 5 1) .int 0 y29.1.length) (zg q68) ?_;refine rs0 (.own (oi 1 1) .int 0 y21.1.length) (zg q68) ?_;refine B9 (.bool y69) [] [.own (oi 5 1) .int 0 y29.1.length,.own (oi 1 1) .int 0 y21.1.length] _ (caps:=[]) (args0:=[.tree .int y29.1,.tree .int y21.1]) (C9 (by kernel_rfl) q68) (Ay (Bn (e:=3) (by kernel_rfl) rfl) (Ay (Bn (e:=3) (by kernel_rfl) rfl) Cj)) (Cp h69) D1 ?_;refine rs0 (.bool (!y69)) (zg q68) ?_;refine rs0 (.bool (!y69)) (zF q68) ?_;refine rz0 (.bool (!y69)) ?_;refine zs q70 ?_;refine zs q70 ?_;refine zs q70 ?_;refine rs0 (.bool true) (zT q70) ?_;refine Aq (tn_ ?_);obtain rfl:=zj h;exact ⟨_,Ac [(oi 2 1,oi 5 1)],rfl⟩
  refine Aa 43 ?_;refine rz0 (ai y64.2) ?_;refine rz0 (.bool (decide (y64.2<0))) ?_;refine rz0 (.bool (decide (y64.2<0))) ?_;refine rs0 (.own (oi 5 1) .int 0 y29.1.length) (zg q68) ?_;refine rs0 (.own (oi 1 1) .int 0 y21.1.length) (zg q68) ?_;refine B9 (.bool y69) [] [.own (oi 5 1) .int 0 y29.1.length,.own (oi 1 1) .int 0 y21.1.length] _ (caps:=[]) (args0:=[.tree .int y29.1,.tree .int y21.1]) (C9 (by kernel_rfl) q68) (Ay (Bn (e:=3) (by kernel_rfl) rfl) (Ay (Bn (e:=3) (by kernel_rfl) rfl) Cj)) (Cp h69) D1 ?_;refine rs0 (.bool (!y69)) (zg q68) ?_;refine rs0 (.bool (!y69)) (zF q68) ?_;refine rz0 (.bool (!y69)) ?_;refine rs0 (.bool y29.2) (zg q70) ?_;refine rs0 (.bool y21.2) (zg q70) ?_;refine rs0 (.bool (y29.2 !=y21.2)) (zg q70) ?_;refine rs0 (.bool (y29.2 !=y21.2)) (zF q70) ?_;refine Aq (tn_ ?_);obtain rfl:=zj h;exact ⟨_,Ac [(oi 2 1,oi 5 1)],rfl⟩
 rintro l67_m103 _ rfl h
 (try dsimp only at h);rcases Ae h with ⟨q71,h⟩ | ⟨q71,h⟩
 ·refine Ah q71 ?_;refine An ?_;refine Ao (tr_ ?_);obtain rfl:=zj h;exact Br [.bool false] (A8 rfl zl Bc)
 refine Ag q71 ?_;refine Ai (tn_ ?_);refine wr_ ?_;refine An ?_;refine Ab ?_;obtain ⟨y75,h75,h⟩:=Ad h;obtain ⟨g76,h⟩:=Am h;refine Aa 7 ?_;refine rsB 2 ?_;refine C3 (ai y75.2) [(oi 2 1,some (.arr 3 .int y75.1)),(oi 2 1,none)] [(oi 0 0,oi 2 1)] [.own (oi 2 1) .int 0 y29.1.length,ai 1] (caps:=[]) trivial (Fx h75 rfl) F6 ⟨by kernel_rfl,trivial⟩ (.cons (.ren (by kernel_rfl)) (.cons (.ren (by kernel_rfl)) .nil)) (A7 (by kernel_rfl) (by kernel_rfl) ⟨B2 (by kernel_rfl),trivial⟩) ?_;refine rsB 1 ?_;refine Aq (tn_ ?_);refine wr_ ?_;refine An ?_;refine Ab ?_;obtain ⟨y79,h79,h⟩:=Ad h;refine Aa 12 ?_;refine rsB 2 ?_;refine B9 (ai y79) [] [.own (oi 2 1) .int 0 y29.1.length,ai 1] _ (caps:=[]) (args0:=[.tree .int y75.1,ai 1]) trivial (Ay (Bn (e:=3) (by kernel_rfl) g76.symm) (Ay (by kernel_rfl) Cj)) (Oj h79) N6 ?_;refine rsB 1 ?_;refine Aq (tn_ ?_);refine wr_ ?_;refine Ab ?_;refine An ?_;rcases Ae h with ⟨q82,h⟩ | ⟨q82,h⟩
 ·have q82_:=of_decide_eq_true q82;refine Ah q82 ?_;refine An ?_;refine Ao (tr_ ?_);obtain rfl:=zj h;exact Br [.bool false] (A8 rfl zl Bc)
 have q82_:=of_decide_eq_false q82;refine Ag q82 ?_;refine Ai (tn_ ?_);refine wr_ ?_;refine Ab ?_;refine An ?_;rcases Ae h with ⟨q86,h⟩ | ⟨q86,h⟩
 ·refine Ah q86 ?_;refine An ?_;refine Ao (tr_ ?_);obtain rfl:=zj h;exact Br [.bool false] (A8 rfl zl Bc)
 refine Ag q86 ?_;refine Ai (tn_ ?_);refine wr_ ?_;refine Ab ?_;obtain ⟨y89,h89,h⟩:=Ad h;obtain ⟨y90,h90,h⟩:=Ad h;obtain ⟨y91,h91,h⟩:=Ad h;obtain ⟨y92,h92,h⟩:=Ad h;refine Aa 30 ?_;refine rz0 (ai a0) ?_;refine rzl (.agg [ai a1_0,.tree (.pair .int (.pair .int .int)) a1_1,.tree .int a1_2,.tree .int a1_3]) ?_;refine zc (.agg [ai y89.1,.own (oi 1888 19) (.pair .int (.pair .int .int)) 0 y89.2.1.length,.own (oi 1889 19) .int 0 y89.2.2.1.length,.own (oi 1890 19) .int 0 y89.2.2.2.length]) [(oi 1888 19,some (.arr 81 (.pair .int (.pair .int .int)) y89.2.1)),(oi 1889 19,some (.arr 3 .int y89.2.2.1)),(oi 1890 19,some (.arr 3 .int y89.2.2.2))] [.agg [ai a1_0,.tree (.pair .int (.pair .int .int)) a1_1,.tree .int a1_2,.tree .int a1_3]] (Hp h89) ?_;refine rz0 (.tree .int a2) ?_;refine zc (.own (oi 1920 21) .int 0 y90.length) [(oi 1920 21,some (.arr 3 .int y90))] [.tree .int a2] (Cr h90) ?_;refine rz0 (.tree .int a3) ?_;refine zc (.own (oi 1952 23) .int 0 y91.length) [(oi 1952 23,some (.arr 3 .int y91))] [.tree .int a3] (Cr h91) ?_;refine B9 (.tup [.own (oi 1968 24) .int 0 y92.1.length,.bool y92.2]) [(oi 1968 24,some (.arr 3 .int y92.1))] [ai a0,.agg [ai y89.1,.own (oi 1888 19) (.pair .int (.pair .int .int)) 0 y89.2.1.length,.own (oi 1889 19) .int 0 y89.2.2.1.length,.own (oi 1890 19) .int 0 y89.2.2.2.length],.own (oi 1920 21) .int 0 y90.length,.own (oi 1952 23) .int 0 y91.length] _ (caps:=[]) (args0:=[ai a0,.agg [ai y89.1,.tree (.pair .int (.pair .int .int)) y89.2.1,.tree .int y89.2.2.1,.tree .int y89.2.2.2],.tree .int y90,.tree .int y91]) trivial (Ay (by kernel_rfl) (Ay (Xv (Ay (by kernel_rfl) (Ay (Bn (e:=81) (by kernel_rfl) rfl) (Ay (Bn (e:=3) (by kernel_rfl) rfl) (Ay (Bn (e:=3) (by kernel_rfl) rfl) Cj))))) (Ay (Bn (e:=3) (by kernel_rfl) rfl) (Ay (Bn (e:=3) (by kernel_rfl) rfl) Cj)))) (J6 h92) Jy ?_;refine rsB 5 ?_;refine Aq (tn_ ?_);refine wr_ ?_;refine Ab ?_;refine As h (fun (l94_m134:Bool) S_=>S_=⟨Ap [(15,.own (oi 0 1) .int 0 y75.1.length),(18,ai y75.2),(134,.bool l94_m134)],Aj (Ar [(oi 0 1,.arr 3 .int y75.1)]),2⟩) ?_ ?_
 ·intro v_ h;obtain ⟨y95,h95,h⟩:=Ad h;rcases Ae h with ⟨q96,h⟩ | ⟨q96,h⟩
  ·refine Aa 39 ?_;refine rz0 (.own (oi 1968 24) .int 0 y92.1.length) ?_;refine rz0 (.own (oi 1 1) .int 0 y21.1.length) ?_;refine B9 (.bool y95) [] [.own (oi 1968 24) .int 0 y92.1.length,.own (oi 1 1) .int 0 y21.1.length] _ (caps:=[]) (args0:=[.tree .int y92.1,.tree .int y21.1]) trivial (Ay (Bn (e:=3) (by kernel_rfl) rfl) (Ay (Bn (e:=3) (by kernel_rfl) rfl) Cj)) (Cp h95) D1 ?_;refine rz0 (.bool (!y95)) ?_;refine rz0 (.bool (!y95)) ?_;refine zs q96 ?_;refine zs q96 ?_;refine zs q96 ?_;refine rs0 (.bool true) (zT q96) ?_;refine Aq (tn_ ?_);obtain rfl:=zj h;exact ⟨_,(A9 15 (.own (oi 2 1) .int 0 y29.1.length) (.own (oi 2 1) .int 0 y75.1.length) (by kernel_rfl) (congrArg (fun z_=>((.own (oi 2 1) .int 0 z_):AV)) (g76.symm:y29.1.length=y75.1.length))).trans (Ac [(oi 0 1,oi 2 1)]),rfl⟩
  refine Aa 39 ?_;refine rz0 (.own (oi 1968 24) .int 0 y92.1.length) ?_;refine rz0 (.own (oi 1 1) .int 0 y21.1.length) ?_;refine B9 (.bool y95) [] [.own (oi 1968 24) .int 0 y92.1.length,.own (oi 1 1) .int 0 y21.1.length] _ (caps:=[]) (args0:=[.tree .int y92.1,.tree .int y21.1]) trivial (Ay (Bn (e:=3) (by kernel_rfl) rfl) (Ay (Bn (e:=3) (by kernel_rfl) rfl) Cj)) (Cp h95) D1 ?_;refine rz0 (.bool (!y95)) ?_;refine rz0 (.bool (!y95)) ?_;refine rs0 (.bool y92.2) (zg q96) ?_;refine rs0 (.bool y21.2) (zg q96) ?_;refine rs0 (.bool (y92.2 !=y21.2)) (zg q96) ?_;refine rs0 (.bool (y92.2 !=y21.2)) (zF q96) ?_;refine Aq (tn_ ?_);obtain rfl:=zj h;exact ⟨_,(A9 15 (.own (oi 2 1) .int 0 y29.1.length) (.own (oi 2 1) .int 0 y75.1.length) (by kernel_rfl) (congrArg (fun z_=>((.own (oi 2 1) .int 0 z_):AV)) (g76.symm:y29.1.length=y75.1.length))).trans (Ac [(oi 0 1,oi 2 1)]),rfl⟩
 rintro l94_m134 _ rfl h
 (try dsimp only at h);rcases Ae h with ⟨q97,h⟩ | ⟨q97,h⟩
 ·refine Ah q97 ?_;refine An ?_;refine Ao (tr_ ?_);obtain rfl:=zj h;exact Br [.bool false] (A8 rfl zl Bc)
 refine Ag q97 ?_;refine Ai (tn_ ?_);refine wr_ ?_;refine An ?_;refine Ab ?_;obtain ⟨y101,h101,h⟩:=Ad h;refine Aa 7 ?_;refine rsB 2 ?_;refine B9 (ai y101) [] [.own (oi 0 1) .int 0 y75.1.length,ai 1] _ (caps:=[]) (args0:=[.tree .int y75.1,ai 1]) trivial (Ay (Bn (e:=3) (by kernel_rfl) rfl) (Ay (by kernel_rfl) Cj)) (Oj h101) N6 ?_;refine rsB 1 ?_;refine Aq (tn_ ?_);refine wr_ ?_;refine Ab ?_;refine An ?_;rcases Ae h with ⟨q104,h⟩ | ⟨q104,h⟩
 ·have q104_:=of_decide_eq_true q104;refine Ah q104 ?_;refine An ?_;refine Ao (tr_ ?_);obtain rfl:=zj h;exact Br [.bool false] (A8 rfl zl Bc)
 have q104_:=of_decide_eq_false q104;refine Ag q104 ?_;refine Ai (tn_ ?_);refine wr_ ?_;refine Ab ?_;refine An ?_;rcases Ae h with ⟨q108,h⟩ | ⟨q108,h⟩
 ·refine Ah q108 ?_;refine An ?_;refine Ao (tr_ ?_);obtain rfl:=zj h;exact Br [.bool false] (A8 rfl zl Bc)
 refine Ag q108 ?_;refine Ai (tn_ ?_);refine wr_ ?_;refine An ?_;refine Ao ?_;obtain rfl:=zj h;exact Br [.bool true] (A8 rfl zl Bc)
end
section
section
variable {α β σ ρ:Type}
theorem Aes {body:σ->Option (Ctl σ ρ)} {Post:ρ->Prop} (n:Nat) (I:Nat->σ->Prop)
  (hs:∀ i s,i<n->I i s->(∃ s',body s=some (.next s')∧I (i+1) s')∨∃ r,body s=some (.out r)∧Post r) (he:∀ s,I n s->∃ r,body s=some (.out r)∧Post r) :
  ∀ (F k:Nat) (s:σ),k<=n->n - k<F->I k s->∃ r,Av body F s=some r∧Post r
 | 0,_,_,_,h,_=>by omega
 | F+1,k,s,hk,h,hi=>by
  have key:(∃ r,body s=some (.out r)∧Post r)->∃ r,Av body (F+1) s=some r∧Post r:=by
   rintro ⟨r,h1,h2⟩;exact ⟨r,by simp only [Av,h1,obs,Ctl.then],h2⟩
  rcases Nat.lt_or_ge k n with hlt | hge
  ·rcases hs k s hlt hi with ⟨s',h1,h2⟩ | h
   ·obtain ⟨r,h3,h4⟩:=Aes n I hs he F (k+1) s' hlt (by omega) h2;exact ⟨r,by simp only [Av,h1,obs,Ctl.then]; exact h3,h4⟩
   ·exact key h
  ·obtain rfl:k=n:=by omega
   exact key (he s hi)
theorem Um {body:σ->Option (Ctl σ ρ)} {Post:ρ->Prop} (n:Nat) (I:Nat->σ->Prop) {F:Nat} (hn:n<F) {s0:σ} (h0:I 0 s0)
  (hs:∀ i s,i<n->I i s->(∃ s',body s=some (.next s')∧I (i+1) s')∨∃ r,body s=some (.out r)∧Post r) (he:∀ s,I n s->∃ r,body s=some (.out r)∧Post r):∃ r,Av body F s0=some r∧Post r :=
 Aes n I hs he F 0 s0 (Nat.zero_le _) (by omega) h0
theorem O9 {body:σ->Option (Ctl σ ρ)} (n:Nat) (I:Nat->σ->Prop) {F:Nat} (hn:n<F) {s0:σ} (r:ρ) (h0:I 0 s0)
  (hs:∀ i s,i<n->I i s->(∃ s',body s=some (.next s')∧I (i+1) s')∨body s=some (.out r)) (he:∀ s,I n s->body s=some (.out r)):Av body F s0=some r:=by
 obtain ⟨r',h1,rfl⟩:=Um (Post:=fun r'=>r'=r) n I hn h0 (fun i s hi hI=>(hs i s hi hI).imp id fun h=>⟨r,h,rfl⟩) (fun s h=>⟨r,he s h,rfl⟩);exact h1
theorem Bg {body:σ->Option (Ctl σ ρ)} (n:Nat) (S:Nat->σ) {F:Nat} (hn:n<F) {s0:σ} (r:ρ) (h0:s0=S 0) (hs:∀ i,i<n->body (S i)=some (.next (S (i+1)))) (he:body (S n)=some (.out r)):Av body F s0=some r:=by
 subst h0;refine O9 n (fun i s=>s=S i) hn r rfl (fun i s hi e=>.inl ?_) (fun s e=>by subst e; exact he);subst e;exact ⟨_,hs i hi,rfl⟩
theorem Sh {body:Nat->Option (Ctl Nat ρ)} (xs:List α) (q:α->Bool) (good bad:ρ) {F:Nat} (hn:xs.length<F) (hs:∀ i x,xs[i]? =some x->body i=some (if q x then .next (i+1) else .out bad)) (he:body xs.length=some (.out good)):Av body F 0=some (if xs.all q then good else bad):=by
 refine O9 xs.length (fun i s=>s=i∧(xs.take i).all q=true) hn _ ⟨rfl,by simp⟩ ?_ ?_
 ·rintro i s hi ⟨hsi,hq⟩;subst s;have hx:=gEg hi;rw [hs i _ hx];cases hc:q xs[i]
  ·refine .inr ?_
   have:xs.all q=false:=by
    rw [Bool.eq_false_iff];intro ha;rw [List.all_eq_true] at ha;rw [ha _ (List.getElem_mem hi)] at hc;cases hc
   rw [this]; rfl
  ·refine .inl ⟨i+1,rfl,rfl,?_⟩;rw [List.take_add_one,List.all_append,hq,hx];simp [hc]
 ·rintro s ⟨rfl,hq⟩;rw [List.take_length] at hq;rw [he,hq]; rfl
theorem Ano {body:Nat->Option (Ctl Nat ρ)} (xs:List α) (q:α->Bool) (none_:ρ) (g:Nat->ρ) {F:Nat} (hn:xs.length<F) (hs:∀ i x,xs[i]? =some x->body i=some (if q x then .out (g i) else .next (i+1))) (he:body xs.length=some (.out none_)) :
  (xs.any q=true∧∃ i,i<xs.length∧Av body F 0=some (g i))∨(xs.any q=false∧Av body F 0=some none_):=by
 have key:∃ r,Av body F 0=some r∧((xs.any q=true∧∃ i,i<xs.length∧r=g i)∨(xs.any q=false∧r=none_)):=by
  refine Um xs.length (fun i s=>s=i∧(xs.take i).any q=false) hn ⟨rfl,by simp⟩ ?_ ?_
  ·rintro i s hi ⟨hsi,hq⟩;subst s;have hx:=gEg hi;rw [hs i _ hx];cases hc:q xs[i]
   ·refine .inl ⟨i+1,rfl,rfl,?_⟩;rw [List.take_add_one,List.any_append,hq,hx];simp [hc]
   ·exact .inr ⟨_,rfl,.inl ⟨List.any_eq_true.2 ⟨_,List.getElem_mem hi,hc⟩,i,hi,rfl⟩⟩
  ·rintro s ⟨hsi,hq⟩;subst hsi;rw [List.take_length] at hq;exact ⟨_,he,.inr ⟨hq,rfl⟩⟩
 obtain ⟨r,h,⟨h1,i,hi,rfl⟩ | ⟨h1,rfl⟩⟩:=key
 ·exact .inl ⟨h1,i,hi,h⟩
 ·exact .inr ⟨h1,h⟩
theorem Jk {body:Nat×List β->Option (Ctl (Nat×List β) ρ)} (xs:List α) (f:α->β) (ys:List β) {F:Nat} (hn:xs.length<F) (r:ρ) (hs:∀ i x,xs[i]? =some x->body (i,ys++(xs.take i).map f)=some (.next (i+1,(ys++(xs.take i).map f)++[f x]))) (he:body (xs.length,ys++xs.map f)=some (.out r)):Av body F (0,ys)=some r:=by
 refine Bg xs.length (fun i=>(i,ys++(xs.take i).map f)) hn r (by simp) (fun i hi=>?_) (by rw [List.take_length]; exact he);have hx:=gEg hi;rw [hs i _ hx,List.take_add_one,hx];simp only [List.map_append,Option.toList,List.map_cons,List.map_nil,List.append_assoc]
theorem Ol {xs:List α} {d:α} {i:Nat} (h:i<xs.length):(xs.take i++List.replicate (xs.length - i) d)[i]? =some d:=by
 have h1:(xs.take i).length=i:=by rw [List.length_take]; omega
 rw [List.getElem?_append_right (by omega),h1,Nat.sub_self,List.getElem?_replicate,if_pos (by omega)]
theorem Pd {xs:List α} {d x:α} {i:Nat} (h:xs[i]? =some x):(xs.take i++List.replicate (xs.length - i) d).set i x=xs.take (i+1)++List.replicate (xs.length - (i+1)) d:=by
 have hi:=(gSi.1 h).1;have e:xs.length - i=(xs.length - (i+1))+1:=by omega
 rw [List.take_add_one,h,e,List.replicate_succ,List.set_append,if_neg (by simp; omega)];simp [Nat.min_eq_left (Nat.le_of_lt hi)]
theorem Jl {xs ys:List α} {i:Nat} (h:i<xs.length) (hl:ys.length=i):(ys++xs.drop i)[i]? =some xs[i]:=by
 rw [List.getElem?_append_right (by omega),hl];simp [List.getElem?_drop,h]
theorem Jq {xs ys:List α} {y:α} {i:Nat} (h:i<xs.length) (hl:ys.length=i):(ys++xs.drop i).set i y=(ys++[y])++xs.drop (i+1):=by
 rw [List.set_append,if_neg (by omega),hl,Nat.sub_self,List.drop_eq_getElem_cons h,List.append_assoc];rfl
theorem Aa8 {xs ys:List α} {y:α} {i:Nat} (hl:ys.length=i):((ys++[y])++xs)[i]? =some y:=by
 subst hl;rw [List.getElem?_append_left (by simp)];simp
theorem Abc {xs ys:List α} {y z:α} {i:Nat} (hl:ys.length=i):((ys++[y])++xs).set i z=(ys++[z])++xs:=by
 subst hl;rw [List.append_assoc,List.append_assoc,List.set_append,if_neg (by omega)];simp
end
theorem Bo {n:Int} (h1: -9223372036854775808<=n) (h2:n<9223372036854775808):wI n=n:=Go.IntWalk.i64_in _ (by omega)
theorem Be {p:Prop} [Decidable p] (h:p):decide p=true:=decide_eq_true h
theorem Bf {p:Prop} [Decidable p] (h:¬ p):decide p=false:=decide_eq_false h
end
section
def inV (p:Int) (x:List Int):Prop:=∀ a,a∈x->0<=a∧a<p
def VecW (p:Int) (w:Nat) (x:List Int):Prop:=x.length=w∧inV p x
def MatW (p:Int) (w:Nat) (m:List (List Int)):Prop:=∀ x,x∈m->VecW p w x
def Cq (p k:Int) (v:List Int):List Int:=v.map fun a=>a*k % p
def C0 (p f:Int) (x v:List Int):List Int:=List.zipWith (fun a b=>(a - f*b) % p) x v
def B6 (m:List (List Int)) (c r:Nat):Nat:=r+(m.drop r).findIdx fun x=>x.getD c 0 !=0
def Hj (m:List (List Int)) (r k:Nat):List (List Int):=(m.set r (m.getD k [])).set k (m.getD r [])
def Fd (p:Int) (c r:Nat) (pr:List Int) (m:List (List Int)):List (List Int):=m.mapIdx fun i x=>if i=r then pr else C0 p (x.getD c 0) x pr
def Jw (p a:Int):Int:=(((List.range p.toNat).find? fun (x:Nat)=>a*(x:Int) % p==1).getD 0:Nat)
def prV (p:Int) (c:Nat) (x:List Int):List Int:=Cq p (Jw p (x.getD c 0)) x
def gjS (p:Int) (c:Nat) (s:Nat×List (List Int)):Nat×List (List Int) :=
 if s.1<s.2.length then
  if B6 s.2 c s.1=s.2.length then s
  else (s.1+1,Fd p c s.1 (prV p c (s.2.getD (B6 s.2 c s.1) [])) (Hj s.2 s.1 (B6 s.2 c s.1)))
 else s
def gjT (p:Int) (m:List (List Int)):Nat->Nat×List (List Int)
 | 0=>(0,m)
 | c+1=>gjS p c (gjT p m c)
def gj (p:Int) (n:Nat) (m:List (List Int)):List (List Int):=(gjT p m n).2.take (gjT p m n).1
theorem M2 {p x:Int} (hp:2<=p):0<=x % p∧x % p<p:=⟨Int.emod_nonneg x (by omega),Int.emod_lt_of_pos x (by omega)⟩
theorem Nc {p k:Int} {w:Nat} {x:List Int} (hp:2<=p) (h:x.length=w):VecW p w (Cq p k x) :=
 ⟨by simp [Cq,h],fun a ha=>by obtain ⟨b,_,rfl⟩:=List.mem_map.1 ha; exact M2 hp⟩
theorem Akm {α β γ:Type} {f:α->β->γ}:∀ {x:List α} {v:List β} {c:γ},c∈List.zipWith f x v->∃ a b,c=f a b
 | [],_,_,h=>by simp at h
 | _ :: _,[],_,h=>by simp at h
 | a :: x,b :: v,c,h=>by
  rw [List.zipWith_cons_cons,List.mem_cons] at h;rcases h with h | h
  ·exact ⟨a,b,h⟩
  ·exact Akm h
theorem Pm {p f:Int} {w:Nat} {x v:List Int} (hp:2<=p) (hx:x.length=w) (hv:v.length=w):VecW p w (C0 p f x v) :=
 ⟨by simp [C0,hx,hv],fun a ha=>by obtain ⟨b,c,rfl⟩:=Akm ha; exact M2 hp⟩
theorem Pg {p:Int} {x v:List Int} (hx:inV p x) (hl:x.length<=v.length):C0 p 0 x v=x:=by
 apply List.ext_getElem
 ·simp [C0]; omega
 ·intro i h1 h2;have:=hx x[i] (List.getElem_mem h2);simp only [C0,List.getElem_zipWith,Int.zero_mul,Int.sub_zero];exact Int.emod_eq_of_lt this.1 this.2
theorem A3 {α:Type} {m:List α} {i:Nat} {d x:α} (h:m[i]? =some x):m.getD i d=x:=by rw [gDg,h]; rfl
theorem D6 {α:Type} {m:List α} {i:Nat} (h:i<m.length):∃ x,m[i]? =some x:=⟨_,gEg h⟩
theorem N3 {m:List (List Int)} {c r:Nat} (h:r<=m.length):B6 m c r<=m.length:=by
 have:=List.findIdx_le_length (xs:=m.drop r) (p:=fun x=>x.getD c 0 !=0);rw [List.length_drop] at this;unfold B6; omega
theorem An6 (m:List (List Int)) (c r:Nat):r<=B6 m c r:=by unfold B6; omega
theorem Uw {m:List (List Int)} {c r i:Nat} (h1:r<=i) (h2:i<B6 m c r) (hr:r<=m.length):(m.getD i []).getD c 0=0:=by
 have hl:=N3 (c:=c) hr;have h3:i - r<(m.drop r).findIdx fun x=>x.getD c 0 !=0:=by unfold B6 at h2; omega
 have h4:i - r<(m.drop r).length:=by rw [List.length_drop]; omega
 have h5:=List.not_of_lt_findIdx h3;rw [List.getElem_drop] at h5
 have e:m[r+(i - r)]'(by rw [List.length_drop] at h4; omega)=m.getD i []:=by
  rw [gDg,gEg (by omega)];simp only [show r+(i - r)=i by omega,Option.getD_some]
 rw [e] at h5
 simpa using h5
theorem Un {m:List (List Int)} {c r:Nat} (h:B6 m c r≠m.length) (hr:r<=m.length):(m.getD (B6 m c r) []).getD c 0≠0:=by
 have hl:=N3 (c:=c) hr;have h4:(m.drop r).findIdx (fun x=>x.getD c 0 !=0)<(m.drop r).length:=by rw [List.length_drop]; unfold B6 at h hl; omega
 have h5:=List.findIdx_getElem (w:=h4);rw [List.getElem_drop] at h5
 have e:m[r+(m.drop r).findIdx (fun x=>x.getD c 0 !=0)]'(by rw [List.length_drop] at h4; omega)=m.getD (B6 m c r) []:=by
  rw [gDg,gEg (by omega)]; rfl
 rw [e] at h5
 simpa using h5
theorem Ns (m:List (List Int)) (r k:Nat):(Hj m r k).length=m.length:=by simp [Hj]
theorem Lp (p:Int) (c r:Nat) (pr:List Int) (m:List (List Int)):(Fd p c r pr m).length=m.length:=by simp [Fd]
theorem Dd {m:List (List Int)} {i:Nat} (h:i<m.length):m.getD i []∈m:=by
 rw [gDg,gEg h]; exact List.getElem_mem h
theorem Wh {p:Int} {w:Nat} {m:List (List Int)} {r k:Nat} (h:MatW p w m) (hr:r<m.length) (hk:k<m.length):MatW p w (Hj m r k):=by
 intro x hx;unfold Hj at hx;rcases List.mem_or_eq_of_mem_set hx with hx | rfl
 ·rcases List.mem_or_eq_of_mem_set hx with hx | rfl
  ·exact h x hx
  ·exact h _ (Dd hk)
 ·exact h _ (Dd hr)
theorem Ar1 {p:Int} {w c r:Nat} {m:List (List Int)} {pr:List Int} (hp:2<=p) (h:MatW p w m) (hpr:VecW p w pr):MatW p w (Fd p c r pr m):=by
 intro x hx;unfold Fd at hx;obtain ⟨i,hi,rfl⟩:=List.mem_mapIdx.1 hx;split
 ·exact hpr
 ·exact Pm hp (h _ (List.getElem_mem hi)).1 hpr.1
theorem Atq {p:Int} {w c:Nat} {s:Nat×List (List Int)} (hp:2<=p) (h:MatW p w s.2) (hr:s.1<=s.2.length):MatW p w (gjS p c s).2∧(gjS p c s).1<=(gjS p c s).2.length∧(gjS p c s).2.length=s.2.length:=by
 unfold gjS;split
 ·rename_i h1;split
  ·exact ⟨h,hr,rfl⟩
  ·rename_i h2;have h3:=N3 (c:=c) hr;have hk:B6 s.2 c s.1<s.2.length:=by omega
   refine ⟨Ar1 hp (Wh h h1 hk) (Nc hp (h _ (Dd hk)).1),?_,?_⟩
   ·simp only [Lp,Ns]; omega
   ·simp only [Lp,Ns]
 ·exact ⟨h,hr,rfl⟩
theorem Kp {p:Int} {w:Nat} {m:List (List Int)} (hp:2<=p) (h:MatW p w m):∀ c,MatW p w (gjT p m c).2∧(gjT p m c).1<=(gjT p m c).2.length∧(gjT p m c).2.length=m.length
 | 0=>⟨h,Nat.zero_le _,rfl⟩
 | c+1=>by
  obtain ⟨h1,h2,h3⟩:=Kp hp h c;obtain ⟨k1,k2,k3⟩:=Atq (c:=c) hp h1 h2;exact ⟨k1,k2,k3.trans h3⟩
theorem Z1 {p:Int} {m:List (List Int)} {c:Nat} (h:¬ (gjT p m c).1<(gjT p m c).2.length):∀ d,c<=d->gjT p m d=gjT p m c
 | 0, h0 => by obtain rfl : c = 0 := by omega
               rfl
 | d+1,h0=>by
  by_cases e:c=d+1
  ·rw [e]
  ·have ih:=Z1 h d (by omega);show gjS p d (gjT p m d)=_;rw [ih];unfold gjS;rw [if_neg h]
theorem Ae7 {p:Int} {n w:Nat} {m:List (List Int)} (hp:2<=p) (h:MatW p w m):(gj p n m).length=(gjT p m n).1:=by
 obtain ⟨_,h2,_⟩:=Kp hp h n;unfold gj;rw [List.length_take]; omega
theorem Xt {p:Int} {n w:Nat} {m:List (List Int)} (hp:2<=p) (h:MatW p w m):MatW p w (gj p n m):=fun x hx=>(Kp hp h n).1 x (List.mem_of_mem_take hx)
end
section
def Atf (p a:Int):Bool:=match Gn p a with
 | some v=>(v==Jw p a)&&((Hz p a==some v)&&((decide (0<=v)&&decide (v<p))&&(a*v % p==1)))
 | none=>false
def ivB:Bool:=(List.range 98).all fun p=> !(isF p)||(List.range p).all fun a=>a==0||Atf (p:Int) (a:Int)
theorem Api:ivB=true:=by kernel_rfl
theorem Af3 {p a:Int} (hp:isF p=true) (ha:1<=a∧a<p):Gn p a=some (Jw p a)∧Hz p a=some (Jw p a)∧0<=Jw p a∧Jw p a<p∧a*Jw p a % p=1:=by
 have hb:=Gs hp;obtain ⟨q,rfl⟩:=Int.eq_ofNat_of_zero_le (show 0<=p by omega);obtain ⟨b,rfl⟩:=Int.eq_ofNat_of_zero_le (show 0<=a by omega);have h1:=List.all_eq_true.1 Api q (List.mem_range.2 (by omega));rw [hp,Bool.not_true,Bool.false_or] at h1;have h2:=List.all_eq_true.1 h1 b (List.mem_range.2 (by omega))
 have h3:Atf (q:Int) (b:Int)=true:=by
  rcases (Bool.or_eq_true _ _).mp h2 with h | h
  ·have:b=0:=by simpa using h
   omega
  ·exact h
 unfold Atf at h3;split at h3
 ·rename_i v hv;simp only [Bool.and_eq_true,beq_iff_eq,decide_eq_true_eq] at h3;obtain ⟨h4,h5,⟨h6,h7⟩,h8⟩:=h3;subst h4;exact ⟨hv,h5,h6,h7,h8⟩
 ·cases h3
end
section
theorem Aqp {α:Type} (q:α->Bool) (l:List α):(!l.any fun x=> !q x)=l.all q:=by
 induction l with
 | nil=>rfl
 | cons x l ih=>simp only [List.any_cons,List.all_cons,Bool.not_or,Bool.not_not,ih]
theorem V3 (b:Bool):Ud (some (if b then Ctl.next () else Ctl.out false)) (fun _:Unit=>some true)=some b:=by cases b <;> rfl
theorem Xk (x lo hi:Int):Ec x lo hi=some (inR x lo hi):=by
 unfold Ec inR;by_cases h:lo<=x <;> simp [h]
theorem Rm (x lo hi:Int):Dw x lo hi=some (inR x lo hi):=by
 unfold Dw inR;by_cases h:lo<=x <;> simp [h]
theorem Zr (xs:List Int) (lo hi:Int) (hx:xs.length<=1099511627776):Fc xs lo hi=some (xs.all fun x=>inR x lo hi):=by
 unfold Fc;rw [Sh xs (fun x=>inR x lo hi) (.next ()) (.out false) (by omega) (fun i x h=>?_) ?_,V3]
 ·unfold Jg;rw [Bf (by omega),cond_false]
 ·have:=Al h;unfold Jg;rw [Be (by omega),cond_true,h,obs,Xk,obs,Ak (by omega)];cases inR x lo hi <;> rfl
theorem Aad (xs:List Int) (n:Int) (hn: -1000000000<=n∧n<=1000000000) (hx:xs.length<=1099511627776):E9 xs n=some (xs.all fun x=>inR x 0 (n - 1)):=by
 unfold E9;rw [Sh xs (fun x=>inR x 0 (n - 1)) (.next ()) (.out false) (by omega) (fun i x h=>?_) ?_,V3]
 ·unfold Gr;rw [Bf (by omega),cond_false]
 ·have:=Al h;unfold Gr;rw [Be (by omega),cond_true,h,obs,Bo (by omega) (by omega),Rm,obs,Ak (by omega)];cases inR x 0 (n - 1) <;> rfl
theorem Ari {p:Int} (h:inR p 2 97=false):isF p=false:=by rcases Ane.1 h with h | h <;> simp [isF] <;> omega
theorem Aph (p:Int):Iw p=some (isF p):=by
 unfold Iw;rw [Xk,obs];cases hr:inR p 2 97
 ·rw [Ari hr]; rfl
 rw [Bool.not_true,cond_false];obtain ⟨h1,h2⟩:=O8.1 hr;obtain ⟨n,rfl⟩:=Int.eq_ofNat_of_zero_le (show 0<=p by omega)
 have h:Av (fun s_:Nat=>Fw n s_) 4611686018427387904 2=some (if isF n then .next () else .out false):=by
  refine O9 8 (fun i s=>s=i+2∧Aej n s=true) (by omega) _ ⟨rfl,by simp [Aej,List.range_succ]⟩ ?_ ?_
  ·rintro i s hi ⟨hs,hd⟩;unfold Fw;have hm:((s:Int)*(s:Int))=((s*s:Nat):Int):=by simp
   have hss:s*s<=9*9:=Nat.mul_le_mul (by omega) (by omega);rw [hm,Bo (by omega) (by omega)];by_cases hle:s*s<=n
   ·rw [Be (by omega),cond_true,Ak (by omega),show Int.tmod (n:Int) (s:Int)=((n % s:Nat):Int) from by rw [Int.tmod_eq_emod_of_nonneg (by omega)]; rfl];by_cases h0:n % s=0
    ·refine .inr ?_;rw [h0,Ar2 n (by omega) s (by omega) (by omega) hle h0]; rfl
    ·refine .inl ⟨s+1,?_,by omega,Aj9 hd h0⟩;rw [show (((n % s:Nat):Int)==0)=false from by rw [beq_eq_false_iff_ne]; omega,cond_false,Ak (by omega)]
   ·refine .inr ?_;rw [Bf (by omega),cond_false,Aef n (by omega) (by omega) s (by omega) hd (by omega)]; rfl
  ·rintro s ⟨hs,hd⟩;obtain rfl:s=10:=by omega
   unfold Fw;rw [show wI (((10:Nat):Int)*((10:Nat):Int))=100 from Bo (by omega) (by omega),Bf (by omega),cond_false,Aef n (by omega) (by omega) 10 (by omega) hd (by omega)]; rfl
 rw [h,V3]
theorem Ai1 (p x:Int):Gc p x=some (inR x 0 (p - 1)):=by
 unfold Gc inR;by_cases h:0<=x
 ·simp [h,show (x<p↔x<=p - 1) by omega]
 ·simp [h]
theorem Apg (p:Int) (xs:List Int) (hp:2<=p∧p<=97) (hx:xs.length<=1099511627776):Jo p xs=some (xs.all fun x=>inR x 0 (p - 1)):=by
 unfold Jo;rw [Bo (by omega) (by omega),Zr _ _ _ hx]; rfl
theorem Abz (p:Int) (xs:List Int) (n:Int) (hx:xs.length<=1099511627776):Fa p xs n=some (((xs.length:Nat):Int)==n&&xs.all fun x=>inR x 0 (p - 1)):=by
 unfold Fa;cases hn:((xs.length:Nat):Int)==n
 ·rw [show (((xs.length:Nat):Int) !=n)=true by simp only [bne,hn,Bool.not_false]]; rfl
 rw [show (((xs.length:Nat):Int) !=n)=false by simp only [bne,hn,Bool.not_true],cond_false];rw [Sh xs (fun x=>inR x 0 (p - 1)) (.next ()) (.out false) (by omega) (fun i x h=>?_) ?_,V3,Bool.true_and]
 ·unfold Gm;rw [Bf (by omega),cond_false]
 ·have:=Al h;unfold Gm;rw [Be (by omega),cond_true,h,obs,Ai1,obs,Ak (by omega)];cases inR x 0 (p - 1) <;> rfl
theorem Ab9 {p x:Int} (hp:2<=p∧p<=97):E3 p x=some (x % p):=by
 unfold E3;rw [Ak (by omega)]
 have e1:x.tmod p=if 0<=x∨x % p=0 then x % p else x % p - p:=by
  simp only [Int.tmod_eq_emod,Int.dvd_iff_emod_eq_zero];split <;> simp <;> omega
 have h1:=Int.emod_nonneg x (show p≠0 by omega);have h2:=Int.emod_lt_of_pos x (show 0<p by omega);by_cases h:x.tmod p<0
 ·rw [Be h,cond_true,obs,Bo (by omega) (by omega)];congr 1;split at e1 <;> omega
 ·rw [Bf h,cond_false,obs];congr 1;split at e1 <;> omega
theorem Zt {n:Int} (h:0<=n∧n<=1000000):Fg n=some (List.replicate n.toNat 0):=by
 unfold Fg;rw [Ak (by omega)]
theorem Amu (xs:List Int) (h:xs.length<=1000000):Ie xs=some xs:=by
 unfold Ie;rw [Ak (by omega)]
theorem Sd (xs:List Int) (h:xs.length<=1000000):Cw xs=some xs:=by
 unfold Cw;rw [Ak (by omega)]
theorem Ali {p x y:Int} (hp:2<=p∧p<=97) (hx:0<=x∧x<p) (hy:0<=y∧y<p):Im p x y=some ((x+y) % p):=by
 unfold Im;rw [Ak (by omega),Bo (by omega) (by omega),Int.tmod_eq_emod_of_nonneg (by omega)]
theorem Xh {p x y:Int} (hp:2<=p∧p<=97) (hx:0<=x∧x<p) (hy:0<=y∧y<p):0<=x*y∧x*y<=10000:=by
 refine ⟨Int.mul_nonneg hx.1 hy.1,?_⟩;have h1:x*y<=97*y:=Int.mul_le_mul_of_nonneg_right (by omega) hy.1;omega
theorem Vk {p x y:Int} (hp:2<=p∧p<=97) (hx:0<=x∧x<p) (hy:0<=y∧y<p):Eb p x y=some ((x*y) % p):=by
 have:=Xh hp hx hy;unfold Eb;rw [Ak (by omega),Bo (by omega) (by omega),Int.tmod_eq_emod_of_nonneg (by omega)]
end
section
theorem Zq {p x y:Int} (hp:2<=p∧p<=97) (hx:0<=x∧x<p) (hy:0<=y∧y<p):Fe p x y=some ((x - y) % p):=by
 unfold Fe;rw [Ak (by omega),Bo (n:=x+p) (by omega) (by omega),Bo (by omega) (by omega),Int.tmod_eq_emod_of_nonneg (by omega),show x+p - y=x - y+p by omega,Int.add_emod_right]
theorem Agw {ρ:Type} {body:Nat×List (List Int)->Option (Ctl (Nat×List (List Int)) ρ)} {M:List (List Int)} {r:Nat} {x y:List Int} {o:ρ} (hx:M[r]? =some x) (hl:y.length=x.length) (hb:x.length<4611686018427387904)
  (hs:∀ j (h:j<x.length) (z:List Int),z[j]? =some x[j]->body (j,M.set r z)=some (.next (j+1,M.set r (z.set j (y[j]'(by omega)))))) (he:body (x.length,M.set r y)=some (.out o)) :
  Av body 4611686018427387904 (0,M)=some o:=by
 refine Bg x.length (fun j=>(j,M.set r (y.take j++x.drop j))) hb _ ?_ (fun j hj=>?_) ?_
 ·obtain ⟨h1,h2⟩:=gSi.1 hx;simp only [List.take_zero,List.nil_append,List.drop_zero];rw [← h2,List.set_getElem_self]
 ·have h1:(y.take j).length=j:=by rw [List.length_take]; omega
  rw [hs j hj _ (Jl hj h1),Jq hj h1,List.take_add_one,gEg (by omega)]; rfl
 ·rw [List.drop_length,List.append_nil,← hl,List.take_length,hl]; exact he
theorem Vi {ρ:Type} {body:Nat×List Int->Option (Ctl (Nat×List Int) ρ)} {x y:List Int} {o:ρ} (hl:y.length=x.length) (hb:x.length<4611686018427387904)
  (hs:∀ j (h:j<x.length) (z:List Int),z[j]? =some x[j]->body (j,z)=some (.next (j+1,z.set j (y[j]'(by omega))))) (he:body (x.length,y)=some (.out o)) :
  Av body 4611686018427387904 (0,x)=some o:=by
 refine Bg x.length (fun j=>(j,y.take j++x.drop j)) hb _ rfl (fun j hj=>?_) ?_
 ·have h1:(y.take j).length=j:=by rw [List.length_take]; omega
  rw [hs j hj _ (Jl hj h1),Jq hj h1,List.take_add_one,gEg (by omega)]; rfl
 ·rw [List.drop_length,List.append_nil,← hl,List.take_length,hl]; exact he
theorem Arw {ρ:Type} {body:Nat×List (List Int)->Option (Ctl (Nat×List (List Int)) ρ)} {M E:List (List Int)} {r:Nat} {pr:List Int} {o:ρ} (hl:E.length=M.length) (hM:M[r]? =some pr) (hE:E[r]? =some pr)
  (hb:M.length<4611686018427387904) (hs:∀ i (h:i<M.length) (s:List (List Int)),s.length=M.length->s[i]? =some M[i]->s[r]? =some pr->body (i,s)=some (.next (i+1,s.set i (E[i]'(by omega))))) (he:body (M.length,E)=some (.out o)) :
  Av body 4611686018427387904 (0,M)=some o:=by
 refine Bg M.length (fun j=>(j,E.take j++M.drop j)) hb _ rfl (fun j hj=>?_) ?_
 ·have h1:(E.take j).length=j:=by rw [List.length_take]; omega
  rw [hs j hj _ (by simp; omega) (Jl hj h1) ?_,Jq hj h1,List.take_add_one,gEg (by omega)]; rfl;by_cases h2:r<j
  ·rw [List.getElem?_append_left (by omega),List.getElem?_take,if_pos h2]; exact hE
  ·rw [List.getElem?_append_right (by omega),h1,List.getElem?_drop,show j+(r - j)=r by omega]; exact hM
 ·rw [List.drop_length,List.append_nil,← hl,List.take_length,hl]; exact he
theorem No {α:Type} {m:List α} {i:Nat} {x z:α} (h:m[i]? =some x):(m.set i z)[i]? =some z:=by
 rw [List.getElem?_set_self (Al h)]
theorem H6 {α:Type} {m:List α} {i:Nat} {x:α} (h:m[i]? =some x):m.set i x=m:=by
 obtain ⟨h1,h2⟩:=gSi.1 h;rw [← h2,List.set_getElem_self]
theorem Alh {α:Type} {m:List α} {i j:Nat} {z:α} (h:i≠j):(m.set i z)[j]? =m[j]?:=List.getElem?_set_ne h
theorem Aax {p k:Int} {x:List Int} {j:Nat} (h:j<(Cq p k x).length):(Cq p k x)[j]=x[j]'(by simpa [Cq] using h)*k % p:=by simp [Cq]
theorem Aaz {p f:Int} {x v:List Int} {j:Nat} (h:j<(C0 p f x v).length):(C0 p f x v)[j]=(x[j]'(by simp [C0] at h; omega) - f*v[j]'(by simp [C0] at h; omega)) % p:=by simp [C0]
theorem Lr {p:Int} {c r:Nat} {pr:List Int} {m:List (List Int)} {i:Nat} (h:i<(Fd p c r pr m).length) :
  (Fd p c r pr m)[i]=if i=r then pr else C0 p ((m[i]'(by simpa [Fd] using h)).getD c 0) (m[i]'(by simpa [Fd] using h)) pr:=by simp [Fd]
theorem K0 {p:Int} {w j:Nat} {x:List Int} (hx:VecW p w x) (hj:j<x.length):0<=x[j]∧x[j]<p:=hx.2 _ (List.getElem_mem hj)
theorem Dv {p:Int} {w j:Nat} {x:List Int} (hx:VecW p w x) (hj:j<w):0<=x.getD j 0∧x.getD j 0<p∧x[j]? =some (x.getD j 0):=by
 have h:j<x.length:=by rw [hx.1]; exact hj
 have e:x[j]? =some x[j]:=gEg h;rw [A3 e];exact ⟨(K0 hx h).1,(K0 hx h).2,e⟩
theorem Amf {p f a b:Int}:(a - f*b % p) % p=(a - f*b) % p:=by rw [Int.sub_emod_emod]
section
variable {p:Int} {w:Nat} {m:List (List Int)}
theorem Anj {r:Nat} {x:List Int} {k:Int} (hp:2<=p∧p<=97) (hx:VecW p w x) (hw:w<=100000) (hr:m[r]? =some x) (hk:0<=k∧k<p) :
  Av (fun s_:Nat×List (List Int)=>E4 x r p k s_.1 s_.2) 4611686018427387904 (0,m)=some (m.set r (Cq p k x)):=by
 have hl:=hx.1;refine Agw hr (y:=Cq p k x) (by simp [Cq]) (by omega) (fun j hj z hz=>?_) ?_
 ·have hv:=K0 hx hj
  try dsimp only
  unfold E4;rw [Be (by omega),cond_true,No hr,obs,hz,obs,Vk hp hv hk,obs,Ak (by omega),List.set_set,Aax]
 ·try dsimp only
  unfold E4;rw [Bf (by omega),cond_false]
theorem Aqa {i r:Nat} {x v:List Int} {f:Int} (hp:2<=p∧p<=97) (hx:VecW p w x) (hv:VecW p w v) (hw:w<=100000) (hi:m[i]? =some x) (hr:m[r]? =some v) (hn:i≠r) (hf:0<=f∧f<p) :
  Av (fun s_:Nat×List (List Int)=>Er x i r p f s_.1 s_.2) 4611686018427387904 (0,m)=some (m.set i (C0 p f x v)):=by
 have hl:=hx.1;have hl':=hv.1;refine Agw hi (y:=C0 p f x v) (by simp [C0]; omega) (by omega) (fun j hj z hz=>?_) ?_
 ·have h1:=K0 hx hj;have h2:=K0 hv (j:=j) (by omega)
  try dsimp only
  unfold Er
  rw [Be (by omega),cond_true,No hi,obs,hz,obs,Alh hn,hr,obs,gEg (show j<v.length by omega),obs,Vk hp hf h2,obs,
   Zq hp h1 (M2 hp.1),obs,Ak (by omega),List.set_set,Aaz,Amf]
 ·try dsimp only
  unfold Er;rw [Bf (by omega),cond_false]
theorem Ab7 {c r:Nat} {pr:List Int} (h:r<m.length):(Fd p c r pr m)[r]? =some pr:=by
 rw [gEg (by rw [Lp]; exact h),Lr,if_pos rfl]
theorem Apm {M0:List (List Int)} {c r:Nat} {pr:List Int} (hp:2<=p∧p<=97) (hm:MatW p w m) (hw:w<=100000) (hl:m.length<=100000) (hr:m[r]? =some pr) (hc:c<w) (h0:M0.length=m.length) :
  Av (fun s_:Nat×List (List Int)=>Ez M0 r c p s_.1 s_.2) 4611686018427387904 (0,m)=some (Fd p c r pr m):=by
 refine Arw (E:=Fd p c r pr m) (Lp ..) hr (Ab7 (Al hr)) (by omega) (fun i hi s hs h1 h2=>?_) ?_
 ·have hx:=hm _ (List.getElem_mem hi);have hv:=hm _ (List.mem_of_getElem? hr);obtain ⟨g1,g2,g3⟩:=Dv hx hc;generalize hxe:m[i]=x at *
  try dsimp only
  unfold Ez;rw [Be (by omega),cond_true,Lr,hxe];by_cases hir:i=r
  ·subst hir;rw [if_pos rfl,show (((i:Nat):Int)==((i:Nat):Int))=true from beq_self_eq_true _,cond_true,obs,cond_true,obs,Ak (by omega),H6 h2]
  ·rw [if_neg hir,show (((i:Nat):Int)==((r:Nat):Int))=false from by rw [beq_eq_false_iff_ne]; omega,cond_false,h1,obs,g3,obs,obs];by_cases h0:x.getD c 0=0
   ·rw [h0,show ((0:Int)==0)=true from rfl,cond_true,obs,Ak (by omega),Pg hx.2 (by rw [hx.1,hv.1]; exact Nat.le_refl _),H6 h1]
   ·rw [show (x.getD c 0==0)=false from beq_eq_false_iff_ne.2 h0,cond_false,obs,g3,obs,Aqa hp hx hv hw h1 h2 hir ⟨g1,g2⟩,obs,Ak (by omega)]
 ·try dsimp only
  unfold Ez;rw [Bf (by omega),cond_false]
theorem Af7 {c r:Nat} {pr y:List Int}:Fd p c r pr (m.set r y)=Fd p c r pr m:=by
 apply List.ext_getElem
 ·rw [Lp,Lp,List.length_set]
 ·intro i h1 h2;rw [Lr,Lr];by_cases h:i=r
  ·rw [if_pos h,if_pos h]
  ·rw [if_neg h,if_neg h];simp only [List.getElem_set,if_neg (fun e=>h (Eq.symm e))]
theorem Arm {c r:Nat} (hm:MatW p w m) (hc:c<w) (hl:m.length<=100000) (hr:r<=m.length) :
  Av (fun s_:Nat=>Dr m c s_) 4611686018427387904 r=some (B6 m c r):=by
 have hle:=N3 (c:=c) hr;refine Bg ((m.drop r).findIdx fun x=>x.getD c 0 !=0) (fun t=>r+t) (by unfold B6 at hle; omega) _ rfl (fun t ht=>?_) ?_
 ·have h1:r+t<B6 m c r:=by unfold B6; omega
  have h0:=Uw (i:=r+t) (by omega) h1 hr;obtain ⟨x,hx⟩:=D6 (show r+t<m.length by omega);obtain ⟨g1,g2,g3⟩:=Dv (hm _ (List.mem_of_getElem? hx)) hc;rw [A3 hx] at h0
  try dsimp only
  unfold Dr;rw [Be (by omega),cond_true,hx,obs,g3,obs,obs,h0,show ((0:Int)==0)=true from rfl,cond_true,Ak (by omega),Nat.add_assoc]
 ·show Dr m c (B6 m c r)=_;unfold Dr;by_cases h:B6 m c r=m.length
  ·rw [Bf (by omega),cond_false,obs,cond_false]
  ·have h0:=Un h hr;obtain ⟨x,hx⟩:=D6 (show B6 m c r<m.length by omega);obtain ⟨g1,g2,g3⟩:=Dv (hm _ (List.mem_of_getElem? hx)) hc;rw [A3 hx] at h0;rw [Be (by omega),cond_true,hx,obs,g3,obs,obs,beq_eq_false_iff_ne.2 h0,cond_false]
theorem Akc {r k:Nat} (hr:r<m.length) (hk:k<m.length):(Hj m r k)[r]? =some (m.getD k []):=by
 unfold Hj;by_cases h:r=k
 ·subst h;rw [List.getElem?_set_self (by rw [List.length_set]; exact hr)]
 ·rw [List.getElem?_set_ne (Ne.symm h),List.getElem?_set_self hr]
theorem Ap8 {n:Nat} (hp:isF p=true) (hm:MatW p w m) (hn:n<=w) (hw:w<=100000) (hl:m.length<=100000) :
  Av (fun s_:Nat×Nat×List (List Int)=>C4 (n:Int) p s_.1 s_.2.1 s_.2.2) 4611686018427387904 (0,0,m)=some (gjT p m n):=by
 have hb:=Gs hp;refine O9 n (fun c s=>s=((gjT p m c).1,c,(gjT p m c).2)) (by omega) _ rfl (fun c s hc hI=>?_) (fun s hI=>?_)
 ·subst hI;obtain ⟨hm',hr,hl'⟩:=Kp hb.1 hm c;by_cases hlt:(gjT p m c).1<(gjT p m c).2.length
  ·refine .inl ?_;refine ⟨_,?_,rfl⟩;show C4 _ _ _ _ _=some (Ctl.next ((gjS p c (gjT p m c)).1,c+1,(gjS p c (gjT p m c)).2));generalize gjT p m c=s at *;obtain ⟨r,M⟩:=s
   try dsimp only at *
   unfold C4 gjS;rw [Be (by omega),cond_true,obs,Be (by omega),cond_true,Arm hm' (by omega) (by omega) hr,obs,if_pos hlt];by_cases hk:B6 M c r=M.length
   ·rw [hk,beq_self_eq_true,cond_true,obs,if_pos rfl];exact Ak (by omega) _
   ·have hle:=N3 (c:=c) hr;have hkl:B6 M c r<M.length:=by omega
    rw [show (((B6 M c r:Nat):Int)==((M.length:Nat):Int))=false from by rw [beq_eq_false_iff_ne]; omega,cond_false,if_neg hk];have hnz:=Un hk hr;obtain ⟨x,hx⟩:=D6 hlt;obtain ⟨y,hy⟩:=D6 hkl;have hyM:=hm' _ (List.mem_of_getElem? hy);obtain ⟨g1,g2,g3⟩:=Dv hyM (show c<w by omega);rw [A3 hy] at hnz;obtain ⟨i1,_,i2,i3,_⟩:=Af3 hp (a:=y.getD c 0) (by omega);have hs:=Akc hlt hkl;have hpm:=Wh hm' hlt hkl;have hsl:=Ns M r (B6 M c r);have hsw:(M.set r y).set (B6 M c r) x=Hj M r (B6 M c r):=by unfold Hj; rw [A3 hx,A3 hy]
    rw [hx,obs,hy,obs,hsw,A3 hy];rw [A3 hy] at hs;generalize Hj M r (B6 M c r)=W at *;have hpr:VecW p w (Cq p (Jw p (y.getD c 0)) y):=Nc hb.1 hyM.1
    rw [hs,obs,g3,obs,i1,obs,Anj hb hyM hw hs ⟨i2,i3⟩,obs,
     Apm hb (w:=w) (m:=W.set r (Cq p (Jw p (y.getD c 0)) y)) (pr:=Cq p (Jw p (y.getD c 0)) y) (fun z hz=>?_) hw (by rw [List.length_set]; omega) (No hs) (by omega) rfl,obs,Ak (by omega),obs,Af7]
    ·exact Ak (by omega) _
    ·rcases List.mem_or_eq_of_mem_set hz with hz | rfl
     ·exact hpm _ hz
     ·exact hpr
  ·refine .inr ?_;rw [Z1 hlt n (by omega)];generalize gjT p m c=s at *
   try dsimp only
   unfold C4;rw [Be (by omega),cond_true,obs,Bf (by omega),cond_false]
 ·subst hI
  try dsimp only
  unfold C4;rw [Bf (by omega),cond_false,obs,cond_false]
theorem Are (hm:MatW p w m) (hw:w<=100000) (hl:m.length<=100000) :
  Av (fun s_:Nat×List (List Int)=>Dn m s_.1 s_.2) 4611686018427387904 (0,([]:List (List Int)))=some m:=by
 have h:=Jk (body:=fun s_:Nat×List (List Int)=>Dn m s_.1 s_.2) m id [] (F:=4611686018427387904) (by omega) m (fun i x h=>?_) ?_
 ·simpa using h
 ·have:=Al h;have hx:=(hm x (List.mem_of_getElem? h)).1
  try dsimp only
  unfold Dn;rw [Be (by omega),cond_true,h,obs,Sd _ (by omega),obs,Ak (by simp; omega),Ak (by omega)]; rfl
 ·try dsimp only
  unfold Dn;rw [Bf (by omega),cond_false,List.map_id,List.nil_append]
theorem Ub {n:Nat} (hp:isF p=true) (hm:MatW p w m) (hn:n<=w) (hw:w<=100000) (hl:m.length<=100000):Dh p (n:Int) m=some (gj p n m):=by
 have hb:=Gs hp;obtain ⟨_,h2,h3⟩:=Kp hb.1 hm n;unfold Dh;rw [Are hm hw hl,obs,Ap8 hp hm hn hw hl,obs];exact Ak (by omega) _
end
end
section
theorem Aib {ρ:Type} {body:Nat×List (List Int)×List (List Int)->Option (Ctl (Nat×List (List Int)×List (List Int)) ρ)} {M E A B:List (List Int)} {r:Nat} {pr pa:List Int} {o:ρ}
  (hl:E.length=M.length) (hA:A.length=M.length) (hB:B.length=M.length) (hM:M[r]? =some pr) (hE:E[r]? =some pr) (hM':A[r]? =some pa) (hE':B[r]? =some pa) (hb:M.length<4611686018427387904)
  (hs:∀ i (h:i<M.length) (s t:List (List Int)),s.length=M.length->t.length=M.length->s[i]? =some M[i]->t[i]? =some (A[i]'(by omega))->s[r]? =some pr->t[r]? =some pa ->
   body (i,s,t)=some (.next (i+1,s.set i (E[i]'(by omega)),t.set i (B[i]'(by omega))))) (he:body (M.length,E,B)=some (.out o)) :
  Av body 4611686018427387904 (0,M,A)=some o:=by
 have hr:∀ {M E:List (List Int)} {pr:List Int} {j:Nat},(E.take j).length=j->M[r]? =some pr->E[r]? =some pr->(E.take j++M.drop j)[r]? =some pr:=by
  intro M E pr j h1 hM hE;by_cases h2:r<j
  ·rw [List.getElem?_append_left (by omega),List.getElem?_take,if_pos h2]; exact hE
  ·rw [List.getElem?_append_right (by omega),h1,List.getElem?_drop,show j+(r - j)=r by omega]; exact hM
 refine Bg M.length (fun j=>(j,E.take j++M.drop j,B.take j++A.drop j)) hb _ rfl (fun j hj=>?_) ?_
 ·have h1:(E.take j).length=j:=by rw [List.length_take]; omega
  have h2:(B.take j).length=j:=by rw [List.length_take]; omega
  rw [hs j hj _ _ (by simp; omega) (by simp; omega) (Jl hj h1) (Jl (by omega) h2) (hr h1 hM hE) (hr h2 hM' hE'),Jq hj h1,Jq (by omega) h2,List.take_add_one,gEg (by omega),List.take_add_one,gEg (by omega)]; rfl
 ·rw [List.drop_length,List.append_nil,← hl,List.take_length,hl,← hA,List.drop_length,List.append_nil,hA,← hB,List.take_length,hB]; exact he
theorem VecW.tk {p:Int} {w u:Nat} {x:List Int} (h:VecW p w x) (hu:u<=w):VecW p u (x.take u):=⟨by rw [List.length_take,h.1]; omega,fun a ha=>h.2 a (List.mem_of_mem_take ha)⟩
theorem VecW.dr {p:Int} {w u:Nat} {x:List Int} (h:VecW p w x):VecW p (w - u) (x.drop u):=⟨by rw [List.length_drop,h.1],fun a ha=>h.2 a (List.mem_of_mem_drop ha)⟩
theorem MatW.tk {p:Int} {w u:Nat} {m:List (List Int)} (h:MatW p w m) (hu:u<=w):MatW p u (m.map (·.take u)):=fun x hx=>by
 obtain ⟨y,hy,rfl⟩:=List.mem_map.1 hx;exact (h y hy).tk hu
theorem MatW.dr {p:Int} {w u:Nat} {m:List (List Int)} (h:MatW p w m):MatW p (w - u) (m.map (·.drop u)):=fun x hx=>by
 obtain ⟨y,hy,rfl⟩:=List.mem_map.1 hx;exact (h y hy).dr
section
variable {p:Int} {w:Nat} {m:List (List Int)}
theorem Alb {x v:List Int} {f:Int} (hp:2<=p∧p<=97) (hx:VecW p w x) (hv:VecW p w v) (hw:w<=100000) (hf:0<=f∧f<p) :
  Gz p x (wI (0 - f)) v=some (C0 p f x v):=by
 have hl:=hx.1;have hl':=hv.1;unfold Gz;refine Vi (y:=C0 p f x v) (by simp [C0]; omega) (by omega) (fun j hj z hz=>?_) ?_
 ·have h1:=K0 hx hj;have h2:=K0 hv (j:=j) (by omega);have h3:=Xh hp hf h2;have e:(0 - f)*v[j]= -(f*v[j]):=by rw [Int.zero_sub,Int.neg_mul]
  try dsimp only
  unfold Gv;rw [Be (by omega),cond_true,gEg (show j<v.length by omega),obs,hz,obs,Bo (n:=0 - f) (by omega) (by omega),e,Bo (n:= -(f*v[j])) (by omega) (by omega),Bo (by omega) (by omega),Ab9 hp,obs,Ak (by omega),Aaz]; rfl
 ·try dsimp only
  unfold Gv;rw [Bf (by omega),cond_false]
theorem Ah2 {r k:Nat} {x y:List Int} {b:Int} (hr:m[r]? =some x) (hk:m[k]? =some y):Bk 0 (r:Int) (k:Int) b p m=some (Hj m r k):=by
 unfold Bk Hj;rw [show ((0:Int)==0)=true from rfl,cond_true,C5 (by omega),Int.toNat_natCast,hk,obs,C5 (by omega),Int.toNat_natCast,hr,obs,A3 hr,A3 hk]
theorem Aim {r:Nat} {x:List Int} {a b:Int} (hp:isF p=true) (hx:VecW p w x) (hw:w<=100000) (hr:m[r]? =some x) (ha:1<=a∧a<p) :
  Bk 1 (r:Int) b a p m=some (m.set r (Cq p (Jw p a) x)):=by
 obtain ⟨_,i1,i2,i3,_⟩:=Af3 hp ha;have hb:=Gs hp;have hl:=hx.1;unfold Bk;rw [show ((1:Int)==0)=false from rfl,cond_false,show ((1:Int)==1)=true from rfl,cond_true,i1,obs,C5 (by omega),Int.toNat_natCast,hr,obs];refine Agw hr (y:=Cq p (Jw p a) x) (by simp [Cq]) (by omega) (fun j hj z hz=>?_) ?_
 ·have hv:=K0 hx hj;have h3:=Xh hb hv ⟨i2,i3⟩
  try dsimp only
  unfold Ct;rw [Be (by omega),cond_true,C5 (by omega),Int.toNat_natCast,No hr,obs,Ak (by omega),hz,obs,Ak (by omega),Ak (by omega),List.set_set,Aax,Bo (by omega) (by omega),Int.tmod_eq_emod_of_nonneg (by omega)]
 ·try dsimp only
  unfold Ct;rw [Bf (by omega),cond_false]
theorem Aip {i r:Nat} {x v:List Int} {f:Int} (hp:2<=p∧p<=97) (hx:VecW p w x) (hv:VecW p w v) (hw:w<=100000) (hi:m[i]? =some x) (hr:m[r]? =some v) (hn:i≠r) (hf:0<=f∧f<p) :
  Bk 2 (i:Int) (r:Int) f p m=some (m.set i (C0 p f x v)):=by
 have hl:=hx.1;have hl':=hv.1;unfold Bk
 rw [show ((2:Int)==0)=false from rfl,cond_false,show ((2:Int)==1)=false from rfl,cond_false,show ((2:Int)==2)=true from rfl,cond_true,C5 (by omega),Int.toNat_natCast,hi,obs,C5 (by omega),Int.toNat_natCast,hr,obs,
  Ak hn,Alb hp hx hv hw hf,obs,Ak (by simp [C0]; omega)]
theorem Ve {r:Nat} (hr:r<m.length):Hj m r r=m:=by
 obtain ⟨x,hx⟩:=D6 hr;unfold Hj;rw [A3 hx,List.set_set,H6 hx]
theorem Ar9 {A:List (List Int)} {r k:Nat} (hA:A.length=m.length) (hr:r<m.length) (hk:k<m.length):Bu 0 (r:Int) (k:Int) 0 p m A=some (Hj m r k,Hj A r k):=by
 unfold Bu;by_cases h:r=k
 ·subst h;rw [beq_self_eq_true,cond_true,Ve hr,Ve (by omega)]
 ·obtain ⟨x,hx⟩:=D6 hr;obtain ⟨y,hy⟩:=D6 hk;obtain ⟨x',hx'⟩:=D6 (show r<A.length by omega);obtain ⟨y',hy'⟩:=D6 (show k<A.length by omega);rw [show ([(0:Int),(r:Int),(k:Int),0]==[0,(r:Int),(r:Int),0])=false from by rw [beq_eq_false_iff_ne]; intro e; simp at e; omega,cond_false,Ah2 hx hy,obs,Ak (Ns ..),Ah2 hx' hy',obs,Ak (Ns ..)]
theorem Ar4 {A:List (List Int)} {w' r:Nat} {x y:List Int} {a:Int} (hp:isF p=true) (hx:VecW p w x) (hy:VecW p w' y) (hw:w<=100000) (hw':w'<=100000) (hr:m[r]? =some x) (hA:A[r]? =some y) (ha:1<=a∧a<p) :
  Bu 1 (r:Int) 0 a p m A=some (m.set r (Cq p (Jw p a) x),A.set r (Cq p (Jw p a) y)):=by
 unfold Bu;rw [show ([(1:Int),(r:Int),0,a]==[0,(r:Int),(r:Int),0])=false from by rw [beq_eq_false_iff_ne]; intro e; simp at e,cond_false,Aim hp hx hw hr ha,obs,Ak (List.length_set ..),Aim hp hy hw' hA ha,obs,Ak (List.length_set ..)]
theorem Ara {A:List (List Int)} {w' i r:Nat} {x v y u:List Int} {f:Int} (hp:2<=p∧p<=97) (hx:VecW p w x) (hv:VecW p w v) (hy:VecW p w' y) (hu:VecW p w' u) (hw:w<=100000) (hw':w'<=100000)
  (hi:m[i]? =some x) (hr:m[r]? =some v) (hi':A[i]? =some y) (hr':A[r]? =some u) (hn:i≠r) (hf:0<=f∧f<p) :
  Bu 2 (i:Int) (r:Int) f p m A=some (m.set i (C0 p f x v),A.set i (C0 p f y u)):=by
 unfold Bu;rw [show ([(2:Int),(i:Int),(r:Int),f]==[0,(i:Int),(i:Int),0])=false from by rw [beq_eq_false_iff_ne]; intro e; simp at e,cond_false,Aip hp hx hv hw hi hr hn hf,obs,Ak (List.length_set ..),Aip hp hy hu hw' hi' hr' hn hf,obs,Ak (List.length_set ..)]
def Qf (p:Int) (c r:Nat) (pa:List Int) (M A:List (List Int)):List (List Int):=A.mapIdx fun i x=>if i=r then pa else C0 p ((M.getD i []).getD c 0) x pa
theorem L9 {c r:Nat} {pa:List Int} {M A:List (List Int)} {i:Nat} (h:i<(Qf p c r pa M A).length) :
  (Qf p c r pa M A)[i]=if i=r then pa else C0 p ((M.getD i []).getD c 0) (A[i]'(by simpa [Qf] using h)) pa:=by simp [Qf]
theorem An3 {M0:List (List Int)×List (List Int)} {A:List (List Int)} {w' c r:Nat} {pr pa:List Int} (hp:2<=p∧p<=97) (hm:MatW p w m) (hA:MatW p w' A) (hlA:A.length=m.length) (hw:w<=100000) (hw':w'<=100000) (hl:m.length<=100000)
  (hr:m[r]? =some pr) (hr':A[r]? =some pa) (hc:c<w) (h0:M0.1.length=m.length) :
  Av (fun s_:Nat×List (List Int)×List (List Int)=>D8 M0 r c p s_.1 s_.2.1 s_.2.2) 4611686018427387904 (0,m,A)=some (Fd p c r pr m,Qf p c r pa m A):=by
 have hla:(Qf p c r pa m A).length=m.length:=by simp [Qf,hlA]
 have hr2:=Al hr;refine Aib (E:=Fd p c r pr m) (B:=Qf p c r pa m A) (Lp ..) hlA hla hr (Ab7 hr2) hr' ?_ (by omega) (fun i hi s t hs ht h1 k1 h2 k2=>?_) ?_
 ·rw [gEg (by omega),L9,if_pos rfl]
 ·have hx:=hm _ (List.getElem_mem hi);have hy:=hA _ (List.getElem_mem (show i<A.length by omega));have hv:=hm _ (List.mem_of_getElem? hr);have hu:=hA _ (List.mem_of_getElem? hr');obtain ⟨g1,g2,g3⟩:=Dv hx hc;have hD:m.getD i []=m[i]:=A3 (gEg hi)
  try dsimp only
  unfold D8;rw [Be (by omega),cond_true,Lr,L9,hD];generalize m[i]=x at *;generalize A[i]=y at *;by_cases hir:i=r
  ·subst hir;rw [if_pos rfl,if_pos rfl,show (((i:Nat):Int) !=((i:Nat):Int))=false from bne_self_eq_false _,cond_false,obs,cond_false,obs,H6 h2,H6 k2];exact Ak (by omega) _
  ·rw [if_neg hir,if_neg hir,show (((i:Nat):Int) !=((r:Nat):Int))=true from by rw [bne_iff_ne]; omega,cond_true,h1,obs,g3,obs,obs];by_cases h0:x.getD c 0=0
   ·rw [h0,show ((0:Int) !=0)=false from rfl,cond_false,obs,Pg hx.2 (by rw [hx.1,hv.1]; exact Nat.le_refl _),Pg hy.2 (by rw [hy.1,hu.1]; exact Nat.le_refl _),H6 h1,H6 k1];exact Ak (by omega) _
   ·rw [show (x.getD c 0 !=0)=true from bne_iff_ne.2 h0,cond_true,obs,g3,obs,Ara hp hx hv hy hu hw hw' h1 h2 k1 k2 hir ⟨g1,g2⟩,obs,obs];exact Ak (by omega) _
 ·try dsimp only
  unfold D8;rw [Bf (by omega),cond_false]
theorem Arc {c r:Nat} (hm:MatW p w m) (hc:c<w) (hl:m.length<=100000) (hr:r<=m.length) :
  Av (fun s_:Nat=>Dg m c s_) 4611686018427387904 r=some (B6 m c r):=by
 have hle:=N3 (c:=c) hr;refine Bg ((m.drop r).findIdx fun x=>x.getD c 0 !=0) (fun t=>r+t) (by unfold B6 at hle; omega) _ rfl (fun t ht=>?_) ?_
 ·have h1:r+t<B6 m c r:=by unfold B6; omega
  have h0:=Uw (i:=r+t) (by omega) h1 hr;obtain ⟨x,hx⟩:=D6 (show r+t<m.length by omega);obtain ⟨g1,g2,g3⟩:=Dv (hm _ (List.mem_of_getElem? hx)) hc;rw [A3 hx] at h0
  try dsimp only
  unfold Dg;rw [Be (by omega),cond_true,hx,obs,g3,obs,obs,h0,show ((0:Int)==0)=true from rfl,cond_true,Ak (by omega),Nat.add_assoc]
 ·show Dg m c (B6 m c r)=_;unfold Dg;by_cases h:B6 m c r=m.length
  ·rw [Bf (by omega),cond_false,obs,cond_false]
  ·have h0:=Un h hr;obtain ⟨x,hx⟩:=D6 (show B6 m c r<m.length by omega);obtain ⟨g1,g2,g3⟩:=Dv (hm _ (List.mem_of_getElem? hx)) hc;rw [A3 hx] at h0;rw [Be (by omega),cond_true,hx,obs,g3,obs,obs,beq_eq_false_iff_ne.2 h0,cond_false]
theorem Hd {x:List Int} {u c:Nat} (h:c<u):(x.take u).getD c 0=x.getD c 0:=by
 rw [gDg,List.getElem?_take,if_pos h,gDg]
theorem Ah1 {u c r:Nat} (h:c<u):B6 (m.map (·.take u)) c r=B6 m c r:=by
 unfold B6;rw [← List.map_drop,List.findIdx_map];congr 2;funext x;exact congrArg (· !=0) (Hd h)
theorem Pp {f:List Int->List Int} (hf:f []=[]) {i:Nat}:(m.map f).getD i []=f (m.getD i []):=by
 rw [gDg,List.getElem?_map,gDg];cases m[i]? with
 | none=>exact hf.symm
 | some x=>rfl
theorem Zk {f:List Int->List Int} (hf:f []=[]) {r k:Nat}:(Hj m r k).map f=Hj (m.map f) r k:=by
 unfold Hj;rw [List.map_set,List.map_set,Pp hf,Pp hf]
theorem Aew {k:Int} {x:List Int} {u:Nat}:(Cq p k x).take u=Cq p k (x.take u):=by simp [Cq,List.map_take]
theorem Aet {k:Int} {x:List Int} {u:Nat}:(Cq p k x).drop u=Cq p k (x.drop u):=by simp [Cq,List.map_drop]
theorem Am8 {k:Int} {x v:List Int} {u:Nat}:(C0 p k x v).take u=C0 p k (x.take u) (v.take u):=by simp [C0,List.take_zipWith]
theorem Amx {k:Int} {x v:List Int} {u:Nat}:(C0 p k x v).drop u=C0 p k (x.drop u) (v.drop u):=by simp [C0,List.drop_zipWith]
theorem Ai6 {c r u:Nat} {pr:List Int} (h:c<u):(Fd p c r pr m).map (·.take u)=Fd p c r (pr.take u) (m.map (·.take u)):=by
 apply List.ext_getElem
 ·simp [Fd]
 ·intro i h1 h2;rw [List.getElem_map,Lr,Lr,List.getElem_map,Hd h];split
  ·rfl
  ·exact Am8
theorem Ajd {c r u:Nat} {pr:List Int} (h:c<u):(Fd p c r pr m).map (·.drop u)=Qf p c r (pr.drop u) (m.map (·.take u)) (m.map (·.drop u)):=by
 apply List.ext_getElem
 ·simp [Fd,Qf]
 ·intro i h1 h2;rw [List.getElem_map,Lr,L9,List.getElem_map,Pp (f:=(·.take u)) List.take_nil,Hd h,show m.getD i []=m[i]'(by simpa [Fd] using h1) from A3 (gEg (by simpa [Fd] using h1))];split
  ·rfl
  ·exact Amx
theorem Ahk {c r:Nat} {pa y z:List Int} {M A:List (List Int)}:Qf p c r pa (M.set r z) (A.set r y)=Qf p c r pa M A:=by
 apply List.ext_getElem
 ·simp [Qf]
 ·intro i h1 h2;rw [L9,L9];by_cases h:i=r
  ·rw [if_pos h,if_pos h]
  ·rw [if_neg h,if_neg h];simp only [List.getElem_set,if_neg (fun e=>h (Eq.symm e)),gDg,List.getElem?_set_ne (Ne.symm h)]
def rdW (u:Nat) (W:List (List Int)):List (List Int):=W.map (·.take u)
def alW (u:Nat) (W:List (List Int)):List (List Int):=W.map (·.drop u)
theorem Apa {n u:Nat} (hp:isF p=true) (hm:MatW p w m) (hn:n<=u) (hu:u<=w) (hw:w<=100000) (hl:m.length<=100000) :
  Av (fun s_:Nat×Nat×List (List Int)×List (List Int)=>Cm (n:Int) p s_.1 s_.2.1 s_.2.2.1 s_.2.2.2) 4611686018427387904 (0,0,rdW u m,alW u m)=some ((gjT p m n).1,rdW u (gjT p m n).2,alW u (gjT p m n).2):=by
 have hb:=Gs hp;refine O9 n (fun c s=>s=((gjT p m c).1,c,rdW u (gjT p m c).2,alW u (gjT p m c).2)) (by omega) _ rfl (fun c s hc hI=>?_) (fun s hI=>?_)
 ·subst hI;obtain ⟨hm',hr,hl'⟩:=Kp hb.1 hm c;have hlr:(rdW u (gjT p m c).2).length=(gjT p m c).2.length:=List.length_map ..;have hla:(alW u (gjT p m c).2).length=(gjT p m c).2.length:=List.length_map ..;by_cases hlt:(gjT p m c).1<(gjT p m c).2.length
  ·refine .inl ?_;refine ⟨_,?_,rfl⟩;show Cm _ _ _ _ _ _=some (Ctl.next ((gjS p c (gjT p m c)).1,c+1,rdW u (gjS p c (gjT p m c)).2,alW u (gjS p c (gjT p m c)).2));generalize gjT p m c=s at *;obtain ⟨r,M⟩:=s
   try dsimp only at *
   have hR:MatW p u (rdW u M):=hm'.tk hu;have hA:MatW p (w - u) (alW u M):=hm'.dr;have hpv:B6 (rdW u M) c r=B6 M c r:=Ah1 (by omega);unfold Cm gjS;rw [Be (by omega),cond_true,obs,Be (by omega),cond_true,Arc hR (by omega) (by omega) (by omega),obs,if_pos hlt,hlr,hpv];by_cases hk:B6 M c r=M.length
   ·rw [hk,beq_self_eq_true,cond_true,obs,if_pos rfl];exact Ak (by omega) _
   ·have hle:=N3 (c:=c) hr;have hkl:B6 M c r<M.length:=by omega
    rw [show (((B6 M c r:Nat):Int)==((M.length:Nat):Int))=false from by rw [beq_eq_false_iff_ne]; omega,cond_false,if_neg hk];have hnz:=Un hk hr;obtain ⟨y,hy⟩:=D6 hkl;have hyM:=hm' _ (List.mem_of_getElem? hy);obtain ⟨g1,g2,_⟩:=Dv hyM (show c<w by omega);rw [A3 hy] at hnz;have hs:=Akc hlt hkl;rw [A3 hy] at hs;have hpm:=Wh hm' hlt hkl;have hsl:=Ns M r (B6 M c r);have e1:Hj (rdW u M) r (B6 M c r)=rdW u (Hj M r (B6 M c r)):=(Zk List.take_nil).symm;have e2:Hj (alW u M) r (B6 M c r)=alW u (Hj M r (B6 M c r)):=(Zk List.drop_nil).symm;rw [Ar9 (by omega) (by omega) (by omega),obs,e1,e2,A3 hy];generalize Hj M r (B6 M c r)=W at *;have hs1:(rdW u W)[r]? =some (y.take u):=by simp [rdW,hs]
    have hs2:(alW u W)[r]? =some (y.drop u):=by simp [alW,hs]
    have g4:(y.take u)[c]? =some (y.getD c 0):=by rw [(Dv (hyM.tk hu) (show c<u by omega)).2.2,Hd (by omega)]
    have q1:VecW p u (Cq p (Jw p (y.getD c 0)) (y.take u)):=Nc hb.1 (hyM.tk hu).1;have q2:VecW p (w - u) (Cq p (Jw p (y.getD c 0)) (y.drop u)):=Nc hb.1 hyM.dr.1;have l1:(rdW u W).length=W.length:=List.length_map ..;have l2:(alW u W).length=W.length:=List.length_map ..
    try dsimp only
    rw [hs1,obs,g4,obs,Ar4 hp (hyM.tk hu) hyM.dr (by omega) (by omega) hs1 hs2 (by omega),obs]
    try dsimp only
    rw [An3 hb (w:=u) (w':=w - u) (pr:=Cq p (Jw p (y.getD c 0)) (y.take u)) (pa:=Cq p (Jw p (y.getD c 0)) (y.drop u)) (fun z hz=>?_) (fun z hz=>?_) (by simp only [List.length_set]; omega) (by omega) (by omega) (by simp only [List.length_set]; omega) (No hs1) (No hs2) (by omega) rfl,obs]
    ·have e3:rdW u (Fd p c r (prV p c y) W)=Fd p c r (Cq p (Jw p (y.getD c 0)) (y.take u)) (rdW u W):=by
      unfold rdW prV;rw [Ai6 (by omega),Aew]
     have e4:alW u (Fd p c r (prV p c y) W)=Qf p c r (Cq p (Jw p (y.getD c 0)) (y.drop u)) (rdW u W) (alW u W):=by
      unfold rdW alW prV;rw [Ajd (by omega),Aet]
     try dsimp only
     rw [Ak (by omega),obs,Af7,Ahk,e3,e4];exact Ak (by omega) _
    ·rcases List.mem_or_eq_of_mem_set hz with hz | rfl
     ·exact hpm.tk hu _ hz
     ·exact q1
    ·rcases List.mem_or_eq_of_mem_set hz with hz | rfl
     ·exact hpm.dr _ hz
     ·exact q2
  ·refine .inr ?_;rw [Z1 hlt n (by omega)];generalize gjT p m c=s at *
   try dsimp only
   unfold Cm;rw [Be (by omega),cond_true,obs,hlr,Bf (by omega),cond_false]
 ·subst hI
  try dsimp only
  unfold Cm;rw [Bf (by omega),cond_false,obs,cond_false]
theorem Ai3 {n u:Nat} (hp:isF p=true) (hm:MatW p w m) (hn:n<=u) (hu:u<=w) (hw:w<=100000) (hl:m.length<=100000):F2 p (rdW u m) (n:Int) (alW u m)=some (rdW u (gjT p m n).2,alW u (gjT p m n).2,(gjT p m n).1):=by
 unfold F2;rw [Apa hp hm hn hu hw hl,obs]
theorem Aoz (hm:MatW p w m) (hw:w<=100000) (hl:m.length<=100000):I3 m=some m:=by
 unfold I3;have h:=Jk (body:=fun s_:Nat×List (List Int)=>Eh m s_.1 s_.2) m id [] (F:=4611686018427387904) (by omega) m (fun i x h=>?_) ?_
 ·rw [Ak (by omega),show List.replicate 0 ([]:List Int)=[] from rfl,show Av (fun s_:Nat×List (List Int)=>Eh m s_.1 s_.2) 4611686018427387904 (0,[])=some m by simpa using h]; rfl
 ·have:=Al h;have hx:=(hm x (List.mem_of_getElem? h)).1
  try dsimp only
  unfold Eh;rw [Be (by omega),cond_true,h,obs,Amu _ (by omega),obs,Ak (by simp; omega),Ak (by omega)]; rfl
 ·try dsimp only
  unfold Eh;rw [Bf (by omega),cond_false,List.map_id,List.nil_append]
end
end
section
def Cg (p a b:Int):Prop:=∃ q,a=b+p*q
section
variable {p a b c d:Int}
theorem Cg.rf:Cg p a a:=⟨0,by simp⟩
theorem Cg.of (h:a=b):Cg p a b:=h▸Cg.rf
theorem Cg.symm (h:Cg p a b):Cg p b a:=by obtain ⟨q,rfl⟩:=h; exact ⟨-q,by grind⟩
theorem Cg.trans (h1:Cg p a b) (h2:Cg p b c):Cg p a c:=by obtain ⟨q,rfl⟩:=h1; obtain ⟨r,rfl⟩:=h2; exact ⟨q+r,by grind⟩
theorem Cg.add (h1:Cg p a b) (h2:Cg p c d):Cg p (a+c) (b+d):=by obtain ⟨q,rfl⟩:=h1; obtain ⟨r,rfl⟩:=h2; exact ⟨q+r,by grind⟩
theorem Cg.sub (h1:Cg p a b) (h2:Cg p c d):Cg p (a - c) (b - d):=by obtain ⟨q,rfl⟩:=h1; obtain ⟨r,rfl⟩:=h2; exact ⟨q - r,by grind⟩
theorem Cg.mul (h1:Cg p a b) (h2:Cg p c d):Cg p (a*c) (b*d):=by obtain ⟨q,rfl⟩:=h1; obtain ⟨r,rfl⟩:=h2; exact ⟨q*d+b*r+p*q*r,by grind⟩
theorem Cg.md:Cg p (a % p) a:=⟨-(a / p),by have:=Int.emod_add_mul_ediv a p; grind⟩
theorem Cg.to (h:Cg p a b):a % p=b % p:=by obtain ⟨q,rfl⟩:=h; rw [Int.add_mul_emod_self_left]
theorem Cg.fr (h:a % p=b % p):Cg p a b:=(Cg.md.symm.trans (Cg.of h)).trans Cg.md
theorem Cg.eq (h:Cg p a b) (h1:0<=a∧a<p) (h2:0<=b∧b<p):a=b:=by
 have:=h.to
 rwa [Int.emod_eq_of_lt h1.1 h1.2,Int.emod_eq_of_lt h2.1 h2.2] at this
end
def sm:Nat->(Nat->Int)->Int
 | 0,_=>0
 | k+1,f=>sm k f+f k
section
variable {p:Int} {f g:Nat->Int}
theorem Jb:∀ {k:Nat},(∀ i,i<k->Cg p (f i) (g i))->Cg p (sm k f) (sm k g)
 | 0,_=>Cg.rf
 | k+1,h=>(Jb fun i hi=>h i (by omega)).add (h k (by omega))
theorem G3:∀ {k:Nat},(∀ i,i<k->f i=g i)->sm k f=sm k g
 | 0,_=>rfl
 | k+1,h=>by unfold sm; rw [G3 fun i hi=>h i (by omega),h k (by omega)]
theorem N1:∀ {k:Nat},sm k (fun i=>f i+g i)=sm k f+sm k g
 | 0=>rfl
 | k+1=>by unfold sm; rw [N1]; dsimp only; omega
theorem Qb {a:Int}:∀ {k:Nat},sm k (fun i=>a*f i)=a*sm k f
 | 0=>by simp [sm]
 | k+1=>by unfold sm; rw [Qb]; grind
theorem Je:∀ {k:Nat},(∀ i,i<k->f i=0)->sm k f=0
 | 0,_=>rfl
 | k+1,h=>by unfold sm; rw [Je fun i hi=>h i (by omega),h k (by omega)]; rfl
theorem K8 {t:Nat}:∀ {k:Nat},t<k->(∀ i,i<k->i≠t->f i=0)->sm k f=f t
 | 0,h,_=>by omega
 | k+1,h,h0=>by
  unfold sm;by_cases e:t=k
  ·subst e;rw [Je fun i hi=>h0 i (by omega) (by omega)]; omega
  ·rw [K8 (t:=t) (by omega) fun i hi=>h0 i (by omega),h0 k (by omega) (by omega)]; omega
end
def en (m:List (List Int)) (i j:Nat):Int:=(m.getD i []).getD j 0
inductive Cy (p:Int) (n:Nat) (m:List (List Int)):(Nat->Int)->Prop
 | zero {f:Nat->Int}:(∀ j,j<n->Cg p (f j) 0)->Cy p n m f
 | add {f g:Nat->Int} (i:Nat) (k:Int):i<m.length->Cy p n m g->(∀ j,j<n->Cg p (f j) (g j+k*en m i j))->Cy p n m f
section
variable {p:Int} {n:Nat} {m m':List (List Int)} {f g:Nat->Int}
theorem B7 {i:Nat} (h:i<m.length):Cy p n m (en m i):=.add i 1 h (.zero (f:=fun _=>0) fun _ _=>Cg.rf) fun _ _=>Cg.of (by omega)
theorem Df (h:Cy p n m f) (hf:∀ j,j<n->Cg p (g j) (f j)):Cy p n m g:=by
 cases h with
 | zero h=>exact .zero fun j hj=>(hf j hj).trans (h j hj)
 | add i k hi h hs=>exact .add i k hi h fun j hj=>(hf j hj).trans (hs j hj)
theorem Rr (h:Cy p n m f) (hg:Cy p n m g):Cy p n m (fun j=>f j+g j):=by
 induction hg with
 | zero h0=>exact Df h fun j hj=>(Cg.rf.add (h0 j hj)).trans (Cg.of (by omega))
 | add i k hi _ hs ih=>exact .add i k hi ih fun j hj=>(Cg.rf.add (hs j hj)).trans (Cg.of (by omega))
theorem H9 (a:Int) (h:Cy p n m f):Cy p n m (fun j=>a*f j):=by
 induction h with
 | zero h0=>exact .zero fun j hj=>(Cg.rf.mul (h0 j hj)).trans (Cg.of (by omega))
 | add i k hi _ hs ih=>exact .add i (a*k) hi ih fun j hj=>(Cg.rf.mul (hs j hj)).trans (Cg.of (by grind))
theorem Lo (h:∀ i,i<m.length->Cy p n m' (en m i)) (hf:Cy p n m f):Cy p n m' f:=by
 induction hf with
 | zero h0=>exact .zero h0
 | add i k hi _ hs ih=>exact Df (Rr ih (H9 k (h i hi))) hs
theorem Sf {F:Nat->Nat->Int}:∀ {k:Nat},(∀ i,i<k->Cy p n m (F i))->Cy p n m (fun j=>sm k fun i=>F i j)
 | 0,_=>.zero fun _ _=>Cg.rf
 | k+1,h=>Rr (Sf fun i hi=>h i (by omega)) (h k (by omega))
structure K9 (c r:Nat) (m:List (List Int)) (pv:Nat->Nat):Prop where
 rl:r<=m.length
 lt:∀ i,i<r->pv i<c
 mono:∀ i k,i<k->k<r->pv i<pv k
 low:∀ i,i<r->∀ j,j<pv i->en m i j=0
 one:∀ i,i<r->en m i (pv i)=1
 zero:∀ i,i<r->∀ k,k≠i->en m k (pv i)=0
 tail:∀ i,r<=i->∀ j,j<c->en m i j=0
theorem Ly {i j:Nat} (h:m.length<=i):en m i j=0:=by
 unfold en;rw [gDg (l:=m),List.getElem?_eq_none h]; rfl
theorem Ag1 {pv:Nat->Nat} (h:K9 n m.length m pv) (hs:Cy p n m f):∀ j,j<n->Cg p (f j) (sm m.length fun i=>f (pv i)*en m i j):=by
 induction hs with
 | zero h0 =>
  intro j hj;refine (h0 j hj).trans ?_;refine Cg.symm ((Jb (g:=fun _=>0) fun i hi=>?_).trans (Cg.of (Je fun _ _=>rfl)));exact ((h0 _ (h.lt i hi)).mul Cg.rf).trans (Cg.of (by omega))
 | @add f g t k ht _ hs ih =>
  intro j hj;refine (hs j hj).trans (((ih j hj).add Cg.rf).trans ?_)
  have e:sm m.length (fun i=>(g (pv i)+k*en m t (pv i))*en m i j)=sm m.length (fun i=>g (pv i)*en m i j)+k*en m t j:=by
   rw [G3 (g:=fun i=>g (pv i)*en m i j+k*(en m t (pv i)*en m i j)) fun i _=>by grind,N1 (f:=fun i=>g (pv i)*en m i j),Qb (f:=fun i=>en m t (pv i)*en m i j),K8 (f:=fun i=>en m t (pv i)*en m i j) ht fun i hi hne=>by rw [h.zero i hi t (Ne.symm hne)]; omega,h.one t ht,Int.one_mul]
  rw [← e];exact (Jb fun i hi=>(hs _ (h.lt i hi)).mul Cg.rf).symm
theorem Aq6 {u v:Nat->Nat} {k l:Nat} (hu:∀ i j,i<j->j<k->u i<u j) (hv:∀ i j,i<j->j<l->v i<v j) (h1:∀ i,i<k->∃ t,t<l∧v t=u i) (h2:∀ i,i<l->∃ t,t<k∧u t=v i) :
  ∀ i,i<k->i<l->u i=v i:=by
 intro i
 induction i using Nat.strongRecOn with
 | _ i ih =>
  intro hk hl;obtain ⟨t,ht,e⟩:=h1 i hk;obtain ⟨s,hs,e'⟩:=h2 i hl
  have a1:v i<=u i:=by
   rcases Nat.lt_trichotomy t i with hlt | he | hgt
   ·have:=ih t hlt (by omega) ht;have:=hu t i hlt hk;omega
   ·subst he; omega
   ·have:=hv i t hgt ht; omega
  have a2:u i<=v i:=by
   rcases Nat.lt_trichotomy s i with hlt | he | hgt
   ·have:=ih s hlt hs (by omega);have:=hv s i hlt hl;omega
   ·subst he; omega
   ·have:=hu i s hgt hs; omega
  omega
theorem Apt {u v:Nat->Nat} {k l:Nat} (hu:∀ i j,i<j->j<k->u i<u j) (hv:∀ i j,i<j->j<l->v i<v j) (h1:∀ i,i<k->∃ t,t<l∧v t=u i) (h2:∀ i,i<l->∃ t,t<k∧u t=v i):l<=k:=by
 refine Nat.le_of_not_lt fun hlt=>?_
 obtain ⟨t,ht,e⟩:=h2 k hlt;have:=Aq6 hu hv h1 h2 t ht (by omega);have:=hv t k ht hlt;omega
theorem Aqy (hp:2<=p):¬ Cg p 1 0:=fun h=>by
 have:=h.eq ⟨by omega,by omega⟩ ⟨by omega,by omega⟩;omega
theorem Apy {i j:Nat} (hp:2<=p) (hm:MatW p n m):0<=en m i j∧en m i j<p:=by
 unfold en;by_cases h:i<m.length
 ·have hx:=hm _ (Dd h);generalize m.getD i []=x at hx;by_cases hj:j<x.length
  ·rw [A3 (gEg hj)]; exact hx.2 _ (List.getElem_mem hj)
  ·rw [gDg,List.getElem?_eq_none (by omega)]; exact ⟨by simp,by simp; omega⟩
 ·rw [gDg (l:=m),List.getElem?_eq_none (by omega)]; simp; omega
theorem Ati {r k i j:Nat} (hr:r<m.length) (hk:k<m.length):en (Hj m r k) i j=if i=k then en m r j else if i=r then en m k j else en m i j:=by
 unfold en Hj;by_cases h1:i=k
 ·subst h1;rw [if_pos rfl,gDg (l:=List.set _ _ _),List.getElem?_set_self (by rw [List.length_set]; exact hk)]; rfl
 ·rw [if_neg h1,gDg (l:=List.set _ _ _),List.getElem?_set_ne (Ne.symm h1)];by_cases h2:i=r
  ·subst h2;rw [if_pos rfl,List.getElem?_set_self hr]; rfl
  ·rw [if_neg h2,List.getElem?_set_ne (Ne.symm h2),← gDg]
theorem Anv {k:Int} {x:List Int} {j:Nat}:(Cq p k x).getD j 0=x.getD j 0*k % p:=by
 unfold Cq;rw [gDg,List.getElem?_map,gDg];cases x[j]? with
 | none=>simp
 | some a=>rfl
theorem Wr {k:Int} {x v:List Int} {j:Nat} (h:x.length=v.length):(C0 p k x v).getD j 0=(x.getD j 0 - k*v.getD j 0) % p:=by
 unfold C0;rw [gDg,List.getElem?_zipWith,gDg,gDg];by_cases hj:j<x.length
 ·rw [gEg hj,gEg (show j<v.length by omega)]; rfl
 ·rw [List.getElem?_eq_none (show x.length<=j by omega),List.getElem?_eq_none (show v.length<=j by omega)]; simp
theorem Ata {c r i j:Nat} {pr:List Int} (hm:MatW p n m) (hpr:pr.length=n) (hi:i<m.length):en (Fd p c r pr m) i j=if i=r then pr.getD j 0 else (en m i j - en m i c*pr.getD j 0) % p:=by
 have hx:=hm _ (List.getElem_mem hi);unfold en Fd;rw [gDg (l:=List.mapIdx _ _),List.getElem?_mapIdx,gEg hi,A3 (gEg hi)];show (if i=r then pr else C0 p (m[i].getD c 0) m[i] pr).getD j 0=_;split
 ·rfl
 ·rw [Wr (by rw [hx.1,hpr])]
def U6 (p:Int):Prop:=∀ a,1<=a->a<p->a*Jw p a % p=1
theorem Aq5 {c:Nat} {s:Nat×List (List Int)} {pv:Nat->Nat} (hp:2<=p) (hI:U6 p) (hm:MatW p n s.2) (h:K9 c s.1 s.2 pv) :
  (∃ pv',K9 (c+1) (gjS p c s).1 (gjS p c s).2 pv')∧(∀ f,Cy p n (gjS p c s).2 f↔Cy p n s.2 f):=by
 obtain ⟨r,m⟩:=s;dsimp only at hm h;unfold gjS;dsimp only;by_cases h1:r<m.length
 ·rw [if_pos h1];by_cases h2:B6 m c r=m.length
  ·rw [if_pos h2];refine ⟨⟨pv,h.rl,fun i hi=>Nat.lt_succ_of_lt (h.lt i hi),h.mono,h.low,h.one,h.zero,fun i hi j hj=>?_⟩,fun f=>Iff.rfl⟩;dsimp only at hi ⊢;by_cases hjc:j<c
   ·exact h.tail i hi j hjc
   ·obtain rfl:j=c:=by omega
    by_cases hil:i<m.length
    ·exact Uw hi (by omega) h.rl
    ·exact Ly (by omega)
  ·rw [if_neg h2];have hk1:=N3 (c:=c) h.rl;have hk2:=An6 m c r;have hnz:=Un h2 h.rl;have hkl:B6 m c r<m.length:=by omega
   have hx:=hm _ (Dd hkl);have ha:en m (B6 m c r) c≠0:=hnz;generalize hk:B6 m c r=k at *;have hab:=Apy (i:=k) (j:=c) hp hm;have hinv:=hI (en m k c) (by omega) hab.2;generalize hv:Jw p (en m k c)=v at hinv
   have hpr:∀ j,(prV p c (m.getD k [])).getD j 0=en m k j*v % p:=fun j=>by
    unfold prV;rw [Anv];show _*Jw p (en m k c) % p=_;rw [hv]; rfl
   have hprl:(prV p c (m.getD k [])).length=n:=(Nc hp hx.1).1;generalize prV p c (m.getD k [])=pr at *;have hW:=Wh hm h1 hkl;have hWl:=Ns m r k;have hWe:∀ i j,en (Hj m r k) i j=if i=k then en m r j else if i=r then en m k j else en m i j:=fun i j=>Ati h1 hkl
   generalize Hj m r k=W at *
   have hE:∀ i j,i<m.length->en (Fd p c r pr W) i j=if i=r then en m k j*v % p else (en W i j - en W i c*(en m k j*v % p)) % p:=fun i j hi=>by
    rw [Ata hW hprl (by omega),hpr]
   have hEl:=Lp p c r pr W
   have h0:∀ i j,i<m.length->i≠r->en m k j=0->en (Fd p c r pr W) i j=en W i j:=fun i j hi hne h0=>by
    have hb:=Apy (i:=i) (j:=j) hp hW;rw [hE i j hi,if_neg hne,h0,Int.zero_mul,Int.zero_emod,Int.mul_zero,Int.sub_zero,Int.emod_eq_of_lt hb.1 hb.2]
   have hkj:∀ j,j<c->en m k j=0:=fun j hj=>h.tail k (by omega) j hj
   have hkp:∀ i,i<r->en m k (pv i)=0:=fun i hi=>h.zero i hi k (by omega)
   have hcc:en m k c*v % p=1:=hinv
   have hsp:∀ i j,i<m.length->i≠r->Cg p (en (Fd p c r pr W) i j) (en W i j+ -en W i c*en (Fd p c r pr W) r j):=fun i j hi hne=>by
    rw [hE i j hi,if_neg hne,hE r j h1,if_pos rfl];exact Cg.md.trans (Cg.of (by grind))
   have hWr:∀ j,Cg p (en W r j) (en m k c*en (Fd p c r pr W) r j):=fun j=>by
    have e:en W r j=en m k j:=by
     rw [hWe];by_cases e:r=k
     ·rw [if_pos e,e]
     ·rw [if_neg e,if_pos rfl]
    rw [e,hE r j h1,if_pos rfl];obtain ⟨q,hq⟩:=Cg.fr (p:=p) (a:=en m k c*v) (b:=1) (by rw [hcc]; exact (Int.emod_eq_of_lt (by omega) (by omega)).symm);refine Cg.trans ⟨-q*en m k j,?_⟩ (Cg.rf.mul Cg.md.symm)
    grind
   refine ⟨⟨fun i=>if i=r then c else pv i,?_,?_,?_,?_,?_,?_,?_⟩,fun f=>⟨Lo fun i hi=>?_,Lo fun i hi=>?_⟩⟩
   ·show r+1<=(Fd p c r pr W).length;omega
   ·intro i hi
    try dsimp only
    split
    ·omega
    ·have:=h.lt i (by omega); omega
   ·intro i l hil hl
    try dsimp only
    rw [if_neg (by omega:i≠r)];split
    ·exact h.lt i (by omega)
    ·exact h.mono i l hil (by omega)
   ·intro i hi j hj;dsimp only at hj ⊢;by_cases e:i=r
    ·subst e;rw [if_pos rfl] at hj;rw [hE i j h1,if_pos rfl,hkj j hj,Int.zero_mul,Int.zero_emod]
    ·rw [if_neg e] at hj;have:=h.lt i (by omega);rw [h0 i j (by omega) e (hkj j (by omega)),hWe,if_neg (by omega),if_neg e];exact h.low i (by omega) j hj
   ·intro i hi;dsimp only;by_cases e:i=r
    ·subst e;rw [if_pos rfl,hE i c h1,if_pos rfl,hcc]
    ·rw [if_neg e,h0 i (pv i) (by omega) e (hkp i (by omega)),hWe,if_neg (by omega),if_neg e];exact h.one i (by omega)
   ·intro i hi l hl;dsimp only;by_cases hll:l<m.length
    ·by_cases e:i=r
     ·subst e;rw [if_pos rfl,hE l c hll,if_neg hl,hcc,Int.mul_one,Int.sub_self,Int.zero_emod]
     ·rw [if_neg e];by_cases e2:l=r
      ·subst e2;rw [hE l (pv i) hll,if_pos rfl,hkp i (by omega),Int.zero_mul,Int.zero_emod]
      ·rw [h0 l (pv i) hll e2 (hkp i (by omega)),hWe];by_cases e3:l=k
       ·rw [if_pos e3]; exact h.zero i (by omega) r (by omega)
       ·rw [if_neg e3,if_neg e2]; exact h.zero i (by omega) l hl
    ·exact Ly (by omega)
   ·intro i hi j hj;dsimp only at hi ⊢;by_cases hil:i<m.length
    ·by_cases e:j=c
     ·subst e;rw [hE i j hil,if_neg (by omega),hcc,Int.mul_one,Int.sub_self,Int.zero_emod]
     ·rw [h0 i j hil (by omega) (hkj j (by omega)),hWe];by_cases e3:i=k
      ·rw [if_pos e3]; exact h.tail r (Nat.le_refl r) j (by omega)
      ·rw [if_neg e3,if_neg (by omega)]; exact h.tail i (by omega) j (by omega)
    ·exact Ly (by omega)
   ·have hi:i<m.length:=by dsimp only at hi; omega
    have hrow:∀ t,t<m.length->Cy p n m (en W t):=fun t ht=>by
     by_cases e1:t=k
     ·exact Df (B7 h1) fun j hj=>Cg.of (by rw [hWe,if_pos e1])
     ·by_cases e2:t=r
      ·exact Df (B7 hkl) fun j hj=>Cg.of (by rw [hWe,if_neg e1,if_pos e2])
      ·exact Df (B7 ht) fun j hj=>Cg.of (by rw [hWe,if_neg e1,if_neg e2])
    have hr':Cy p n m (en (Fd p c r pr W) r):=Df (H9 v (B7 hkl)) fun j hj=>by
     rw [hE r j h1,if_pos rfl];exact Cg.md.trans (Cg.of (by grind))
    by_cases e:i=r
    ·subst e; exact hr'
    ·exact Df (Rr (hrow i hi) (H9 (-en W i c) hr')) fun j hj=>hsp i j hi e
   ·have hE':∀ t,t<m.length->Cy p n (Fd p c r pr W) (en W t):=fun t ht=>by
     by_cases e:t=r
     ·subst e;exact Df (H9 (en m k c) (B7 (i:=t) (by omega))) fun j hj=>hWr j
     ·refine Df (Rr (B7 (i:=t) (by omega)) (H9 (en W t c) (B7 (i:=r) (by omega)))) fun j hj=>?_
      exact Cg.symm (((hsp t j ht e).add Cg.rf).trans (Cg.of (by grind)))
    by_cases e1:i=r
    ·subst e1;exact Df (hE' k hkl) fun j hj=>Cg.of (by rw [hWe,if_pos rfl])
    ·by_cases e2:i=k
     ·subst e2;exact Df (hE' r h1) fun j hj=>Cg.of (by rw [hWe,if_neg (by omega),if_pos rfl])
     ·exact Df (hE' i hi) fun j hj=>Cg.of (by rw [hWe,if_neg e2,if_neg e1])
 ·rw [if_neg h1];have:=h.rl;refine ⟨⟨pv,h.rl,fun i hi=>Nat.lt_succ_of_lt (h.lt i hi),h.mono,h.low,h.one,h.zero,fun i hi j hj=>Ly (m:=m) (by dsimp only at hi; omega)⟩,fun f=>Iff.rfl⟩
theorem Agc {m:List (List Int)} (hp:2<=p) (hI:U6 p) (hm:MatW p n m):∀ c,(∃ pv,K9 c (gjT p m c).1 (gjT p m c).2 pv)∧∀ f,Cy p n (gjT p m c).2 f↔Cy p n m f
 | 0=>⟨⟨fun _=>0,Nat.zero_le _,by intro i hi; simp [gjT] at hi,by intro i k _ hk; simp [gjT] at hk,by intro i hi; simp [gjT] at hi,by intro i hi; simp [gjT] at hi,by intro i hi; simp [gjT] at hi,fun _ _ j hj=>by omega⟩,fun _=>Iff.rfl⟩
 | c+1=>by
  obtain ⟨⟨pv,h1⟩,h2⟩:=Agc hp hI hm c;obtain ⟨h3,h4⟩:=Aq5 hp hI (Kp hp hm c).1 h1;exact ⟨h3,fun f=>(h4 f).trans (h2 f)⟩
theorem P6 {r i j:Nat} (h:i<r):en (m.take r) i j=en m i j:=by
 unfold en;rw [gDg (l:=m.take r),List.getElem?_take,if_pos h,← gDg]
theorem Aah {k:Nat} (hk:k<=n) (h:Cy p n m f):Cy p k m f:=by
 induction h with
 | zero h0=>exact .zero fun j hj=>h0 j (by omega)
 | add i k hi _ hs ih=>exact .add i k hi ih fun j hj=>hs j (by omega)
theorem An4 {c:Nat} (hp:2<=p) (hI:U6 p) (hm:MatW p n m) (hc:c<=n):(∃ pv,K9 c (gj p c m).length (gj p c m) pv)∧∀ f,Cy p c (gj p c m) f↔Cy p c m f:=by
 obtain ⟨⟨pv,h⟩,h2⟩:=Agc hp hI hm c;have hl:=Ae7 (n:=c) hp hm;have hrl:=h.rl;refine ⟨⟨pv,Nat.le_refl _,?_,?_,?_,?_,?_,?_⟩,fun f=>Iff.trans (b:=Cy p c (gjT p m c).2 f) ⟨Lo fun i hi=>?_,Lo fun i hi=>?_⟩ ⟨Lo fun i hi=>Aah hc ((h2 _).1 (B7 hi)),Lo fun i hi=>Aah hc ((h2 _).2 (B7 hi))⟩⟩
 ·rw [hl]; exact h.lt
 ·rw [hl]; exact h.mono
 ·rw [hl]; intro i hi j hj; unfold gj; rw [P6 hi]; exact h.low i hi j hj
 ·rw [hl]; intro i hi; unfold gj; rw [P6 hi]; exact h.one i hi
 ·rw [hl]; intro i hi k hk;by_cases hkl:k<(gjT p m c).1
  ·unfold gj; rw [P6 hkl]; exact h.zero i hi k hk
  ·exact Ly (by omega)
 ·intro i hi j _; exact Ly hi
 ·rw [hl] at hi;exact Df (B7 (i:=i) (by omega)) fun j hj=>Cg.of (by unfold gj; rw [P6 hi])
 ·by_cases hir:i<(gjT p m c).1
  ·exact Df (B7 (i:=i) (by omega)) fun j hj=>Cg.of (by unfold gj; rw [P6 hir])
  ·exact .zero fun j hj=>Cg.of (h.tail i (by omega) j hj)
theorem Sj (hp:2<=p) (hI:U6 p) (hm:MatW p n m):(∃ pv,K9 n (gj p n m).length (gj p n m) pv)∧∀ f,Cy p n (gj p n m) f↔Cy p n m f:=An4 hp hI hm (Nat.le_refl n)
end
end
section
def Fq (x:List Int):Nat:=x.findIdx fun a=>a !=0
section
variable {p:Int} {n:Nat} {m m' B:List (List Int)} {o:List Int}
theorem Ap9 {c r i:Nat} {pv:Nat->Nat} (h:K9 c r m pv) (hm:MatW p n m) (hc:c<=n) (hi:i<r):Fq (m.getD i [])=pv i:=by
 have hl:=h.rl;have hx:=(hm _ (Dd (show i<m.length by omega))).1;have hlt:=h.lt i hi;have e:∀ (j:Nat) (hj:j<(m.getD i []).length),(m.getD i [])[j]=en m i j:=fun j hj=>(A3 (gEg hj)).symm
 unfold Fq;refine (List.findIdx_eq (show pv i<(m.getD i []).length by omega)).2 ⟨?_,fun j hj=>?_⟩
 ·rw [e,h.one i hi]; rfl
 ·rw [e,h.low i hi j hj]; rfl
structure OrdV (n:Nat) (o:List Int):Prop where
 nd:o.Nodup
 mem:∀ q,q∈o↔0<=q∧q<(n:Int)
theorem OrdV.len (h:OrdV n o):o.length=n:=by
 have h1:((List.range n).map Int.ofNat).Nodup:=by
  rw [List.Nodup,List.pairwise_map];exact List.Pairwise.imp (fun hne e=>hne (Int.ofNat.inj e)) (List.nodup_range (n:=n))
 have h2:o.Perm ((List.range n).map Int.ofNat):=by
  rw [List.perm_ext_iff_of_nodup h.nd h1];intro a;rw [h.mem,List.mem_map];constructor
  ·intro ha;exact ⟨a.toNat,List.mem_range.2 (by omega),by show ((a.toNat:Nat):Int)=a; omega⟩
  ·rintro ⟨b,hb,rfl⟩;have:=List.mem_range.1 hb;show 0<=(b:Int)∧(b:Int)<n;omega
 have:=h2.length_eq
 simpa using this
def Jv (o:List Int) (j:Nat):Nat:=(o.getD j 0).toNat
def Aom (o:List Int) (q:Nat):Nat:=o.idxOf (q:Int)
theorem OrdV.at (h:OrdV n o) {j:Nat} (hj:j<n):∃ hj':j<o.length,o[j]=((Jv o j:Nat):Int)∧Jv o j<n:=by
 have hl:=h.len;refine ⟨by omega,?_⟩;have h1:=(h.mem (o[j]'(by omega))).1 (List.getElem_mem _);have e:Jv o j=(o[j]'(by omega)).toNat:=congrArg Int.toNat (A3 (gEg (by omega)));omega
theorem OrdV.inv (h:OrdV n o) {q:Nat} (hq:q<n):Aom o q<n∧Jv o (Aom o q)=q:=by
 have hl:=h.len;have h1:Aom o q<o.length:=List.idxOf_lt_length_of_mem ((h.mem _).2 (by omega));refine ⟨by omega,?_⟩;have h2:o[Aom o q]=(q:Int):=List.getElem_idxOf h1;obtain ⟨_,h3,_⟩:=h.at (show Aom o q<n by omega);omega
def Ca (o:List Int) (b:List Int):List Int:=o.map fun q=>b.getD q.toNat 0
theorem Aqr {b:List Int} (hp:2<=p) (hb:VecW p n b):VecW p o.length (Ca o b):=by
 refine ⟨List.length_map ..,fun a ha=>?_⟩;obtain ⟨q,_,rfl⟩:=List.mem_map.1 ha;by_cases h:q.toNat<b.length
 ·rw [A3 (gEg h)]; exact hb.2 _ (List.getElem_mem h)
 ·rw [gDg,List.getElem?_eq_none (by omega)]; simp; omega
theorem Ajm (hp:2<=p) (hB:MatW p n B):MatW p o.length (B.map (Ca o)):=fun x hx=>by
 obtain ⟨b,hb,rfl⟩:=List.mem_map.1 hx;exact Aqr hp (hB b hb)
theorem Ag0 {i j:Nat} (hi:i<B.length) (hj:j<o.length):en (B.map (Ca o)) i j=en B i (Jv o j):=by
 unfold en;rw [A3 (m:=B.map (Ca o)) (x:=Ca o (B.getD i [])) (by rw [List.getElem?_map,gEg hi,A3 (gEg hi)]; rfl)];exact A3 (by unfold Ca; rw [List.getElem?_map,gEg hj]; simp only [Jv,A3 (gEg hj)]; rfl)
theorem An0 {n':Nat} {f:Nat->Int} {σ:Nat->Nat} (hl:m'.length=m.length) (hσ:∀ j,j<n'->σ j<n) (he:∀ i,i<m.length->∀ j,j<n'->en m' i j=en m i (σ j)) (h:Cy p n m f):Cy p n' m' (fun j=>f (σ j)):=by
 induction h with
 | zero h0=>exact .zero fun j hj=>h0 _ (hσ j hj)
 | add i k hi _ hs ih=>exact .add i k (by omega) ih fun j hj=>(hs _ (hσ j hj)).trans (Cg.of (by rw [he i hi j hj]))
end
end
section
theorem Ya {p:Int} (hp:isF p=true):U6 p:=fun _ h1 h2=>(Af3 hp ⟨h1,h2⟩).2.2.2.2
theorem Vc (x:List Int) (hx:x.length<=1000):Ee x=some ((Fq x:Nat):Int):=by
 unfold Ee;have hle:Fq x<=x.length:=List.findIdx_le_length
 have h:Av (fun s_:Nat=>Fy x s_) 4611686018427387904 0=some (Fq x):=by
  refine Bg (Fq x) (fun i=>i) (by omega) _ rfl (fun i hi=>?_) ?_
  ·have h0:=List.not_of_lt_findIdx hi;have h1:x[i]'(by omega)=0:=by simpa using h0
   try dsimp only
   unfold Fy;rw [Be (by omega),cond_true,gEg (show i<x.length by omega),obs,obs,h1,show ((0:Int)==0)=true from rfl,cond_true,Ak (by omega)]
  ·unfold Fy;by_cases h:Fq x=x.length
   ·rw [Bf (by omega),cond_false,obs,cond_false]
   ·have h0:=List.findIdx_getElem (w:=show Fq x<x.length by omega);rw [Be (by omega),cond_true,gEg (show Fq x<x.length by omega),obs,obs,show ((x[Fq x]'(by omega))==0)=false from Bool.eq_false_iff.2 (fun e=>bne_iff_ne.1 h0 (beq_iff_eq.1 e)),cond_false]
 rw [h,obs]
def InO (n:Nat) (o:List Int):Prop:=∀ q∈o,0<=q∧q<(n:Int)
section
variable {p:Int} {n:Nat} {B:List (List Int)}
theorem Ap2 {b:List Int} {q:Int} (hb:b.length=n) (hq:0<=q∧q<(n:Int)):Ex b q=some (b.getD q.toNat 0):=by
 rw [C5 hq.1,gEg (by omega),A3 (gEg (by omega))]
theorem Abe {o1 o2 b:List Int}:Ca (o1++o2) b=Ca o1 b++Ca o2 b:=by simp [Ca]
theorem Aei {b o:List Int} (hb:b.length=n) (ho:InO n o) (hl:o.length<=1000):Hf o b=some (Ca o b):=by
 unfold Hf;have h:=Jk (body:=fun s_:Nat×List Int=>Ei o b s_.1 s_.2) o (fun q=>b.getD q.toNat 0) [] (F:=4611686018427387904) (by omega) (Ca o b) (fun i x h=>?_) ?_
 ·rw [show Av (fun s_:Nat×List Int=>Ei o b s_.1 s_.2) 4611686018427387904 (0,[])=some (Ca o b) by simpa using h,obs]
 ·have:=Al h
  try dsimp only
  unfold Ei;rw [Be (by omega),cond_true,h,obs,Ap2 hb (ho x (List.mem_of_getElem? h)),obs,Ak (by simp; omega),Ak (by omega)]
 ·try dsimp only
  unfold Ei;rw [Bf (by omega),cond_false,List.nil_append]; rfl
end
end
section
def szV (v:Int) (n:Nat):Int:=if v<n then -1 else v - n
theorem Ai0 (xs:List Int) {v:Int} (hv:0<=v∧v<=1048576) (hx:xs.length<=9223372036854775807):Hg xs v=some (szV v xs.length):=by
 unfold Hg szV;rw [Bo (by omega) (by omega)];by_cases h:v<xs.length
 ·rw [Be (by omega),if_pos h]; rfl
 ·rw [Bf (by omega),if_neg h]; rfl
theorem Wa (xs:List Int) (hx:xs.length<=1073741824):B5 xs=some xs:=by
 unfold B5;rw [Ak (by omega)]
 have h:Av (fun s_:Nat×List Int=>F8 xs s_.1 s_.2) 4611686018427387904 (0,List.replicate xs.length (0:Int))=some xs:=by
  refine Bg xs.length (fun i=>(i,xs.take i++List.replicate (xs.length - i) 0)) (by omega) xs (by simp) (fun i hi=>?_) ?_
  ·have hx:=gEg hi
   try dsimp only
   unfold F8;rw [Be (by omega),cond_true,hx,obs,Ol hi,obs,Ak (by omega),Pd hx]
  ·try dsimp only
   unfold F8;rw [Bf (by omega),cond_false];simp
 rw [h]; rfl
theorem Rd (xs:List Int) (hx:xs.length<=1073741824):Co xs xs=some true:=by
 unfold Co
 have h:Av (fun s_:Nat=>F5 xs xs s_) 4611686018427387904 0=some (.next ()):=by
  refine Bg xs.length (fun i=>i) (by omega) _ rfl (fun i hi=>?_) ?_
  ·have hx:=gEg hi
   try dsimp only
   unfold F5;rw [Be (by omega),cond_true,hx,obs,obs,bne_self_eq_false,cond_false,Ak (by omega)]
  ·try dsimp only
   unfold F5;rw [Bf (by omega),cond_false]
 rw [h,bne_self_eq_false,cond_false]; rfl
theorem M4 (xs:List Int) {v:Int} (hv:0<=v∧v<=1152921504606846976) (hx:xs.length<=1073741824) :
  ∃ ys,Cu xs v=some (ys,v+xs.length)∧ys.length=xs.length∧E8 ys v=some (v+xs.length):=by
 refine ⟨(List.range xs.length).map fun j:Nat=>v+(j:Int),?_,by simp,?_⟩
 ·unfold Cu
  have h:Av (fun s_:Int×Nat×List Int=>Es s_.1 s_.2.1 s_.2.2) 4611686018427387904 (v,0,xs)=some (v+xs.length,(List.range xs.length).map fun j:Nat=>v+(j:Int)):=by
   refine Bg xs.length (fun i=>(v+i,i,(List.range i).map (fun (j:Nat)=>v+(j:Int))++xs.drop i)) (by omega) _ (by simp) (fun i hi=>?_) ?_
   ·have hl:((List.range i).map fun j:Nat=>v+(j:Int)).length=i:=by simp
    try dsimp only
    unfold Es;rw [Be (by rw [List.length_append,hl,List.length_drop]; omega),cond_true,Jl hi hl,obs,Ak (by omega),Jq hi hl,Bo (by omega) (by omega),List.range_succ,List.map_append];simp [Int.add_assoc]
   ·try dsimp only
    unfold Es;rw [Bf (by simp),cond_false];simp
  rw [h]; rfl
 ·unfold E8
  have h:Av (fun s_:Int×Nat=>En ((List.range xs.length).map fun j:Nat=>v+(j:Int)) s_.1 s_.2) 4611686018427387904 (v,0)=some (.next (v+xs.length)):=by
   refine Bg xs.length (fun i=>(v+i,i)) (by omega) _ (by simp) (fun i hi=>?_) ?_
   ·have hg:((List.range xs.length).map fun j:Nat=>v+(j:Int))[i]? =some (v+i):=by simp [hi]
    try dsimp only
    unfold En;rw [Be (by simp; omega),cond_true,hg,obs,bne_self_eq_false,cond_false,Ak (by omega),Bo (by omega) (by omega)];simp [Int.add_assoc]
   ·try dsimp only
    unfold En;rw [Bf (by simp),cond_false]
  rw [h]; rfl
end
section
section
variable {σ ρ:Type}
theorem Z0 {b1 b2:σ->Option (Ctl σ ρ)} {Post:ρ->Prop} (n:Nat) (I:Nat->σ->Prop)
  (hs:∀ i s,i<n->I i s->(∃ s',b1 s=some (.next s')∧b2 s=some (.next s')∧I (i+1) s')∨∃ r,b1 s=some (.out r)∧b2 s=some (.out r)∧Post r) (he:∀ s,I n s->∃ r,b1 s=some (.out r)∧b2 s=some (.out r)∧Post r) :
  ∀ (F k:Nat) (s:σ),k<=n->n - k<F->I k s->∃ r,Av b1 F s=some r∧Av b2 F s=some r∧Post r
 | 0,_,_,_,h,_=>by omega
 | F+1,k,s,hk,h,hi=>by
  have key:(∃ r,b1 s=some (.out r)∧b2 s=some (.out r)∧Post r)->∃ r,Av b1 (F+1) s=some r∧Av b2 (F+1) s=some r∧Post r:=by
   rintro ⟨r,h1,h2,h3⟩;exact ⟨r,by simp only [Av,h1,obs,Ctl.then],by simp only [Av,h2,obs,Ctl.then],h3⟩
  rcases Nat.lt_or_ge k n with hlt | hge
  ·rcases hs k s hlt hi with ⟨s',h1,h2,h3⟩ | h
   ·obtain ⟨r,g1,g2,g3⟩:=Z0 n I hs he F (k+1) s' hlt (by omega) h3;exact ⟨r,by simp only [Av,h1,obs,Ctl.then]; exact g1,by simp only [Av,h2,obs,Ctl.then]; exact g2,g3⟩
   ·exact key h
  ·obtain rfl:k=n:=by omega
   exact key (he s hi)
theorem Aku {b1 b2:σ->Option (Ctl σ ρ)} {Post:ρ->Prop} (n:Nat) (I:Nat->σ->Prop) {F:Nat} (hn:n<F) {s0:σ} (h0:I 0 s0)
  (hs:∀ i s,i<n->I i s->(∃ s',b1 s=some (.next s')∧b2 s=some (.next s')∧I (i+1) s')∨∃ r,b1 s=some (.out r)∧b2 s=some (.out r)∧Post r) (he:∀ s,I n s->∃ r,b1 s=some (.out r)∧b2 s=some (.out r)∧Post r):∃ r,Av b1 F s0=some r∧Av b2 F s0=some r∧Post r :=
 Z0 n I hs he F 0 s0 (Nat.zero_le _) (by omega) h0
end
end
section
theorem Zi {a lo hi:Int}:inR a lo hi=true↔lo<=a∧a<=hi:=by simp [inR]
theorem Ani {p:Int} {w:Nat} {m:List (List Int)} (hp:isF p=true) (hm:MatW p w m) (hw:w<=100000) (hl:m.length<=100000):Hu p m (w:Int)=some (gj p w m):=by
 have hb:=Gs hp;obtain ⟨k1,h2,h3⟩:=Kp hb.1 hm w
 have e1:∀ {m:List (List Int)},MatW p w m->rdW w m=m:=fun {m} hm=>by
  unfold rdW;exact (List.map_congr_left (g:=id) (fun x hx=>List.take_of_length_le (Nat.le_of_eq (hm x hx).1))).trans (List.map_id _)
 have e2:alW w m=List.replicate m.length []:=by
  unfold alW;rw [List.eq_replicate_iff];refine ⟨List.length_map ..,fun b hb=>?_⟩;obtain ⟨x,hx,rfl⟩:=List.mem_map.1 hb;exact List.drop_of_length_le (Nat.le_of_eq (hm x hx).1)
 have e3:(alW w (gjT p m w).2).length=m.length:=by rw [← h3]; exact List.length_map ..
 have hR:=Ai3 hp hm (Nat.le_refl w) (Nat.le_refl w) hw hl;rw [e1 hm,e2] at hR;unfold Hu;rw [Aoz hm hw hl,obs,Ak (by omega),hR,obs];rw [e1 k1];rw [Ak h3,Ak e3];exact Ak (by dsimp only; omega) _
end
section
def C8 (p:Int) (n:Nat) (m:List (List Int)) (f:Nat->Int):Prop:=∀ i,i<m.length->Cg p (sm n fun j=>en m i j*f j) 0
section
variable {p:Int} {n:Nat} {m m':List (List Int)} {f g:Nat->Int}
theorem Am7 (hf:C8 p n m f) (hs:Cy p n m g):Cg p (sm n fun j=>g j*f j) 0:=by
 induction hs with
 | zero h0=>exact (Jb (g:=fun _=>0) fun j hj=>((h0 j hj).mul Cg.rf).trans (Cg.of (by omega))).trans (Cg.of (Je fun _ _=>rfl))
 | @add f' g' i k hi _ hs ih =>
  have e:sm n (fun j=>(g' j+k*en m i j)*f j)=sm n (fun j=>g' j*f j)+k*sm n (fun j=>en m i j*f j):=by
   rw [G3 (g:=fun j=>g' j*f j+k*(en m i j*f j)) fun j _=>by grind,N1 (f:=fun j=>g' j*f j),Qb (f:=fun j=>en m i j*f j)]
  refine (Jb fun j hj=>(hs j hj).mul Cg.rf).trans ((Cg.of e).trans ?_);exact (ih.add (Cg.rf.mul (hf i hi))).trans (Cg.of (by omega))
theorem Zv (h:∀ i,i<m'.length->Cy p n m (en m' i)) (hf:C8 p n m f):C8 p n m' f:=fun i hi=>Am7 hf (h i hi)
theorem Apd (hf:C8 p n m f) (hg:C8 p n m g):C8 p n m (fun j=>f j+g j):=fun i hi=>by
 refine (Cg.of ?_).trans (((hf i hi).add (hg i hi)).trans (Cg.of (by omega)));rw [G3 (g:=fun j=>en m i j*f j+en m i j*g j) fun j _=>by grind,N1]
theorem Aif (a:Int) (hf:C8 p n m f):C8 p n m (fun j=>a*f j):=fun i hi=>by
 refine (Cg.of ?_).trans ((Cg.rf.mul (hf i hi)).trans (Cg.of (show a*0=0 by omega)));rw [G3 (g:=fun j=>a*(en m i j*f j)) fun j _=>by grind,Qb]
theorem Agr (hf:C8 p n m f) (h:∀ j,j<n->Cg p (g j) (f j)):C8 p n m g:=fun i hi=>(Jb fun j hj=>Cg.rf.mul (h j hj)).trans (hf i hi)
theorem Aee (h:∀ i,i<m'.length->C8 p n m (en m' i)) (hs:Cy p n m' f):C8 p n m f:=by
 induction hs with
 | zero h0=>exact fun i hi=>(Jb (g:=fun _=>0) fun j hj=>(Cg.rf.mul (h0 j hj)).trans (Cg.of (by omega))).trans (Cg.of (Je fun _ _=>rfl))
 | add i k hi _ hs ih=>exact Agr (Apd ih (Aif k (h i hi))) hs
def pvs (r:Nat) (pv:Nat->Nat) (j:Nat):Bool:=(List.range r).any fun i=>pv i==j
theorem Aqv {r j:Nat} {pv:Nat->Nat} (h:pvs r pv j=true):∃ i,i<r∧pv i=j:=by
 obtain ⟨i,hi,he⟩:=List.any_eq_true.1 h;exact ⟨i,List.mem_range.1 hi,beq_iff_eq.1 he⟩
theorem Amt {r j i:Nat} {pv:Nat->Nat} (h:pvs r pv j=false) (hi:i<r):pv i≠j:=fun e=>by
 have:=List.any_eq_false.1 h i (List.mem_range.2 hi);exact this (beq_iff_eq.2 e)
structure At2 (p:Int) (n:Nat) (R:List (List Int)) (pv:Nat->Nat) (N:List (List Int)):Prop where
 ex:∀ j,j<n->pvs R.length pv j=false->∃ t,t<N.length∧Cg p (en N t j) 1∧(∀ i,i<R.length->Cg p (en N t (pv i)) (-en R i j))∧∀ q,q<n->q≠j->pvs R.length pv q=false->Cg p (en N t q) 0
 all:∀ t,t<N.length->∃ j,j<n∧pvs R.length pv j=false∧Cg p (en N t j) 1∧(∀ i,i<R.length->Cg p (en N t (pv i)) (-en R i j))∧∀ q,q<n->q≠j->pvs R.length pv q=false->Cg p (en N t q) 0
theorem Anb {R N:List (List Int)} {pv:Nat->Nat} (h:K9 n R.length R pv) (hN:At2 p n R pv N):Cy p n N f↔C8 p n R f:=by
 have hd:∀ i k,i<R.length->k<R.length->en R i (pv k)=if k=i then 1 else 0:=fun i k hi hk=>by
  by_cases e:k=i
  ·subst e; rw [if_pos rfl,h.one k hk]
  ·rw [if_neg e,h.zero k hk i (Ne.symm e)]
 have hpi:∀ i k,i<R.length->k<R.length->pv i=pv k->i=k:=fun i k hi hk e=>by
  rcases Nat.lt_trichotomy i k with h1 | h1 | h1
  ·have:=h.mono i k h1 hk; omega
  ·exact h1
  ·have:=h.mono k i h1 hi; omega
 constructor
 ·refine Aee fun t ht i hi=>?_
  obtain ⟨j,hj,hfr,h1,h2,h3⟩:=hN.all t ht;have hne:pv i≠j:=Amt hfr hi
  have e:Cg p (sm n fun q=>en R i q*en N t q) (sm n fun q=>(if q=j then en R i j else 0)+(if q=pv i then -en R i j else 0)):=by
   refine Jb fun q hq=>?_
   by_cases e1:q=j
   ·subst e1;rw [if_pos rfl,if_neg (Ne.symm hne)];exact (Cg.rf.mul h1).trans (Cg.of (by omega))
   ·rw [if_neg e1];by_cases e2:q=pv i
    ·subst e2;rw [if_pos rfl,h.one i hi];exact (Cg.rf.mul (h2 i hi)).trans (Cg.of (by omega))
    ·rw [if_neg e2];cases hf:pvs R.length pv q
     ·exact (Cg.rf.mul (h3 q hq e1 hf)).trans (Cg.of (by omega))
     ·obtain ⟨k,hk,rfl⟩:=Aqv hf;rw [hd i k hi hk,if_neg fun e=>e2 (by rw [e])];exact Cg.of (by omega)
  refine e.trans (Cg.of ?_);rw [N1,K8 hj fun q _ hq=>if_neg hq,K8 (h.lt i hi) fun q _ hq=>if_neg hq,if_pos rfl,if_pos rfl];omega
 ·intro hf
  have hrow:∀ j,∃ b:Nat->Int,Cy p n N b∧(j<n->pvs R.length pv j=false->Cg p (b j) 1∧(∀ i,i<R.length->Cg p (b (pv i)) (-en R i j))∧∀ q,q<n->q≠j->pvs R.length pv q=false->Cg p (b q) 0):=fun j=>by
   by_cases hj:j<n∧pvs R.length pv j=false
   ·obtain ⟨t,ht,h1⟩:=hN.ex j hj.1 hj.2;exact ⟨en N t,B7 ht,fun _ _=>h1⟩
   ·exact ⟨fun _=>0,.zero fun _ _=>Cg.rf,fun h1 h2=>(hj ⟨h1,h2⟩).elim⟩
  obtain ⟨b,hb⟩:∃ b:Nat->Nat->Int,∀ j,Cy p n N (b j)∧(j<n->pvs R.length pv j=false->Cg p (b j j) 1∧(∀ i,i<R.length->Cg p (b j (pv i)) (-en R i j))∧∀ q,q<n->q≠j->pvs R.length pv q=false->Cg p (b j q) 0) :=
   ⟨fun j=>Classical.choose (hrow j),fun j=>Classical.choose_spec (hrow j)⟩
  have hS:Cy p n N (fun q=>sm n fun j=>(if pvs R.length pv j then 0 else f j)*b j q):=Sf (F:=fun j q=>(if pvs R.length pv j then 0 else f j)*b j q) fun j _=>H9 _ (hb j).1
  refine Df hS fun q hq=>Cg.symm ?_
  cases hf':pvs R.length pv q
  ·refine (Jb (g:=fun j=>if j=q then f q else 0) fun j hj=>?_).trans (Cg.of ?_)
   ·by_cases e:j=q
    ·subst e;rw [if_pos rfl,hf',if_neg (by decide)];exact (Cg.rf.mul ((hb j).2 hj hf').1).trans (Cg.of (by omega))
    ·rw [if_neg e];cases hfj:pvs R.length pv j
     ·exact (Cg.rf.mul (((hb j).2 hj hfj).2.2 q hq (Ne.symm e) hf')).trans (Cg.of (by omega))
     ·rw [if_pos rfl]; exact Cg.of (by omega)
   ·rw [K8 hq fun j _ hj=>if_neg hj,if_pos rfl]
  ·obtain ⟨i,hi,rfl⟩:=Aqv hf';refine (Jb (g:=fun j=> -1*(en R i j*f j)+(if j=pv i then f j else 0)) fun j hj=>?_).trans ?_
   ·cases hfj:pvs R.length pv j
    ·have hne:j≠pv i:=fun e=>Amt hfj hi e.symm
     rw [if_neg (by decide),if_neg hne];exact (Cg.rf.mul (((hb j).2 hj hfj).2.1 i hi)).trans (Cg.of (by grind))
    ·obtain ⟨k,hk,rfl⟩:=Aqv hfj;rw [if_pos rfl,hd i k hi hk];by_cases e:k=i
     ·subst e; rw [if_pos rfl,if_pos rfl]; exact Cg.of (by omega)
     ·rw [if_neg e,if_neg fun e'=>e (hpi k i hk hi e')]; exact Cg.of (by omega)
   ·rw [N1 (f:=fun j=> -1*(en R i j*f j)),Qb (f:=fun j=>en R i j*f j),K8 (f:=fun j=>if j=pv i then f j else 0) hq fun j _ hj=>if_neg hj,if_pos rfl];exact ((Cg.rf.mul (hf i hi)).add Cg.rf).trans (Cg.of (by omega))
end
def lv (R:List (List Int)) (i:Nat):Nat:=Fq (R.getD i [])
section
variable {p:Int} {n:Nat} {R:List (List Int)}
theorem Lv {pv:Nat->Nat} (h:K9 n R.length R pv) {w:Nat} (hm:MatW p w R) (hw:n<=w):K9 n R.length R (lv R):=by
 have e:∀ i,i<R.length->lv R i=pv i:=fun i hi=>Ap9 h hm hw hi
 refine ⟨Nat.le_refl _,fun i hi=>?_,fun i k hik hk=>?_,fun i hi j hj=>?_,fun i hi=>?_,fun i hi k hk=>?_,fun i hi j _=>Ly hi⟩
 ·rw [e i hi]; exact h.lt i hi
 ·rw [e i (by omega),e k hk]; exact h.mono i k hik hk
 ·rw [e i hi] at hj; exact h.low i hi j hj
 ·rw [e i hi]; exact h.one i hi
 ·rw [e i hi]; exact h.zero i hi k hk
end
end
section
def bvT (p:Int) (n:Nat) (R:List (List Int)) (j:Nat):Nat->List Int
 | 0=>(List.replicate n 0).set j 1
 | i+1=>(bvT p n R j i).set (lv R i) ((p - en R i j) % p)
def ldT (n:Nat) (R:List (List Int)):Nat->List Int
 | 0=>List.replicate n (-1)
 | i+1=>(ldT n R i).set (lv R i) (i:Int)
def Ab6 (n:Nat) (R:List (List Int)):List Nat:=(List.range n).filter fun j=> !pvs R.length (lv R) j
def Tv (p:Int) (n:Nat) (R:List (List Int)):List (List Int):=(Ab6 n R).map fun j=>bvT p n R j R.length
def Mc (p:Int) (n:Nat) (m:List (List Int)):List (List Int):=gj p n (Tv p n (gj p n m))
section
variable {p:Int} {n:Nat} {R m:List (List Int)}
theorem Aih {pv:Nat->Nat} {i j:Nat}:pvs (i+1) pv j=(pvs i pv j||(pv i==j)):=by simp [pvs,List.range_succ]
theorem Ahe:∀ i,(ldT n R i).length=n
 | 0=>by simp [ldT]
 | i+1=>by unfold ldT; rw [List.length_set,Ahe i]
theorem Aqm (hlt:∀ i,i<R.length->lv R i<n) {j:Nat} (hj:j<n):∀ i,i<=R.length->∃ v,(ldT n R i)[j]? =some v∧(decide (0<=v)=pvs i (lv R) j)
 | 0,_=>⟨-1,by simp [ldT,hj],rfl⟩
 | i+1,hi=>by
  obtain ⟨v,h1,h2⟩:=Aqm hlt hj i (by omega);have hl:=Ahe (n:=n) (R:=R) i;by_cases e:lv R i=j
  ·refine ⟨(i:Int),?_,?_⟩
   ·unfold ldT;rw [e,List.getElem?_set_self (by omega)]
   ·rw [Aih,beq_iff_eq.2 e,Bool.or_true,Be (by omega)]
  ·refine ⟨v,?_,?_⟩
   ·unfold ldT;rw [List.getElem?_set_ne e]; exact h1
   ·rw [Aih,beq_eq_false_iff_ne.2 e,Bool.or_false]; exact h2
theorem Wb {j:Nat}:∀ i,(bvT p n R j i).length=n
 | 0=>by simp [bvT]
 | i+1=>by unfold bvT; rw [List.length_set,Wb i]
theorem Aoh {j:Nat} (hp:2<=p):∀ i,inV p (bvT p n R j i)
 | 0=>fun a ha=>by
  rcases List.mem_or_eq_of_mem_set ha with ha | rfl
  ·obtain rfl:=(List.mem_replicate.1 ha).2; omega
  ·omega
 | i+1=>fun a ha=>by
  rcases List.mem_or_eq_of_mem_set ha with ha | rfl
  ·exact Aoh hp i a ha
  ·exact M2 hp
theorem Pn {x:List Int} {i j:Nat} {a:Int} (hi:i<x.length):(x.set i a).getD j 0=if i=j then a else x.getD j 0:=by
 rw [gDg];by_cases e:i=j
 ·subst e; rw [if_pos rfl,List.getElem?_set_self hi]; rfl
 ·rw [if_neg e,List.getElem?_set_ne e,← gDg]
theorem Amo {j:Nat} (h:K9 n R.length R (lv R)):∀ i,i<=R.length->∀ t,t<i->(bvT p n R j i).getD (lv R t) 0=(p - en R t j) % p
 | 0,_,t,ht=>by omega
 | i+1,hi,t,ht=>by
  unfold bvT;rw [Pn (by rw [Wb]; exact h.lt i (by omega))];by_cases e:i=t
  ·subst e; rw [if_pos rfl]
  ·have:=h.mono t i (by omega) (by omega);rw [if_neg (by omega)];exact Amo h i (by omega) t (by omega)
theorem Aat {j q:Nat} (h:K9 n R.length R (lv R)) (hj:j<n):∀ i,i<=R.length->(∀ t,t<i->lv R t≠q)->(bvT p n R j i).getD q 0=if j=q then 1 else 0
 | 0,_,_=>by
  unfold bvT;rw [Pn (by simpa using hj)];by_cases e:j=q
  ·rw [if_pos e,if_pos e]
  ·rw [if_neg e,if_neg e,gDg,List.getElem?_replicate];split <;> rfl
 | i+1,hi,hq=>by
  unfold bvT;rw [Pn (by rw [Wb]; exact h.lt i (by omega)),if_neg (hq i (by omega))];exact Aat h hj i (by omega) fun t ht=>hq t (by omega)
theorem Rv (hp:2<=p):MatW p n (Tv p n R):=fun x hx=>by
 obtain ⟨j,_,rfl⟩:=List.mem_map.1 hx;exact ⟨Wb _,Aoh hp _⟩
theorem Ahf:(Tv p n R).length<=n:=by
 unfold Tv Ab6;rw [List.length_map];exact Nat.le_trans (List.length_filter_le ..) (by simp)
theorem Arr (hp:2<=p) (h:K9 n R.length R (lv R)):At2 p n R (lv R) (Tv p n R):=by
 have hb:∀ j,j<n->pvs R.length (lv R) j=false->Cg p ((bvT p n R j R.length).getD j 0) 1∧(∀ i,i<R.length->Cg p ((bvT p n R j R.length).getD (lv R i) 0) (-en R i j))∧∀ q,q<n->q≠j->pvs R.length (lv R) q=false->Cg p ((bvT p n R j R.length).getD q 0) 0:=fun j hj hf=>by
  refine ⟨?_,fun i hi=>?_,fun q _ hne hfq=>?_⟩
  ·rw [Aat h hj _ (Nat.le_refl _) fun t ht=>Amt hf ht,if_pos rfl]; exact Cg.rf
  ·rw [Amo h _ (Nat.le_refl _) i hi];exact Cg.md.trans ⟨1,by omega⟩
  ·rw [Aat h hj _ (Nat.le_refl _) fun t ht=>Amt hfq ht,if_neg (Ne.symm hne)]; exact Cg.rf
 have he:∀ t j,(Ab6 n R)[t]? =some j->∀ q,en (Tv p n R) t q=(bvT p n R j R.length).getD q 0:=fun t j ht q=>by
  unfold en Tv;rw [A3 (x:=bvT p n R j R.length) (by rw [List.getElem?_map,ht]; rfl)]
 have hl:(Tv p n R).length=(Ab6 n R).length:=List.length_map ..;refine ⟨fun j hj hf=>?_,fun t ht=>?_⟩
 ·have hm:j∈Ab6 n R:=List.mem_filter.2 ⟨List.mem_range.2 hj,by rw [hf]; rfl⟩;obtain ⟨t,ht,e⟩:=List.getElem_of_mem hm;have h1:(Ab6 n R)[t]? =some j:=by rw [gEg ht,e]
  refine ⟨t,by omega,?_⟩;simp only [he t j h1];exact hb j hj hf
 ·obtain ⟨j,hj⟩:=D6 (show t<(Ab6 n R).length by omega);have hm:=List.mem_filter.1 (List.mem_of_getElem? hj);have hjn:=List.mem_range.1 hm.1;have hf:pvs R.length (lv R) j=false:=by simpa using hm.2
  refine ⟨j,hjn,hf,?_⟩;simp only [he t j hj];exact hb j hjn hf
theorem Apk {f:Nat->Int} (hp:isF p=true) (hm:MatW p n m):Cy p n (Tv p n (gj p n m)) f↔C8 p n m f:=by
 have hb:=Gs hp;obtain ⟨⟨pv,h1⟩,h2⟩:=Sj hb.1 (Ya hp) hm;have h3:=Lv h1 (Xt hb.1 hm) (Nat.le_refl n);refine (Anb h3 (Arr hb.1 h3)).trans ⟨Zv fun i hi=>(h2 _).2 (B7 hi),Zv fun i hi=>(h2 _).1 (B7 hi)⟩
theorem Ag5 {x:Int} (hp:2<=p∧p<=97) (hx:0<=x∧x<p):Fh p x=some ((p - x) % p):=by
 unfold Fh;rw [Ak (by omega),Bo (by omega) (by omega),Int.tmod_eq_emod_of_nonneg (by omega)]
theorem Aid (hp:isF p=true) (hm:MatW p n m) (hn:n<=1000) (hl:m.length<=100000):Fn p (n:Int) m=some (Mc p n m):=by
 have hb:=Gs hp;obtain ⟨⟨pv,h1⟩,_⟩:=Sj hb.1 (Ya hp) hm;have hRm:=Xt (n:=n) hb.1 hm;have h:=Lv h1 hRm (Nat.le_refl n)
 have hRl:(gj p n m).length<=n:=by
  have:=Apt (k:=n) (u:=id) (fun i j h _=>h) h.mono;refine Nat.le_of_not_lt fun hlt=>?_
  have hge:∀ i,i<(gj p n m).length->i<=lv (gj p n m) i:=by
   intro i
   induction i with
   | zero=>intro _; omega
   | succ i ih=>intro hi; have:=ih (by omega); have:=h.mono i (i+1) (by omega) hi; omega
  have:=hge n hlt;have:=h.lt n hlt;omega
 unfold Fn Mc;rw [Ub hp hm (Nat.le_refl n) (by omega) hl,obs,Ak (by omega),Int.toNat_natCast];generalize gj p n m=R at *
 have l1:Av (fun s_:Nat×List Int=>F4 (n:Int) s_.1 s_.2) 4611686018427387904 (0,List.replicate n 0)=some (ldT n R 0):=by
  refine Vi (y:=ldT n R 0) (by simp [ldT]) (by simp; omega) (fun j hj z hz=>?_) ?_
  ·simp at hj
   try dsimp only
   unfold F4;rw [Int.toNat_natCast,Be (by omega),cond_true,hz,obs,Ak (by omega)];simp [ldT]
  ·try dsimp only
   unfold F4;rw [Int.toNat_natCast,Bf (by simp),cond_false]
 have hrow:∀ i,i<R.length->R[i]? =some (R.getD i [])∧VecW p n (R.getD i []):=fun i hi=>⟨by rw [gEg hi,A3 (gEg hi)],hRm _ (Dd hi)⟩
 have l2:Av (fun s_:Nat×List Int=>Ge R s_.1 s_.2) 4611686018427387904 (0,ldT n R 0)=some (ldT n R R.length):=by
  refine Bg R.length (fun i=>(i,ldT n R i)) (by omega) _ rfl (fun i hi=>?_) ?_
  ·obtain ⟨g1,g2⟩:=hrow i hi;have hlt:=h.lt i hi;obtain ⟨x,hx⟩:=D6 (m:=ldT n R i) (i:=lv R i) (by rw [Ahe]; exact hlt)
   try dsimp only
   unfold Ge;rw [Be (by omega),cond_true,g1,obs,Vc _ (by rw [g2.1]; exact hn),obs,C5 (by omega),Int.toNat_natCast,show (ldT n R i)[Fq (R.getD i [])]? =some x from hx,obs,Ak (by omega)]; rfl
  ·try dsimp only
   unfold Ge;rw [Bf (by omega),cond_false]
 have l4:∀ j,j<n->Av (fun s_:Nat×List Int=>F7 R j p s_.1 s_.2) 4611686018427387904 (0,(List.replicate n 0).set j 1)=some (bvT p n R j R.length):=fun j hj=>by
  refine Bg R.length (fun i=>(i,bvT p n R j i)) (by omega) _ rfl (fun i hi=>?_) ?_
  ·obtain ⟨g1,g2⟩:=hrow i hi;have hlt:=h.lt i hi;obtain ⟨q1,q2,q3⟩:=Dv g2 hj;obtain ⟨x,hx⟩:=D6 (m:=bvT p n R j i) (i:=lv R i) (by rw [Wb]; exact hlt)
   try dsimp only
   unfold F7;rw [Be (by omega),cond_true,g1,obs,Vc _ (by rw [g2.1]; exact hn),obs,q3,obs,Ag5 hb ⟨q1,q2⟩,obs,C5 (by omega),Int.toNat_natCast,show (bvT p n R j i)[Fq (R.getD i [])]? =some x from hx,obs,Ak (by omega)]; rfl
  ·try dsimp only
   unfold F7;rw [Bf (by omega),cond_false]
 have l3:Av (fun s_:Nat×List (List Int)=>Gg (n:Int) (ldT n R R.length) R p s_.1 s_.2) 4611686018427387904 (0,[])=some (Tv p n R):=by
  refine Bg n (fun k=>(k,((List.range k).filter fun j=> !pvs R.length (lv R) j).map fun j=>bvT p n R j R.length)) (by omega) _ rfl (fun k hk=>?_) ?_
  ·obtain ⟨v,v1,v2⟩:=Aqm h.lt hk R.length (Nat.le_refl _)
   have hle:(((List.range k).filter fun j=> !pvs R.length (lv R) j).map fun j=>bvT p n R j R.length).length<=k:=by
    rw [List.length_map]; exact Nat.le_trans (List.length_filter_le ..) (by simp)
   try dsimp only
   unfold Gg;rw [Be (by omega),cond_true,v1,obs,v2,List.range_succ,List.filter_append];cases hc:pvs R.length (lv R) k
   ·rw [cond_false,Ak (by omega),Int.toNat_natCast,List.getElem?_replicate,if_pos hk,obs,l4 k hk,obs,Ak (by omega),obs,Ak (by omega)];simp [hc]
   ·rw [cond_true,obs,Ak (by omega)];simp [hc]
  ·try dsimp only
   unfold Gg;rw [Bf (by omega),cond_false]; rfl
 rw [l1,obs,l2,obs,l3,obs,Ub hp (Rv hb.1) (Nat.le_refl n) (by omega) (Nat.le_trans Ahf (by omega)),obs]
def trV (m:List (List Int)) (n:Nat):List (List Int):=(List.range n).map fun j=>m.map fun x=>x.getD j 0
def unV (n k:Nat):List Int:=(List.replicate n 0).set k 1
def idV (n:Nat):List (List Int):=(List.range n).map (unV n)
theorem As5 {k:Nat} (hk:k<n) (hn:n<=1000):Kv (n:Int) (k:Int)=some (unV n k):=by
 unfold Kv;rw [Zt (by omega),obs,C5 (by omega),Int.toNat_natCast,Int.toNat_natCast,List.getElem?_replicate,if_pos hk,obs]; rfl
theorem Alx {k:Nat} (hp:2<=p):VecW p n (unV n k):=⟨by simp [unV],fun a ha=>by
 rcases List.mem_or_eq_of_mem_set ha with ha | rfl
 ·obtain rfl:=(List.mem_replicate.1 ha).2; omega
 ·omega⟩
theorem Ak9 {k j:Nat} (hk:k<n):(unV n k).getD j 0=if j=k then 1 else 0:=by
 unfold unV;rw [Pn (by simpa using hk)];by_cases e:k=j
 ·rw [if_pos e,if_pos e.symm]
 ·rw [if_neg e,if_neg (Ne.symm e),gDg,List.getElem?_replicate];split <;> rfl
end
end
end Go.Proofs.YtkaollfdhoaihaaDoor
