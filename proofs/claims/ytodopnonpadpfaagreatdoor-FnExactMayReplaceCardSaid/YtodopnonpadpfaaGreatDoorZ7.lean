/- Lemmas on the program and on partial functions that stand in place of its code (part 7); no condition beyond those that each one states. -/
import Derived.Test.YtodopnonpadpfaaGreatDoorZ6
namespace Go.Proofs.YtodopnonpadpfaaGreatDoor
section
open Go.RowKit Go.Deep
set_option maxRecDepth 4000
def Ro:AC :=
 (.seq (rg [xo 1 (.i (.box 81 (tm 0))),xo 2 (qm (cb false))])
 (.seq (.seq (rg [xo 3 (qf 2 (tm 1)),xo 4 (ql (tm 3)),⟨some 5,none,.i (.bin .neq (tm 4) (.cst (.str ⟨#[]⟩)))⟩,xo 6 (qm (tm 5)),⟨some 7,some (6,false),qf 0 (tm 1)⟩,⟨some 8,some (6,false),ql (tm 7)⟩,⟨some 9,some (6,false),qc 44 [tm 8,ci 1,ci 14] [[],[],[]]⟩,⟨some 10,some (6,false),.i (.not (tm 9))⟩,xo 11 (.i (.pick (tm 6) (cb true) (tm 10)))])
 (.cond (tm 11)
  (.seq (rg [xo 2 (qm (cb false))])
  .ret)
  .skip))
 (.seq (.seq (rg [xo 12 (qf 0 (tm 1)),xo 13 (ql (tm 12))])
 (.block 0 (.seq (rg [xo 15 (qb .eql (tm 13) (ci 1)),xo 14 (qm (tm 15))])
 (.cond (tm 14)
  (.seq (rg [xo 16 (qf 1 (tm 1)),xo 17 (ql (tm 16)),xo 18 (qc 44 [tm 17,ci 0,ci 12] [[],[],[]]),xo 2 (qm (tm 18))])
  .ret)
  (.seq (.seq (rg [xo 20 (qb .eql (tm 13) (ci 7)),xo 19 (qm (tm 20))])
  (.cond (tm 19)
   .skip
   (rg [xo 21 (qb .eql (tm 13) (ci 13)),xo 19 (qm (tm 21))])))
  (.cond (tm 19)
   (.seq (rg [xo 22 (qf 1 (tm 1)),xo 23 (ql (tm 22)),xo 24 (qc 44 [tm 23,ci 0,ci 96] [[],[],[]]),xo 2 (qm (tm 24))])
   .ret)
   .skip))))))
 (.seq (rg [xo 25 (qf 1 (tm 1)),xo 26 (ql (tm 25)),xo 27 (qb .eql (tm 26) (ci 0)),xo 2 (qm (tm 27))])
 .ret))))
def Ae4:List Res:=[.tmp 2]
theorem Af3:Am Tryz.prog Tryz.f81=some (Ro,Ae4):=by kernel_rfl
def Ha (a0_0:Int) (a0_1:Int) (a0_2:ByteArray):Option Bool :=
 Option.bind (cond (!(a0_2.toList==(⟨#[]⟩:ByteArray).toList))
  (some true)
  (Option.bind (Bz a0_0 1 14) fun y5 =>
  some (!y5))) fun l3_m11 =>
cond l3_m11
 (some false)
 (cond (a0_0==1)
  (Option.bind (Bz a0_1 0 12) fun y13 =>
  some y13)
  (Option.bind (cond (a0_0==7)
    (some (a0_0==7))
    (some (a0_0==13))) fun l14_m19 =>
  cond l14_m19
   (Option.bind (Bz a0_1 0 96) fun y19 =>
   some y19)
   (some (a0_1==0))))
def Adm (r:Bool):RV:=⟨false,[(false,[.sc (.bool r)])]⟩
theorem Pc {a0_0:Int} {a0_1:Int} {a0_2:ByteArray} {r:Bool} (h:Ha a0_0 a0_1 a0_2=some r):Ax Tryz.prog Tab 81 [.agg [ai a0_0,ai a0_1,.str a0_2]] (Adm r):=by
 refine Ar (by kernel_rfl) Tryz.func81 Af3 (n:=28) (by kernel_rfl) (by simp) (tl:=[(0,.agg [ai a0_0,ai a0_1,.str a0_2])]) rfl ?_;unfold Ro;unfold Ha at h;refine Aj ?_;refine Ab ?_;refine Aw h (fun (l3_m11:Bool) S_=>S_=⟨Ao [(1,.box (oi 0 1) 0),(11,.bool l3_m11)],Ak (Aq [(oi 0 1,.cells 81 [ai a0_0,ai a0_1,.str a0_2])]),2⟩) ?_ ?_
 ·intro v_ h;rcases Ad h with ⟨q4,h⟩ | ⟨q4,h⟩
  ·refine Aa 12 ?_;refine rz0 (.box (oi 1 1) 2) ?_;refine rzl (.str a0_2) ?_;refine rz0 (.bool (!(a0_2.toList==(⟨#[]⟩:ByteArray).toList))) ?_;refine rz0 (.bool (!(a0_2.toList==(⟨#[]⟩:ByteArray).toList))) ?_;refine zs q4 ?_;refine zs q4 ?_;refine zs q4 ?_;refine zs q4 ?_;refine rs0 (.bool true) (zT q4) ?_;refine An (tn_ ?_);obtain rfl:=zj h;exact ⟨_,Ac [(oi 0 1,oi 1 1)],rfl⟩
  obtain ⟨y5,h5,h⟩:=Ae h;refine Aa 12 ?_;refine rz0 (.box (oi 1 1) 2) ?_;refine rzl (.str a0_2) ?_;refine rz0 (.bool (!(a0_2.toList==(⟨#[]⟩:ByteArray).toList))) ?_;refine rz0 (.bool (!(a0_2.toList==(⟨#[]⟩:ByteArray).toList))) ?_;refine rs0 (.box (oi 1 1) 0) (zg q4) ?_;refine rsl (ai a0_0) (zg q4) ?_;refine Bs (.bool y5) [] [ai a0_0,ai 1,ai 14] _ (caps:=[]) (args0:=[ai a0_0,ai 1,ai 14]) (Bf (by kernel_rfl) q4) (by kernel_rfl) (Bk h5) Ff ?_;refine rs0 (.bool (!y5)) (zg q4) ?_;refine rs0 (.bool (!y5)) (zF q4) ?_;refine An (tn_ ?_);obtain rfl:=zj h;exact ⟨_,Ac [(oi 0 1,oi 1 1)],rfl⟩
 rintro l3_m11 _ rfl h
 (try dsimp only at h);rcases Ad h with ⟨q6,h⟩ | ⟨q6,h⟩
 ·refine Af q6 ?_;refine Aj ?_;refine Ah (tr_ ?_);obtain rfl:=zj h;exact A0 [.bool false] (Ap rfl zl As)
 refine Ag q6 ?_;refine Ai (tn_ ?_);refine wr_ ?_;refine Ab ?_;refine Aj ?_;refine Al ?_;refine Aj ?_;rcases Ad h with ⟨q11,h⟩ | ⟨q11,h⟩
 ·refine Af q11 ?_;refine Ab ?_;obtain ⟨y13,h13,h⟩:=Ae h;refine Aa 10 ?_;refine rz0 (.box (oi 0 1) 1) ?_;refine rzl (ai a0_1) ?_;refine zc (.bool y13) [] [ai a0_1,ai 0,ai 12] (Bk h13) ?_;refine rsB 1 ?_;refine An (tn_ ?_);refine wr_ ?_;refine Ah (br_ (tr_ ?_));obtain rfl:=zj h;exact A0 [.bool y13] (Ap rfl zl As)
 refine Ag q11 ?_;refine Aw h (fun (l14_m19:Bool) S_=>S_=⟨Ao [(1,.box (oi 0 1) 0),(19,.bool l14_m19)],Ak (Aq [(oi 0 1,.cells 81 [ai a0_0,ai a0_1,.str a0_2])]),2⟩) ?_ ?_
 ·intro v_ h;refine Aj ?_;rcases Ad h with ⟨q16,h⟩ | ⟨q16,h⟩
  ·refine Af q16 ?_;refine Ai (tn_ ?_);obtain rfl:=zj h;exact ⟨_,Ac [],rfl⟩
  refine Ag q16 ?_;refine Aa 10 ?_;refine rsB 2 ?_;refine An (tn_ ?_);obtain rfl:=zj h;exact ⟨_,Ac [],rfl⟩
 rintro l14_m19 _ rfl h
 (try dsimp only at h);rcases Ad h with ⟨q17,h⟩ | ⟨q17,h⟩
 ·refine Af q17 ?_;refine Ab ?_;obtain ⟨y19,h19,h⟩:=Ae h;refine Aa 6 ?_;refine rz0 (.box (oi 0 1) 1) ?_;refine rzl (ai a0_1) ?_;refine zc (.bool y19) [] [ai a0_1,ai 0,ai 96] (Bk h19) ?_;refine rsB 1 ?_;refine An (tn_ ?_);refine wr_ ?_;refine Ah (br_ (tr_ ?_));obtain rfl:=zj h;exact A0 [.bool y19] (Ap rfl zl As)
 refine Ag q17 ?_;refine Ai (bn_ (tn_ ?_));refine wr_ ?_;refine Aj ?_;refine Ah ?_;obtain rfl:=zj h;exact A0 [.bool (a0_1==0)] (Ap rfl zl As)
def Sc:AC :=
 (.seq (rg [xo 2 (qm (ci 0)),xo 3 (qm (ci 0))])
 (.seq (.seq (rg [xo 4 (qm (tm 0))])
 (.block 0 (.seq (rg [xo 6 (qb .eql (tm 4) (ci 2)),xo 5 (qm (tm 6))])
 (.cond (tm 5)
  (.seq (rg [xo 2 (qm (ci 2)),xo 3 (qm (ci 2))])
  .ret)
  (.seq (.seq (rg [xo 8 (qb .eql (tm 4) (ci 3)),xo 7 (qm (tm 8))])
  (.cond (tm 7)
   .skip
   (rg [xo 9 (qb .eql (tm 4) (ci 11)),xo 7 (qm (tm 9))])))
  (.cond (tm 7)
   (.seq (rg [xo 2 (qm (ci 1)),xo 3 (qm (ci 2))])
   .ret)
   (.seq (.seq (rg [xo 11 (qb .eql (tm 4) (ci 4)),xo 10 (qm (tm 11))])
   (.cond (tm 10)
    .skip
    (rg [xo 12 (qb .eql (tm 4) (ci 12)),xo 10 (qm (tm 12))])))
   (.cond (tm 10)
    (.seq (rg [xo 2 (qm (ci 1)),xo 3 (qm (ci 0))])
    .ret)
    (.seq (.seq (rg [xo 14 (qb .eql (tm 4) (ci 5)),xo 13 (qm (tm 14))])
    (.cond (tm 13)
     .skip
     (rg [xo 15 (qb .eql (tm 4) (ci 9)),xo 13 (qm (tm 15))])))
    (.cond (tm 13)
     (.seq (rg [xo 2 (qm (ci 2)),xo 3 (qm (ci 1))])
     .ret)
     (.seq (.seq (rg [xo 17 (qb .eql (tm 4) (ci 6)),xo 16 (qm (tm 17))])
     (.cond (tm 16)
      .skip
      (rg [xo 18 (qb .eql (tm 4) (ci 10)),xo 16 (qm (tm 18))])))
     (.cond (tm 16)
      (.seq (rg [xo 2 (qm (ci 0)),xo 3 (qm (ci 1))])
      .ret)
      .skip))))))))))))
 (.seq (rg [xo 2 (qm (ci 1)),xo 3 (qm (ci 1))])
 .ret)))
def Ae8:List Res:=[.tmp 2,.tmp 3]
theorem Afv:Am Tryz.prog Tryz.f98=some (Sc,Ae8):=by kernel_rfl
def Hm (a0:Int):Option (Int×Int) :=
 cond (a0==2)
 (some (2,2))
 (Option.bind (cond (a0==3)
   (some (a0==3))
   (some (a0==11))) fun l7_m7 =>
 cond l7_m7
  (some (1,2))
  (Option.bind (cond (a0==4)
    (some (a0==4))
    (some (a0==12))) fun l12_m10 =>
  cond l12_m10
   (some (1,0))
   (Option.bind (cond (a0==5)
     (some (a0==5))
     (some (a0==9))) fun l17_m13 =>
   cond l17_m13
    (some (2,1))
    (Option.bind (cond (a0==6)
      (some (a0==6))
      (some (a0==10))) fun l22_m16 =>
    cond l22_m16
     (some (0,1))
     (some (1,1))))))
def Abh (r:Int×Int):RV:=⟨true,[(false,[.sc (.int .i64 r.1)]),(false,[.sc (.int .i64 r.2)])]⟩
theorem Aa5 {a0:Int} {r:Int×Int} (h:Hm a0=some r):Ax Tryz.prog Tab 98 [ai a0] (Abh r):=by
 refine Ar (by kernel_rfl) Tryz.func98 Afv (n:=19) (by kernel_rfl) (by simp) (tl:=[(0,ai a0)]) rfl ?_;unfold Sc;unfold Hm at h;refine Aj ?_;refine Ab ?_;refine Aj ?_;refine Al ?_;refine Aj ?_;rcases Ad h with ⟨q5,h⟩ | ⟨q5,h⟩
 ·refine Af q5 ?_;refine Aj ?_;refine Ah (br_ (tr_ ?_));obtain rfl:=zj h;exact A0 [ai 2,ai 2] (Ap rfl zl (Ap rfl zl As))
 refine Ag q5 ?_;refine Aw h (fun (l7_m7:Bool) S_=>S_=⟨Ao [(4,ai a0),(7,.bool l7_m7)],Ak (Aq []),2⟩) ?_ ?_
 ·intro v_ h;refine Aj ?_;rcases Ad h with ⟨q9,h⟩ | ⟨q9,h⟩
  ·refine Af q9 ?_;refine Ai (tn_ ?_);obtain rfl:=zj h;exact ⟨_,Ac [],rfl⟩
  refine Ag q9 ?_;refine Aa 10 ?_;refine rsB 2 ?_;refine An (tn_ ?_);obtain rfl:=zj h;exact ⟨_,Ac [],rfl⟩
 rintro l7_m7 _ rfl h
 (try dsimp only at h);rcases Ad h with ⟨q10,h⟩ | ⟨q10,h⟩
 ·refine Af q10 ?_;refine Aj ?_;refine Ah (br_ (tr_ ?_));obtain rfl:=zj h;exact A0 [ai 1,ai 2] (Ap rfl zl (Ap rfl zl As))
 refine Ag q10 ?_;refine Aw h (fun (l12_m10:Bool) S_=>S_=⟨Ao [(4,ai a0),(10,.bool l12_m10)],Ak (Aq []),2⟩) ?_ ?_
 ·intro v_ h;refine Aj ?_;rcases Ad h with ⟨q14,h⟩ | ⟨q14,h⟩
  ·refine Af q14 ?_;refine Ai (tn_ ?_);obtain rfl:=zj h;exact ⟨_,Ac [],rfl⟩
  refine Ag q14 ?_;refine Aa 6 ?_;refine rsB 2 ?_;refine An (tn_ ?_);obtain rfl:=zj h;exact ⟨_,Ac [],rfl⟩
 rintro l12_m10 _ rfl h
 (try dsimp only at h);rcases Ad h with ⟨q15,h⟩ | ⟨q15,h⟩
 ·refine Af q15 ?_;refine Aj ?_;refine Ah (br_ (tr_ ?_));obtain rfl:=zj h;exact A0 [ai 1,ai 0] (Ap rfl zl (Ap rfl zl As))
 refine Ag q15 ?_;refine Aw h (fun (l17_m13:Bool) S_=>S_=⟨Ao [(4,ai a0),(13,.bool l17_m13)],Ak (Aq []),2⟩) ?_ ?_
 ·intro v_ h;refine Aj ?_;rcases Ad h with ⟨q19,h⟩ | ⟨q19,h⟩
  ·refine Af q19 ?_;refine Ai (tn_ ?_);obtain rfl:=zj h;exact ⟨_,Ac [],rfl⟩
  refine Ag q19 ?_;refine Aa 6 ?_;refine rsB 2 ?_;refine An (tn_ ?_);obtain rfl:=zj h;exact ⟨_,Ac [],rfl⟩
 rintro l17_m13 _ rfl h
 (try dsimp only at h);rcases Ad h with ⟨q20,h⟩ | ⟨q20,h⟩
 ·refine Af q20 ?_;refine Aj ?_;refine Ah (br_ (tr_ ?_));obtain rfl:=zj h;exact A0 [ai 2,ai 1] (Ap rfl zl (Ap rfl zl As))
 refine Ag q20 ?_;refine Aw h (fun (l22_m16:Bool) S_=>S_=⟨Ao [(16,.bool l22_m16)],Ak (Aq []),2⟩) ?_ ?_
 ·intro v_ h;refine Aj ?_;rcases Ad h with ⟨q24,h⟩ | ⟨q24,h⟩
  ·refine Af q24 ?_;refine Ai (tn_ ?_);obtain rfl:=zj h;exact ⟨_,Ac [],rfl⟩
  refine Ag q24 ?_;refine Aa 6 ?_;refine rsB 2 ?_;refine An (tn_ ?_);obtain rfl:=zj h;exact ⟨_,Ac [],rfl⟩
 rintro l22_m16 _ rfl h
 (try dsimp only at h);rcases Ad h with ⟨q25,h⟩ | ⟨q25,h⟩
 ·refine Af q25 ?_;refine Aj ?_;refine Ah (br_ (tr_ ?_));obtain rfl:=zj h;exact A0 [ai 0,ai 1] (Ap rfl zl (Ap rfl zl As))
 refine Ag q25 ?_;refine Ai (bn_ (tn_ ?_));refine wr_ ?_;refine Aj ?_;refine Ah ?_;obtain rfl:=zj h;exact A0 [ai 1,ai 1] (Ap rfl zl (Ap rfl zl As))
def O7:AC :=
 (.seq (rg [xo 1 (.i (.box 81 (tm 0))),xo 2 (qm (ci 0)),xo 3 (qm (ci 0))])
 (.seq (.seq (rg [xo 4 (qf 0 (tm 1)),xo 5 (ql (tm 4)),xo 6 (qb .eql (tm 5) (ci 1))])
 (.cond (tm 6)
  (.seq (.region [xo 7 (qf 1 (tm 1)),xo 8 (ql (tm 7)),xo 9 (qf 1 (tm 1)),xo 10 (ql (tm 9)),xo 2 (qm (tm 8)),xo 3 (qm (tm 10))] true [])
  .ret)
  .skip))
 (.seq (rg [xo 11 (qf 0 (tm 1)),xo 12 (ql (tm 11)),xo 13 (qc 98 [tm 12] [[]]),xo 14 (.i (.extr 0 (tm 13))),xo 15 (.i (.extr 1 (tm 13))),xo 2 (qm (tm 14)),xo 3 (qm (tm 15))])
 .ret)))
def Adt:List Res:=[.tmp 2,.tmp 3]
theorem Z2:Am Tryz.prog Tryz.f82=some (O7,Adt):=by kernel_rfl
def Dh (a0_0:Int) (a0_1:Int) (a0_2:ByteArray):Option (Int×Int) :=
 cond (a0_0==1)
 (some (a0_1,a0_1))
 (Option.bind (Hm a0_0) fun y7 =>
 some (y7.1,y7.2))
def Yr (r:Int×Int):RV:=⟨true,[(false,[.sc (.int .i64 r.1)]),(false,[.sc (.int .i64 r.2)])]⟩
theorem Yn {a0_0:Int} {a0_1:Int} {a0_2:ByteArray} {r:Int×Int} (h:Dh a0_0 a0_1 a0_2=some r):Ax Tryz.prog Tab 82 [.agg [ai a0_0,ai a0_1,.str a0_2]] (Yr r):=by
 refine Ar (by kernel_rfl) Tryz.func82 Z2 (n:=16) (by kernel_rfl) (by simp) (tl:=[(0,.agg [ai a0_0,ai a0_1,.str a0_2])]) rfl ?_;unfold O7;unfold Dh at h;refine Aj ?_;refine Ab ?_;refine Aj ?_;rcases Ad h with ⟨q4,h⟩ | ⟨q4,h⟩
 ·refine Af q4 ?_;refine Ab ?_;refine A1 13 ?_;refine dsB 6 ?_;refine F2 (Bc (by kernel_rfl)) (tn_ ?_);refine wr_ ?_;refine Ah (tr_ ?_);obtain rfl:=zj h;exact A0 [ai a0_1,ai a0_1] (Ap rfl zl (Ap rfl zl As))
 refine Ag q4 ?_;refine Ai (tn_ ?_);refine wr_ ?_;refine Ab ?_;obtain ⟨y7,h7,h⟩:=Ae h;refine Aa 14 ?_;refine rz0 (.box (oi 1 1) 0) ?_;refine rzl (ai a0_0) ?_;refine zc (.tup [ai y7.1,ai y7.2]) [] [ai a0_0] (Aa5 h7) ?_;refine rsB 4 ?_;refine An (tn_ ?_);refine wr_ ?_;refine Ah ?_;obtain rfl:=zj h;exact A0 [ai y7.1,ai y7.2] (Ap rfl zl (Ap rfl zl As))
def M2:AC :=
 (.seq (rg [xo 10 (qb .lss (tm 9) (tm 8))])
 (.seq (.cond (tm 10)
  .skip
  (.exit 0))
 (.seq (.block 1 (.seq (rg [xo 11 (qm (tm 9)),xo 12 (qx 4 (tm 7) (tm 9)),xo 13 (.i (.ld false 4 (tm 12))),⟨some 6,none,.i (.alloc 121 [.str ⟨#[]⟩,.int .i64 0,.int .i64 0,.nils])⟩,xo 5 (qm (tm 11)),xn (.st false 4 (tm 6) (tm 13))])
 (.seq (rg [xo 14 (qf 0 (tm 6)),xo 15 (ql (tm 14)),xo 16 (qm (tm 1)),xo 17 (qb .eql (tm 15) (tm 16))])
 (.cond (tm 17)
  (.seq (rg [xo 18 (qm (tm 5)),xo 4 (qm (tm 18))])
  .ret)
  .skip))))
 (rg [xo 19 (qb .add (tm 9) (ci 1)),xo 9 (qm (tm 19))]))))
def Ra:AC :=
 (.seq (rg [xo 4 (qm (ci 0))])
 (.seq (.seq (rg [xo 7 (qm (tm 0)),xo 8 (.i (.len (tm 7))),xo 9 (qm (ci 0))])
 (.block 0 (.loop M2)))
 (.seq (rg [xo 4 (qm (ci (-1)))])
 .ret)))
def Afw:List Res:=[.tmp 4]
theorem Ae3:Am Tryz.prog Tryz.f83=some (Ra,Afw):=by kernel_rfl
def Nj (a0:List (ByteArray×Int×Int×List (Int×Int×ByteArray))) (a1:ByteArray) (l4_m9:Nat):Option (Ctl Nat (Ctl Unit Int)) :=
 cond (decide (((l4_m9:Nat):Int)<((a0.length:Nat):Int)))
 (Option.bind (a0[l4_m9]?) fun x10 =>
 cond (x10.1.toList==a1.toList)
  (some (Ctl.out (Ctl.out ((l4_m9:Nat):Int))))
  (og (l4_m9+1<4611686018427387904) <|
  some (Ctl.next (l4_m9+1))))
 (some (Ctl.out (Ctl.next ())))
def Ml (a0:List (ByteArray×Int×Int×List (Int×Int×ByteArray))) (a1:ByteArray):Option Int :=
 Do (A4 (fun s_:Nat=>Nj a0 a1 s_) 4611686018427387904 0) fun _ =>
some (-1)
def Aa2 (r:Int):RV:=⟨false,[(false,[.sc (.int .i64 r)])]⟩
theorem Ab7 {a0:List (ByteArray×Int×Int×List (Int×Int×ByteArray))} {a1:ByteArray} {r:Int} (h:Ml a0 a1=some r):Ax Tryz.prog Tab 83 [.tree (.pair .str (.pair .int (.pair .int (.slice (.pair .int (.pair .int .str)))))) a0,.str a1] (Aa2 r):=by
 refine Ar (by kernel_rfl) Tryz.func83 Ae3 (n:=20) (by kernel_rfl) (by simp) (tl:=[(0,.tree (.pair .str (.pair .int (.pair .int (.slice (.pair .int (.pair .int .str)))))) a0),(1,.str a1)]) rfl ?_;unfold Ra;unfold Ml at h;refine Aj ?_;refine Bh h (fun (_:Unit) S_=>S_=⟨Ao [],Ak (Aq []),2⟩) ?_ ?_
 ·intro v_ h hk2;refine Aj ?_;refine Al ?_;refine A3 h (fun (l4_m9:Nat) S_=>S_=⟨Ao [(1,.str a1),(7,.tree (.pair .str (.pair .int (.pair .int (.slice (.pair .int (.pair .int .str)))))) a0),(8,ai ((a0.length:Nat):Int)),(9,ai ((l4_m9:Nat):Int))],Ak (Aq []),2⟩) ⟨_,Ac [],rfl⟩ ?_;rintro n_ l4_m9 _ c_ rfl h hn4
  (try dsimp only at h);unfold Nj at h;unfold M2;refine Aj ?_;refine Ab ?_;rcases Ad h with ⟨q7,h⟩ | ⟨q7,h⟩
  ·have q7_:=of_decide_eq_true q7;refine Af q7 ?_;refine Ai (tn_ ?_);refine wr_ ?_;refine Ab ?_;refine Al ?_;refine Ab ?_;obtain ⟨x10,e10,h⟩:=Ae h;refine Aa 9 ?_;refine rz0 (ai ((l4_m9:Nat):Int)) ?_;refine rs0 (.telt none (.pair .str (.pair .int (.pair .int (.slice (.pair .int (.pair .int .str)))))) x10 0) (zi (t:=.pair .str (.pair .int (.pair .int (.slice (.pair .int (.pair .int .str)))))) (xs:=a0) (k:=.i64) (m:=((l4_m9:Nat):Int)) (Ay _) e10) ?_;refine rsB 4 ?_;refine An (tn_ ?_);refine wr_ ?_;refine Aj ?_;rcases Ad h with ⟨q12,h⟩ | ⟨q12,h⟩
   ·refine Af q12 ?_;refine Aj ?_;refine Ah (br_ (tr_ (tr_ (br_ (tr_ ?_)))));obtain rfl:=zj h;have h:=hn4
    (try dsimp only at h);obtain rfl:=zj h;have h:=hk2
    (try dsimp only at h);obtain rfl:=zj h;exact A0 [ai ((l4_m9:Nat):Int)] (Ap rfl zl As)
   refine Ag q12 ?_;refine Ai (bn_ (tn_ ?_));refine wr_ ?_;obtain ⟨g14,h⟩:=Au h;refine Aa 15 ?_;refine rs0 (ai ((l4_m9+1:Nat):Int)) (za g14) ?_;refine rsB 1 ?_;refine An (tn_ ?_);obtain rfl:=zj h;exact ⟨l4_m9+1,_,Ac [],rfl,hn4⟩
  have q7_:=of_decide_eq_false q7;refine Ag q7 ?_;refine Az (te_ (te_ (be_ (tn_ ?_))));obtain rfl:=zj h;have h:=hn4
  (try dsimp only at h);obtain rfl:=zj h;exact ⟨(),_,rfl,Ac [],rfl⟩
 rintro _ _ rfl h
 (try dsimp only at h);refine Aj ?_;refine Ah ?_;obtain rfl:=zj h;exact A0 [ai (-1)] (Ap rfl zl As)
def Ms:AC :=
 (.seq (rg [xo 26 (qb .lss (tm 25) (tm 24))])
 (.seq (.cond (tm 26)
  .skip
  (.exit 0))
 (.seq (.block 1 (.seq (rg [xo 27 (qm (tm 25)),xo 28 (qx 3 (tm 23) (tm 25)),xo 29 (.i (.ld false 3 (tm 28))),⟨some 8,none,.i (.alloc 81 [.int .i64 0,.int .i64 0,.str ⟨#[]⟩])⟩,xo 7 (qm (tm 27)),xn (.st false 3 (tm 8) (tm 29))])
 (.seq (.seq (rg [xo 30 (.i (.ld false 3 (tm 8))),xo 31 (qc 81 [tm 30] [[none,none,none]]),xo 32 (qm (tm 31)),⟨some 33,some (32,false),qf 0 (tm 8)⟩,⟨some 34,some (32,false),ql (tm 33)⟩,⟨some 35,some (32,false),qb .eql (tm 34) (ci 17)⟩,xo 36 (.i (.pick (tm 32) (cb true) (tm 35)))])
 (.cond (tm 36)
  (.seq (rg [xo 38 (.i (.ld false 3 (tm 8))),xo 39 (qc 82 [tm 38] [[none,none,none]]),xo 37 (qm (tm 39)),xo 40 (.i (.extr 0 (tm 37))),xo 41 (.i (.extr 1 (tm 37))),xo 9 (qm (tm 40)),xo 10 (qm (tm 41))])
  (.seq (.seq (rg [xo 42 (qf 0 (tm 8)),xo 43 (ql (tm 42)),xo 44 (qb .eql (tm 43) (ci 17))])
  (.cond (tm 44)
   (.seq (rg [xo 45 (qm (tm 0)),xo 46 (qf 2 (tm 8)),xo 47 (ql (tm 46)),⟨some 48,none,qc 83 [tm 45,tm 47] [[some (.pair .str (.pair .int (.pair .int (.slice (.pair .int (.pair .int .str))))))],[]]⟩,xo 11 (qm (tm 48))])
   (.seq (.seq (rg [xo 49 (qm (tm 11)),xo 50 (qb .lss (tm 49) (ci 0)),xo 51 (qm (tm 50)),⟨some 52,some (51,false),qf 1 (tm 8)⟩,⟨some 53,some (51,false),ql (tm 52)⟩,⟨some 54,some (51,false),qb .neq (tm 53) (ci 0)⟩,xo 55 (.i (.pick (tm 51) (cb true) (tm 54)))])
   (.cond (tm 55)
    (.seq (rg [xo 56 (.i (.ld false 3 (tm 6))),xn (.st false 3 (tm 4) (tm 56)),xo 5 (qm (cb false))])
    .ret)
    .skip))
   (.region [xo 57 (qm (tm 0)),xo 58 (qm (tm 11)),xo 59 (qx 4 (tm 57) (tm 58)),xo 60 (qf 1 (tm 59)),xo 61 (ql (tm 60)),xo 62 (qm (tm 0)),xo 63 (qm (tm 11)),xo 64 (qx 4 (tm 62) (tm 63)),xo 65 (qf 2 (tm 64)),xo 66 (ql (tm 65)),xo 9 (qm (tm 61)),xo 10 (qm (tm 66))] true [])))
   .skip))
  (.seq (rg [xo 67 (qf 0 (tm 6)),xo 68 (ql (tm 67)),xo 69 (qm (tm 7)),xo 70 (.mkS 3 .int [tm 69]),xo 71 (.append 3 .int 8 (tm 68) (tm 70)),xo 72 (qf 0 (tm 6)),xn (qs (tm 72) (tm 71))])
  (.seq (rg [xo 73 (qf 1 (tm 6)),xo 74 (ql (tm 73)),xo 75 (qm (tm 9)),xo 76 (.mkS 3 .int [tm 75]),xo 77 (.append 3 .int 8 (tm 74) (tm 76)),xo 78 (qf 1 (tm 6)),xn (qs (tm 78) (tm 77))])
  (.seq (rg [xo 79 (qf 2 (tm 6)),xo 80 (ql (tm 79)),xo 81 (qm (tm 10)),xo 82 (.mkS 3 .int [tm 81]),xo 83 (.append 3 .int 8 (tm 80) (tm 82)),xo 84 (qf 2 (tm 6)),xn (qs (tm 84) (tm 83))])
  (.exit 1))))))
  .skip))
 (.seq (.seq (rg [xo 85 (qf 0 (tm 8)),xo 86 (ql (tm 85)),xo 87 (qb .neq (tm 86) (ci 15)),xo 88 (qm (tm 87)),⟨some 89,some (88,true),qf 0 (tm 8)⟩,⟨some 90,some (88,true),ql (tm 89)⟩,⟨some 91,some (88,true),qb .neq (tm 90) (ci 16)⟩,xo 92 (.i (.pick (tm 88) (tm 91) (cb false))),xo 93 (qm (tm 92)),⟨some 94,some (93,false),qf 2 (tm 8)⟩,⟨some 95,some (93,false),ql (tm 94)⟩,⟨some 96,some (93,false),.i (.bin .neq (tm 95) (.cst (.str ⟨#[]⟩)))⟩,xo 97 (.i (.pick (tm 93) (cb true) (tm 96))),xo 98 (qm (tm 97)),⟨some 99,some (98,false),qf 1 (tm 8)⟩,⟨some 100,some (98,false),ql (tm 99)⟩,⟨some 101,some (98,false),qb .neq (tm 100) (ci 0)⟩,xo 102 (.i (.pick (tm 98) (cb true) (tm 101))),xo 103 (qm (tm 102)),⟨some 104,some (103,false),qm (tm 7)⟩,⟨some 105,some (103,false),qb .lss (tm 104) (ci 2)⟩,xo 106 (.i (.pick (tm 103) (cb true) (tm 105))),xo 107 (qm (tm 106)),⟨some 108,some (107,false),qf 0 (tm 6)⟩,⟨some 109,some (107,false),ql (tm 108)⟩,⟨some 110,some (107,false),qm (tm 7)⟩,⟨some 111,some (107,false),qb .sub (tm 110) (ci 1)⟩,⟨some 112,some (107,false),qx 1 (tm 109) (tm 111)⟩,⟨some 113,some (107,false),ql (tm 112)⟩,⟨some 114,some (107,false),qb .lss (tm 113) (ci 1)⟩,xo 115 (.i (.pick (tm 107) (cb true) (tm 114)))])
 (.cond (tm 115)
  (.seq (rg [xo 116 (.i (.ld false 3 (tm 6))),xn (.st false 3 (tm 4) (tm 116)),xo 5 (qm (cb false))])
  .ret)
  .skip))
 (.seq (rg [xo 117 (qm (tm 7)),xo 118 (qb .sub (tm 117) (ci 1)),xo 12 (qm (tm 118))])
 (.seq (rg [xo 119 (qf 0 (tm 6)),xo 120 (ql (tm 119)),xo 121 (qm (tm 12)),xo 122 (qx 1 (tm 120) (tm 121)),xo 123 (ql (tm 122)),xo 124 (qb .sub (tm 123) (ci 1)),xo 13 (qm (tm 124))])
 (.seq (.region [xo 125 (qf 1 (tm 6)),xo 126 (ql (tm 125)),xo 127 (qm (tm 13)),xo 128 (qx 1 (tm 126) (tm 127)),xo 129 (ql (tm 128)),xo 130 (qf 1 (tm 6)),xo 131 (ql (tm 130)),xo 132 (qm (tm 12)),xo 133 (qx 1 (tm 131) (tm 132)),xo 134 (ql (tm 133)),xo 135 (qb .add (tm 129) (tm 134)),xo 136 (qf 2 (tm 6)),xo 137 (ql (tm 136)),xo 138 (qm (tm 13)),xo 139 (qx 1 (tm 137) (tm 138)),xo 140 (ql (tm 139)),xo 141 (qf 2 (tm 6)),xo 142 (ql (tm 141)),xo 143 (qm (tm 12)),xo 144 (qx 1 (tm 142) (tm 143)),xo 145 (ql (tm 144)),xo 146 (qb .add (tm 140) (tm 145)),xo 14 (qm (tm 135)),xo 15 (qm (tm 146))] true [])
 (.seq (.seq (rg [xo 147 (qf 0 (tm 8)),xo 148 (ql (tm 147)),xo 149 (qb .eql (tm 148) (ci 15))])
 (.cond (tm 149)
  (.seq (.seq (.region [xo 150 (qf 2 (tm 6)),xo 151 (ql (tm 150)),xo 152 (qm (tm 13)),xo 153 (qx 1 (tm 151) (tm 152)),xo 154 (ql (tm 153)),xo 155 (qf 1 (tm 6)),xo 156 (ql (tm 155)),xo 157 (qm (tm 12)),xo 158 (qx 1 (tm 156) (tm 157)),xo 159 (ql (tm 158)),xo 160 (qb .neq (tm 154) (tm 159))] true [])
  (.cond (tm 160)
   (.seq (rg [xo 161 (.i (.ld false 3 (tm 6))),xn (.st false 3 (tm 4) (tm 161)),xo 5 (qm (cb false))])
   .ret)
   .skip))
  (.region [xo 162 (qf 1 (tm 6)),xo 163 (ql (tm 162)),xo 164 (qm (tm 13)),xo 165 (qx 1 (tm 163) (tm 164)),xo 166 (ql (tm 165)),xo 167 (qf 2 (tm 6)),xo 168 (ql (tm 167)),xo 169 (qm (tm 12)),xo 170 (qx 1 (tm 168) (tm 169)),xo 171 (ql (tm 170)),xo 14 (qm (tm 166)),xo 15 (qm (tm 171))] true []))
  .skip))
 (.seq (.seq (rg [xo 172 (qm (tm 14)),xo 173 (qb .gtr (tm 172) (ci 12)),xo 174 (qm (tm 173)),⟨some 175,some (174,false),qm (tm 15)⟩,⟨some 176,some (174,false),qb .gtr (tm 175) (ci 12)⟩,xo 177 (.i (.pick (tm 174) (cb true) (tm 176)))])
 (.cond (tm 177)
  (.seq (rg [xo 178 (.i (.ld false 3 (tm 6))),xn (.st false 3 (tm 4) (tm 178)),xo 5 (qm (cb false))])
  .ret)
  .skip))
 (.seq (.region [xo 179 (qf 0 (tm 6)),xo 180 (ql (tm 179)),xo 181 (qf 0 (tm 6)),xo 182 (ql (tm 181)),xo 183 (qm (tm 13)),xo 184 (qx 1 (tm 182) (tm 183)),xo 185 (ql (tm 184)),xo 186 (.mkS 3 .int [tm 185]),xo 187 (.append 3 .int 8 (tm 180) (tm 186)),xo 188 (qf 0 (tm 6)),xn (qs (tm 188) (tm 187))] true [])
 (.seq (rg [xo 189 (qf 1 (tm 6)),xo 190 (ql (tm 189)),xo 191 (qm (tm 14)),xo 192 (.mkS 3 .int [tm 191]),xo 193 (.append 3 .int 8 (tm 190) (tm 192)),xo 194 (qf 1 (tm 6)),xn (qs (tm 194) (tm 193))])
 (rg [xo 195 (qf 2 (tm 6)),xo 196 (ql (tm 195)),xo 197 (qm (tm 15)),xo 198 (.mkS 3 .int [tm 197]),xo 199 (.append 3 .int 8 (tm 196) (tm 198)),xo 200 (qf 2 (tm 6)),xn (qs (tm 200) (tm 199))]))))))))))))
 (rg [xo 201 (qb .add (tm 25) (ci 1)),xo 25 (qm (tm 201))]))))
def Ri:AC :=
 (.seq (rg [xo 3 (.i (.box 35 (tm 1))),xo 4 (.i (.alloc 75 [.nils,.nils,.nils])),xo 5 (qm (cb false))])
 (.seq (rg [xo 6 (.i (.alloc 75 [.nils,.nils,.nils]))])
 (.seq (.seq (rg [xo 16 (qf 0 (tm 3)),xo 17 (ql (tm 16)),xo 18 (.i (.len (tm 17))),xo 19 (qc 44 [tm 18,ci 1,ci 400] [[],[],[]]),xo 20 (.i (.not (tm 19)))])
 (.cond (tm 20)
  (.seq (rg [xo 21 (.i (.ld false 3 (tm 6))),xn (.st false 3 (tm 4) (tm 21)),xo 5 (qm (cb false))])
  .ret)
  .skip))
 (.seq (.seq (rg [xo 22 (qf 0 (tm 3)),xo 23 (ql (tm 22)),xo 24 (.i (.len (tm 23))),xo 25 (qm (ci 0))])
 (.block 0 (.loop Ms)))
 (.seq (.region [xo 202 (.i (.ld false 3 (tm 6))),xo 203 (qf 0 (tm 6)),xo 204 (ql (tm 203)),xo 205 (qf 0 (tm 3)),xo 206 (ql (tm 205)),xo 207 (.i (.len (tm 206))),xo 208 (qb .sub (tm 207) (ci 1)),xo 209 (qx 1 (tm 204) (tm 208)),xo 210 (ql (tm 209)),xo 211 (qb .eql (tm 210) (ci 0)),xn (.st false 3 (tm 4) (tm 202)),xo 5 (qm (tm 211))] true [(2,10),(4,10),(8,10)])
 .ret)))))
def Ae6:List Res:=[.cell 4 false 3,.tmp 5]
theorem Ae0:Am Tryz.prog Tryz.f63=some (Ri,Ae6):=by kernel_rfl
def Eo (a1_0:List (Int×Int×ByteArray)) (a0:List (ByteArray×Int×Int×List (Int×Int×ByteArray))) (l10_m25:Nat) (l10_m6_0:List Int) (l10_m6_1:List Int) (l10_m6_2:List Int):Option (Ctl (Nat×List Int×List Int×List Int) (Ctl (List Int×List Int×List Int) (List Int×List Int×List Int×Bool))) :=
 cond (decide (((l10_m25:Nat):Int)<((a1_0.length:Nat):Int)))
 (Do (Option.bind (a1_0[l10_m25]?) fun x16 =>
  Option.bind (Option.bind (Ha x16.1 x16.2.1 x16.2.2) fun y19 =>
   cond y19
    (some true)
    (some (x16.1==17))) fun l18_m36 =>
  cond l18_m36
   (Option.bind (Dh x16.1 x16.2.1 x16.2.2) fun y23 =>
   Do (cond (x16.1==17)
     (Option.bind (Ml a0 x16.2.2) fun y28 =>
     Option.bind (cond (decide (y28<0))
       (some true)
       (some (x16.2.1 !=0))) fun l30_m55 =>
     cond l30_m55
      (some (Ctl.out (Ctl.out (Ctl.out (Ctl.out (l10_m6_0,l10_m6_1,l10_m6_2,false))))))
      (Option.bind (Fe a0 y28) fun x34 =>
      some (Ctl.next (x34.2.1,x34.2.2.1))))
     (some (Ctl.next (y23.1,y23.2)))) fun (l24_m9,l24_m10) =>
   og (l10_m6_0.length+1<=1073741824∧(l10_m6_0.length+1)*8<=140737488355328) <|
   og (l10_m6_1.length+1<=1073741824∧(l10_m6_1.length+1)*8<=140737488355328) <|
   og (l10_m6_2.length+1<=1073741824∧(l10_m6_2.length+1)*8<=140737488355328) <|
   some (Ctl.next (l10_m6_0++([((l10_m25:Nat):Int)]),l10_m6_1++([l24_m9]),l10_m6_2++([l24_m10]))))
   (Option.bind (cond (x16.1 !=15)
     (cond (x16.1 !=16)
      (some true)
      (cond (!(x16.2.2.toList==(⟨#[]⟩:ByteArray).toList))
       (some true)
       (cond (x16.2.1 !=0)
        (some true)
        (cond (decide (((l10_m25:Nat):Int)<2))
         (some true)
         (Option.bind (Fe l10_m6_0 (wI (((l10_m25:Nat):Int) - 1))) fun x48 =>
         Option.bind (Fe l10_m6_0 (wI (((l10_m25:Nat):Int) - 1))) fun x49 =>
         some (decide (x49<1)))))))
     (cond (!(x16.2.2.toList==(⟨#[]⟩:ByteArray).toList))
      (some true)
      (cond (x16.2.1 !=0)
       (some true)
       (cond (decide (((l10_m25:Nat):Int)<2))
        (some true)
        (Option.bind (Fe l10_m6_0 (wI (((l10_m25:Nat):Int) - 1))) fun x53 =>
        Option.bind (Fe l10_m6_0 (wI (((l10_m25:Nat):Int) - 1))) fun x54 =>
        some (decide (x54<1))))))) fun l42_m115 =>
   cond l42_m115
    (some (Ctl.out (Ctl.out (Ctl.out (l10_m6_0,l10_m6_1,l10_m6_2,false)))))
    (Option.bind (Fe l10_m6_0 (wI (((l10_m25:Nat):Int) - 1))) fun x59 =>
    Option.bind (Fe l10_m6_0 (wI (((l10_m25:Nat):Int) - 1))) fun x60 =>
    Option.bind (Fe l10_m6_1 (wI (x60 - 1))) fun x62 =>
    Option.bind (Fe l10_m6_1 (wI (x60 - 1))) fun x63 =>
    Option.bind (Fe l10_m6_1 (wI (((l10_m25:Nat):Int) - 1))) fun x64 =>
    Option.bind (Fe l10_m6_1 (wI (((l10_m25:Nat):Int) - 1))) fun x65 =>
    Option.bind (Fe l10_m6_2 (wI (x60 - 1))) fun x66 =>
    Option.bind (Fe l10_m6_2 (wI (x60 - 1))) fun x67 =>
    Option.bind (Fe l10_m6_2 (wI (((l10_m25:Nat):Int) - 1))) fun x68 =>
    Option.bind (Fe l10_m6_2 (wI (((l10_m25:Nat):Int) - 1))) fun x69 =>
    Do (cond (x16.1==15)
      (cond (x67 !=x65)
       (some (Ctl.out (Ctl.out (Ctl.out (Ctl.out (l10_m6_0,l10_m6_1,l10_m6_2,false))))))
       (some (Ctl.next (x63,x69))))
      (some (Ctl.next (wI (x63+x65),wI (x67+x69))))) fun (l70_m14,l70_m15) =>
    Option.bind (cond (decide (12<l70_m14))
      (some true)
      (some (decide (12<l70_m15)))) fun l78_m177 =>
    cond l78_m177
     (some (Ctl.out (Ctl.out (Ctl.out (l10_m6_0,l10_m6_1,l10_m6_2,false)))))
     (Option.bind (Fe l10_m6_0 (wI (x60 - 1))) fun x83 =>
     Option.bind (Fe l10_m6_0 (wI (x60 - 1))) fun x84 =>
     og (l10_m6_0.length+1<=1073741824∧(l10_m6_0.length+1)*8<=140737488355328) <|
     og (l10_m6_1.length+1<=1073741824∧(l10_m6_1.length+1)*8<=140737488355328) <|
     og (l10_m6_2.length+1<=1073741824∧(l10_m6_2.length+1)*8<=140737488355328) <|
     some (Ctl.next (l10_m6_0++([x84]),l10_m6_1++([l70_m14]),l10_m6_2++([l70_m15]))))))) fun (l14_m6_0,l14_m6_1,l14_m6_2) =>
 og (l10_m25+1<4611686018427387904) <|
 some (Ctl.next (l10_m25+1,l14_m6_0,l14_m6_1,l14_m6_2)))
 (some (Ctl.out (Ctl.next (l10_m6_0,l10_m6_1,l10_m6_2))))
def I5 (a0:List (ByteArray×Int×Int×List (Int×Int×ByteArray))) (a1_0:List (Int×Int×ByteArray)):Option (List Int×List Int×List Int×Bool) :=
 Option.bind (Bz ((a1_0.length:Nat):Int) 1 400) fun y5 =>
cond (!y5)
 (some ([],[],[],false))
 (Do (A4 (fun s_:Nat×List Int×List Int×List Int=>Eo a1_0 a0 s_.1 s_.2.1 s_.2.2.1 s_.2.2.2) 4611686018427387904 (0,[],[],[])) fun (l8_m6_0,l8_m6_1,l8_m6_2) =>
 Option.bind (Fe l8_m6_0 (wI (((a1_0.length:Nat):Int) - 1))) fun x91 =>
 Option.bind (Fe l8_m6_0 (wI (((a1_0.length:Nat):Int) - 1))) fun x92 =>
 some (l8_m6_0,l8_m6_1,l8_m6_2,x92==0))
def Abq (r:List Int×List Int×List Int×Bool):RV:=⟨true,[(true,[.new 3 .int r.1,.new 3 .int r.2.1,.new 3 .int r.2.2.1]),(false,[.sc (.bool r.2.2.2)])]⟩
set_option maxHeartbeats 1600000 in
theorem Abk {a0:List (ByteArray×Int×Int×List (Int×Int×ByteArray))} {a1_0:List (Int×Int×ByteArray)} {r:List Int×List Int×List Int×Bool} (h:I5 a0 a1_0=some r):Ax Tryz.prog Tab 63 [.tree (.pair .str (.pair .int (.pair .int (.slice (.pair .int (.pair .int .str)))))) a0,.agg [.tree (.pair .int (.pair .int .str)) a1_0]] (Abq r):=by
 refine Ar (by kernel_rfl) Tryz.func63 Ae0 (n:=212) (by kernel_rfl) (by simp) (tl:=[(0,.tree (.pair .str (.pair .int (.pair .int (.slice (.pair .int (.pair .int .str)))))) a0),(1,.agg [.tree (.pair .int (.pair .int .str)) a1_0])]) rfl ?_;unfold Ri;unfold I5 at h;refine Aj ?_;refine Aj ?_;refine Ab ?_;refine Ab ?_;obtain ⟨y5,h5,h⟩:=Ae h;refine Aa 10 ?_;refine rz0 (.box (oi 3 1) 0) ?_;refine rzl (.tree (.pair .int (.pair .int .str)) a1_0) ?_;refine rz0 (ai ((a1_0.length:Nat):Int)) ?_;refine zc (.bool y5) [] [ai ((a1_0.length:Nat):Int),ai 1,ai 400] (Bk h5) ?_;refine rsB 1 ?_;refine An (tn_ ?_);refine wr_ ?_;rcases Ad h with ⟨q6,h⟩ | ⟨q6,h⟩
 ·refine Af q6 ?_;refine Aj ?_;refine Ah (tr_ ?_);obtain rfl:=zj h;exact A0 [.agg [.nils,.nils,.nils],.bool false] (Gm (Bg (Amz rfl) (Bg (Amz rfl) (Bg (Amz rfl) Gd))) (Ap rfl zl As))
 refine Ag q6 ?_;refine Ai (tn_ ?_);refine wr_ ?_;refine Bh h (fun t_ S_=>∃ (l8_m6_0:List Int),∃ (l8_m6_1:List Int),∃ (l8_m6_2:List Int),t_=(l8_m6_0,l8_m6_1,l8_m6_2)∧S_=⟨Ao [(3,.box (oi 0 1) 0),(4,.box (oi 1 1) 0),(6,.box (oi 2 1) 0)],Ak (Aq [(oi 0 1,.cells 35 [.tree (.pair .int (.pair .int .str)) a1_0]),(oi 1 1,.cells 75 [.nils,.nils,.nils]),(oi 2 1,.cells 75 [.own (oi 3 1) .int 0 l8_m6_0.length,.own (oi 4 1) .int 0 l8_m6_1.length,.own (oi 5 1) .int 0 l8_m6_2.length]),(oi 3 1,.arr 3 .int l8_m6_0),(oi 4 1,.arr 3 .int l8_m6_1),(oi 5 1,.arr 3 .int l8_m6_2)]),2⟩) ?_ ?_
 ·intro v_ h hk8;refine Aj ?_;refine Al ?_;refine A3 h (fun t_ S_=>∃ (l10_m25:Nat),∃ (l10_m6_0:List Int),∃ (l10_m6_1:List Int),∃ (l10_m6_2:List Int),t_=(l10_m25,l10_m6_0,l10_m6_1,l10_m6_2)∧S_=⟨Ao [(0,.tree (.pair .str (.pair .int (.pair .int (.slice (.pair .int (.pair .int .str)))))) a0),(3,.box (oi 0 1) 0),(4,.box (oi 1 1) 0),(6,.box (oi 2 1) 0),(23,.tree (.pair .int (.pair .int .str)) a1_0),(24,ai ((a1_0.length:Nat):Int)),(25,ai ((l10_m25:Nat):Int))],Ak (Aq [(oi 0 1,.cells 35 [.tree (.pair .int (.pair .int .str)) a1_0]),(oi 1 1,.cells 75 [.nils,.nils,.nils]),(oi 2 1,.cells 75 [.own (oi 3 1) .int 0 l10_m6_0.length,.own (oi 4 1) .int 0 l10_m6_1.length,.own (oi 5 1) .int 0 l10_m6_2.length]),(oi 3 1,.arr 3 .int l10_m6_0),(oi 4 1,.arr 3 .int l10_m6_1),(oi 5 1,.arr 3 .int l10_m6_2)]),2⟩) ⟨_,(Ku 9000 (oi 6 4) 0 75 [.nils,.nils,.nils] [.own (oi 9000 14) .int 0 0,.nils,.nils] 3 .int rfl (by kernel_rfl) (by kernel_rfl) (by kernel_rfl)).trans ((Ku 9001 (oi 6 4) 1 75 [.own (oi 9000 14) .int 0 0,.nils,.nils] [.own (oi 9000 14) .int 0 0,.own (oi 9001 15) .int 0 0,.nils] 3 .int rfl (by kernel_rfl) (by kernel_rfl) (by kernel_rfl)).trans ((Ku 9002 (oi 6 4) 2 75 [.own (oi 9000 14) .int 0 0,.own (oi 9001 15) .int 0 0,.nils] [.own (oi 9000 14) .int 0 0,.own (oi 9001 15) .int 0 0,.own (oi 9002 16) .int 0 0] 3 .int rfl (by kernel_rfl) (by kernel_rfl) (by kernel_rfl)).trans (Ac [(oi 0 1,oi 3 1),(oi 1 1,oi 4 2),(oi 2 1,oi 6 4),(oi 3 1,oi 9000 14),(oi 4 1,oi 9001 15),(oi 5 1,oi 9002 16)]))),⟨0,[],[],[],rfl,rfl⟩⟩ ?_;rintro n_ _ _ c_ ⟨l10_m25,l10_m6_0,l10_m6_1,l10_m6_2,rfl,rfl⟩ h hn10
  (try dsimp only at h);unfold Eo at h;unfold Ms;refine Aj ?_;refine Ab ?_;rcases Ad h with ⟨q13,h⟩ | ⟨q13,h⟩
  ·have q13_:=of_decide_eq_true q13;refine Af q13 ?_;refine Ai (tn_ ?_);refine wr_ ?_;refine Bh h (fun t_ S_=>∃ (l14_m6_0:List Int),∃ (l14_m6_1:List Int),∃ (l14_m6_2:List Int),t_=(l14_m6_0,l14_m6_1,l14_m6_2)∧S_=⟨Ao [(0,.tree (.pair .str (.pair .int (.pair .int (.slice (.pair .int (.pair .int .str)))))) a0),(3,.box (oi 0 1) 0),(4,.box (oi 1 1) 0),(6,.box (oi 2 1) 0),(23,.tree (.pair .int (.pair .int .str)) a1_0),(24,ai ((a1_0.length:Nat):Int)),(25,ai ((l10_m25:Nat):Int))],Ak (Aq [(oi 0 1,.cells 35 [.tree (.pair .int (.pair .int .str)) a1_0]),(oi 1 1,.cells 75 [.nils,.nils,.nils]),(oi 2 1,.cells 75 [.own (oi 3 1) .int 0 l14_m6_0.length,.own (oi 4 1) .int 0 l14_m6_1.length,.own (oi 5 1) .int 0 l14_m6_2.length]),(oi 3 1,.arr 3 .int l14_m6_0),(oi 4 1,.arr 3 .int l14_m6_1),(oi 5 1,.arr 3 .int l14_m6_2)]),2⟩) ?_ ?_
   ·intro v_ h hk14;refine Al ?_;refine Ab ?_;obtain ⟨x16,e16,h⟩:=Ae h;refine Aa 9 ?_;refine rz0 (ai ((l10_m25:Nat):Int)) ?_;refine rs0 (.telt none (.pair .int (.pair .int .str)) x16 0) (zi (t:=.pair .int (.pair .int .str)) (xs:=a1_0) (k:=.i64) (m:=((l10_m25:Nat):Int)) (Ay _) e16) ?_;refine rsB 4 ?_;refine An (tn_ ?_);refine wr_ ?_;refine Ab ?_;refine Aw h (fun (l18_m36:Bool) S_=>S_=⟨Ao [(0,.tree (.pair .str (.pair .int (.pair .int (.slice (.pair .int (.pair .int .str)))))) a0),(3,.box (oi 0 1) 0),(4,.box (oi 1 1) 0),(6,.box (oi 2 1) 0),(7,ai ((l10_m25:Nat):Int)),(8,.box (oi 3 1) 0),(23,.tree (.pair .int (.pair .int .str)) a1_0),(24,ai ((a1_0.length:Nat):Int)),(25,ai ((l10_m25:Nat):Int)),(36,.bool l18_m36)],Ak (Aq [(oi 0 1,.cells 35 [.tree (.pair .int (.pair .int .str)) a1_0]),(oi 1 1,.cells 75 [.nils,.nils,.nils]),(oi 2 1,.cells 75 [.own (oi 4 1) .int 0 l10_m6_0.length,.own (oi 5 1) .int 0 l10_m6_1.length,.own (oi 6 1) .int 0 l10_m6_2.length]),(oi 3 1,.cells 81 [ai x16.1,ai x16.2.1,.str x16.2.2]),(oi 4 1,.arr 3 .int l10_m6_0),(oi 5 1,.arr 3 .int l10_m6_1),(oi 6 1,.arr 3 .int l10_m6_2)]),2⟩) ?_ ?_
    ·intro v_ h;obtain ⟨y19,h19,h⟩:=Ae h;rcases Ad h with ⟨q20,h⟩ | ⟨q20,h⟩
     ·refine Aa 16 ?_;refine rzl (.agg [ai x16.1,ai x16.2.1,.str x16.2.2]) ?_;refine zc (.bool y19) [] [.agg [ai x16.1,ai x16.2.1,.str x16.2.2]] (Pc h19) ?_;refine rz0 (.bool y19) ?_;refine zs q20 ?_;refine zs q20 ?_;refine zs q20 ?_;refine rs0 (.bool true) (zT q20) ?_;refine An (tn_ ?_);obtain rfl:=zj h;exact ⟨_,Ac [(oi 4 1,oi 3 1),(oi 5 1,oi 4 1),(oi 6 1,oi 5 1),(oi 3 1,oi 8 6)],rfl⟩
     refine Aa 16 ?_;refine rzl (.agg [ai x16.1,ai x16.2.1,.str x16.2.2]) ?_;refine zc (.bool y19) [] [.agg [ai x16.1,ai x16.2.1,.str x16.2.2]] (Pc h19) ?_;refine rz0 (.bool y19) ?_;refine rs0 (.box (oi 8 6) 0) (zg q20) ?_;refine rsl (ai x16.1) (zg q20) ?_;refine rs0 (.bool (x16.1==17)) (zg q20) ?_;refine rs0 (.bool (x16.1==17)) (zF q20) ?_;refine An (tn_ ?_);obtain rfl:=zj h;exact ⟨_,Ac [(oi 4 1,oi 3 1),(oi 5 1,oi 4 1),(oi 6 1,oi 5 1),(oi 3 1,oi 8 6)],rfl⟩
    rintro l18_m36 _ rfl h
    (try dsimp only at h);rcases Ad h with ⟨q21,h⟩ | ⟨q21,h⟩
    ·refine Af q21 ?_;refine Ab ?_;obtain ⟨y23,h23,h⟩:=Ae h;refine Aa 9 ?_;refine rzl (.agg [ai x16.1,ai x16.2.1,.str x16.2.2]) ?_;refine zc (.tup [ai y23.1,ai y23.2]) [] [.agg [ai x16.1,ai x16.2.1,.str x16.2.2]] (Yn h23) ?_;refine rsB 5 ?_;refine An (tn_ ?_);refine wr_ ?_;refine Bh h (fun t_ S_=>∃ (l24_m9:Int),∃ (l24_m10:Int),t_=(l24_m9,l24_m10)∧S_=⟨Ao [(0,.tree (.pair .str (.pair .int (.pair .int (.slice (.pair .int (.pair .int .str)))))) a0),(3,.box (oi 0 1) 0),(4,.box (oi 1 1) 0),(6,.box (oi 2 1) 0),(7,ai ((l10_m25:Nat):Int)),(9,ai l24_m9),(10,ai l24_m10),(23,.tree (.pair .int (.pair .int .str)) a1_0),(24,ai ((a1_0.length:Nat):Int)),(25,ai ((l10_m25:Nat):Int))],Ak (Aq [(oi 0 1,.cells 35 [.tree (.pair .int (.pair .int .str)) a1_0]),(oi 1 1,.cells 75 [.nils,.nils,.nils]),(oi 2 1,.cells 75 [.own (oi 3 1) .int 0 l10_m6_0.length,.own (oi 4 1) .int 0 l10_m6_1.length,.own (oi 5 1) .int 0 l10_m6_2.length]),(oi 3 1,.arr 3 .int l10_m6_0),(oi 4 1,.arr 3 .int l10_m6_1),(oi 5 1,.arr 3 .int l10_m6_2)]),2⟩) ?_ ?_
     ·intro v_ h hk24;refine Aj ?_;rcases Ad h with ⟨q26,h⟩ | ⟨q26,h⟩
      ·refine Af q26 ?_;refine Ab ?_;obtain ⟨y28,h28,h⟩:=Ae h;refine Aa 17 ?_;refine rz0 (.tree (.pair .str (.pair .int (.pair .int (.slice (.pair .int (.pair .int .str)))))) a0) ?_;refine rz0 (.box (oi 3 1) 2) ?_;refine rzl (.str x16.2.2) ?_;refine zc (ai y28) [] [.tree (.pair .str (.pair .int (.pair .int (.slice (.pair .int (.pair .int .str)))))) a0,.str x16.2.2] (Ab7 h28) ?_;refine rsB 1 ?_;refine An (tn_ ?_);refine wr_ ?_;refine Ab ?_;refine Aw h (fun (l30_m55:Bool) S_=>S_=⟨Ao [(0,.tree (.pair .str (.pair .int (.pair .int (.slice (.pair .int (.pair .int .str)))))) a0),(3,.box (oi 0 1) 0),(4,.box (oi 1 1) 0),(6,.box (oi 2 1) 0),(7,ai ((l10_m25:Nat):Int)),(11,ai y28),(23,.tree (.pair .int (.pair .int .str)) a1_0),(24,ai ((a1_0.length:Nat):Int)),(25,ai ((l10_m25:Nat):Int)),(55,.bool l30_m55)],Ak (Aq [(oi 0 1,.cells 35 [.tree (.pair .int (.pair .int .str)) a1_0]),(oi 1 1,.cells 75 [.nils,.nils,.nils]),(oi 2 1,.cells 75 [.own (oi 3 1) .int 0 l10_m6_0.length,.own (oi 4 1) .int 0 l10_m6_1.length,.own (oi 5 1) .int 0 l10_m6_2.length]),(oi 3 1,.arr 3 .int l10_m6_0),(oi 4 1,.arr 3 .int l10_m6_1),(oi 5 1,.arr 3 .int l10_m6_2)]),2⟩) ?_ ?_
       ·intro v_ h;rcases Ad h with ⟨q31,h⟩ | ⟨q31,h⟩
        ·have q31_:=of_decide_eq_true q31;refine Aa 24 ?_;refine rz0 (ai y28) ?_;refine rz0 (.bool (decide (y28<0))) ?_;refine rz0 (.bool (decide (y28<0))) ?_;refine zs q31 ?_;refine zs q31 ?_;refine zs q31 ?_;refine rs0 (.bool true) (zT q31) ?_;refine An (tn_ ?_);obtain rfl:=zj h;exact ⟨_,Ac [(oi 3 1,oi 4 1),(oi 4 1,oi 5 1),(oi 5 1,oi 6 1)],rfl⟩
        have q31_:=of_decide_eq_false q31;refine Aa 24 ?_;refine rz0 (ai y28) ?_;refine rz0 (.bool (decide (y28<0))) ?_;refine rz0 (.bool (decide (y28<0))) ?_;refine rs0 (.box (oi 3 1) 1) (zg q31) ?_;refine rsl (ai x16.2.1) (zg q31) ?_;refine rs0 (.bool (x16.2.1 !=0)) (zg q31) ?_;refine rs0 (.bool (x16.2.1 !=0)) (zF q31) ?_;refine An (tn_ ?_);obtain rfl:=zj h;exact ⟨_,Ac [(oi 3 1,oi 4 1),(oi 4 1,oi 5 1),(oi 5 1,oi 6 1)],rfl⟩
       rintro l30_m55 _ rfl h
       (try dsimp only at h);rcases Ad h with ⟨q32,h⟩ | ⟨q32,h⟩
       ·refine Af q32 ?_;refine Aj ?_;refine Ah (tr_ (tr_ (tr_ (br_ (tr_ (tr_ (br_ (tr_ ?_))))))));obtain rfl:=zj h;have h:=hk24
        (try dsimp only at h);obtain rfl:=zj h;have h:=hk14
        (try dsimp only at h);obtain rfl:=zj h;have h:=hn10
        (try dsimp only at h);obtain rfl:=zj h;have h:=hk8
        (try dsimp only at h);obtain rfl:=zj h;exact A0 [.agg [.own (oi 3 1) .int 0 l10_m6_0.length,.own (oi 4 1) .int 0 l10_m6_1.length,.own (oi 5 1) .int 0 l10_m6_2.length],.bool false] (Gm (Bg (Eb (by kernel_rfl) rfl) (Bg (Eb (by kernel_rfl) rfl) (Bg (Eb (by kernel_rfl) rfl) Gd))) (Ap rfl zl As))
       refine Ag q32 ?_;refine Ai (tn_ ?_);refine wr_ ?_;obtain ⟨x34,f34,h⟩:=Ae h;obtain ⟨p34,b34,e34⟩:=Bd f34;refine A1 14 ?_;refine dz0 (.tree (.pair .str (.pair .int (.pair .int (.slice (.pair .int (.pair .int .str)))))) a0) ?_;refine dz0 (ai y28) ?_;refine ds0 (.telt none (.pair .str (.pair .int (.pair .int (.slice (.pair .int (.pair .int .str)))))) x34 0) (zi (t:=.pair .str (.pair .int (.pair .int (.slice (.pair .int (.pair .int .str)))))) (xs:=a0) (k:=.i64) (m:=y28) p34 e34) ?_;refine dz0 (.telt none (.pair .str (.pair .int (.pair .int (.slice (.pair .int (.pair .int .str)))))) x34 1) ?_;refine dz0 (ai x34.2.1) ?_;refine dz0 (.tree (.pair .str (.pair .int (.pair .int (.slice (.pair .int (.pair .int .str)))))) a0) ?_;refine dz0 (ai y28) ?_;refine ds0 (.telt none (.pair .str (.pair .int (.pair .int (.slice (.pair .int (.pair .int .str)))))) x34 0) (zi (t:=.pair .str (.pair .int (.pair .int (.slice (.pair .int (.pair .int .str)))))) (xs:=a0) (k:=.i64) (m:=y28) p34 e34) ?_;refine dz0 (.telt none (.pair .str (.pair .int (.pair .int (.slice (.pair .int (.pair .int .str)))))) x34 2) ?_;refine dz0 (ai x34.2.2.1) ?_;refine dz0 (ai x34.2.1) ?_;refine dz0 (ai x34.2.2.1) ?_;refine F2 (Bc (by kernel_rfl)) (tn_ ?_);obtain rfl:=zj h;exact ⟨(x34.2.1,x34.2.2.1),_,rfl,Ac [],⟨x34.2.1,x34.2.2.1,rfl,rfl⟩⟩
      refine Ag q26 ?_;refine Ai (tn_ ?_);obtain rfl:=zj h;exact ⟨(y23.1,y23.2),_,rfl,Ac [(oi 3 1,oi 4 1),(oi 4 1,oi 5 1),(oi 5 1,oi 6 1)],⟨y23.1,y23.2,rfl,rfl⟩⟩
     rintro _ _ ⟨l24_m9,l24_m10,rfl,rfl⟩ h
     (try dsimp only at h);refine Ab ?_;obtain ⟨g36,h⟩:=Au h;refine Aa 9 ?_;refine rz0 (.box (oi 2 1) 0) ?_;refine rzl (.own (oi 3 1) .int 0 l10_m6_0.length) ?_;refine rz0 (ai ((l10_m25:Nat):Int)) ?_;refine rs1 (.own (oi 70 5) .int 0 1) (oi 70 5) (.arr 3 .int ([((l10_m25:Nat):Int)])) (by kernel_rfl) ?_;refine rs2 (.own (oi 3 6) .int 0 ((l10_m6_0++([((l10_m25:Nat):Int)])).length)) (oi 3 1) (oi 3 6) (.arr 3 .int (l10_m6_0++([((l10_m25:Nat):Int)]))) (K8 (t:=.int) (t':=.int) (xs:=l10_m6_0) (ys:=[((l10_m25:Nat):Int)]) (zs:=l10_m6_0++([((l10_m25:Nat):Int)])) (j:=oi 3 1) (len:=l10_m6_0.length) (c:=.own (oi 70 5) .int 0 1) (by kernel_rfl) (by kernel_rfl) rfl (by kernel_rfl) (Mj (e:=3) (by kernel_rfl) rfl) rfl g36) ?_;refine rsB 2 ?_;refine An (tn_ ?_);refine wr_ ?_;refine Ab ?_;obtain ⟨g38,h⟩:=Au h;refine Aa 16 ?_;refine rz0 (.box (oi 2 1) 1) ?_;refine rzl (.own (oi 4 1) .int 0 l10_m6_1.length) ?_;refine rz0 (ai l24_m9) ?_;refine rs1 (.own (oi 76 12) .int 0 1) (oi 76 12) (.arr 3 .int ([l24_m9])) (by kernel_rfl) ?_;refine rs2 (.own (oi 4 13) .int 0 ((l10_m6_1++([l24_m9])).length)) (oi 4 1) (oi 4 13) (.arr 3 .int (l10_m6_1++([l24_m9]))) (K8 (t:=.int) (t':=.int) (xs:=l10_m6_1) (ys:=[l24_m9]) (zs:=l10_m6_1++([l24_m9])) (j:=oi 4 1) (len:=l10_m6_1.length) (c:=.own (oi 76 12) .int 0 1) (by kernel_rfl) (by kernel_rfl) rfl (by kernel_rfl) (Mj (e:=3) (by kernel_rfl) rfl) rfl g38) ?_;refine rsB 2 ?_;refine An (tn_ ?_);refine wr_ ?_;refine Ab ?_;obtain ⟨g40,h⟩:=Au h;refine Aa 23 ?_;refine rz0 (.box (oi 2 1) 2) ?_;refine rzl (.own (oi 5 1) .int 0 l10_m6_2.length) ?_;refine rz0 (ai l24_m10) ?_;refine rs1 (.own (oi 82 19) .int 0 1) (oi 82 19) (.arr 3 .int ([l24_m10])) (by kernel_rfl) ?_;refine rs2 (.own (oi 5 20) .int 0 ((l10_m6_2++([l24_m10])).length)) (oi 5 1) (oi 5 20) (.arr 3 .int (l10_m6_2++([l24_m10]))) (K8 (t:=.int) (t':=.int) (xs:=l10_m6_2) (ys:=[l24_m10]) (zs:=l10_m6_2++([l24_m10])) (j:=oi 5 1) (len:=l10_m6_2.length) (c:=.own (oi 82 19) .int 0 1) (by kernel_rfl) (by kernel_rfl) rfl (by kernel_rfl) (Mj (e:=3) (by kernel_rfl) rfl) rfl g40) ?_;refine rsB 2 ?_;refine An (tn_ ?_);refine wr_ ?_;refine Az (te_ (be_ (tn_ ?_)));obtain rfl:=zj h;exact ⟨(l10_m6_0++([((l10_m25:Nat):Int)]),l10_m6_1++([l24_m9]),l10_m6_2++([l24_m10])),_,rfl,Ac [(oi 3 1,oi 3 6),(oi 4 1,oi 4 13),(oi 5 1,oi 5 20)],⟨l10_m6_0++([((l10_m25:Nat):Int)]),l10_m6_1++([l24_m9]),l10_m6_2++([l24_m10]),rfl,rfl⟩⟩
    refine Ag q21 ?_;refine Ai (tn_ ?_);refine wr_ ?_;refine Ab ?_;refine Aw h (fun (l42_m115:Bool) S_=>S_=⟨Ao [(0,.tree (.pair .str (.pair .int (.pair .int (.slice (.pair .int (.pair .int .str)))))) a0),(3,.box (oi 0 1) 0),(4,.box (oi 1 1) 0),(6,.box (oi 2 1) 0),(7,ai ((l10_m25:Nat):Int)),(8,.box (oi 3 1) 0),(23,.tree (.pair .int (.pair .int .str)) a1_0),(24,ai ((a1_0.length:Nat):Int)),(25,ai ((l10_m25:Nat):Int)),(115,.bool l42_m115)],Ak (Aq [(oi 0 1,.cells 35 [.tree (.pair .int (.pair .int .str)) a1_0]),(oi 1 1,.cells 75 [.nils,.nils,.nils]),(oi 2 1,.cells 75 [.own (oi 4 1) .int 0 l10_m6_0.length,.own (oi 5 1) .int 0 l10_m6_1.length,.own (oi 6 1) .int 0 l10_m6_2.length]),(oi 3 1,.cells 81 [ai x16.1,ai x16.2.1,.str x16.2.2]),(oi 4 1,.arr 3 .int l10_m6_0),(oi 5 1,.arr 3 .int l10_m6_1),(oi 6 1,.arr 3 .int l10_m6_2)]),2⟩) ?_ ?_
    ·intro v_ h;rcases Ad h with ⟨q43,h⟩ | ⟨q43,h⟩
     ·rcases Ad h with ⟨q44,h⟩ | ⟨q44,h⟩
      ·refine Aa 33 ?_;refine rz0 (.box (oi 3 1) 0) ?_;refine rzl (ai x16.1) ?_;refine rz0 (.bool (x16.1 !=15)) ?_;refine rz0 (.bool (x16.1 !=15)) ?_;refine rs0 (.box (oi 3 1) 0) (zg q43) ?_;refine rsl (ai x16.1) (zg q43) ?_;refine rs0 (.bool (x16.1 !=16)) (zg q43) ?_;refine rs0 (.bool (x16.1 !=16)) (zT q43) ?_;refine rz0 (.bool (x16.1 !=16)) ?_;refine zs q44 ?_;refine zs q44 ?_;refine zs q44 ?_;refine rs0 (.bool true) (zT q44) ?_;refine rsB 18 ?_;refine An (tn_ ?_);obtain rfl:=zj h;exact ⟨_,Ac [],rfl⟩
      rcases Ad h with ⟨q45,h⟩ | ⟨q45,h⟩
      ·refine Aa 33 ?_;refine rz0 (.box (oi 3 1) 0) ?_;refine rzl (ai x16.1) ?_;refine rz0 (.bool (x16.1 !=15)) ?_;refine rz0 (.bool (x16.1 !=15)) ?_;refine rs0 (.box (oi 3 1) 0) (zg q43) ?_;refine rsl (ai x16.1) (zg q43) ?_;refine rs0 (.bool (x16.1 !=16)) (zg q43) ?_;refine rs0 (.bool (x16.1 !=16)) (zT q43) ?_;refine rz0 (.bool (x16.1 !=16)) ?_;refine rs0 (.box (oi 3 1) 2) (zg q44) ?_;refine rsl (.str x16.2.2) (zg q44) ?_;refine rs0 (.bool (!(x16.2.2.toList==(⟨#[]⟩:ByteArray).toList))) (zg q44) ?_;refine rs0 (.bool (!(x16.2.2.toList==(⟨#[]⟩:ByteArray).toList))) (zF q44) ?_;refine rz0 (.bool (!(x16.2.2.toList==(⟨#[]⟩:ByteArray).toList))) ?_;refine zs q45 ?_;refine zs q45 ?_;refine zs q45 ?_;refine rs0 (.bool true) (zT q45) ?_;refine rsB 13 ?_;refine An (tn_ ?_);obtain rfl:=zj h;exact ⟨_,Ac [],rfl⟩
      rcases Ad h with ⟨q46,h⟩ | ⟨q46,h⟩
      ·refine Aa 33 ?_;refine rz0 (.box (oi 3 1) 0) ?_;refine rzl (ai x16.1) ?_;refine rz0 (.bool (x16.1 !=15)) ?_;refine rz0 (.bool (x16.1 !=15)) ?_;refine rs0 (.box (oi 3 1) 0) (zg q43) ?_;refine rsl (ai x16.1) (zg q43) ?_;refine rs0 (.bool (x16.1 !=16)) (zg q43) ?_;refine rs0 (.bool (x16.1 !=16)) (zT q43) ?_;refine rz0 (.bool (x16.1 !=16)) ?_;refine rs0 (.box (oi 3 1) 2) (zg q44) ?_;refine rsl (.str x16.2.2) (zg q44) ?_;refine rs0 (.bool (!(x16.2.2.toList==(⟨#[]⟩:ByteArray).toList))) (zg q44) ?_;refine rs0 (.bool (!(x16.2.2.toList==(⟨#[]⟩:ByteArray).toList))) (zF q44) ?_;refine rz0 (.bool (!(x16.2.2.toList==(⟨#[]⟩:ByteArray).toList))) ?_;refine rs0 (.box (oi 3 1) 1) (zg q45) ?_;refine rsl (ai x16.2.1) (zg q45) ?_;refine rs0 (.bool (x16.2.1 !=0)) (zg q45) ?_;refine rs0 (.bool (x16.2.1 !=0)) (zF q45) ?_;refine rz0 (.bool (x16.2.1 !=0)) ?_;refine zs q46 ?_;refine zs q46 ?_;refine rs0 (.bool true) (zT q46) ?_;refine rsB 9 ?_;refine An (tn_ ?_);obtain rfl:=zj h;exact ⟨_,Ac [],rfl⟩
      rcases Ad h with ⟨q47,h⟩ | ⟨q47,h⟩
      ·have q47_:=of_decide_eq_true q47;refine Aa 33 ?_;refine rz0 (.box (oi 3 1) 0) ?_;refine rzl (ai x16.1) ?_;refine rz0 (.bool (x16.1 !=15)) ?_;refine rz0 (.bool (x16.1 !=15)) ?_;refine rs0 (.box (oi 3 1) 0) (zg q43) ?_;refine rsl (ai x16.1) (zg q43) ?_;refine rs0 (.bool (x16.1 !=16)) (zg q43) ?_;refine rs0 (.bool (x16.1 !=16)) (zT q43) ?_;refine rz0 (.bool (x16.1 !=16)) ?_;refine rs0 (.box (oi 3 1) 2) (zg q44) ?_;refine rsl (.str x16.2.2) (zg q44) ?_;refine rs0 (.bool (!(x16.2.2.toList==(⟨#[]⟩:ByteArray).toList))) (zg q44) ?_;refine rs0 (.bool (!(x16.2.2.toList==(⟨#[]⟩:ByteArray).toList))) (zF q44) ?_;refine rz0 (.bool (!(x16.2.2.toList==(⟨#[]⟩:ByteArray).toList))) ?_;refine rs0 (.box (oi 3 1) 1) (zg q45) ?_;refine rsl (ai x16.2.1) (zg q45) ?_;refine rs0 (.bool (x16.2.1 !=0)) (zg q45) ?_;refine rs0 (.bool (x16.2.1 !=0)) (zF q45) ?_;refine rz0 (.bool (x16.2.1 !=0)) ?_;refine rs0 (ai ((l10_m25:Nat):Int)) (zg q46) ?_;refine rs0 (.bool (decide (((l10_m25:Nat):Int)<2))) (zg q46) ?_;refine rs0 (.bool (decide (((l10_m25:Nat):Int)<2))) (zF q46) ?_;refine rz0 (.bool (decide (((l10_m25:Nat):Int)<2))) ?_;refine zs q47 ?_;refine zs q47 ?_;refine zs q47 ?_;refine zs q47 ?_;refine zs q47 ?_;refine zs q47 ?_;refine zs q47 ?_;refine rs0 (.bool true) (zT q47) ?_;refine An (tn_ ?_);obtain rfl:=zj h;exact ⟨_,Ac [],rfl⟩
      have q47_:=of_decide_eq_false q47;obtain ⟨x48,f48,h⟩:=Ae h;obtain ⟨p48,b48,e48⟩:=Bd f48;obtain ⟨x49,f49,h⟩:=Ae h;obtain ⟨p49,b49,e49⟩:=Bd f49;refine Aa 33 ?_;refine rz0 (.box (oi 3 1) 0) ?_;refine rzl (ai x16.1) ?_;refine rz0 (.bool (x16.1 !=15)) ?_;refine rz0 (.bool (x16.1 !=15)) ?_;refine rs0 (.box (oi 3 1) 0) (zg q43) ?_;refine rsl (ai x16.1) (zg q43) ?_;refine rs0 (.bool (x16.1 !=16)) (zg q43) ?_;refine rs0 (.bool (x16.1 !=16)) (zT q43) ?_;refine rz0 (.bool (x16.1 !=16)) ?_;refine rs0 (.box (oi 3 1) 2) (zg q44) ?_;refine rsl (.str x16.2.2) (zg q44) ?_;refine rs0 (.bool (!(x16.2.2.toList==(⟨#[]⟩:ByteArray).toList))) (zg q44) ?_;refine rs0 (.bool (!(x16.2.2.toList==(⟨#[]⟩:ByteArray).toList))) (zF q44) ?_;refine rz0 (.bool (!(x16.2.2.toList==(⟨#[]⟩:ByteArray).toList))) ?_;refine rs0 (.box (oi 3 1) 1) (zg q45) ?_;refine rsl (ai x16.2.1) (zg q45) ?_;refine rs0 (.bool (x16.2.1 !=0)) (zg q45) ?_;refine rs0 (.bool (x16.2.1 !=0)) (zF q45) ?_;refine rz0 (.bool (x16.2.1 !=0)) ?_;refine rs0 (ai ((l10_m25:Nat):Int)) (zg q46) ?_;refine rs0 (.bool (decide (((l10_m25:Nat):Int)<2))) (zg q46) ?_;refine rs0 (.bool (decide (((l10_m25:Nat):Int)<2))) (zF q46) ?_;refine rz0 (.bool (decide (((l10_m25:Nat):Int)<2))) ?_;refine rs0 (.box (oi 2 1) 0) (zg q47) ?_;refine rsl (.own (oi 4 1) .int 0 l10_m6_0.length) (zg q47) ?_;refine rs0 (ai ((l10_m25:Nat):Int)) (zg q47) ?_;refine rs0 (ai (wI (((l10_m25:Nat):Int) - 1))) (zg q47) ?_;refine rs0 (.elt (oi 4 1) ((wI (((l10_m25:Nat):Int) - 1)).toNat) 0) (Fv (by kernel_rfl) q47 (zo (t:=.int) (o:=oi 4 1) (len:=l10_m6_0.length) (k:=.i64) (m:=wI (((l10_m25:Nat):Int) - 1)) p48 (Av e48))) ?_;refine rsl (ai x49) (Fv (by kernel_rfl) q47 (C0 (i:=oi 4 1) (j:=(wI (((l10_m25:Nat):Int) - 1)).toNat) (k:=0) (e:=3) (t:=.int) (xs:=l10_m6_0) (by kernel_rfl) (by kernel_rfl) e49 (by kernel_rfl))) ?_;refine rs0 (.bool (decide (x49<1))) (zg q47) ?_;refine rs0 (.bool (decide (x49<1))) (zF q47) ?_;refine An (tn_ ?_);obtain rfl:=zj h;exact ⟨_,Ac [],rfl⟩
     rcases Ad h with ⟨q50,h⟩ | ⟨q50,h⟩
     ·refine Aa 33 ?_;refine rz0 (.box (oi 3 1) 0) ?_;refine rzl (ai x16.1) ?_;refine rz0 (.bool (x16.1 !=15)) ?_;refine rz0 (.bool (x16.1 !=15)) ?_;refine zs q43 ?_;refine zs q43 ?_;refine zs q43 ?_;refine rs0 (.bool false) (zF q43) ?_;refine rz0 (.bool false) ?_;refine rz0 (.box (oi 3 1) 2) ?_;refine rzl (.str x16.2.2) ?_;refine rz0 (.bool (!(x16.2.2.toList==(⟨#[]⟩:ByteArray).toList))) ?_;refine rz0 (.bool (!(x16.2.2.toList==(⟨#[]⟩:ByteArray).toList))) ?_;refine rz0 (.bool (!(x16.2.2.toList==(⟨#[]⟩:ByteArray).toList))) ?_;refine zs q50 ?_;refine zs q50 ?_;refine zs q50 ?_;refine rs0 (.bool true) (zT q50) ?_;refine rsB 13 ?_;refine An (tn_ ?_);obtain rfl:=zj h;exact ⟨_,Ac [],rfl⟩
     rcases Ad h with ⟨q51,h⟩ | ⟨q51,h⟩
     ·refine Aa 33 ?_;refine rz0 (.box (oi 3 1) 0) ?_;refine rzl (ai x16.1) ?_;refine rz0 (.bool (x16.1 !=15)) ?_;refine rz0 (.bool (x16.1 !=15)) ?_;refine zs q43 ?_;refine zs q43 ?_;refine zs q43 ?_;refine rs0 (.bool false) (zF q43) ?_;refine rz0 (.bool false) ?_;refine rz0 (.box (oi 3 1) 2) ?_;refine rzl (.str x16.2.2) ?_;refine rz0 (.bool (!(x16.2.2.toList==(⟨#[]⟩:ByteArray).toList))) ?_;refine rz0 (.bool (!(x16.2.2.toList==(⟨#[]⟩:ByteArray).toList))) ?_;refine rz0 (.bool (!(x16.2.2.toList==(⟨#[]⟩:ByteArray).toList))) ?_;refine rs0 (.box (oi 3 1) 1) (zg q50) ?_;refine rsl (ai x16.2.1) (zg q50) ?_;refine rs0 (.bool (x16.2.1 !=0)) (zg q50) ?_;refine rs0 (.bool (x16.2.1 !=0)) (zF q50) ?_;refine rz0 (.bool (x16.2.1 !=0)) ?_;refine zs q51 ?_;refine zs q51 ?_;refine rs0 (.bool true) (zT q51) ?_;refine rsB 9 ?_;refine An (tn_ ?_);obtain rfl:=zj h;exact ⟨_,Ac [],rfl⟩
     rcases Ad h with ⟨q52,h⟩ | ⟨q52,h⟩
     ·have q52_:=of_decide_eq_true q52;refine Aa 33 ?_;refine rz0 (.box (oi 3 1) 0) ?_;refine rzl (ai x16.1) ?_;refine rz0 (.bool (x16.1 !=15)) ?_;refine rz0 (.bool (x16.1 !=15)) ?_;refine zs q43 ?_;refine zs q43 ?_;refine zs q43 ?_;refine rs0 (.bool false) (zF q43) ?_;refine rz0 (.bool false) ?_;refine rz0 (.box (oi 3 1) 2) ?_;refine rzl (.str x16.2.2) ?_;refine rz0 (.bool (!(x16.2.2.toList==(⟨#[]⟩:ByteArray).toList))) ?_;refine rz0 (.bool (!(x16.2.2.toList==(⟨#[]⟩:ByteArray).toList))) ?_;refine rz0 (.bool (!(x16.2.2.toList==(⟨#[]⟩:ByteArray).toList))) ?_;refine rs0 (.box (oi 3 1) 1) (zg q50) ?_;refine rsl (ai x16.2.1) (zg q50) ?_;refine rs0 (.bool (x16.2.1 !=0)) (zg q50) ?_;refine rs0 (.bool (x16.2.1 !=0)) (zF q50) ?_;refine rz0 (.bool (x16.2.1 !=0)) ?_;refine rs0 (ai ((l10_m25:Nat):Int)) (zg q51) ?_;refine rs0 (.bool (decide (((l10_m25:Nat):Int)<2))) (zg q51) ?_;refine rs0 (.bool (decide (((l10_m25:Nat):Int)<2))) (zF q51) ?_;refine rz0 (.bool (decide (((l10_m25:Nat):Int)<2))) ?_;refine zs q52 ?_;refine zs q52 ?_;refine zs q52 ?_;refine zs q52 ?_;refine zs q52 ?_;refine zs q52 ?_;refine zs q52 ?_;refine rs0 (.bool true) (zT q52) ?_;refine An (tn_ ?_);obtain rfl:=zj h;exact ⟨_,Ac [],rfl⟩
     have q52_:=of_decide_eq_false q52;obtain ⟨x53,f53,h⟩:=Ae h;obtain ⟨p53,b53,e53⟩:=Bd f53;obtain ⟨x54,f54,h⟩:=Ae h;obtain ⟨p54,b54,e54⟩:=Bd f54;refine Aa 33 ?_;refine rz0 (.box (oi 3 1) 0) ?_;refine rzl (ai x16.1) ?_;refine rz0 (.bool (x16.1 !=15)) ?_;refine rz0 (.bool (x16.1 !=15)) ?_;refine zs q43 ?_;refine zs q43 ?_;refine zs q43 ?_;refine rs0 (.bool false) (zF q43) ?_;refine rz0 (.bool false) ?_;refine rz0 (.box (oi 3 1) 2) ?_;refine rzl (.str x16.2.2) ?_;refine rz0 (.bool (!(x16.2.2.toList==(⟨#[]⟩:ByteArray).toList))) ?_;refine rz0 (.bool (!(x16.2.2.toList==(⟨#[]⟩:ByteArray).toList))) ?_;refine rz0 (.bool (!(x16.2.2.toList==(⟨#[]⟩:ByteArray).toList))) ?_;refine rs0 (.box (oi 3 1) 1) (zg q50) ?_;refine rsl (ai x16.2.1) (zg q50) ?_;refine rs0 (.bool (x16.2.1 !=0)) (zg q50) ?_;refine rs0 (.bool (x16.2.1 !=0)) (zF q50) ?_;refine rz0 (.bool (x16.2.1 !=0)) ?_;refine rs0 (ai ((l10_m25:Nat):Int)) (zg q51) ?_;refine rs0 (.bool (decide (((l10_m25:Nat):Int)<2))) (zg q51) ?_;refine rs0 (.bool (decide (((l10_m25:Nat):Int)<2))) (zF q51) ?_;refine rz0 (.bool (decide (((l10_m25:Nat):Int)<2))) ?_;refine rs0 (.box (oi 2 1) 0) (zg q52) ?_;refine rsl (.own (oi 4 1) .int 0 l10_m6_0.length) (zg q52) ?_;refine rs0 (ai ((l10_m25:Nat):Int)) (zg q52) ?_;refine rs0 (ai (wI (((l10_m25:Nat):Int) - 1))) (zg q52) ?_;refine rs0 (.elt (oi 4 1) ((wI (((l10_m25:Nat):Int) - 1)).toNat) 0) (Fv (by kernel_rfl) q52 (zo (t:=.int) (o:=oi 4 1) (len:=l10_m6_0.length) (k:=.i64) (m:=wI (((l10_m25:Nat):Int) - 1)) p53 (Av e53))) ?_;refine rsl (ai x54) (Fv (by kernel_rfl) q52 (C0 (i:=oi 4 1) (j:=(wI (((l10_m25:Nat):Int) - 1)).toNat) (k:=0) (e:=3) (t:=.int) (xs:=l10_m6_0) (by kernel_rfl) (by kernel_rfl) e54 (by kernel_rfl))) ?_;refine rs0 (.bool (decide (x54<1))) (zg q52) ?_;refine rs0 (.bool (decide (x54<1))) (zF q52) ?_;refine An (tn_ ?_);obtain rfl:=zj h;exact ⟨_,Ac [],rfl⟩
    rintro l42_m115 _ rfl h
    (try dsimp only at h);rcases Ad h with ⟨q55,h⟩ | ⟨q55,h⟩
    ·refine Af q55 ?_;refine Aj ?_;refine Ah (tr_ (br_ (tr_ (tr_ (br_ (tr_ ?_))))));obtain rfl:=zj h;have h:=hk14
     (try dsimp only at h);obtain rfl:=zj h;have h:=hn10
     (try dsimp only at h);obtain rfl:=zj h;have h:=hk8
     (try dsimp only at h);obtain rfl:=zj h;exact A0 [.agg [.own (oi 4 1) .int 0 l10_m6_0.length,.own (oi 5 1) .int 0 l10_m6_1.length,.own (oi 6 1) .int 0 l10_m6_2.length],.bool false] (Gm (Bg (Eb (by kernel_rfl) rfl) (Bg (Eb (by kernel_rfl) rfl) (Bg (Eb (by kernel_rfl) rfl) Gd))) (Ap rfl zl As))
    refine Ag q55 ?_;refine Ai (tn_ ?_);refine wr_ ?_;refine Aj ?_;refine Ab ?_;obtain ⟨x59,f59,h⟩:=Ae h;obtain ⟨p59,b59,e59⟩:=Bd f59;obtain ⟨x60,f60,h⟩:=Ae h;obtain ⟨p60,b60,e60⟩:=Bd f60;refine Aa 12 ?_;refine rz0 (.box (oi 2 1) 0) ?_;refine rzl (.own (oi 4 1) .int 0 l10_m6_0.length) ?_;refine rz0 (ai (wI (((l10_m25:Nat):Int) - 1))) ?_;refine rs0 (.elt (oi 4 1) ((wI (((l10_m25:Nat):Int) - 1)).toNat) 0) (zo (t:=.int) (o:=oi 4 1) (len:=l10_m6_0.length) (k:=.i64) (m:=wI (((l10_m25:Nat):Int) - 1)) p59 (Av e59)) ?_;refine rsl (ai x60) (C0 (i:=oi 4 1) (j:=(wI (((l10_m25:Nat):Int) - 1)).toNat) (k:=0) (e:=3) (t:=.int) (xs:=l10_m6_0) (by kernel_rfl) (by kernel_rfl) e60 (by kernel_rfl)) ?_;refine rsB 2 ?_;refine An (tn_ ?_);refine wr_ ?_;refine Ab ?_;obtain ⟨x62,f62,h⟩:=Ae h;obtain ⟨p62,b62,e62⟩:=Bd f62;obtain ⟨x63,f63,h⟩:=Ae h;obtain ⟨p63,b63,e63⟩:=Bd f63;obtain ⟨x64,f64,h⟩:=Ae h;obtain ⟨p64,b64,e64⟩:=Bd f64;obtain ⟨x65,f65,h⟩:=Ae h;obtain ⟨p65,b65,e65⟩:=Bd f65;obtain ⟨x66,f66,h⟩:=Ae h;obtain ⟨p66,b66,e66⟩:=Bd f66;obtain ⟨x67,f67,h⟩:=Ae h;obtain ⟨p67,b67,e67⟩:=Bd f67;obtain ⟨x68,f68,h⟩:=Ae h;obtain ⟨p68,b68,e68⟩:=Bd f68;obtain ⟨x69,f69,h⟩:=Ae h;obtain ⟨p69,b69,e69⟩:=Bd f69;refine A1 36 ?_;refine dz0 (.box (oi 2 1) 1) ?_;refine dzl (.own (oi 5 1) .int 0 l10_m6_1.length) ?_;refine dz0 (ai (wI (x60 - 1))) ?_;refine ds0 (.elt (oi 5 1) ((wI (x60 - 1)).toNat) 0) (zo (t:=.int) (o:=oi 5 1) (len:=l10_m6_1.length) (k:=.i64) (m:=wI (x60 - 1)) p62 (Av e62)) ?_;refine dsl (ai x63) (C0 (i:=oi 5 1) (j:=(wI (x60 - 1)).toNat) (k:=0) (e:=3) (t:=.int) (xs:=l10_m6_1) (by kernel_rfl) (by kernel_rfl) e63 (by kernel_rfl)) ?_;refine dz0 (.box (oi 2 1) 1) ?_;refine dzl (.own (oi 5 1) .int 0 l10_m6_1.length) ?_;refine dz0 (ai (wI (((l10_m25:Nat):Int) - 1))) ?_;refine ds0 (.elt (oi 5 1) ((wI (((l10_m25:Nat):Int) - 1)).toNat) 0) (zo (t:=.int) (o:=oi 5 1) (len:=l10_m6_1.length) (k:=.i64) (m:=wI (((l10_m25:Nat):Int) - 1)) p64 (Av e64)) ?_;refine dsl (ai x65) (C0 (i:=oi 5 1) (j:=(wI (((l10_m25:Nat):Int) - 1)).toNat) (k:=0) (e:=3) (t:=.int) (xs:=l10_m6_1) (by kernel_rfl) (by kernel_rfl) e65 (by kernel_rfl)) ?_;refine dz0 (ai (wI (x63+x65))) ?_;refine dz0 (.box (oi 2 1) 2) ?_;refine dzl (.own (oi 6 1) .int 0 l10_m6_2.length) ?_;refine dz0 (ai (wI (x60 - 1))) ?_;refine ds0 (.elt (oi 6 1) ((wI (x60 - 1)).toNat) 0) (zo (t:=.int) (o:=oi 6 1) (len:=l10_m6_2.length) (k:=.i64) (m:=wI (x60 - 1)) p66 (Av e66)) ?_;refine dsl (ai x67) (C0 (i:=oi 6 1) (j:=(wI (x60 - 1)).toNat) (k:=0) (e:=3) (t:=.int) (xs:=l10_m6_2) (by kernel_rfl) (by kernel_rfl) e67 (by kernel_rfl)) ?_;refine dz0 (.box (oi 2 1) 2) ?_;refine dzl (.own (oi 6 1) .int 0 l10_m6_2.length) ?_;refine dz0 (ai (wI (((l10_m25:Nat):Int) - 1))) ?_;refine ds0 (.elt (oi 6 1) ((wI (((l10_m25:Nat):Int) - 1)).toNat) 0) (zo (t:=.int) (o:=oi 6 1) (len:=l10_m6_2.length) (k:=.i64) (m:=wI (((l10_m25:Nat):Int) - 1)) p68 (Av e68)) ?_;refine dsl (ai x69) (C0 (i:=oi 6 1) (j:=(wI (((l10_m25:Nat):Int) - 1)).toNat) (k:=0) (e:=3) (t:=.int) (xs:=l10_m6_2) (by kernel_rfl) (by kernel_rfl) e69 (by kernel_rfl)) ?_;refine dz0 (ai (wI (x67+x69))) ?_;refine dz0 (ai (wI (x63+x65))) ?_;refine dz0 (ai (wI (x67+x69))) ?_;refine F2 (Bc (by kernel_rfl)) (tn_ ?_);refine wr_ ?_;refine Bh h (fun t_ S_=>∃ (l70_m14:Int),∃ (l70_m15:Int),t_=(l70_m14,l70_m15)∧S_=⟨Ao [(0,.tree (.pair .str (.pair .int (.pair .int (.slice (.pair .int (.pair .int .str)))))) a0),(3,.box (oi 0 1) 0),(4,.box (oi 1 1) 0),(6,.box (oi 2 1) 0),(13,ai (wI (x60 - 1))),(14,ai l70_m14),(15,ai l70_m15),(23,.tree (.pair .int (.pair .int .str)) a1_0),(24,ai ((a1_0.length:Nat):Int)),(25,ai ((l10_m25:Nat):Int))],Ak (Aq [(oi 0 1,.cells 35 [.tree (.pair .int (.pair .int .str)) a1_0]),(oi 1 1,.cells 75 [.nils,.nils,.nils]),(oi 2 1,.cells 75 [.own (oi 3 1) .int 0 l10_m6_0.length,.own (oi 4 1) .int 0 l10_m6_1.length,.own (oi 5 1) .int 0 l10_m6_2.length]),(oi 3 1,.arr 3 .int l10_m6_0),(oi 4 1,.arr 3 .int l10_m6_1),(oi 5 1,.arr 3 .int l10_m6_2)]),2⟩) ?_ ?_
    ·intro v_ h hk70;refine Aj ?_;rcases Ad h with ⟨q72,h⟩ | ⟨q72,h⟩
     ·refine Af q72 ?_;refine Ab ?_;refine Ab ?_;refine A1 50 ?_;refine dz0 (.box (oi 2 1) 2) ?_;refine dzl (.own (oi 6 1) .int 0 l10_m6_2.length) ?_;refine dz0 (ai (wI (x60 - 1))) ?_;refine ds0 (.elt (oi 6 1) ((wI (x60 - 1)).toNat) 0) (zo (t:=.int) (o:=oi 6 1) (len:=l10_m6_2.length) (k:=.i64) (m:=wI (x60 - 1)) p66 (Av e66)) ?_;refine dsl (ai x67) (C0 (i:=oi 6 1) (j:=(wI (x60 - 1)).toNat) (k:=0) (e:=3) (t:=.int) (xs:=l10_m6_2) (by kernel_rfl) (by kernel_rfl) e67 (by kernel_rfl)) ?_;refine dz0 (.box (oi 2 1) 1) ?_;refine dzl (.own (oi 5 1) .int 0 l10_m6_1.length) ?_;refine dz0 (ai (wI (((l10_m25:Nat):Int) - 1))) ?_;refine ds0 (.elt (oi 5 1) ((wI (((l10_m25:Nat):Int) - 1)).toNat) 0) (zo (t:=.int) (o:=oi 5 1) (len:=l10_m6_1.length) (k:=.i64) (m:=wI (((l10_m25:Nat):Int) - 1)) p64 (Av e64)) ?_;refine dsl (ai x65) (C0 (i:=oi 5 1) (j:=(wI (((l10_m25:Nat):Int) - 1)).toNat) (k:=0) (e:=3) (t:=.int) (xs:=l10_m6_1) (by kernel_rfl) (by kernel_rfl) e65 (by kernel_rfl)) ?_;refine dz0 (.bool (x67 !=x65)) ?_;refine F2 (Bc (by kernel_rfl)) (tn_ ?_);refine wr_ ?_;rcases Ad h with ⟨q75,h⟩ | ⟨q75,h⟩
      ·refine Af q75 ?_;refine Aj ?_;refine Ah (tr_ (tr_ (br_ (tr_ (tr_ (br_ (tr_ ?_)))))));obtain rfl:=zj h;have h:=hk70
       (try dsimp only at h);obtain rfl:=zj h;have h:=hk14
       (try dsimp only at h);obtain rfl:=zj h;have h:=hn10
       (try dsimp only at h);obtain rfl:=zj h;have h:=hk8
       (try dsimp only at h);obtain rfl:=zj h;exact A0 [.agg [.own (oi 4 1) .int 0 l10_m6_0.length,.own (oi 5 1) .int 0 l10_m6_1.length,.own (oi 6 1) .int 0 l10_m6_2.length],.bool false] (Gm (Bg (Eb (by kernel_rfl) rfl) (Bg (Eb (by kernel_rfl) rfl) (Bg (Eb (by kernel_rfl) rfl) Gd))) (Ap rfl zl As))
      refine Ag q75 ?_;refine Ai (tn_ ?_);refine wr_ ?_;refine A1 62 ?_;refine dz0 (.box (oi 2 1) 1) ?_;refine dzl (.own (oi 5 1) .int 0 l10_m6_1.length) ?_;refine dz0 (ai (wI (x60 - 1))) ?_;refine ds0 (.elt (oi 5 1) ((wI (x60 - 1)).toNat) 0) (zo (t:=.int) (o:=oi 5 1) (len:=l10_m6_1.length) (k:=.i64) (m:=wI (x60 - 1)) p62 (Av e62)) ?_;refine dsl (ai x63) (C0 (i:=oi 5 1) (j:=(wI (x60 - 1)).toNat) (k:=0) (e:=3) (t:=.int) (xs:=l10_m6_1) (by kernel_rfl) (by kernel_rfl) e63 (by kernel_rfl)) ?_;refine dz0 (.box (oi 2 1) 2) ?_;refine dzl (.own (oi 6 1) .int 0 l10_m6_2.length) ?_;refine dz0 (ai (wI (((l10_m25:Nat):Int) - 1))) ?_;refine ds0 (.elt (oi 6 1) ((wI (((l10_m25:Nat):Int) - 1)).toNat) 0) (zo (t:=.int) (o:=oi 6 1) (len:=l10_m6_2.length) (k:=.i64) (m:=wI (((l10_m25:Nat):Int) - 1)) p68 (Av e68)) ?_;refine dsl (ai x69) (C0 (i:=oi 6 1) (j:=(wI (((l10_m25:Nat):Int) - 1)).toNat) (k:=0) (e:=3) (t:=.int) (xs:=l10_m6_2) (by kernel_rfl) (by kernel_rfl) e69 (by kernel_rfl)) ?_;refine dz0 (ai x63) ?_;refine dz0 (ai x69) ?_;refine F2 (Bc (by kernel_rfl)) (tn_ ?_);obtain rfl:=zj h;exact ⟨(x63,x69),_,rfl,Ac [(oi 3 1,oi 4 1),(oi 4 1,oi 5 1),(oi 5 1,oi 6 1)],⟨x63,x69,rfl,rfl⟩⟩
     refine Ag q72 ?_;refine Ai (tn_ ?_);obtain rfl:=zj h;exact ⟨(wI (x63+x65),wI (x67+x69)),_,rfl,Ac [(oi 3 1,oi 4 1),(oi 4 1,oi 5 1),(oi 5 1,oi 6 1)],⟨wI (x63+x65),wI (x67+x69),rfl,rfl⟩⟩
    rintro _ _ ⟨l70_m14,l70_m15,rfl,rfl⟩ h
    (try dsimp only at h);refine Ab ?_;refine Aw h (fun (l78_m177:Bool) S_=>S_=⟨Ao [(0,.tree (.pair .str (.pair .int (.pair .int (.slice (.pair .int (.pair .int .str)))))) a0),(3,.box (oi 0 1) 0),(4,.box (oi 1 1) 0),(6,.box (oi 2 1) 0),(13,ai (wI (x60 - 1))),(14,ai l70_m14),(15,ai l70_m15),(23,.tree (.pair .int (.pair .int .str)) a1_0),(24,ai ((a1_0.length:Nat):Int)),(25,ai ((l10_m25:Nat):Int)),(177,.bool l78_m177)],Ak (Aq [(oi 0 1,.cells 35 [.tree (.pair .int (.pair .int .str)) a1_0]),(oi 1 1,.cells 75 [.nils,.nils,.nils]),(oi 2 1,.cells 75 [.own (oi 3 1) .int 0 l10_m6_0.length,.own (oi 4 1) .int 0 l10_m6_1.length,.own (oi 5 1) .int 0 l10_m6_2.length]),(oi 3 1,.arr 3 .int l10_m6_0),(oi 4 1,.arr 3 .int l10_m6_1),(oi 5 1,.arr 3 .int l10_m6_2)]),2⟩) ?_ ?_
    ·intro v_ h;rcases Ad h with ⟨q79,h⟩ | ⟨q79,h⟩
     ·have q79_:=of_decide_eq_true q79;refine Aa 8 ?_;refine rz0 (ai l70_m14) ?_;refine rz0 (.bool (decide (12<l70_m14))) ?_;refine rz0 (.bool (decide (12<l70_m14))) ?_;refine zs q79 ?_;refine zs q79 ?_;refine rs0 (.bool true) (zT q79) ?_;refine An (tn_ ?_);obtain rfl:=zj h;exact ⟨_,Ac [],rfl⟩
     have q79_:=of_decide_eq_false q79;refine Aa 8 ?_;refine rz0 (ai l70_m14) ?_;refine rz0 (.bool (decide (12<l70_m14))) ?_;refine rz0 (.bool (decide (12<l70_m14))) ?_;refine rs0 (ai l70_m15) (zg q79) ?_;refine rs0 (.bool (decide (12<l70_m15))) (zg q79) ?_;refine rs0 (.bool (decide (12<l70_m15))) (zF q79) ?_;refine An (tn_ ?_);obtain rfl:=zj h;exact ⟨_,Ac [],rfl⟩
    rintro l78_m177 _ rfl h
    (try dsimp only at h);rcases Ad h with ⟨q80,h⟩ | ⟨q80,h⟩
    ·refine Af q80 ?_;refine Aj ?_;refine Ah (tr_ (br_ (tr_ (tr_ (br_ (tr_ ?_))))));obtain rfl:=zj h;have h:=hk14
     (try dsimp only at h);obtain rfl:=zj h;have h:=hn10
     (try dsimp only at h);obtain rfl:=zj h;have h:=hk8
     (try dsimp only at h);obtain rfl:=zj h;exact A0 [.agg [.own (oi 3 1) .int 0 l10_m6_0.length,.own (oi 4 1) .int 0 l10_m6_1.length,.own (oi 5 1) .int 0 l10_m6_2.length],.bool false] (Gm (Bg (Eb (by kernel_rfl) rfl) (Bg (Eb (by kernel_rfl) rfl) (Bg (Eb (by kernel_rfl) rfl) Gd))) (Ap rfl zl As))
    refine Ag q80 ?_;refine Ai (tn_ ?_);refine wr_ ?_;refine Ab ?_;obtain ⟨x83,f83,h⟩:=Ae h;obtain ⟨p83,b83,e83⟩:=Bd f83;obtain ⟨x84,f84,h⟩:=Ae h;obtain ⟨p84,b84,e84⟩:=Bd f84;obtain ⟨g85,h⟩:=Au h;refine A1 13 ?_;refine dz0 (.box (oi 2 1) 0) ?_;refine dzl (.own (oi 3 1) .int 0 l10_m6_0.length) ?_;refine dz0 (.box (oi 2 1) 0) ?_;refine dzl (.own (oi 3 1) .int 0 l10_m6_0.length) ?_;refine dz0 (ai (wI (x60 - 1))) ?_;refine ds0 (.elt (oi 3 1) ((wI (x60 - 1)).toNat) 0) (zo (t:=.int) (o:=oi 3 1) (len:=l10_m6_0.length) (k:=.i64) (m:=wI (x60 - 1)) p83 (Av e83)) ?_;refine dsl (ai x84) (C0 (i:=oi 3 1) (j:=(wI (x60 - 1)).toNat) (k:=0) (e:=3) (t:=.int) (xs:=l10_m6_0) (by kernel_rfl) (by kernel_rfl) e84 (by kernel_rfl)) ?_;refine ds1 (.own (oi 186 9) .int 0 1) (oi 186 9) (.arr 3 .int ([x84])) (by kernel_rfl) ?_;refine ds2 (.own (oi 3 10) .int 0 ((l10_m6_0++([x84])).length)) (oi 3 1) (oi 3 10) (.arr 3 .int (l10_m6_0++([x84]))) (K8 (t:=.int) (t':=.int) (xs:=l10_m6_0) (ys:=[x84]) (zs:=l10_m6_0++([x84])) (j:=oi 3 1) (len:=l10_m6_0.length) (c:=.own (oi 186 9) .int 0 1) (by kernel_rfl) (by kernel_rfl) rfl (by kernel_rfl) (Mj (e:=3) (by kernel_rfl) rfl) rfl g85) ?_;refine dz0 (.box (oi 2 1) 0) ?_;refine Y0 (oi 2 1) (oi 2 1) (.cells 75 [.own (oi 3 10) .int 0 ((l10_m6_0++([x84])).length),.own (oi 4 1) .int 0 l10_m6_1.length,.own (oi 5 1) .int 0 l10_m6_2.length]) (by kernel_rfl) ?_;refine F2 (Bc (by kernel_rfl)) (tn_ ?_);refine wr_ ?_;refine Ab ?_;obtain ⟨g87,h⟩:=Au h;refine Aa 20 ?_;refine rz0 (.box (oi 2 1) 1) ?_;refine rzl (.own (oi 4 1) .int 0 l10_m6_1.length) ?_;refine rz0 (ai l70_m14) ?_;refine rs1 (.own (oi 192 16) .int 0 1) (oi 192 16) (.arr 3 .int ([l70_m14])) (by kernel_rfl) ?_;refine rs2 (.own (oi 4 17) .int 0 ((l10_m6_1++([l70_m14])).length)) (oi 4 1) (oi 4 17) (.arr 3 .int (l10_m6_1++([l70_m14]))) (K8 (t:=.int) (t':=.int) (xs:=l10_m6_1) (ys:=[l70_m14]) (zs:=l10_m6_1++([l70_m14])) (j:=oi 4 1) (len:=l10_m6_1.length) (c:=.own (oi 192 16) .int 0 1) (by kernel_rfl) (by kernel_rfl) rfl (by kernel_rfl) (Mj (e:=3) (by kernel_rfl) rfl) rfl g87) ?_;refine rsB 2 ?_;refine An (tn_ ?_);refine wr_ ?_;obtain ⟨g88,h⟩:=Au h;refine Aa 27 ?_;refine rz0 (.box (oi 2 1) 2) ?_;refine rzl (.own (oi 5 1) .int 0 l10_m6_2.length) ?_;refine rz0 (ai l70_m15) ?_;refine rs1 (.own (oi 198 23) .int 0 1) (oi 198 23) (.arr 3 .int ([l70_m15])) (by kernel_rfl) ?_;refine rs2 (.own (oi 5 24) .int 0 ((l10_m6_2++([l70_m15])).length)) (oi 5 1) (oi 5 24) (.arr 3 .int (l10_m6_2++([l70_m15]))) (K8 (t:=.int) (t':=.int) (xs:=l10_m6_2) (ys:=[l70_m15]) (zs:=l10_m6_2++([l70_m15])) (j:=oi 5 1) (len:=l10_m6_2.length) (c:=.own (oi 198 23) .int 0 1) (by kernel_rfl) (by kernel_rfl) rfl (by kernel_rfl) (Mj (e:=3) (by kernel_rfl) rfl) rfl g88) ?_;refine rsB 2 ?_;refine An (bn_ (tn_ ?_));obtain rfl:=zj h;exact ⟨(l10_m6_0++([x84]),l10_m6_1++([l70_m14]),l10_m6_2++([l70_m15])),_,rfl,Ac [(oi 3 1,oi 3 10),(oi 4 1,oi 4 17),(oi 5 1,oi 5 24)],⟨l10_m6_0++([x84]),l10_m6_1++([l70_m14]),l10_m6_2++([l70_m15]),rfl,rfl⟩⟩
   rintro _ _ ⟨l14_m6_0,l14_m6_1,l14_m6_2,rfl,rfl⟩ h
   (try dsimp only at h);obtain ⟨g89,h⟩:=Au h;refine Aa 4 ?_;refine rs0 (ai ((l10_m25+1:Nat):Int)) (za g89) ?_;refine rsB 1 ?_;refine An (tn_ ?_);obtain rfl:=zj h;exact ⟨(l10_m25+1,l14_m6_0,l14_m6_1,l14_m6_2),_,Ac [],⟨l10_m25+1,l14_m6_0,l14_m6_1,l14_m6_2,rfl,rfl⟩,hn10⟩
  have q13_:=of_decide_eq_false q13;refine Ag q13 ?_;refine Az (te_ (te_ (be_ (tn_ ?_))));obtain rfl:=zj h;have h:=hn10
  (try dsimp only at h);obtain rfl:=zj h;exact ⟨(l10_m6_0,l10_m6_1,l10_m6_2),_,rfl,Ac [],⟨l10_m6_0,l10_m6_1,l10_m6_2,rfl,rfl⟩⟩
 rintro _ _ ⟨l8_m6_0,l8_m6_1,l8_m6_2,rfl,rfl⟩ h
 (try dsimp only at h);refine Ab ?_;obtain ⟨x91,f91,h⟩:=Ae h;obtain ⟨p91,b91,e91⟩:=Bd f91;obtain ⟨x92,f92,h⟩:=Ae h;obtain ⟨p92,b92,e92⟩:=Bd f92;refine A1 14 ?_;refine dzl (.agg [.own (oi 3 1) .int 0 l8_m6_0.length,.own (oi 4 1) .int 0 l8_m6_1.length,.own (oi 5 1) .int 0 l8_m6_2.length]) ?_;refine dz0 (.box (oi 2 1) 0) ?_;refine dzl (.own (oi 3 1) .int 0 l8_m6_0.length) ?_;refine dz0 (.box (oi 0 1) 0) ?_;refine dzl (.tree (.pair .int (.pair .int .str)) a1_0) ?_;refine dz0 (ai ((a1_0.length:Nat):Int)) ?_;refine dz0 (ai (wI (((a1_0.length:Nat):Int) - 1))) ?_;refine ds0 (.elt (oi 3 1) ((wI (((a1_0.length:Nat):Int) - 1)).toNat) 0) (zo (t:=.int) (o:=oi 3 1) (len:=l8_m6_0.length) (k:=.i64) (m:=wI (((a1_0.length:Nat):Int) - 1)) p91 (Av e91)) ?_;refine dsl (ai x92) (C0 (i:=oi 3 1) (j:=(wI (((a1_0.length:Nat):Int) - 1)).toNat) (k:=0) (e:=3) (t:=.int) (xs:=l8_m6_0) (by kernel_rfl) (by kernel_rfl) e92 (by kernel_rfl)) ?_;refine dz0 (.bool (x92==0)) ?_;refine Y0 (oi 1 1) (oi 1 1) (.cells 75 [.own (oi 3 1) .int 0 l8_m6_0.length,.own (oi 4 1) .int 0 l8_m6_1.length,.own (oi 5 1) .int 0 l8_m6_2.length]) (by kernel_rfl) ?_;refine dz0 (.bool (x92==0)) ?_;refine F2 (Bc (by kernel_rfl)) (tn_ ?_);refine wr_ ?_;refine Ah ?_;obtain rfl:=zj h;exact A0 [.agg [.own (oi 3 1) .int 0 l8_m6_0.length,.own (oi 4 1) .int 0 l8_m6_1.length,.own (oi 5 1) .int 0 l8_m6_2.length],.bool (x92==0)] (Gm (Bg (Eb (by kernel_rfl) rfl) (Bg (Eb (by kernel_rfl) rfl) (Bg (Eb (by kernel_rfl) rfl) Gd))) (Ap rfl zl As))
def Rw:AC :=
 (.seq (rg [xo 1 (.i (.box 35 (tm 0))),xo 2 (.i (.alloc 75 [.nils,.nils,.nils])),xo 3 (qm (cb false))])
 (.seq (rg [xo 4 (.i (.ld false 1 (tm 1))),⟨some 5,none,qc 63 [.cst .nils,tm 4] [[some (.pair .str (.pair .int (.pair .int (.slice (.pair .int (.pair .int .str))))))],[some (.pair .int (.pair .int .str))]]⟩,xo 6 (.i (.extr 0 (tm 5))),xo 7 (.i (.extr 1 (tm 5))),xn (.st false 3 (tm 2) (tm 6)),xo 3 (qm (tm 7))])
 .ret))
def Aej:List Res:=[.cell 2 false 3,.tmp 3]
theorem Afl:Am Tryz.prog Tryz.f38=some (Rw,Aej):=by kernel_rfl
def Fs (a0_0:List (Int×Int×ByteArray)):Option (List Int×List Int×List Int×Bool) :=
 Option.bind (I5 ([]) a0_0) fun y3 =>
some (y3.1,y3.2.1,y3.2.2.1,y3.2.2.2)
def Aco (r:List Int×List Int×List Int×Bool):RV:=⟨true,[(true,[.new 3 .int r.1,.new 3 .int r.2.1,.new 3 .int r.2.2.1]),(false,[.sc (.bool r.2.2.2)])]⟩
theorem Pm {a0_0:List (Int×Int×ByteArray)} {r:List Int×List Int×List Int×Bool} (h:Fs a0_0=some r):Ax Tryz.prog Tab 38 [.agg [.tree (.pair .int (.pair .int .str)) a0_0]] (Aco r):=by
 refine Ar (by kernel_rfl) Tryz.func38 Afl (n:=8) (by kernel_rfl) (by simp) (tl:=[(0,.agg [.tree (.pair .int (.pair .int .str)) a0_0])]) rfl ?_;unfold Rw;unfold Fs at h;refine Aj ?_;refine Ab ?_;obtain ⟨y3,h3,h⟩:=Ae h;refine Aa 10 ?_;refine rzl (.agg [.tree (.pair .int (.pair .int .str)) a0_0]) ?_;refine zc (.tup [.agg [.own (oi 80 5) .int 0 y3.1.length,.own (oi 81 5) .int 0 y3.2.1.length,.own (oi 82 5) .int 0 y3.2.2.1.length],.bool y3.2.2.2]) [(oi 80 5,some (.arr 3 .int y3.1)),(oi 81 5,some (.arr 3 .int y3.2.1)),(oi 82 5,some (.arr 3 .int y3.2.2.1))] [.nils,.agg [.tree (.pair .int (.pair .int .str)) a0_0]] (Abk h3) ?_;refine rsB 4 ?_;refine An (tn_ ?_);refine wr_ ?_;refine Ah ?_;obtain rfl:=zj h;exact A0 [.agg [.own (oi 80 5) .int 0 y3.1.length,.own (oi 81 5) .int 0 y3.2.1.length,.own (oi 82 5) .int 0 y3.2.2.1.length],.bool y3.2.2.2] (Gm (Bg (Eb (by kernel_rfl) rfl) (Bg (Eb (by kernel_rfl) rfl) (Bg (Eb (by kernel_rfl) rfl) Gd))) (Ap rfl zl As))
def R1:AC :=
 (.seq (rg [xo 1 (.i (.box 35 (tm 0))),xo 2 (qm (ci 0)),xo 3 (qm (ci 0)),xo 4 (qm (cb false))])
 (.seq (rg [xo 9 (.i (.ld false 1 (tm 1))),⟨some 10,none,qc 38 [tm 9] [[some (.pair .int (.pair .int .str))]]⟩,xo 8 (qm (tm 10)),xo 11 (.i (.extr 0 (tm 8))),xo 12 (.i (.extr 1 (tm 8))),xo 5 (.i (.alloc 75 [.nils,.nils,.nils])),xn (.st false 3 (tm 5) (tm 11)),xo 6 (qm (tm 12))])
 (.seq (.seq (rg [xo 13 (qm (tm 6)),xo 14 (.i (.not (tm 13)))])
 (.cond (tm 14)
  (.seq (rg [xo 2 (qm (ci 0)),xo 3 (qm (ci 0)),xo 4 (qm (cb false))])
  .ret)
  .skip))
 (.seq (rg [xo 15 (qf 0 (tm 1)),xo 16 (ql (tm 15)),xo 17 (.i (.len (tm 16))),xo 18 (qb .sub (tm 17) (ci 1)),xo 7 (qm (tm 18))])
 (.seq (.region [xo 19 (qf 1 (tm 5)),xo 20 (ql (tm 19)),xo 21 (qm (tm 7)),xo 22 (qx 1 (tm 20) (tm 21)),xo 23 (ql (tm 22)),xo 24 (qf 2 (tm 5)),xo 25 (ql (tm 24)),xo 26 (qm (tm 7)),xo 27 (qx 1 (tm 25) (tm 26)),xo 28 (ql (tm 27)),xo 2 (qm (tm 23)),xo 3 (qm (tm 28)),xo 4 (qm (cb true))] true [])
 .ret)))))
def Aep:List Res:=[.tmp 2,.tmp 3,.tmp 4]
theorem Aex:Am Tryz.prog Tryz.f21=some (R1,Aep):=by kernel_rfl
def Hb (a0_0:List (Int×Int×ByteArray)):Option (Int×Int×Bool) :=
 Option.bind (Fs a0_0) fun y3 =>
cond (!y3.2.2.2)
 (some (0,0,false))
 (Option.bind (Fe y3.2.1 (wI (((a0_0.length:Nat):Int) - 1))) fun x10 =>
 Option.bind (Fe y3.2.1 (wI (((a0_0.length:Nat):Int) - 1))) fun x11 =>
 Option.bind (Fe y3.2.2.1 (wI (((a0_0.length:Nat):Int) - 1))) fun x12 =>
 Option.bind (Fe y3.2.2.1 (wI (((a0_0.length:Nat):Int) - 1))) fun x13 =>
 some (x11,x13,true))
def Acf (r:Int×Int×Bool):RV:=⟨true,[(false,[.sc (.int .i64 r.1)]),(false,[.sc (.int .i64 r.2.1)]),(false,[.sc (.bool r.2.2)])]⟩
theorem Zs {a0_0:List (Int×Int×ByteArray)} {r:Int×Int×Bool} (h:Hb a0_0=some r):Ax Tryz.prog Tab 21 [.agg [.tree (.pair .int (.pair .int .str)) a0_0]] (Acf r):=by
 refine Ar (by kernel_rfl) Tryz.func21 Aex (n:=29) (by kernel_rfl) (by simp) (tl:=[(0,.agg [.tree (.pair .int (.pair .int .str)) a0_0])]) rfl ?_;unfold R1;unfold Hb at h;refine Aj ?_;refine Ab ?_;obtain ⟨y3,h3,h⟩:=Ae h;refine Aa 13 ?_;refine rzl (.agg [.tree (.pair .int (.pair .int .str)) a0_0]) ?_;refine zc (.tup [.agg [.own (oi 160 6) .int 0 y3.1.length,.own (oi 161 6) .int 0 y3.2.1.length,.own (oi 162 6) .int 0 y3.2.2.1.length],.bool y3.2.2.2]) [(oi 160 6,some (.arr 3 .int y3.1)),(oi 161 6,some (.arr 3 .int y3.2.1)),(oi 162 6,some (.arr 3 .int y3.2.2.1))] [.agg [.tree (.pair .int (.pair .int .str)) a0_0]] (Pm h3) ?_;refine rsB 6 ?_;refine An (tn_ ?_);refine wr_ ?_;refine Ab ?_;refine Aj ?_;rcases Ad h with ⟨q6,h⟩ | ⟨q6,h⟩
 ·refine Af q6 ?_;refine Aj ?_;refine Ah (tr_ ?_);obtain rfl:=zj h;exact A0 [ai 0,ai 0,.bool false] (Ap rfl zl (Ap rfl zl (Ap rfl zl As)))
 refine Ag q6 ?_;refine Ai (tn_ ?_);refine wr_ ?_;refine Aj ?_;refine Ab ?_;obtain ⟨x10,f10,h⟩:=Ae h;obtain ⟨p10,b10,e10⟩:=Bd f10;obtain ⟨x11,f11,h⟩:=Ae h;obtain ⟨p11,b11,e11⟩:=Bd f11;obtain ⟨x12,f12,h⟩:=Ae h;obtain ⟨p12,b12,e12⟩:=Bd f12;obtain ⟨x13,f13,h⟩:=Ae h;obtain ⟨p13,b13,e13⟩:=Bd f13;refine A1 33 ?_;refine dz0 (.box (oi 5 10) 1) ?_;refine dzl (.own (oi 161 6) .int 0 y3.2.1.length) ?_;refine dz0 (ai (wI (((a0_0.length:Nat):Int) - 1))) ?_;refine ds0 (.elt (oi 161 6) ((wI (((a0_0.length:Nat):Int) - 1)).toNat) 0) (zo (t:=.int) (o:=oi 161 6) (len:=y3.2.1.length) (k:=.i64) (m:=wI (((a0_0.length:Nat):Int) - 1)) p10 (Av e10)) ?_;refine dsl (ai x11) (C0 (i:=oi 161 6) (j:=(wI (((a0_0.length:Nat):Int) - 1)).toNat) (k:=0) (e:=3) (t:=.int) (xs:=y3.2.1) (by kernel_rfl) (by kernel_rfl) e11 (by kernel_rfl)) ?_;refine dz0 (.box (oi 5 10) 2) ?_;refine dzl (.own (oi 162 6) .int 0 y3.2.2.1.length) ?_;refine dz0 (ai (wI (((a0_0.length:Nat):Int) - 1))) ?_;refine ds0 (.elt (oi 162 6) ((wI (((a0_0.length:Nat):Int) - 1)).toNat) 0) (zo (t:=.int) (o:=oi 162 6) (len:=y3.2.2.1.length) (k:=.i64) (m:=wI (((a0_0.length:Nat):Int) - 1)) p12 (Av e12)) ?_;refine dsl (ai x13) (C0 (i:=oi 162 6) (j:=(wI (((a0_0.length:Nat):Int) - 1)).toNat) (k:=0) (e:=3) (t:=.int) (xs:=y3.2.2.1) (by kernel_rfl) (by kernel_rfl) e13 (by kernel_rfl)) ?_;refine dz0 (ai x11) ?_;refine dz0 (ai x13) ?_;refine dz0 (.bool true) ?_;refine F2 (Bc (by kernel_rfl)) (tn_ ?_);refine wr_ ?_;refine Ah ?_;obtain rfl:=zj h;exact A0 [ai x11,ai x13,.bool true] (Ap rfl zl (Ap rfl zl (Ap rfl zl As)))
def Nx:AC :=
 (.seq (rg [xo 25 (qb .lss (tm 24) (tm 23))])
 (.seq (.cond (tm 25)
  .skip
  (.exit 0))
 (.seq (.block 1 (.seq (rg [xo 26 (qx 3 (tm 22) (tm 24)),xo 27 (.i (.ld false 3 (tm 26))),⟨some 8,none,.i (.alloc 81 [.int .i64 0,.int .i64 0,.str ⟨#[]⟩])⟩,xn (.st false 3 (tm 8) (tm 27))])
 (.seq (rg [xo 28 (qf 0 (tm 8)),xo 29 (ql (tm 28)),xo 30 (qb .eql (tm 29) (ci 7)),xo 31 (qm (tm 30)),⟨some 32,some (31,false),qf 0 (tm 8)⟩,⟨some 33,some (31,false),ql (tm 32)⟩,⟨some 34,some (31,false),qb .eql (tm 33) (ci 13)⟩,xo 35 (.i (.pick (tm 31) (cb true) (tm 34))),xo 36 (qm (tm 35)),⟨some 37,some (36,true),qf 1 (tm 8)⟩,⟨some 38,some (36,true),ql (tm 37)⟩,⟨some 39,some (36,true),qm (tm 0)⟩,⟨some 40,some (36,true),qb .geq (tm 38) (tm 39)⟩,xo 41 (.i (.pick (tm 36) (tm 40) (cb false)))])
 (.cond (tm 41)
  (.seq (rg [xo 4 (qm (cb false))])
  .ret)
  .skip))))
 (rg [xo 42 (qb .add (tm 24) (ci 1)),xo 24 (qm (tm 42))]))))
def Rd:AC :=
 (.seq (rg [xo 3 (.i (.box 35 (tm 1))),xo 4 (qm (cb false))])
 (.seq (.seq (rg [xo 10 (.i (.ld false 1 (tm 3))),⟨some 11,none,qc 38 [tm 10] [[some (.pair .int (.pair .int .str))]]⟩,xo 9 (qm (tm 11)),xo 12 (.i (.extr 0 (tm 9))),xo 13 (.i (.extr 1 (tm 9))),xo 5 (.i (.alloc 75 [.nils,.nils,.nils])),xn (.st false 3 (tm 5) (tm 12)),xo 6 (qm (tm 13))])
 (.seq (rg [xo 14 (qm (tm 6)),xo 15 (.i (.not (tm 14))),xo 16 (qm (tm 15)),⟨some 17,some (16,false),qm (tm 0)⟩,⟨some 18,some (16,false),qc 42 [tm 17] [[]]⟩,⟨some 19,some (16,false),.i (.not (tm 18))⟩,xo 20 (.i (.pick (tm 16) (cb true) (tm 19)))])
 (.cond (tm 20)
  (.seq (rg [xo 4 (qm (cb false))])
  .ret)
  .skip)))
 (.seq (.seq (rg [xo 21 (qf 0 (tm 3)),xo 22 (ql (tm 21)),xo 23 (.i (.len (tm 22))),xo 24 (qm (ci 0))])
 (.block 0 (.loop Nx)))
 (.seq (rg [xo 4 (qm (cb true))])
 .ret))))
def Adz:List Res:=[.tmp 4]
theorem Ae7:Am Tryz.prog Tryz.f23=some (Rd,Adz):=by kernel_rfl
theorem Gn:A5 Tryz.prog 23=true:=by kernel_rfl
def Ef (a1_0:List (Int×Int×ByteArray)) (a0:Int) (l12_m24:Nat):Option (Ctl Nat (Ctl Unit Bool)) :=
 cond (decide (((l12_m24:Nat):Int)<((a1_0.length:Nat):Int)))
 (Option.bind (a1_0[l12_m24]?) fun x18 =>
 Option.bind (cond (x18.1==7)
   (some (decide (a0<=x18.2.1)))
   (cond (x18.1==13)
    (some (decide (a0<=x18.2.1)))
    (some false))) fun l19_m41 =>
 cond l19_m41
  (some (Ctl.out (Ctl.out false)))
  (og (l12_m24+1<4611686018427387904) <|
  some (Ctl.next (l12_m24+1))))
 (some (Ctl.out (Ctl.next ())))
def Ht (a0:Int) (a1_0:List (Int×Int×ByteArray)):Option Bool :=
 Option.bind (Fs a1_0) fun y4 =>
Option.bind (cond (!y4.2.2.2)
  (some true)
  (Option.bind (Ft a0) fun y7 =>
  some (!y7))) fun l5_m20 =>
cond l5_m20
 (some false)
 (Do (A4 (fun s_:Nat=>Ef a1_0 a0 s_) 4611686018427387904 0) fun _ =>
 some true)
def Abp (r:Bool):RV:=⟨false,[(false,[.sc (.bool r)])]⟩
theorem F8 {a0:Int} {a1_0:List (Int×Int×ByteArray)} {r:Bool} (h:Ht a0 a1_0=some r):Ax Tryz.prog Tab 23 [ai a0,.agg [.tree (.pair .int (.pair .int .str)) a1_0]] (Abp r):=by
 refine Ar (by kernel_rfl) Tryz.func23 Ae7 (n:=43) (by kernel_rfl) (by simp) (tl:=[(0,ai a0),(1,.agg [.tree (.pair .int (.pair .int .str)) a1_0])]) rfl ?_;unfold Rd;unfold Ht at h;refine Aj ?_;refine Ab ?_;refine Ab ?_;obtain ⟨y4,h4,h⟩:=Ae h;refine Aa 11 ?_;refine rzl (.agg [.tree (.pair .int (.pair .int .str)) a1_0]) ?_;refine zc (.tup [.agg [.own (oi 176 4) .int 0 y4.1.length,.own (oi 177 4) .int 0 y4.2.1.length,.own (oi 178 4) .int 0 y4.2.2.1.length],.bool y4.2.2.2]) [(oi 176 4,some (.arr 3 .int y4.1)),(oi 177 4,some (.arr 3 .int y4.2.1)),(oi 178 4,some (.arr 3 .int y4.2.2.1))] [.agg [.tree (.pair .int (.pair .int .str)) a1_0]] (Pm h4) ?_;refine rsB 6 ?_;refine An (tn_ ?_);refine wr_ ?_;refine Aw h (fun (l5_m20:Bool) S_=>S_=⟨Ao [(0,ai a0),(3,.box (oi 0 1) 0),(20,.bool l5_m20)],Ak (Aq [(oi 0 1,.cells 35 [.tree (.pair .int (.pair .int .str)) a1_0])]),2⟩) ?_ ?_
 ·intro v_ h;rcases Ad h with ⟨q6,h⟩ | ⟨q6,h⟩
  ·refine Aa 18 ?_;refine rz0 (.bool y4.2.2.2) ?_;refine rz0 (.bool (!y4.2.2.2)) ?_;refine rz0 (.bool (!y4.2.2.2)) ?_;refine zs q6 ?_;refine zs q6 ?_;refine zs q6 ?_;refine rs0 (.bool true) (zT q6) ?_;refine An (tn_ ?_);obtain rfl:=zj h;exact ⟨_,Ac [(oi 0 1,oi 3 1)],rfl⟩
  obtain ⟨y7,h7,h⟩:=Ae h;refine Aa 18 ?_;refine rz0 (.bool y4.2.2.2) ?_;refine rz0 (.bool (!y4.2.2.2)) ?_;refine rz0 (.bool (!y4.2.2.2)) ?_;refine rs0 (ai a0) (zg q6) ?_;refine Bs (.bool y7) [] [ai a0] _ (caps:=[]) (args0:=[ai a0]) (Bf (by kernel_rfl) q6) (by kernel_rfl) (E2 h7) Ex ?_;refine rs0 (.bool (!y7)) (zg q6) ?_;refine rs0 (.bool (!y7)) (zF q6) ?_;refine An (tn_ ?_);obtain rfl:=zj h;exact ⟨_,Ac [(oi 0 1,oi 3 1)],rfl⟩
 rintro l5_m20 _ rfl h
 (try dsimp only at h);rcases Ad h with ⟨q8,h⟩ | ⟨q8,h⟩
 ·refine Af q8 ?_;refine Aj ?_;refine Ah (tr_ ?_);obtain rfl:=zj h;exact A0 [.bool false] (Ap rfl zl As)
 refine Ag q8 ?_;refine Ai (tn_ ?_);refine wr_ ?_;refine Bh h (fun (_:Unit) S_=>S_=⟨Ao [],Ak (Aq []),2⟩) ?_ ?_
 ·intro v_ h hk10;refine Aj ?_;refine Al ?_;refine A3 h (fun (l12_m24:Nat) S_=>S_=⟨Ao [(0,ai a0),(22,.tree (.pair .int (.pair .int .str)) a1_0),(23,ai ((a1_0.length:Nat):Int)),(24,ai ((l12_m24:Nat):Int))],Ak (Aq []),2⟩) ⟨_,Ac [],rfl⟩ ?_;rintro n_ l12_m24 _ c_ rfl h hn12
  (try dsimp only at h);unfold Ef at h;unfold Nx;refine Aj ?_;refine Ab ?_;rcases Ad h with ⟨q15,h⟩ | ⟨q15,h⟩
  ·have q15_:=of_decide_eq_true q15;refine Af q15 ?_;refine Ai (tn_ ?_);refine wr_ ?_;refine Ab ?_;refine Al ?_;refine Ab ?_;obtain ⟨x18,e18,h⟩:=Ae h;refine Aa 7 ?_;refine rs0 (.telt none (.pair .int (.pair .int .str)) x18 0) (zi (t:=.pair .int (.pair .int .str)) (xs:=a1_0) (k:=.i64) (m:=((l12_m24:Nat):Int)) (Ay _) e18) ?_;refine rsB 3 ?_;refine An (tn_ ?_);refine wr_ ?_;refine Aw h (fun (l19_m41:Bool) S_=>S_=⟨Ao [(0,ai a0),(22,.tree (.pair .int (.pair .int .str)) a1_0),(23,ai ((a1_0.length:Nat):Int)),(24,ai ((l12_m24:Nat):Int)),(41,.bool l19_m41)],Ak (Aq []),2⟩) ?_ ?_
   ·intro v_ h;rcases Ad h with ⟨q20,h⟩ | ⟨q20,h⟩
    ·refine Aa 21 ?_;refine rz0 (.box (oi 8 5) 0) ?_;refine rzl (ai x18.1) ?_;refine rz0 (.bool (x18.1==7)) ?_;refine rz0 (.bool (x18.1==7)) ?_;refine zs q20 ?_;refine zs q20 ?_;refine zs q20 ?_;refine rs0 (.bool true) (zT q20) ?_;refine rsB 6 ?_;refine An (tn_ ?_);obtain rfl:=zj h;exact ⟨_,Ac [],rfl⟩
    rcases Ad h with ⟨q21,h⟩ | ⟨q21,h⟩
    ·refine Aa 21 ?_;refine rz0 (.box (oi 8 5) 0) ?_;refine rzl (ai x18.1) ?_;refine rz0 (.bool (x18.1==7)) ?_;refine rz0 (.bool (x18.1==7)) ?_;refine rs0 (.box (oi 8 5) 0) (zg q20) ?_;refine rsl (ai x18.1) (zg q20) ?_;refine rs0 (.bool (x18.1==13)) (zg q20) ?_;refine rs0 (.bool (x18.1==13)) (zF q20) ?_;refine rz0 (.bool (x18.1==13)) ?_;refine rs0 (.box (oi 8 5) 1) (zg q21) ?_;refine rsl (ai x18.2.1) (zg q21) ?_;refine rs0 (ai a0) (zg q21) ?_;refine rs0 (.bool (decide (a0<=x18.2.1))) (zg q21) ?_;refine rs0 (.bool (decide (a0<=x18.2.1))) (zT q21) ?_;refine An (tn_ ?_);obtain rfl:=zj h;exact ⟨_,Ac [],rfl⟩
    refine Aa 21 ?_;refine rz0 (.box (oi 8 5) 0) ?_;refine rzl (ai x18.1) ?_;refine rz0 (.bool (x18.1==7)) ?_;refine rz0 (.bool (x18.1==7)) ?_;refine rs0 (.box (oi 8 5) 0) (zg q20) ?_;refine rsl (ai x18.1) (zg q20) ?_;refine rs0 (.bool (x18.1==13)) (zg q20) ?_;refine rs0 (.bool (x18.1==13)) (zF q20) ?_;refine rz0 (.bool (x18.1==13)) ?_;refine zs q21 ?_;refine zs q21 ?_;refine zs q21 ?_;refine zs q21 ?_;refine rs0 (.bool false) (zF q21) ?_;refine An (tn_ ?_);obtain rfl:=zj h;exact ⟨_,Ac [],rfl⟩
   rintro l19_m41 _ rfl h
   (try dsimp only at h);rcases Ad h with ⟨q22,h⟩ | ⟨q22,h⟩
   ·refine Af q22 ?_;refine Aj ?_;refine Ah (br_ (tr_ (tr_ (br_ (tr_ ?_)))));obtain rfl:=zj h;have h:=hn12
    (try dsimp only at h);obtain rfl:=zj h;have h:=hk10
    (try dsimp only at h);obtain rfl:=zj h;exact A0 [.bool false] (Ap rfl zl As)
   refine Ag q22 ?_;refine Ai (bn_ (tn_ ?_));refine wr_ ?_;obtain ⟨g24,h⟩:=Au h;refine Aa 4 ?_;refine rs0 (ai ((l12_m24+1:Nat):Int)) (za g24) ?_;refine rsB 1 ?_;refine An (tn_ ?_);obtain rfl:=zj h;exact ⟨l12_m24+1,_,Ac [],rfl,hn12⟩
  have q15_:=of_decide_eq_false q15;refine Ag q15 ?_;refine Az (te_ (te_ (be_ (tn_ ?_))));obtain rfl:=zj h;have h:=hn12
  (try dsimp only at h);obtain rfl:=zj h;exact ⟨(),_,rfl,Ac [],rfl⟩
 rintro _ _ rfl h
 (try dsimp only at h);refine Aj ?_;refine Ah ?_;obtain rfl:=zj h;exact A0 [.bool true] (Ap rfl zl As)
def L2:AC :=
 (.seq (rg [xo 2 (qm (cb false))])
 (.seq (rg [xo 3 (qm (tm 0)),xo 4 (qb .neq (tm 3) (ci 8)),xo 5 (qm (tm 4)),⟨some 6,some (5,true),qm (tm 0)⟩,⟨some 7,some (5,true),qb .neq (tm 6) (ci 14)⟩,xo 8 (.i (.pick (tm 5) (tm 7) (cb false))),xo 2 (qm (tm 8))])
 .ret))
def Vy:List Res:=[.tmp 2]
theorem Vh:Am Tryz.prog Tryz.f43=some (L2,Vy):=by kernel_rfl
def Fz (a0:Int):Option Bool :=
 Option.bind (cond (a0 !=8)
  (some (a0 !=14))
  (some false)) fun l2_m2 =>
some l2_m2
def T7 (r:Bool):RV:=⟨false,[(false,[.sc (.bool r)])]⟩
theorem Sf {a0:Int} {r:Bool} (h:Fz a0=some r):Ax Tryz.prog Tab 43 [ai a0] (T7 r):=by
 refine Ar (by kernel_rfl) Tryz.func43 Vh (n:=9) (by kernel_rfl) (by simp) (tl:=[(0,ai a0)]) rfl ?_;unfold L2;unfold Fz at h;refine Aj ?_;refine Aw h (fun (l2_m2:Bool) S_=>S_=⟨Ao [(2,.bool l2_m2)],Ak (Aq []),2⟩) ?_ ?_
 ·intro v_ h;rcases Ad h with ⟨q3,h⟩ | ⟨q3,h⟩
  ·refine Aa 9 ?_;refine rz0 (ai a0) ?_;refine rz0 (.bool (a0 !=8)) ?_;refine rz0 (.bool (a0 !=8)) ?_;refine rs0 (ai a0) (zg q3) ?_;refine rs0 (.bool (a0 !=14)) (zg q3) ?_;refine rs0 (.bool (a0 !=14)) (zT q3) ?_;refine rsB 1 ?_;refine An (tn_ ?_);obtain rfl:=zj h;exact ⟨_,Ac [],rfl⟩
  refine Aa 9 ?_;refine rz0 (ai a0) ?_;refine rz0 (.bool (a0 !=8)) ?_;refine rz0 (.bool (a0 !=8)) ?_;refine zs q3 ?_;refine zs q3 ?_;refine rs0 (.bool false) (zF q3) ?_;refine rsB 1 ?_;refine An (tn_ ?_);obtain rfl:=zj h;exact ⟨_,Ac [],rfl⟩
 rintro l2_m2 _ rfl h
 (try dsimp only at h);refine Ah ?_;obtain rfl:=zj h;exact A0 [.bool l2_m2] (Ap rfl zl As)
def Jg:AC :=
 (.seq (rg [xo 9 (qb .lss (tm 8) (tm 7))])
 (.seq (.cond (tm 9)
  .skip
  (.exit 0))
 (.seq (.block 1 (.seq (rg [xo 10 (qx 3 (tm 6) (tm 8)),xo 11 (.i (.ld false 3 (tm 10))),⟨some 4,none,.i (.alloc 81 [.int .i64 0,.int .i64 0,.str ⟨#[]⟩])⟩,xn (.st false 3 (tm 4) (tm 11))])
 (.seq (rg [xo 12 (qf 0 (tm 4)),xo 13 (ql (tm 12)),xo 14 (qc 43 [tm 13] [[]]),xo 15 (.i (.not (tm 14)))])
 (.cond (tm 15)
  (.seq (rg [xo 2 (qm (cb false))])
  .ret)
  .skip))))
 (rg [xo 16 (qb .add (tm 8) (ci 1)),xo 8 (qm (tm 16))]))))
def Lq:AC :=
 (.seq (rg [xo 1 (.i (.box 35 (tm 0))),xo 2 (qm (cb false))])
 (.seq (.seq (rg [xo 5 (qf 0 (tm 1)),xo 6 (ql (tm 5)),xo 7 (.i (.len (tm 6))),xo 8 (qm (ci 0))])
 (.block 0 (.loop Jg)))
 (.seq (rg [xo 2 (qm (cb true))])
 .ret)))
def Vq:List Res:=[.tmp 2]
theorem Ul:Am Tryz.prog Tryz.f24=some (Lq,Vq):=by kernel_rfl
theorem Fb:A5 Tryz.prog 24=true:=by kernel_rfl
def Cw (a0_0:List (Int×Int×ByteArray)) (l4_m8:Nat):Option (Ctl Nat (Ctl Unit Bool)) :=
 cond (decide (((l4_m8:Nat):Int)<((a0_0.length:Nat):Int)))
 (Option.bind (a0_0[l4_m8]?) fun x10 =>
 Option.bind (Fz x10.1) fun y12 =>
 cond (!y12)
  (some (Ctl.out (Ctl.out false)))
  (og (l4_m8+1<4611686018427387904) <|
  some (Ctl.next (l4_m8+1))))
 (some (Ctl.out (Ctl.next ())))
def Ds (a0_0:List (Int×Int×ByteArray)):Option Bool :=
 Do (A4 (fun s_:Nat=>Cw a0_0 s_) 4611686018427387904 0) fun _ =>
some true
def Tc (r:Bool):RV:=⟨false,[(false,[.sc (.bool r)])]⟩
theorem Fd {a0_0:List (Int×Int×ByteArray)} {r:Bool} (h:Ds a0_0=some r):Ax Tryz.prog Tab 24 [.agg [.tree (.pair .int (.pair .int .str)) a0_0]] (Tc r):=by
 refine Ar (by kernel_rfl) Tryz.func24 Ul (n:=17) (by kernel_rfl) (by simp) (tl:=[(0,.agg [.tree (.pair .int (.pair .int .str)) a0_0])]) rfl ?_;unfold Lq;unfold Ds at h;refine Aj ?_;refine Bh h (fun (_:Unit) S_=>S_=⟨Ao [],Ak (Aq []),2⟩) ?_ ?_
 ·intro v_ h hk2;refine Aj ?_;refine Al ?_;refine A3 h (fun (l4_m8:Nat) S_=>S_=⟨Ao [(6,.tree (.pair .int (.pair .int .str)) a0_0),(7,ai ((a0_0.length:Nat):Int)),(8,ai ((l4_m8:Nat):Int))],Ak (Aq []),2⟩) ⟨_,Ac [],rfl⟩ ?_;rintro n_ l4_m8 _ c_ rfl h hn4
  (try dsimp only at h);unfold Cw at h;unfold Jg;refine Aj ?_;refine Ab ?_;rcases Ad h with ⟨q7,h⟩ | ⟨q7,h⟩
  ·have q7_:=of_decide_eq_true q7;refine Af q7 ?_;refine Ai (tn_ ?_);refine wr_ ?_;refine Ab ?_;refine Al ?_;refine Ab ?_;obtain ⟨x10,e10,h⟩:=Ae h;refine Aa 7 ?_;refine rs0 (.telt none (.pair .int (.pair .int .str)) x10 0) (zi (t:=.pair .int (.pair .int .str)) (xs:=a0_0) (k:=.i64) (m:=((l4_m8:Nat):Int)) (Ay _) e10) ?_;refine rsB 3 ?_;refine An (tn_ ?_);refine wr_ ?_;refine Ab ?_;obtain ⟨y12,h12,h⟩:=Ae h;refine Aa 11 ?_;refine rz0 (.box (oi 4 5) 0) ?_;refine rzl (ai x10.1) ?_;refine zc (.bool y12) [] [ai x10.1] (Sf h12) ?_;refine rsB 1 ?_;refine An (tn_ ?_);refine wr_ ?_;rcases Ad h with ⟨q13,h⟩ | ⟨q13,h⟩
   ·refine Af q13 ?_;refine Aj ?_;refine Ah (br_ (tr_ (tr_ (br_ (tr_ ?_)))));obtain rfl:=zj h;have h:=hn4
    (try dsimp only at h);obtain rfl:=zj h;have h:=hk2
    (try dsimp only at h);obtain rfl:=zj h;exact A0 [.bool false] (Ap rfl zl As)
   refine Ag q13 ?_;refine Ai (bn_ (tn_ ?_));refine wr_ ?_;obtain ⟨g15,h⟩:=Au h;refine Aa 13 ?_;refine rs0 (ai ((l4_m8+1:Nat):Int)) (za g15) ?_;refine rsB 1 ?_;refine An (tn_ ?_);obtain rfl:=zj h;exact ⟨l4_m8+1,_,Ac [],rfl,hn4⟩
  have q7_:=of_decide_eq_false q7;refine Ag q7 ?_;refine Az (te_ (te_ (be_ (tn_ ?_))));obtain rfl:=zj h;have h:=hn4
  (try dsimp only at h);obtain rfl:=zj h;exact ⟨(),_,rfl,Ac [],rfl⟩
 rintro _ _ rfl h
 (try dsimp only at h);refine Aj ?_;refine Ah ?_;obtain rfl:=zj h;exact A0 [.bool true] (Ap rfl zl As)
def Q9:AC :=
 (.seq (rg [xo 3 (.i (.box 38 (tm 1))),xo 4 (qm (cb false))])
 (.seq (rg [xo 9 (qf 1 (tm 3)),xo 10 (.i (.ld false 1 (tm 9))),⟨some 11,none,qc 21 [tm 10] [[some (.pair .int (.pair .int .str))]]⟩,xo 8 (qm (tm 11)),xo 12 (.i (.extr 0 (tm 8))),xo 13 (.i (.extr 1 (tm 8))),xo 14 (.i (.extr 2 (tm 8))),xo 5 (qm (tm 12)),xo 6 (qm (tm 13)),xo 7 (qm (tm 14))])
 (.seq (rg [xo 15 (qm (tm 7)),xo 16 (qm (tm 15)),⟨some 17,some (16,true),qf 0 (tm 3)⟩,⟨some 18,some (16,true),ql (tm 17)⟩,⟨some 19,some (16,true),qc 22 [tm 18] [[]]⟩,xo 20 (.i (.pick (tm 16) (tm 19) (cb false))),xo 21 (qm (tm 20)),⟨some 22,some (21,true),qm (tm 0)⟩,⟨some 23,some (21,true),qf 1 (tm 3)⟩,⟨some 24,some (21,true),.i (.ld false 1 (tm 23))⟩,⟨some 25,some (21,true),qc 23 [tm 22,tm 24] [[],[some (.pair .int (.pair .int .str))]]⟩,xo 26 (.i (.pick (tm 21) (tm 25) (cb false))),xo 27 (qm (tm 26)),⟨some 28,some (27,true),qf 1 (tm 3)⟩,⟨some 29,some (27,true),.i (.ld false 1 (tm 28))⟩,⟨some 30,some (27,true),qc 24 [tm 29] [[some (.pair .int (.pair .int .str))]]⟩,xo 31 (.i (.pick (tm 27) (tm 30) (cb false))),xo 32 (qm (tm 31)),⟨some 33,some (32,true),qm (tm 0)⟩,⟨some 34,some (32,true),qf 2 (tm 3)⟩,⟨some 35,some (32,true),.i (.ld false 3 (tm 34))⟩,⟨some 36,some (32,true),qc 25 [tm 33,tm 35] [[],[none,none,some (.slice .int)]]⟩,xo 37 (.i (.pick (tm 32) (tm 36) (cb false))),xo 38 (qm (tm 37)),⟨some 39,some (38,true),qf 2 (tm 3)⟩,⟨some 40,some (38,true),qf 0 (tm 39)⟩,⟨some 41,some (38,true),ql (tm 40)⟩,⟨some 42,some (38,true),qm (tm 5)⟩,⟨some 43,some (38,true),qb .eql (tm 41) (tm 42)⟩,xo 44 (.i (.pick (tm 38) (tm 43) (cb false))),xo 45 (qm (tm 44)),⟨some 46,some (45,true),qf 2 (tm 3)⟩,⟨some 47,some (45,true),qf 1 (tm 46)⟩,⟨some 48,some (45,true),ql (tm 47)⟩,⟨some 49,some (45,true),qm (tm 6)⟩,⟨some 50,some (45,true),qb .eql (tm 48) (tm 49)⟩,xo 51 (.i (.pick (tm 45) (tm 50) (cb false))),xo 4 (qm (tm 51))])
 .ret)))
def Afo:List Res:=[.tmp 4]
theorem Aes:Am Tryz.prog Tryz.f11=some (Q9,Afo):=by kernel_rfl
theorem Ada:A5 Tryz.prog 11=true:=by kernel_rfl
def Db (a0:Int) (a1_0:ByteArray) (a1_1:List (Int×Int×ByteArray)) (a1_2:Int) (a1_3:Int) (a1_4:List (List Int)):Option Bool :=
 Option.bind (Hb a1_1) fun y3 =>
Option.bind (cond y3.2.2
  (Option.bind (He a1_0) fun y6 =>
  cond y6
   (Option.bind (Ht a0 a1_1) fun y8 =>
   cond y8
    (Option.bind (Ds a1_1) fun y10 =>
    cond y10
     (Option.bind (Hd a0 a1_2 a1_3 a1_4) fun y12 =>
     cond y12
      (cond (a1_2==y3.1)
       (some (a1_3==y3.2.1))
       (some false))
      (some false))
     (some false))
    (some false))
   (some false))
  (some false)) fun l4_m4 =>
some l4_m4
def Ac1 (r:Bool):RV:=⟨false,[(false,[.sc (.bool r)])]⟩
set_option maxHeartbeats 1600000 in
theorem K6 {a0:Int} {a1_0:ByteArray} {a1_1:List (Int×Int×ByteArray)} {a1_2:Int} {a1_3:Int} {a1_4:List (List Int)} {r:Bool} (h:Db a0 a1_0 a1_1 a1_2 a1_3 a1_4=some r):Ax Tryz.prog Tab 11 [ai a0,.agg [.str a1_0,.tree (.pair .int (.pair .int .str)) a1_1,ai a1_2,ai a1_3,.tree (.slice .int) a1_4]] (Ac1 r):=by
 refine Ar (by kernel_rfl) Tryz.func11 Aes (n:=52) (by kernel_rfl) (by simp) (tl:=[(0,ai a0),(1,.agg [.str a1_0,.tree (.pair .int (.pair .int .str)) a1_1,ai a1_2,ai a1_3,.tree (.slice .int) a1_4])]) rfl ?_;unfold Q9;unfold Db at h;refine Aj ?_;refine Ab ?_;obtain ⟨y3,h3,h⟩:=Ae h;refine Aa 13 ?_;refine rz0 (.box (oi 3 1) 1) ?_;refine rzl (.agg [.tree (.pair .int (.pair .int .str)) a1_1]) ?_;refine zc (.tup [ai y3.1,ai y3.2.1,.bool y3.2.2]) [] [.agg [.tree (.pair .int (.pair .int .str)) a1_1]] (Zs h3) ?_;refine rsB 7 ?_;refine An (tn_ ?_);refine wr_ ?_;refine Aw h (fun (l4_m4:Bool) S_=>S_=⟨Ao [(4,.bool l4_m4)],Ak (Aq []),2⟩) ?_ ?_
 ·intro v_ h;rcases Ad h with ⟨q5,h⟩ | ⟨q5,h⟩
  ·obtain ⟨y6,h6,h⟩:=Ae h;rcases Ad h with ⟨q7,h⟩ | ⟨q7,h⟩
   ·obtain ⟨y8,h8,h⟩:=Ae h;rcases Ad h with ⟨q9,h⟩ | ⟨q9,h⟩
    ·obtain ⟨y10,h10,h⟩:=Ae h;rcases Ad h with ⟨q11,h⟩ | ⟨q11,h⟩
     ·obtain ⟨y12,h12,h⟩:=Ae h;rcases Ad h with ⟨q13,h⟩ | ⟨q13,h⟩
      ·rcases Ad h with ⟨q14,h⟩ | ⟨q14,h⟩
       ·refine Aa 51 ?_;refine rz0 (.bool y3.2.2) ?_;refine rz0 (.bool y3.2.2) ?_;refine rs0 (.box (oi 3 1) 0) (zg q5) ?_;refine rsl (.str a1_0) (zg q5) ?_;refine Bs (.bool y6) [] [.str a1_0] _ (caps:=[]) (args0:=[.str a1_0]) (Bf (by kernel_rfl) q5) (by kernel_rfl) (Ey h6) Et ?_;refine rs0 (.bool y6) (zT q5) ?_;refine rz0 (.bool y6) ?_;refine rs0 (ai a0) (zg q7) ?_;refine rs0 (.box (oi 3 1) 1) (zg q7) ?_;refine rsl (.agg [.tree (.pair .int (.pair .int .str)) a1_1]) (zg q7) ?_;refine Bs (.bool y8) [] [ai a0,.agg [.tree (.pair .int (.pair .int .str)) a1_1]] _ (caps:=[]) (args0:=[ai a0,.agg [.tree (.pair .int (.pair .int .str)) a1_1]]) (Bf (by kernel_rfl) q7) (by kernel_rfl) (F8 h8) Gn ?_;refine rs0 (.bool y8) (zT q7) ?_;refine rz0 (.bool y8) ?_;refine rs0 (.box (oi 3 1) 1) (zg q9) ?_;refine rsl (.agg [.tree (.pair .int (.pair .int .str)) a1_1]) (zg q9) ?_;refine Bs (.bool y10) [] [.agg [.tree (.pair .int (.pair .int .str)) a1_1]] _ (caps:=[]) (args0:=[.agg [.tree (.pair .int (.pair .int .str)) a1_1]]) (Bf (by kernel_rfl) q9) (by kernel_rfl) (Fd h10) Fb ?_;refine rs0 (.bool y10) (zT q9) ?_;refine rz0 (.bool y10) ?_;refine rs0 (ai a0) (zg q11) ?_;refine rs0 (.box (oi 3 1) 2) (zg q11) ?_;refine rsl (.agg [ai a1_2,ai a1_3,.tree (.slice .int) a1_4]) (zg q11) ?_;refine Bs (.bool y12) [] [ai a0,.agg [ai a1_2,ai a1_3,.tree (.slice .int) a1_4]] _ (caps:=[]) (args0:=[ai a0,.agg [ai a1_2,ai a1_3,.tree (.slice .int) a1_4]]) (Bf (by kernel_rfl) q11) (by kernel_rfl) (K1 h12) La ?_;refine rs0 (.bool y12) (zT q11) ?_;refine rz0 (.bool y12) ?_;refine rs0 (.box (oi 3 1) 2) (zg q13) ?_;refine rs0 (.box (oi 3 1) 2) (zg q13) ?_;refine rsl (ai a1_2) (zg q13) ?_;refine rs0 (ai y3.1) (zg q13) ?_;refine rs0 (.bool (a1_2==y3.1)) (zg q13) ?_;refine rs0 (.bool (a1_2==y3.1)) (zT q13) ?_;refine rz0 (.bool (a1_2==y3.1)) ?_;refine rs0 (.box (oi 3 1) 2) (zg q14) ?_;refine rs0 (.box (oi 3 1) 3) (zg q14) ?_;refine rsl (ai a1_3) (zg q14) ?_;refine rs0 (ai y3.2.1) (zg q14) ?_;refine rs0 (.bool (a1_3==y3.2.1)) (zg q14) ?_;refine rs0 (.bool (a1_3==y3.2.1)) (zT q14) ?_;refine rsB 1 ?_;refine An (tn_ ?_);obtain rfl:=zj h;exact ⟨_,Ac [],rfl⟩
       refine Aa 51 ?_;refine rz0 (.bool y3.2.2) ?_;refine rz0 (.bool y3.2.2) ?_;refine rs0 (.box (oi 3 1) 0) (zg q5) ?_;refine rsl (.str a1_0) (zg q5) ?_;refine Bs (.bool y6) [] [.str a1_0] _ (caps:=[]) (args0:=[.str a1_0]) (Bf (by kernel_rfl) q5) (by kernel_rfl) (Ey h6) Et ?_;refine rs0 (.bool y6) (zT q5) ?_;refine rz0 (.bool y6) ?_;refine rs0 (ai a0) (zg q7) ?_;refine rs0 (.box (oi 3 1) 1) (zg q7) ?_;refine rsl (.agg [.tree (.pair .int (.pair .int .str)) a1_1]) (zg q7) ?_;refine Bs (.bool y8) [] [ai a0,.agg [.tree (.pair .int (.pair .int .str)) a1_1]] _ (caps:=[]) (args0:=[ai a0,.agg [.tree (.pair .int (.pair .int .str)) a1_1]]) (Bf (by kernel_rfl) q7) (by kernel_rfl) (F8 h8) Gn ?_;refine rs0 (.bool y8) (zT q7) ?_;refine rz0 (.bool y8) ?_;refine rs0 (.box (oi 3 1) 1) (zg q9) ?_;refine rsl (.agg [.tree (.pair .int (.pair .int .str)) a1_1]) (zg q9) ?_;refine Bs (.bool y10) [] [.agg [.tree (.pair .int (.pair .int .str)) a1_1]] _ (caps:=[]) (args0:=[.agg [.tree (.pair .int (.pair .int .str)) a1_1]]) (Bf (by kernel_rfl) q9) (by kernel_rfl) (Fd h10) Fb ?_;refine rs0 (.bool y10) (zT q9) ?_;refine rz0 (.bool y10) ?_;refine rs0 (ai a0) (zg q11) ?_;refine rs0 (.box (oi 3 1) 2) (zg q11) ?_;refine rsl (.agg [ai a1_2,ai a1_3,.tree (.slice .int) a1_4]) (zg q11) ?_;refine Bs (.bool y12) [] [ai a0,.agg [ai a1_2,ai a1_3,.tree (.slice .int) a1_4]] _ (caps:=[]) (args0:=[ai a0,.agg [ai a1_2,ai a1_3,.tree (.slice .int) a1_4]]) (Bf (by kernel_rfl) q11) (by kernel_rfl) (K1 h12) La ?_;refine rs0 (.bool y12) (zT q11) ?_;refine rz0 (.bool y12) ?_;refine rs0 (.box (oi 3 1) 2) (zg q13) ?_;refine rs0 (.box (oi 3 1) 2) (zg q13) ?_;refine rsl (ai a1_2) (zg q13) ?_;refine rs0 (ai y3.1) (zg q13) ?_;refine rs0 (.bool (a1_2==y3.1)) (zg q13) ?_;refine rs0 (.bool (a1_2==y3.1)) (zT q13) ?_;refine rz0 (.bool (a1_2==y3.1)) ?_;refine zs q14 ?_;refine zs q14 ?_;refine zs q14 ?_;refine zs q14 ?_;refine zs q14 ?_;refine rs0 (.bool false) (zF q14) ?_;refine rsB 1 ?_;refine An (tn_ ?_);obtain rfl:=zj h;exact ⟨_,Ac [],rfl⟩
      refine Aa 51 ?_;refine rz0 (.bool y3.2.2) ?_;refine rz0 (.bool y3.2.2) ?_;refine rs0 (.box (oi 3 1) 0) (zg q5) ?_;refine rsl (.str a1_0) (zg q5) ?_;refine Bs (.bool y6) [] [.str a1_0] _ (caps:=[]) (args0:=[.str a1_0]) (Bf (by kernel_rfl) q5) (by kernel_rfl) (Ey h6) Et ?_;refine rs0 (.bool y6) (zT q5) ?_;refine rz0 (.bool y6) ?_;refine rs0 (ai a0) (zg q7) ?_;refine rs0 (.box (oi 3 1) 1) (zg q7) ?_;refine rsl (.agg [.tree (.pair .int (.pair .int .str)) a1_1]) (zg q7) ?_;refine Bs (.bool y8) [] [ai a0,.agg [.tree (.pair .int (.pair .int .str)) a1_1]] _ (caps:=[]) (args0:=[ai a0,.agg [.tree (.pair .int (.pair .int .str)) a1_1]]) (Bf (by kernel_rfl) q7) (by kernel_rfl) (F8 h8) Gn ?_;refine rs0 (.bool y8) (zT q7) ?_;refine rz0 (.bool y8) ?_;refine rs0 (.box (oi 3 1) 1) (zg q9) ?_;refine rsl (.agg [.tree (.pair .int (.pair .int .str)) a1_1]) (zg q9) ?_;refine Bs (.bool y10) [] [.agg [.tree (.pair .int (.pair .int .str)) a1_1]] _ (caps:=[]) (args0:=[.agg [.tree (.pair .int (.pair .int .str)) a1_1]]) (Bf (by kernel_rfl) q9) (by kernel_rfl) (Fd h10) Fb ?_;refine rs0 (.bool y10) (zT q9) ?_;refine rz0 (.bool y10) ?_;refine rs0 (ai a0) (zg q11) ?_;refine rs0 (.box (oi 3 1) 2) (zg q11) ?_;refine rsl (.agg [ai a1_2,ai a1_3,.tree (.slice .int) a1_4]) (zg q11) ?_;refine Bs (.bool y12) [] [ai a0,.agg [ai a1_2,ai a1_3,.tree (.slice .int) a1_4]] _ (caps:=[]) (args0:=[ai a0,.agg [ai a1_2,ai a1_3,.tree (.slice .int) a1_4]]) (Bf (by kernel_rfl) q11) (by kernel_rfl) (K1 h12) La ?_;refine rs0 (.bool y12) (zT q11) ?_;refine rz0 (.bool y12) ?_;refine zs q13 ?_;refine zs q13 ?_;refine zs q13 ?_;refine zs q13 ?_;refine zs q13 ?_;refine rs0 (.bool false) (zF q13) ?_;refine rsB 8 ?_;refine An (tn_ ?_);obtain rfl:=zj h;exact ⟨_,Ac [],rfl⟩
     refine Aa 51 ?_;refine rz0 (.bool y3.2.2) ?_;refine rz0 (.bool y3.2.2) ?_;refine rs0 (.box (oi 3 1) 0) (zg q5) ?_;refine rsl (.str a1_0) (zg q5) ?_;refine Bs (.bool y6) [] [.str a1_0] _ (caps:=[]) (args0:=[.str a1_0]) (Bf (by kernel_rfl) q5) (by kernel_rfl) (Ey h6) Et ?_;refine rs0 (.bool y6) (zT q5) ?_;refine rz0 (.bool y6) ?_;refine rs0 (ai a0) (zg q7) ?_;refine rs0 (.box (oi 3 1) 1) (zg q7) ?_;refine rsl (.agg [.tree (.pair .int (.pair .int .str)) a1_1]) (zg q7) ?_;refine Bs (.bool y8) [] [ai a0,.agg [.tree (.pair .int (.pair .int .str)) a1_1]] _ (caps:=[]) (args0:=[ai a0,.agg [.tree (.pair .int (.pair .int .str)) a1_1]]) (Bf (by kernel_rfl) q7) (by kernel_rfl) (F8 h8) Gn ?_;refine rs0 (.bool y8) (zT q7) ?_;refine rz0 (.bool y8) ?_;refine rs0 (.box (oi 3 1) 1) (zg q9) ?_;refine rsl (.agg [.tree (.pair .int (.pair .int .str)) a1_1]) (zg q9) ?_;refine Bs (.bool y10) [] [.agg [.tree (.pair .int (.pair .int .str)) a1_1]] _ (caps:=[]) (args0:=[.agg [.tree (.pair .int (.pair .int .str)) a1_1]]) (Bf (by kernel_rfl) q9) (by kernel_rfl) (Fd h10) Fb ?_;refine rs0 (.bool y10) (zT q9) ?_;refine rz0 (.bool y10) ?_;refine zs q11 ?_;refine zs q11 ?_;refine zs q11 ?_;refine zs q11 ?_;refine rs0 (.bool false) (zF q11) ?_;refine rsB 15 ?_;refine An (tn_ ?_);obtain rfl:=zj h;exact ⟨_,Ac [],rfl⟩
    refine Aa 51 ?_;refine rz0 (.bool y3.2.2) ?_;refine rz0 (.bool y3.2.2) ?_;refine rs0 (.box (oi 3 1) 0) (zg q5) ?_;refine rsl (.str a1_0) (zg q5) ?_;refine Bs (.bool y6) [] [.str a1_0] _ (caps:=[]) (args0:=[.str a1_0]) (Bf (by kernel_rfl) q5) (by kernel_rfl) (Ey h6) Et ?_;refine rs0 (.bool y6) (zT q5) ?_;refine rz0 (.bool y6) ?_;refine rs0 (ai a0) (zg q7) ?_;refine rs0 (.box (oi 3 1) 1) (zg q7) ?_;refine rsl (.agg [.tree (.pair .int (.pair .int .str)) a1_1]) (zg q7) ?_;refine Bs (.bool y8) [] [ai a0,.agg [.tree (.pair .int (.pair .int .str)) a1_1]] _ (caps:=[]) (args0:=[ai a0,.agg [.tree (.pair .int (.pair .int .str)) a1_1]]) (Bf (by kernel_rfl) q7) (by kernel_rfl) (F8 h8) Gn ?_;refine rs0 (.bool y8) (zT q7) ?_;refine rz0 (.bool y8) ?_;refine zs q9 ?_;refine zs q9 ?_;refine zs q9 ?_;refine rs0 (.bool false) (zF q9) ?_;refine rsB 21 ?_;refine An (tn_ ?_);obtain rfl:=zj h;exact ⟨_,Ac [],rfl⟩
   refine Aa 51 ?_;refine rz0 (.bool y3.2.2) ?_;refine rz0 (.bool y3.2.2) ?_;refine rs0 (.box (oi 3 1) 0) (zg q5) ?_;refine rsl (.str a1_0) (zg q5) ?_;refine Bs (.bool y6) [] [.str a1_0] _ (caps:=[]) (args0:=[.str a1_0]) (Bf (by kernel_rfl) q5) (by kernel_rfl) (Ey h6) Et ?_;refine rs0 (.bool y6) (zT q5) ?_;refine rz0 (.bool y6) ?_;refine zs q7 ?_;refine zs q7 ?_;refine zs q7 ?_;refine zs q7 ?_;refine rs0 (.bool false) (zF q7) ?_;refine rsB 26 ?_;refine An (tn_ ?_);obtain rfl:=zj h;exact ⟨_,Ac [],rfl⟩
  refine Aa 51 ?_;refine rz0 (.bool y3.2.2) ?_;refine rz0 (.bool y3.2.2) ?_;refine zs q5 ?_;refine zs q5 ?_;refine zs q5 ?_;refine rs0 (.bool false) (zF q5) ?_;refine rsB 32 ?_;refine An (tn_ ?_);obtain rfl:=zj h;exact ⟨_,Ac [],rfl⟩
 rintro l4_m4 _ rfl h
 (try dsimp only at h);refine Ah ?_;obtain rfl:=zj h;exact A0 [.bool l4_m4] (Ap rfl zl As)
end
section
open Go.RowKit Go.Deep
theorem Aal {tl:List (Nat×AV)} {ol:List (Oid×Option Ob)} {g:Nat} (s:Nat) {p:Bool} {n:Nat} (hs:Ao tl s=.abool p n) (hn:n≠0):Weak ⟨Ao tl,Ak ol,g⟩ ⟨Ao ((s,.bool (!p)) :: tl),Ak ol,g⟩ :=
 Am4 s _ fun σ im w v h=>by
  rw [hs] at h;obtain ⟨b,e,hb⟩:=h;subst e;cases b <;> cases p <;> first | rfl | exact absurd (hb rfl) hn
end
section
open Go.RowKit Go.Deep
set_option maxRecDepth 4000
def M7:AC :=
 (.seq (.seq (rg [xo 4 (qm (tm 3)),xo 5 (qm (tm 0)),xo 6 (.i (.len (tm 5))),xo 7 (qb .lss (tm 4) (tm 6)),xo 8 (qm (tm 7)),⟨some 9,some (8,true),qm (tm 0)⟩,⟨some 10,some (8,true),qm (tm 3)⟩,⟨some 11,some (8,true),qx 1 (tm 9) (tm 10)⟩,⟨some 12,some (8,true),ql (tm 11)⟩,⟨some 13,some (8,true),qb .eql (tm 12) (ci 0)⟩,xo 14 (.i (.pick (tm 8) (tm 13) (cb false)))])
 (.cond (tm 14)
  .skip
  (.exit 0)))
 (.block 1 (rg [xo 15 (qm (tm 3)),xo 16 (qb .add (tm 15) (ci 1)),xo 3 (qm (tm 16))])))
def Rb:AC :=
 (.seq (rg [xo 2 (qm (ci 0))])
 (.seq (rg [xo 3 (qm (ci 0))])
 (.seq (.block 0 (.loop M7))
 (.seq (rg [xo 17 (qm (tm 3)),xo 2 (qm (tm 17))])
 .ret))))
def Ae1:List Res:=[.tmp 2]
theorem Afi:Am Tryz.prog Tryz.f89=some (Rb,Ae1):=by kernel_rfl
def Ev (a0:List Int) (l4_m3:Nat):Option (Ctl Nat Nat) :=
 Option.bind (cond (decide (((l4_m3:Nat):Int)<((a0.length:Nat):Int)))
  (Option.bind (a0[l4_m3]?) fun x8 =>
  some (x8==0))
  (some false)) fun l6_m14 =>
cond l6_m14
 (og (l4_m3+1<4611686018427387904) <|
 some (Ctl.next (l4_m3+1)))
 (some (Ctl.out l4_m3))
def Hi (a0:List Int):Option Int :=
 Option.bind (A4 (fun s_:Nat=>Ev a0 s_) 4611686018427387904 0) fun l3_m3 =>
some ((l3_m3:Nat):Int)
def Aac (r:Int):RV:=⟨false,[(false,[.sc (.int .i64 r)])]⟩
theorem Abj {a0:List Int} {r:Int} (h:Hi a0=some r):Ax Tryz.prog Tab 89 [.tree .int a0] (Aac r):=by
 refine Ar (by kernel_rfl) Tryz.func89 Afi (n:=18) (by kernel_rfl) (by simp) (tl:=[(0,.tree .int a0)]) rfl ?_;unfold Rb;unfold Hi at h;refine Aj ?_;refine Aj ?_;refine Aw h (fun (l3_m3:Nat) S_=>S_=⟨Ao [(3,ai ((l3_m3:Nat):Int))],Ak (Aq []),2⟩) ?_ ?_
 ·intro v_ h;refine Al ?_;refine A3 h (fun (l4_m3:Nat) S_=>S_=⟨Ao [(0,.tree .int a0),(3,ai ((l4_m3:Nat):Int))],Ak (Aq []),2⟩) ⟨_,Ac [],rfl⟩ ?_;rintro n_ l4_m3 _ c_ rfl h hn4
  (try dsimp only at h);unfold Ev at h;unfold M7;refine Ab ?_;refine Aw h (fun (l6_m14:Bool) S_=>S_=⟨Ao [(0,.tree .int a0),(3,ai ((l4_m3:Nat):Int)),(14,.bool l6_m14)],Ak (Aq []),2⟩) ?_ ?_
  ·intro v_ h;rcases Ad h with ⟨q7,h⟩ | ⟨q7,h⟩
   ·have q7_:=of_decide_eq_true q7;obtain ⟨x8,e8,h⟩:=Ae h;refine Aa 13 ?_;refine rz0 (ai ((l4_m3:Nat):Int)) ?_;refine rz0 (.tree .int a0) ?_;refine rz0 (ai ((a0.length:Nat):Int)) ?_;refine rz0 (.bool (decide (((l4_m3:Nat):Int)<((a0.length:Nat):Int)))) ?_;refine rz0 (.bool (decide (((l4_m3:Nat):Int)<((a0.length:Nat):Int)))) ?_;refine rs0 (.tree .int a0) (zg q7) ?_;refine rs0 (ai ((l4_m3:Nat):Int)) (zg q7) ?_;refine rs0 (.telt none .int x8 0) (Fv (by kernel_rfl) q7 (zi (t:=.int) (xs:=a0) (k:=.i64) (m:=((l4_m3:Nat):Int)) (Ay _) e8)) ?_;refine rs0 (ai x8) (zg q7) ?_;refine rs0 (.bool (x8==0)) (zg q7) ?_;refine rs0 (.bool (x8==0)) (zT q7) ?_;refine An (tn_ ?_);obtain rfl:=zj h;exact ⟨_,Ac [],rfl⟩
   have q7_:=of_decide_eq_false q7;refine Aa 13 ?_;refine rz0 (ai ((l4_m3:Nat):Int)) ?_;refine rz0 (.tree .int a0) ?_;refine rz0 (ai ((a0.length:Nat):Int)) ?_;refine rz0 (.bool (decide (((l4_m3:Nat):Int)<((a0.length:Nat):Int)))) ?_;refine rz0 (.bool (decide (((l4_m3:Nat):Int)<((a0.length:Nat):Int)))) ?_;refine zs q7 ?_;refine zs q7 ?_;refine zs q7 ?_;refine zs q7 ?_;refine zs q7 ?_;refine rs0 (.bool false) (zF q7) ?_;refine An (tn_ ?_);obtain rfl:=zj h;exact ⟨_,Ac [],rfl⟩
  rintro l6_m14 _ rfl h
  (try dsimp only at h);rcases Ad h with ⟨q9,h⟩ | ⟨q9,h⟩
  ·refine Af q9 ?_;refine Ai (tn_ ?_);refine wr_ ?_;refine Al ?_;obtain ⟨g10,h⟩:=Au h;refine Aa 5 ?_;refine rz0 (ai ((l4_m3:Nat):Int)) ?_;refine rs0 (ai ((l4_m3+1:Nat):Int)) (za g10) ?_;refine rsB 1 ?_;refine An (bn_ (tn_ ?_));obtain rfl:=zj h;exact ⟨l4_m3+1,_,Ac [],rfl,hn4⟩
  refine Ag q9 ?_;refine Az (te_ (te_ (be_ (tn_ ?_))));obtain rfl:=zj h;have h:=hn4
  (try dsimp only at h);obtain rfl:=zj h;exact ⟨_,Ac [],rfl⟩
 rintro l3_m3 _ rfl h
 (try dsimp only at h);refine Aj ?_;refine Ah ?_;obtain rfl:=zj h;exact A0 [ai ((l3_m3:Nat):Int)] (Ap rfl zl As)
def K2:AC :=
 (.seq (rg [xo 11 (qb .lss (tm 10) (tm 9))])
 (.seq (.cond (tm 11)
  .skip
  (.exit 0))
 (.seq (.block 1 (.seq (rg [xo 12 (qx 1 (tm 8) (tm 10)),xo 13 (ql (tm 12)),xo 7 (qm (tm 13))])
 (rg [xo 14 (qm (tm 5)),xo 15 (qm (tm 1)),xo 16 (qm (tm 7)),xo 17 (qc 89 [tm 16] [[some .int]]),xo 18 (qx 1 (tm 15) (tm 17)),xo 19 (ql (tm 18)),xo 20 (.mkS 3 .int [tm 19]),xo 21 (.append 3 .int 8 (tm 14) (tm 20)),xo 5 (qm (tm 21))])))
 (rg [xo 22 (qb .add (tm 10) (ci 1)),xo 10 (qm (tm 22))]))))
def On:AC :=
 (.seq (rg [xo 4 (qm (.cst .nils))])
 (.seq (rg [xo 5 (qm (.cst .nils))])
 (.seq (.seq (rg [xo 8 (qm (tm 0)),xo 9 (.i (.len (tm 8))),xo 10 (qm (ci 0))])
 (.block 0 (.loop K2)))
 (.seq (rg [xo 23 (qm (tm 5)),xo 4 (qm (tm 23))])
 .ret))))
def Yl:List Res:=[.tmp 4]
theorem Ym:Am Tryz.prog Tryz.f69=some (On,Yl):=by kernel_rfl
def Dg (a0:List (List Int)) (a1:List Int) (l5_m10:Nat) (l5_m5:List Int):Option (Ctl (Nat×List Int) (List Int)) :=
 cond (decide (((l5_m10:Nat):Int)<((a0.length:Nat):Int)))
 (Option.bind (a0[l5_m10]?) fun x11 =>
 Option.bind (Hi x11) fun y12 =>
 Option.bind (Fe a1 y12) fun x13 =>
 og (l5_m5.length+1<=1073741824∧(l5_m5.length+1)*8<=140737488355328) <|
 og (l5_m10+1<4611686018427387904) <|
 some (Ctl.next (l5_m10+1,l5_m5++([x13]))))
 (some (Ctl.out l5_m5))
def Fh (a0:List (List Int)) (a1:List Int):Option (List Int) :=
 Option.bind (A4 (fun s_:Nat×List Int=>Dg a0 a1 s_.1 s_.2) 4611686018427387904 (0,[])) fun l3_m5 =>
some l3_m5
def W2 (r:List Int):RV:=⟨false,[(false,[.new 3 .int r])]⟩
theorem W8 {a0:List (List Int)} {a1:List Int} {r:List Int} (h:Fh a0 a1=some r):Ax Tryz.prog Tab 69 [.tree (.slice .int) a0,.tree .int a1] (W2 r):=by
 refine Ar (by kernel_rfl) Tryz.func69 Ym (n:=24) (by kernel_rfl) (by simp) (tl:=[(0,.tree (.slice .int) a0),(1,.tree .int a1)]) rfl ?_;unfold On;unfold Fh at h;refine Aj ?_;refine Aj ?_;refine Aw h (fun (l3_m5:List Int) S_=>S_=⟨Ao [(5,.own (oi 0 1) .int 0 l3_m5.length)],Ak (Aq [(oi 0 1,.arr 3 .int l3_m5)]),2⟩) ?_ ?_
 ·intro v_ h;refine Aj ?_;refine Al ?_;refine A3 h (fun t_ S_=>∃ (l5_m10:Nat),∃ (l5_m5:List Int),t_=(l5_m10,l5_m5)∧S_=⟨Ao [(1,.tree .int a1),(5,.own (oi 0 1) .int 0 l5_m5.length),(8,.tree (.slice .int) a0),(9,ai ((a0.length:Nat):Int)),(10,ai ((l5_m10:Nat):Int))],Ak (Aq [(oi 0 1,.arr 3 .int l5_m5)]),2⟩) ⟨_,(Ao9 5 3 .int rfl (by kernel_rfl)).trans (Ac [(oi 0 1,oi 5 6)]),⟨0,[],rfl,rfl⟩⟩ ?_;rintro n_ _ _ c_ ⟨l5_m10,l5_m5,rfl,rfl⟩ h hn5
  (try dsimp only at h);unfold Dg at h;unfold K2;refine Aj ?_;refine Ab ?_;rcases Ad h with ⟨q8,h⟩ | ⟨q8,h⟩
  ·have q8_:=of_decide_eq_true q8;refine Af q8 ?_;refine Ai (tn_ ?_);refine wr_ ?_;refine Ab ?_;refine Al ?_;refine Ab ?_;obtain ⟨x11,e11,h⟩:=Ae h;refine Aa 6 ?_;refine rs0 (.telt none (.slice .int) x11 0) (zi (t:=.slice .int) (xs:=a0) (k:=.i64) (m:=((l5_m10:Nat):Int)) (Ay _) e11) ?_;refine rsB 2 ?_;refine An (tn_ ?_);refine wr_ ?_;obtain ⟨y12,h12,h⟩:=Ae h;obtain ⟨x13,f13,h⟩:=Ae h;obtain ⟨p13,b13,e13⟩:=Bd f13;obtain ⟨g14,h⟩:=Au h;refine Aa 15 ?_;refine rz0 (.own (oi 0 1) .int 0 l5_m5.length) ?_;refine rz0 (.tree .int a1) ?_;refine rz0 (.tree .int x11) ?_;refine zc (ai y12) [] [.tree .int x11] (Abj h12) ?_;refine rs0 (.telt none .int x13 0) (zi (t:=.int) (xs:=a1) (k:=.i64) (m:=y12) p13 e13) ?_;refine rz0 (ai x13) ?_;refine rs1 (.own (oi 20 12) .int 0 1) (oi 20 12) (.arr 3 .int ([x13])) (by kernel_rfl) ?_;refine rs2 (.own (oi 0 13) .int 0 ((l5_m5++([x13])).length)) (oi 0 1) (oi 0 13) (.arr 3 .int (l5_m5++([x13]))) (K8 (t:=.int) (t':=.int) (xs:=l5_m5) (ys:=[x13]) (zs:=l5_m5++([x13])) (j:=oi 0 1) (len:=l5_m5.length) (c:=.own (oi 20 12) .int 0 1) (by kernel_rfl) (by kernel_rfl) rfl (by kernel_rfl) (Mj (e:=3) (by kernel_rfl) rfl) rfl g14) ?_;refine rsB 1 ?_;refine An (bn_ (tn_ ?_));refine wr_ ?_;obtain ⟨g15,h⟩:=Au h;refine Aa 17 ?_;refine rs0 (ai ((l5_m10+1:Nat):Int)) (za g15) ?_;refine rsB 1 ?_;refine An (tn_ ?_);obtain rfl:=zj h;exact ⟨(l5_m10+1,l5_m5++([x13])),_,Ac [(oi 0 1,oi 0 13)],⟨l5_m10+1,l5_m5++([x13]),rfl,rfl⟩,hn5⟩
  have q8_:=of_decide_eq_false q8;refine Ag q8 ?_;refine Az (te_ (te_ (be_ (tn_ ?_))));obtain rfl:=zj h;have h:=hn5
  (try dsimp only at h);obtain rfl:=zj h;exact ⟨_,Ac [],rfl⟩
 rintro l3_m5 _ rfl h
 (try dsimp only at h);refine Aj ?_;refine Ah ?_;obtain rfl:=zj h;exact A0 [.own (oi 0 1) .int 0 l3_m5.length] (Ap rfl (Eb (by kernel_rfl) rfl) As)
def Ov:AC :=
 (.seq (rg [xo 26 (qb .lss (tm 25) (tm 24))])
 (.seq (.cond (tm 26)
  .skip
  (.exit 2))
 (.seq (.block 3 (.seq (rg [xo 27 (qm (tm 25)),xo 28 (qx 1 (tm 23) (tm 25)),xo 29 (ql (tm 28)),xo 12 (qm (tm 27)),xo 13 (qm (tm 29))])
 (.region [xo 30 (qm (tm 9)),xo 31 (qm (tm 12)),xo 32 (qm (tm 9)),xo 33 (qm (tm 12)),xo 34 (qx 1 (tm 32) (tm 33)),xo 35 (ql (tm 34)),xo 36 (qm (tm 3)),xo 37 (qm (tm 10)),xo 38 (qx 1 (tm 36) (tm 37)),xo 39 (ql (tm 38)),xo 40 (qm (tm 13)),xo 41 (qb .mul (tm 39) (tm 40)),xo 42 (qb .add (tm 35) (tm 41)),xo 43 (qm (tm 0)),xo 44 (qb .rem (tm 42) (tm 43)),xo 45 (qx 1 (tm 30) (tm 31)),xn (qs (tm 45) (tm 44))] true [])))
 (rg [xo 46 (qb .add (tm 25) (ci 1)),xo 25 (qm (tm 46))]))))
def Ow:AC :=
 (.seq (rg [xo 19 (qb .lss (tm 18) (tm 17))])
 (.seq (.cond (tm 19)
  .skip
  (.exit 0))
 (.seq (.block 1 (.seq (rg [xo 20 (qm (tm 18)),xo 21 (qx 1 (tm 16) (tm 18)),xo 22 (ql (tm 21)),xo 10 (qm (tm 20)),xo 11 (qm (tm 22))])
 (.seq (rg [xo 23 (qm (tm 11)),xo 24 (.i (.len (tm 23))),xo 25 (qm (ci 0))])
 (.block 2 (.loop Ov)))))
 (rg [xo 47 (qb .add (tm 18) (ci 1)),xo 18 (qm (tm 47))]))))
def V0:AC :=
 (.seq (rg [xo 8 (qm (.cst .nils))])
 (.seq (rg [xo 14 (qm (tm 1)),xo 15 (.make 3 .int 8 (tm 14) (tm 14)),xo 9 (qm (tm 15))])
 (.seq (.seq (rg [xo 16 (qm (tm 2)),xo 17 (.i (.len (tm 16))),xo 18 (qm (ci 0))])
 (.block 0 (.loop Ow)))
 (.seq (rg [xo 48 (qm (tm 9)),xo 8 (qm (tm 48))])
 .ret))))
def Aiu:List Res:=[.tmp 8]
theorem Aho:Am Tryz.prog Tryz.f68=some (V0,Aiu):=by kernel_rfl
theorem Afn:A5 Tryz.prog 68=true:=by kernel_rfl
def Fn (x12:List Int) (a3:List Int) (l6_m18:Nat) (a0:Int) (l14_m25:Nat) (l14_m9:List Int):Option (Ctl (Nat×List Int) (List Int)) :=
 cond (decide (((l14_m25:Nat):Int)<((x12.length:Nat):Int)))
 (Option.bind (x12[l14_m25]?) fun x20 =>
 Option.bind (l14_m9[l14_m25]?) fun x21 =>
 Option.bind (a3[l6_m18]?) fun x22 =>
 og (a0≠0) <|
 og (l14_m25+1<4611686018427387904) <|
 some (Ctl.next (l14_m25+1,l14_m9.set l14_m25 (Int.tmod (wI (x21+wI (x22*x20))) a0))))
 (some (Ctl.out l14_m9))
def Fi (a2:List (List Int)) (a3:List Int) (a0:Int) (l6_m18:Nat) (l6_m9:List Int):Option (Ctl (Nat×List Int) (List Int)) :=
 cond (decide (((l6_m18:Nat):Int)<((a2.length:Nat):Int)))
 (Option.bind (Option.bind (a2[l6_m18]?) fun x12 =>
  A4 (fun s_:Nat×List Int=>Fn x12 a3 l6_m18 a0 s_.1 s_.2) 4611686018427387904 (0,l6_m9)) fun l10_m9 =>
 og (l6_m18+1<4611686018427387904) <|
 some (Ctl.next (l6_m18+1,l10_m9)))
 (some (Ctl.out l6_m9))
def Ie (a0:Int) (a1:Int) (a2:List (List Int)) (a3:List Int):Option (List Int) :=
 og (0<=a1∧a1<=a1∧a1<=1073741824∧(8:Int)*a1<=140737488355328) <|
Option.bind (A4 (fun s_:Nat×List Int=>Fi a2 a3 a0 s_.1 s_.2) 4611686018427387904 (0,List.replicate a1.toNat (0:Int))) fun l4_m9 =>
some l4_m9
def Aeu (r:List Int):RV:=⟨false,[(false,[.new 3 .int r])]⟩
theorem Adx {a0:Int} {a1:Int} {a2:List (List Int)} {a3:List Int} {r:List Int} (h:Ie a0 a1 a2 a3=some r):Ax Tryz.prog Tab 68 [ai a0,ai a1,.tree (.slice .int) a2,.tree .int a3] (Aeu r):=by
 refine Ar (by kernel_rfl) Tryz.func68 Aho (n:=49) (by kernel_rfl) (by simp) (tl:=[(0,ai a0),(1,ai a1),(2,.tree (.slice .int) a2),(3,.tree .int a3)]) rfl ?_;unfold V0;unfold Ie at h;refine Aj ?_;refine Ab ?_;obtain ⟨g3,h⟩:=Au h;refine Aa 5 ?_;refine rz0 (ai a1) ?_;refine rs1 (.own (oi 15 3) .int 0 a1.toNat) (oi 15 3) (.arr 3 .int (List.replicate a1.toNat (0:Int))) (Alx (t:=.int) (k:=.i64) (k':=.i64) (m:=a1) (m':=a1) (by kernel_rfl) (by kernel_rfl) g3 rfl) ?_;refine rsB 1 ?_;refine An (tn_ ?_);refine wr_ ?_;refine Aw h (fun (l4_m9:List Int) S_=>S_=⟨Ao [(9,.own (oi 0 1) .int 0 l4_m9.length)],Ak (Aq [(oi 0 1,.arr 3 .int l4_m9)]),2⟩) ?_ ?_
 ·intro v_ h;refine Aj ?_;refine Al ?_;refine A3 h (fun t_ S_=>∃ (l6_m18:Nat),∃ (l6_m9:List Int),t_=(l6_m18,l6_m9)∧S_=⟨Ao [(0,ai a0),(3,.tree .int a3),(9,.own (oi 0 1) .int 0 l6_m9.length),(16,.tree (.slice .int) a2),(17,ai ((a2.length:Nat):Int)),(18,ai ((l6_m18:Nat):Int))],Ak (Aq [(oi 0 1,.arr 3 .int l6_m9)]),2⟩) ⟨_,(B2 9 (.own (oi 15 3) .int 0 a1.toNat) (.own (oi 15 3) .int 0 ((List.replicate a1.toNat (0:Int)).length)) (by kernel_rfl) (congrArg (fun z_=>((.own (oi 15 3) .int 0 z_):AV)) (List.length_replicate.symm:a1.toNat=(List.replicate a1.toNat (0:Int)).length))).trans (Ac [(oi 0 1,oi 15 3)]),⟨0,List.replicate a1.toNat (0:Int),rfl,rfl⟩⟩ ?_;rintro n_ _ _ c_ ⟨l6_m18,l6_m9,rfl,rfl⟩ h hn6
  (try dsimp only at h);unfold Fi at h;unfold Ow;refine Aj ?_;refine Ab ?_;rcases Ad h with ⟨q9,h⟩ | ⟨q9,h⟩
  ·have q9_:=of_decide_eq_true q9;refine Af q9 ?_;refine Ai (tn_ ?_);refine wr_ ?_;refine Aw h (fun (l10_m9:List Int) S_=>S_=⟨Ao [(0,ai a0),(3,.tree .int a3),(9,.own (oi 0 1) .int 0 l10_m9.length),(16,.tree (.slice .int) a2),(17,ai ((a2.length:Nat):Int)),(18,ai ((l6_m18:Nat):Int))],Ak (Aq [(oi 0 1,.arr 3 .int l10_m9)]),2⟩) ?_ ?_
   ·intro v_ h;refine Al ?_;refine Ab ?_;obtain ⟨x12,e12,h⟩:=Ae h;refine Aa 8 ?_;refine rz0 (ai ((l6_m18:Nat):Int)) ?_;refine rs0 (.telt none (.slice .int) x12 0) (zi (t:=.slice .int) (xs:=a2) (k:=.i64) (m:=((l6_m18:Nat):Int)) (Ay _) e12) ?_;refine rsB 3 ?_;refine An (tn_ ?_);refine wr_ ?_;refine Aj ?_;refine Al ?_;refine A3 h (fun t_ S_=>∃ (l14_m25:Nat),∃ (l14_m9:List Int),t_=(l14_m25,l14_m9)∧S_=⟨Ao [(0,ai a0),(3,.tree .int a3),(9,.own (oi 0 1) .int 0 l14_m9.length),(10,ai ((l6_m18:Nat):Int)),(16,.tree (.slice .int) a2),(17,ai ((a2.length:Nat):Int)),(18,ai ((l6_m18:Nat):Int)),(23,.tree .int x12),(24,ai ((x12.length:Nat):Int)),(25,ai ((l14_m25:Nat):Int))],Ak (Aq [(oi 0 1,.arr 3 .int l14_m9)]),2⟩) ⟨_,Ac [],⟨0,l6_m9,rfl,rfl⟩⟩ ?_;rintro n_ _ _ c_ ⟨l14_m25,l14_m9,rfl,rfl⟩ h hn14
    (try dsimp only at h);unfold Fn at h;unfold Ov;refine Aj ?_;refine Ab ?_;rcases Ad h with ⟨q17,h⟩ | ⟨q17,h⟩
    ·have q17_:=of_decide_eq_true q17;refine Af q17 ?_;refine Ai (tn_ ?_);refine wr_ ?_;refine Ab ?_;refine Al ?_;refine Ab ?_;obtain ⟨x20,e20,h⟩:=Ae h;refine Aa 8 ?_;refine rz0 (ai ((l14_m25:Nat):Int)) ?_;refine rs0 (.telt none .int x20 0) (zi (t:=.int) (xs:=x12) (k:=.i64) (m:=((l14_m25:Nat):Int)) (Ay _) e20) ?_;refine rsB 3 ?_;refine An (tn_ ?_);refine wr_ ?_;obtain ⟨x21,e21,h⟩:=Ae h;obtain ⟨x22,e22,h⟩:=Ae h;obtain ⟨g23,h⟩:=Au h;refine A1 25 ?_;refine dz0 (.own (oi 0 1) .int 0 l14_m9.length) ?_;refine dz0 (ai ((l14_m25:Nat):Int)) ?_;refine dz0 (.own (oi 0 1) .int 0 l14_m9.length) ?_;refine dz0 (ai ((l14_m25:Nat):Int)) ?_;refine ds0 (.elt (oi 0 1) l14_m25 0) (zo (t:=.int) (o:=oi 0 1) (len:=l14_m9.length) (k:=.i64) (m:=((l14_m25:Nat):Int)) (Ay _) (Av e21)) ?_;refine dsl (ai x21) (C0 (i:=oi 0 1) (j:=l14_m25) (k:=0) (e:=3) (t:=.int) (xs:=l14_m9) (by kernel_rfl) (by kernel_rfl) e21 (by kernel_rfl)) ?_;refine dz0 (.tree .int a3) ?_;refine dz0 (ai ((l6_m18:Nat):Int)) ?_;refine ds0 (.telt none .int x22 0) (zi (t:=.int) (xs:=a3) (k:=.i64) (m:=((l6_m18:Nat):Int)) (Ay _) e22) ?_;refine dz0 (ai x22) ?_;refine dz0 (ai x20) ?_;refine dz0 (ai (wI (x22*x20))) ?_;refine dz0 (ai (wI (x21+wI (x22*x20)))) ?_;refine dz0 (ai a0) ?_;refine ds0 (ai (Int.tmod (wI (x21+wI (x22*x20))) a0)) (Pz (k:=.i64) (a:=wI (x21+wI (x22*x20))) (b:=a0) (by kernel_rfl) (by kernel_rfl) g23) ?_;refine ds0 (.elt (oi 0 1) l14_m25 0) (zo (t:=.int) (o:=oi 0 1) (len:=l14_m9.length) (k:=.i64) (m:=((l14_m25:Nat):Int)) (Ay _) (Av e21)) ?_;refine Y0 (oi 0 1) (oi 0 1) (.arr 3 .int (l14_m9.set l14_m25 (Int.tmod (wI (x21+wI (x22*x20))) a0))) (Adb (i:=oi 0 1) (j:=l14_m25) (k:=0) (e:=3) (t:=.int) (xs:=l14_m9) (cs:=[ai (Int.tmod (wI (x21+wI (x22*x20))) a0)]) (x1:=Int.tmod (wI (x21+wI (x22*x20))) a0) (by kernel_rfl) (by kernel_rfl) e21 (by kernel_rfl) (by kernel_rfl)) ?_;refine F2 (Bc (by kernel_rfl)) (bn_ (tn_ ?_));refine wr_ ?_;obtain ⟨g24,h⟩:=Au h;refine Aa 27 ?_;refine rs0 (ai ((l14_m25+1:Nat):Int)) (za g24) ?_;refine rsB 1 ?_;refine An (tn_ ?_);obtain rfl:=zj h;exact ⟨(l14_m25+1,l14_m9.set l14_m25 (Int.tmod (wI (x21+wI (x22*x20))) a0)),_,(B2 9 (.own (oi 0 1) .int 0 l14_m9.length) (.own (oi 0 1) .int 0 ((l14_m9.set l14_m25 (Int.tmod (wI (x21+wI (x22*x20))) a0)).length)) (by kernel_rfl) (congrArg (fun z_=>((.own (oi 0 1) .int 0 z_):AV)) (((rfl:l14_m9.length=l14_m9.length).trans List.length_set.symm):l14_m9.length=(l14_m9.set l14_m25 (Int.tmod (wI (x21+wI (x22*x20))) a0)).length))).trans (Ac []),⟨l14_m25+1,l14_m9.set l14_m25 (Int.tmod (wI (x21+wI (x22*x20))) a0),rfl,rfl⟩,hn14⟩
    have q17_:=of_decide_eq_false q17;refine Ag q17 ?_;refine Az (te_ (te_ (be_ (bn_ (tn_ ?_)))));obtain rfl:=zj h;have h:=hn14
    (try dsimp only at h);obtain rfl:=zj h;exact ⟨_,Ac [],rfl⟩
   rintro l10_m9 _ rfl h
   (try dsimp only at h);obtain ⟨g25,h⟩:=Au h;refine Aa 4 ?_;refine rs0 (ai ((l6_m18+1:Nat):Int)) (za g25) ?_;refine rsB 1 ?_;refine An (tn_ ?_);obtain rfl:=zj h;exact ⟨(l6_m18+1,l10_m9),_,Ac [],⟨l6_m18+1,l10_m9,rfl,rfl⟩,hn6⟩
  have q9_:=of_decide_eq_false q9;refine Ag q9 ?_;refine Az (te_ (te_ (be_ (tn_ ?_))));obtain rfl:=zj h;have h:=hn6
  (try dsimp only at h);obtain rfl:=zj h;exact ⟨_,Ac [],rfl⟩
 rintro l4_m9 _ rfl h
 (try dsimp only at h);refine Aj ?_;refine Ah ?_;obtain rfl:=zj h;exact A0 [.own (oi 0 1) .int 0 l4_m9.length] (Ap rfl (Eb (by kernel_rfl) rfl) As)
def Uy:AC :=
 (.seq (rg [xo 6 (qm (cb false))])
 (.seq (rg [xo 7 (qm (tm 0)),xo 8 (qm (tm 2)),xo 9 (.i (.len (tm 8))),xo 10 (qm (tm 1)),xo 11 (qm (tm 1)),xo 12 (qm (tm 2)),xo 13 (qc 69 [tm 11,tm 12] [[some (.slice .int)],[some .int]]),xo 14 (qc 68 [tm 7,tm 9,tm 10,tm 13] [[],[],[some (.slice .int)],[some .int]]),xo 15 (qm (tm 2)),xo 16 (qc 67 [tm 14,tm 15] [[some .int],[some .int]]),xo 6 (qm (tm 16))])
 .ret))
def Ah0:List Res:=[.tmp 6]
theorem Ait:Am Tryz.prog Tryz.f46=some (Uy,Ah0):=by kernel_rfl
def Ia (a0:Int) (a1:List (List Int)) (a2:List Int):Option Bool :=
 Option.bind (Fh a1 a2) fun y3 =>
Option.bind (Ie a0 ((a2.length:Nat):Int) a1 y3) fun y4 =>
Option.bind (Fr y4 a2) fun y5 =>
some y5
def Aer (r:Bool):RV:=⟨false,[(false,[.sc (.bool r)])]⟩
theorem Aew {a0:Int} {a1:List (List Int)} {a2:List Int} {r:Bool} (h:Ia a0 a1 a2=some r):Ax Tryz.prog Tab 46 [ai a0,.tree (.slice .int) a1,.tree .int a2] (Aer r):=by
 refine Ar (by kernel_rfl) Tryz.func46 Ait (n:=17) (by kernel_rfl) (by simp) (tl:=[(0,ai a0),(1,.tree (.slice .int) a1),(2,.tree .int a2)]) rfl ?_;unfold Uy;unfold Ia at h;refine Aj ?_;refine Ab ?_;obtain ⟨y3,h3,h⟩:=Ae h;obtain ⟨y4,h4,h⟩:=Ae h;obtain ⟨y5,h5,h⟩:=Ae h;refine Aa 13 ?_;refine rz0 (ai a0) ?_;refine rz0 (.tree .int a2) ?_;refine rz0 (ai ((a2.length:Nat):Int)) ?_;refine rz0 (.tree (.slice .int) a1) ?_;refine rz0 (.tree (.slice .int) a1) ?_;refine rz0 (.tree .int a2) ?_;refine zc (.own (oi 208 8) .int 0 y3.length) [(oi 208 8,some (.arr 3 .int y3))] [.tree (.slice .int) a1,.tree .int a2] (W8 h3) ?_;refine Bs (.own (oi 224 9) .int 0 y4.length) [(oi 224 9,some (.arr 3 .int y4))] [ai a0,ai ((a2.length:Nat):Int),.tree (.slice .int) a1,.own (oi 208 8) .int 0 y3.length] _ (caps:=[]) (args0:=[ai a0,ai ((a2.length:Nat):Int),.tree (.slice .int) a1,.tree .int y3]) trivial (Hy (by kernel_rfl) (Hy (by kernel_rfl) (Hy (by kernel_rfl) (Hy (Th (e:=3) (by kernel_rfl) rfl) Xi)))) (Adx h4) Afn ?_;refine rz0 (.tree .int a2) ?_;refine Bs (.bool y5) [] [.own (oi 224 9) .int 0 y4.length,.tree .int a2] _ (caps:=[]) (args0:=[.tree .int y4,.tree .int a2]) trivial (Hy (Th (e:=3) (by kernel_rfl) rfl) (Hy (by kernel_rfl) Xi)) (Pa h5) Pn ?_;refine rsB 1 ?_;refine An (tn_ ?_);refine wr_ ?_;refine Ah ?_;obtain rfl:=zj h;exact A0 [.bool y5] (Ap rfl zl As)
def Jb:AC :=
 (.seq (rg [xo 13 (qb .lss (tm 12) (tm 11))])
 (.seq (.cond (tm 13)
  .skip
  (.exit 0))
 (.seq (.block 1 (.seq (rg [xo 14 (qx 1 (tm 10) (tm 12)),xo 15 (ql (tm 14)),xo 8 (qm (tm 15))])
 (.seq (rg [xo 16 (qm (tm 0)),xo 17 (qf 2 (tm 4)),xo 18 (ql (tm 17)),xo 19 (qm (tm 8)),xo 20 (qc 46 [tm 16,tm 18,tm 19] [[],[some (.slice .int)],[some .int]]),xo 21 (.i (.not (tm 20)))])
 (.cond (tm 21)
  (.seq (rg [xo 6 (qm (cb false))])
  .ret)
  .skip))))
 (rg [xo 22 (qb .add (tm 12) (ci 1)),xo 12 (qm (tm 22))]))))
def L5:AC :=
 (.seq (rg [xo 4 (.i (.box 36 (tm 1))),xo 5 (.i (.box 36 (tm 2))),xo 6 (qm (cb false))])
 (.seq (.seq (rg [xo 9 (qf 2 (tm 5)),xo 10 (ql (tm 9)),xo 11 (.i (.len (tm 10))),xo 12 (qm (ci 0))])
 (.block 0 (.loop Jb)))
 (.seq (rg [xo 6 (qm (cb true))])
 .ret)))
def Wf:List Res:=[.tmp 6]
theorem Up:Am Tryz.prog Tryz.f26=some (L5,Wf):=by kernel_rfl
theorem Tl:A5 Tryz.prog 26=true:=by kernel_rfl
def Cs (a2_2:List (List Int)) (a0:Int) (a1_2:List (List Int)) (l4_m12:Nat):Option (Ctl Nat (Ctl Unit Bool)) :=
 cond (decide (((l4_m12:Nat):Int)<((a2_2.length:Nat):Int)))
 (Option.bind (a2_2[l4_m12]?) fun x10 =>
 Option.bind (Ia a0 a1_2 x10) fun y12 =>
 cond (!y12)
  (some (Ctl.out (Ctl.out false)))
  (og (l4_m12+1<4611686018427387904) <|
  some (Ctl.next (l4_m12+1))))
 (some (Ctl.out (Ctl.next ())))
def D6 (a0:Int) (a1_0:Int) (a1_1:Int) (a1_2:List (List Int)) (a2_0:Int) (a2_1:Int) (a2_2:List (List Int)):Option Bool :=
 Do (A4 (fun s_:Nat=>Cs a2_2 a0 a1_2 s_) 4611686018427387904 0) fun _ =>
some true
def Tm (r:Bool):RV:=⟨false,[(false,[.sc (.bool r)])]⟩
theorem Tj {a0:Int} {a1_0:Int} {a1_1:Int} {a1_2:List (List Int)} {a2_0:Int} {a2_1:Int} {a2_2:List (List Int)} {r:Bool} (h:D6 a0 a1_0 a1_1 a1_2 a2_0 a2_1 a2_2=some r):Ax Tryz.prog Tab 26 [ai a0,.agg [ai a1_0,ai a1_1,.tree (.slice .int) a1_2],.agg [ai a2_0,ai a2_1,.tree (.slice .int) a2_2]] (Tm r):=by
 refine Ar (by kernel_rfl) Tryz.func26 Up (n:=23) (by kernel_rfl) (by simp) (tl:=[(0,ai a0),(1,.agg [ai a1_0,ai a1_1,.tree (.slice .int) a1_2]),(2,.agg [ai a2_0,ai a2_1,.tree (.slice .int) a2_2])]) rfl ?_;unfold L5;unfold D6 at h;refine Aj ?_;refine Bh h (fun (_:Unit) S_=>S_=⟨Ao [],Ak (Aq []),2⟩) ?_ ?_
 ·intro v_ h hk2;refine Aj ?_;refine Al ?_;refine A3 h (fun (l4_m12:Nat) S_=>S_=⟨Ao [(0,ai a0),(4,.box (oi 0 1) 0),(10,.tree (.slice .int) a2_2),(11,ai ((a2_2.length:Nat):Int)),(12,ai ((l4_m12:Nat):Int))],Ak (Aq [(oi 0 1,.cells 36 [ai a1_0,ai a1_1,.tree (.slice .int) a1_2])]),2⟩) ⟨_,Ac [(oi 0 1,oi 4 1)],rfl⟩ ?_;rintro n_ l4_m12 _ c_ rfl h hn4
  (try dsimp only at h);unfold Cs at h;unfold Jb;refine Aj ?_;refine Ab ?_;rcases Ad h with ⟨q7,h⟩ | ⟨q7,h⟩
  ·have q7_:=of_decide_eq_true q7;refine Af q7 ?_;refine Ai (tn_ ?_);refine wr_ ?_;refine Ab ?_;refine Al ?_;refine Ab ?_;obtain ⟨x10,e10,h⟩:=Ae h;refine Aa 6 ?_;refine rs0 (.telt none (.slice .int) x10 0) (zi (t:=.slice .int) (xs:=a2_2) (k:=.i64) (m:=((l4_m12:Nat):Int)) (Ay _) e10) ?_;refine rsB 2 ?_;refine An (tn_ ?_);refine wr_ ?_;refine Ab ?_;obtain ⟨y12,h12,h⟩:=Ae h;refine Aa 12 ?_;refine rz0 (ai a0) ?_;refine rz0 (.box (oi 0 1) 2) ?_;refine rzl (.tree (.slice .int) a1_2) ?_;refine rz0 (.tree .int x10) ?_;refine zc (.bool y12) [] [ai a0,.tree (.slice .int) a1_2,.tree .int x10] (Aew h12) ?_;refine rsB 1 ?_;refine An (tn_ ?_);refine wr_ ?_;rcases Ad h with ⟨q13,h⟩ | ⟨q13,h⟩
   ·refine Af q13 ?_;refine Aj ?_;refine Ah (br_ (tr_ (tr_ (br_ (tr_ ?_)))));obtain rfl:=zj h;have h:=hn4
    (try dsimp only at h);obtain rfl:=zj h;have h:=hk2
    (try dsimp only at h);obtain rfl:=zj h;exact A0 [.bool false] (Ap rfl zl As)
   refine Ag q13 ?_;refine Ai (bn_ (tn_ ?_));refine wr_ ?_;obtain ⟨g15,h⟩:=Au h;refine Aa 14 ?_;refine rs0 (ai ((l4_m12+1:Nat):Int)) (za g15) ?_;refine rsB 1 ?_;refine An (tn_ ?_);obtain rfl:=zj h;exact ⟨l4_m12+1,_,Ac [],rfl,hn4⟩
  have q7_:=of_decide_eq_false q7;refine Ag q7 ?_;refine Az (te_ (te_ (be_ (tn_ ?_))));obtain rfl:=zj h;have h:=hn4
  (try dsimp only at h);obtain rfl:=zj h;exact ⟨(),_,rfl,Ac [],rfl⟩
 rintro _ _ rfl h
 (try dsimp only at h);refine Aj ?_;refine Ah ?_;obtain rfl:=zj h;exact A0 [.bool true] (Ap rfl zl As)
def U4:AC :=
 (.seq (rg [xo 4 (.i (.box 38 (tm 1))),xo 5 (.i (.box 38 (tm 2))),xo 6 (qm (cb false))])
 (.seq (rg [xo 7 (qf 0 (tm 4)),xo 8 (ql (tm 7)),xo 9 (qf 0 (tm 5)),xo 10 (ql (tm 9)),xo 11 (qb .eql (tm 8) (tm 10)),xo 12 (qm (tm 11)),⟨some 13,some (12,true),qf 2 (tm 4)⟩,⟨some 14,some (12,true),qf 0 (tm 13)⟩,⟨some 15,some (12,true),ql (tm 14)⟩,⟨some 16,some (12,true),qf 2 (tm 5)⟩,⟨some 17,some (12,true),qf 0 (tm 16)⟩,⟨some 18,some (12,true),ql (tm 17)⟩,⟨some 19,some (12,true),qb .eql (tm 15) (tm 18)⟩,xo 20 (.i (.pick (tm 12) (tm 19) (cb false))),xo 21 (qm (tm 20)),⟨some 22,some (21,true),qf 2 (tm 4)⟩,⟨some 23,some (21,true),qf 1 (tm 22)⟩,⟨some 24,some (21,true),ql (tm 23)⟩,⟨some 25,some (21,true),qf 2 (tm 5)⟩,⟨some 26,some (21,true),qf 1 (tm 25)⟩,⟨some 27,some (21,true),ql (tm 26)⟩,⟨some 28,some (21,true),qb .eql (tm 24) (tm 27)⟩,xo 29 (.i (.pick (tm 21) (tm 28) (cb false))),xo 30 (qm (tm 29)),⟨some 31,some (30,true),qm (tm 0)⟩,⟨some 32,some (30,true),qf 2 (tm 4)⟩,⟨some 33,some (30,true),.i (.ld false 3 (tm 32))⟩,⟨some 34,some (30,true),qf 2 (tm 5)⟩,⟨some 35,some (30,true),.i (.ld false 3 (tm 34))⟩,⟨some 36,some (30,true),qc 26 [tm 31,tm 33,tm 35] [[],[none,none,some (.slice .int)],[none,none,some (.slice .int)]]⟩,xo 37 (.i (.pick (tm 30) (tm 36) (cb false))),xo 6 (qm (tm 37))])
 .ret))
def Ah3:List Res:=[.tmp 6]
theorem Aiz:Am Tryz.prog Tryz.f12=some (U4,Ah3):=by kernel_rfl
def H5 (a0:Int) (a1_0:ByteArray) (a1_1:List (Int×Int×ByteArray)) (a1_2:Int) (a1_3:Int) (a1_4:List (List Int)) (a2_0:ByteArray) (a2_1:List (Int×Int×ByteArray)) (a2_2:Int) (a2_3:Int) (a2_4:List (List Int)):Option Bool :=
 Option.bind (cond (a1_0.toList==a2_0.toList)
  (cond (a1_2==a2_2)
   (cond (a1_3==a2_3)
    (Option.bind (D6 a0 a1_2 a1_3 a1_4 a2_2 a2_3 a2_4) fun y6 =>
    some y6)
    (some false))
   (some false))
  (some false)) fun l2_m6 =>
some l2_m6
def Aey (r:Bool):RV:=⟨false,[(false,[.sc (.bool r)])]⟩
theorem Ad9 {a0:Int} {a1_0:ByteArray} {a1_1:List (Int×Int×ByteArray)} {a1_2:Int} {a1_3:Int} {a1_4:List (List Int)} {a2_0:ByteArray} {a2_1:List (Int×Int×ByteArray)} {a2_2:Int} {a2_3:Int} {a2_4:List (List Int)} {r:Bool} (h:H5 a0 a1_0 a1_1 a1_2 a1_3 a1_4 a2_0 a2_1 a2_2 a2_3 a2_4=some r):Ax Tryz.prog Tab 12 [ai a0,.agg [.str a1_0,.tree (.pair .int (.pair .int .str)) a1_1,ai a1_2,ai a1_3,.tree (.slice .int) a1_4],.agg [.str a2_0,.tree (.pair .int (.pair .int .str)) a2_1,ai a2_2,ai a2_3,.tree (.slice .int) a2_4]] (Aey r):=by
 refine Ar (by kernel_rfl) Tryz.func12 Aiz (n:=38) (by kernel_rfl) (by simp) (tl:=[(0,ai a0),(1,.agg [.str a1_0,.tree (.pair .int (.pair .int .str)) a1_1,ai a1_2,ai a1_3,.tree (.slice .int) a1_4]),(2,.agg [.str a2_0,.tree (.pair .int (.pair .int .str)) a2_1,ai a2_2,ai a2_3,.tree (.slice .int) a2_4])]) rfl ?_;unfold U4;unfold H5 at h;refine Aj ?_;refine Aw h (fun (l2_m6:Bool) S_=>S_=⟨Ao [(6,.bool l2_m6)],Ak (Aq []),2⟩) ?_ ?_
 ·intro v_ h;rcases Ad h with ⟨q3,h⟩ | ⟨q3,h⟩
  ·rcases Ad h with ⟨q4,h⟩ | ⟨q4,h⟩
   ·rcases Ad h with ⟨q5,h⟩ | ⟨q5,h⟩
    ·obtain ⟨y6,h6,h⟩:=Ae h;refine Aa 36 ?_;refine rz0 (.box (oi 4 1) 0) ?_;refine rzl (.str a1_0) ?_;refine rz0 (.box (oi 5 2) 0) ?_;refine rzl (.str a2_0) ?_;refine rz0 (.bool (a1_0.toList==a2_0.toList)) ?_;refine rz0 (.bool (a1_0.toList==a2_0.toList)) ?_;refine rs0 (.box (oi 4 1) 2) (zg q3) ?_;refine rs0 (.box (oi 4 1) 2) (zg q3) ?_;refine rsl (ai a1_2) (zg q3) ?_;refine rs0 (.box (oi 5 2) 2) (zg q3) ?_;refine rs0 (.box (oi 5 2) 2) (zg q3) ?_;refine rsl (ai a2_2) (zg q3) ?_;refine rs0 (.bool (a1_2==a2_2)) (zg q3) ?_;refine rs0 (.bool (a1_2==a2_2)) (zT q3) ?_;refine rz0 (.bool (a1_2==a2_2)) ?_;refine rs0 (.box (oi 4 1) 2) (zg q4) ?_;refine rs0 (.box (oi 4 1) 3) (zg q4) ?_;refine rsl (ai a1_3) (zg q4) ?_;refine rs0 (.box (oi 5 2) 2) (zg q4) ?_;refine rs0 (.box (oi 5 2) 3) (zg q4) ?_;refine rsl (ai a2_3) (zg q4) ?_;refine rs0 (.bool (a1_3==a2_3)) (zg q4) ?_;refine rs0 (.bool (a1_3==a2_3)) (zT q4) ?_;refine rz0 (.bool (a1_3==a2_3)) ?_;refine rs0 (ai a0) (zg q5) ?_;refine rs0 (.box (oi 4 1) 2) (zg q5) ?_;refine rsl (.agg [ai a1_2,ai a1_3,.tree (.slice .int) a1_4]) (zg q5) ?_;refine rs0 (.box (oi 5 2) 2) (zg q5) ?_;refine rsl (.agg [ai a2_2,ai a2_3,.tree (.slice .int) a2_4]) (zg q5) ?_;refine Bs (.bool y6) [] [ai a0,.agg [ai a1_2,ai a1_3,.tree (.slice .int) a1_4],.agg [ai a2_2,ai a2_3,.tree (.slice .int) a2_4]] _ (caps:=[]) (args0:=[ai a0,.agg [ai a1_2,ai a1_3,.tree (.slice .int) a1_4],.agg [ai a2_2,ai a2_3,.tree (.slice .int) a2_4]]) (Bf (by kernel_rfl) q5) (by kernel_rfl) (Tj h6) Tl ?_;refine rs0 (.bool y6) (zT q5) ?_;refine rsB 1 ?_;refine An (tn_ ?_);obtain rfl:=zj h;exact ⟨_,Ac [],rfl⟩
    refine Aa 36 ?_;refine rz0 (.box (oi 4 1) 0) ?_;refine rzl (.str a1_0) ?_;refine rz0 (.box (oi 5 2) 0) ?_;refine rzl (.str a2_0) ?_;refine rz0 (.bool (a1_0.toList==a2_0.toList)) ?_;refine rz0 (.bool (a1_0.toList==a2_0.toList)) ?_;refine rs0 (.box (oi 4 1) 2) (zg q3) ?_;refine rs0 (.box (oi 4 1) 2) (zg q3) ?_;refine rsl (ai a1_2) (zg q3) ?_;refine rs0 (.box (oi 5 2) 2) (zg q3) ?_;refine rs0 (.box (oi 5 2) 2) (zg q3) ?_;refine rsl (ai a2_2) (zg q3) ?_;refine rs0 (.bool (a1_2==a2_2)) (zg q3) ?_;refine rs0 (.bool (a1_2==a2_2)) (zT q3) ?_;refine rz0 (.bool (a1_2==a2_2)) ?_;refine rs0 (.box (oi 4 1) 2) (zg q4) ?_;refine rs0 (.box (oi 4 1) 3) (zg q4) ?_;refine rsl (ai a1_3) (zg q4) ?_;refine rs0 (.box (oi 5 2) 2) (zg q4) ?_;refine rs0 (.box (oi 5 2) 3) (zg q4) ?_;refine rsl (ai a2_3) (zg q4) ?_;refine rs0 (.bool (a1_3==a2_3)) (zg q4) ?_;refine rs0 (.bool (a1_3==a2_3)) (zT q4) ?_;refine rz0 (.bool (a1_3==a2_3)) ?_;refine zs q5 ?_;refine zs q5 ?_;refine zs q5 ?_;refine zs q5 ?_;refine zs q5 ?_;refine zs q5 ?_;refine rs0 (.bool false) (zF q5) ?_;refine rsB 1 ?_;refine An (tn_ ?_);obtain rfl:=zj h;exact ⟨_,Ac [],rfl⟩
   refine Aa 36 ?_;refine rz0 (.box (oi 4 1) 0) ?_;refine rzl (.str a1_0) ?_;refine rz0 (.box (oi 5 2) 0) ?_;refine rzl (.str a2_0) ?_;refine rz0 (.bool (a1_0.toList==a2_0.toList)) ?_;refine rz0 (.bool (a1_0.toList==a2_0.toList)) ?_;refine rs0 (.box (oi 4 1) 2) (zg q3) ?_;refine rs0 (.box (oi 4 1) 2) (zg q3) ?_;refine rsl (ai a1_2) (zg q3) ?_;refine rs0 (.box (oi 5 2) 2) (zg q3) ?_;refine rs0 (.box (oi 5 2) 2) (zg q3) ?_;refine rsl (ai a2_2) (zg q3) ?_;refine rs0 (.bool (a1_2==a2_2)) (zg q3) ?_;refine rs0 (.bool (a1_2==a2_2)) (zT q3) ?_;refine rz0 (.bool (a1_2==a2_2)) ?_;refine zs q4 ?_;refine zs q4 ?_;refine zs q4 ?_;refine zs q4 ?_;refine zs q4 ?_;refine zs q4 ?_;refine zs q4 ?_;refine rs0 (.bool false) (zF q4) ?_;refine rsB 9 ?_;refine An (tn_ ?_);obtain rfl:=zj h;exact ⟨_,Ac [],rfl⟩
  refine Aa 36 ?_;refine rz0 (.box (oi 4 1) 0) ?_;refine rzl (.str a1_0) ?_;refine rz0 (.box (oi 5 2) 0) ?_;refine rzl (.str a2_0) ?_;refine rz0 (.bool (a1_0.toList==a2_0.toList)) ?_;refine rz0 (.bool (a1_0.toList==a2_0.toList)) ?_;refine zs q3 ?_;refine zs q3 ?_;refine zs q3 ?_;refine zs q3 ?_;refine zs q3 ?_;refine zs q3 ?_;refine zs q3 ?_;refine rs0 (.bool false) (zF q3) ?_;refine rsB 18 ?_;refine An (tn_ ?_);obtain rfl:=zj h;exact ⟨_,Ac [],rfl⟩
 rintro l2_m6 _ rfl h
 (try dsimp only at h);refine Ah ?_;obtain rfl:=zj h;exact A0 [.bool l2_m6] (Ap rfl zl As)
def Ln:AC :=
 (.seq (rg [xo 4 (.i (.box 38 (tm 1))),xo 5 (.i (.box 38 (tm 2))),xo 6 (qm (cb false)),xo 7 (qm (cb false))])
 (.seq (.seq (rg [xo 8 (qm (tm 0)),xo 9 (.i (.ld false 5 (tm 4))),⟨some 10,none,qc 11 [tm 8,tm 9] [[],[none,some (.pair .int (.pair .int .str)),none,none,some (.slice .int)]]⟩,xo 11 (.i (.not (tm 10))),xo 12 (qm (tm 11)),⟨some 13,some (12,false),qm (tm 0)⟩,⟨some 14,some (12,false),.i (.ld false 5 (tm 5))⟩,⟨some 15,some (12,false),qc 11 [tm 13,tm 14] [[],[none,some (.pair .int (.pair .int .str)),none,none,some (.slice .int)]]⟩,⟨some 16,some (12,false),.i (.not (tm 15))⟩,xo 17 (.i (.pick (tm 12) (cb true) (tm 16)))])
 (.cond (tm 17)
  (.seq (rg [xo 6 (qm (cb false)),xo 7 (qm (cb false))])
  .ret)
  .skip))
 (.seq (rg [xo 18 (qm (tm 0)),xo 19 (.i (.ld false 5 (tm 4))),xo 20 (.i (.ld false 5 (tm 5))),⟨some 21,none,qc 12 [tm 18,tm 19,tm 20] [[],[none,some (.pair .int (.pair .int .str)),none,none,some (.slice .int)],[none,some (.pair .int (.pair .int .str)),none,none,some (.slice .int)]]⟩,xo 6 (qm (tm 21)),xo 7 (qm (cb true))])
 .ret)))
def Uk:List Res:=[.tmp 6,.tmp 7]
theorem Un:Am Tryz.prog Tryz.f5=some (Ln,Uk):=by kernel_rfl
theorem T1:A5 Tryz.prog 5=true:=by kernel_rfl
def D0 (a0:Int) (a1_0:ByteArray) (a1_1:List (Int×Int×ByteArray)) (a1_2:Int) (a1_3:Int) (a1_4:List (List Int)) (a2_0:ByteArray) (a2_1:List (Int×Int×ByteArray)) (a2_2:Int) (a2_3:Int) (a2_4:List (List Int)):Option (Bool×Bool) :=
 Option.bind (Option.bind (Db a0 a1_0 a1_1 a1_2 a1_3 a1_4) fun y4 =>
 cond (!y4)
  (some true)
  (Option.bind (Db a0 a2_0 a2_1 a2_2 a2_3 a2_4) fun y6 =>
  some (!y6))) fun l3_m17 =>
cond l3_m17
 (some (false,false))
 (Option.bind (H5 a0 a1_0 a1_1 a1_2 a1_3 a1_4 a2_0 a2_1 a2_2 a2_3 a2_4) fun y10 =>
 some (y10,true))
def S5 (r:Bool×Bool):RV:=⟨true,[(false,[.sc (.bool r.1)]),(false,[.sc (.bool r.2)])]⟩
theorem Sn {a0:Int} {a1_0:ByteArray} {a1_1:List (Int×Int×ByteArray)} {a1_2:Int} {a1_3:Int} {a1_4:List (List Int)} {a2_0:ByteArray} {a2_1:List (Int×Int×ByteArray)} {a2_2:Int} {a2_3:Int} {a2_4:List (List Int)} {r:Bool×Bool} (h:D0 a0 a1_0 a1_1 a1_2 a1_3 a1_4 a2_0 a2_1 a2_2 a2_3 a2_4=some r):Ax Tryz.prog Tab 5 [ai a0,.agg [.str a1_0,.tree (.pair .int (.pair .int .str)) a1_1,ai a1_2,ai a1_3,.tree (.slice .int) a1_4],.agg [.str a2_0,.tree (.pair .int (.pair .int .str)) a2_1,ai a2_2,ai a2_3,.tree (.slice .int) a2_4]] (S5 r):=by
 refine Ar (by kernel_rfl) Tryz.func5 Un (n:=22) (by kernel_rfl) (by simp) (tl:=[(0,ai a0),(1,.agg [.str a1_0,.tree (.pair .int (.pair .int .str)) a1_1,ai a1_2,ai a1_3,.tree (.slice .int) a1_4]),(2,.agg [.str a2_0,.tree (.pair .int (.pair .int .str)) a2_1,ai a2_2,ai a2_3,.tree (.slice .int) a2_4])]) rfl ?_;unfold Ln;unfold D0 at h;refine Aj ?_;refine Ab ?_;refine Aw h (fun (l3_m17:Bool) S_=>S_=⟨Ao [(0,ai a0),(4,.box (oi 0 1) 0),(5,.box (oi 1 1) 0),(17,.bool l3_m17)],Ak (Aq [(oi 0 1,.cells 38 [.str a1_0,.tree (.pair .int (.pair .int .str)) a1_1,ai a1_2,ai a1_3,.tree (.slice .int) a1_4]),(oi 1 1,.cells 38 [.str a2_0,.tree (.pair .int (.pair .int .str)) a2_1,ai a2_2,ai a2_3,.tree (.slice .int) a2_4])]),2⟩) ?_ ?_
 ·intro v_ h;obtain ⟨y4,h4,h⟩:=Ae h;rcases Ad h with ⟨q5,h⟩ | ⟨q5,h⟩
  ·refine Aa 15 ?_;refine rz0 (ai a0) ?_;refine rzl (.agg [.str a1_0,.tree (.pair .int (.pair .int .str)) a1_1,ai a1_2,ai a1_3,.tree (.slice .int) a1_4]) ?_;refine zc (.bool y4) [] [ai a0,.agg [.str a1_0,.tree (.pair .int (.pair .int .str)) a1_1,ai a1_2,ai a1_3,.tree (.slice .int) a1_4]] (K6 h4) ?_;refine rz0 (.bool (!y4)) ?_;refine rz0 (.bool (!y4)) ?_;refine zs q5 ?_;refine zs q5 ?_;refine zs q5 ?_;refine zs q5 ?_;refine rs0 (.bool true) (zT q5) ?_;refine An (tn_ ?_);obtain rfl:=zj h;exact ⟨_,Ac [(oi 0 1,oi 4 1),(oi 1 1,oi 5 2)],rfl⟩
  obtain ⟨y6,h6,h⟩:=Ae h;refine Aa 15 ?_;refine rz0 (ai a0) ?_;refine rzl (.agg [.str a1_0,.tree (.pair .int (.pair .int .str)) a1_1,ai a1_2,ai a1_3,.tree (.slice .int) a1_4]) ?_;refine zc (.bool y4) [] [ai a0,.agg [.str a1_0,.tree (.pair .int (.pair .int .str)) a1_1,ai a1_2,ai a1_3,.tree (.slice .int) a1_4]] (K6 h4) ?_;refine rz0 (.bool (!y4)) ?_;refine rz0 (.bool (!y4)) ?_;refine rs0 (ai a0) (zg q5) ?_;refine rsl (.agg [.str a2_0,.tree (.pair .int (.pair .int .str)) a2_1,ai a2_2,ai a2_3,.tree (.slice .int) a2_4]) (zg q5) ?_;refine Bs (.bool y6) [] [ai a0,.agg [.str a2_0,.tree (.pair .int (.pair .int .str)) a2_1,ai a2_2,ai a2_3,.tree (.slice .int) a2_4]] _ (caps:=[]) (args0:=[ai a0,.agg [.str a2_0,.tree (.pair .int (.pair .int .str)) a2_1,ai a2_2,ai a2_3,.tree (.slice .int) a2_4]]) (Bf (by kernel_rfl) q5) (by kernel_rfl) (K6 h6) Ada ?_;refine rs0 (.bool (!y6)) (zg q5) ?_;refine rs0 (.bool (!y6)) (zF q5) ?_;refine An (tn_ ?_);obtain rfl:=zj h;exact ⟨_,Ac [(oi 0 1,oi 4 1),(oi 1 1,oi 5 2)],rfl⟩
 rintro l3_m17 _ rfl h
 (try dsimp only at h);rcases Ad h with ⟨q7,h⟩ | ⟨q7,h⟩
 ·refine Af q7 ?_;refine Aj ?_;refine Ah (tr_ ?_);obtain rfl:=zj h;exact A0 [.bool false,.bool false] (Ap rfl zl (Ap rfl zl As))
 refine Ag q7 ?_;refine Ai (tn_ ?_);refine wr_ ?_;refine Ab ?_;obtain ⟨y10,h10,h⟩:=Ae h;refine Aa 8 ?_;refine rz0 (ai a0) ?_;refine rzl (.agg [.str a1_0,.tree (.pair .int (.pair .int .str)) a1_1,ai a1_2,ai a1_3,.tree (.slice .int) a1_4]) ?_;refine rzl (.agg [.str a2_0,.tree (.pair .int (.pair .int .str)) a2_1,ai a2_2,ai a2_3,.tree (.slice .int) a2_4]) ?_;refine zc (.bool y10) [] [ai a0,.agg [.str a1_0,.tree (.pair .int (.pair .int .str)) a1_1,ai a1_2,ai a1_3,.tree (.slice .int) a1_4],.agg [.str a2_0,.tree (.pair .int (.pair .int .str)) a2_1,ai a2_2,ai a2_3,.tree (.slice .int) a2_4]] (Ad9 h10) ?_;refine rsB 2 ?_;refine An (tn_ ?_);refine wr_ ?_;refine Ah ?_;obtain rfl:=zj h;exact A0 [.bool y10,.bool true] (Ap rfl zl (Ap rfl zl As))
def Po:AC :=
 (.seq (rg [xo 8 (qb .lss (tm 7) (tm 6))])
 (.seq (.cond (tm 8)
  .skip
  (.exit 0))
 (.seq (.block 1 (.seq (rg [xo 9 (qm (tm 7)),xo 10 (qx 1 (tm 5) (tm 7)),xo 11 (ql (tm 10)),xo 3 (qm (tm 9)),xo 4 (qm (tm 11))])
 (.seq (rg [xo 12 (qm (tm 4)),xo 13 (qb .neq (tm 12) (ci 0))])
 (.cond (tm 13)
  (.seq (rg [xo 14 (qm (tm 3)),xo 2 (qm (tm 14))])
  .ret)
  .skip))))
 (rg [xo 15 (qb .add (tm 7) (ci 1)),xo 7 (qm (tm 15))]))))
def X4:AC :=
 (.seq (rg [xo 2 (qm (ci 0))])
 (.seq (.seq (rg [xo 5 (qm (tm 0)),xo 6 (.i (.len (tm 5))),xo 7 (qm (ci 0))])
 (.block 0 (.loop Po)))
 (.seq (rg [xo 16 (qm (tm 0)),xo 17 (.i (.len (tm 16))),xo 2 (qm (tm 17))])
 .ret)))
def Ald:List Res:=[.tmp 2]
theorem Ajh:Am Tryz.prog Tryz.f95=some (X4,Ald):=by kernel_rfl
def F5 (a0:List Int) (l4_m7:Nat):Option (Ctl Nat (Ctl Unit Int)) :=
 cond (decide (((l4_m7:Nat):Int)<((a0.length:Nat):Int)))
 (Option.bind (a0[l4_m7]?) fun x10 =>
 cond (x10 !=0)
  (some (Ctl.out (Ctl.out ((l4_m7:Nat):Int))))
  (og (l4_m7+1<4611686018427387904) <|
  some (Ctl.next (l4_m7+1))))
 (some (Ctl.out (Ctl.next ())))
def H0 (a0:List Int):Option Int :=
 Do (A4 (fun s_:Nat=>F5 a0 s_) 4611686018427387904 0) fun _ =>
some ((a0.length:Nat):Int)
def Ahh (r:Int):RV:=⟨false,[(false,[.sc (.int .i64 r)])]⟩
theorem Wi {a0:List Int} {r:Int} (h:H0 a0=some r):Ax Tryz.prog Tab 95 [.tree .int a0] (Ahh r):=by
 refine Ar (by kernel_rfl) Tryz.func95 Ajh (n:=18) (by kernel_rfl) (by simp) (tl:=[(0,.tree .int a0)]) rfl ?_;unfold X4;unfold H0 at h;refine Aj ?_;refine Bh h (fun (_:Unit) S_=>S_=⟨Ao [(0,.tree .int a0)],Ak (Aq []),2⟩) ?_ ?_
 ·intro v_ h hk2;refine Aj ?_;refine Al ?_;refine A3 h (fun (l4_m7:Nat) S_=>S_=⟨Ao [(0,.tree .int a0),(5,.tree .int a0),(6,ai ((a0.length:Nat):Int)),(7,ai ((l4_m7:Nat):Int))],Ak (Aq []),2⟩) ⟨_,Ac [],rfl⟩ ?_;rintro n_ l4_m7 _ c_ rfl h hn4
  (try dsimp only at h);unfold F5 at h;unfold Po;refine Aj ?_;refine Ab ?_;rcases Ad h with ⟨q7,h⟩ | ⟨q7,h⟩
  ·have q7_:=of_decide_eq_true q7;refine Af q7 ?_;refine Ai (tn_ ?_);refine wr_ ?_;refine Ab ?_;refine Al ?_;refine Ab ?_;obtain ⟨x10,e10,h⟩:=Ae h;refine Aa 8 ?_;refine rz0 (ai ((l4_m7:Nat):Int)) ?_;refine rs0 (.telt none .int x10 0) (zi (t:=.int) (xs:=a0) (k:=.i64) (m:=((l4_m7:Nat):Int)) (Ay _) e10) ?_;refine rsB 3 ?_;refine An (tn_ ?_);refine wr_ ?_;refine Aj ?_;rcases Ad h with ⟨q12,h⟩ | ⟨q12,h⟩
   ·refine Af q12 ?_;refine Aj ?_;refine Ah (br_ (tr_ (tr_ (br_ (tr_ ?_)))));obtain rfl:=zj h;have h:=hn4
    (try dsimp only at h);obtain rfl:=zj h;have h:=hk2
    (try dsimp only at h);obtain rfl:=zj h;exact A0 [ai ((l4_m7:Nat):Int)] (Ap rfl zl As)
   refine Ag q12 ?_;refine Ai (bn_ (tn_ ?_));refine wr_ ?_;obtain ⟨g14,h⟩:=Au h;refine Aa 12 ?_;refine rs0 (ai ((l4_m7+1:Nat):Int)) (za g14) ?_;refine rsB 1 ?_;refine An (tn_ ?_);obtain rfl:=zj h;exact ⟨l4_m7+1,_,Ac [],rfl,hn4⟩
  have q7_:=of_decide_eq_false q7;refine Ag q7 ?_;refine Az (te_ (te_ (be_ (tn_ ?_))));obtain rfl:=zj h;have h:=hn4
  (try dsimp only at h);obtain rfl:=zj h;exact ⟨(),_,rfl,Ac [],rfl⟩
 rintro _ _ rfl h
 (try dsimp only at h);refine Aj ?_;refine Ah ?_;obtain rfl:=zj h;exact A0 [ai ((a0.length:Nat):Int)] (Ap rfl zl As)
def Rg:AC :=
 (.seq (rg [xo 2 (qm (cb false))])
 (.seq (rg [xo 3 (qm (tm 0)),xo 4 (qc 95 [tm 3] [[some .int]]),xo 5 (qm (tm 0)),xo 6 (.i (.len (tm 5))),xo 7 (qb .eql (tm 4) (tm 6)),xo 2 (qm (tm 7))])
 .ret))
def Aei:List Res:=[.tmp 2]
theorem Ad3:Am Tryz.prog Tryz.f97=some (Rg,Aei):=by kernel_rfl
theorem Ab8:A5 Tryz.prog 97=true:=by kernel_rfl
def I7 (a0:List Int):Option Bool :=
 Option.bind (H0 a0) fun y3 =>
some (y3==((a0.length:Nat):Int))
def Acm (r:Bool):RV:=⟨false,[(false,[.sc (.bool r)])]⟩
theorem Acq {a0:List Int} {r:Bool} (h:I7 a0=some r):Ax Tryz.prog Tab 97 [.tree .int a0] (Acm r):=by
 refine Ar (by kernel_rfl) Tryz.func97 Ad3 (n:=8) (by kernel_rfl) (by simp) (tl:=[(0,.tree .int a0)]) rfl ?_;unfold Rg;unfold I7 at h;refine Aj ?_;refine Ab ?_;obtain ⟨y3,h3,h⟩:=Ae h;refine Aa 8 ?_;refine rz0 (.tree .int a0) ?_;refine zc (ai y3) [] [.tree .int a0] (Wi h3) ?_;refine rsB 4 ?_;refine An (tn_ ?_);refine wr_ ?_;refine Ah ?_;obtain rfl:=zj h;exact A0 [.bool (y3==((a0.length:Nat):Int))] (Ap rfl zl As)
def Iq:AC :=
 (.seq (rg [xo 19 (qb .lss (tm 18) (tm 17))])
 (.seq (.cond (tm 19)
  .skip
  (.exit 0))
 (.seq (.block 1 (.seq (rg [xo 20 (qx 1 (tm 16) (tm 18)),xo 21 (ql (tm 20)),xo 11 (qm (tm 21))])
 (.seq (rg [xo 22 (qm (tm 8)),xo 23 (qm (tm 11)),xo 24 (qc 95 [tm 23] [[some .int]]),xo 25 (qx 1 (tm 22) (tm 24)),xo 26 (ql (tm 25)),xo 12 (qm (tm 26))])
 (.seq (rg [xo 27 (qm (tm 9)),xo 28 (qm (tm 12)),xo 29 (.mkS 3 .int [tm 28]),xo 30 (.append 3 .int 8 (tm 27) (tm 29)),xo 9 (qm (tm 30))])
 (rg [xo 31 (qm (tm 0)),xo 32 (qm (tm 8)),xo 33 (qm (tm 12)),xo 34 (.i (.neg (tm 33))),xo 35 (qm (tm 11)),xo 36 (qc 96 [tm 31,tm 32,tm 34,tm 35] [[],[some .int],[],[some .int]])])))))
 (rg [xo 37 (qb .add (tm 18) (ci 1)),xo 18 (qm (tm 37))]))))
def Kv:AC :=
 (.seq (rg [xo 6 (qm (.cst .nils)),xo 7 (qm (cb false))])
 (.seq (rg [xo 13 (qm (tm 2)),xo 14 (qc 94 [tm 13] [[some .int]]),xo 8 (qm (tm 14))])
 (.seq (rg [xo 15 (.mkS 3 .int []),xo 9 (qm (tm 15))])
 (.seq (.seq (rg [xo 16 (qm (tm 1)),xo 17 (.i (.len (tm 16))),xo 18 (qm (ci 0))])
 (.block 0 (.loop Iq)))
 (.seq (rg [xo 38 (qm (tm 9)),xo 39 (qm (tm 8)),xo 40 (qc 97 [tm 39] [[some .int]]),xo 6 (qm (tm 38)),xo 7 (qm (tm 40))])
 .ret)))))
def Ub:List Res:=[.tmp 6,.tmp 7]
theorem T9:Am Tryz.prog Tryz.f80=some (Kv,Ub):=by kernel_rfl
def Cf (a1:List (List Int)) (a0:Int) (l7_m18:Nat) (l7_m8:List Int) (l7_m9:List Int):Option (Ctl (Nat×List Int×List Int) (List Int×List Int)) :=
 cond (decide (((l7_m18:Nat):Int)<((a1.length:Nat):Int)))
 (Option.bind (a1[l7_m18]?) fun x13 =>
 Option.bind (H0 x13) fun y15 =>
 Option.bind (Fe l7_m8 y15) fun x16 =>
 og (l7_m9.length+1<=1073741824∧(l7_m9.length+1)*8<=140737488355328) <|
 Option.bind (Dp a0 l7_m8 (wI (0 - x16)) x13) fun y19 =>
 og (y19.length=l7_m8.length) <|
 og (l7_m18+1<4611686018427387904) <|
 some (Ctl.next (l7_m18+1,y19,l7_m9++([x16]))))
 (some (Ctl.out (l7_m8,l7_m9)))
def E5 (a0:Int) (a1:List (List Int)) (a2:List Int):Option (List Int×Bool) :=
 Option.bind (G0 a2) fun y3 =>
Option.bind (A4 (fun s_:Nat×List Int×List Int=>Cf a1 a0 s_.1 s_.2.1 s_.2.2) 4611686018427387904 (0,y3,[])) fun (l5_m8,l5_m9) =>
Option.bind (I7 l5_m8) fun y23 =>
some (l5_m9,y23)
def Qw (r:List Int×Bool):RV:=⟨true,[(false,[.new 3 .int r.1]),(false,[.sc (.bool r.2)])]⟩
theorem Q3 {a0:Int} {a1:List (List Int)} {a2:List Int} {r:List Int×Bool} (h:E5 a0 a1 a2=some r):Ax Tryz.prog Tab 80 [ai a0,.tree (.slice .int) a1,.tree .int a2] (Qw r):=by
 refine Ar (by kernel_rfl) Tryz.func80 T9 (n:=41) (by kernel_rfl) (by simp) (tl:=[(0,ai a0),(1,.tree (.slice .int) a1),(2,.tree .int a2)]) rfl ?_;unfold Kv;unfold E5 at h;refine Aj ?_;refine Ab ?_;obtain ⟨y3,h3,h⟩:=Ae h;refine Aa 6 ?_;refine rz0 (.tree .int a2) ?_;refine zc (.own (oi 224 4) .int 0 y3.length) [(oi 224 4,some (.arr 3 .int y3))] [.tree .int a2] (Sa h3) ?_;refine rsB 1 ?_;refine An (tn_ ?_);refine wr_ ?_;refine Aj ?_;refine Aw h (fun t_ S_=>∃ (l5_m8:List Int),∃ (l5_m9:List Int),t_=(l5_m8,l5_m9)∧S_=⟨Ao [(8,.own (oi 0 1) .int 0 l5_m8.length),(9,.own (oi 1 1) .int 0 l5_m9.length)],Ak (Aq [(oi 0 1,.arr 3 .int l5_m8),(oi 1 1,.arr 3 .int l5_m9)]),2⟩) ?_ ?_
 ·intro v_ h;refine Aj ?_;refine Al ?_;refine A3 h (fun t_ S_=>∃ (l7_m18:Nat),∃ (l7_m8:List Int),∃ (l7_m9:List Int),t_=(l7_m18,l7_m8,l7_m9)∧S_=⟨Ao [(0,ai a0),(8,.own (oi 0 1) .int 0 l7_m8.length),(9,.own (oi 1 1) .int 0 l7_m9.length),(16,.tree (.slice .int) a1),(17,ai ((a1.length:Nat):Int)),(18,ai ((l7_m18:Nat):Int))],Ak (Aq [(oi 0 1,.arr 3 .int l7_m8),(oi 1 1,.arr 3 .int l7_m9)]),2⟩) ⟨_,Ac [(oi 0 1,oi 224 4),(oi 1 1,oi 15 6)],⟨0,y3,[],rfl,rfl⟩⟩ ?_;rintro n_ _ _ c_ ⟨l7_m18,l7_m8,l7_m9,rfl,rfl⟩ h hn7
  (try dsimp only at h);unfold Cf at h;unfold Iq;refine Aj ?_;refine Ab ?_;rcases Ad h with ⟨q10,h⟩ | ⟨q10,h⟩
  ·have q10_:=of_decide_eq_true q10;refine Af q10 ?_;refine Ai (tn_ ?_);refine wr_ ?_;refine Ab ?_;refine Al ?_;refine Ab ?_;obtain ⟨x13,e13,h⟩:=Ae h;refine Aa 6 ?_;refine rs0 (.telt none (.slice .int) x13 0) (zi (t:=.slice .int) (xs:=a1) (k:=.i64) (m:=((l7_m18:Nat):Int)) (Ay _) e13) ?_;refine rsB 2 ?_;refine An (tn_ ?_);refine wr_ ?_;refine Ab ?_;obtain ⟨y15,h15,h⟩:=Ae h;obtain ⟨x16,f16,h⟩:=Ae h;obtain ⟨p16,b16,e16⟩:=Bd f16;refine Aa 12 ?_;refine rz0 (.own (oi 0 1) .int 0 l7_m8.length) ?_;refine rz0 (.tree .int x13) ?_;refine zc (ai y15) [] [.tree .int x13] (Wi h15) ?_;refine rs0 (.elt (oi 0 1) y15.toNat 0) (zo (t:=.int) (o:=oi 0 1) (len:=l7_m8.length) (k:=.i64) (m:=y15) p16 (Av e16)) ?_;refine rsl (ai x16) (C0 (i:=oi 0 1) (j:=y15.toNat) (k:=0) (e:=3) (t:=.int) (xs:=l7_m8) (by kernel_rfl) (by kernel_rfl) e16 (by kernel_rfl)) ?_;refine rsB 1 ?_;refine An (tn_ ?_);refine wr_ ?_;refine Ab ?_;obtain ⟨g18,h⟩:=Au h;refine Aa 17 ?_;refine rz0 (.own (oi 1 1) .int 0 l7_m9.length) ?_;refine rz0 (ai x16) ?_;refine rs1 (.own (oi 29 14) .int 0 1) (oi 29 14) (.arr 3 .int ([x16])) (by kernel_rfl) ?_;refine rs2 (.own (oi 1 15) .int 0 ((l7_m9++([x16])).length)) (oi 1 1) (oi 1 15) (.arr 3 .int (l7_m9++([x16]))) (K8 (t:=.int) (t':=.int) (xs:=l7_m9) (ys:=[x16]) (zs:=l7_m9++([x16])) (j:=oi 1 1) (len:=l7_m9.length) (c:=.own (oi 29 14) .int 0 1) (by kernel_rfl) (by kernel_rfl) rfl (by kernel_rfl) (Mj (e:=3) (by kernel_rfl) rfl) rfl g18) ?_;refine rsB 1 ?_;refine An (tn_ ?_);refine wr_ ?_;obtain ⟨y19,h19,h⟩:=Ae h;obtain ⟨g20,h⟩:=Au h;refine Aa 23 ?_;refine rz0 (ai a0) ?_;refine rz0 (.own (oi 0 1) .int 0 l7_m8.length) ?_;refine rz0 (ai x16) ?_;refine rz0 (ai (wI (0 - x16))) ?_;refine rz0 (.tree .int x13) ?_;refine Jq (.tup []) [(oi 0 1,some (.arr 3 .int y19)),(oi 0 1,none)] [(oi 0 0,oi 0 1)] [ai a0,.own (oi 0 1) .int 0 l7_m8.length,ai (wI (0 - x16)),.tree .int x13] (caps:=[]) trivial (Mx h19 rfl) Mo ⟨by kernel_rfl,trivial⟩ (.cons (.ren (by kernel_rfl)) (.cons (.ren (by kernel_rfl)) (.cons (.ren (by kernel_rfl)) (.cons (.ren (by kernel_rfl)) .nil)))) (B8 (by kernel_rfl) (by kernel_rfl) ⟨Ca (by kernel_rfl),trivial⟩) ?_;refine An (bn_ (tn_ ?_));refine wr_ ?_;obtain ⟨g21,h⟩:=Au h;refine Aa 25 ?_;refine rs0 (ai ((l7_m18+1:Nat):Int)) (za g21) ?_;refine rsB 1 ?_;refine An (tn_ ?_);obtain rfl:=zj h;exact ⟨(l7_m18+1,y19,l7_m9++([x16])),_,(B2 8 (.own (oi 0 1) .int 0 l7_m8.length) (.own (oi 0 1) .int 0 y19.length) (by kernel_rfl) (congrArg (fun z_=>((.own (oi 0 1) .int 0 z_):AV)) (g20.symm:l7_m8.length=y19.length))).trans (Ac [(oi 1 1,oi 1 15)]),⟨l7_m18+1,y19,l7_m9++([x16]),rfl,rfl⟩,hn7⟩
  have q10_:=of_decide_eq_false q10;refine Ag q10 ?_;refine Az (te_ (te_ (be_ (tn_ ?_))));obtain rfl:=zj h;have h:=hn7
  (try dsimp only at h);obtain rfl:=zj h;exact ⟨_,Ac [],⟨l7_m8,l7_m9,rfl,rfl⟩⟩
 rintro _ _ ⟨l5_m8,l5_m9,rfl,rfl⟩ h
 (try dsimp only at h);refine Ab ?_;obtain ⟨y23,h23,h⟩:=Ae h;refine Aa 7 ?_;refine rz0 (.own (oi 1 1) .int 0 l5_m9.length) ?_;refine rz0 (.own (oi 0 1) .int 0 l5_m8.length) ?_;refine Bs (.bool y23) [] [.own (oi 0 1) .int 0 l5_m8.length] _ (caps:=[]) (args0:=[.tree .int l5_m8]) trivial (Hy (Th (e:=3) (by kernel_rfl) rfl) Xi) (Acq h23) Ab8 ?_;refine rsB 2 ?_;refine An (tn_ ?_);refine wr_ ?_;refine Ah ?_;obtain rfl:=zj h;exact A0 [.own (oi 1 1) .int 0 l5_m9.length,.bool y23] (Ap rfl (Eb (by kernel_rfl) rfl) (Ap rfl zl As))
def P2:AC :=
 (.seq (rg [xo 4 (.i (.box 36 (tm 1))),xo 6 (qm (cb false))])
 (.seq (rg [xo 10 (qm (tm 0)),xo 11 (qf 2 (tm 4)),xo 12 (ql (tm 11)),xo 13 (qm (tm 2)),xo 14 (qc 80 [tm 10,tm 12,tm 13] [[],[some (.slice .int)],[some .int]]),xo 9 (qm (tm 14)),xo 15 (.i (.extr 0 (tm 9))),xo 16 (.i (.extr 1 (tm 9))),xo 7 (qm (tm 15)),xo 8 (qm (tm 16))])
 (.seq (rg [xo 17 (qm (tm 8)),xo 6 (qm (tm 17))])
 .ret)))
def Zz:List Res:=[.tmp 6]
theorem Acw:Am Tryz.prog Tryz.f60=some (P2,Zz):=by kernel_rfl
theorem Y1:A5 Tryz.prog 60=true:=by kernel_rfl
def Gj (a0:Int) (a1_0:Int) (a1_1:Int) (a1_2:List (List Int)) (a2:List Int):Option Bool :=
 Option.bind (E5 a0 a1_2 a2) fun y3 =>
some y3.2
def Ye (r:Bool):RV:=⟨false,[(false,[.sc (.bool r)])]⟩
theorem Y9 {a0:Int} {a1_0:Int} {a1_1:Int} {a1_2:List (List Int)} {a2:List Int} {r:Bool} (h:Gj a0 a1_0 a1_1 a1_2 a2=some r):Ax Tryz.prog Tab 60 [ai a0,.agg [ai a1_0,ai a1_1,.tree (.slice .int) a1_2],.tree .int a2] (Ye r):=by
 refine Ar (by kernel_rfl) Tryz.func60 Acw (n:=18) (by kernel_rfl) (by simp) (tl:=[(0,ai a0),(1,.agg [ai a1_0,ai a1_1,.tree (.slice .int) a1_2]),(2,.tree .int a2)]) rfl ?_;unfold P2;unfold Gj at h;refine Aj ?_;refine Ab ?_;obtain ⟨y3,h3,h⟩:=Ae h;refine Aa 13 ?_;refine rz0 (ai a0) ?_;refine rz0 (.box (oi 4 1) 2) ?_;refine rzl (.tree (.slice .int) a1_2) ?_;refine rz0 (.tree .int a2) ?_;refine zc (.tup [.own (oi 224 7) .int 0 y3.1.length,.bool y3.2]) [(oi 224 7,some (.arr 3 .int y3.1))] [ai a0,.tree (.slice .int) a1_2,.tree .int a2] (Q3 h3) ?_;refine rsB 5 ?_;refine An (tn_ ?_);refine wr_ ?_;refine Aj ?_;refine Ah ?_;obtain rfl:=zj h;exact A0 [.bool y3.2] (Ap rfl zl As)
def Lm:AC :=
 (.seq (rg [xo 13 (qb .lss (tm 12) (tm 11))])
 (.seq (.cond (tm 13)
  .skip
  (.exit 0))
 (.seq (.block 1 (.seq (rg [xo 14 (qx 1 (tm 10) (tm 12)),xo 15 (ql (tm 14)),xo 8 (qm (tm 15))])
 (.seq (rg [xo 16 (qm (tm 0)),xo 17 (.i (.ld false 3 (tm 4))),xo 18 (qm (tm 8)),xo 19 (qc 60 [tm 16,tm 17,tm 18] [[],[none,none,some (.slice .int)],[some .int]]),xo 20 (.i (.not (tm 19)))])
 (.cond (tm 20)
  (.seq (rg [xo 21 (qm (tm 8)),xo 6 (qm (tm 21))])
  .ret)
  .skip))))
 (rg [xo 22 (qb .add (tm 12) (ci 1)),xo 12 (qm (tm 22))]))))
def Qd:AC :=
 (.seq (rg [xo 4 (.i (.box 36 (tm 1))),xo 5 (.i (.box 36 (tm 2))),xo 6 (qm (.cst .nils))])
 (.seq (.seq (rg [xo 9 (qf 2 (tm 5)),xo 10 (ql (tm 9)),xo 11 (.i (.len (tm 10))),xo 12 (qm (ci 0))])
 (.block 0 (.loop Lm)))
 (.seq (rg [xo 6 (qm (.cst .nils))])
 .ret)))
def Abe:List Res:=[.tmp 6]
theorem Zr:Am Tryz.prog Tryz.f33=some (Qd,Abe):=by kernel_rfl
theorem Ox:A5 Tryz.prog 33=true:=by kernel_rfl
def Dr (a2_2:List (List Int)) (a0:Int) (a1_0:Int) (a1_1:Int) (a1_2:List (List Int)) (l4_m12:Nat):Option (Ctl Nat (Ctl Unit (Sum Unit (List Int)))) :=
 cond (decide (((l4_m12:Nat):Int)<((a2_2.length:Nat):Int)))
 (Option.bind (a2_2[l4_m12]?) fun x10 =>
 Option.bind (Gj a0 a1_0 a1_1 a1_2 x10) fun y12 =>
 cond (!y12)
  (some (Ctl.out (Ctl.out (.inr x10))))
  (og (l4_m12+1<4611686018427387904) <|
  some (Ctl.next (l4_m12+1))))
 (some (Ctl.out (Ctl.next ())))
def Gi (a0:Int) (a1_0:Int) (a1_1:Int) (a1_2:List (List Int)) (a2_0:Int) (a2_1:Int) (a2_2:List (List Int)):Option (Sum Unit (List Int)) :=
 Do (A4 (fun s_:Nat=>Dr a2_2 a0 a1_0 a1_1 a1_2 s_) 4611686018427387904 0) fun _ =>
some (.inl ())
def Yi:Sum Unit (List Int)->RV
 | .inl _=>⟨false,[(false,[.sc .nils])]⟩
 | .inr r=>⟨false,[(false,[.imm (.tree .int r)])]⟩
theorem Od {a0:Int} {a1_0:Int} {a1_1:Int} {a1_2:List (List Int)} {a2_0:Int} {a2_1:Int} {a2_2:List (List Int)} {r:Sum Unit (List Int)} (h:Gi a0 a1_0 a1_1 a1_2 a2_0 a2_1 a2_2=some r):Ax Tryz.prog Tab 33 [ai a0,.agg [ai a1_0,ai a1_1,.tree (.slice .int) a1_2],.agg [ai a2_0,ai a2_1,.tree (.slice .int) a2_2]] (Yi r):=by
 refine Aqs (by kernel_rfl) Tryz.func33 Zr (fun nz_=>[ai a0,.agg [ai a1_0,ai a1_1,.ftr nz_ (.slice .int) a1_2],.agg [ai a2_0,ai a2_1,.ftr nz_ (.slice .int) a2_2]]) (n:=23) (by kernel_rfl) (fun _=>by simp) (fun _=>⟨_,_,rfl,⟨rfl,rfl⟩,⟨_,_,rfl,⟨_,rfl,⟨_,_,rfl,⟨rfl,rfl⟩,⟨_,_,rfl,⟨rfl,rfl⟩,⟨_,_,rfl,rfl,rfl⟩⟩⟩⟩,⟨_,_,rfl,⟨_,rfl,⟨_,_,rfl,⟨rfl,rfl⟩,⟨_,_,rfl,⟨rfl,rfl⟩,⟨_,_,rfl,rfl,rfl⟩⟩⟩⟩,rfl⟩⟩⟩) (tl:=fun nz_=>[(0,ai a0),(1,.agg [ai a1_0,ai a1_1,.ftr nz_ (.slice .int) a1_2]),(2,.agg [ai a2_0,ai a2_1,.ftr nz_ (.slice .int) a2_2])]) (fun _=>rfl) fun zn_ nz_ hz_=>?_
 unfold Qd;unfold Gi at h;refine Aj ?_;refine Bh h (fun (_:Unit) S_=>S_=⟨Ao [],Ak (Aq []),2⟩) ?_ ?_
 ·intro v_ h hk2;refine Aj ?_;refine Al ?_;refine A3 h (fun (l4_m12:Nat) S_=>S_=⟨Ao [(0,ai a0),(4,.box (oi 0 1) 0),(10,.ftr nz_ (.slice .int) a2_2),(11,ai ((a2_2.length:Nat):Int)),(12,ai ((l4_m12:Nat):Int))],Ak (Aq [(oi 0 1,.cells 36 [ai a1_0,ai a1_1,.ftr nz_ (.slice .int) a1_2])]),2⟩) ⟨_,Ac [(oi 0 1,oi 4 1)],rfl⟩ ?_;rintro n_ l4_m12 _ c_ rfl h hn4
  (try dsimp only at h);unfold Dr at h;unfold Lm;refine Aj ?_;refine Ab ?_;rcases Ad h with ⟨q7,h⟩ | ⟨q7,h⟩
  ·have q7_:=of_decide_eq_true q7;refine Af q7 ?_;refine Ai (tn_ ?_);refine wr_ ?_;refine Ab ?_;refine Al ?_;refine Ab ?_;obtain ⟨x10,e10,h⟩:=Ae h;refine Aa 6 ?_;refine rs0 (.telt (some nz_) (.slice .int) x10 0) (zi (t:=.slice .int) (xs:=a2_2) (k:=.i64) (m:=((l4_m12:Nat):Int)) (Ay _) e10) ?_;refine rsB 2 ?_;refine An (tn_ ?_);refine wr_ ?_;refine Ab ?_;obtain ⟨y12,h12,h⟩:=Ae h;refine Aa 11 ?_;refine rz0 (ai a0) ?_;refine rzl (.agg [ai a1_0,ai a1_1,.ftr nz_ (.slice .int) a1_2]) ?_;refine rz0 (.ftr nz_ .int x10) ?_;refine Bs (.bool y12) [] [ai a0,.agg [ai a1_0,ai a1_1,.ftr nz_ (.slice .int) a1_2],.ftr nz_ .int x10] _ (caps:=[]) (args0:=[ai a0,.agg [ai a1_0,ai a1_1,.tree (.slice .int) a1_2],.tree .int x10]) trivial (by kernel_rfl) (Auu (Y9 h12)) Y1 ?_;refine rsB 1 ?_;refine An (tn_ ?_);refine wr_ ?_;rcases Ad h with ⟨q13,h⟩ | ⟨q13,h⟩
   ·refine Af q13 ?_;refine Aj ?_;refine Ah (br_ (tr_ (tr_ (br_ (tr_ ?_)))));obtain rfl:=zj h;have h:=hn4
    (try dsimp only at h);obtain rfl:=zj h;have h:=hk2
    (try dsimp only at h);obtain rfl:=zj h;exact Arh [(false,[.ftr nz_ .int x10])] (Ar8 (Am2 .ftr) Amm)
   refine Ag q13 ?_;refine Ai (bn_ (tn_ ?_));refine wr_ ?_;obtain ⟨g15,h⟩:=Au h;refine Aa 13 ?_;refine rs0 (ai ((l4_m12+1:Nat):Int)) (za g15) ?_;refine rsB 1 ?_;refine An (tn_ ?_);obtain rfl:=zj h;exact ⟨l4_m12+1,_,Ac [],rfl,hn4⟩
  have q7_:=of_decide_eq_false q7;refine Ag q7 ?_;refine Az (te_ (te_ (be_ (tn_ ?_))));obtain rfl:=zj h;have h:=hn4
  (try dsimp only at h);obtain rfl:=zj h;exact ⟨(),_,rfl,Ac [],rfl⟩
 rintro _ _ rfl h
 (try dsimp only at h);refine Aj ?_;refine Ah ?_;obtain rfl:=zj h;exact Arh [(false,[.nils])] (Ar8 An2 Amm)
def Lo:AC :=
 (.seq (rg [xo 4 (.i (.box 38 (tm 1))),xo 5 (.i (.box 38 (tm 2))),xo 6 (qm (cb false))])
 (.seq (rg [xo 7 (qf 0 (tm 4)),xo 8 (ql (tm 7)),xo 9 (qf 0 (tm 5)),xo 10 (ql (tm 9)),xo 11 (qb .eql (tm 8) (tm 10)),xo 12 (qm (tm 11)),⟨some 13,some (12,true),qf 2 (tm 4)⟩,⟨some 14,some (12,true),qf 0 (tm 13)⟩,⟨some 15,some (12,true),ql (tm 14)⟩,⟨some 16,some (12,true),qf 2 (tm 5)⟩,⟨some 17,some (12,true),qf 0 (tm 16)⟩,⟨some 18,some (12,true),ql (tm 17)⟩,⟨some 19,some (12,true),qb .eql (tm 15) (tm 18)⟩,xo 20 (.i (.pick (tm 12) (tm 19) (cb false))),xo 21 (qm (tm 20)),⟨some 22,some (21,true),qf 2 (tm 4)⟩,⟨some 23,some (21,true),qf 1 (tm 22)⟩,⟨some 24,some (21,true),ql (tm 23)⟩,⟨some 25,some (21,true),qf 2 (tm 5)⟩,⟨some 26,some (21,true),qf 1 (tm 25)⟩,⟨some 27,some (21,true),ql (tm 26)⟩,⟨some 28,some (21,true),qb .eql (tm 24) (tm 27)⟩,xo 29 (.i (.pick (tm 21) (tm 28) (cb false))),xo 30 (qm (tm 29)),⟨some 31,some (30,true),qm (tm 0)⟩,⟨some 32,some (30,true),qf 2 (tm 4)⟩,⟨some 33,some (30,true),.i (.ld false 3 (tm 32))⟩,⟨some 34,some (30,true),qf 2 (tm 5)⟩,⟨some 35,some (30,true),.i (.ld false 3 (tm 34))⟩,⟨some 36,some (30,true),qc 33 [tm 31,tm 33,tm 35] [[],[none,none,some (.slice .int)],[none,none,some (.slice .int)]]⟩,⟨some 37,some (30,true),.i (.cmp false 1 (tm 36) (.cst .nils))⟩,xo 38 (.i (.pick (tm 30) (tm 37) (cb false))),xo 6 (qm (tm 38))])
 .ret))
def Uj:List Res:=[.tmp 6]
theorem Um:Am Tryz.prog Tryz.f16=some (Lo,Uj):=by kernel_rfl
def D1 (a0:Int) (a1_0:ByteArray) (a1_1:List (Int×Int×ByteArray)) (a1_2:Int) (a1_3:Int) (a1_4:List (List Int)) (a2_0:ByteArray) (a2_1:List (Int×Int×ByteArray)) (a2_2:Int) (a2_3:Int) (a2_4:List (List Int)):Option Bool :=
 Option.bind (cond (a1_0.toList==a2_0.toList)
  (cond (a1_2==a2_2)
   (cond (a1_3==a2_3)
    (Option.bind (Gi a0 a1_2 a1_3 a1_4 a2_2 a2_3 a2_4) fun y6 =>
    (Sum.elim (fun z6_0 =>
    some true) (fun z6_1 =>
    og (z6_1.length≠0) <|
    some false)) y6)
    (some false))
   (some false))
  (some false)) fun l2_m6 =>
some l2_m6
def Sx (r:Bool):RV:=⟨false,[(false,[.sc (.bool r)])]⟩
theorem Si {a0:Int} {a1_0:ByteArray} {a1_1:List (Int×Int×ByteArray)} {a1_2:Int} {a1_3:Int} {a1_4:List (List Int)} {a2_0:ByteArray} {a2_1:List (Int×Int×ByteArray)} {a2_2:Int} {a2_3:Int} {a2_4:List (List Int)} {r:Bool} (h:D1 a0 a1_0 a1_1 a1_2 a1_3 a1_4 a2_0 a2_1 a2_2 a2_3 a2_4=some r):Ax Tryz.prog Tab 16 [ai a0,.agg [.str a1_0,.tree (.pair .int (.pair .int .str)) a1_1,ai a1_2,ai a1_3,.tree (.slice .int) a1_4],.agg [.str a2_0,.tree (.pair .int (.pair .int .str)) a2_1,ai a2_2,ai a2_3,.tree (.slice .int) a2_4]] (Sx r):=by
 refine Ar (by kernel_rfl) Tryz.func16 Um (n:=39) (by kernel_rfl) (by simp) (tl:=[(0,ai a0),(1,.agg [.str a1_0,.tree (.pair .int (.pair .int .str)) a1_1,ai a1_2,ai a1_3,.tree (.slice .int) a1_4]),(2,.agg [.str a2_0,.tree (.pair .int (.pair .int .str)) a2_1,ai a2_2,ai a2_3,.tree (.slice .int) a2_4])]) rfl ?_;unfold Lo;unfold D1 at h;refine Aj ?_;refine Aw h (fun (l2_m6:Bool) S_=>S_=⟨Ao [(6,.bool l2_m6)],Ak (Aq []),2⟩) ?_ ?_
 ·intro v_ h;rcases Ad h with ⟨q3,h⟩ | ⟨q3,h⟩
  ·rcases Ad h with ⟨q4,h⟩ | ⟨q4,h⟩
   ·rcases Ad h with ⟨q5,h⟩ | ⟨q5,h⟩
    ·obtain ⟨y6,h6,h⟩:=Ae h;rcases y6 with z6_0 | z6_1
     ·(try simp only [Sum.elim_inl,Sum.elim_inr] at h)
      refine Aa 37 ?_;refine rz0 (.box (oi 4 1) 0) ?_;refine rzl (.str a1_0) ?_;refine rz0 (.box (oi 5 2) 0) ?_;refine rzl (.str a2_0) ?_;refine rz0 (.bool (a1_0.toList==a2_0.toList)) ?_;refine rz0 (.bool (a1_0.toList==a2_0.toList)) ?_;refine rs0 (.box (oi 4 1) 2) (zg q3) ?_;refine rs0 (.box (oi 4 1) 2) (zg q3) ?_;refine rsl (ai a1_2) (zg q3) ?_;refine rs0 (.box (oi 5 2) 2) (zg q3) ?_;refine rs0 (.box (oi 5 2) 2) (zg q3) ?_;refine rsl (ai a2_2) (zg q3) ?_;refine rs0 (.bool (a1_2==a2_2)) (zg q3) ?_;refine rs0 (.bool (a1_2==a2_2)) (zT q3) ?_;refine rz0 (.bool (a1_2==a2_2)) ?_;refine rs0 (.box (oi 4 1) 2) (zg q4) ?_;refine rs0 (.box (oi 4 1) 3) (zg q4) ?_;refine rsl (ai a1_3) (zg q4) ?_;refine rs0 (.box (oi 5 2) 2) (zg q4) ?_;refine rs0 (.box (oi 5 2) 3) (zg q4) ?_;refine rsl (ai a2_3) (zg q4) ?_;refine rs0 (.bool (a1_3==a2_3)) (zg q4) ?_;refine rs0 (.bool (a1_3==a2_3)) (zT q4) ?_;refine rz0 (.bool (a1_3==a2_3)) ?_;refine rs0 (ai a0) (zg q5) ?_;refine rs0 (.box (oi 4 1) 2) (zg q5) ?_;refine rsl (.agg [ai a1_2,ai a1_3,.tree (.slice .int) a1_4]) (zg q5) ?_;refine rs0 (.box (oi 5 2) 2) (zg q5) ?_;refine rsl (.agg [ai a2_2,ai a2_3,.tree (.slice .int) a2_4]) (zg q5) ?_;refine Arc .nils [] [ai a0,.agg [ai a1_2,ai a1_3,.tree (.slice .int) a1_4],.agg [ai a2_2,ai a2_3,.tree (.slice .int) a2_4]] _ (caps:=[]) (Bf (by kernel_rfl) q5) (Od h6) Ox ?_;refine rs0 (.bool true) (zg q5) ?_;refine rs0 (.bool true) (zT q5) ?_;refine rsB 1 ?_;refine An (tn_ ?_);obtain rfl:=zj h;exact ⟨_,Ac [],rfl⟩
     (try simp only [Sum.elim_inl,Sum.elim_inr] at h)
     obtain ⟨g7,h⟩:=Au h;refine Aa 37 ?_;refine rz0 (.box (oi 4 1) 0) ?_;refine rzl (.str a1_0) ?_;refine rz0 (.box (oi 5 2) 0) ?_;refine rzl (.str a2_0) ?_;refine rz0 (.bool (a1_0.toList==a2_0.toList)) ?_;refine rz0 (.bool (a1_0.toList==a2_0.toList)) ?_;refine rs0 (.box (oi 4 1) 2) (zg q3) ?_;refine rs0 (.box (oi 4 1) 2) (zg q3) ?_;refine rsl (ai a1_2) (zg q3) ?_;refine rs0 (.box (oi 5 2) 2) (zg q3) ?_;refine rs0 (.box (oi 5 2) 2) (zg q3) ?_;refine rsl (ai a2_2) (zg q3) ?_;refine rs0 (.bool (a1_2==a2_2)) (zg q3) ?_;refine rs0 (.bool (a1_2==a2_2)) (zT q3) ?_;refine rz0 (.bool (a1_2==a2_2)) ?_;refine rs0 (.box (oi 4 1) 2) (zg q4) ?_;refine rs0 (.box (oi 4 1) 3) (zg q4) ?_;refine rsl (ai a1_3) (zg q4) ?_;refine rs0 (.box (oi 5 2) 2) (zg q4) ?_;refine rs0 (.box (oi 5 2) 3) (zg q4) ?_;refine rsl (ai a2_3) (zg q4) ?_;refine rs0 (.bool (a1_3==a2_3)) (zg q4) ?_;refine rs0 (.bool (a1_3==a2_3)) (zT q4) ?_;refine rz0 (.bool (a1_3==a2_3)) ?_;refine rs0 (ai a0) (zg q5) ?_;refine rs0 (.box (oi 4 1) 2) (zg q5) ?_;refine rsl (.agg [ai a1_2,ai a1_3,.tree (.slice .int) a1_4]) (zg q5) ?_;refine rs0 (.box (oi 5 2) 2) (zg q5) ?_;refine rsl (.agg [ai a2_2,ai a2_3,.tree (.slice .int) a2_4]) (zg q5) ?_;refine Arc (.tree .int z6_1) [] [ai a0,.agg [ai a1_2,ai a1_3,.tree (.slice .int) a1_4],.agg [ai a2_2,ai a2_3,.tree (.slice .int) a2_4]] _ (caps:=[]) (Bf (by kernel_rfl) q5) (Od h6) Ox ?_;refine rs0 (.abool true z6_1.length) (zg q5) ?_;refine rs0 (.abool true z6_1.length) (zT q5) ?_;refine rsB 1 ?_;refine An (tn_ ?_);obtain rfl:=zj h;exact ⟨_,(Aal (p:=true) (n:=z6_1.length) 6 (by kernel_rfl) g7).trans ((Aal (p:=true) (n:=z6_1.length) 37 (by kernel_rfl) g7).trans ((Aal (p:=true) (n:=z6_1.length) 38 (by kernel_rfl) g7).trans (Ac []))),rfl⟩
    refine Aa 37 ?_;refine rz0 (.box (oi 4 1) 0) ?_;refine rzl (.str a1_0) ?_;refine rz0 (.box (oi 5 2) 0) ?_;refine rzl (.str a2_0) ?_;refine rz0 (.bool (a1_0.toList==a2_0.toList)) ?_;refine rz0 (.bool (a1_0.toList==a2_0.toList)) ?_;refine rs0 (.box (oi 4 1) 2) (zg q3) ?_;refine rs0 (.box (oi 4 1) 2) (zg q3) ?_;refine rsl (ai a1_2) (zg q3) ?_;refine rs0 (.box (oi 5 2) 2) (zg q3) ?_;refine rs0 (.box (oi 5 2) 2) (zg q3) ?_;refine rsl (ai a2_2) (zg q3) ?_;refine rs0 (.bool (a1_2==a2_2)) (zg q3) ?_;refine rs0 (.bool (a1_2==a2_2)) (zT q3) ?_;refine rz0 (.bool (a1_2==a2_2)) ?_;refine rs0 (.box (oi 4 1) 2) (zg q4) ?_;refine rs0 (.box (oi 4 1) 3) (zg q4) ?_;refine rsl (ai a1_3) (zg q4) ?_;refine rs0 (.box (oi 5 2) 2) (zg q4) ?_;refine rs0 (.box (oi 5 2) 3) (zg q4) ?_;refine rsl (ai a2_3) (zg q4) ?_;refine rs0 (.bool (a1_3==a2_3)) (zg q4) ?_;refine rs0 (.bool (a1_3==a2_3)) (zT q4) ?_;refine rz0 (.bool (a1_3==a2_3)) ?_;refine zs q5 ?_;refine zs q5 ?_;refine zs q5 ?_;refine zs q5 ?_;refine zs q5 ?_;refine zs q5 ?_;refine zs q5 ?_;refine rs0 (.bool false) (zF q5) ?_;refine rsB 1 ?_;refine An (tn_ ?_);obtain rfl:=zj h;exact ⟨_,Ac [],rfl⟩
   refine Aa 37 ?_;refine rz0 (.box (oi 4 1) 0) ?_;refine rzl (.str a1_0) ?_;refine rz0 (.box (oi 5 2) 0) ?_;refine rzl (.str a2_0) ?_;refine rz0 (.bool (a1_0.toList==a2_0.toList)) ?_;refine rz0 (.bool (a1_0.toList==a2_0.toList)) ?_;refine rs0 (.box (oi 4 1) 2) (zg q3) ?_;refine rs0 (.box (oi 4 1) 2) (zg q3) ?_;refine rsl (ai a1_2) (zg q3) ?_;refine rs0 (.box (oi 5 2) 2) (zg q3) ?_;refine rs0 (.box (oi 5 2) 2) (zg q3) ?_;refine rsl (ai a2_2) (zg q3) ?_;refine rs0 (.bool (a1_2==a2_2)) (zg q3) ?_;refine rs0 (.bool (a1_2==a2_2)) (zT q3) ?_;refine rz0 (.bool (a1_2==a2_2)) ?_;refine zs q4 ?_;refine zs q4 ?_;refine zs q4 ?_;refine zs q4 ?_;refine zs q4 ?_;refine zs q4 ?_;refine zs q4 ?_;refine rs0 (.bool false) (zF q4) ?_;refine rsB 10 ?_;refine An (tn_ ?_);obtain rfl:=zj h;exact ⟨_,Ac [],rfl⟩
  refine Aa 37 ?_;refine rz0 (.box (oi 4 1) 0) ?_;refine rzl (.str a1_0) ?_;refine rz0 (.box (oi 5 2) 0) ?_;refine rzl (.str a2_0) ?_;refine rz0 (.bool (a1_0.toList==a2_0.toList)) ?_;refine rz0 (.bool (a1_0.toList==a2_0.toList)) ?_;refine zs q3 ?_;refine zs q3 ?_;refine zs q3 ?_;refine zs q3 ?_;refine zs q3 ?_;refine zs q3 ?_;refine zs q3 ?_;refine rs0 (.bool false) (zF q3) ?_;refine rsB 19 ?_;refine An (tn_ ?_);obtain rfl:=zj h;exact ⟨_,Ac [],rfl⟩
 rintro l2_m6 _ rfl h
 (try dsimp only at h);refine Ah ?_;obtain rfl:=zj h;exact A0 [.bool l2_m6] (Ap rfl zl As)
def Lu:AC :=
 (.seq (rg [xo 4 (.i (.box 38 (tm 1))),xo 5 (.i (.box 38 (tm 2))),xo 6 (qm (cb false)),xo 7 (qm (cb false))])
 (.seq (.seq (rg [xo 8 (qm (tm 0)),xo 9 (.i (.ld false 5 (tm 4))),⟨some 10,none,qc 15 [tm 8,tm 9] [[],[none,some (.pair .int (.pair .int .str)),none,none,some (.slice .int)]]⟩,xo 11 (.i (.not (tm 10))),xo 12 (qm (tm 11)),⟨some 13,some (12,false),qm (tm 0)⟩,⟨some 14,some (12,false),.i (.ld false 5 (tm 5))⟩,⟨some 15,some (12,false),qc 15 [tm 13,tm 14] [[],[none,some (.pair .int (.pair .int .str)),none,none,some (.slice .int)]]⟩,⟨some 16,some (12,false),.i (.not (tm 15))⟩,xo 17 (.i (.pick (tm 12) (cb true) (tm 16)))])
 (.cond (tm 17)
  (.seq (rg [xo 6 (qm (cb false)),xo 7 (qm (cb false))])
  .ret)
  .skip))
 (.seq (rg [xo 18 (qm (tm 0)),xo 19 (.i (.ld false 5 (tm 4))),xo 20 (.i (.ld false 5 (tm 5))),⟨some 21,none,qc 16 [tm 18,tm 19,tm 20] [[],[none,some (.pair .int (.pair .int .str)),none,none,some (.slice .int)],[none,some (.pair .int (.pair .int .str)),none,none,some (.slice .int)]]⟩,xo 6 (qm (tm 21)),xo 7 (qm (cb true))])
 .ret)))
def U0:List Res:=[.tmp 6,.tmp 7]
theorem Vf:Am Tryz.prog Tryz.f7=some (Lu,U0):=by kernel_rfl
def Dw (a0:Int) (a1_0:ByteArray) (a1_1:List (Int×Int×ByteArray)) (a1_2:Int) (a1_3:Int) (a1_4:List (List Int)) (a2_0:ByteArray) (a2_1:List (Int×Int×ByteArray)) (a2_2:Int) (a2_3:Int) (a2_4:List (List Int)):Option (Bool×Bool) :=
 Option.bind (Option.bind (Cp a0 a1_0 a1_1 a1_2 a1_3 a1_4) fun y4 =>
 cond (!y4)
  (some true)
  (Option.bind (Cp a0 a2_0 a2_1 a2_2 a2_3 a2_4) fun y6 =>
  some (!y6))) fun l3_m17 =>
cond l3_m17
 (some (false,false))
 (Option.bind (D1 a0 a1_0 a1_1 a1_2 a1_3 a1_4 a2_0 a2_1 a2_2 a2_3 a2_4) fun y10 =>
 some (y10,true))
def S4 (r:Bool×Bool):RV:=⟨true,[(false,[.sc (.bool r.1)]),(false,[.sc (.bool r.2)])]⟩
theorem Ss {a0:Int} {a1_0:ByteArray} {a1_1:List (Int×Int×ByteArray)} {a1_2:Int} {a1_3:Int} {a1_4:List (List Int)} {a2_0:ByteArray} {a2_1:List (Int×Int×ByteArray)} {a2_2:Int} {a2_3:Int} {a2_4:List (List Int)} {r:Bool×Bool} (h:Dw a0 a1_0 a1_1 a1_2 a1_3 a1_4 a2_0 a2_1 a2_2 a2_3 a2_4=some r):Ax Tryz.prog Tab 7 [ai a0,.agg [.str a1_0,.tree (.pair .int (.pair .int .str)) a1_1,ai a1_2,ai a1_3,.tree (.slice .int) a1_4],.agg [.str a2_0,.tree (.pair .int (.pair .int .str)) a2_1,ai a2_2,ai a2_3,.tree (.slice .int) a2_4]] (S4 r):=by
 refine Ar (by kernel_rfl) Tryz.func7 Vf (n:=22) (by kernel_rfl) (by simp) (tl:=[(0,ai a0),(1,.agg [.str a1_0,.tree (.pair .int (.pair .int .str)) a1_1,ai a1_2,ai a1_3,.tree (.slice .int) a1_4]),(2,.agg [.str a2_0,.tree (.pair .int (.pair .int .str)) a2_1,ai a2_2,ai a2_3,.tree (.slice .int) a2_4])]) rfl ?_;unfold Lu;unfold Dw at h;refine Aj ?_;refine Ab ?_;refine Aw h (fun (l3_m17:Bool) S_=>S_=⟨Ao [(0,ai a0),(4,.box (oi 0 1) 0),(5,.box (oi 1 1) 0),(17,.bool l3_m17)],Ak (Aq [(oi 0 1,.cells 38 [.str a1_0,.tree (.pair .int (.pair .int .str)) a1_1,ai a1_2,ai a1_3,.tree (.slice .int) a1_4]),(oi 1 1,.cells 38 [.str a2_0,.tree (.pair .int (.pair .int .str)) a2_1,ai a2_2,ai a2_3,.tree (.slice .int) a2_4])]),2⟩) ?_ ?_
 ·intro v_ h;obtain ⟨y4,h4,h⟩:=Ae h;rcases Ad h with ⟨q5,h⟩ | ⟨q5,h⟩
  ·refine Aa 15 ?_;refine rz0 (ai a0) ?_;refine rzl (.agg [.str a1_0,.tree (.pair .int (.pair .int .str)) a1_1,ai a1_2,ai a1_3,.tree (.slice .int) a1_4]) ?_;refine zc (.bool y4) [] [ai a0,.agg [.str a1_0,.tree (.pair .int (.pair .int .str)) a1_1,ai a1_2,ai a1_3,.tree (.slice .int) a1_4]] (G7 h4) ?_;refine rz0 (.bool (!y4)) ?_;refine rz0 (.bool (!y4)) ?_;refine zs q5 ?_;refine zs q5 ?_;refine zs q5 ?_;refine zs q5 ?_;refine rs0 (.bool true) (zT q5) ?_;refine An (tn_ ?_);obtain rfl:=zj h;exact ⟨_,Ac [(oi 0 1,oi 4 1),(oi 1 1,oi 5 2)],rfl⟩
  obtain ⟨y6,h6,h⟩:=Ae h;refine Aa 15 ?_;refine rz0 (ai a0) ?_;refine rzl (.agg [.str a1_0,.tree (.pair .int (.pair .int .str)) a1_1,ai a1_2,ai a1_3,.tree (.slice .int) a1_4]) ?_;refine zc (.bool y4) [] [ai a0,.agg [.str a1_0,.tree (.pair .int (.pair .int .str)) a1_1,ai a1_2,ai a1_3,.tree (.slice .int) a1_4]] (G7 h4) ?_;refine rz0 (.bool (!y4)) ?_;refine rz0 (.bool (!y4)) ?_;refine rs0 (ai a0) (zg q5) ?_;refine rsl (.agg [.str a2_0,.tree (.pair .int (.pair .int .str)) a2_1,ai a2_2,ai a2_3,.tree (.slice .int) a2_4]) (zg q5) ?_;refine Bs (.bool y6) [] [ai a0,.agg [.str a2_0,.tree (.pair .int (.pair .int .str)) a2_1,ai a2_2,ai a2_3,.tree (.slice .int) a2_4]] _ (caps:=[]) (args0:=[ai a0,.agg [.str a2_0,.tree (.pair .int (.pair .int .str)) a2_1,ai a2_2,ai a2_3,.tree (.slice .int) a2_4]]) (Bf (by kernel_rfl) q5) (by kernel_rfl) (G7 h6) Qs ?_;refine rs0 (.bool (!y6)) (zg q5) ?_;refine rs0 (.bool (!y6)) (zF q5) ?_;refine An (tn_ ?_);obtain rfl:=zj h;exact ⟨_,Ac [(oi 0 1,oi 4 1),(oi 1 1,oi 5 2)],rfl⟩
 rintro l3_m17 _ rfl h
 (try dsimp only at h);rcases Ad h with ⟨q7,h⟩ | ⟨q7,h⟩
 ·refine Af q7 ?_;refine Aj ?_;refine Ah (tr_ ?_);obtain rfl:=zj h;exact A0 [.bool false,.bool false] (Ap rfl zl (Ap rfl zl As))
 refine Ag q7 ?_;refine Ai (tn_ ?_);refine wr_ ?_;refine Ab ?_;obtain ⟨y10,h10,h⟩:=Ae h;refine Aa 8 ?_;refine rz0 (ai a0) ?_;refine rzl (.agg [.str a1_0,.tree (.pair .int (.pair .int .str)) a1_1,ai a1_2,ai a1_3,.tree (.slice .int) a1_4]) ?_;refine rzl (.agg [.str a2_0,.tree (.pair .int (.pair .int .str)) a2_1,ai a2_2,ai a2_3,.tree (.slice .int) a2_4]) ?_;refine zc (.bool y10) [] [ai a0,.agg [.str a1_0,.tree (.pair .int (.pair .int .str)) a1_1,ai a1_2,ai a1_3,.tree (.slice .int) a1_4],.agg [.str a2_0,.tree (.pair .int (.pair .int .str)) a2_1,ai a2_2,ai a2_3,.tree (.slice .int) a2_4]] (Si h10) ?_;refine rsB 2 ?_;refine An (tn_ ?_);refine wr_ ?_;refine Ah ?_;obtain rfl:=zj h;exact A0 [.bool y10,.bool true] (Ap rfl zl (Ap rfl zl As))
def Hg:AC :=
 (.seq (rg [xo 4 (.i (.box 29 (tm 1))),xo 5 (.i (.box 29 (tm 2))),xo 6 (qm (cb false))])
 (.seq (rg [xo 7 (qm (ci 1048576))])
 (.seq (rg [xo 14 (.i (.ld false 5 (tm 4))),xo 15 (qm (tm 7)),⟨some 16,none,qc 4 [tm 14,tm 15] [[none,some (.pair .int (.pair .int .str)),none,none,some (.slice .int)],[]]⟩,xo 7 (qm (tm 16))])
 (.seq (.seq (rg [xo 17 (qm (tm 7)),xo 18 (qb .lss (tm 17) (ci 0))])
 (.cond (tm 18)
  (.seq (rg [xo 6 (qm (cb true))])
  .ret)
  .skip))
 (.seq (rg [xo 19 (.i (.ld false 5 (tm 5))),xo 20 (qm (tm 7)),⟨some 21,none,qc 4 [tm 19,tm 20] [[none,some (.pair .int (.pair .int .str)),none,none,some (.slice .int)],[]]⟩,xo 7 (qm (tm 21))])
 (.seq (.seq (rg [xo 22 (qm (tm 7)),xo 23 (qb .lss (tm 22) (ci 0))])
 (.cond (tm 23)
  (.seq (rg [xo 6 (qm (cb true))])
  .ret)
  .skip))
 (.seq (.region [xo 25 (qm (tm 0)),xo 26 (.i (.ld false 5 (tm 4))),⟨some 27,none,qc 6 [tm 26] [[none,some (.pair .int (.pair .int .str)),none,none,some (.slice .int)]]⟩,xo 28 (.i (.ld false 5 (tm 5))),⟨some 29,none,qc 6 [tm 28] [[none,some (.pair .int (.pair .int .str)),none,none,some (.slice .int)]]⟩,⟨some 30,none,qc 5 [tm 25,tm 27,tm 29] [[],[none,some (.pair .int (.pair .int .str)),none,none,some (.slice .int)],[none,some (.pair .int (.pair .int .str)),none,none,some (.slice .int)]]⟩,xo 24 (qm (tm 30)),xo 31 (.i (.extr 0 (tm 24))),xo 32 (.i (.extr 1 (tm 24))),xo 8 (qm (tm 31)),xo 9 (qm (tm 32))] true [(2,3)])
 (.seq (rg [xo 33 (.i (.ld false 5 (tm 4))),⟨some 34,none,qc 6 [tm 33] [[none,some (.pair .int (.pair .int .str)),none,none,some (.slice .int)]]⟩,⟨some 10,none,.i (.alloc 38 [.str ⟨#[]⟩,.nils,.int .i64 0,.int .i64 0,.nils])⟩,xn (.st false 5 (tm 10) (tm 34))])
 (.seq (rg [xo 35 (.i (.ld false 5 (tm 5))),⟨some 36,none,qc 6 [tm 35] [[none,some (.pair .int (.pair .int .str)),none,none,some (.slice .int)]]⟩,⟨some 11,none,.i (.alloc 38 [.str ⟨#[]⟩,.nils,.int .i64 0,.int .i64 0,.nils])⟩,xn (.st false 5 (tm 11) (tm 36))])
 (.seq (rg [xo 38 (qm (tm 0)),xo 39 (.i (.ld false 5 (tm 10))),xo 40 (.i (.ld false 5 (tm 11))),⟨some 41,none,qc 7 [tm 38,tm 39,tm 40] [[],[none,some (.pair .int (.pair .int .str)),none,none,some (.slice .int)],[none,some (.pair .int (.pair .int .str)),none,none,some (.slice .int)]]⟩,xo 37 (qm (tm 41)),xo 42 (.i (.extr 0 (tm 37))),xo 43 (.i (.extr 1 (tm 37))),xo 12 (qm (tm 42)),xo 13 (qm (tm 43))])
 (.seq (.seq (rg [xo 44 (qm (tm 12)),xo 45 (qm (tm 8)),xo 46 (.i (.cmp true 0 (tm 44) (tm 45))),xo 47 (qm (tm 46)),⟨some 48,some (47,false),qm (tm 13)⟩,⟨some 49,some (47,false),qm (tm 9)⟩,⟨some 50,some (47,false),.i (.cmp true 0 (tm 48) (tm 49))⟩,xo 51 (.i (.pick (tm 47) (cb true) (tm 50)))])
 (.cond (tm 51)
  (.seq (rg [xo 6 (qm (cb false))])
  .ret)
  .skip))
 (.seq (.seq (.region [xo 52 (.i (.ld false 5 (tm 10))),xo 53 (.i (.ld false 5 (tm 4))),⟨some 54,none,qc 6 [tm 53] [[none,some (.pair .int (.pair .int .str)),none,none,some (.slice .int)]]⟩,⟨some 55,none,qc 8 [tm 52,tm 54] [[none,some (.pair .int (.pair .int .str)),none,none,some (.slice .int)],[none,some (.pair .int (.pair .int .str)),none,none,some (.slice .int)]]⟩,xo 56 (.i (.not (tm 55)))] true [(0,2)])
 (.cond (tm 56)
  (.seq (rg [xo 6 (qm (cb false))])
  .ret)
  .skip))
 (.seq (.seq (.region [xo 57 (.i (.ld false 5 (tm 11))),xo 58 (.i (.ld false 5 (tm 5))),⟨some 59,none,qc 6 [tm 58] [[none,some (.pair .int (.pair .int .str)),none,none,some (.slice .int)]]⟩,⟨some 60,none,qc 8 [tm 57,tm 59] [[none,some (.pair .int (.pair .int .str)),none,none,some (.slice .int)],[none,some (.pair .int (.pair .int .str)),none,none,some (.slice .int)]]⟩,xo 61 (.i (.not (tm 60)))] true [(0,2)])
 (.cond (tm 61)
  (.seq (rg [xo 6 (qm (cb false))])
  .ret)
  .skip))
 (.seq (rg [xo 6 (qm (cb true))])
 .ret))))))))))))))
def Mn:List Res:=[.tmp 6]
theorem Mc:Am Tryz.prog Tryz.f3=some (Hg,Mn):=by kernel_rfl
def B1 (a0:Int) (a1_0:ByteArray) (a1_1:List (Int×Int×ByteArray)) (a1_2:Int) (a1_3:Int) (a1_4:List (List Int)) (a2_0:ByteArray) (a2_1:List (Int×Int×ByteArray)) (a2_2:Int) (a2_3:Int) (a2_4:List (List Int)):Option Bool :=
 Option.bind (Cj a1_0 a1_1 a1_2 a1_3 a1_4 1048576) fun y4 =>
cond (decide (y4<0))
 (some true)
 (Option.bind (Cj a2_0 a2_1 a2_2 a2_3 a2_4 y4) fun y10 =>
 cond (decide (y10<0))
  (some true)
  (Option.bind (Bm a1_0 a1_1 a1_2 a1_3 a1_4) fun y16 =>
  Option.bind (Bm a2_0 a2_1 a2_2 a2_3 a2_4) fun y17 =>
  Option.bind (D0 a0 y16.1 y16.2.1 y16.2.2.1 y16.2.2.2.1 y16.2.2.2.2 y17.1 y17.2.1 y17.2.2.1 y17.2.2.2.1 y17.2.2.2.2) fun y18 =>
  Option.bind (Bm a1_0 a1_1 a1_2 a1_3 a1_4) fun y20 =>
  Option.bind (Bm a2_0 a2_1 a2_2 a2_3 a2_4) fun y22 =>
  Option.bind (Dw a0 y20.1 y20.2.1 y20.2.2.1 y20.2.2.2.1 y20.2.2.2.2 y22.1 y22.2.1 y22.2.2.1 y22.2.2.2.1 y22.2.2.2.2) fun y24 =>
  Option.bind (cond (y24.1 !=y18.1)
    (some true)
    (some (y24.2 !=y18.2))) fun l26_m51 =>
  cond l26_m51
   (some false)
   (Option.bind (Bm a1_0 a1_1 a1_2 a1_3 a1_4) fun y32 =>
   Option.bind (Ck y20.1 y20.2.1 y20.2.2.1 y20.2.2.2.1 y20.2.2.2.2 y32.1 y32.2.1 y32.2.2.1 y32.2.2.2.1 y32.2.2.2.2) fun y33 =>
   cond (!y33)
    (some false)
    (Option.bind (Bm a2_0 a2_1 a2_2 a2_3 a2_4) fun y38 =>
    Option.bind (Ck y22.1 y22.2.1 y22.2.2.1 y22.2.2.2.1 y22.2.2.2.2 y38.1 y38.2.1 y38.2.2.1 y38.2.2.2.1 y38.2.2.2.2) fun y39 =>
    cond (!y39)
     (some false)
     (some true)))))
def Lj (r:Bool):RV:=⟨false,[(false,[.sc (.bool r)])]⟩
theorem Lg {a0:Int} {a1_0:ByteArray} {a1_1:List (Int×Int×ByteArray)} {a1_2:Int} {a1_3:Int} {a1_4:List (List Int)} {a2_0:ByteArray} {a2_1:List (Int×Int×ByteArray)} {a2_2:Int} {a2_3:Int} {a2_4:List (List Int)} {r:Bool} (h:B1 a0 a1_0 a1_1 a1_2 a1_3 a1_4 a2_0 a2_1 a2_2 a2_3 a2_4=some r):Ax Tryz.prog Tab 3 [ai a0,.agg [.str a1_0,.tree (.pair .int (.pair .int .str)) a1_1,ai a1_2,ai a1_3,.tree (.slice .int) a1_4],.agg [.str a2_0,.tree (.pair .int (.pair .int .str)) a2_1,ai a2_2,ai a2_3,.tree (.slice .int) a2_4]] (Lj r):=by
 refine Ar (by kernel_rfl) Tryz.func3 Mc (n:=62) (by kernel_rfl) (by simp) (tl:=[(0,ai a0),(1,.agg [.str a1_0,.tree (.pair .int (.pair .int .str)) a1_1,ai a1_2,ai a1_3,.tree (.slice .int) a1_4]),(2,.agg [.str a2_0,.tree (.pair .int (.pair .int .str)) a2_1,ai a2_2,ai a2_3,.tree (.slice .int) a2_4])]) rfl ?_;unfold Hg;unfold B1 at h;refine Aj ?_;refine Aj ?_;refine Ab ?_;obtain ⟨y4,h4,h⟩:=Ae h;refine Aa 9 ?_;refine rzl (.agg [.str a1_0,.tree (.pair .int (.pair .int .str)) a1_1,ai a1_2,ai a1_3,.tree (.slice .int) a1_4]) ?_;refine rz0 (ai 1048576) ?_;refine zc (ai y4) [] [.agg [.str a1_0,.tree (.pair .int (.pair .int .str)) a1_1,ai a1_2,ai a1_3,.tree (.slice .int) a1_4],ai 1048576] (Jr h4) ?_;refine rsB 1 ?_;refine An (tn_ ?_);refine wr_ ?_;refine Ab ?_;refine Aj ?_;rcases Ad h with ⟨q7,h⟩ | ⟨q7,h⟩
 ·have q7_:=of_decide_eq_true q7;refine Af q7 ?_;refine Aj ?_;refine Ah (tr_ ?_);obtain rfl:=zj h;exact A0 [.bool true] (Ap rfl zl As)
 have q7_:=of_decide_eq_false q7;refine Ag q7 ?_;refine Ai (tn_ ?_);refine wr_ ?_;refine Ab ?_;obtain ⟨y10,h10,h⟩:=Ae h;refine Aa 15 ?_;refine rzl (.agg [.str a2_0,.tree (.pair .int (.pair .int .str)) a2_1,ai a2_2,ai a2_3,.tree (.slice .int) a2_4]) ?_;refine rz0 (ai y4) ?_;refine zc (ai y10) [] [.agg [.str a2_0,.tree (.pair .int (.pair .int .str)) a2_1,ai a2_2,ai a2_3,.tree (.slice .int) a2_4],ai y4] (Jr h10) ?_;refine rsB 1 ?_;refine An (tn_ ?_);refine wr_ ?_;refine Ab ?_;refine Aj ?_;rcases Ad h with ⟨q13,h⟩ | ⟨q13,h⟩
 ·have q13_:=of_decide_eq_true q13;refine Af q13 ?_;refine Aj ?_;refine Ah (tr_ ?_);obtain rfl:=zj h;exact A0 [.bool true] (Ap rfl zl As)
 have q13_:=of_decide_eq_false q13;refine Ag q13 ?_;refine Ai (tn_ ?_);refine wr_ ?_;refine Ab ?_;obtain ⟨y16,h16,h⟩:=Ae h;obtain ⟨y17,h17,h⟩:=Ae h;obtain ⟨y18,h18,h⟩:=Ae h;refine A1 28 ?_;refine dz0 (ai a0) ?_;refine dzl (.agg [.str a1_0,.tree (.pair .int (.pair .int .str)) a1_1,ai a1_2,ai a1_3,.tree (.slice .int) a1_4]) ?_;refine Da (.agg [.str y16.1,.tree (.pair .int (.pair .int .str)) y16.2.1,ai y16.2.2.1,ai y16.2.2.2.1,.tree (.slice .int) y16.2.2.2.2]) [] [.agg [.str a1_0,.tree (.pair .int (.pair .int .str)) a1_1,ai a1_2,ai a1_3,.tree (.slice .int) a1_4]] _ (caps:=[]) (args0:=[.agg [.str a1_0,.tree (.pair .int (.pair .int .str)) a1_1,ai a1_2,ai a1_3,.tree (.slice .int) a1_4]]) trivial (by kernel_rfl) (Cc h16) Ed ?_;refine dzl (.agg [.str a2_0,.tree (.pair .int (.pair .int .str)) a2_1,ai a2_2,ai a2_3,.tree (.slice .int) a2_4]) ?_;refine Da (.agg [.str y17.1,.tree (.pair .int (.pair .int .str)) y17.2.1,ai y17.2.2.1,ai y17.2.2.2.1,.tree (.slice .int) y17.2.2.2.2]) [] [.agg [.str a2_0,.tree (.pair .int (.pair .int .str)) a2_1,ai a2_2,ai a2_3,.tree (.slice .int) a2_4]] _ (caps:=[]) (args0:=[.agg [.str a2_0,.tree (.pair .int (.pair .int .str)) a2_1,ai a2_2,ai a2_3,.tree (.slice .int) a2_4]]) trivial (by kernel_rfl) (Cc h17) Ed ?_;refine Da (.tup [.bool y18.1,.bool y18.2]) [] [ai a0,.agg [.str y16.1,.tree (.pair .int (.pair .int .str)) y16.2.1,ai y16.2.2.1,ai y16.2.2.2.1,.tree (.slice .int) y16.2.2.2.2],.agg [.str y17.1,.tree (.pair .int (.pair .int .str)) y17.2.1,ai y17.2.2.1,ai y17.2.2.2.1,.tree (.slice .int) y17.2.2.2.2]] _ (caps:=[]) (args0:=[ai a0,.agg [.str y16.1,.tree (.pair .int (.pair .int .str)) y16.2.1,ai y16.2.2.1,ai y16.2.2.2.1,.tree (.slice .int) y16.2.2.2.2],.agg [.str y17.1,.tree (.pair .int (.pair .int .str)) y17.2.1,ai y17.2.2.1,ai y17.2.2.2.1,.tree (.slice .int) y17.2.2.2.2]]) trivial (by kernel_rfl) (Sn h18) T1 ?_;refine dz0 (.tup [.bool y18.1,.bool y18.2]) ?_;refine dz0 (.bool y18.1) ?_;refine dz0 (.bool y18.2) ?_;refine dz0 (.bool y18.1) ?_;refine dz0 (.bool y18.2) ?_;refine F2 (Bc (by kernel_rfl)) (tn_ ?_);refine wr_ ?_;refine Ab ?_;obtain ⟨y20,h20,h⟩:=Ae h;refine Aa 32 ?_;refine rzl (.agg [.str a1_0,.tree (.pair .int (.pair .int .str)) a1_1,ai a1_2,ai a1_3,.tree (.slice .int) a1_4]) ?_;refine zc (.agg [.str y20.1,.tree (.pair .int (.pair .int .str)) y20.2.1,ai y20.2.2.1,ai y20.2.2.2.1,.tree (.slice .int) y20.2.2.2.2]) [] [.agg [.str a1_0,.tree (.pair .int (.pair .int .str)) a1_1,ai a1_2,ai a1_3,.tree (.slice .int) a1_4]] (Cc h20) ?_;refine rsB 2 ?_;refine An (tn_ ?_);refine wr_ ?_;refine Ab ?_;obtain ⟨y22,h22,h⟩:=Ae h;refine Aa 36 ?_;refine rzl (.agg [.str a2_0,.tree (.pair .int (.pair .int .str)) a2_1,ai a2_2,ai a2_3,.tree (.slice .int) a2_4]) ?_;refine zc (.agg [.str y22.1,.tree (.pair .int (.pair .int .str)) y22.2.1,ai y22.2.2.1,ai y22.2.2.2.1,.tree (.slice .int) y22.2.2.2.2]) [] [.agg [.str a2_0,.tree (.pair .int (.pair .int .str)) a2_1,ai a2_2,ai a2_3,.tree (.slice .int) a2_4]] (Cc h22) ?_;refine rsB 2 ?_;refine An (tn_ ?_);refine wr_ ?_;refine Ab ?_;obtain ⟨y24,h24,h⟩:=Ae h;refine Aa 45 ?_;refine rz0 (ai a0) ?_;refine rzl (.agg [.str y20.1,.tree (.pair .int (.pair .int .str)) y20.2.1,ai y20.2.2.1,ai y20.2.2.2.1,.tree (.slice .int) y20.2.2.2.2]) ?_;refine rzl (.agg [.str y22.1,.tree (.pair .int (.pair .int .str)) y22.2.1,ai y22.2.2.1,ai y22.2.2.2.1,.tree (.slice .int) y22.2.2.2.2]) ?_;refine zc (.tup [.bool y24.1,.bool y24.2]) [] [ai a0,.agg [.str y20.1,.tree (.pair .int (.pair .int .str)) y20.2.1,ai y20.2.2.1,ai y20.2.2.2.1,.tree (.slice .int) y20.2.2.2.2],.agg [.str y22.1,.tree (.pair .int (.pair .int .str)) y22.2.1,ai y22.2.2.1,ai y22.2.2.2.1,.tree (.slice .int) y22.2.2.2.2]] (Ss h24) ?_;refine rsB 5 ?_;refine An (tn_ ?_);refine wr_ ?_;refine Ab ?_;refine Aw h (fun (l26_m51:Bool) S_=>S_=⟨Ao [(4,.box (oi 0 1) 0),(5,.box (oi 1 1) 0),(10,.box (oi 2 1) 0),(11,.box (oi 3 1) 0),(51,.bool l26_m51)],Ak (Aq [(oi 0 1,.cells 29 [.str a1_0,.tree (.pair .int (.pair .int .str)) a1_1,ai a1_2,ai a1_3,.tree (.slice .int) a1_4]),(oi 1 1,.cells 29 [.str a2_0,.tree (.pair .int (.pair .int .str)) a2_1,ai a2_2,ai a2_3,.tree (.slice .int) a2_4]),(oi 2 1,.cells 38 [.str y20.1,.tree (.pair .int (.pair .int .str)) y20.2.1,ai y20.2.2.1,ai y20.2.2.2.1,.tree (.slice .int) y20.2.2.2.2]),(oi 3 1,.cells 38 [.str y22.1,.tree (.pair .int (.pair .int .str)) y22.2.1,ai y22.2.2.1,ai y22.2.2.2.1,.tree (.slice .int) y22.2.2.2.2])]),2⟩) ?_ ?_
 ·intro v_ h;rcases Ad h with ⟨q27,h⟩ | ⟨q27,h⟩
  ·refine Aa 53 ?_;refine rz0 (.bool y24.1) ?_;refine rz0 (.bool y18.1) ?_;refine rz0 (.bool (y24.1 !=y18.1)) ?_;refine rz0 (.bool (y24.1 !=y18.1)) ?_;refine zs q27 ?_;refine zs q27 ?_;refine zs q27 ?_;refine rs0 (.bool true) (zT q27) ?_;refine An (tn_ ?_);obtain rfl:=zj h;exact ⟨_,Ac [(oi 0 1,oi 4 1),(oi 1 1,oi 5 2),(oi 2 1,oi 10 30),(oi 3 1,oi 11 34)],rfl⟩
  refine Aa 53 ?_;refine rz0 (.bool y24.1) ?_;refine rz0 (.bool y18.1) ?_;refine rz0 (.bool (y24.1 !=y18.1)) ?_;refine rz0 (.bool (y24.1 !=y18.1)) ?_;refine rs0 (.bool y24.2) (zg q27) ?_;refine rs0 (.bool y18.2) (zg q27) ?_;refine rs0 (.bool (y24.2 !=y18.2)) (zg q27) ?_;refine rs0 (.bool (y24.2 !=y18.2)) (zF q27) ?_;refine An (tn_ ?_);obtain rfl:=zj h;exact ⟨_,Ac [(oi 0 1,oi 4 1),(oi 1 1,oi 5 2),(oi 2 1,oi 10 30),(oi 3 1,oi 11 34)],rfl⟩
 rintro l26_m51 _ rfl h
 (try dsimp only at h);rcases Ad h with ⟨q28,h⟩ | ⟨q28,h⟩
 ·refine Af q28 ?_;refine Aj ?_;refine Ah (tr_ ?_);obtain rfl:=zj h;exact A0 [.bool false] (Ap rfl zl As)
 refine Ag q28 ?_;refine Ai (tn_ ?_);refine wr_ ?_;refine Ab ?_;refine Ab ?_;obtain ⟨y32,h32,h⟩:=Ae h;obtain ⟨y33,h33,h⟩:=Ae h;refine A1 7 ?_;refine dzl (.agg [.str y20.1,.tree (.pair .int (.pair .int .str)) y20.2.1,ai y20.2.2.1,ai y20.2.2.2.1,.tree (.slice .int) y20.2.2.2.2]) ?_;refine dzl (.agg [.str a1_0,.tree (.pair .int (.pair .int .str)) a1_1,ai a1_2,ai a1_3,.tree (.slice .int) a1_4]) ?_;refine Da (.agg [.str y32.1,.tree (.pair .int (.pair .int .str)) y32.2.1,ai y32.2.2.1,ai y32.2.2.2.1,.tree (.slice .int) y32.2.2.2.2]) [] [.agg [.str a1_0,.tree (.pair .int (.pair .int .str)) a1_1,ai a1_2,ai a1_3,.tree (.slice .int) a1_4]] _ (caps:=[]) (args0:=[.agg [.str a1_0,.tree (.pair .int (.pair .int .str)) a1_1,ai a1_2,ai a1_3,.tree (.slice .int) a1_4]]) trivial (by kernel_rfl) (Cc h32) Ed ?_;refine Da (.bool y33) [] [.agg [.str y20.1,.tree (.pair .int (.pair .int .str)) y20.2.1,ai y20.2.2.1,ai y20.2.2.2.1,.tree (.slice .int) y20.2.2.2.2],.agg [.str y32.1,.tree (.pair .int (.pair .int .str)) y32.2.1,ai y32.2.2.1,ai y32.2.2.2.1,.tree (.slice .int) y32.2.2.2.2]] _ (caps:=[]) (args0:=[.agg [.str y20.1,.tree (.pair .int (.pair .int .str)) y20.2.1,ai y20.2.2.1,ai y20.2.2.2.1,.tree (.slice .int) y20.2.2.2.2],.agg [.str y32.1,.tree (.pair .int (.pair .int .str)) y32.2.1,ai y32.2.2.1,ai y32.2.2.2.1,.tree (.slice .int) y32.2.2.2.2]]) trivial (by kernel_rfl) (Jz h33) Jx ?_;refine dz0 (.bool (!y33)) ?_;refine F2 (Bc (by kernel_rfl)) (tn_ ?_);refine wr_ ?_;rcases Ad h with ⟨q34,h⟩ | ⟨q34,h⟩
 ·refine Af q34 ?_;refine Aj ?_;refine Ah (tr_ ?_);obtain rfl:=zj h;exact A0 [.bool false] (Ap rfl zl As)
 refine Ag q34 ?_;refine Ai (tn_ ?_);refine wr_ ?_;refine Ab ?_;refine Ab ?_;obtain ⟨y38,h38,h⟩:=Ae h;obtain ⟨y39,h39,h⟩:=Ae h;refine A1 12 ?_;refine dzl (.agg [.str y22.1,.tree (.pair .int (.pair .int .str)) y22.2.1,ai y22.2.2.1,ai y22.2.2.2.1,.tree (.slice .int) y22.2.2.2.2]) ?_;refine dzl (.agg [.str a2_0,.tree (.pair .int (.pair .int .str)) a2_1,ai a2_2,ai a2_3,.tree (.slice .int) a2_4]) ?_;refine Da (.agg [.str y38.1,.tree (.pair .int (.pair .int .str)) y38.2.1,ai y38.2.2.1,ai y38.2.2.2.1,.tree (.slice .int) y38.2.2.2.2]) [] [.agg [.str a2_0,.tree (.pair .int (.pair .int .str)) a2_1,ai a2_2,ai a2_3,.tree (.slice .int) a2_4]] _ (caps:=[]) (args0:=[.agg [.str a2_0,.tree (.pair .int (.pair .int .str)) a2_1,ai a2_2,ai a2_3,.tree (.slice .int) a2_4]]) trivial (by kernel_rfl) (Cc h38) Ed ?_;refine Da (.bool y39) [] [.agg [.str y22.1,.tree (.pair .int (.pair .int .str)) y22.2.1,ai y22.2.2.1,ai y22.2.2.2.1,.tree (.slice .int) y22.2.2.2.2],.agg [.str y38.1,.tree (.pair .int (.pair .int .str)) y38.2.1,ai y38.2.2.1,ai y38.2.2.2.1,.tree (.slice .int) y38.2.2.2.2]] _ (caps:=[]) (args0:=[.agg [.str y22.1,.tree (.pair .int (.pair .int .str)) y22.2.1,ai y22.2.2.1,ai y22.2.2.2.1,.tree (.slice .int) y22.2.2.2.2],.agg [.str y38.1,.tree (.pair .int (.pair .int .str)) y38.2.1,ai y38.2.2.1,ai y38.2.2.2.1,.tree (.slice .int) y38.2.2.2.2]]) trivial (by kernel_rfl) (Jz h39) Jx ?_;refine dz0 (.bool (!y39)) ?_;refine F2 (Bc (by kernel_rfl)) (tn_ ?_);refine wr_ ?_;rcases Ad h with ⟨q40,h⟩ | ⟨q40,h⟩
 ·refine Af q40 ?_;refine Aj ?_;refine Ah (tr_ ?_);obtain rfl:=zj h;exact A0 [.bool false] (Ap rfl zl As)
 refine Ag q40 ?_;refine Ai (tn_ ?_);refine wr_ ?_;refine Aj ?_;refine Ah ?_;obtain rfl:=zj h;exact A0 [.bool true] (Ap rfl zl As)
end
section
section
variable {α β σ ρ:Type}
theorem Ag4 {body:σ->Option (Ctl σ ρ)} {Post:ρ->Prop} (n:Nat) (I:Nat->σ->Prop)
  (hs:∀ i s,i<n->I i s->(∃ s',body s=some (.next s')∧I (i+1) s')∨∃ r,body s=some (.out r)∧Post r) (he:∀ s,I n s->∃ r,body s=some (.out r)∧Post r) :
  ∀ (F k:Nat) (s:σ),k<=n->n - k<F->I k s->∃ r,A4 body F s=some r∧Post r
 | 0,_,_,_,h,_=>by omega
 | F+1,k,s,hk,h,hi=>by
  have key:(∃ r,body s=some (.out r)∧Post r)->∃ r,A4 body (F+1) s=some r∧Post r:=by
   rintro ⟨r,h1,h2⟩;exact ⟨r,by simp only [A4,h1,obs,Ctl.then],h2⟩
  rcases Nat.lt_or_ge k n with hlt | hge
  ·rcases hs k s hlt hi with ⟨s',h1,h2⟩ | h
   ·obtain ⟨r,h3,h4⟩:=Ag4 n I hs he F (k+1) s' hlt (by omega) h2;exact ⟨r,by simp only [A4,h1,obs,Ctl.then]; exact h3,h4⟩
   ·exact key h
  ·obtain rfl:k=n:=by omega
   exact key (he s hi)
theorem Km {body:σ->Option (Ctl σ ρ)} {Post:ρ->Prop} (n:Nat) (I:Nat->σ->Prop) {F:Nat} (hn:n<F) {s0:σ} (h0:I 0 s0)
  (hs:∀ i s,i<n->I i s->(∃ s',body s=some (.next s')∧I (i+1) s')∨∃ r,body s=some (.out r)∧Post r) (he:∀ s,I n s->∃ r,body s=some (.out r)∧Post r):∃ r,A4 body F s0=some r∧Post r :=
 Ag4 n I hs he F 0 s0 (Nat.zero_le _) (by omega) h0
theorem Hq {body:σ->Option (Ctl σ ρ)} (n:Nat) (I:Nat->σ->Prop) {F:Nat} (hn:n<F) {s0:σ} (r:ρ) (h0:I 0 s0)
  (hs:∀ i s,i<n->I i s->(∃ s',body s=some (.next s')∧I (i+1) s')∨body s=some (.out r)) (he:∀ s,I n s->body s=some (.out r)):A4 body F s0=some r:=by
 obtain ⟨r',h1,rfl⟩:=Km (Post:=fun r'=>r'=r) n I hn h0 (fun i s hi hI=>(hs i s hi hI).imp id fun h=>⟨r,h,rfl⟩) (fun s h=>⟨r,he s h,rfl⟩);exact h1
theorem B0 {body:σ->Option (Ctl σ ρ)} (n:Nat) (S:Nat->σ) {F:Nat} (hn:n<F) {s0:σ} (r:ρ) (h0:s0=S 0) (hs:∀ i,i<n->body (S i)=some (.next (S (i+1)))) (he:body (S n)=some (.out r)):A4 body F s0=some r:=by
 subst h0;refine Hq n (fun i s=>s=S i) hn r rfl (fun i s hi e=>.inl ?_) (fun s e=>by subst e; exact he);subst e;exact ⟨_,hs i hi,rfl⟩
theorem Em {body:Nat->Option (Ctl Nat ρ)} (xs:List α) (q:α->Bool) (good bad:ρ) {F:Nat} (hn:xs.length<F) (hs:∀ i x,xs[i]? =some x->body i=some (if q x then .next (i+1) else .out bad)) (he:body xs.length=some (.out good)):A4 body F 0=some (if xs.all q then good else bad):=by
 refine Hq xs.length (fun i s=>s=i∧(xs.take i).all q=true) hn _ ⟨rfl,by simp⟩ ?_ ?_
 ·rintro i s hi ⟨hsi,hq⟩;subst s;have hx:=gEg hi;rw [hs i _ hx];cases hc:q xs[i]
  ·refine .inr ?_
   have:xs.all q=false:=by
    rw [Bool.eq_false_iff];intro ha;rw [List.all_eq_true] at ha;rw [ha _ (List.getElem_mem hi)] at hc;cases hc
   rw [this]; rfl
  ·refine .inl ⟨i+1,rfl,rfl,?_⟩;rw [List.take_add_one,List.all_append,hq,hx];simp [hc]
 ·rintro s ⟨rfl,hq⟩;rw [List.take_length] at hq;rw [he,hq]; rfl
theorem Agy {body:Nat->Option (Ctl Nat ρ)} (xs:List α) (q:α->Bool) (none_:ρ) (g:Nat->ρ) {F:Nat} (hn:xs.length<F) (hs:∀ i x,xs[i]? =some x->body i=some (if q x then .out (g i) else .next (i+1))) (he:body xs.length=some (.out none_)) :
  (xs.any q=true∧∃ i,i<xs.length∧A4 body F 0=some (g i))∨(xs.any q=false∧A4 body F 0=some none_):=by
 have key:∃ r,A4 body F 0=some r∧((xs.any q=true∧∃ i,i<xs.length∧r=g i)∨(xs.any q=false∧r=none_)):=by
  refine Km xs.length (fun i s=>s=i∧(xs.take i).any q=false) hn ⟨rfl,by simp⟩ ?_ ?_
  ·rintro i s hi ⟨hsi,hq⟩;subst s;have hx:=gEg hi;rw [hs i _ hx];cases hc:q xs[i]
   ·refine .inl ⟨i+1,rfl,rfl,?_⟩;rw [List.take_add_one,List.any_append,hq,hx];simp [hc]
   ·exact .inr ⟨_,rfl,.inl ⟨List.any_eq_true.2 ⟨_,List.getElem_mem hi,hc⟩,i,hi,rfl⟩⟩
  ·rintro s ⟨hsi,hq⟩;subst hsi;rw [List.take_length] at hq;exact ⟨_,he,.inr ⟨hq,rfl⟩⟩
 obtain ⟨r,h,⟨h1,i,hi,rfl⟩ | ⟨h1,rfl⟩⟩:=key
 ·exact .inl ⟨h1,i,hi,h⟩
 ·exact .inr ⟨h1,h⟩
theorem Agq {body:Nat×List β->Option (Ctl (Nat×List β) ρ)} (xs:List α) (f:α->β) (ys:List β) {F:Nat} (hn:xs.length<F) (r:ρ) (hs:∀ i x,xs[i]? =some x->body (i,ys++(xs.take i).map f)=some (.next (i+1,(ys++(xs.take i).map f)++[f x]))) (he:body (xs.length,ys++xs.map f)=some (.out r)):A4 body F (0,ys)=some r:=by
 refine B0 xs.length (fun i=>(i,ys++(xs.take i).map f)) hn r (by simp) (fun i hi=>?_) (by rw [List.take_length]; exact he);have hx:=gEg hi;rw [hs i _ hx,List.take_add_one,hx];simp only [List.map_append,Option.toList,List.map_cons,List.map_nil,List.append_assoc]
theorem W3 {xs:List α} {d:α} {i:Nat} (h:i<xs.length):(xs.take i++List.replicate (xs.length - i) d)[i]? =some d:=by
 have h1:(xs.take i).length=i:=by rw [List.length_take]; omega
 rw [List.getElem?_append_right (by omega),h1,Nat.sub_self,List.getElem?_replicate,if_pos (by omega)]
theorem W1 {xs:List α} {d x:α} {i:Nat} (h:xs[i]? =some x):(xs.take i++List.replicate (xs.length - i) d).set i x=xs.take (i+1)++List.replicate (xs.length - (i+1)) d:=by
 have hi:=(gSi.1 h).1;have e:xs.length - i=(xs.length - (i+1))+1:=by omega
 rw [List.take_add_one,h,e,List.replicate_succ,List.set_append,if_neg (by simp; omega)];simp [Nat.min_eq_left (Nat.le_of_lt hi)]
theorem M3 {xs ys:List α} {i:Nat} (h:i<xs.length) (hl:ys.length=i):(ys++xs.drop i)[i]? =some xs[i]:=by
 rw [List.getElem?_append_right (by omega),hl];simp [List.getElem?_drop,h]
theorem Nk {xs ys:List α} {y:α} {i:Nat} (h:i<xs.length) (hl:ys.length=i):(ys++xs.drop i).set i y=(ys++[y])++xs.drop (i+1):=by
 rw [List.set_append,if_neg (by omega),hl,Nat.sub_self,List.drop_eq_getElem_cons h,List.append_assoc];rfl
end
theorem Bw {n:Int} (h1: -9223372036854775808<=n) (h2:n<9223372036854775808):wI n=n:=Go.IntWalk.i64_in _ (by omega)
theorem A9 {p:Prop} [Decidable p] (h:p):decide p=true:=decide_eq_true h
theorem A8 {p:Prop} [Decidable p] (h:¬ p):decide p=false:=decide_eq_false h
end
end Go.Proofs.YtodopnonpadpfaaGreatDoor
