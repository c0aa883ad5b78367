/- Lemmas on the program and on partial functions that stand in place of its code (part 7); no condition beyond those that each one states. -/
import Derived.Test.YtodopnonpadpfaaDoorZ6
import Derived.Laws.Strings
import Derived.KernelRfl
namespace Go.Proofs.YtodopnonpadpfaaDoor
section
open Go.RowKit Go.Deep
set_option maxRecDepth 4000
def Ru:AC :=
 (.seq (rg [xo 1 (.i (.box 87 (tm 0))),xo 2 (qm (cb false))])
 (.seq (.seq (rg [xo 3 (qf 2 (tm 1)),xo 4 (ql (tm 3)),⟨some 5,none,.i (.bin .neq (tm 4) (.cst (.str ⟨#[]⟩)))⟩,xo 6 (qm (tm 5)),⟨some 7,some (6,false),qf 0 (tm 1)⟩,⟨some 8,some (6,false),ql (tm 7)⟩,⟨some 9,some (6,false),qc 51 [tm 8,ci 1,ci 14] [[],[],[]]⟩,⟨some 10,some (6,false),.i (.not (tm 9))⟩,xo 11 (.i (.pick (tm 6) (cb true) (tm 10)))])
 (.cond (tm 11)
  (.seq (rg [xo 2 (qm (cb false))])
  .ret)
  .skip))
 (.seq (.seq (rg [xo 12 (qf 0 (tm 1)),xo 13 (ql (tm 12))])
 (.block 0 (.seq (rg [xo 15 (qb .eql (tm 13) (ci 1)),xo 14 (qm (tm 15))])
 (.cond (tm 14)
  (.seq (rg [xo 16 (qf 1 (tm 1)),xo 17 (ql (tm 16)),xo 18 (qc 51 [tm 17,ci 0,ci 12] [[],[],[]]),xo 2 (qm (tm 18))])
  .ret)
  (.seq (.seq (rg [xo 20 (qb .eql (tm 13) (ci 7)),xo 19 (qm (tm 20))])
  (.cond (tm 19)
   .skip
   (rg [xo 21 (qb .eql (tm 13) (ci 13)),xo 19 (qm (tm 21))])))
  (.cond (tm 19)
   (.seq (rg [xo 22 (qf 1 (tm 1)),xo 23 (ql (tm 22)),xo 24 (qc 51 [tm 23,ci 0,ci 96] [[],[],[]]),xo 2 (qm (tm 24))])
   .ret)
   .skip))))))
 (.seq (rg [xo 25 (qf 1 (tm 1)),xo 26 (ql (tm 25)),xo 27 (qb .eql (tm 26) (ci 0)),xo 2 (qm (tm 27))])
 .ret))))
def Ad0:List Res:=[.tmp 2]
theorem Ad6:Am Tryd.prog Tryd.f81=some (Ru,Ad0):=by kernel_rfl
def Hj (a0_0:Int) (a0_1:Int) (a0_2:ByteArray):Option Bool :=
 Option.bind (cond (!(a0_2.toList==(⟨#[]⟩:ByteArray).toList))
  (some true)
  (Option.bind (Bz a0_0 1 14) fun y5 =>
  some (!y5))) fun l3_m11 =>
cond l3_m11
 (some false)
 (cond (a0_0==1)
  (Option.bind (Bz a0_1 0 12) fun y13 =>
  some y13)
  (Option.bind (cond (a0_0==7)
    (some (a0_0==7))
    (some (a0_0==13))) fun l14_m19 =>
  cond l14_m19
   (Option.bind (Bz a0_1 0 96) fun y19 =>
   some y19)
   (some (a0_1==0))))
def Zf (r:Bool):RV:=⟨false,[(false,[.sc (.bool r)])]⟩
theorem O5 {a0_0:Int} {a0_1:Int} {a0_2:ByteArray} {r:Bool} (h:Hj a0_0 a0_1 a0_2=some r):Aw Tryd.prog Tab 81 [.agg [ai a0_0,ai a0_1,.str a0_2]] (Zf r):=by
 refine At (by kernel_rfl) Tryd.func81 Ad6 (n:=28) (by kernel_rfl) (by simp) (tl:=[(0,.agg [ai a0_0,ai a0_1,.str a0_2])]) rfl ?_;unfold Ru;unfold Hj at h;refine Ak ?_;refine Ab ?_;refine Ax h (fun (l3_m11:Bool) S_=>S_=⟨An [(1,.box (oi 0 1) 0),(11,.bool l3_m11)],Aj (Ap [(oi 0 1,.cells 87 [ai a0_0,ai a0_1,.str a0_2])]),2⟩) ?_ ?_
 ·intro v_ h;rcases Ad h with ⟨q4,h⟩ | ⟨q4,h⟩
  ·refine Aa 12 ?_;refine rz0 (.box (oi 1 1) 2) ?_;refine rzl (.str a0_2) ?_;refine rz0 (.bool (!(a0_2.toList==(⟨#[]⟩:ByteArray).toList))) ?_;refine rz0 (.bool (!(a0_2.toList==(⟨#[]⟩:ByteArray).toList))) ?_;refine zs q4 ?_;refine zs q4 ?_;refine zs q4 ?_;refine zs q4 ?_;refine rs0 (.bool true) (zT q4) ?_;refine Ao (tn_ ?_);obtain rfl:=zj h;exact ⟨_,Ac [(oi 0 1,oi 1 1)],rfl⟩
  obtain ⟨y5,h5,h⟩:=Ag h;refine Aa 12 ?_;refine rz0 (.box (oi 1 1) 2) ?_;refine rzl (.str a0_2) ?_;refine rz0 (.bool (!(a0_2.toList==(⟨#[]⟩:ByteArray).toList))) ?_;refine rz0 (.bool (!(a0_2.toList==(⟨#[]⟩:ByteArray).toList))) ?_;refine rs0 (.box (oi 1 1) 0) (zg q4) ?_;refine rsl (ai a0_0) (zg q4) ?_;refine B3 (.bool y5) [] [ai a0_0,ai 1,ai 14] _ (caps:=[]) (args0:=[ai a0_0,ai 1,ai 14]) (Bi (by kernel_rfl) q4) (by kernel_rfl) (Bm h5) Fj ?_;refine rs0 (.bool (!y5)) (zg q4) ?_;refine rs0 (.bool (!y5)) (zF q4) ?_;refine Ao (tn_ ?_);obtain rfl:=zj h;exact ⟨_,Ac [(oi 0 1,oi 1 1)],rfl⟩
 rintro l3_m11 _ rfl h
 (try dsimp only at h);rcases Ad h with ⟨q6,h⟩ | ⟨q6,h⟩
 ·refine Af q6 ?_;refine Ak ?_;refine Ah (tr_ ?_);obtain rfl:=zj h;exact A3 [.bool false] (Aq rfl zl Ar)
 refine Ae q6 ?_;refine Ai (tn_ ?_);refine wr_ ?_;refine Ab ?_;refine Ak ?_;refine Al ?_;refine Ak ?_;rcases Ad h with ⟨q11,h⟩ | ⟨q11,h⟩
 ·refine Af q11 ?_;refine Ab ?_;obtain ⟨y13,h13,h⟩:=Ag h;refine Aa 10 ?_;refine rz0 (.box (oi 0 1) 1) ?_;refine rzl (ai a0_1) ?_;refine zc (.bool y13) [] [ai a0_1,ai 0,ai 12] (Bm h13) ?_;refine rsB 1 ?_;refine Ao (tn_ ?_);refine wr_ ?_;refine Ah (br_ (tr_ ?_));obtain rfl:=zj h;exact A3 [.bool y13] (Aq rfl zl Ar)
 refine Ae q11 ?_;refine Ax h (fun (l14_m19:Bool) S_=>S_=⟨An [(1,.box (oi 0 1) 0),(19,.bool l14_m19)],Aj (Ap [(oi 0 1,.cells 87 [ai a0_0,ai a0_1,.str a0_2])]),2⟩) ?_ ?_
 ·intro v_ h;refine Ak ?_;rcases Ad h with ⟨q16,h⟩ | ⟨q16,h⟩
  ·refine Af q16 ?_;refine Ai (tn_ ?_);obtain rfl:=zj h;exact ⟨_,Ac [],rfl⟩
  refine Ae q16 ?_;refine Aa 10 ?_;refine rsB 2 ?_;refine Ao (tn_ ?_);obtain rfl:=zj h;exact ⟨_,Ac [],rfl⟩
 rintro l14_m19 _ rfl h
 (try dsimp only at h);rcases Ad h with ⟨q17,h⟩ | ⟨q17,h⟩
 ·refine Af q17 ?_;refine Ab ?_;obtain ⟨y19,h19,h⟩:=Ag h;refine Aa 6 ?_;refine rz0 (.box (oi 0 1) 1) ?_;refine rzl (ai a0_1) ?_;refine zc (.bool y19) [] [ai a0_1,ai 0,ai 96] (Bm h19) ?_;refine rsB 1 ?_;refine Ao (tn_ ?_);refine wr_ ?_;refine Ah (br_ (tr_ ?_));obtain rfl:=zj h;exact A3 [.bool y19] (Aq rfl zl Ar)
 refine Ae q17 ?_;refine Ai (bn_ (tn_ ?_));refine wr_ ?_;refine Ak ?_;refine Ah ?_;obtain rfl:=zj h;exact A3 [.bool (a0_1==0)] (Aq rfl zl Ar)
def Rd:AC :=
 (.seq (rg [xo 2 (qm (ci 0)),xo 3 (qm (ci 0))])
 (.seq (.seq (rg [xo 4 (qm (tm 0))])
 (.block 0 (.seq (rg [xo 6 (qb .eql (tm 4) (ci 2)),xo 5 (qm (tm 6))])
 (.cond (tm 5)
  (.seq (rg [xo 2 (qm (ci 2)),xo 3 (qm (ci 2))])
  .ret)
  (.seq (.seq (rg [xo 8 (qb .eql (tm 4) (ci 3)),xo 7 (qm (tm 8))])
  (.cond (tm 7)
   .skip
   (rg [xo 9 (qb .eql (tm 4) (ci 11)),xo 7 (qm (tm 9))])))
  (.cond (tm 7)
   (.seq (rg [xo 2 (qm (ci 1)),xo 3 (qm (ci 2))])
   .ret)
   (.seq (.seq (rg [xo 11 (qb .eql (tm 4) (ci 4)),xo 10 (qm (tm 11))])
   (.cond (tm 10)
    .skip
    (rg [xo 12 (qb .eql (tm 4) (ci 12)),xo 10 (qm (tm 12))])))
   (.cond (tm 10)
    (.seq (rg [xo 2 (qm (ci 1)),xo 3 (qm (ci 0))])
    .ret)
    (.seq (.seq (rg [xo 14 (qb .eql (tm 4) (ci 5)),xo 13 (qm (tm 14))])
    (.cond (tm 13)
     .skip
     (rg [xo 15 (qb .eql (tm 4) (ci 9)),xo 13 (qm (tm 15))])))
    (.cond (tm 13)
     (.seq (rg [xo 2 (qm (ci 2)),xo 3 (qm (ci 1))])
     .ret)
     (.seq (.seq (rg [xo 17 (qb .eql (tm 4) (ci 6)),xo 16 (qm (tm 17))])
     (.cond (tm 16)
      .skip
      (rg [xo 18 (qb .eql (tm 4) (ci 10)),xo 16 (qm (tm 18))])))
     (.cond (tm 16)
      (.seq (rg [xo 2 (qm (ci 0)),xo 3 (qm (ci 1))])
      .ret)
      .skip))))))))))))
 (.seq (rg [xo 2 (qm (ci 1)),xo 3 (qm (ci 1))])
 .ret)))
def Aeu:List Res:=[.tmp 2,.tmp 3]
theorem Ac3:Am Tryd.prog Tryd.f93=some (Rd,Aeu):=by kernel_rfl
def Hd (a0:Int):Option (Int×Int) :=
 cond (a0==2)
 (some (2,2))
 (Option.bind (cond (a0==3)
   (some (a0==3))
   (some (a0==11))) fun l7_m7 =>
 cond l7_m7
  (some (1,2))
  (Option.bind (cond (a0==4)
    (some (a0==4))
    (some (a0==12))) fun l12_m10 =>
  cond l12_m10
   (some (1,0))
   (Option.bind (cond (a0==5)
     (some (a0==5))
     (some (a0==9))) fun l17_m13 =>
   cond l17_m13
    (some (2,1))
    (Option.bind (cond (a0==6)
      (some (a0==6))
      (some (a0==10))) fun l22_m16 =>
    cond l22_m16
     (some (0,1))
     (some (1,1))))))
def Zu (r:Int×Int):RV:=⟨true,[(false,[.sc (.int .i64 r.1)]),(false,[.sc (.int .i64 r.2)])]⟩
theorem Aax {a0:Int} {r:Int×Int} (h:Hd a0=some r):Aw Tryd.prog Tab 93 [ai a0] (Zu r):=by
 refine At (by kernel_rfl) Tryd.func93 Ac3 (n:=19) (by kernel_rfl) (by simp) (tl:=[(0,ai a0)]) rfl ?_;unfold Rd;unfold Hd at h;refine Ak ?_;refine Ab ?_;refine Ak ?_;refine Al ?_;refine Ak ?_;rcases Ad h with ⟨q5,h⟩ | ⟨q5,h⟩
 ·refine Af q5 ?_;refine Ak ?_;refine Ah (br_ (tr_ ?_));obtain rfl:=zj h;exact A3 [ai 2,ai 2] (Aq rfl zl (Aq rfl zl Ar))
 refine Ae q5 ?_;refine Ax h (fun (l7_m7:Bool) S_=>S_=⟨An [(4,ai a0),(7,.bool l7_m7)],Aj (Ap []),2⟩) ?_ ?_
 ·intro v_ h;refine Ak ?_;rcases Ad h with ⟨q9,h⟩ | ⟨q9,h⟩
  ·refine Af q9 ?_;refine Ai (tn_ ?_);obtain rfl:=zj h;exact ⟨_,Ac [],rfl⟩
  refine Ae q9 ?_;refine Aa 10 ?_;refine rsB 2 ?_;refine Ao (tn_ ?_);obtain rfl:=zj h;exact ⟨_,Ac [],rfl⟩
 rintro l7_m7 _ rfl h
 (try dsimp only at h);rcases Ad h with ⟨q10,h⟩ | ⟨q10,h⟩
 ·refine Af q10 ?_;refine Ak ?_;refine Ah (br_ (tr_ ?_));obtain rfl:=zj h;exact A3 [ai 1,ai 2] (Aq rfl zl (Aq rfl zl Ar))
 refine Ae q10 ?_;refine Ax h (fun (l12_m10:Bool) S_=>S_=⟨An [(4,ai a0),(10,.bool l12_m10)],Aj (Ap []),2⟩) ?_ ?_
 ·intro v_ h;refine Ak ?_;rcases Ad h with ⟨q14,h⟩ | ⟨q14,h⟩
  ·refine Af q14 ?_;refine Ai (tn_ ?_);obtain rfl:=zj h;exact ⟨_,Ac [],rfl⟩
  refine Ae q14 ?_;refine Aa 6 ?_;refine rsB 2 ?_;refine Ao (tn_ ?_);obtain rfl:=zj h;exact ⟨_,Ac [],rfl⟩
 rintro l12_m10 _ rfl h
 (try dsimp only at h);rcases Ad h with ⟨q15,h⟩ | ⟨q15,h⟩
 ·refine Af q15 ?_;refine Ak ?_;refine Ah (br_ (tr_ ?_));obtain rfl:=zj h;exact A3 [ai 1,ai 0] (Aq rfl zl (Aq rfl zl Ar))
 refine Ae q15 ?_;refine Ax h (fun (l17_m13:Bool) S_=>S_=⟨An [(4,ai a0),(13,.bool l17_m13)],Aj (Ap []),2⟩) ?_ ?_
 ·intro v_ h;refine Ak ?_;rcases Ad h with ⟨q19,h⟩ | ⟨q19,h⟩
  ·refine Af q19 ?_;refine Ai (tn_ ?_);obtain rfl:=zj h;exact ⟨_,Ac [],rfl⟩
  refine Ae q19 ?_;refine Aa 6 ?_;refine rsB 2 ?_;refine Ao (tn_ ?_);obtain rfl:=zj h;exact ⟨_,Ac [],rfl⟩
 rintro l17_m13 _ rfl h
 (try dsimp only at h);rcases Ad h with ⟨q20,h⟩ | ⟨q20,h⟩
 ·refine Af q20 ?_;refine Ak ?_;refine Ah (br_ (tr_ ?_));obtain rfl:=zj h;exact A3 [ai 2,ai 1] (Aq rfl zl (Aq rfl zl Ar))
 refine Ae q20 ?_;refine Ax h (fun (l22_m16:Bool) S_=>S_=⟨An [(16,.bool l22_m16)],Aj (Ap []),2⟩) ?_ ?_
 ·intro v_ h;refine Ak ?_;rcases Ad h with ⟨q24,h⟩ | ⟨q24,h⟩
  ·refine Af q24 ?_;refine Ai (tn_ ?_);obtain rfl:=zj h;exact ⟨_,Ac [],rfl⟩
  refine Ae q24 ?_;refine Aa 6 ?_;refine rsB 2 ?_;refine Ao (tn_ ?_);obtain rfl:=zj h;exact ⟨_,Ac [],rfl⟩
 rintro l22_m16 _ rfl h
 (try dsimp only at h);rcases Ad h with ⟨q25,h⟩ | ⟨q25,h⟩
 ·refine Af q25 ?_;refine Ak ?_;refine Ah (br_ (tr_ ?_));obtain rfl:=zj h;exact A3 [ai 0,ai 1] (Aq rfl zl (Aq rfl zl Ar))
 refine Ae q25 ?_;refine Ai (bn_ (tn_ ?_));refine wr_ ?_;refine Ak ?_;refine Ah ?_;obtain rfl:=zj h;exact A3 [ai 1,ai 1] (Aq rfl zl (Aq rfl zl Ar))
def Pq:AC :=
 (.seq (rg [xo 1 (.i (.box 87 (tm 0))),xo 2 (qm (ci 0)),xo 3 (qm (ci 0))])
 (.seq (.seq (rg [xo 4 (qf 0 (tm 1)),xo 5 (ql (tm 4)),xo 6 (qb .eql (tm 5) (ci 1))])
 (.cond (tm 6)
  (.seq (.region [xo 7 (qf 1 (tm 1)),xo 8 (ql (tm 7)),xo 9 (qf 1 (tm 1)),xo 10 (ql (tm 9)),xo 2 (qm (tm 8)),xo 3 (qm (tm 10))] true [])
  .ret)
  .skip))
 (.seq (rg [xo 11 (qf 0 (tm 1)),xo 12 (ql (tm 11)),xo 13 (qc 93 [tm 12] [[]]),xo 14 (.i (.extr 0 (tm 13))),xo 15 (.i (.extr 1 (tm 13))),xo 2 (qm (tm 14)),xo 3 (qm (tm 15))])
 .ret)))
def Abz:List Res:=[.tmp 2,.tmp 3]
theorem Ze:Am Tryd.prog Tryd.f82=some (Pq,Abz):=by kernel_rfl
def Dl (a0_0:Int) (a0_1:Int) (a0_2:ByteArray):Option (Int×Int) :=
 cond (a0_0==1)
 (some (a0_1,a0_1))
 (Option.bind (Hd a0_0) fun y7 =>
 some (y7.1,y7.2))
def Xy (r:Int×Int):RV:=⟨true,[(false,[.sc (.int .i64 r.1)]),(false,[.sc (.int .i64 r.2)])]⟩
theorem Xx {a0_0:Int} {a0_1:Int} {a0_2:ByteArray} {r:Int×Int} (h:Dl a0_0 a0_1 a0_2=some r):Aw Tryd.prog Tab 82 [.agg [ai a0_0,ai a0_1,.str a0_2]] (Xy r):=by
 refine At (by kernel_rfl) Tryd.func82 Ze (n:=16) (by kernel_rfl) (by simp) (tl:=[(0,.agg [ai a0_0,ai a0_1,.str a0_2])]) rfl ?_;unfold Pq;unfold Dl at h;refine Ak ?_;refine Ab ?_;refine Ak ?_;rcases Ad h with ⟨q4,h⟩ | ⟨q4,h⟩
 ·refine Af q4 ?_;refine Ab ?_;refine A4 13 ?_;refine dsB 6 ?_;refine Gw (Bf (by kernel_rfl)) (tn_ ?_);refine wr_ ?_;refine Ah (tr_ ?_);obtain rfl:=zj h;exact A3 [ai a0_1,ai a0_1] (Aq rfl zl (Aq rfl zl Ar))
 refine Ae q4 ?_;refine Ai (tn_ ?_);refine wr_ ?_;refine Ab ?_;obtain ⟨y7,h7,h⟩:=Ag h;refine Aa 14 ?_;refine rz0 (.box (oi 1 1) 0) ?_;refine rzl (ai a0_0) ?_;refine zc (.tup [ai y7.1,ai y7.2]) [] [ai a0_0] (Aax h7) ?_;refine rsB 4 ?_;refine Ao (tn_ ?_);refine wr_ ?_;refine Ah ?_;obtain rfl:=zj h;exact A3 [ai y7.1,ai y7.2] (Aq rfl zl (Aq rfl zl Ar))
def Md:AC :=
 (.seq (rg [xo 10 (qb .lss (tm 9) (tm 8))])
 (.seq (.cond (tm 10)
  .skip
  (.exit 0))
 (.seq (.block 1 (.seq (rg [xo 11 (qm (tm 9)),xo 12 (qx 4 (tm 7) (tm 9)),xo 13 (.i (.ld false 4 (tm 12))),⟨some 6,none,.i (.alloc 103 [.str ⟨#[]⟩,.int .i64 0,.int .i64 0,.nils])⟩,xo 5 (qm (tm 11)),xn (.st false 4 (tm 6) (tm 13))])
 (.seq (rg [xo 14 (qf 0 (tm 6)),xo 15 (ql (tm 14)),xo 16 (qm (tm 1)),xo 17 (qb .eql (tm 15) (tm 16))])
 (.cond (tm 17)
  (.seq (rg [xo 18 (qm (tm 5)),xo 4 (qm (tm 18))])
  .ret)
  .skip))))
 (rg [xo 19 (qb .add (tm 9) (ci 1)),xo 9 (qm (tm 19))]))))
def Rj:AC :=
 (.seq (rg [xo 4 (qm (ci 0))])
 (.seq (.seq (rg [xo 7 (qm (tm 0)),xo 8 (.i (.len (tm 7))),xo 9 (qm (ci 0))])
 (.block 0 (.loop Md)))
 (.seq (rg [xo 4 (qm (ci (-1)))])
 .ret)))
def Aee:List Res:=[.tmp 4]
theorem Adw:Am Tryd.prog Tryd.f40=some (Rj,Aee):=by kernel_rfl
theorem Zd:A8 Tryd.prog 40=true:=by kernel_rfl
def Ck (a0:List (ByteArray×Int×Int×List (Int×Int×ByteArray))) (a1:ByteArray) (l4_m9:Nat):Option (Ctl Nat (Ctl Unit Int)) :=
 cond (decide (((l4_m9:Nat):Int)<((a0.length:Nat):Int)))
 (Option.bind (a0[l4_m9]?) fun x10 =>
 cond (x10.1.toList==a1.toList)
  (some (Ctl.out (Ctl.out ((l4_m9:Nat):Int))))
  (og (l4_m9+1<4611686018427387904) <|
  some (Ctl.next (l4_m9+1))))
 (some (Ctl.out (Ctl.next ())))
def Fw (a0:List (ByteArray×Int×Int×List (Int×Int×ByteArray))) (a1:ByteArray):Option Int :=
 Du (A7 (fun s_:Nat=>Ck a0 a1 s_) 4611686018427387904 0) fun _ =>
some (-1)
def Z4 (r:Int):RV:=⟨false,[(false,[.sc (.int .i64 r)])]⟩
theorem Pu {a0:List (ByteArray×Int×Int×List (Int×Int×ByteArray))} {a1:ByteArray} {r:Int} (h:Fw a0 a1=some r):Aw Tryd.prog Tab 40 [.tree (.pair .str (.pair .int (.pair .int (.slice (.pair .int (.pair .int .str)))))) a0,.str a1] (Z4 r):=by
 refine At (by kernel_rfl) Tryd.func40 Adw (n:=20) (by kernel_rfl) (by simp) (tl:=[(0,.tree (.pair .str (.pair .int (.pair .int (.slice (.pair .int (.pair .int .str)))))) a0),(1,.str a1)]) rfl ?_;unfold Rj;unfold Fw at h;refine Ak ?_;refine Bj h (fun (_:Unit) S_=>S_=⟨An [],Aj (Ap []),2⟩) ?_ ?_
 ·intro v_ h hk2;refine Ak ?_;refine Al ?_;refine A6 h (fun (l4_m9:Nat) S_=>S_=⟨An [(1,.str a1),(7,.tree (.pair .str (.pair .int (.pair .int (.slice (.pair .int (.pair .int .str)))))) a0),(8,ai ((a0.length:Nat):Int)),(9,ai ((l4_m9:Nat):Int))],Aj (Ap []),2⟩) ⟨_,Ac [],rfl⟩ ?_;rintro n_ l4_m9 _ c_ rfl h hn4
  (try dsimp only at h);unfold Ck at h;unfold Md;refine Ak ?_;refine Ab ?_;rcases Ad h with ⟨q7,h⟩ | ⟨q7,h⟩
  ·have q7_:=of_decide_eq_true q7;refine Af q7 ?_;refine Ai (tn_ ?_);refine wr_ ?_;refine Ab ?_;refine Al ?_;refine Ab ?_;obtain ⟨x10,e10,h⟩:=Ag h;refine Aa 9 ?_;refine rz0 (ai ((l4_m9:Nat):Int)) ?_;refine rs0 (.telt none (.pair .str (.pair .int (.pair .int (.slice (.pair .int (.pair .int .str)))))) x10 0) (zi (t:=.pair .str (.pair .int (.pair .int (.slice (.pair .int (.pair .int .str)))))) (xs:=a0) (k:=.i64) (m:=((l4_m9:Nat):Int)) (Ay _) e10) ?_;refine rsB 4 ?_;refine Ao (tn_ ?_);refine wr_ ?_;refine Ak ?_;rcases Ad h with ⟨q12,h⟩ | ⟨q12,h⟩
   ·refine Af q12 ?_;refine Ak ?_;refine Ah (br_ (tr_ (tr_ (br_ (tr_ ?_)))));obtain rfl:=zj h;have h:=hn4
    (try dsimp only at h);obtain rfl:=zj h;have h:=hk2
    (try dsimp only at h);obtain rfl:=zj h;exact A3 [ai ((l4_m9:Nat):Int)] (Aq rfl zl Ar)
   refine Ae q12 ?_;refine Ai (bn_ (tn_ ?_));refine wr_ ?_;obtain ⟨g14,h⟩:=Av h;refine Aa 15 ?_;refine rs0 (ai ((l4_m9+1:Nat):Int)) (za g14) ?_;refine rsB 1 ?_;refine Ao (tn_ ?_);obtain rfl:=zj h;exact ⟨l4_m9+1,_,Ac [],rfl,hn4⟩
  have q7_:=of_decide_eq_false q7;refine Ae q7 ?_;refine Az (te_ (te_ (be_ (tn_ ?_))));obtain rfl:=zj h;have h:=hn4
  (try dsimp only at h);obtain rfl:=zj h;exact ⟨(),_,rfl,Ac [],rfl⟩
 rintro _ _ rfl h
 (try dsimp only at h);refine Ak ?_;refine Ah ?_;obtain rfl:=zj h;exact A3 [ai (-1)] (Aq rfl zl Ar)
def Mc:AC :=
 (.seq (rg [xo 26 (qb .lss (tm 25) (tm 24))])
 (.seq (.cond (tm 26)
  .skip
  (.exit 0))
 (.seq (.block 1 (.seq (rg [xo 27 (qm (tm 25)),xo 28 (qx 3 (tm 23) (tm 25)),xo 29 (.i (.ld false 3 (tm 28))),⟨some 8,none,.i (.alloc 87 [.int .i64 0,.int .i64 0,.str ⟨#[]⟩])⟩,xo 7 (qm (tm 27)),xn (.st false 3 (tm 8) (tm 29))])
 (.seq (.seq (rg [xo 30 (.i (.ld false 3 (tm 8))),xo 31 (qc 81 [tm 30] [[none,none,none]]),xo 32 (qm (tm 31)),⟨some 33,some (32,false),qf 0 (tm 8)⟩,⟨some 34,some (32,false),ql (tm 33)⟩,⟨some 35,some (32,false),qb .eql (tm 34) (ci 17)⟩,xo 36 (.i (.pick (tm 32) (cb true) (tm 35)))])
 (.cond (tm 36)
  (.seq (rg [xo 38 (.i (.ld false 3 (tm 8))),xo 39 (qc 82 [tm 38] [[none,none,none]]),xo 37 (qm (tm 39)),xo 40 (.i (.extr 0 (tm 37))),xo 41 (.i (.extr 1 (tm 37))),xo 9 (qm (tm 40)),xo 10 (qm (tm 41))])
  (.seq (.seq (rg [xo 42 (qf 0 (tm 8)),xo 43 (ql (tm 42)),xo 44 (qb .eql (tm 43) (ci 17))])
  (.cond (tm 44)
   (.seq (rg [xo 45 (qm (tm 0)),xo 46 (qf 2 (tm 8)),xo 47 (ql (tm 46)),⟨some 48,none,qc 40 [tm 45,tm 47] [[some (.pair .str (.pair .int (.pair .int (.slice (.pair .int (.pair .int .str))))))],[]]⟩,xo 11 (qm (tm 48))])
   (.seq (.seq (rg [xo 49 (qm (tm 11)),xo 50 (qb .lss (tm 49) (ci 0)),xo 51 (qm (tm 50)),⟨some 52,some (51,false),qf 1 (tm 8)⟩,⟨some 53,some (51,false),ql (tm 52)⟩,⟨some 54,some (51,false),qb .neq (tm 53) (ci 0)⟩,xo 55 (.i (.pick (tm 51) (cb true) (tm 54)))])
   (.cond (tm 55)
    (.seq (rg [xo 56 (.i (.ld false 3 (tm 6))),xn (.st false 3 (tm 4) (tm 56)),xo 5 (qm (cb false))])
    .ret)
    .skip))
   (.region [xo 57 (qm (tm 0)),xo 58 (qm (tm 11)),xo 59 (qx 4 (tm 57) (tm 58)),xo 60 (qf 1 (tm 59)),xo 61 (ql (tm 60)),xo 62 (qm (tm 0)),xo 63 (qm (tm 11)),xo 64 (qx 4 (tm 62) (tm 63)),xo 65 (qf 2 (tm 64)),xo 66 (ql (tm 65)),xo 9 (qm (tm 61)),xo 10 (qm (tm 66))] true [])))
   .skip))
  (.seq (rg [xo 67 (qf 0 (tm 6)),xo 68 (ql (tm 67)),xo 69 (qm (tm 7)),xo 70 (.mkS 3 .int [tm 69]),xo 71 (.append 3 .int 8 (tm 68) (tm 70)),xo 72 (qf 0 (tm 6)),xn (qs (tm 72) (tm 71))])
  (.seq (rg [xo 73 (qf 1 (tm 6)),xo 74 (ql (tm 73)),xo 75 (qm (tm 9)),xo 76 (.mkS 3 .int [tm 75]),xo 77 (.append 3 .int 8 (tm 74) (tm 76)),xo 78 (qf 1 (tm 6)),xn (qs (tm 78) (tm 77))])
  (.seq (rg [xo 79 (qf 2 (tm 6)),xo 80 (ql (tm 79)),xo 81 (qm (tm 10)),xo 82 (.mkS 3 .int [tm 81]),xo 83 (.append 3 .int 8 (tm 80) (tm 82)),xo 84 (qf 2 (tm 6)),xn (qs (tm 84) (tm 83))])
  (.exit 1))))))
  .skip))
 (.seq (.seq (rg [xo 85 (qf 0 (tm 8)),xo 86 (ql (tm 85)),xo 87 (qb .neq (tm 86) (ci 15)),xo 88 (qm (tm 87)),⟨some 89,some (88,true),qf 0 (tm 8)⟩,⟨some 90,some (88,true),ql (tm 89)⟩,⟨some 91,some (88,true),qb .neq (tm 90) (ci 16)⟩,xo 92 (.i (.pick (tm 88) (tm 91) (cb false))),xo 93 (qm (tm 92)),⟨some 94,some (93,false),qf 2 (tm 8)⟩,⟨some 95,some (93,false),ql (tm 94)⟩,⟨some 96,some (93,false),.i (.bin .neq (tm 95) (.cst (.str ⟨#[]⟩)))⟩,xo 97 (.i (.pick (tm 93) (cb true) (tm 96))),xo 98 (qm (tm 97)),⟨some 99,some (98,false),qf 1 (tm 8)⟩,⟨some 100,some (98,false),ql (tm 99)⟩,⟨some 101,some (98,false),qb .neq (tm 100) (ci 0)⟩,xo 102 (.i (.pick (tm 98) (cb true) (tm 101))),xo 103 (qm (tm 102)),⟨some 104,some (103,false),qm (tm 7)⟩,⟨some 105,some (103,false),qb .lss (tm 104) (ci 2)⟩,xo 106 (.i (.pick (tm 103) (cb true) (tm 105))),xo 107 (qm (tm 106)),⟨some 108,some (107,false),qf 0 (tm 6)⟩,⟨some 109,some (107,false),ql (tm 108)⟩,⟨some 110,some (107,false),qm (tm 7)⟩,⟨some 111,some (107,false),qb .sub (tm 110) (ci 1)⟩,⟨some 112,some (107,false),qx 1 (tm 109) (tm 111)⟩,⟨some 113,some (107,false),ql (tm 112)⟩,⟨some 114,some (107,false),qb .lss (tm 113) (ci 1)⟩,xo 115 (.i (.pick (tm 107) (cb true) (tm 114)))])
 (.cond (tm 115)
  (.seq (rg [xo 116 (.i (.ld false 3 (tm 6))),xn (.st false 3 (tm 4) (tm 116)),xo 5 (qm (cb false))])
  .ret)
  .skip))
 (.seq (rg [xo 117 (qm (tm 7)),xo 118 (qb .sub (tm 117) (ci 1)),xo 12 (qm (tm 118))])
 (.seq (rg [xo 119 (qf 0 (tm 6)),xo 120 (ql (tm 119)),xo 121 (qm (tm 12)),xo 122 (qx 1 (tm 120) (tm 121)),xo 123 (ql (tm 122)),xo 124 (qb .sub (tm 123) (ci 1)),xo 13 (qm (tm 124))])
 (.seq (.region [xo 125 (qf 1 (tm 6)),xo 126 (ql (tm 125)),xo 127 (qm (tm 13)),xo 128 (qx 1 (tm 126) (tm 127)),xo 129 (ql (tm 128)),xo 130 (qf 1 (tm 6)),xo 131 (ql (tm 130)),xo 132 (qm (tm 12)),xo 133 (qx 1 (tm 131) (tm 132)),xo 134 (ql (tm 133)),xo 135 (qb .add (tm 129) (tm 134)),xo 136 (qf 2 (tm 6)),xo 137 (ql (tm 136)),xo 138 (qm (tm 13)),xo 139 (qx 1 (tm 137) (tm 138)),xo 140 (ql (tm 139)),xo 141 (qf 2 (tm 6)),xo 142 (ql (tm 141)),xo 143 (qm (tm 12)),xo 144 (qx 1 (tm 142) (tm 143)),xo 145 (ql (tm 144)),xo 146 (qb .add (tm 140) (tm 145)),xo 14 (qm (tm 135)),xo 15 (qm (tm 146))] true [])
 (.seq (.seq (rg [xo 147 (qf 0 (tm 8)),xo 148 (ql (tm 147)),xo 149 (qb .eql (tm 148) (ci 15))])
 (.cond (tm 149)
  (.seq (.seq (.region [xo 150 (qf 2 (tm 6)),xo 151 (ql (tm 150)),xo 152 (qm (tm 13)),xo 153 (qx 1 (tm 151) (tm 152)),xo 154 (ql (tm 153)),xo 155 (qf 1 (tm 6)),xo 156 (ql (tm 155)),xo 157 (qm (tm 12)),xo 158 (qx 1 (tm 156) (tm 157)),xo 159 (ql (tm 158)),xo 160 (qb .neq (tm 154) (tm 159))] true [])
  (.cond (tm 160)
   (.seq (rg [xo 161 (.i (.ld false 3 (tm 6))),xn (.st false 3 (tm 4) (tm 161)),xo 5 (qm (cb false))])
   .ret)
   .skip))
  (.region [xo 162 (qf 1 (tm 6)),xo 163 (ql (tm 162)),xo 164 (qm (tm 13)),xo 165 (qx 1 (tm 163) (tm 164)),xo 166 (ql (tm 165)),xo 167 (qf 2 (tm 6)),xo 168 (ql (tm 167)),xo 169 (qm (tm 12)),xo 170 (qx 1 (tm 168) (tm 169)),xo 171 (ql (tm 170)),xo 14 (qm (tm 166)),xo 15 (qm (tm 171))] true []))
  .skip))
 (.seq (.seq (rg [xo 172 (qm (tm 14)),xo 173 (qb .gtr (tm 172) (ci 12)),xo 174 (qm (tm 173)),⟨some 175,some (174,false),qm (tm 15)⟩,⟨some 176,some (174,false),qb .gtr (tm 175) (ci 12)⟩,xo 177 (.i (.pick (tm 174) (cb true) (tm 176)))])
 (.cond (tm 177)
  (.seq (rg [xo 178 (.i (.ld false 3 (tm 6))),xn (.st false 3 (tm 4) (tm 178)),xo 5 (qm (cb false))])
  .ret)
  .skip))
 (.seq (.region [xo 179 (qf 0 (tm 6)),xo 180 (ql (tm 179)),xo 181 (qf 0 (tm 6)),xo 182 (ql (tm 181)),xo 183 (qm (tm 13)),xo 184 (qx 1 (tm 182) (tm 183)),xo 185 (ql (tm 184)),xo 186 (.mkS 3 .int [tm 185]),xo 187 (.append 3 .int 8 (tm 180) (tm 186)),xo 188 (qf 0 (tm 6)),xn (qs (tm 188) (tm 187))] true [])
 (.seq (rg [xo 189 (qf 1 (tm 6)),xo 190 (ql (tm 189)),xo 191 (qm (tm 14)),xo 192 (.mkS 3 .int [tm 191]),xo 193 (.append 3 .int 8 (tm 190) (tm 192)),xo 194 (qf 1 (tm 6)),xn (qs (tm 194) (tm 193))])
 (rg [xo 195 (qf 2 (tm 6)),xo 196 (ql (tm 195)),xo 197 (qm (tm 15)),xo 198 (.mkS 3 .int [tm 197]),xo 199 (.append 3 .int 8 (tm 196) (tm 198)),xo 200 (qf 2 (tm 6)),xn (qs (tm 200) (tm 199))]))))))))))))
 (rg [xo 201 (qb .add (tm 25) (ci 1)),xo 25 (qm (tm 201))]))))
def R8:AC :=
 (.seq (rg [xo 3 (.i (.box 34 (tm 1))),xo 4 (.i (.alloc 81 [.nils,.nils,.nils])),xo 5 (qm (cb false))])
 (.seq (rg [xo 6 (.i (.alloc 81 [.nils,.nils,.nils]))])
 (.seq (.seq (rg [xo 16 (qf 0 (tm 3)),xo 17 (ql (tm 16)),xo 18 (.i (.len (tm 17))),xo 19 (qc 51 [tm 18,ci 1,ci 400] [[],[],[]]),xo 20 (.i (.not (tm 19)))])
 (.cond (tm 20)
  (.seq (rg [xo 21 (.i (.ld false 3 (tm 6))),xn (.st false 3 (tm 4) (tm 21)),xo 5 (qm (cb false))])
  .ret)
  .skip))
 (.seq (.seq (rg [xo 22 (qf 0 (tm 3)),xo 23 (ql (tm 22)),xo 24 (.i (.len (tm 23))),xo 25 (qm (ci 0))])
 (.block 0 (.loop Mc)))
 (.seq (.region [xo 202 (.i (.ld false 3 (tm 6))),xo 203 (qf 0 (tm 6)),xo 204 (ql (tm 203)),xo 205 (qf 0 (tm 3)),xo 206 (ql (tm 205)),xo 207 (.i (.len (tm 206))),xo 208 (qb .sub (tm 207) (ci 1)),xo 209 (qx 1 (tm 204) (tm 208)),xo 210 (ql (tm 209)),xo 211 (qb .eql (tm 210) (ci 0)),xn (.st false 3 (tm 4) (tm 202)),xo 5 (qm (tm 211))] true [(2,10),(4,10),(8,10)])
 .ret)))))
def Aeq:List Res:=[.cell 4 false 3,.tmp 5]
theorem Ac7:Am Tryd.prog Tryd.f67=some (R8,Aeq):=by kernel_rfl
def E3 (a1_0:List (Int×Int×ByteArray)) (a0:List (ByteArray×Int×Int×List (Int×Int×ByteArray))) (l10_m25:Nat) (l10_m6_0:List Int) (l10_m6_1:List Int) (l10_m6_2:List Int):Option (Ctl (Nat×List Int×List Int×List Int) (Ctl (List Int×List Int×List Int) (List Int×List Int×List Int×Bool))) :=
 cond (decide (((l10_m25:Nat):Int)<((a1_0.length:Nat):Int)))
 (Du (Option.bind (a1_0[l10_m25]?) fun x16 =>
  Option.bind (Option.bind (Hj x16.1 x16.2.1 x16.2.2) fun y19 =>
   cond y19
    (some true)
    (some (x16.1==17))) fun l18_m36 =>
  cond l18_m36
   (Option.bind (Dl x16.1 x16.2.1 x16.2.2) fun y23 =>
   Du (cond (x16.1==17)
     (Option.bind (Fw a0 x16.2.2) fun y28 =>
     Option.bind (cond (decide (y28<0))
       (some true)
       (some (x16.2.1 !=0))) fun l30_m55 =>
     cond l30_m55
      (some (Ctl.out (Ctl.out (Ctl.out (Ctl.out (l10_m6_0,l10_m6_1,l10_m6_2,false))))))
      (Option.bind (Fz a0 y28) fun x34 =>
      some (Ctl.next (x34.2.1,x34.2.2.1))))
     (some (Ctl.next (y23.1,y23.2)))) fun (l24_m9,l24_m10) =>
   og (l10_m6_0.length+1<=1073741824∧(l10_m6_0.length+1)*8<=140737488355328) <|
   og (l10_m6_1.length+1<=1073741824∧(l10_m6_1.length+1)*8<=140737488355328) <|
   og (l10_m6_2.length+1<=1073741824∧(l10_m6_2.length+1)*8<=140737488355328) <|
   some (Ctl.next (l10_m6_0++([((l10_m25:Nat):Int)]),l10_m6_1++([l24_m9]),l10_m6_2++([l24_m10]))))
   (Option.bind (cond (x16.1 !=15)
     (cond (x16.1 !=16)
      (some true)
      (cond (!(x16.2.2.toList==(⟨#[]⟩:ByteArray).toList))
       (some true)
       (cond (x16.2.1 !=0)
        (some true)
        (cond (decide (((l10_m25:Nat):Int)<2))
         (some true)
         (Option.bind (Fz l10_m6_0 (wI (((l10_m25:Nat):Int) - 1))) fun x48 =>
         Option.bind (Fz l10_m6_0 (wI (((l10_m25:Nat):Int) - 1))) fun x49 =>
         some (decide (x49<1)))))))
     (cond (!(x16.2.2.toList==(⟨#[]⟩:ByteArray).toList))
      (some true)
      (cond (x16.2.1 !=0)
       (some true)
       (cond (decide (((l10_m25:Nat):Int)<2))
        (some true)
        (Option.bind (Fz l10_m6_0 (wI (((l10_m25:Nat):Int) - 1))) fun x53 =>
        Option.bind (Fz l10_m6_0 (wI (((l10_m25:Nat):Int) - 1))) fun x54 =>
        some (decide (x54<1))))))) fun l42_m115 =>
   cond l42_m115
    (some (Ctl.out (Ctl.out (Ctl.out (l10_m6_0,l10_m6_1,l10_m6_2,false)))))
    (Option.bind (Fz l10_m6_0 (wI (((l10_m25:Nat):Int) - 1))) fun x59 =>
    Option.bind (Fz l10_m6_0 (wI (((l10_m25:Nat):Int) - 1))) fun x60 =>
    Option.bind (Fz l10_m6_1 (wI (x60 - 1))) fun x62 =>
    Option.bind (Fz l10_m6_1 (wI (x60 - 1))) fun x63 =>
    Option.bind (Fz l10_m6_1 (wI (((l10_m25:Nat):Int) - 1))) fun x64 =>
    Option.bind (Fz l10_m6_1 (wI (((l10_m25:Nat):Int) - 1))) fun x65 =>
    Option.bind (Fz l10_m6_2 (wI (x60 - 1))) fun x66 =>
    Option.bind (Fz l10_m6_2 (wI (x60 - 1))) fun x67 =>
    Option.bind (Fz l10_m6_2 (wI (((l10_m25:Nat):Int) - 1))) fun x68 =>
    Option.bind (Fz l10_m6_2 (wI (((l10_m25:Nat):Int) - 1))) fun x69 =>
    Du (cond (x16.1==15)
      (cond (x67 !=x65)
       (some (Ctl.out (Ctl.out (Ctl.out (Ctl.out (l10_m6_0,l10_m6_1,l10_m6_2,false))))))
       (some (Ctl.next (x63,x69))))
      (some (Ctl.next (wI (x63+x65),wI (x67+x69))))) fun (l70_m14,l70_m15) =>
    Option.bind (cond (decide (12<l70_m14))
      (some true)
      (some (decide (12<l70_m15)))) fun l78_m177 =>
    cond l78_m177
     (some (Ctl.out (Ctl.out (Ctl.out (l10_m6_0,l10_m6_1,l10_m6_2,false)))))
     (Option.bind (Fz l10_m6_0 (wI (x60 - 1))) fun x83 =>
     Option.bind (Fz l10_m6_0 (wI (x60 - 1))) fun x84 =>
     og (l10_m6_0.length+1<=1073741824∧(l10_m6_0.length+1)*8<=140737488355328) <|
     og (l10_m6_1.length+1<=1073741824∧(l10_m6_1.length+1)*8<=140737488355328) <|
     og (l10_m6_2.length+1<=1073741824∧(l10_m6_2.length+1)*8<=140737488355328) <|
     some (Ctl.next (l10_m6_0++([x84]),l10_m6_1++([l70_m14]),l10_m6_2++([l70_m15]))))))) fun (l14_m6_0,l14_m6_1,l14_m6_2) =>
 og (l10_m25+1<4611686018427387904) <|
 some (Ctl.next (l10_m25+1,l14_m6_0,l14_m6_1,l14_m6_2)))
 (some (Ctl.out (Ctl.next (l10_m6_0,l10_m6_1,l10_m6_2))))
def Iq (a0:List (ByteArray×Int×Int×List (Int×Int×ByteArray))) (a1_0:List (Int×Int×ByteArray)):Option (List Int×List Int×List Int×Bool) :=
 Option.bind (Bz ((a1_0.length:Nat):Int) 1 400) fun y5 =>
cond (!y5)
 (some ([],[],[],false))
 (Du (A7 (fun s_:Nat×List Int×List Int×List Int=>E3 a1_0 a0 s_.1 s_.2.1 s_.2.2.1 s_.2.2.2) 4611686018427387904 (0,[],[],[])) fun (l8_m6_0,l8_m6_1,l8_m6_2) =>
 Option.bind (Fz l8_m6_0 (wI (((a1_0.length:Nat):Int) - 1))) fun x91 =>
 Option.bind (Fz l8_m6_0 (wI (((a1_0.length:Nat):Int) - 1))) fun x92 =>
 some (l8_m6_0,l8_m6_1,l8_m6_2,x92==0))
def Y0 (r:List Int×List Int×List Int×Bool):RV:=⟨true,[(true,[.new 3 .int r.1,.new 3 .int r.2.1,.new 3 .int r.2.2.1]),(false,[.sc (.bool r.2.2.2)])]⟩
set_option maxHeartbeats 1600000 in
theorem Aby {a0:List (ByteArray×Int×Int×List (Int×Int×ByteArray))} {a1_0:List (Int×Int×ByteArray)} {r:List Int×List Int×List Int×Bool} (h:Iq a0 a1_0=some r):Aw Tryd.prog Tab 67 [.tree (.pair .str (.pair .int (.pair .int (.slice (.pair .int (.pair .int .str)))))) a0,.agg [.tree (.pair .int (.pair .int .str)) a1_0]] (Y0 r):=by
 refine At (by kernel_rfl) Tryd.func67 Ac7 (n:=212) (by kernel_rfl) (by simp) (tl:=[(0,.tree (.pair .str (.pair .int (.pair .int (.slice (.pair .int (.pair .int .str)))))) a0),(1,.agg [.tree (.pair .int (.pair .int .str)) a1_0])]) rfl ?_;unfold R8;unfold Iq at h;refine Ak ?_;refine Ak ?_;refine Ab ?_;refine Ab ?_;obtain ⟨y5,h5,h⟩:=Ag h;refine Aa 10 ?_;refine rz0 (.box (oi 3 1) 0) ?_;refine rzl (.tree (.pair .int (.pair .int .str)) a1_0) ?_;refine rz0 (ai ((a1_0.length:Nat):Int)) ?_;refine zc (.bool y5) [] [ai ((a1_0.length:Nat):Int),ai 1,ai 400] (Bm h5) ?_;refine rsB 1 ?_;refine Ao (tn_ ?_);refine wr_ ?_;rcases Ad h with ⟨q6,h⟩ | ⟨q6,h⟩
 ·refine Af q6 ?_;refine Ak ?_;refine Ah (tr_ ?_);obtain rfl:=zj h;exact A3 [.agg [.nils,.nils,.nils],.bool false] (Gh (Bh (Akq rfl) (Bh (Akq rfl) (Bh (Akq rfl) Gb))) (Aq rfl zl Ar))
 refine Ae q6 ?_;refine Ai (tn_ ?_);refine wr_ ?_;refine Bj h (fun t_ S_=>∃ (l8_m6_0:List Int),∃ (l8_m6_1:List Int),∃ (l8_m6_2:List Int),t_=(l8_m6_0,l8_m6_1,l8_m6_2)∧S_=⟨An [(3,.box (oi 0 1) 0),(4,.box (oi 1 1) 0),(6,.box (oi 2 1) 0)],Aj (Ap [(oi 0 1,.cells 34 [.tree (.pair .int (.pair .int .str)) a1_0]),(oi 1 1,.cells 81 [.nils,.nils,.nils]),(oi 2 1,.cells 81 [.own (oi 3 1) .int 0 l8_m6_0.length,.own (oi 4 1) .int 0 l8_m6_1.length,.own (oi 5 1) .int 0 l8_m6_2.length]),(oi 3 1,.arr 3 .int l8_m6_0),(oi 4 1,.arr 3 .int l8_m6_1),(oi 5 1,.arr 3 .int l8_m6_2)]),2⟩) ?_ ?_
 ·intro v_ h hk8;refine Ak ?_;refine Al ?_;refine A6 h (fun t_ S_=>∃ (l10_m25:Nat),∃ (l10_m6_0:List Int),∃ (l10_m6_1:List Int),∃ (l10_m6_2:List Int),t_=(l10_m25,l10_m6_0,l10_m6_1,l10_m6_2)∧S_=⟨An [(0,.tree (.pair .str (.pair .int (.pair .int (.slice (.pair .int (.pair .int .str)))))) a0),(3,.box (oi 0 1) 0),(4,.box (oi 1 1) 0),(6,.box (oi 2 1) 0),(23,.tree (.pair .int (.pair .int .str)) a1_0),(24,ai ((a1_0.length:Nat):Int)),(25,ai ((l10_m25:Nat):Int))],Aj (Ap [(oi 0 1,.cells 34 [.tree (.pair .int (.pair .int .str)) a1_0]),(oi 1 1,.cells 81 [.nils,.nils,.nils]),(oi 2 1,.cells 81 [.own (oi 3 1) .int 0 l10_m6_0.length,.own (oi 4 1) .int 0 l10_m6_1.length,.own (oi 5 1) .int 0 l10_m6_2.length]),(oi 3 1,.arr 3 .int l10_m6_0),(oi 4 1,.arr 3 .int l10_m6_1),(oi 5 1,.arr 3 .int l10_m6_2)]),2⟩) ⟨_,(Kk 9000 (oi 6 4) 0 81 [.nils,.nils,.nils] [.own (oi 9000 14) .int 0 0,.nils,.nils] 3 .int rfl (by kernel_rfl) (by kernel_rfl) (by kernel_rfl)).trans ((Kk 9001 (oi 6 4) 1 81 [.own (oi 9000 14) .int 0 0,.nils,.nils] [.own (oi 9000 14) .int 0 0,.own (oi 9001 15) .int 0 0,.nils] 3 .int rfl (by kernel_rfl) (by kernel_rfl) (by kernel_rfl)).trans ((Kk 9002 (oi 6 4) 2 81 [.own (oi 9000 14) .int 0 0,.own (oi 9001 15) .int 0 0,.nils] [.own (oi 9000 14) .int 0 0,.own (oi 9001 15) .int 0 0,.own (oi 9002 16) .int 0 0] 3 .int rfl (by kernel_rfl) (by kernel_rfl) (by kernel_rfl)).trans (Ac [(oi 0 1,oi 3 1),(oi 1 1,oi 4 2),(oi 2 1,oi 6 4),(oi 3 1,oi 9000 14),(oi 4 1,oi 9001 15),(oi 5 1,oi 9002 16)]))),⟨0,[],[],[],rfl,rfl⟩⟩ ?_;rintro n_ _ _ c_ ⟨l10_m25,l10_m6_0,l10_m6_1,l10_m6_2,rfl,rfl⟩ h hn10
  (try dsimp only at h);unfold E3 at h;unfold Mc;refine Ak ?_;refine Ab ?_;rcases Ad h with ⟨q13,h⟩ | ⟨q13,h⟩
  ·have q13_:=of_decide_eq_true q13;refine Af q13 ?_;refine Ai (tn_ ?_);refine wr_ ?_;refine Bj h (fun t_ S_=>∃ (l14_m6_0:List Int),∃ (l14_m6_1:List Int),∃ (l14_m6_2:List Int),t_=(l14_m6_0,l14_m6_1,l14_m6_2)∧S_=⟨An [(0,.tree (.pair .str (.pair .int (.pair .int (.slice (.pair .int (.pair .int .str)))))) a0),(3,.box (oi 0 1) 0),(4,.box (oi 1 1) 0),(6,.box (oi 2 1) 0),(23,.tree (.pair .int (.pair .int .str)) a1_0),(24,ai ((a1_0.length:Nat):Int)),(25,ai ((l10_m25:Nat):Int))],Aj (Ap [(oi 0 1,.cells 34 [.tree (.pair .int (.pair .int .str)) a1_0]),(oi 1 1,.cells 81 [.nils,.nils,.nils]),(oi 2 1,.cells 81 [.own (oi 3 1) .int 0 l14_m6_0.length,.own (oi 4 1) .int 0 l14_m6_1.length,.own (oi 5 1) .int 0 l14_m6_2.length]),(oi 3 1,.arr 3 .int l14_m6_0),(oi 4 1,.arr 3 .int l14_m6_1),(oi 5 1,.arr 3 .int l14_m6_2)]),2⟩) ?_ ?_
   ·intro v_ h hk14;refine Al ?_;refine Ab ?_;obtain ⟨x16,e16,h⟩:=Ag h;refine Aa 9 ?_;refine rz0 (ai ((l10_m25:Nat):Int)) ?_;refine rs0 (.telt none (.pair .int (.pair .int .str)) x16 0) (zi (t:=.pair .int (.pair .int .str)) (xs:=a1_0) (k:=.i64) (m:=((l10_m25:Nat):Int)) (Ay _) e16) ?_;refine rsB 4 ?_;refine Ao (tn_ ?_);refine wr_ ?_;refine Ab ?_;refine Ax h (fun (l18_m36:Bool) S_=>S_=⟨An [(0,.tree (.pair .str (.pair .int (.pair .int (.slice (.pair .int (.pair .int .str)))))) a0),(3,.box (oi 0 1) 0),(4,.box (oi 1 1) 0),(6,.box (oi 2 1) 0),(7,ai ((l10_m25:Nat):Int)),(8,.box (oi 3 1) 0),(23,.tree (.pair .int (.pair .int .str)) a1_0),(24,ai ((a1_0.length:Nat):Int)),(25,ai ((l10_m25:Nat):Int)),(36,.bool l18_m36)],Aj (Ap [(oi 0 1,.cells 34 [.tree (.pair .int (.pair .int .str)) a1_0]),(oi 1 1,.cells 81 [.nils,.nils,.nils]),(oi 2 1,.cells 81 [.own (oi 4 1) .int 0 l10_m6_0.length,.own (oi 5 1) .int 0 l10_m6_1.length,.own (oi 6 1) .int 0 l10_m6_2.length]),(oi 3 1,.cells 87 [ai x16.1,ai x16.2.1,.str x16.2.2]),(oi 4 1,.arr 3 .int l10_m6_0),(oi 5 1,.arr 3 .int l10_m6_1),(oi 6 1,.arr 3 .int l10_m6_2)]),2⟩) ?_ ?_
    ·intro v_ h;obtain ⟨y19,h19,h⟩:=Ag h;rcases Ad h with ⟨q20,h⟩ | ⟨q20,h⟩
     ·refine Aa 16 ?_;refine rzl (.agg [ai x16.1,ai x16.2.1,.str x16.2.2]) ?_;refine zc (.bool y19) [] [.agg [ai x16.1,ai x16.2.1,.str x16.2.2]] (O5 h19) ?_;refine rz0 (.bool y19) ?_;refine zs q20 ?_;refine zs q20 ?_;refine zs q20 ?_;refine rs0 (.bool true) (zT q20) ?_;refine Ao (tn_ ?_);obtain rfl:=zj h;exact ⟨_,Ac [(oi 4 1,oi 3 1),(oi 5 1,oi 4 1),(oi 6 1,oi 5 1),(oi 3 1,oi 8 6)],rfl⟩
     refine Aa 16 ?_;refine rzl (.agg [ai x16.1,ai x16.2.1,.str x16.2.2]) ?_;refine zc (.bool y19) [] [.agg [ai x16.1,ai x16.2.1,.str x16.2.2]] (O5 h19) ?_;refine rz0 (.bool y19) ?_;refine rs0 (.box (oi 8 6) 0) (zg q20) ?_;refine rsl (ai x16.1) (zg q20) ?_;refine rs0 (.bool (x16.1==17)) (zg q20) ?_;refine rs0 (.bool (x16.1==17)) (zF q20) ?_;refine Ao (tn_ ?_);obtain rfl:=zj h;exact ⟨_,Ac [(oi 4 1,oi 3 1),(oi 5 1,oi 4 1),(oi 6 1,oi 5 1),(oi 3 1,oi 8 6)],rfl⟩
    rintro l18_m36 _ rfl h
    (try dsimp only at h);rcases Ad h with ⟨q21,h⟩ | ⟨q21,h⟩
    ·refine Af q21 ?_;refine Ab ?_;obtain ⟨y23,h23,h⟩:=Ag h;refine Aa 9 ?_;refine rzl (.agg [ai x16.1,ai x16.2.1,.str x16.2.2]) ?_;refine zc (.tup [ai y23.1,ai y23.2]) [] [.agg [ai x16.1,ai x16.2.1,.str x16.2.2]] (Xx h23) ?_;refine rsB 5 ?_;refine Ao (tn_ ?_);refine wr_ ?_;refine Bj h (fun t_ S_=>∃ (l24_m9:Int),∃ (l24_m10:Int),t_=(l24_m9,l24_m10)∧S_=⟨An [(0,.tree (.pair .str (.pair .int (.pair .int (.slice (.pair .int (.pair .int .str)))))) a0),(3,.box (oi 0 1) 0),(4,.box (oi 1 1) 0),(6,.box (oi 2 1) 0),(7,ai ((l10_m25:Nat):Int)),(9,ai l24_m9),(10,ai l24_m10),(23,.tree (.pair .int (.pair .int .str)) a1_0),(24,ai ((a1_0.length:Nat):Int)),(25,ai ((l10_m25:Nat):Int))],Aj (Ap [(oi 0 1,.cells 34 [.tree (.pair .int (.pair .int .str)) a1_0]),(oi 1 1,.cells 81 [.nils,.nils,.nils]),(oi 2 1,.cells 81 [.own (oi 3 1) .int 0 l10_m6_0.length,.own (oi 4 1) .int 0 l10_m6_1.length,.own (oi 5 1) .int 0 l10_m6_2.length]),(oi 3 1,.arr 3 .int l10_m6_0),(oi 4 1,.arr 3 .int l10_m6_1),(oi 5 1,.arr 3 .int l10_m6_2)]),2⟩) ?_ ?_
     ·intro v_ h hk24;refine Ak ?_;rcases Ad h with ⟨q26,h⟩ | ⟨q26,h⟩
      ·refine Af q26 ?_;refine Ab ?_;obtain ⟨y28,h28,h⟩:=Ag h;refine Aa 17 ?_;refine rz0 (.tree (.pair .str (.pair .int (.pair .int (.slice (.pair .int (.pair .int .str)))))) a0) ?_;refine rz0 (.box (oi 3 1) 2) ?_;refine rzl (.str x16.2.2) ?_;refine zc (ai y28) [] [.tree (.pair .str (.pair .int (.pair .int (.slice (.pair .int (.pair .int .str)))))) a0,.str x16.2.2] (Pu h28) ?_;refine rsB 1 ?_;refine Ao (tn_ ?_);refine wr_ ?_;refine Ab ?_;refine Ax h (fun (l30_m55:Bool) S_=>S_=⟨An [(0,.tree (.pair .str (.pair .int (.pair .int (.slice (.pair .int (.pair .int .str)))))) a0),(3,.box (oi 0 1) 0),(4,.box (oi 1 1) 0),(6,.box (oi 2 1) 0),(7,ai ((l10_m25:Nat):Int)),(11,ai y28),(23,.tree (.pair .int (.pair .int .str)) a1_0),(24,ai ((a1_0.length:Nat):Int)),(25,ai ((l10_m25:Nat):Int)),(55,.bool l30_m55)],Aj (Ap [(oi 0 1,.cells 34 [.tree (.pair .int (.pair .int .str)) a1_0]),(oi 1 1,.cells 81 [.nils,.nils,.nils]),(oi 2 1,.cells 81 [.own (oi 3 1) .int 0 l10_m6_0.length,.own (oi 4 1) .int 0 l10_m6_1.length,.own (oi 5 1) .int 0 l10_m6_2.length]),(oi 3 1,.arr 3 .int l10_m6_0),(oi 4 1,.arr 3 .int l10_m6_1),(oi 5 1,.arr 3 .int l10_m6_2)]),2⟩) ?_ ?_
       ·intro v_ h;rcases Ad h with ⟨q31,h⟩ | ⟨q31,h⟩
        ·have q31_:=of_decide_eq_true q31;refine Aa 24 ?_;refine rz0 (ai y28) ?_;refine rz0 (.bool (decide (y28<0))) ?_;refine rz0 (.bool (decide (y28<0))) ?_;refine zs q31 ?_;refine zs q31 ?_;refine zs q31 ?_;refine rs0 (.bool true) (zT q31) ?_;refine Ao (tn_ ?_);obtain rfl:=zj h;exact ⟨_,Ac [(oi 3 1,oi 4 1),(oi 4 1,oi 5 1),(oi 5 1,oi 6 1)],rfl⟩
        have q31_:=of_decide_eq_false q31;refine Aa 24 ?_;refine rz0 (ai y28) ?_;refine rz0 (.bool (decide (y28<0))) ?_;refine rz0 (.bool (decide (y28<0))) ?_;refine rs0 (.box (oi 3 1) 1) (zg q31) ?_;refine rsl (ai x16.2.1) (zg q31) ?_;refine rs0 (.bool (x16.2.1 !=0)) (zg q31) ?_;refine rs0 (.bool (x16.2.1 !=0)) (zF q31) ?_;refine Ao (tn_ ?_);obtain rfl:=zj h;exact ⟨_,Ac [(oi 3 1,oi 4 1),(oi 4 1,oi 5 1),(oi 5 1,oi 6 1)],rfl⟩
       rintro l30_m55 _ rfl h
       (try dsimp only at h);rcases Ad h with ⟨q32,h⟩ | ⟨q32,h⟩
       ·refine Af q32 ?_;refine Ak ?_;refine Ah (tr_ (tr_ (tr_ (br_ (tr_ (tr_ (br_ (tr_ ?_))))))));obtain rfl:=zj h;have h:=hk24
        (try dsimp only at h);obtain rfl:=zj h;have h:=hk14
        (try dsimp only at h);obtain rfl:=zj h;have h:=hn10
        (try dsimp only at h);obtain rfl:=zj h;have h:=hk8
        (try dsimp only at h);obtain rfl:=zj h;exact A3 [.agg [.own (oi 3 1) .int 0 l10_m6_0.length,.own (oi 4 1) .int 0 l10_m6_1.length,.own (oi 5 1) .int 0 l10_m6_2.length],.bool false] (Gh (Bh (Fm (by kernel_rfl) rfl) (Bh (Fm (by kernel_rfl) rfl) (Bh (Fm (by kernel_rfl) rfl) Gb))) (Aq rfl zl Ar))
       refine Ae q32 ?_;refine Ai (tn_ ?_);refine wr_ ?_;obtain ⟨x34,f34,h⟩:=Ag h;obtain ⟨p34,b34,e34⟩:=Bg f34;refine A4 14 ?_;refine dz0 (.tree (.pair .str (.pair .int (.pair .int (.slice (.pair .int (.pair .int .str)))))) a0) ?_;refine dz0 (ai y28) ?_;refine ds0 (.telt none (.pair .str (.pair .int (.pair .int (.slice (.pair .int (.pair .int .str)))))) x34 0) (zi (t:=.pair .str (.pair .int (.pair .int (.slice (.pair .int (.pair .int .str)))))) (xs:=a0) (k:=.i64) (m:=y28) p34 e34) ?_;refine dz0 (.telt none (.pair .str (.pair .int (.pair .int (.slice (.pair .int (.pair .int .str)))))) x34 1) ?_;refine dz0 (ai x34.2.1) ?_;refine dz0 (.tree (.pair .str (.pair .int (.pair .int (.slice (.pair .int (.pair .int .str)))))) a0) ?_;refine dz0 (ai y28) ?_;refine ds0 (.telt none (.pair .str (.pair .int (.pair .int (.slice (.pair .int (.pair .int .str)))))) x34 0) (zi (t:=.pair .str (.pair .int (.pair .int (.slice (.pair .int (.pair .int .str)))))) (xs:=a0) (k:=.i64) (m:=y28) p34 e34) ?_;refine dz0 (.telt none (.pair .str (.pair .int (.pair .int (.slice (.pair .int (.pair .int .str)))))) x34 2) ?_;refine dz0 (ai x34.2.2.1) ?_;refine dz0 (ai x34.2.1) ?_;refine dz0 (ai x34.2.2.1) ?_;refine Gw (Bf (by kernel_rfl)) (tn_ ?_);obtain rfl:=zj h;exact ⟨(x34.2.1,x34.2.2.1),_,rfl,Ac [],⟨x34.2.1,x34.2.2.1,rfl,rfl⟩⟩
      refine Ae q26 ?_;refine Ai (tn_ ?_);obtain rfl:=zj h;exact ⟨(y23.1,y23.2),_,rfl,Ac [(oi 3 1,oi 4 1),(oi 4 1,oi 5 1),(oi 5 1,oi 6 1)],⟨y23.1,y23.2,rfl,rfl⟩⟩
     rintro _ _ ⟨l24_m9,l24_m10,rfl,rfl⟩ h
     (try dsimp only at h);refine Ab ?_;obtain ⟨g36,h⟩:=Av h;refine Aa 9 ?_;refine rz0 (.box (oi 2 1) 0) ?_;refine rzl (.own (oi 3 1) .int 0 l10_m6_0.length) ?_;refine rz0 (ai ((l10_m25:Nat):Int)) ?_;refine rs1 (.own (oi 70 5) .int 0 1) (oi 70 5) (.arr 3 .int ([((l10_m25:Nat):Int)])) (by kernel_rfl) ?_;refine rs2 (.own (oi 3 6) .int 0 ((l10_m6_0++([((l10_m25:Nat):Int)])).length)) (oi 3 1) (oi 3 6) (.arr 3 .int (l10_m6_0++([((l10_m25:Nat):Int)]))) (Ns (t:=.int) (t':=.int) (xs:=l10_m6_0) (ys:=[((l10_m25:Nat):Int)]) (zs:=l10_m6_0++([((l10_m25:Nat):Int)])) (j:=oi 3 1) (len:=l10_m6_0.length) (c:=.own (oi 70 5) .int 0 1) (by kernel_rfl) (by kernel_rfl) rfl (by kernel_rfl) (Oo (e:=3) (by kernel_rfl) rfl) rfl g36) ?_;refine rsB 2 ?_;refine Ao (tn_ ?_);refine wr_ ?_;refine Ab ?_;obtain ⟨g38,h⟩:=Av h;refine Aa 16 ?_;refine rz0 (.box (oi 2 1) 1) ?_;refine rzl (.own (oi 4 1) .int 0 l10_m6_1.length) ?_;refine rz0 (ai l24_m9) ?_;refine rs1 (.own (oi 76 12) .int 0 1) (oi 76 12) (.arr 3 .int ([l24_m9])) (by kernel_rfl) ?_;refine rs2 (.own (oi 4 13) .int 0 ((l10_m6_1++([l24_m9])).length)) (oi 4 1) (oi 4 13) (.arr 3 .int (l10_m6_1++([l24_m9]))) (Ns (t:=.int) (t':=.int) (xs:=l10_m6_1) (ys:=[l24_m9]) (zs:=l10_m6_1++([l24_m9])) (j:=oi 4 1) (len:=l10_m6_1.length) (c:=.own (oi 76 12) .int 0 1) (by kernel_rfl) (by kernel_rfl) rfl (by kernel_rfl) (Oo (e:=3) (by kernel_rfl) rfl) rfl g38) ?_;refine rsB 2 ?_;refine Ao (tn_ ?_);refine wr_ ?_;refine Ab ?_;obtain ⟨g40,h⟩:=Av h;refine Aa 23 ?_;refine rz0 (.box (oi 2 1) 2) ?_;refine rzl (.own (oi 5 1) .int 0 l10_m6_2.length) ?_;refine rz0 (ai l24_m10) ?_;refine rs1 (.own (oi 82 19) .int 0 1) (oi 82 19) (.arr 3 .int ([l24_m10])) (by kernel_rfl) ?_;refine rs2 (.own (oi 5 20) .int 0 ((l10_m6_2++([l24_m10])).length)) (oi 5 1) (oi 5 20) (.arr 3 .int (l10_m6_2++([l24_m10]))) (Ns (t:=.int) (t':=.int) (xs:=l10_m6_2) (ys:=[l24_m10]) (zs:=l10_m6_2++([l24_m10])) (j:=oi 5 1) (len:=l10_m6_2.length) (c:=.own (oi 82 19) .int 0 1) (by kernel_rfl) (by kernel_rfl) rfl (by kernel_rfl) (Oo (e:=3) (by kernel_rfl) rfl) rfl g40) ?_;refine rsB 2 ?_;refine Ao (tn_ ?_);refine wr_ ?_;refine Az (te_ (be_ (tn_ ?_)));obtain rfl:=zj h;exact ⟨(l10_m6_0++([((l10_m25:Nat):Int)]),l10_m6_1++([l24_m9]),l10_m6_2++([l24_m10])),_,rfl,Ac [(oi 3 1,oi 3 6),(oi 4 1,oi 4 13),(oi 5 1,oi 5 20)],⟨l10_m6_0++([((l10_m25:Nat):Int)]),l10_m6_1++([l24_m9]),l10_m6_2++([l24_m10]),rfl,rfl⟩⟩
    refine Ae q21 ?_;refine Ai (tn_ ?_);refine wr_ ?_;refine Ab ?_;refine Ax h (fun (l42_m115:Bool) S_=>S_=⟨An [(0,.tree (.pair .str (.pair .int (.pair .int (.slice (.pair .int (.pair .int .str)))))) a0),(3,.box (oi 0 1) 0),(4,.box (oi 1 1) 0),(6,.box (oi 2 1) 0),(7,ai ((l10_m25:Nat):Int)),(8,.box (oi 3 1) 0),(23,.tree (.pair .int (.pair .int .str)) a1_0),(24,ai ((a1_0.length:Nat):Int)),(25,ai ((l10_m25:Nat):Int)),(115,.bool l42_m115)],Aj (Ap [(oi 0 1,.cells 34 [.tree (.pair .int (.pair .int .str)) a1_0]),(oi 1 1,.cells 81 [.nils,.nils,.nils]),(oi 2 1,.cells 81 [.own (oi 4 1) .int 0 l10_m6_0.length,.own (oi 5 1) .int 0 l10_m6_1.length,.own (oi 6 1) .int 0 l10_m6_2.length]),(oi 3 1,.cells 87 [ai x16.1,ai x16.2.1,.str x16.2.2]),(oi 4 1,.arr 3 .int l10_m6_0),(oi 5 1,.arr 3 .int l10_m6_1),(oi 6 1,.arr 3 .int l10_m6_2)]),2⟩) ?_ ?_
    ·intro v_ h;rcases Ad h with ⟨q43,h⟩ | ⟨q43,h⟩
     ·rcases Ad h with ⟨q44,h⟩ | ⟨q44,h⟩
      ·refine Aa 33 ?_;refine rz0 (.box (oi 3 1) 0) ?_;refine rzl (ai x16.1) ?_;refine rz0 (.bool (x16.1 !=15)) ?_;refine rz0 (.bool (x16.1 !=15)) ?_;refine rs0 (.box (oi 3 1) 0) (zg q43) ?_;refine rsl (ai x16.1) (zg q43) ?_;refine rs0 (.bool (x16.1 !=16)) (zg q43) ?_;refine rs0 (.bool (x16.1 !=16)) (zT q43) ?_;refine rz0 (.bool (x16.1 !=16)) ?_;refine zs q44 ?_;refine zs q44 ?_;refine zs q44 ?_;refine rs0 (.bool true) (zT q44) ?_;refine rsB 18 ?_;refine Ao (tn_ ?_);obtain rfl:=zj h;exact ⟨_,Ac [],rfl⟩
      rcases Ad h with ⟨q45,h⟩ | ⟨q45,h⟩
      ·refine Aa 33 ?_;refine rz0 (.box (oi 3 1) 0) ?_;refine rzl (ai x16.1) ?_;refine rz0 (.bool (x16.1 !=15)) ?_;refine rz0 (.bool (x16.1 !=15)) ?_;refine rs0 (.box (oi 3 1) 0) (zg q43) ?_;refine rsl (ai x16.1) (zg q43) ?_;refine rs0 (.bool (x16.1 !=16)) (zg q43) ?_;refine rs0 (.bool (x16.1 !=16)) (zT q43) ?_;refine rz0 (.bool (x16.1 !=16)) ?_;refine rs0 (.box (oi 3 1) 2) (zg q44) ?_;refine rsl (.str x16.2.2) (zg q44) ?_;refine rs0 (.bool (!(x16.2.2.toList==(⟨#[]⟩:ByteArray).toList))) (zg q44) ?_;refine rs0 (.bool (!(x16.2.2.toList==(⟨#[]⟩:ByteArray).toList))) (zF q44) ?_;refine rz0 (.bool (!(x16.2.2.toList==(⟨#[]⟩:ByteArray).toList))) ?_;refine zs q45 ?_;refine zs q45 ?_;refine zs q45 ?_;refine rs0 (.bool true) (zT q45) ?_;refine rsB 13 ?_;refine Ao (tn_ ?_);obtain rfl:=zj h;exact ⟨_,Ac [],rfl⟩
      rcases Ad h with ⟨q46,h⟩ | ⟨q46,h⟩
      ·refine Aa 33 ?_;refine rz0 (.box (oi 3 1) 0) ?_;refine rzl (ai x16.1) ?_;refine rz0 (.bool (x16.1 !=15)) ?_;refine rz0 (.bool (x16.1 !=15)) ?_;refine rs0 (.box (oi 3 1) 0) (zg q43) ?_;refine rsl (ai x16.1) (zg q43) ?_;refine rs0 (.bool (x16.1 !=16)) (zg q43) ?_;refine rs0 (.bool (x16.1 !=16)) (zT q43) ?_;refine rz0 (.bool (x16.1 !=16)) ?_;refine rs0 (.box (oi 3 1) 2) (zg q44) ?_;refine rsl (.str x16.2.2) (zg q44) ?_;refine rs0 (.bool (!(x16.2.2.toList==(⟨#[]⟩:ByteArray).toList))) (zg q44) ?_;refine rs0 (.bool (!(x16.2.2.toList==(⟨#[]⟩:ByteArray).toList))) (zF q44) ?_;refine rz0 (.bool (!(x16.2.2.toList==(⟨#[]⟩:ByteArray).toList))) ?_;refine rs0 (.box (oi 3 1) 1) (zg q45) ?_;refine rsl (ai x16.2.1) (zg q45) ?_;refine rs0 (.bool (x16.2.1 !=0)) (zg q45) ?_;refine rs0 (.bool (x16.2.1 !=0)) (zF q45) ?_;refine rz0 (.bool (x16.2.1 !=0)) ?_;refine zs q46 ?_;refine zs q46 ?_;refine rs0 (.bool true) (zT q46) ?_;refine rsB 9 ?_;refine Ao (tn_ ?_);obtain rfl:=zj h;exact ⟨_,Ac [],rfl⟩
      rcases Ad h with ⟨q47,h⟩ | ⟨q47,h⟩
      ·have q47_:=of_decide_eq_true q47;refine Aa 33 ?_;refine rz0 (.box (oi 3 1) 0) ?_;refine rzl (ai x16.1) ?_;refine rz0 (.bool (x16.1 !=15)) ?_;refine rz0 (.bool (x16.1 !=15)) ?_;refine rs0 (.box (oi 3 1) 0) (zg q43) ?_;refine rsl (ai x16.1) (zg q43) ?_;refine rs0 (.bool (x16.1 !=16)) (zg q43) ?_;refine rs0 (.bool (x16.1 !=16)) (zT q43) ?_;refine rz0 (.bool (x16.1 !=16)) ?_;refine rs0 (.box (oi 3 1) 2) (zg q44) ?_;refine rsl (.str x16.2.2) (zg q44) ?_;refine rs0 (.bool (!(x16.2.2.toList==(⟨#[]⟩:ByteArray).toList))) (zg q44) ?_;refine rs0 (.bool (!(x16.2.2.toList==(⟨#[]⟩:ByteArray).toList))) (zF q44) ?_;refine rz0 (.bool (!(x16.2.2.toList==(⟨#[]⟩:ByteArray).toList))) ?_;refine rs0 (.box (oi 3 1) 1) (zg q45) ?_;refine rsl (ai x16.2.1) (zg q45) ?_;refine rs0 (.bool (x16.2.1 !=0)) (zg q45) ?_;refine rs0 (.bool (x16.2.1 !=0)) (zF q45) ?_;refine rz0 (.bool (x16.2.1 !=0)) ?_;refine rs0 (ai ((l10_m25:Nat):Int)) (zg q46) ?_;refine rs0 (.bool (decide (((l10_m25:Nat):Int)<2))) (zg q46) ?_;refine rs0 (.bool (decide (((l10_m25:Nat):Int)<2))) (zF q46) ?_;refine rz0 (.bool (decide (((l10_m25:Nat):Int)<2))) ?_;refine zs q47 ?_;refine zs q47 ?_;refine zs q47 ?_;refine zs q47 ?_;refine zs q47 ?_;refine zs q47 ?_;refine zs q47 ?_;refine rs0 (.bool true) (zT q47) ?_;refine Ao (tn_ ?_);obtain rfl:=zj h;exact ⟨_,Ac [],rfl⟩
      have q47_:=of_decide_eq_false q47;obtain ⟨x48,f48,h⟩:=Ag h;obtain ⟨p48,b48,e48⟩:=Bg f48;obtain ⟨x49,f49,h⟩:=Ag h;obtain ⟨p49,b49,e49⟩:=Bg f49;refine Aa 33 ?_;refine rz0 (.box (oi 3 1) 0) ?_;refine rzl (ai x16.1) ?_;refine rz0 (.bool (x16.1 !=15)) ?_;refine rz0 (.bool (x16.1 !=15)) ?_;refine rs0 (.box (oi 3 1) 0) (zg q43) ?_;refine rsl (ai x16.1) (zg q43) ?_;refine rs0 (.bool (x16.1 !=16)) (zg q43) ?_;refine rs0 (.bool (x16.1 !=16)) (zT q43) ?_;refine rz0 (.bool (x16.1 !=16)) ?_;refine rs0 (.box (oi 3 1) 2) (zg q44) ?_;refine rsl (.str x16.2.2) (zg q44) ?_;refine rs0 (.bool (!(x16.2.2.toList==(⟨#[]⟩:ByteArray).toList))) (zg q44) ?_;refine rs0 (.bool (!(x16.2.2.toList==(⟨#[]⟩:ByteArray).toList))) (zF q44) ?_;refine rz0 (.bool (!(x16.2.2.toList==(⟨#[]⟩:ByteArray).toList))) ?_;refine rs0 (.box (oi 3 1) 1) (zg q45) ?_;refine rsl (ai x16.2.1) (zg q45) ?_;refine rs0 (.bool (x16.2.1 !=0)) (zg q45) ?_;refine rs0 (.bool (x16.2.1 !=0)) (zF q45) ?_;refine rz0 (.bool (x16.2.1 !=0)) ?_;refine rs0 (ai ((l10_m25:Nat):Int)) (zg q46) ?_;refine rs0 (.bool (decide (((l10_m25:Nat):Int)<2))) (zg q46) ?_;refine rs0 (.bool (decide (((l10_m25:Nat):Int)<2))) (zF q46) ?_;refine rz0 (.bool (decide (((l10_m25:Nat):Int)<2))) ?_;refine rs0 (.box (oi 2 1) 0) (zg q47) ?_;refine rsl (.own (oi 4 1) .int 0 l10_m6_0.length) (zg q47) ?_;refine rs0 (ai ((l10_m25:Nat):Int)) (zg q47) ?_;refine rs0 (ai (wI (((l10_m25:Nat):Int) - 1))) (zg q47) ?_;refine rs0 (.elt (oi 4 1) ((wI (((l10_m25:Nat):Int) - 1)).toNat) 0) (Fl (by kernel_rfl) q47 (zo (t:=.int) (o:=oi 4 1) (len:=l10_m6_0.length) (k:=.i64) (m:=wI (((l10_m25:Nat):Int) - 1)) p48 (Au e48))) ?_;refine rsl (ai x49) (Fl (by kernel_rfl) q47 (Dd (i:=oi 4 1) (j:=(wI (((l10_m25:Nat):Int) - 1)).toNat) (k:=0) (e:=3) (t:=.int) (xs:=l10_m6_0) (by kernel_rfl) (by kernel_rfl) e49 (by kernel_rfl))) ?_;refine rs0 (.bool (decide (x49<1))) (zg q47) ?_;refine rs0 (.bool (decide (x49<1))) (zF q47) ?_;refine Ao (tn_ ?_);obtain rfl:=zj h;exact ⟨_,Ac [],rfl⟩
     rcases Ad h with ⟨q50,h⟩ | ⟨q50,h⟩
     ·refine Aa 33 ?_;refine rz0 (.box (oi 3 1) 0) ?_;refine rzl (ai x16.1) ?_;refine rz0 (.bool (x16.1 !=15)) ?_;refine rz0 (.bool (x16.1 !=15)) ?_;refine zs q43 ?_;refine zs q43 ?_;refine zs q43 ?_;refine rs0 (.bool false) (zF q43) ?_;refine rz0 (.bool false) ?_;refine rz0 (.box (oi 3 1) 2) ?_;refine rzl (.str x16.2.2) ?_;refine rz0 (.bool (!(x16.2.2.toList==(⟨#[]⟩:ByteArray).toList))) ?_;refine rz0 (.bool (!(x16.2.2.toList==(⟨#[]⟩:ByteArray).toList))) ?_;refine rz0 (.bool (!(x16.2.2.toList==(⟨#[]⟩:ByteArray).toList))) ?_;refine zs q50 ?_;refine zs q50 ?_;refine zs q50 ?_;refine rs0 (.bool true) (zT q50) ?_;refine rsB 13 ?_;refine Ao (tn_ ?_);obtain rfl:=zj h;exact ⟨_,Ac [],rfl⟩
     rcases Ad h with ⟨q51,h⟩ | ⟨q51,h⟩
     ·refine Aa 33 ?_;refine rz0 (.box (oi 3 1) 0) ?_;refine rzl (ai x16.1) ?_;refine rz0 (.bool (x16.1 !=15)) ?_;refine rz0 (.bool (x16.1 !=15)) ?_;refine zs q43 ?_;refine zs q43 ?_;refine zs q43 ?_;refine rs0 (.bool false) (zF q43) ?_;refine rz0 (.bool false) ?_;refine rz0 (.box (oi 3 1) 2) ?_;refine rzl (.str x16.2.2) ?_;refine rz0 (.bool (!(x16.2.2.toList==(⟨#[]⟩:ByteArray).toList))) ?_;refine rz0 (.bool (!(x16.2.2.toList==(⟨#[]⟩:ByteArray).toList))) ?_;refine rz0 (.bool (!(x16.2.2.toList==(⟨#[]⟩:ByteArray).toList))) ?_;refine rs0 (.box (oi 3 1) 1) (zg q50) ?_;refine rsl (ai x16.2.1) (zg q50) ?_;refine rs0 (.bool (x16.2.1 !=0)) (zg q50) ?_;refine rs0 (.bool (x16.2.1 !=0)) (zF q50) ?_;refine rz0 (.bool (x16.2.1 !=0)) ?_;refine zs q51 ?_;refine zs q51 ?_;refine rs0 (.bool true) (zT q51) ?_;refine rsB 9 ?_;refine Ao (tn_ ?_);obtain rfl:=zj h;exact ⟨_,Ac [],rfl⟩
     rcases Ad h with ⟨q52,h⟩ | ⟨q52,h⟩
     ·have q52_:=of_decide_eq_true q52;refine Aa 33 ?_;refine rz0 (.box (oi 3 1) 0) ?_;refine rzl (ai x16.1) ?_;refine rz0 (.bool (x16.1 !=15)) ?_;refine rz0 (.bool (x16.1 !=15)) ?_;refine zs q43 ?_;refine zs q43 ?_;refine zs q43 ?_;refine rs0 (.bool false) (zF q43) ?_;refine rz0 (.bool false) ?_;refine rz0 (.box (oi 3 1) 2) ?_;refine rzl (.str x16.2.2) ?_;refine rz0 (.bool (!(x16.2.2.toList==(⟨#[]⟩:ByteArray).toList))) ?_;refine rz0 (.bool (!(x16.2.2.toList==(⟨#[]⟩:ByteArray).toList))) ?_;refine rz0 (.bool (!(x16.2.2.toList==(⟨#[]⟩:ByteArray).toList))) ?_;refine rs0 (.box (oi 3 1) 1) (zg q50) ?_;refine rsl (ai x16.2.1) (zg q50) ?_;refine rs0 (.bool (x16.2.1 !=0)) (zg q50) ?_;refine rs0 (.bool (x16.2.1 !=0)) (zF q50) ?_;refine rz0 (.bool (x16.2.1 !=0)) ?_;refine rs0 (ai ((l10_m25:Nat):Int)) (zg q51) ?_;refine rs0 (.bool (decide (((l10_m25:Nat):Int)<2))) (zg q51) ?_;refine rs0 (.bool (decide (((l10_m25:Nat):Int)<2))) (zF q51) ?_;refine rz0 (.bool (decide (((l10_m25:Nat):Int)<2))) ?_;refine zs q52 ?_;refine zs q52 ?_;refine zs q52 ?_;refine zs q52 ?_;refine zs q52 ?_;refine zs q52 ?_;refine zs q52 ?_;refine rs0 (.bool true) (zT q52) ?_;refine Ao (tn_ ?_);obtain rfl:=zj h;exact ⟨_,Ac [],rfl⟩
     have q52_:=of_decide_eq_false q52;obtain ⟨x53,f53,h⟩:=Ag h;obtain ⟨p53,b53,e53⟩:=Bg f53;obtain ⟨x54,f54,h⟩:=Ag h;obtain ⟨p54,b54,e54⟩:=Bg f54;refine Aa 33 ?_;refine rz0 (.box (oi 3 1) 0) ?_;refine rzl (ai x16.1) ?_;refine rz0 (.bool (x16.1 !=15)) ?_;refine rz0 (.bool (x16.1 !=15)) ?_;refine zs q43 ?_;refine zs q43 ?_;refine zs q43 ?_;refine rs0 (.bool false) (zF q43) ?_;refine rz0 (.bool false) ?_;refine rz0 (.box (oi 3 1) 2) ?_;refine rzl (.str x16.2.2) ?_;refine rz0 (.bool (!(x16.2.2.toList==(⟨#[]⟩:ByteArray).toList))) ?_;refine rz0 (.bool (!(x16.2.2.toList==(⟨#[]⟩:ByteArray).toList))) ?_;refine rz0 (.bool (!(x16.2.2.toList==(⟨#[]⟩:ByteArray).toList))) ?_;refine rs0 (.box (oi 3 1) 1) (zg q50) ?_;refine rsl (ai x16.2.1) (zg q50) ?_;refine rs0 (.bool (x16.2.1 !=0)) (zg q50) ?_;refine rs0 (.bool (x16.2.1 !=0)) (zF q50) ?_;refine rz0 (.bool (x16.2.1 !=0)) ?_;refine rs0 (ai ((l10_m25:Nat):Int)) (zg q51) ?_;refine rs0 (.bool (decide (((l10_m25:Nat):Int)<2))) (zg q51) ?_;refine rs0 (.bool (decide (((l10_m25:Nat):Int)<2))) (zF q51) ?_;refine rz0 (.bool (decide (((l10_m25:Nat):Int)<2))) ?_;refine rs0 (.box (oi 2 1) 0) (zg q52) ?_;refine rsl (.own (oi 4 1) .int 0 l10_m6_0.length) (zg q52) ?_;refine rs0 (ai ((l10_m25:Nat):Int)) (zg q52) ?_;refine rs0 (ai (wI (((l10_m25:Nat):Int) - 1))) (zg q52) ?_;refine rs0 (.elt (oi 4 1) ((wI (((l10_m25:Nat):Int) - 1)).toNat) 0) (Fl (by kernel_rfl) q52 (zo (t:=.int) (o:=oi 4 1) (len:=l10_m6_0.length) (k:=.i64) (m:=wI (((l10_m25:Nat):Int) - 1)) p53 (Au e53))) ?_;refine rsl (ai x54) (Fl (by kernel_rfl) q52 (Dd (i:=oi 4 1) (j:=(wI (((l10_m25:Nat):Int) - 1)).toNat) (k:=0) (e:=3) (t:=.int) (xs:=l10_m6_0) (by kernel_rfl) (by kernel_rfl) e54 (by kernel_rfl))) ?_;refine rs0 (.bool (decide (x54<1))) (zg q52) ?_;refine rs0 (.bool (decide (x54<1))) (zF q52) ?_;refine Ao (tn_ ?_);obtain rfl:=zj h;exact ⟨_,Ac [],rfl⟩
    rintro l42_m115 _ rfl h
    (try dsimp only at h);rcases Ad h with ⟨q55,h⟩ | ⟨q55,h⟩
    ·refine Af q55 ?_;refine Ak ?_;refine Ah (tr_ (br_ (tr_ (tr_ (br_ (tr_ ?_))))));obtain rfl:=zj h;have h:=hk14
     (try dsimp only at h);obtain rfl:=zj h;have h:=hn10
     (try dsimp only at h);obtain rfl:=zj h;have h:=hk8
     (try dsimp only at h);obtain rfl:=zj h;exact A3 [.agg [.own (oi 4 1) .int 0 l10_m6_0.length,.own (oi 5 1) .int 0 l10_m6_1.length,.own (oi 6 1) .int 0 l10_m6_2.length],.bool false] (Gh (Bh (Fm (by kernel_rfl) rfl) (Bh (Fm (by kernel_rfl) rfl) (Bh (Fm (by kernel_rfl) rfl) Gb))) (Aq rfl zl Ar))
    refine Ae q55 ?_;refine Ai (tn_ ?_);refine wr_ ?_;refine Ak ?_;refine Ab ?_;obtain ⟨x59,f59,h⟩:=Ag h;obtain ⟨p59,b59,e59⟩:=Bg f59;obtain ⟨x60,f60,h⟩:=Ag h;obtain ⟨p60,b60,e60⟩:=Bg f60;refine Aa 12 ?_;refine rz0 (.box (oi 2 1) 0) ?_;refine rzl (.own (oi 4 1) .int 0 l10_m6_0.length) ?_;refine rz0 (ai (wI (((l10_m25:Nat):Int) - 1))) ?_;refine rs0 (.elt (oi 4 1) ((wI (((l10_m25:Nat):Int) - 1)).toNat) 0) (zo (t:=.int) (o:=oi 4 1) (len:=l10_m6_0.length) (k:=.i64) (m:=wI (((l10_m25:Nat):Int) - 1)) p59 (Au e59)) ?_;refine rsl (ai x60) (Dd (i:=oi 4 1) (j:=(wI (((l10_m25:Nat):Int) - 1)).toNat) (k:=0) (e:=3) (t:=.int) (xs:=l10_m6_0) (by kernel_rfl) (by kernel_rfl) e60 (by kernel_rfl)) ?_;refine rsB 2 ?_;refine Ao (tn_ ?_);refine wr_ ?_;refine Ab ?_;obtain ⟨x62,f62,h⟩:=Ag h;obtain ⟨p62,b62,e62⟩:=Bg f62;obtain ⟨x63,f63,h⟩:=Ag h;obtain ⟨p63,b63,e63⟩:=Bg f63;obtain ⟨x64,f64,h⟩:=Ag h;obtain ⟨p64,b64,e64⟩:=Bg f64;obtain ⟨x65,f65,h⟩:=Ag h;obtain ⟨p65,b65,e65⟩:=Bg f65;obtain ⟨x66,f66,h⟩:=Ag h;obtain ⟨p66,b66,e66⟩:=Bg f66;obtain ⟨x67,f67,h⟩:=Ag h;obtain ⟨p67,b67,e67⟩:=Bg f67;obtain ⟨x68,f68,h⟩:=Ag h;obtain ⟨p68,b68,e68⟩:=Bg f68;obtain ⟨x69,f69,h⟩:=Ag h;obtain ⟨p69,b69,e69⟩:=Bg f69;refine A4 36 ?_;refine dz0 (.box (oi 2 1) 1) ?_;refine dzl (.own (oi 5 1) .int 0 l10_m6_1.length) ?_;refine dz0 (ai (wI (x60 - 1))) ?_;refine ds0 (.elt (oi 5 1) ((wI (x60 - 1)).toNat) 0) (zo (t:=.int) (o:=oi 5 1) (len:=l10_m6_1.length) (k:=.i64) (m:=wI (x60 - 1)) p62 (Au e62)) ?_;refine dsl (ai x63) (Dd (i:=oi 5 1) (j:=(wI (x60 - 1)).toNat) (k:=0) (e:=3) (t:=.int) (xs:=l10_m6_1) (by kernel_rfl) (by kernel_rfl) e63 (by kernel_rfl)) ?_;refine dz0 (.box (oi 2 1) 1) ?_;refine dzl (.own (oi 5 1) .int 0 l10_m6_1.length) ?_;refine dz0 (ai (wI (((l10_m25:Nat):Int) - 1))) ?_;refine ds0 (.elt (oi 5 1) ((wI (((l10_m25:Nat):Int) - 1)).toNat) 0) (zo (t:=.int) (o:=oi 5 1) (len:=l10_m6_1.length) (k:=.i64) (m:=wI (((l10_m25:Nat):Int) - 1)) p64 (Au e64)) ?_;refine dsl (ai x65) (Dd (i:=oi 5 1) (j:=(wI (((l10_m25:Nat):Int) - 1)).toNat) (k:=0) (e:=3) (t:=.int) (xs:=l10_m6_1) (by kernel_rfl) (by kernel_rfl) e65 (by kernel_rfl)) ?_;refine dz0 (ai (wI (x63+x65))) ?_;refine dz0 (.box (oi 2 1) 2) ?_;refine dzl (.own (oi 6 1) .int 0 l10_m6_2.length) ?_;refine dz0 (ai (wI (x60 - 1))) ?_;refine ds0 (.elt (oi 6 1) ((wI (x60 - 1)).toNat) 0) (zo (t:=.int) (o:=oi 6 1) (len:=l10_m6_2.length) (k:=.i64) (m:=wI (x60 - 1)) p66 (Au e66)) ?_;refine dsl (ai x67) (Dd (i:=oi 6 1) (j:=(wI (x60 - 1)).toNat) (k:=0) (e:=3) (t:=.int) (xs:=l10_m6_2) (by kernel_rfl) (by kernel_rfl) e67 (by kernel_rfl)) ?_;refine dz0 (.box (oi 2 1) 2) ?_;refine dzl (.own (oi 6 1) .int 0 l10_m6_2.length) ?_;refine dz0 (ai (wI (((l10_m25:Nat):Int) - 1))) ?_;refine ds0 (.elt (oi 6 1) ((wI (((l10_m25:Nat):Int) - 1)).toNat) 0) (zo (t:=.int) (o:=oi 6 1) (len:=l10_m6_2.length) (k:=.i64) (m:=wI (((l10_m25:Nat):Int) - 1)) p68 (Au e68)) ?_;refine dsl (ai x69) (Dd (i:=oi 6 1) (j:=(wI (((l10_m25:Nat):Int) - 1)).toNat) (k:=0) (e:=3) (t:=.int) (xs:=l10_m6_2) (by kernel_rfl) (by kernel_rfl) e69 (by kernel_rfl)) ?_;refine dz0 (ai (wI (x67+x69))) ?_;refine dz0 (ai (wI (x63+x65))) ?_;refine dz0 (ai (wI (x67+x69))) ?_;refine Gw (Bf (by kernel_rfl)) (tn_ ?_);refine wr_ ?_;refine Bj h (fun t_ S_=>∃ (l70_m14:Int),∃ (l70_m15:Int),t_=(l70_m14,l70_m15)∧S_=⟨An [(0,.tree (.pair .str (.pair .int (.pair .int (.slice (.pair .int (.pair .int .str)))))) a0),(3,.box (oi 0 1) 0),(4,.box (oi 1 1) 0),(6,.box (oi 2 1) 0),(13,ai (wI (x60 - 1))),(14,ai l70_m14),(15,ai l70_m15),(23,.tree (.pair .int (.pair .int .str)) a1_0),(24,ai ((a1_0.length:Nat):Int)),(25,ai ((l10_m25:Nat):Int))],Aj (Ap [(oi 0 1,.cells 34 [.tree (.pair .int (.pair .int .str)) a1_0]),(oi 1 1,.cells 81 [.nils,.nils,.nils]),(oi 2 1,.cells 81 [.own (oi 3 1) .int 0 l10_m6_0.length,.own (oi 4 1) .int 0 l10_m6_1.length,.own (oi 5 1) .int 0 l10_m6_2.length]),(oi 3 1,.arr 3 .int l10_m6_0),(oi 4 1,.arr 3 .int l10_m6_1),(oi 5 1,.arr 3 .int l10_m6_2)]),2⟩) ?_ ?_
    ·intro v_ h hk70;refine Ak ?_;rcases Ad h with ⟨q72,h⟩ | ⟨q72,h⟩
     ·refine Af q72 ?_;refine Ab ?_;refine Ab ?_;refine A4 50 ?_;refine dz0 (.box (oi 2 1) 2) ?_;refine dzl (.own (oi 6 1) .int 0 l10_m6_2.length) ?_;refine dz0 (ai (wI (x60 - 1))) ?_;refine ds0 (.elt (oi 6 1) ((wI (x60 - 1)).toNat) 0) (zo (t:=.int) (o:=oi 6 1) (len:=l10_m6_2.length) (k:=.i64) (m:=wI (x60 - 1)) p66 (Au e66)) ?_;refine dsl (ai x67) (Dd (i:=oi 6 1) (j:=(wI (x60 - 1)).toNat) (k:=0) (e:=3) (t:=.int) (xs:=l10_m6_2) (by kernel_rfl) (by kernel_rfl) e67 (by kernel_rfl)) ?_;refine dz0 (.box (oi 2 1) 1) ?_;refine dzl (.own (oi 5 1) .int 0 l10_m6_1.length) ?_;refine dz0 (ai (wI (((l10_m25:Nat):Int) - 1))) ?_;refine ds0 (.elt (oi 5 1) ((wI (((l10_m25:Nat):Int) - 1)).toNat) 0) (zo (t:=.int) (o:=oi 5 1) (len:=l10_m6_1.length) (k:=.i64) (m:=wI (((l10_m25:Nat):Int) - 1)) p64 (Au e64)) ?_;refine dsl (ai x65) (Dd (i:=oi 5 1) (j:=(wI (((l10_m25:Nat):Int) - 1)).toNat) (k:=0) (e:=3) (t:=.int) (xs:=l10_m6_1) (by kernel_rfl) (by kernel_rfl) e65 (by kernel_rfl)) ?_;refine dz0 (.bool (x67 !=x65)) ?_;refine Gw (Bf (by kernel_rfl)) (tn_ ?_);refine wr_ ?_;rcases Ad h with ⟨q75,h⟩ | ⟨q75,h⟩
      ·refine Af q75 ?_;refine Ak ?_;refine Ah (tr_ (tr_ (br_ (tr_ (tr_ (br_ (tr_ ?_)))))));obtain rfl:=zj h;have h:=hk70
       (try dsimp only at h);obtain rfl:=zj h;have h:=hk14
       (try dsimp only at h);obtain rfl:=zj h;have h:=hn10
       (try dsimp only at h);obtain rfl:=zj h;have h:=hk8
       (try dsimp only at h);obtain rfl:=zj h;exact A3 [.agg [.own (oi 4 1) .int 0 l10_m6_0.length,.own (oi 5 1) .int 0 l10_m6_1.length,.own (oi 6 1) .int 0 l10_m6_2.length],.bool false] (Gh (Bh (Fm (by kernel_rfl) rfl) (Bh (Fm (by kernel_rfl) rfl) (Bh (Fm (by kernel_rfl) rfl) Gb))) (Aq rfl zl Ar))
      refine Ae q75 ?_;refine Ai (tn_ ?_);refine wr_ ?_;refine A4 62 ?_;refine dz0 (.box (oi 2 1) 1) ?_;refine dzl (.own (oi 5 1) .int 0 l10_m6_1.length) ?_;refine dz0 (ai (wI (x60 - 1))) ?_;refine ds0 (.elt (oi 5 1) ((wI (x60 - 1)).toNat) 0) (zo (t:=.int) (o:=oi 5 1) (len:=l10_m6_1.length) (k:=.i64) (m:=wI (x60 - 1)) p62 (Au e62)) ?_;refine dsl (ai x63) (Dd (i:=oi 5 1) (j:=(wI (x60 - 1)).toNat) (k:=0) (e:=3) (t:=.int) (xs:=l10_m6_1) (by kernel_rfl) (by kernel_rfl) e63 (by kernel_rfl)) ?_;refine dz0 (.box (oi 2 1) 2) ?_;refine dzl (.own (oi 6 1) .int 0 l10_m6_2.length) ?_;refine dz0 (ai (wI (((l10_m25:Nat):Int) - 1))) ?_;refine ds0 (.elt (oi 6 1) ((wI (((l10_m25:Nat):Int) - 1)).toNat) 0) (zo (t:=.int) (o:=oi 6 1) (len:=l10_m6_2.length) (k:=.i64) (m:=wI (((l10_m25:Nat):Int) - 1)) p68 (Au e68)) ?_;refine dsl (ai x69) (Dd (i:=oi 6 1) (j:=(wI (((l10_m25:Nat):Int) - 1)).toNat) (k:=0) (e:=3) (t:=.int) (xs:=l10_m6_2) (by kernel_rfl) (by kernel_rfl) e69 (by kernel_rfl)) ?_;refine dz0 (ai x63) ?_;refine dz0 (ai x69) ?_;refine Gw (Bf (by kernel_rfl)) (tn_ ?_);obtain rfl:=zj h;exact ⟨(x63,x69),_,rfl,Ac [(oi 3 1,oi 4 1),(oi 4 1,oi 5 1),(oi 5 1,oi 6 1)],⟨x63,x69,rfl,rfl⟩⟩
     refine Ae q72 ?_;refine Ai (tn_ ?_);obtain rfl:=zj h;exact ⟨(wI (x63+x65),wI (x67+x69)),_,rfl,Ac [(oi 3 1,oi 4 1),(oi 4 1,oi 5 1),(oi 5 1,oi 6 1)],⟨wI (x63+x65),wI (x67+x69),rfl,rfl⟩⟩
    rintro _ _ ⟨l70_m14,l70_m15,rfl,rfl⟩ h
    (try dsimp only at h);refine Ab ?_;refine Ax h (fun (l78_m177:Bool) S_=>S_=⟨An [(0,.tree (.pair .str (.pair .int (.pair .int (.slice (.pair .int (.pair .int .str)))))) a0),(3,.box (oi 0 1) 0),(4,.box (oi 1 1) 0),(6,.box (oi 2 1) 0),(13,ai (wI (x60 - 1))),(14,ai l70_m14),(15,ai l70_m15),(23,.tree (.pair .int (.pair .int .str)) a1_0),(24,ai ((a1_0.length:Nat):Int)),(25,ai ((l10_m25:Nat):Int)),(177,.bool l78_m177)],Aj (Ap [(oi 0 1,.cells 34 [.tree (.pair .int (.pair .int .str)) a1_0]),(oi 1 1,.cells 81 [.nils,.nils,.nils]),(oi 2 1,.cells 81 [.own (oi 3 1) .int 0 l10_m6_0.length,.own (oi 4 1) .int 0 l10_m6_1.length,.own (oi 5 1) .int 0 l10_m6_2.length]),(oi 3 1,.arr 3 .int l10_m6_0),(oi 4 1,.arr 3 .int l10_m6_1),(oi 5 1,.arr 3 .int l10_m6_2)]),2⟩) ?_ ?_
    ·intro v_ h;rcases Ad h with ⟨q79,h⟩ | ⟨q79,h⟩
     ·have q79_:=of_decide_eq_true q79;refine Aa 8 ?_;refine rz0 (ai l70_m14) ?_;refine rz0 (.bool (decide (12<l70_m14))) ?_;refine rz0 (.bool (decide (12<l70_m14))) ?_;refine zs q79 ?_;refine zs q79 ?_;refine rs0 (.bool true) (zT q79) ?_;refine Ao (tn_ ?_);obtain rfl:=zj h;exact ⟨_,Ac [],rfl⟩
     have q79_:=of_decide_eq_false q79;refine Aa 8 ?_;refine rz0 (ai l70_m14) ?_;refine rz0 (.bool (decide (12<l70_m14))) ?_;refine rz0 (.bool (decide (12<l70_m14))) ?_;refine rs0 (ai l70_m15) (zg q79) ?_;refine rs0 (.bool (decide (12<l70_m15))) (zg q79) ?_;refine rs0 (.bool (decide (12<l70_m15))) (zF q79) ?_;refine Ao (tn_ ?_);obtain rfl:=zj h;exact ⟨_,Ac [],rfl⟩
    rintro l78_m177 _ rfl h
    (try dsimp only at h);rcases Ad h with ⟨q80,h⟩ | ⟨q80,h⟩
    ·refine Af q80 ?_;refine Ak ?_;refine Ah (tr_ (br_ (tr_ (tr_ (br_ (tr_ ?_))))));obtain rfl:=zj h;have h:=hk14
     (try dsimp only at h);obtain rfl:=zj h;have h:=hn10
     (try dsimp only at h);obtain rfl:=zj h;have h:=hk8
     (try dsimp only at h);obtain rfl:=zj h;exact A3 [.agg [.own (oi 3 1) .int 0 l10_m6_0.length,.own (oi 4 1) .int 0 l10_m6_1.length,.own (oi 5 1) .int 0 l10_m6_2.length],.bool false] (Gh (Bh (Fm (by kernel_rfl) rfl) (Bh (Fm (by kernel_rfl) rfl) (Bh (Fm (by kernel_rfl) rfl) Gb))) (Aq rfl zl Ar))
    refine Ae q80 ?_;refine Ai (tn_ ?_);refine wr_ ?_;refine Ab ?_;obtain ⟨x83,f83,h⟩:=Ag h;obtain ⟨p83,b83,e83⟩:=Bg f83;obtain ⟨x84,f84,h⟩:=Ag h;obtain ⟨p84,b84,e84⟩:=Bg f84;obtain ⟨g85,h⟩:=Av h;refine A4 13 ?_;refine dz0 (.box (oi 2 1) 0) ?_;refine dzl (.own (oi 3 1) .int 0 l10_m6_0.length) ?_;refine dz0 (.box (oi 2 1) 0) ?_;refine dzl (.own (oi 3 1) .int 0 l10_m6_0.length) ?_;refine dz0 (ai (wI (x60 - 1))) ?_;refine ds0 (.elt (oi 3 1) ((wI (x60 - 1)).toNat) 0) (zo (t:=.int) (o:=oi 3 1) (len:=l10_m6_0.length) (k:=.i64) (m:=wI (x60 - 1)) p83 (Au e83)) ?_;refine dsl (ai x84) (Dd (i:=oi 3 1) (j:=(wI (x60 - 1)).toNat) (k:=0) (e:=3) (t:=.int) (xs:=l10_m6_0) (by kernel_rfl) (by kernel_rfl) e84 (by kernel_rfl)) ?_;refine ds1 (.own (oi 186 9) .int 0 1) (oi 186 9) (.arr 3 .int ([x84])) (by kernel_rfl) ?_;refine ds2 (.own (oi 3 10) .int 0 ((l10_m6_0++([x84])).length)) (oi 3 1) (oi 3 10) (.arr 3 .int (l10_m6_0++([x84]))) (Ns (t:=.int) (t':=.int) (xs:=l10_m6_0) (ys:=[x84]) (zs:=l10_m6_0++([x84])) (j:=oi 3 1) (len:=l10_m6_0.length) (c:=.own (oi 186 9) .int 0 1) (by kernel_rfl) (by kernel_rfl) rfl (by kernel_rfl) (Oo (e:=3) (by kernel_rfl) rfl) rfl g85) ?_;refine dz0 (.box (oi 2 1) 0) ?_;refine Yw (oi 2 1) (oi 2 1) (.cells 81 [.own (oi 3 10) .int 0 ((l10_m6_0++([x84])).length),.own (oi 4 1) .int 0 l10_m6_1.length,.own (oi 5 1) .int 0 l10_m6_2.length]) (by kernel_rfl) ?_;refine Gw (Bf (by kernel_rfl)) (tn_ ?_);refine wr_ ?_;refine Ab ?_;obtain ⟨g87,h⟩:=Av h;refine Aa 20 ?_;refine rz0 (.box (oi 2 1) 1) ?_;refine rzl (.own (oi 4 1) .int 0 l10_m6_1.length) ?_;refine rz0 (ai l70_m14) ?_;refine rs1 (.own (oi 192 16) .int 0 1) (oi 192 16) (.arr 3 .int ([l70_m14])) (by kernel_rfl) ?_;refine rs2 (.own (oi 4 17) .int 0 ((l10_m6_1++([l70_m14])).length)) (oi 4 1) (oi 4 17) (.arr 3 .int (l10_m6_1++([l70_m14]))) (Ns (t:=.int) (t':=.int) (xs:=l10_m6_1) (ys:=[l70_m14]) (zs:=l10_m6_1++([l70_m14])) (j:=oi 4 1) (len:=l10_m6_1.length) (c:=.own (oi 192 16) .int 0 1) (by kernel_rfl) (by kernel_rfl) rfl (by kernel_rfl) (Oo (e:=3) (by kernel_rfl) rfl) rfl g87) ?_;refine rsB 2 ?_;refine Ao (tn_ ?_);refine wr_ ?_;obtain ⟨g88,h⟩:=Av h;refine Aa 27 ?_;refine rz0 (.box (oi 2 1) 2) ?_;refine rzl (.own (oi 5 1) .int 0 l10_m6_2.length) ?_;refine rz0 (ai l70_m15) ?_;refine rs1 (.own (oi 198 23) .int 0 1) (oi 198 23) (.arr 3 .int ([l70_m15])) (by kernel_rfl) ?_;refine rs2 (.own (oi 5 24) .int 0 ((l10_m6_2++([l70_m15])).length)) (oi 5 1) (oi 5 24) (.arr 3 .int (l10_m6_2++([l70_m15]))) (Ns (t:=.int) (t':=.int) (xs:=l10_m6_2) (ys:=[l70_m15]) (zs:=l10_m6_2++([l70_m15])) (j:=oi 5 1) (len:=l10_m6_2.length) (c:=.own (oi 198 23) .int 0 1) (by kernel_rfl) (by kernel_rfl) rfl (by kernel_rfl) (Oo (e:=3) (by kernel_rfl) rfl) rfl g88) ?_;refine rsB 2 ?_;refine Ao (bn_ (tn_ ?_));obtain rfl:=zj h;exact ⟨(l10_m6_0++([x84]),l10_m6_1++([l70_m14]),l10_m6_2++([l70_m15])),_,rfl,Ac [(oi 3 1,oi 3 10),(oi 4 1,oi 4 17),(oi 5 1,oi 5 24)],⟨l10_m6_0++([x84]),l10_m6_1++([l70_m14]),l10_m6_2++([l70_m15]),rfl,rfl⟩⟩
   rintro _ _ ⟨l14_m6_0,l14_m6_1,l14_m6_2,rfl,rfl⟩ h
   (try dsimp only at h);obtain ⟨g89,h⟩:=Av h;refine Aa 4 ?_;refine rs0 (ai ((l10_m25+1:Nat):Int)) (za g89) ?_;refine rsB 1 ?_;refine Ao (tn_ ?_);obtain rfl:=zj h;exact ⟨(l10_m25+1,l14_m6_0,l14_m6_1,l14_m6_2),_,Ac [],⟨l10_m25+1,l14_m6_0,l14_m6_1,l14_m6_2,rfl,rfl⟩,hn10⟩
  have q13_:=of_decide_eq_false q13;refine Ae q13 ?_;refine Az (te_ (te_ (be_ (tn_ ?_))));obtain rfl:=zj h;have h:=hn10
  (try dsimp only at h);obtain rfl:=zj h;exact ⟨(l10_m6_0,l10_m6_1,l10_m6_2),_,rfl,Ac [],⟨l10_m6_0,l10_m6_1,l10_m6_2,rfl,rfl⟩⟩
 rintro _ _ ⟨l8_m6_0,l8_m6_1,l8_m6_2,rfl,rfl⟩ h
 (try dsimp only at h);refine Ab ?_;obtain ⟨x91,f91,h⟩:=Ag h;obtain ⟨p91,b91,e91⟩:=Bg f91;obtain ⟨x92,f92,h⟩:=Ag h;obtain ⟨p92,b92,e92⟩:=Bg f92;refine A4 14 ?_;refine dzl (.agg [.own (oi 3 1) .int 0 l8_m6_0.length,.own (oi 4 1) .int 0 l8_m6_1.length,.own (oi 5 1) .int 0 l8_m6_2.length]) ?_;refine dz0 (.box (oi 2 1) 0) ?_;refine dzl (.own (oi 3 1) .int 0 l8_m6_0.length) ?_;refine dz0 (.box (oi 0 1) 0) ?_;refine dzl (.tree (.pair .int (.pair .int .str)) a1_0) ?_;refine dz0 (ai ((a1_0.length:Nat):Int)) ?_;refine dz0 (ai (wI (((a1_0.length:Nat):Int) - 1))) ?_;refine ds0 (.elt (oi 3 1) ((wI (((a1_0.length:Nat):Int) - 1)).toNat) 0) (zo (t:=.int) (o:=oi 3 1) (len:=l8_m6_0.length) (k:=.i64) (m:=wI (((a1_0.length:Nat):Int) - 1)) p91 (Au e91)) ?_;refine dsl (ai x92) (Dd (i:=oi 3 1) (j:=(wI (((a1_0.length:Nat):Int) - 1)).toNat) (k:=0) (e:=3) (t:=.int) (xs:=l8_m6_0) (by kernel_rfl) (by kernel_rfl) e92 (by kernel_rfl)) ?_;refine dz0 (.bool (x92==0)) ?_;refine Yw (oi 1 1) (oi 1 1) (.cells 81 [.own (oi 3 1) .int 0 l8_m6_0.length,.own (oi 4 1) .int 0 l8_m6_1.length,.own (oi 5 1) .int 0 l8_m6_2.length]) (by kernel_rfl) ?_;refine dz0 (.bool (x92==0)) ?_;refine Gw (Bf (by kernel_rfl)) (tn_ ?_);refine wr_ ?_;refine Ah ?_;obtain rfl:=zj h;exact A3 [.agg [.own (oi 3 1) .int 0 l8_m6_0.length,.own (oi 4 1) .int 0 l8_m6_1.length,.own (oi 5 1) .int 0 l8_m6_2.length],.bool (x92==0)] (Gh (Bh (Fm (by kernel_rfl) rfl) (Bh (Fm (by kernel_rfl) rfl) (Bh (Fm (by kernel_rfl) rfl) Gb))) (Aq rfl zl Ar))
def R2:AC :=
 (.seq (rg [xo 1 (.i (.box 34 (tm 0))),xo 2 (.i (.alloc 81 [.nils,.nils,.nils])),xo 3 (qm (cb false))])
 (.seq (rg [xo 4 (.i (.ld false 1 (tm 1))),⟨some 5,none,qc 67 [.cst .nils,tm 4] [[some (.pair .str (.pair .int (.pair .int (.slice (.pair .int (.pair .int .str))))))],[some (.pair .int (.pair .int .str))]]⟩,xo 6 (.i (.extr 0 (tm 5))),xo 7 (.i (.extr 1 (tm 5))),xn (.st false 3 (tm 2) (tm 6)),xo 3 (qm (tm 7))])
 .ret))
def Aec:List Res:=[.cell 2 false 3,.tmp 3]
theorem Adh:Am Tryd.prog Tryd.f46=some (R2,Aec):=by kernel_rfl
def Fu (a0_0:List (Int×Int×ByteArray)):Option (List Int×List Int×List Int×Bool) :=
 Option.bind (Iq ([]) a0_0) fun y3 =>
some (y3.1,y3.2.1,y3.2.2.1,y3.2.2.2)
def Zy (r:List Int×List Int×List Int×Bool):RV:=⟨true,[(true,[.new 3 .int r.1,.new 3 .int r.2.1,.new 3 .int r.2.2.1]),(false,[.sc (.bool r.2.2.2)])]⟩
theorem Pm {a0_0:List (Int×Int×ByteArray)} {r:List Int×List Int×List Int×Bool} (h:Fu a0_0=some r):Aw Tryd.prog Tab 46 [.agg [.tree (.pair .int (.pair .int .str)) a0_0]] (Zy r):=by
 refine At (by kernel_rfl) Tryd.func46 Adh (n:=8) (by kernel_rfl) (by simp) (tl:=[(0,.agg [.tree (.pair .int (.pair .int .str)) a0_0])]) rfl ?_;unfold R2;unfold Fu at h;refine Ak ?_;refine Ab ?_;obtain ⟨y3,h3,h⟩:=Ag h;refine Aa 10 ?_;refine rzl (.agg [.tree (.pair .int (.pair .int .str)) a0_0]) ?_;refine zc (.tup [.agg [.own (oi 80 5) .int 0 y3.1.length,.own (oi 81 5) .int 0 y3.2.1.length,.own (oi 82 5) .int 0 y3.2.2.1.length],.bool y3.2.2.2]) [(oi 80 5,some (.arr 3 .int y3.1)),(oi 81 5,some (.arr 3 .int y3.2.1)),(oi 82 5,some (.arr 3 .int y3.2.2.1))] [.nils,.agg [.tree (.pair .int (.pair .int .str)) a0_0]] (Aby h3) ?_;refine rsB 4 ?_;refine Ao (tn_ ?_);refine wr_ ?_;refine Ah ?_;obtain rfl:=zj h;exact A3 [.agg [.own (oi 80 5) .int 0 y3.1.length,.own (oi 81 5) .int 0 y3.2.1.length,.own (oi 82 5) .int 0 y3.2.2.1.length],.bool y3.2.2.2] (Gh (Bh (Fm (by kernel_rfl) rfl) (Bh (Fm (by kernel_rfl) rfl) (Bh (Fm (by kernel_rfl) rfl) Gb))) (Aq rfl zl Ar))
def R1:AC :=
 (.seq (rg [xo 1 (.i (.box 34 (tm 0))),xo 2 (qm (ci 0)),xo 3 (qm (ci 0)),xo 4 (qm (cb false))])
 (.seq (rg [xo 9 (.i (.ld false 1 (tm 1))),⟨some 10,none,qc 46 [tm 9] [[some (.pair .int (.pair .int .str))]]⟩,xo 8 (qm (tm 10)),xo 11 (.i (.extr 0 (tm 8))),xo 12 (.i (.extr 1 (tm 8))),xo 5 (.i (.alloc 81 [.nils,.nils,.nils])),xn (.st false 3 (tm 5) (tm 11)),xo 6 (qm (tm 12))])
 (.seq (.seq (rg [xo 13 (qm (tm 6)),xo 14 (.i (.not (tm 13)))])
 (.cond (tm 14)
  (.seq (rg [xo 2 (qm (ci 0)),xo 3 (qm (ci 0)),xo 4 (qm (cb false))])
  .ret)
  .skip))
 (.seq (rg [xo 15 (qf 0 (tm 1)),xo 16 (ql (tm 15)),xo 17 (.i (.len (tm 16))),xo 18 (qb .sub (tm 17) (ci 1)),xo 7 (qm (tm 18))])
 (.seq (.region [xo 19 (qf 1 (tm 5)),xo 20 (ql (tm 19)),xo 21 (qm (tm 7)),xo 22 (qx 1 (tm 20) (tm 21)),xo 23 (ql (tm 22)),xo 24 (qf 2 (tm 5)),xo 25 (ql (tm 24)),xo 26 (qm (tm 7)),xo 27 (qx 1 (tm 25) (tm 26)),xo 28 (ql (tm 27)),xo 2 (qm (tm 23)),xo 3 (qm (tm 28)),xo 4 (qm (cb true))] true [])
 .ret)))))
def Aep:List Res:=[.tmp 2,.tmp 3,.tmp 4]
theorem Adf:Am Tryd.prog Tryd.f27=some (R1,Aep):=by kernel_rfl
def Ha (a0_0:List (Int×Int×ByteArray)):Option (Int×Int×Bool) :=
 Option.bind (Fu a0_0) fun y3 =>
cond (!y3.2.2.2)
 (some (0,0,false))
 (Option.bind (Fz y3.2.1 (wI (((a0_0.length:Nat):Int) - 1))) fun x10 =>
 Option.bind (Fz y3.2.1 (wI (((a0_0.length:Nat):Int) - 1))) fun x11 =>
 Option.bind (Fz y3.2.2.1 (wI (((a0_0.length:Nat):Int) - 1))) fun x12 =>
 Option.bind (Fz y3.2.2.1 (wI (((a0_0.length:Nat):Int) - 1))) fun x13 =>
 some (x11,x13,true))
def Aak (r:Int×Int×Bool):RV:=⟨true,[(false,[.sc (.int .i64 r.1)]),(false,[.sc (.int .i64 r.2.1)]),(false,[.sc (.bool r.2.2)])]⟩
theorem Aa2 {a0_0:List (Int×Int×ByteArray)} {r:Int×Int×Bool} (h:Ha a0_0=some r):Aw Tryd.prog Tab 27 [.agg [.tree (.pair .int (.pair .int .str)) a0_0]] (Aak r):=by
 refine At (by kernel_rfl) Tryd.func27 Adf (n:=29) (by kernel_rfl) (by simp) (tl:=[(0,.agg [.tree (.pair .int (.pair .int .str)) a0_0])]) rfl ?_;unfold R1;unfold Ha at h;refine Ak ?_;refine Ab ?_;obtain ⟨y3,h3,h⟩:=Ag h;refine Aa 13 ?_;refine rzl (.agg [.tree (.pair .int (.pair .int .str)) a0_0]) ?_;refine zc (.tup [.agg [.own (oi 160 6) .int 0 y3.1.length,.own (oi 161 6) .int 0 y3.2.1.length,.own (oi 162 6) .int 0 y3.2.2.1.length],.bool y3.2.2.2]) [(oi 160 6,some (.arr 3 .int y3.1)),(oi 161 6,some (.arr 3 .int y3.2.1)),(oi 162 6,some (.arr 3 .int y3.2.2.1))] [.agg [.tree (.pair .int (.pair .int .str)) a0_0]] (Pm h3) ?_;refine rsB 6 ?_;refine Ao (tn_ ?_);refine wr_ ?_;refine Ab ?_;refine Ak ?_;rcases Ad h with ⟨q6,h⟩ | ⟨q6,h⟩
 ·refine Af q6 ?_;refine Ak ?_;refine Ah (tr_ ?_);obtain rfl:=zj h;exact A3 [ai 0,ai 0,.bool false] (Aq rfl zl (Aq rfl zl (Aq rfl zl Ar)))
 refine Ae q6 ?_;refine Ai (tn_ ?_);refine wr_ ?_;refine Ak ?_;refine Ab ?_;obtain ⟨x10,f10,h⟩:=Ag h;obtain ⟨p10,b10,e10⟩:=Bg f10;obtain ⟨x11,f11,h⟩:=Ag h;obtain ⟨p11,b11,e11⟩:=Bg f11;obtain ⟨x12,f12,h⟩:=Ag h;obtain ⟨p12,b12,e12⟩:=Bg f12;obtain ⟨x13,f13,h⟩:=Ag h;obtain ⟨p13,b13,e13⟩:=Bg f13;refine A4 33 ?_;refine dz0 (.box (oi 5 10) 1) ?_;refine dzl (.own (oi 161 6) .int 0 y3.2.1.length) ?_;refine dz0 (ai (wI (((a0_0.length:Nat):Int) - 1))) ?_;refine ds0 (.elt (oi 161 6) ((wI (((a0_0.length:Nat):Int) - 1)).toNat) 0) (zo (t:=.int) (o:=oi 161 6) (len:=y3.2.1.length) (k:=.i64) (m:=wI (((a0_0.length:Nat):Int) - 1)) p10 (Au e10)) ?_;refine dsl (ai x11) (Dd (i:=oi 161 6) (j:=(wI (((a0_0.length:Nat):Int) - 1)).toNat) (k:=0) (e:=3) (t:=.int) (xs:=y3.2.1) (by kernel_rfl) (by kernel_rfl) e11 (by kernel_rfl)) ?_;refine dz0 (.box (oi 5 10) 2) ?_;refine dzl (.own (oi 162 6) .int 0 y3.2.2.1.length) ?_;refine dz0 (ai (wI (((a0_0.length:Nat):Int) - 1))) ?_;refine ds0 (.elt (oi 162 6) ((wI (((a0_0.length:Nat):Int) - 1)).toNat) 0) (zo (t:=.int) (o:=oi 162 6) (len:=y3.2.2.1.length) (k:=.i64) (m:=wI (((a0_0.length:Nat):Int) - 1)) p12 (Au e12)) ?_;refine dsl (ai x13) (Dd (i:=oi 162 6) (j:=(wI (((a0_0.length:Nat):Int) - 1)).toNat) (k:=0) (e:=3) (t:=.int) (xs:=y3.2.2.1) (by kernel_rfl) (by kernel_rfl) e13 (by kernel_rfl)) ?_;refine dz0 (ai x11) ?_;refine dz0 (ai x13) ?_;refine dz0 (.bool true) ?_;refine Gw (Bf (by kernel_rfl)) (tn_ ?_);refine wr_ ?_;refine Ah ?_;obtain rfl:=zj h;exact A3 [ai x11,ai x13,.bool true] (Aq rfl zl (Aq rfl zl (Aq rfl zl Ar)))
def Mz:AC :=
 (.seq (rg [xo 25 (qb .lss (tm 24) (tm 23))])
 (.seq (.cond (tm 25)
  .skip
  (.exit 0))
 (.seq (.block 1 (.seq (rg [xo 26 (qx 3 (tm 22) (tm 24)),xo 27 (.i (.ld false 3 (tm 26))),⟨some 8,none,.i (.alloc 87 [.int .i64 0,.int .i64 0,.str ⟨#[]⟩])⟩,xn (.st false 3 (tm 8) (tm 27))])
 (.seq (rg [xo 28 (qf 0 (tm 8)),xo 29 (ql (tm 28)),xo 30 (qb .eql (tm 29) (ci 7)),xo 31 (qm (tm 30)),⟨some 32,some (31,false),qf 0 (tm 8)⟩,⟨some 33,some (31,false),ql (tm 32)⟩,⟨some 34,some (31,false),qb .eql (tm 33) (ci 13)⟩,xo 35 (.i (.pick (tm 31) (cb true) (tm 34))),xo 36 (qm (tm 35)),⟨some 37,some (36,true),qf 1 (tm 8)⟩,⟨some 38,some (36,true),ql (tm 37)⟩,⟨some 39,some (36,true),qm (tm 0)⟩,⟨some 40,some (36,true),qb .geq (tm 38) (tm 39)⟩,xo 41 (.i (.pick (tm 36) (tm 40) (cb false)))])
 (.cond (tm 41)
  (.seq (rg [xo 4 (qm (cb false))])
  .ret)
  .skip))))
 (rg [xo 42 (qb .add (tm 24) (ci 1)),xo 24 (qm (tm 42))]))))
def Re:AC :=
 (.seq (rg [xo 3 (.i (.box 34 (tm 1))),xo 4 (qm (cb false))])
 (.seq (.seq (rg [xo 10 (.i (.ld false 1 (tm 3))),⟨some 11,none,qc 46 [tm 10] [[some (.pair .int (.pair .int .str))]]⟩,xo 9 (qm (tm 11)),xo 12 (.i (.extr 0 (tm 9))),xo 13 (.i (.extr 1 (tm 9))),xo 5 (.i (.alloc 81 [.nils,.nils,.nils])),xn (.st false 3 (tm 5) (tm 12)),xo 6 (qm (tm 13))])
 (.seq (rg [xo 14 (qm (tm 6)),xo 15 (.i (.not (tm 14))),xo 16 (qm (tm 15)),⟨some 17,some (16,false),qm (tm 0)⟩,⟨some 18,some (16,false),qc 42 [tm 17] [[]]⟩,⟨some 19,some (16,false),.i (.not (tm 18))⟩,xo 20 (.i (.pick (tm 16) (cb true) (tm 19)))])
 (.cond (tm 20)
  (.seq (rg [xo 4 (qm (cb false))])
  .ret)
  .skip)))
 (.seq (.seq (rg [xo 21 (qf 0 (tm 3)),xo 22 (ql (tm 21)),xo 23 (.i (.len (tm 22))),xo 24 (qm (ci 0))])
 (.block 0 (.loop Mz)))
 (.seq (rg [xo 4 (qm (cb true))])
 .ret))))
def Aeo:List Res:=[.tmp 4]
theorem Ad5:Am Tryd.prog Tryd.f29=some (Re,Aeo):=by kernel_rfl
theorem F9:A8 Tryd.prog 29=true:=by kernel_rfl
def Eo (a1_0:List (Int×Int×ByteArray)) (a0:Int) (l12_m24:Nat):Option (Ctl Nat (Ctl Unit Bool)) :=
 cond (decide (((l12_m24:Nat):Int)<((a1_0.length:Nat):Int)))
 (Option.bind (a1_0[l12_m24]?) fun x18 =>
 Option.bind (cond (x18.1==7)
   (some (decide (a0<=x18.2.1)))
   (cond (x18.1==13)
    (some (decide (a0<=x18.2.1)))
    (some false))) fun l19_m41 =>
 cond l19_m41
  (some (Ctl.out (Ctl.out false)))
  (og (l12_m24+1<4611686018427387904) <|
  some (Ctl.next (l12_m24+1))))
 (some (Ctl.out (Ctl.next ())))
def Hg (a0:Int) (a1_0:List (Int×Int×ByteArray)):Option Bool :=
 Option.bind (Fu a1_0) fun y4 =>
Option.bind (cond (!y4.2.2.2)
  (some true)
  (Option.bind (Eg a0) fun y7 =>
  some (!y7))) fun l5_m20 =>
cond l5_m20
 (some false)
 (Du (A7 (fun s_:Nat=>Eo a1_0 a0 s_) 4611686018427387904 0) fun _ =>
 some true)
def Z1 (r:Bool):RV:=⟨false,[(false,[.sc (.bool r)])]⟩
theorem Gf {a0:Int} {a1_0:List (Int×Int×ByteArray)} {r:Bool} (h:Hg a0 a1_0=some r):Aw Tryd.prog Tab 29 [ai a0,.agg [.tree (.pair .int (.pair .int .str)) a1_0]] (Z1 r):=by
 refine At (by kernel_rfl) Tryd.func29 Ad5 (n:=43) (by kernel_rfl) (by simp) (tl:=[(0,ai a0),(1,.agg [.tree (.pair .int (.pair .int .str)) a1_0])]) rfl ?_;unfold Re;unfold Hg at h;refine Ak ?_;refine Ab ?_;refine Ab ?_;obtain ⟨y4,h4,h⟩:=Ag h;refine Aa 11 ?_;refine rzl (.agg [.tree (.pair .int (.pair .int .str)) a1_0]) ?_;refine zc (.tup [.agg [.own (oi 176 4) .int 0 y4.1.length,.own (oi 177 4) .int 0 y4.2.1.length,.own (oi 178 4) .int 0 y4.2.2.1.length],.bool y4.2.2.2]) [(oi 176 4,some (.arr 3 .int y4.1)),(oi 177 4,some (.arr 3 .int y4.2.1)),(oi 178 4,some (.arr 3 .int y4.2.2.1))] [.agg [.tree (.pair .int (.pair .int .str)) a1_0]] (Pm h4) ?_;refine rsB 6 ?_;refine Ao (tn_ ?_);refine wr_ ?_;refine Ax h (fun (l5_m20:Bool) S_=>S_=⟨An [(0,ai a0),(3,.box (oi 0 1) 0),(20,.bool l5_m20)],Aj (Ap [(oi 0 1,.cells 34 [.tree (.pair .int (.pair .int .str)) a1_0])]),2⟩) ?_ ?_
 ·intro v_ h;rcases Ad h with ⟨q6,h⟩ | ⟨q6,h⟩
  ·refine Aa 18 ?_;refine rz0 (.bool y4.2.2.2) ?_;refine rz0 (.bool (!y4.2.2.2)) ?_;refine rz0 (.bool (!y4.2.2.2)) ?_;refine zs q6 ?_;refine zs q6 ?_;refine zs q6 ?_;refine rs0 (.bool true) (zT q6) ?_;refine Ao (tn_ ?_);obtain rfl:=zj h;exact ⟨_,Ac [(oi 0 1,oi 3 1)],rfl⟩
  obtain ⟨y7,h7,h⟩:=Ag h;refine Aa 18 ?_;refine rz0 (.bool y4.2.2.2) ?_;refine rz0 (.bool (!y4.2.2.2)) ?_;refine rz0 (.bool (!y4.2.2.2)) ?_;refine rs0 (ai a0) (zg q6) ?_;refine B3 (.bool y7) [] [ai a0] _ (caps:=[]) (args0:=[ai a0]) (Bi (by kernel_rfl) q6) (by kernel_rfl) (Cx h7) E7 ?_;refine rs0 (.bool (!y7)) (zg q6) ?_;refine rs0 (.bool (!y7)) (zF q6) ?_;refine Ao (tn_ ?_);obtain rfl:=zj h;exact ⟨_,Ac [(oi 0 1,oi 3 1)],rfl⟩
 rintro l5_m20 _ rfl h
 (try dsimp only at h);rcases Ad h with ⟨q8,h⟩ | ⟨q8,h⟩
 ·refine Af q8 ?_;refine Ak ?_;refine Ah (tr_ ?_);obtain rfl:=zj h;exact A3 [.bool false] (Aq rfl zl Ar)
 refine Ae q8 ?_;refine Ai (tn_ ?_);refine wr_ ?_;refine Bj h (fun (_:Unit) S_=>S_=⟨An [],Aj (Ap []),2⟩) ?_ ?_
 ·intro v_ h hk10;refine Ak ?_;refine Al ?_;refine A6 h (fun (l12_m24:Nat) S_=>S_=⟨An [(0,ai a0),(22,.tree (.pair .int (.pair .int .str)) a1_0),(23,ai ((a1_0.length:Nat):Int)),(24,ai ((l12_m24:Nat):Int))],Aj (Ap []),2⟩) ⟨_,Ac [],rfl⟩ ?_;rintro n_ l12_m24 _ c_ rfl h hn12
  (try dsimp only at h);unfold Eo at h;unfold Mz;refine Ak ?_;refine Ab ?_;rcases Ad h with ⟨q15,h⟩ | ⟨q15,h⟩
  ·have q15_:=of_decide_eq_true q15;refine Af q15 ?_;refine Ai (tn_ ?_);refine wr_ ?_;refine Ab ?_;refine Al ?_;refine Ab ?_;obtain ⟨x18,e18,h⟩:=Ag h;refine Aa 7 ?_;refine rs0 (.telt none (.pair .int (.pair .int .str)) x18 0) (zi (t:=.pair .int (.pair .int .str)) (xs:=a1_0) (k:=.i64) (m:=((l12_m24:Nat):Int)) (Ay _) e18) ?_;refine rsB 3 ?_;refine Ao (tn_ ?_);refine wr_ ?_;refine Ax h (fun (l19_m41:Bool) S_=>S_=⟨An [(0,ai a0),(22,.tree (.pair .int (.pair .int .str)) a1_0),(23,ai ((a1_0.length:Nat):Int)),(24,ai ((l12_m24:Nat):Int)),(41,.bool l19_m41)],Aj (Ap []),2⟩) ?_ ?_
   ·intro v_ h;rcases Ad h with ⟨q20,h⟩ | ⟨q20,h⟩
    ·refine Aa 21 ?_;refine rz0 (.box (oi 8 5) 0) ?_;refine rzl (ai x18.1) ?_;refine rz0 (.bool (x18.1==7)) ?_;refine rz0 (.bool (x18.1==7)) ?_;refine zs q20 ?_;refine zs q20 ?_;refine zs q20 ?_;refine rs0 (.bool true) (zT q20) ?_;refine rsB 6 ?_;refine Ao (tn_ ?_);obtain rfl:=zj h;exact ⟨_,Ac [],rfl⟩
    rcases Ad h with ⟨q21,h⟩ | ⟨q21,h⟩
    ·refine Aa 21 ?_;refine rz0 (.box (oi 8 5) 0) ?_;refine rzl (ai x18.1) ?_;refine rz0 (.bool (x18.1==7)) ?_;refine rz0 (.bool (x18.1==7)) ?_;refine rs0 (.box (oi 8 5) 0) (zg q20) ?_;refine rsl (ai x18.1) (zg q20) ?_;refine rs0 (.bool (x18.1==13)) (zg q20) ?_;refine rs0 (.bool (x18.1==13)) (zF q20) ?_;refine rz0 (.bool (x18.1==13)) ?_;refine rs0 (.box (oi 8 5) 1) (zg q21) ?_;refine rsl (ai x18.2.1) (zg q21) ?_;refine rs0 (ai a0) (zg q21) ?_;refine rs0 (.bool (decide (a0<=x18.2.1))) (zg q21) ?_;refine rs0 (.bool (decide (a0<=x18.2.1))) (zT q21) ?_;refine Ao (tn_ ?_);obtain rfl:=zj h;exact ⟨_,Ac [],rfl⟩
    refine Aa 21 ?_;refine rz0 (.box (oi 8 5) 0) ?_;refine rzl (ai x18.1) ?_;refine rz0 (.bool (x18.1==7)) ?_;refine rz0 (.bool (x18.1==7)) ?_;refine rs0 (.box (oi 8 5) 0) (zg q20) ?_;refine rsl (ai x18.1) (zg q20) ?_;refine rs0 (.bool (x18.1==13)) (zg q20) ?_;refine rs0 (.bool (x18.1==13)) (zF q20) ?_;refine rz0 (.bool (x18.1==13)) ?_;refine zs q21 ?_;refine zs q21 ?_;refine zs q21 ?_;refine zs q21 ?_;refine rs0 (.bool false) (zF q21) ?_;refine Ao (tn_ ?_);obtain rfl:=zj h;exact ⟨_,Ac [],rfl⟩
   rintro l19_m41 _ rfl h
   (try dsimp only at h);rcases Ad h with ⟨q22,h⟩ | ⟨q22,h⟩
   ·refine Af q22 ?_;refine Ak ?_;refine Ah (br_ (tr_ (tr_ (br_ (tr_ ?_)))));obtain rfl:=zj h;have h:=hn12
    (try dsimp only at h);obtain rfl:=zj h;have h:=hk10
    (try dsimp only at h);obtain rfl:=zj h;exact A3 [.bool false] (Aq rfl zl Ar)
   refine Ae q22 ?_;refine Ai (bn_ (tn_ ?_));refine wr_ ?_;obtain ⟨g24,h⟩:=Av h;refine Aa 4 ?_;refine rs0 (ai ((l12_m24+1:Nat):Int)) (za g24) ?_;refine rsB 1 ?_;refine Ao (tn_ ?_);obtain rfl:=zj h;exact ⟨l12_m24+1,_,Ac [],rfl,hn12⟩
  have q15_:=of_decide_eq_false q15;refine Ae q15 ?_;refine Az (te_ (te_ (be_ (tn_ ?_))));obtain rfl:=zj h;have h:=hn12
  (try dsimp only at h);obtain rfl:=zj h;exact ⟨(),_,rfl,Ac [],rfl⟩
 rintro _ _ rfl h
 (try dsimp only at h);refine Ak ?_;refine Ah ?_;obtain rfl:=zj h;exact A3 [.bool true] (Aq rfl zl Ar)
def Lu:AC :=
 (.seq (rg [xo 2 (qm (cb false))])
 (.seq (rg [xo 3 (qm (tm 0)),xo 4 (qb .neq (tm 3) (ci 8)),xo 5 (qm (tm 4)),⟨some 6,some (5,true),qm (tm 0)⟩,⟨some 7,some (5,true),qb .neq (tm 6) (ci 14)⟩,xo 8 (.i (.pick (tm 5) (tm 7) (cb false))),xo 2 (qm (tm 8))])
 .ret))
def Vo:List Res:=[.tmp 2]
theorem Ua:Am Tryd.prog Tryd.f50=some (Lu,Vo):=by kernel_rfl
def F2 (a0:Int):Option Bool :=
 Option.bind (cond (a0 !=8)
  (some (a0 !=14))
  (some false)) fun l2_m2 =>
some l2_m2
def S4 (r:Bool):RV:=⟨false,[(false,[.sc (.bool r)])]⟩
theorem S5 {a0:Int} {r:Bool} (h:F2 a0=some r):Aw Tryd.prog Tab 50 [ai a0] (S4 r):=by
 refine At (by kernel_rfl) Tryd.func50 Ua (n:=9) (by kernel_rfl) (by simp) (tl:=[(0,ai a0)]) rfl ?_;unfold Lu;unfold F2 at h;refine Ak ?_;refine Ax h (fun (l2_m2:Bool) S_=>S_=⟨An [(2,.bool l2_m2)],Aj (Ap []),2⟩) ?_ ?_
 ·intro v_ h;rcases Ad h with ⟨q3,h⟩ | ⟨q3,h⟩
  ·refine Aa 9 ?_;refine rz0 (ai a0) ?_;refine rz0 (.bool (a0 !=8)) ?_;refine rz0 (.bool (a0 !=8)) ?_;refine rs0 (ai a0) (zg q3) ?_;refine rs0 (.bool (a0 !=14)) (zg q3) ?_;refine rs0 (.bool (a0 !=14)) (zT q3) ?_;refine rsB 1 ?_;refine Ao (tn_ ?_);obtain rfl:=zj h;exact ⟨_,Ac [],rfl⟩
  refine Aa 9 ?_;refine rz0 (ai a0) ?_;refine rz0 (.bool (a0 !=8)) ?_;refine rz0 (.bool (a0 !=8)) ?_;refine zs q3 ?_;refine zs q3 ?_;refine rs0 (.bool false) (zF q3) ?_;refine rsB 1 ?_;refine Ao (tn_ ?_);obtain rfl:=zj h;exact ⟨_,Ac [],rfl⟩
 rintro l2_m2 _ rfl h
 (try dsimp only at h);refine Ah ?_;obtain rfl:=zj h;exact A3 [.bool l2_m2] (Aq rfl zl Ar)
def I2:AC :=
 (.seq (rg [xo 9 (qb .lss (tm 8) (tm 7))])
 (.seq (.cond (tm 9)
  .skip
  (.exit 0))
 (.seq (.block 1 (.seq (rg [xo 10 (qx 3 (tm 6) (tm 8)),xo 11 (.i (.ld false 3 (tm 10))),⟨some 4,none,.i (.alloc 87 [.int .i64 0,.int .i64 0,.str ⟨#[]⟩])⟩,xn (.st false 3 (tm 4) (tm 11))])
 (.seq (rg [xo 12 (qf 0 (tm 4)),xo 13 (ql (tm 12)),xo 14 (qc 50 [tm 13] [[]]),xo 15 (.i (.not (tm 14)))])
 (.cond (tm 15)
  (.seq (rg [xo 2 (qm (cb false))])
  .ret)
  .skip))))
 (rg [xo 16 (qb .add (tm 8) (ci 1)),xo 8 (qm (tm 16))]))))
def Lr:AC :=
 (.seq (rg [xo 1 (.i (.box 34 (tm 0))),xo 2 (qm (cb false))])
 (.seq (.seq (rg [xo 5 (qf 0 (tm 1)),xo 6 (ql (tm 5)),xo 7 (.i (.len (tm 6))),xo 8 (qm (ci 0))])
 (.block 0 (.loop I2)))
 (.seq (rg [xo 2 (qm (cb true))])
 .ret)))
def T1:List Res:=[.tmp 2]
theorem U0:Am Tryd.prog Tryd.f30=some (Lr,T1):=by kernel_rfl
theorem Fb:A8 Tryd.prog 30=true:=by kernel_rfl
def Cy (a0_0:List (Int×Int×ByteArray)) (l4_m8:Nat):Option (Ctl Nat (Ctl Unit Bool)) :=
 cond (decide (((l4_m8:Nat):Int)<((a0_0.length:Nat):Int)))
 (Option.bind (a0_0[l4_m8]?) fun x10 =>
 Option.bind (F2 x10.1) fun y12 =>
 cond (!y12)
  (some (Ctl.out (Ctl.out false)))
  (og (l4_m8+1<4611686018427387904) <|
  some (Ctl.next (l4_m8+1))))
 (some (Ctl.out (Ctl.next ())))
def D4 (a0_0:List (Int×Int×ByteArray)):Option Bool :=
 Du (A7 (fun s_:Nat=>Cy a0_0 s_) 4611686018427387904 0) fun _ =>
some true
def Tp (r:Bool):RV:=⟨false,[(false,[.sc (.bool r)])]⟩
theorem Fh {a0_0:List (Int×Int×ByteArray)} {r:Bool} (h:D4 a0_0=some r):Aw Tryd.prog Tab 30 [.agg [.tree (.pair .int (.pair .int .str)) a0_0]] (Tp r):=by
 refine At (by kernel_rfl) Tryd.func30 U0 (n:=17) (by kernel_rfl) (by simp) (tl:=[(0,.agg [.tree (.pair .int (.pair .int .str)) a0_0])]) rfl ?_;unfold Lr;unfold D4 at h;refine Ak ?_;refine Bj h (fun (_:Unit) S_=>S_=⟨An [],Aj (Ap []),2⟩) ?_ ?_
 ·intro v_ h hk2;refine Ak ?_;refine Al ?_;refine A6 h (fun (l4_m8:Nat) S_=>S_=⟨An [(6,.tree (.pair .int (.pair .int .str)) a0_0),(7,ai ((a0_0.length:Nat):Int)),(8,ai ((l4_m8:Nat):Int))],Aj (Ap []),2⟩) ⟨_,Ac [],rfl⟩ ?_;rintro n_ l4_m8 _ c_ rfl h hn4
  (try dsimp only at h);unfold Cy at h;unfold I2;refine Ak ?_;refine Ab ?_;rcases Ad h with ⟨q7,h⟩ | ⟨q7,h⟩
  ·have q7_:=of_decide_eq_true q7;refine Af q7 ?_;refine Ai (tn_ ?_);refine wr_ ?_;refine Ab ?_;refine Al ?_;refine Ab ?_;obtain ⟨x10,e10,h⟩:=Ag h;refine Aa 7 ?_;refine rs0 (.telt none (.pair .int (.pair .int .str)) x10 0) (zi (t:=.pair .int (.pair .int .str)) (xs:=a0_0) (k:=.i64) (m:=((l4_m8:Nat):Int)) (Ay _) e10) ?_;refine rsB 3 ?_;refine Ao (tn_ ?_);refine wr_ ?_;refine Ab ?_;obtain ⟨y12,h12,h⟩:=Ag h;refine Aa 11 ?_;refine rz0 (.box (oi 4 5) 0) ?_;refine rzl (ai x10.1) ?_;refine zc (.bool y12) [] [ai x10.1] (S5 h12) ?_;refine rsB 1 ?_;refine Ao (tn_ ?_);refine wr_ ?_;rcases Ad h with ⟨q13,h⟩ | ⟨q13,h⟩
   ·refine Af q13 ?_;refine Ak ?_;refine Ah (br_ (tr_ (tr_ (br_ (tr_ ?_)))));obtain rfl:=zj h;have h:=hn4
    (try dsimp only at h);obtain rfl:=zj h;have h:=hk2
    (try dsimp only at h);obtain rfl:=zj h;exact A3 [.bool false] (Aq rfl zl Ar)
   refine Ae q13 ?_;refine Ai (bn_ (tn_ ?_));refine wr_ ?_;obtain ⟨g15,h⟩:=Av h;refine Aa 13 ?_;refine rs0 (ai ((l4_m8+1:Nat):Int)) (za g15) ?_;refine rsB 1 ?_;refine Ao (tn_ ?_);obtain rfl:=zj h;exact ⟨l4_m8+1,_,Ac [],rfl,hn4⟩
  have q7_:=of_decide_eq_false q7;refine Ae q7 ?_;refine Az (te_ (te_ (be_ (tn_ ?_))));obtain rfl:=zj h;have h:=hn4
  (try dsimp only at h);obtain rfl:=zj h;exact ⟨(),_,rfl,Ac [],rfl⟩
 rintro _ _ rfl h
 (try dsimp only at h);refine Ak ?_;refine Ah ?_;obtain rfl:=zj h;exact A3 [.bool true] (Aq rfl zl Ar)
def Ra:AC :=
 (.seq (rg [xo 3 (.i (.box 37 (tm 1))),xo 4 (qm (cb false))])
 (.seq (rg [xo 9 (qf 1 (tm 3)),xo 10 (.i (.ld false 1 (tm 9))),⟨some 11,none,qc 27 [tm 10] [[some (.pair .int (.pair .int .str))]]⟩,xo 8 (qm (tm 11)),xo 12 (.i (.extr 0 (tm 8))),xo 13 (.i (.extr 1 (tm 8))),xo 14 (.i (.extr 2 (tm 8))),xo 5 (qm (tm 12)),xo 6 (qm (tm 13)),xo 7 (qm (tm 14))])
 (.seq (rg [xo 15 (qm (tm 7)),xo 16 (qm (tm 15)),⟨some 17,some (16,true),qf 0 (tm 3)⟩,⟨some 18,some (16,true),ql (tm 17)⟩,⟨some 19,some (16,true),qc 28 [tm 18] [[]]⟩,xo 20 (.i (.pick (tm 16) (tm 19) (cb false))),xo 21 (qm (tm 20)),⟨some 22,some (21,true),qm (tm 0)⟩,⟨some 23,some (21,true),qf 1 (tm 3)⟩,⟨some 24,some (21,true),.i (.ld false 1 (tm 23))⟩,⟨some 25,some (21,true),qc 29 [tm 22,tm 24] [[],[some (.pair .int (.pair .int .str))]]⟩,xo 26 (.i (.pick (tm 21) (tm 25) (cb false))),xo 27 (qm (tm 26)),⟨some 28,some (27,true),qf 1 (tm 3)⟩,⟨some 29,some (27,true),.i (.ld false 1 (tm 28))⟩,⟨some 30,some (27,true),qc 30 [tm 29] [[some (.pair .int (.pair .int .str))]]⟩,xo 31 (.i (.pick (tm 27) (tm 30) (cb false))),xo 32 (qm (tm 31)),⟨some 33,some (32,true),qm (tm 0)⟩,⟨some 34,some (32,true),qf 2 (tm 3)⟩,⟨some 35,some (32,true),.i (.ld false 3 (tm 34))⟩,⟨some 36,some (32,true),qc 31 [tm 33,tm 35] [[],[none,none,some (.slice .int)]]⟩,xo 37 (.i (.pick (tm 32) (tm 36) (cb false))),xo 38 (qm (tm 37)),⟨some 39,some (38,true),qf 2 (tm 3)⟩,⟨some 40,some (38,true),qf 0 (tm 39)⟩,⟨some 41,some (38,true),ql (tm 40)⟩,⟨some 42,some (38,true),qm (tm 5)⟩,⟨some 43,some (38,true),qb .eql (tm 41) (tm 42)⟩,xo 44 (.i (.pick (tm 38) (tm 43) (cb false))),xo 45 (qm (tm 44)),⟨some 46,some (45,true),qf 2 (tm 3)⟩,⟨some 47,some (45,true),qf 1 (tm 46)⟩,⟨some 48,some (45,true),ql (tm 47)⟩,⟨some 49,some (45,true),qm (tm 6)⟩,⟨some 50,some (45,true),qb .eql (tm 48) (tm 49)⟩,xo 51 (.i (.pick (tm 45) (tm 50) (cb false))),xo 4 (qm (tm 51))])
 .ret)))
def Acp:List Res:=[.tmp 4]
theorem Adr:Am Tryd.prog Tryd.f17=some (Ra,Acp):=by kernel_rfl
theorem Px:A8 Tryd.prog 17=true:=by kernel_rfl
def Eh (a0:Int) (a1_0:ByteArray) (a1_1:List (Int×Int×ByteArray)) (a1_2:Int) (a1_3:Int) (a1_4:List (List Int)):Option Bool :=
 Option.bind (Ha a1_1) fun y3 =>
Option.bind (cond y3.2.2
  (Option.bind (Hl a1_0) fun y6 =>
  cond y6
   (Option.bind (Hg a0 a1_1) fun y8 =>
   cond y8
    (Option.bind (D4 a1_1) fun y10 =>
    cond y10
     (Option.bind (He a0 a1_2 a1_3 a1_4) fun y12 =>
     cond y12
      (cond (a1_2==y3.1)
       (some (a1_3==y3.2.1))
       (some false))
      (some false))
     (some false))
    (some false))
   (some false))
  (some false)) fun l4_m4 =>
some l4_m4
def Aa9 (r:Bool):RV:=⟨false,[(false,[.sc (.bool r)])]⟩
set_option maxHeartbeats 1600000 in
theorem Pj {a0:Int} {a1_0:ByteArray} {a1_1:List (Int×Int×ByteArray)} {a1_2:Int} {a1_3:Int} {a1_4:List (List Int)} {r:Bool} (h:Eh a0 a1_0 a1_1 a1_2 a1_3 a1_4=some r):Aw Tryd.prog Tab 17 [ai a0,.agg [.str a1_0,.tree (.pair .int (.pair .int .str)) a1_1,ai a1_2,ai a1_3,.tree (.slice .int) a1_4]] (Aa9 r):=by
 refine At (by kernel_rfl) Tryd.func17 Adr (n:=52) (by kernel_rfl) (by simp) (tl:=[(0,ai a0),(1,.agg [.str a1_0,.tree (.pair .int (.pair .int .str)) a1_1,ai a1_2,ai a1_3,.tree (.slice .int) a1_4])]) rfl ?_;unfold Ra;unfold Eh at h;refine Ak ?_;refine Ab ?_;obtain ⟨y3,h3,h⟩:=Ag h;refine Aa 13 ?_;refine rz0 (.box (oi 3 1) 1) ?_;refine rzl (.agg [.tree (.pair .int (.pair .int .str)) a1_1]) ?_;refine zc (.tup [ai y3.1,ai y3.2.1,.bool y3.2.2]) [] [.agg [.tree (.pair .int (.pair .int .str)) a1_1]] (Aa2 h3) ?_;refine rsB 7 ?_;refine Ao (tn_ ?_);refine wr_ ?_;refine Ax h (fun (l4_m4:Bool) S_=>S_=⟨An [(4,.bool l4_m4)],Aj (Ap []),2⟩) ?_ ?_
 ·intro v_ h;rcases Ad h with ⟨q5,h⟩ | ⟨q5,h⟩
  ·obtain ⟨y6,h6,h⟩:=Ag h;rcases Ad h with ⟨q7,h⟩ | ⟨q7,h⟩
   ·obtain ⟨y8,h8,h⟩:=Ag h;rcases Ad h with ⟨q9,h⟩ | ⟨q9,h⟩
    ·obtain ⟨y10,h10,h⟩:=Ag h;rcases Ad h with ⟨q11,h⟩ | ⟨q11,h⟩
     ·obtain ⟨y12,h12,h⟩:=Ag h;rcases Ad h with ⟨q13,h⟩ | ⟨q13,h⟩
      ·rcases Ad h with ⟨q14,h⟩ | ⟨q14,h⟩
       ·refine Aa 51 ?_;refine rz0 (.bool y3.2.2) ?_;refine rz0 (.bool y3.2.2) ?_;refine rs0 (.box (oi 3 1) 0) (zg q5) ?_;refine rsl (.str a1_0) (zg q5) ?_;refine B3 (.bool y6) [] [.str a1_0] _ (caps:=[]) (args0:=[.str a1_0]) (Bi (by kernel_rfl) q5) (by kernel_rfl) (Ez h6) Ex ?_;refine rs0 (.bool y6) (zT q5) ?_;refine rz0 (.bool y6) ?_;refine rs0 (ai a0) (zg q7) ?_;refine rs0 (.box (oi 3 1) 1) (zg q7) ?_;refine rsl (.agg [.tree (.pair .int (.pair .int .str)) a1_1]) (zg q7) ?_;refine B3 (.bool y8) [] [ai a0,.agg [.tree (.pair .int (.pair .int .str)) a1_1]] _ (caps:=[]) (args0:=[ai a0,.agg [.tree (.pair .int (.pair .int .str)) a1_1]]) (Bi (by kernel_rfl) q7) (by kernel_rfl) (Gf h8) F9 ?_;refine rs0 (.bool y8) (zT q7) ?_;refine rz0 (.bool y8) ?_;refine rs0 (.box (oi 3 1) 1) (zg q9) ?_;refine rsl (.agg [.tree (.pair .int (.pair .int .str)) a1_1]) (zg q9) ?_;refine B3 (.bool y10) [] [.agg [.tree (.pair .int (.pair .int .str)) a1_1]] _ (caps:=[]) (args0:=[.agg [.tree (.pair .int (.pair .int .str)) a1_1]]) (Bi (by kernel_rfl) q9) (by kernel_rfl) (Fh h10) Fb ?_;refine rs0 (.bool y10) (zT q9) ?_;refine rz0 (.bool y10) ?_;refine rs0 (ai a0) (zg q11) ?_;refine rs0 (.box (oi 3 1) 2) (zg q11) ?_;refine rsl (.agg [ai a1_2,ai a1_3,.tree (.slice .int) a1_4]) (zg q11) ?_;refine B3 (.bool y12) [] [ai a0,.agg [ai a1_2,ai a1_3,.tree (.slice .int) a1_4]] _ (caps:=[]) (args0:=[ai a0,.agg [ai a1_2,ai a1_3,.tree (.slice .int) a1_4]]) (Bi (by kernel_rfl) q11) (by kernel_rfl) (Kl h12) K1 ?_;refine rs0 (.bool y12) (zT q11) ?_;refine rz0 (.bool y12) ?_;refine rs0 (.box (oi 3 1) 2) (zg q13) ?_;refine rs0 (.box (oi 3 1) 2) (zg q13) ?_;refine rsl (ai a1_2) (zg q13) ?_;refine rs0 (ai y3.1) (zg q13) ?_;refine rs0 (.bool (a1_2==y3.1)) (zg q13) ?_;refine rs0 (.bool (a1_2==y3.1)) (zT q13) ?_;refine rz0 (.bool (a1_2==y3.1)) ?_;refine rs0 (.box (oi 3 1) 2) (zg q14) ?_;refine rs0 (.box (oi 3 1) 3) (zg q14) ?_;refine rsl (ai a1_3) (zg q14) ?_;refine rs0 (ai y3.2.1) (zg q14) ?_;refine rs0 (.bool (a1_3==y3.2.1)) (zg q14) ?_;refine rs0 (.bool (a1_3==y3.2.1)) (zT q14) ?_;refine rsB 1 ?_;refine Ao (tn_ ?_);obtain rfl:=zj h;exact ⟨_,Ac [],rfl⟩
       refine Aa 51 ?_;refine rz0 (.bool y3.2.2) ?_;refine rz0 (.bool y3.2.2) ?_;refine rs0 (.box (oi 3 1) 0) (zg q5) ?_;refine rsl (.str a1_0) (zg q5) ?_;refine B3 (.bool y6) [] [.str a1_0] _ (caps:=[]) (args0:=[.str a1_0]) (Bi (by kernel_rfl) q5) (by kernel_rfl) (Ez h6) Ex ?_;refine rs0 (.bool y6) (zT q5) ?_;refine rz0 (.bool y6) ?_;refine rs0 (ai a0) (zg q7) ?_;refine rs0 (.box (oi 3 1) 1) (zg q7) ?_;refine rsl (.agg [.tree (.pair .int (.pair .int .str)) a1_1]) (zg q7) ?_;refine B3 (.bool y8) [] [ai a0,.agg [.tree (.pair .int (.pair .int .str)) a1_1]] _ (caps:=[]) (args0:=[ai a0,.agg [.tree (.pair .int (.pair .int .str)) a1_1]]) (Bi (by kernel_rfl) q7) (by kernel_rfl) (Gf h8) F9 ?_;refine rs0 (.bool y8) (zT q7) ?_;refine rz0 (.bool y8) ?_;refine rs0 (.box (oi 3 1) 1) (zg q9) ?_;refine rsl (.agg [.tree (.pair .int (.pair .int .str)) a1_1]) (zg q9) ?_;refine B3 (.bool y10) [] [.agg [.tree (.pair .int (.pair .int .str)) a1_1]] _ (caps:=[]) (args0:=[.agg [.tree (.pair .int (.pair .int .str)) a1_1]]) (Bi (by kernel_rfl) q9) (by kernel_rfl) (Fh h10) Fb ?_;refine rs0 (.bool y10) (zT q9) ?_;refine rz0 (.bool y10) ?_;refine rs0 (ai a0) (zg q11) ?_;refine rs0 (.box (oi 3 1) 2) (zg q11) ?_;refine rsl (.agg [ai a1_2,ai a1_3,.tree (.slice .int) a1_4]) (zg q11) ?_;refine B3 (.bool y12) [] [ai a0,.agg [ai a1_2,ai a1_3,.tree (.slice .int) a1_4]] _ (caps:=[]) (args0:=[ai a0,.agg [ai a1_2,ai a1_3,.tree (.slice .int) a1_4]]) (Bi (by kernel_rfl) q11) (by kernel_rfl) (Kl h12) K1 ?_;refine rs0 (.bool y12) (zT q11) ?_;refine rz0 (.bool y12) ?_;refine rs0 (.box (oi 3 1) 2) (zg q13) ?_;refine rs0 (.box (oi 3 1) 2) (zg q13) ?_;refine rsl (ai a1_2) (zg q13) ?_;refine rs0 (ai y3.1) (zg q13) ?_;refine rs0 (.bool (a1_2==y3.1)) (zg q13) ?_;refine rs0 (.bool (a1_2==y3.1)) (zT q13) ?_;refine rz0 (.bool (a1_2==y3.1)) ?_;refine zs q14 ?_;refine zs q14 ?_;refine zs q14 ?_;refine zs q14 ?_;refine zs q14 ?_;refine rs0 (.bool false) (zF q14) ?_;refine rsB 1 ?_;refine Ao (tn_ ?_);obtain rfl:=zj h;exact ⟨_,Ac [],rfl⟩
      refine Aa 51 ?_;refine rz0 (.bool y3.2.2) ?_;refine rz0 (.bool y3.2.2) ?_;refine rs0 (.box (oi 3 1) 0) (zg q5) ?_;refine rsl (.str a1_0) (zg q5) ?_;refine B3 (.bool y6) [] [.str a1_0] _ (caps:=[]) (args0:=[.str a1_0]) (Bi (by kernel_rfl) q5) (by kernel_rfl) (Ez h6) Ex ?_;refine rs0 (.bool y6) (zT q5) ?_;refine rz0 (.bool y6) ?_;refine rs0 (ai a0) (zg q7) ?_;refine rs0 (.box (oi 3 1) 1) (zg q7) ?_;refine rsl (.agg [.tree (.pair .int (.pair .int .str)) a1_1]) (zg q7) ?_;refine B3 (.bool y8) [] [ai a0,.agg [.tree (.pair .int (.pair .int .str)) a1_1]] _ (caps:=[]) (args0:=[ai a0,.agg [.tree (.pair .int (.pair .int .str)) a1_1]]) (Bi (by kernel_rfl) q7) (by kernel_rfl) (Gf h8) F9 ?_;refine rs0 (.bool y8) (zT q7) ?_;refine rz0 (.bool y8) ?_;refine rs0 (.box (oi 3 1) 1) (zg q9) ?_;refine rsl (.agg [.tree (.pair .int (.pair .int .str)) a1_1]) (zg q9) ?_;refine B3 (.bool y10) [] [.agg [.tree (.pair .int (.pair .int .str)) a1_1]] _ (caps:=[]) (args0:=[.agg [.tree (.pair .int (.pair .int .str)) a1_1]]) (Bi (by kernel_rfl) q9) (by kernel_rfl) (Fh h10) Fb ?_;refine rs0 (.bool y10) (zT q9) ?_;refine rz0 (.bool y10) ?_;refine rs0 (ai a0) (zg q11) ?_;refine rs0 (.box (oi 3 1) 2) (zg q11) ?_;refine rsl (.agg [ai a1_2,ai a1_3,.tree (.slice .int) a1_4]) (zg q11) ?_;refine B3 (.bool y12) [] [ai a0,.agg [ai a1_2,ai a1_3,.tree (.slice .int) a1_4]] _ (caps:=[]) (args0:=[ai a0,.agg [ai a1_2,ai a1_3,.tree (.slice .int) a1_4]]) (Bi (by kernel_rfl) q11) (by kernel_rfl) (Kl h12) K1 ?_;refine rs0 (.bool y12) (zT q11) ?_;refine rz0 (.bool y12) ?_;refine zs q13 ?_;refine zs q13 ?_;refine zs q13 ?_;refine zs q13 ?_;refine zs q13 ?_;refine rs0 (.bool false) (zF q13) ?_;refine rsB 8 ?_;refine Ao (tn_ ?_);obtain rfl:=zj h;exact ⟨_,Ac [],rfl⟩
     refine Aa 51 ?_;refine rz0 (.bool y3.2.2) ?_;refine rz0 (.bool y3.2.2) ?_;refine rs0 (.box (oi 3 1) 0) (zg q5) ?_;refine rsl (.str a1_0) (zg q5) ?_;refine B3 (.bool y6) [] [.str a1_0] _ (caps:=[]) (args0:=[.str a1_0]) (Bi (by kernel_rfl) q5) (by kernel_rfl) (Ez h6) Ex ?_;refine rs0 (.bool y6) (zT q5) ?_;refine rz0 (.bool y6) ?_;refine rs0 (ai a0) (zg q7) ?_;refine rs0 (.box (oi 3 1) 1) (zg q7) ?_;refine rsl (.agg [.tree (.pair .int (.pair .int .str)) a1_1]) (zg q7) ?_;refine B3 (.bool y8) [] [ai a0,.agg [.tree (.pair .int (.pair .int .str)) a1_1]] _ (caps:=[]) (args0:=[ai a0,.agg [.tree (.pair .int (.pair .int .str)) a1_1]]) (Bi (by kernel_rfl) q7) (by kernel_rfl) (Gf h8) F9 ?_;refine rs0 (.bool y8) (zT q7) ?_;refine rz0 (.bool y8) ?_;refine rs0 (.box (oi 3 1) 1) (zg q9) ?_;refine rsl (.agg [.tree (.pair .int (.pair .int .str)) a1_1]) (zg q9) ?_;refine B3 (.bool y10) [] [.agg [.tree (.pair .int (.pair .int .str)) a1_1]] _ (caps:=[]) (args0:=[.agg [.tree (.pair .int (.pair .int .str)) a1_1]]) (Bi (by kernel_rfl) q9) (by kernel_rfl) (Fh h10) Fb ?_;refine rs0 (.bool y10) (zT q9) ?_;refine rz0 (.bool y10) ?_;refine zs q11 ?_;refine zs q11 ?_;refine zs q11 ?_;refine zs q11 ?_;refine rs0 (.bool false) (zF q11) ?_;refine rsB 15 ?_;refine Ao (tn_ ?_);obtain rfl:=zj h;exact ⟨_,Ac [],rfl⟩
    refine Aa 51 ?_;refine rz0 (.bool y3.2.2) ?_;refine rz0 (.bool y3.2.2) ?_;refine rs0 (.box (oi 3 1) 0) (zg q5) ?_;refine rsl (.str a1_0) (zg q5) ?_;refine B3 (.bool y6) [] [.str a1_0] _ (caps:=[]) (args0:=[.str a1_0]) (Bi (by kernel_rfl) q5) (by kernel_rfl) (Ez h6) Ex ?_;refine rs0 (.bool y6) (zT q5) ?_;refine rz0 (.bool y6) ?_;refine rs0 (ai a0) (zg q7) ?_;refine rs0 (.box (oi 3 1) 1) (zg q7) ?_;refine rsl (.agg [.tree (.pair .int (.pair .int .str)) a1_1]) (zg q7) ?_;refine B3 (.bool y8) [] [ai a0,.agg [.tree (.pair .int (.pair .int .str)) a1_1]] _ (caps:=[]) (args0:=[ai a0,.agg [.tree (.pair .int (.pair .int .str)) a1_1]]) (Bi (by kernel_rfl) q7) (by kernel_rfl) (Gf h8) F9 ?_;refine rs0 (.bool y8) (zT q7) ?_;refine rz0 (.bool y8) ?_;refine zs q9 ?_;refine zs q9 ?_;refine zs q9 ?_;refine rs0 (.bool false) (zF q9) ?_;refine rsB 21 ?_;refine Ao (tn_ ?_);obtain rfl:=zj h;exact ⟨_,Ac [],rfl⟩
   refine Aa 51 ?_;refine rz0 (.bool y3.2.2) ?_;refine rz0 (.bool y3.2.2) ?_;refine rs0 (.box (oi 3 1) 0) (zg q5) ?_;refine rsl (.str a1_0) (zg q5) ?_;refine B3 (.bool y6) [] [.str a1_0] _ (caps:=[]) (args0:=[.str a1_0]) (Bi (by kernel_rfl) q5) (by kernel_rfl) (Ez h6) Ex ?_;refine rs0 (.bool y6) (zT q5) ?_;refine rz0 (.bool y6) ?_;refine zs q7 ?_;refine zs q7 ?_;refine zs q7 ?_;refine zs q7 ?_;refine rs0 (.bool false) (zF q7) ?_;refine rsB 26 ?_;refine Ao (tn_ ?_);obtain rfl:=zj h;exact ⟨_,Ac [],rfl⟩
  refine Aa 51 ?_;refine rz0 (.bool y3.2.2) ?_;refine rz0 (.bool y3.2.2) ?_;refine zs q5 ?_;refine zs q5 ?_;refine zs q5 ?_;refine rs0 (.bool false) (zF q5) ?_;refine rsB 32 ?_;refine Ao (tn_ ?_);obtain rfl:=zj h;exact ⟨_,Ac [],rfl⟩
 rintro l4_m4 _ rfl h
 (try dsimp only at h);refine Ah ?_;obtain rfl:=zj h;exact A3 [.bool l4_m4] (Aq rfl zl Ar)
end
section
section
variable {α β σ ρ:Type}
theorem Afg {body:σ->Option (Ctl σ ρ)} {Post:ρ->Prop} (n:Nat) (I:Nat->σ->Prop)
  (hs:∀ i s,i<n->I i s->(∃ s',body s=some (.next s')∧I (i+1) s')∨∃ r,body s=some (.out r)∧Post r) (he:∀ s,I n s->∃ r,body s=some (.out r)∧Post r) :
  ∀ (F k:Nat) (s:σ),k<=n->n - k<F->I k s->∃ r,A7 body F s=some r∧Post r
 | 0,_,_,_,h,_=>by omega
 | F+1,k,s,hk,h,hi=>by
  have key:(∃ r,body s=some (.out r)∧Post r)->∃ r,A7 body (F+1) s=some r∧Post r:=by
   rintro ⟨r,h1,h2⟩;exact ⟨r,by simp only [A7,h1,obs,Ctl.then],h2⟩
  rcases Nat.lt_or_ge k n with hlt | hge
  ·rcases hs k s hlt hi with ⟨s',h1,h2⟩ | h
   ·obtain ⟨r,h3,h4⟩:=Afg n I hs he F (k+1) s' hlt (by omega) h2;exact ⟨r,by simp only [A7,h1,obs,Ctl.then]; exact h3,h4⟩
   ·exact key h
  ·obtain rfl:k=n:=by omega
   exact key (he s hi)
theorem Ki {body:σ->Option (Ctl σ ρ)} {Post:ρ->Prop} (n:Nat) (I:Nat->σ->Prop) {F:Nat} (hn:n<F) {s0:σ} (h0:I 0 s0)
  (hs:∀ i s,i<n->I i s->(∃ s',body s=some (.next s')∧I (i+1) s')∨∃ r,body s=some (.out r)∧Post r) (he:∀ s,I n s->∃ r,body s=some (.out r)∧Post r):∃ r,A7 body F s0=some r∧Post r :=
 Afg n I hs he F 0 s0 (Nat.zero_le _) (by omega) h0
theorem Ft {body:σ->Option (Ctl σ ρ)} (n:Nat) (I:Nat->σ->Prop) {F:Nat} (hn:n<F) {s0:σ} (r:ρ) (h0:I 0 s0)
  (hs:∀ i s,i<n->I i s->(∃ s',body s=some (.next s')∧I (i+1) s')∨body s=some (.out r)) (he:∀ s,I n s->body s=some (.out r)):A7 body F s0=some r:=by
 obtain ⟨r',h1,rfl⟩:=Ki (Post:=fun r'=>r'=r) n I hn h0 (fun i s hi hI=>(hs i s hi hI).imp id fun h=>⟨r,h,rfl⟩) (fun s h=>⟨r,he s h,rfl⟩);exact h1
theorem Cn {body:σ->Option (Ctl σ ρ)} (n:Nat) (S:Nat->σ) {F:Nat} (hn:n<F) {s0:σ} (r:ρ) (h0:s0=S 0) (hs:∀ i,i<n->body (S i)=some (.next (S (i+1)))) (he:body (S n)=some (.out r)):A7 body F s0=some r:=by
 subst h0;refine Ft n (fun i s=>s=S i) hn r rfl (fun i s hi e=>.inl ?_) (fun s e=>by subst e; exact he);subst e;exact ⟨_,hs i hi,rfl⟩
theorem Fv {body:Nat->Option (Ctl Nat ρ)} (xs:List α) (q:α->Bool) (good bad:ρ) {F:Nat} (hn:xs.length<F) (hs:∀ i x,xs[i]? =some x->body i=some (if q x then .next (i+1) else .out bad)) (he:body xs.length=some (.out good)):A7 body F 0=some (if xs.all q then good else bad):=by
 refine Ft xs.length (fun i s=>s=i∧(xs.take i).all q=true) hn _ ⟨rfl,by simp⟩ ?_ ?_
 ·rintro i s hi ⟨hsi,hq⟩;subst s;have hx:=gEg hi;rw [hs i _ hx];cases hc:q xs[i]
  ·refine .inr ?_
   have:xs.all q=false:=by
    rw [Bool.eq_false_iff];intro ha;rw [List.all_eq_true] at ha;rw [ha _ (List.getElem_mem hi)] at hc;cases hc
   rw [this]; rfl
  ·refine .inl ⟨i+1,rfl,rfl,?_⟩;rw [List.take_add_one,List.all_append,hq,hx];simp [hc]
 ·rintro s ⟨rfl,hq⟩;rw [List.take_length] at hq;rw [he,hq]; rfl
theorem Wp {body:Nat->Option (Ctl Nat ρ)} (xs:List α) (q:α->Bool) (none_:ρ) (g:Nat->ρ) {F:Nat} (hn:xs.length<F) (hs:∀ i x,xs[i]? =some x->body i=some (if q x then .out (g i) else .next (i+1))) (he:body xs.length=some (.out none_)) :
  (xs.any q=true∧∃ i,i<xs.length∧A7 body F 0=some (g i))∨(xs.any q=false∧A7 body F 0=some none_):=by
 have key:∃ r,A7 body F 0=some r∧((xs.any q=true∧∃ i,i<xs.length∧r=g i)∨(xs.any q=false∧r=none_)):=by
  refine Ki xs.length (fun i s=>s=i∧(xs.take i).any q=false) hn ⟨rfl,by simp⟩ ?_ ?_
  ·rintro i s hi ⟨hsi,hq⟩;subst s;have hx:=gEg hi;rw [hs i _ hx];cases hc:q xs[i]
   ·refine .inl ⟨i+1,rfl,rfl,?_⟩;rw [List.take_add_one,List.any_append,hq,hx];simp [hc]
   ·exact .inr ⟨_,rfl,.inl ⟨List.any_eq_true.2 ⟨_,List.getElem_mem hi,hc⟩,i,hi,rfl⟩⟩
  ·rintro s ⟨hsi,hq⟩;subst hsi;rw [List.take_length] at hq;exact ⟨_,he,.inr ⟨hq,rfl⟩⟩
 obtain ⟨r,h,⟨h1,i,hi,rfl⟩ | ⟨h1,rfl⟩⟩:=key
 ·exact .inl ⟨h1,i,hi,h⟩
 ·exact .inr ⟨h1,h⟩
theorem Vx {body:Nat×List β->Option (Ctl (Nat×List β) ρ)} (xs:List α) (f:α->β) (ys:List β) {F:Nat} (hn:xs.length<F) (r:ρ) (hs:∀ i x,xs[i]? =some x->body (i,ys++(xs.take i).map f)=some (.next (i+1,(ys++(xs.take i).map f)++[f x]))) (he:body (xs.length,ys++xs.map f)=some (.out r)):A7 body F (0,ys)=some r:=by
 refine Cn xs.length (fun i=>(i,ys++(xs.take i).map f)) hn r (by simp) (fun i hi=>?_) (by rw [List.take_length]; exact he);have hx:=gEg hi;rw [hs i _ hx,List.take_add_one,hx];simp only [List.map_append,Option.toList,List.map_cons,List.map_nil,List.append_assoc]
theorem Qj {xs:List α} {d:α} {i:Nat} (h:i<xs.length):(xs.take i++List.replicate (xs.length - i) d)[i]? =some d:=by
 have h1:(xs.take i).length=i:=by rw [List.length_take]; omega
 rw [List.getElem?_append_right (by omega),h1,Nat.sub_self,List.getElem?_replicate,if_pos (by omega)]
theorem Qf {xs:List α} {d x:α} {i:Nat} (h:xs[i]? =some x):(xs.take i++List.replicate (xs.length - i) d).set i x=xs.take (i+1)++List.replicate (xs.length - (i+1)) d:=by
 have hi:=(gSi.1 h).1;have e:xs.length - i=(xs.length - (i+1))+1:=by omega
 rw [List.take_add_one,h,e,List.replicate_succ,List.set_append,if_neg (by simp; omega)];simp [Nat.min_eq_left (Nat.le_of_lt hi)]
theorem Mx {xs ys:List α} {i:Nat} (h:i<xs.length) (hl:ys.length=i):(ys++xs.drop i)[i]? =some xs[i]:=by
 rw [List.getElem?_append_right (by omega),hl];simp [List.getElem?_drop,h]
theorem Mu {xs ys:List α} {y:α} {i:Nat} (h:i<xs.length) (hl:ys.length=i):(ys++xs.drop i).set i y=(ys++[y])++xs.drop (i+1):=by
 rw [List.set_append,if_neg (by omega),hl,Nat.sub_self,List.drop_eq_getElem_cons h,List.append_assoc];rfl
end
theorem B4 {n:Int} (h1: -9223372036854775808<=n) (h2:n<9223372036854775808):wI n=n:=Go.IntWalk.i64_in _ (by omega)
theorem Bd {p:Prop} [Decidable p] (h:p):decide p=true:=decide_eq_true h
theorem Ba {p:Prop} [Decidable p] (h:¬ p):decide p=false:=decide_eq_false h
end
section
theorem Jy (b:Bool):Du (some (if b then Ctl.next () else Ctl.out false)) (fun _:Unit=>some true)=some b:=by cases b <;> rfl
theorem L4 (x lo hi:Int):Bz x lo hi=some (inR x lo hi):=by
 unfold Bz inR;by_cases h:lo<=x <;> simp [h]
theorem K7 (x lo hi:Int):B2 x lo hi=some (inR x lo hi):=by
 unfold B2 inR;by_cases h:lo<=x <;> simp [h]
theorem Ar3 (xs:List Int) (lo hi:Int) (hx:xs.length<=1099511627776):H8 xs lo hi=some (xs.all fun x=>inR x lo hi):=by
 unfold H8;rw [Fv xs (fun x=>inR x lo hi) (.next ()) (.out false) (by omega) (fun i x h=>?_) ?_,Jy]
 ·unfold Ho;rw [Ba (by omega),cond_false]
 ·have:=Au h;unfold Ho;rw [Bd (by omega),cond_true,h,obs,L4,obs,As (by omega)];cases inR x lo hi <;> rfl
theorem Aq0 {p:Int} (h:inR p 2 97=false):isF p=false:=by rcases Ane.1 h with h | h <;> simp [isF] <;> omega
theorem Abv (p:Int):Eg p=some (isF p):=by
 unfold Eg;rw [L4,obs];cases hr:inR p 2 97
 ·rw [Aq0 hr]; rfl
 rw [Bool.not_true,cond_false];obtain ⟨h1,h2⟩:=Da.1 hr;obtain ⟨n,rfl⟩:=Int.eq_ofNat_of_zero_le (show 0<=p by omega)
 have h:A7 (fun s_:Nat=>E2 n s_) 4611686018427387904 2=some (if isF n then .next () else .out false):=by
  refine Ft 8 (fun i s=>s=i+2∧Afe n s=true) (by omega) _ ⟨rfl,by simp [Afe,List.range_succ]⟩ ?_ ?_
  ·rintro i s hi ⟨hs,hd⟩;unfold E2;have hm:((s:Int)*(s:Int))=((s*s:Nat):Int):=by simp
   have hss:s*s<=9*9:=Nat.mul_le_mul (by omega) (by omega);rw [hm,B4 (by omega) (by omega)];by_cases hle:s*s<=n
   ·rw [Bd (by omega),cond_true,As (by omega),show Int.tmod (n:Int) (s:Int)=((n % s:Nat):Int) from by rw [Int.tmod_eq_emod_of_nonneg (by omega)]; rfl];by_cases h0:n % s=0
    ·refine .inr ?_;rw [h0,Ar4 n (by omega) s (by omega) (by omega) hle h0]; rfl
    ·refine .inl ⟨s+1,?_,by omega,Ale hd h0⟩;rw [show (((n % s:Nat):Int)==0)=false from by rw [beq_eq_false_iff_ne]; omega,cond_false,As (by omega)]
   ·refine .inr ?_;rw [Ba (by omega),cond_false,Ae6 n (by omega) (by omega) s (by omega) hd (by omega)]; rfl
  ·rintro s ⟨hs,hd⟩;obtain rfl:s=10:=by omega
   unfold E2;rw [show wI (((10:Nat):Int)*((10:Nat):Int))=100 from B4 (by omega) (by omega),Ba (by omega),cond_false,Ae6 n (by omega) (by omega) 10 (by omega) hd (by omega)]; rfl
 rw [h,Jy]
theorem Ail (p x:Int):E1 p x=some (inR x 0 (p - 1)):=by
 unfold E1 inR;by_cases h:0<=x
 ·simp [h,show (x<p↔x<=p - 1) by omega]
 ·simp [h]
theorem Auo (p:Int) (xs:List Int) (hp:2<=p∧p<=97) (hx:xs.length<=1099511627776):Jf p xs=some (xs.all fun x=>inR x 0 (p - 1)):=by
 unfold Jf;rw [B4 (by omega) (by omega),Ar3 _ _ _ hx]; rfl
theorem Alj (p:Int) (xs:List Int) (n:Int) (hx:xs.length<=1099511627776):Fs p xs n=some (((xs.length:Nat):Int)==n&&xs.all fun x=>inR x 0 (p - 1)):=by
 unfold Fs;cases hn:((xs.length:Nat):Int)==n
 ·rw [show (((xs.length:Nat):Int) !=n)=true by simp only [bne,hn,Bool.not_false]]; rfl
 rw [show (((xs.length:Nat):Int) !=n)=false by simp only [bne,hn,Bool.not_true],cond_false];rw [Fv xs (fun x=>inR x 0 (p - 1)) (.next ()) (.out false) (by omega) (fun i x h=>?_) ?_,Jy,Bool.true_and]
 ·unfold Fi;rw [Ba (by omega),cond_false]
 ·have:=Au h;unfold Fi;rw [Bd (by omega),cond_true,h,obs,Ail,obs,As (by omega)];cases inR x 0 (p - 1) <;> rfl
theorem Auu {p x:Int} (hp:2<=p∧p<=97):Km p x=some (x % p):=by
 unfold Km;rw [As (by omega)]
 have e1:x.tmod p=if 0<=x∨x % p=0 then x % p else x % p - p:=by
  simp only [Int.tmod_eq_emod,Int.dvd_iff_emod_eq_zero];split <;> simp <;> omega
 have h1:=Int.emod_nonneg x (show p≠0 by omega);have h2:=Int.emod_lt_of_pos x (show 0<p by omega);by_cases h:x.tmod p<0
 ·rw [Bd h,cond_true,obs,B4 (by omega) (by omega)];congr 1;split at e1 <;> omega
 ·rw [Ba h,cond_false,obs];congr 1;split at e1 <;> omega
theorem Aq1 (xs:List Int) (h:xs.length<=1000000):Hv xs=some xs:=by
 unfold Hv;rw [As (by omega)]
theorem Asj (xs:List Int) (h:xs.length<=1000000):H5 xs=some xs:=by
 unfold H5;rw [As (by omega)]
theorem Alb {p x y:Int} (hp:2<=p∧p<=97) (hx:0<=x∧x<p) (hy:0<=y∧y<p):0<=x*y∧x*y<=10000:=by
 refine ⟨Int.mul_nonneg hx.1 hy.1,?_⟩;have h1:x*y<=97*y:=Int.mul_le_mul_of_nonneg_right (by omega) hy.1;omega
theorem Am2 {p x y:Int} (hp:2<=p∧p<=97) (hx:0<=x∧x<p) (hy:0<=y∧y<p):Gt p x y=some ((x*y) % p):=by
 have:=Alb hp hx hy;unfold Gt;rw [As (by omega),B4 (by omega) (by omega),Int.tmod_eq_emod_of_nonneg (by omega)]
end
section
theorem As1 (a b:ByteArray):(a.toList==b.toList)=(a.data.toList==b.data.toList):=by rw [ByteArray.toList_eq,ByteArray.toList_eq]
theorem Alc (s:ByteArray) (i:Nat):s[i]? =s.data.toList[i]?:=by
 by_cases h:i<s.size
 ·rw [getElem?_pos s i h];have h':i<s.data.toList.length:=by simpa using h
  rw [gEg h']; rfl
 ·rw [getElem?_neg s i h,List.getElem?_eq_none (by simp; exact Nat.le_of_not_lt h)]
theorem Ass (s:ByteArray):s.size=s.data.toList.length:=by
 show s.data.size=_;exact Array.length_toList.symm
def loB (c:UInt8):Bool:=decide (97<=((c.toNat:Nat):Int))&&decide (((c.toNat:Nat):Int)<=122)
def dgB (c:UInt8):Bool:=decide (48<=((c.toNat:Nat):Int))&&decide (((c.toNat:Nat):Int)<=57)
theorem Aez (c:UInt8):Es ((c.toNat:Nat):Int)=some (loB c):=by
 unfold Es loB;cases decide (97<=((c.toNat:Nat):Int)) <;> rfl
theorem Am8 (c:UInt8):Gm ((c.toNat:Nat):Int)=some (dgB c):=by
 unfold Gm dgB;cases decide (48<=((c.toNat:Nat):Int)) <;> rfl
def Sq:List ByteArray:=[(⟨#[105,100]⟩:ByteArray),(⟨#[115,119,97,112]⟩:ByteArray),(⟨#[99,111,112,121]⟩:ByteArray),(⟨#[100,105,115,99,97,114,100]⟩:ByteArray),(⟨#[97,100,100]⟩:ByteArray),(⟨#[122,101,114,111]⟩:ByteArray),(⟨#[115,99,97,108,101]⟩:ByteArray),(⟨#[100,101,108,97,121]⟩:ByteArray),(⟨#[99,111,99,111,112,121]⟩:ByteArray),(⟨#[99,111,100,105,115,99,97,114,100]⟩:ByteArray),(⟨#[99,111,97,100,100]⟩:ByteArray),(⟨#[99,111,122,101,114,111]⟩:ByteArray),(⟨#[99,111,115,99,97,108,101]⟩:ByteArray),(⟨#[99,111,100,101,108,97,121]⟩:ByteArray)]
theorem Aky:F1=some Sq:=rfl
theorem Ah3:Gu=some ((⟨#[]⟩:ByteArray) :: Sq):=rfl
theorem Aum (l:List ByteArray) (hl:l.length<=1000) (s:ByteArray):G5 l s=some (l.any fun x=>x.toList==s.toList):=by
 unfold G5
 have hs:∀ i x,l[i]? =some x->Cq l s i=some (if x.toList==s.toList then Ctl.out (Ctl.out true) else Ctl.next (i+1)):=fun i x h=>by
  have:=Au h;unfold Cq;rw [Bd (by omega),cond_true,h,obs,As (by omega)];cases x.toList==s.toList <;> rfl
 have he:Cq l s l.length=some (Ctl.out (Ctl.next ())):=by
  unfold Cq;rw [Ba (by omega),cond_false]
 rcases Wp (body:=fun s_:Nat=>Cq l s s_) l (fun x=>x.toList==s.toList) (Ctl.next ()) (fun i=>Ctl.out true) (F:=4611686018427387904) (by omega) hs he with ⟨h1,i,hi,h2⟩ | ⟨h1,h2⟩
 ·rw [h2,h1]; rfl
 ·rw [h2,h1]; rfl
theorem Ao3 (s:ByteArray):∃ k:Int,G6 s=some k∧(k !=17)=(((⟨#[]⟩:ByteArray) :: Sq).any fun x=>x.toList==s.toList):=by
 unfold G6;rw [Ah3,obs];have hl:((⟨#[]⟩:ByteArray) :: Sq).length=15:=rfl;generalize ((⟨#[]⟩:ByteArray) :: Sq)=l at hl ⊢
 have hs:∀ i x,l[i]? =some x->Cl l s i=some (if x.toList==s.toList then Ctl.out (Ctl.out (i:Int)) else Ctl.next (i+1)):=fun i x h=>by
  have:=Au h;unfold Cl;rw [Bd (by omega),cond_true,h,obs,As (by omega)];cases x.toList==s.toList <;> rfl
 have he:Cl l s l.length=some (Ctl.out (Ctl.next ())):=by
  unfold Cl;rw [Ba (by omega),cond_false]
 rcases Wp (body:=fun s_:Nat=>Cl l s s_) l (fun x=>x.toList==s.toList) (Ctl.next ()) (fun i=>Ctl.out (i:Int)) (F:=4611686018427387904) (by omega) hs he with ⟨h1,i,hi,h2⟩ | ⟨h1,h2⟩
 ·rw [h2,h1];exact ⟨_,rfl,by rw [bne_iff_ne]; omega⟩
 ·rw [h2,h1];exact ⟨_,rfl,rfl⟩
theorem Atc (s:ByteArray):∃ b,Hb s=some b∧Hl s=some b:=by
 unfold Hb Hl Iu;rw [K7,L4];cases hr:inR ((s.size:Nat):Int) 1 8
 ·exact ⟨false,rfl,rfl⟩
 have hb:=Da.1 hr;have hsz:=Ass s;obtain ⟨c,hc⟩:∃ c,s[0]? =some c:=⟨_,getElem?_pos s 0 (by omega)⟩
 have hcl:s.data.toList[0]? =some c:=by rw [← Alc]; exact hc
 rw [obs,obs,Bool.not_true,cond_false,cond_false,hc,obs,obs,Aez,obs,obs];cases hlo:loB c
 ·refine ⟨false,rfl,?_⟩
  have:(decide (((c.toNat:Nat):Int)<97))=true∨decide (122<((c.toNat:Nat):Int))=true:=by
   simp only [decide_eq_true_eq];simp only [loB,Bool.and_eq_false_iff,decide_eq_false_iff_not] at hlo;omega
  rcases this with h | h
  ·rw [h]; rfl
  ·rw [h]; cases decide (((c.toNat:Nat):Int)<97) <;> rfl
 have hlo':=hlo;simp only [loB,Bool.and_eq_true,decide_eq_true_eq] at hlo';obtain ⟨k,hk,hk2⟩:=Ao3 s;rw [hk,obs,Bool.not_true,cond_false,obs,hk2,Ba (show ¬ ((c.toNat:Nat):Int)<97 by omega),cond_false,Ba (show ¬ 122<((c.toNat:Nat):Int) by omega),obs,cond_false]
 have hne:((⟨#[]⟩:ByteArray).toList==s.toList)=false:=by
  rw [As1,beq_eq_false_iff_ne];intro e;rw [← e] at hcl; simp at hcl
 rw [List.any_cons,hne,Bool.false_or]
 -- the rest of the letters
 have hI:A7 (fun s_:Nat=>En s s_) 4611686018427387904 0=some (if s.data.toList.all (fun x=>loB x||dgB x) then Ctl.next () else Ctl.out false):=by
  refine Fv s.data.toList (fun x=>loB x||dgB x) (Ctl.next ()) (Ctl.out false) (by omega) (fun i x h=>?_) ?_
  ·have:=Au h;unfold En;rw [Bd (by omega),cond_true,Alc,h,obs,Aez,obs,obs,Am8,obs,As (by omega)];cases loB x <;> cases dgB x <;> rfl
  ·unfold En;rw [Ba (by omega),cond_false]
 have hstep:∀ i x,s.data.toList[i]? =some x->Bo s i=some (if loB x||dgB x then Ctl.next (i+1) else Ctl.out (Ctl.out false)):=fun i x h=>by
  have:=Au h;unfold Bo;rw [Bd (by omega),cond_true,Alc,h];simp only [obs];rw [As (by omega)]
  have e:∀ n:Int,(cond (decide (n<97)) (cond (decide (n<48)) (some true) (some (decide (57<n)))) (cond (decide (122<n)) (cond (decide (n<48)) (some true) (some (decide (57<n)))) (some false)):Option Bool)=some (!((decide (97<=n)&&decide (n<=122))||(decide (48<=n)&&decide (n<=57)))):=by
   intro n;by_cases h1:n<97
   ·by_cases h2:n<48
    ·rw [Bd h1,Bd h2,Ba (show ¬ 97<=n by omega),Ba (show ¬ 48<=n by omega)]; rfl
    ·by_cases h3:57<n
     ·rw [Bd h1,Ba h2,Bd h3,Ba (show ¬ 97<=n by omega),Ba (show ¬ n<=57 by omega),Bool.and_false]; rfl
     ·rw [Bd h1,Ba h2,Ba h3,Ba (show ¬ 97<=n by omega),Bd (show 48<=n by omega),Bd (show n<=57 by omega)]; rfl
   ·by_cases h2:122<n
    ·rw [Ba h1,Bd h2,Ba (show ¬ n<48 by omega),Bd (show 57<n by omega),Ba (show ¬ n<=122 by omega),Ba (show ¬ n<=57 by omega),Bool.and_false,Bool.and_false]; rfl
    ·rw [Ba h1,Ba h2,Bd (show 97<=n by omega),Bd (show n<=122 by omega)]; rfl
  have e':=e ((x.toNat:Nat):Int);rw [e',obs];show cond (!(loB x||dgB x)) _ _=_;cases loB x||dgB x <;> rfl
 have hS0:A7 (fun s_:Nat=>Bo s s_) (4611686018427387904+1) 0=some (if s.data.toList.all (fun x=>loB x||dgB x) then Ctl.next () else Ctl.out false):=by
  refine Fv s.data.toList (fun x=>loB x||dgB x) (Ctl.next ()) (Ctl.out false) (by omega) hstep ?_;unfold Bo;rw [Ba (by omega),cond_false]
 have hS:A7 (fun s_:Nat=>Bo s s_) 4611686018427387904 1=some (if s.data.toList.all (fun x=>loB x||dgB x) then Ctl.next () else Ctl.out false):=by
  rw [← hS0];have h0:Bo s 0=some (Ctl.next 1):=by rw [hstep 0 c hcl,hlo]; rfl
  have hu:∀ n,A7 (fun s_:Nat=>Bo s s_) (n+1) 0=A7 (fun s_:Nat=>Bo s s_) n 1:=fun n=>by
   show (Bo s 0).bind _=_;rw [h0]; rfl
  exact (hu _).symm
 rw [hI,hS,Aky,obs,Aum Sq (by decide) s];generalize (Sq.any fun x=>x.toList==s.toList)=u;cases s.data.toList.all (fun x=>loB x||dgB x) <;> cases u <;> exact ⟨_,rfl,rfl⟩
end
section
abbrev Nd:=Int×Int×ByteArray
abbrev Pi (s:ByteArray):Bool:=s.toList==(⟨#[]⟩:ByteArray).toList
def Apx (k v:Int):Bool:=if k=7∨k=13 then inR v 0 96 else v==0
def lfW (n:Nd):Option (Int×Int) :=
 if Pi n.2.2=true then
  if n.1=1 then (if 0<=n.2.1∧n.2.1<=12 then some (n.2.1,n.2.1) else none)
  else if n.1=2 then (if n.2.1=0 then some (2,2) else none)
  else if 3<=n.1∧n.1<=14 then (if Apx n.1 n.2.1=true then some (gwV n.1) else none)
  else none
 else none
def okW (w:Int×Int):Prop:=(0<=w.1∧w.1<=12)∧(0<=w.2∧w.2<=12)
theorem Aug (k:Int):okW (gwV k):=by
 unfold gwV
 repeat' split
 all_goals exact ⟨⟨by decide,by decide⟩,⟨by decide,by decide⟩⟩
theorem Ato {n:Nd} {w:Int×Int} (h:lfW n=some w):okW w:=by
 unfold lfW at h;split at h
 ·split at h
  ·split at h
   ·rename_i h1; obtain rfl:=osj h; exact ⟨h1,h1⟩
   ·cases h
  ·split at h
   ·split at h
    ·obtain rfl:=osj h; exact ⟨⟨by decide,by decide⟩,⟨by decide,by decide⟩⟩
    ·cases h
   ·split at h
    ·split at h
     ·obtain rfl:=osj h; exact Aug _
     ·cases h
    ·cases h
 ·cases h
theorem Aa1 {n:Nd} {w:Int×Int} (h:lfW n=some w):1<=n.1∧n.1<=14:=by
 unfold lfW at h;split at h
 ·split at h
  ·omega
  ·split at h
   ·omega
   ·split at h
    ·omega
    ·cases h
 ·cases h
def G1 (n:Nd) (T:List (Int×Int)):Option (List (Int×Int)) :=
 if n.1=15∨n.1=16 then
  if n.2.1=0∧Pi n.2.2=true then
   match T with
   | b :: a :: r=>if n.1=15 then (if a.2=b.1 then some ((a.1,b.2) :: r) else none) else (if a.1+b.1<=12∧a.2+b.2<=12 then some ((a.1+b.1,a.2+b.2) :: r) else none)
   | _=>none
  else none
 else (lfW n).map (· :: T)
def I1:List Nd->List (Int×Int)->Option (List (Int×Int))
 | [],T=>some T
 | n :: r,T=>(G1 n T).bind (I1 r)
def okT (T:List (Int×Int)):Prop:=∀ w∈T,okW w
theorem Uj {n:Nd} {T T':List (Int×Int)} (h:G1 n T=some T') (hT:okT T):okT T':=by
 unfold G1 at h;split at h
 ·split at h
  ·split at h
   ·rename_i b a r;have ha:=hT a (by simp);have hb:=hT b (by simp);have hr:okT r:=fun w hw=>hT w (by simp [hw])
    split at h
    ·split at h
     ·obtain rfl:=osj h;intro w hw;rcases List.mem_cons.1 hw with rfl | hw
      ·exact ⟨ha.1,hb.2⟩
      ·exact hr w hw
     ·cases h
    ·split at h
     ·rename_i h1;obtain rfl:=osj h;intro w hw;rcases List.mem_cons.1 hw with rfl | hw
      ·have:=ha.1; have:=hb.1; have:=ha.2; have:=hb.2;refine ⟨⟨?_,h1.1⟩,⟨?_,h1.2⟩⟩ <;> (try show (0:Int)<=_+_) <;> omega
      ·exact hr w hw
     ·cases h
   ·cases h
  ·cases h
 ·obtain ⟨w,hw,rfl⟩:=oms.1 h;intro v hv;rcases List.mem_cons.1 hv with rfl | hv
  ·exact Ato hw
  ·exact hT v hv
theorem Zv:∀ (xs ys:List Nd) (T:List (Int×Int)),I1 (xs++ys) T=(I1 xs T).bind (I1 ys)
 | [],_,_=>rfl
 | n :: r,ys,T=>by
  show (G1 n T).bind (I1 (r++ys))=((G1 n T).bind (I1 r)).bind (I1 ys);cases G1 n T with
  | none=>rfl
  | some T'=>exact Zv r ys T'
theorem W1 {xs:List Nd} {k:Nat} {n:Nd} {T:List (Int×Int)} (h:xs[k]? =some n) (hT:I1 (xs.take k) []=some T):I1 (xs.take (k+1)) []=G1 n T:=by
 rw [List.take_add_one,h,Zv,hT,obs];show (G1 n T).bind (I1 [])=_;cases G1 n T <;> rfl
theorem V7 {xs:List Nd} {k:Nat} (h:I1 (xs.take k) []=none):I1 xs []=none:=by
 rw [← List.take_append_drop k xs,Zv,h]; rfl
theorem Amc {xs:List Nd} {T:List (Int×Int)} (hx:xs≠[]) (h:I1 xs []=some T):T≠[]:=by
 obtain ⟨k,hk⟩:∃ k,xs.length=k+1:=⟨xs.length - 1,by have:=List.length_pos_iff.2 hx; omega⟩
 have hl:xs.take xs.length=xs:=List.take_length;have hn:=gEg (show k<xs.length by omega);cases hp:I1 (xs.take k) [] with
 | none=>rw [V7 hp] at h; cases h
 | some T0 =>
  have h2:=W1 hn hp;rw [← hk,hl,h] at h2;intro e;subst e;unfold G1 at h2;split at h2
  ·split at h2
   ·split at h2
    ·split at h2 <;> split at h2 <;> cases h2
    ·cases h2
   ·cases h2
  ·cases hw:lfW (xs[k]'(by omega)) with
   | none=>rw [hw] at h2; cases h2
   | some w=>rw [hw] at h2; cases h2
def tyV (xs:List Nd):Option (Int×Int) :=
 if 1<=xs.length∧xs.length<=400 then (match I1 xs [] with | some [w]=>some w | _=>none) else none
-- leaves on both sides
theorem At9 (n:Nd):∃ r:Int×Int×Bool,Ey n.1 n.2.1 n.2.2=some r∧match lfW n with | some w=>r=(w.1,w.2,true) | none=>r.2.2=false:=by
 obtain ⟨k,v,s⟩:=n;dsimp only;unfold Ey lfW;dsimp only;cases hs:Pi s
 ·have hs':(s.toList==(⟨#[]⟩:ByteArray).toList)=false:=hs;rw [hs']; exact ⟨_,rfl,rfl⟩
 have hs':(s.toList==(⟨#[]⟩:ByteArray).toList)=true:=hs;rw [hs',if_pos rfl,Bool.not_true,cond_false];by_cases h1:k=1
 ·subst h1;rw [beq_self_eq_true,cond_true,K7,if_pos rfl];by_cases h2:0<=v∧v<=12
  ·rw [if_pos h2,Da.2 h2]; exact ⟨_,rfl,rfl⟩
  ·rw [if_neg h2,show inR v 0 12=false by rw [Bool.eq_false_iff]; intro e; exact h2 (Da.1 e)]; exact ⟨_,rfl,rfl⟩
 rw [beq_eq_false_iff_ne.2 h1,cond_false,if_neg h1];by_cases h2:k=2
 ·subst h2;rw [beq_self_eq_true,cond_true,if_pos rfl];by_cases h3:v=0
  ·subst h3; exact ⟨_,rfl,rfl⟩
  ·rw [if_neg h3,beq_eq_false_iff_ne.2 h3]; exact ⟨_,rfl,rfl⟩
 rw [beq_eq_false_iff_ne.2 h2,cond_false,if_neg h2];unfold Fc;rw [K7];by_cases h3:3<=k∧k<=14
 ·rw [if_pos h3,Da.2 h3,obs,obs,cond_true];unfold Fy Cz Dy;rw [As h3,obs];by_cases h7:k=7∨k=13
  ·have e:cond (k==7) (some true) (some (k==13))=some true:=by
    rcases h7 with rfl | rfl <;> rfl
   rw [e,obs,obs,cond_true,K7,show Apx k v=inR v 0 96 from if_pos h7];cases inR v 0 96 <;> exact ⟨_,rfl,rfl⟩
  ·have e:cond (k==7) (some true) (some (k==13))=some false:=by
    rw [beq_eq_false_iff_ne.2 (fun e=>h7 (.inl e)),beq_eq_false_iff_ne.2 (fun e=>h7 (.inr e))]; rfl
   rw [e,obs,obs,cond_false,show Apx k v=(v==0) from if_neg h7];cases v==0 <;> exact ⟨_,rfl,rfl⟩
 ·rw [if_neg h3,show inR k 3 14=false by rw [Bool.eq_false_iff]; intro e; exact h3 (Da.1 e)]; exact ⟨_,rfl,rfl⟩
theorem Ap9 (n:Nd):Hj n.1 n.2.1 n.2.2=some (lfW n).isSome:=by
 obtain ⟨k,v,s⟩:=n;dsimp only;unfold Hj lfW;dsimp only;cases hs:Pi s
 ·have hs':(s.toList==(⟨#[]⟩:ByteArray).toList)=false:=hs;rw [hs']; rfl
 have hs':(s.toList==(⟨#[]⟩:ByteArray).toList)=true:=hs;rw [hs',if_pos rfl,Bool.not_true,cond_false,L4,obs];by_cases h0:1<=k∧k<=14
 ·rw [Da.2 h0,obs,Bool.not_true,cond_false];by_cases h1:k=1
  ·subst h1;rw [beq_self_eq_true,cond_true,L4,if_pos rfl];by_cases h2:0<=v∧v<=12
   ·rw [if_pos h2,Da.2 h2]; rfl
   ·rw [if_neg h2,show inR v 0 12=false by rw [Bool.eq_false_iff]; intro e; exact h2 (Da.1 e)]; rfl
  rw [beq_eq_false_iff_ne.2 h1,cond_false,if_neg h1];by_cases h7:k=7∨k=13
  ·have e:cond (k==7) (some (k==7)) (some (k==13))=some true:=by
    rcases h7 with rfl | rfl <;> rfl
   rw [e,obs,cond_true,L4,if_neg (by omega),if_pos (by omega),show Apx k v=inR v 0 96 from if_pos h7];cases inR v 0 96 <;> rfl
  ·have e:cond (k==7) (some (k==7)) (some (k==13))=some false:=by
    rw [beq_eq_false_iff_ne.2 (fun e=>h7 (.inl e)),beq_eq_false_iff_ne.2 (fun e=>h7 (.inr e))]; rfl
   rw [e,obs,cond_false];by_cases h2:k=2
   ·rw [if_pos h2];by_cases h3:v=0
    ·rw [if_pos h3,beq_iff_eq.2 h3]; rfl
    ·rw [if_neg h3,beq_eq_false_iff_ne.2 h3]; rfl
   ·rw [if_neg h2,if_pos (by omega),show Apx k v=(v==0) from if_neg h7];cases v==0 <;> rfl
 ·rw [show inR k 1 14=false by rw [Bool.eq_false_iff]; intro e; exact h0 (Da.1 e),if_neg (by omega),if_neg (by omega),if_neg (by omega)]; rfl
theorem Aq4 {n:Nd} {w:Int×Int} (h:lfW n=some w):Dl n.1 n.2.1 n.2.2=some w:=by
 have hk:=Aa1 h;obtain ⟨k,v,s⟩:=n;dsimp only at hk ⊢;unfold lfW at h;dsimp only at h;unfold Dl Hd;split at h
 ·split at h
  ·rename_i h1;subst h1;split at h
   ·obtain rfl:=osj h; rfl
   ·cases h
  ·rename_i h1;rw [beq_eq_false_iff_ne.2 h1,cond_false];split at h
   ·rename_i h2;subst h2;split at h
    ·obtain rfl:=osj h; rfl
    ·cases h
   ·split at h
    ·split at h
     ·obtain rfl:=osj h;have hk':k=3∨k=4∨k=5∨k=6∨k=7∨k=8∨k=9∨k=10∨k=11∨k=12∨k=13∨k=14:=by omega
      rcases hk' with rfl | rfl | rfl | rfl | rfl | rfl | rfl | rfl | rfl | rfl | rfl | rfl <;> rfl
     ·cases h
    ·cases h
 ·cases h
end
section
theorem Avg {a b:Int×Int} {r:List (Int×Int)}:(b :: a :: r).reverse=r.reverse++[a,b]:=by simp
theorem Ar9 {a b:Int×Int} {r:List (Int×Int)}:(r.reverse++[a,b])[r.length]? =some a∧(r.reverse++[a,b])[r.length+1]? =some b:=by
 constructor
 ·rw [List.getElem?_append_right (by simp),List.length_reverse,Nat.sub_self]; rfl
 ·rw [List.getElem?_append_right (by simp),List.length_reverse,Nat.add_sub_cancel_left]; rfl
theorem Auj {k:Int} {a b:Int×Int} (ha:okW a) (hb:okW b):Ek k a.1 a.2 b.1 b.2=some (if k=15 then (a.1,b.2,a.2==b.1) else (a.1+b.1,a.2+b.2,decide (a.1+b.1<=12)&&decide (a.2+b.2<=12))):=by
 obtain ⟨⟨a1,a2⟩,a3,a4⟩:=ha;obtain ⟨⟨b1,b2⟩,b3,b4⟩:=hb;unfold Ek Gs;by_cases h:k=15
 ·rw [if_pos h,beq_iff_eq.2 h]; rfl
 ·rw [if_neg h,beq_eq_false_iff_ne.2 h,cond_false,B4 (n:=a.1+b.1) (by omega) (by omega),B4 (n:=a.2+b.2) (by omega) (by omega)];cases decide (a.1+b.1<=12) <;> rfl
theorem Arv {xs:List Nd} (hx:1<=xs.length∧xs.length<=400):A7 (fun s_:Nat×List (Int×Int)=>Bk xs s_.1 s_.2) 4611686018427387904 (0,[])=some (match I1 xs [] with | some T=>Ctl.next T.reverse | none=>Ctl.out (0,0,false)):=by
 refine Ft xs.length (fun k s=>∃ T,s=(k,T.reverse)∧I1 (xs.take k) []=some T∧okT T∧T.length<=k) (by omega) _ ⟨[],rfl,rfl,(fun _ h=>by cases h),Nat.le_refl _⟩ ?_ ?_
 ·rintro k s hk ⟨T,rfl,hT,hok,hlen⟩;have hn:=gEg hk;generalize xs[k]=n at hn;have hnext:=W1 hn hT;have hfail:G1 n T=none->I1 xs []=none:=fun h=>V7 (k:=k+1) (by rw [hnext,h])
  have hlr:T.reverse.length=T.length:=by simp
  try dsimp only
  unfold Bk;rw [Bd (by omega),cond_true,hn,obs];by_cases hj:n.1=15∨n.1=16
  ·have e:(cond (n.1 !=15) (some (n.1 !=16)) (some false):Option Bool)=some false:=by
    rcases hj with h | h <;> rw [h] <;> rfl
   rw [e,obs,cond_false];by_cases hv:n.2.1=0∧Pi n.2.2=true
   ·have hs':(n.2.2.toList==(⟨#[]⟩:ByteArray).toList)=true:=hv.2;rw [hv.1,hs',show ((0:Int) !=0)=false from rfl,cond_false,Bool.not_true,cond_false,obs,hlr]
    match T,hT,hok,hlen,hnext,hfail with
    | [],hT,hok,hlen,hnext,hfail =>
     refine .inr ?_;rw [hfail (by unfold G1; rw [if_pos hj,if_pos hv]),Bd (by simp),cond_true]; rfl
    | [b],hT,hok,hlen,hnext,hfail =>
     refine .inr ?_;rw [hfail (by unfold G1; rw [if_pos hj,if_pos hv]),Bd (by simp),cond_true]; rfl
    | b :: a :: r,hT,hok,hlen,hnext,hfail =>
     have hb:=hok b (by simp);have ha:=hok a (by simp);have hl2:(b :: a :: r).length=r.length+2:=by simp
     have w1:wI (((r.length+2:Nat):Int) - 1)=((r.length+1:Nat):Int):=by rw [B4 (by omega) (by omega)]; omega
     have w2:wI (((r.length+1:Nat):Int) - 1)=((r.length:Nat):Int):=by rw [B4 (by omega) (by omega)]; omega
     obtain ⟨g1,g2⟩:=Ar9 (a:=a) (b:=b) (r:=r);rw [hl2,Ba (by omega),cond_false,w1,w2,Avg,Ep (by omega),Int.toNat_natCast,g1,obs,obs,Ep (by omega),Int.toNat_natCast,g2,obs,obs,Auj ha hb,obs];have htake:(r.reverse++[a,b]).take r.length=r.reverse:=List.take_left' (by simp)
     have hst:G1 n (b :: a :: r)=if n.1=15 then (if a.2=b.1 then some ((a.1,b.2) :: r) else none) else (if a.1+b.1<=12∧a.2+b.2<=12 then some ((a.1+b.1,a.2+b.2) :: r) else none):=by
      unfold G1; rw [if_pos hj,if_pos hv]
     have hfin:∀ w:Int×Int,G1 n (b :: a :: r)=some (w :: r)->∃ s',(Du (og ((0:Int)<=0∧0<=((r.length:Nat):Int)∧((r.length:Nat):Int)<=((r.length+2:Nat):Int)) (og ((((r.reverse++[a,b]).take r.length).length)+1<=1073741824∧((((r.reverse++[a,b]).take r.length).length)+1)*16<=140737488355328) (some (Ctl.next (((r.reverse++[a,b]).take r.length)++([(w.1,w.2)])):Ctl (List (Int×Int)) (Ctl (Nat×(List (Int×Int))) (Ctl (List (Int×Int)) (Int×Int×Bool))))))) fun l14_m6=>og (k+1<4611686018427387904) (some (Ctl.next (k+1,l14_m6))))=some (.next s')∧∃ T,s'=(k+1,T.reverse)∧I1 (xs.take (k+1)) []=some T∧okT T∧T.length<=k+1:=fun w hw=>by
      refine ⟨(k+1,r.reverse++[w]),?_,w :: r,by simp,by rw [hnext,hw],Uj hw hok,by simp at hlen ⊢; omega⟩;rw [As (by omega),htake,As (by simp at hlen ⊢; omega)];simp only [Du,obs,Ctl.then];rw [As (by omega)]
     by_cases h15:n.1=15
     ·rw [if_pos h15];rw [if_pos h15] at hst;dsimp only;by_cases hab:a.2=b.1
      ·rw [if_pos hab] at hst;rw [beq_iff_eq.2 hab,Bool.not_true,cond_false];exact .inl (hfin (a.1,b.2) hst)
      ·rw [if_neg hab] at hst;rw [beq_eq_false_iff_ne.2 hab,hfail hst];exact .inr rfl
     ·rw [if_neg h15];rw [if_neg h15] at hst;dsimp only;by_cases hab:a.1+b.1<=12∧a.2+b.2<=12
      ·rw [if_pos hab] at hst;rw [Bd hab.1,Bd hab.2,Bool.and_true,Bool.not_true,cond_false];exact .inl (hfin (a.1+b.1,a.2+b.2) hst)
      ·rw [if_neg hab] at hst
       have e:(decide (a.1+b.1<=12)&&decide (a.2+b.2<=12))=false:=by
        rw [Bool.eq_false_iff]; intro h; simp only [Bool.and_eq_true,decide_eq_true_eq] at h; exact hab h
       rw [e,hfail hst];exact .inr rfl
   ·refine .inr ?_;rw [hfail (by unfold G1; rw [if_pos hj,if_neg hv])];by_cases h0:n.2.1=0
    ·have hs':(n.2.2.toList==(⟨#[]⟩:ByteArray).toList)=false:=by
      rw [Bool.eq_false_iff]; intro h; exact hv ⟨h0,h⟩
     rw [h0,hs']; rfl
    ·rw [show (n.2.1 !=0)=true by rw [bne_iff_ne]; exact h0]; rfl
  ·have h15:n.1≠15:=fun e=>hj (.inl e)
   have h16:n.1≠16:=fun e=>hj (.inr e)
   have e:(cond (n.1 !=15) (some (n.1 !=16)) (some false):Option Bool)=some true:=by
    rw [bne_iff_ne.2 h15,cond_true,bne_iff_ne.2 h16]
   rw [e,obs,cond_true];have hst:G1 n T=(lfW n).map (· :: T):=if_neg hj;obtain ⟨r,hr,hm⟩:=At9 n;rw [hr,obs];cases hw:lfW n with
   | none =>
    rw [hw] at hm hst;dsimp only at hm;rw [hm,hfail hst];exact .inr rfl
   | some w =>
    rw [hw] at hm hst;dsimp only at hm;subst hm;refine .inl ⟨(k+1,T.reverse++[w]),?_,w :: T,by simp,by rw [hnext,hst]; rfl,Uj hst hok,by simp; omega⟩;rw [Bool.not_true,cond_false,As (by rw [hlr]; omega)];simp only [Du,obs,Ctl.then];rw [As (by omega)]
 ·rintro s ⟨T,rfl,hT,hok,hlen⟩;rw [List.take_length] at hT;rw [hT]
  try dsimp only
  unfold Bk;rw [Ba (by omega),cond_false]
theorem Al1 (xs:List Nd):∃ r:Int×Int×Bool,C1 xs=some r∧match tyV xs with | some w=>r=(w.1,w.2,true) | none=>r.2.2=false:=by
 unfold C1 Bu tyV;rw [K7];by_cases hx:1<=xs.length∧xs.length<=400
 ·rw [Da.2 (show (1:Int)<=((xs.length:Nat):Int)∧((xs.length:Nat):Int)<=400 by omega),obs,Bool.not_true,cond_false,if_pos hx,Arv hx];cases hr:I1 xs [] with
  | none=>exact ⟨_,rfl,rfl⟩
  | some T =>
   have hne:=Amc (fun e=>by subst e; simp at hx) hr;dsimp only [Du,obs,Ctl.then]
   match T,hne with
   | [w],_=>exact ⟨_,rfl,rfl⟩
   | a :: b :: r,_ =>
    obtain ⟨c,hc⟩:∃ c,(a :: b :: r).reverse[0]? =some c:=⟨_,gEg (by simp)⟩
    rw [hc];refine ⟨_,rfl,?_⟩;show ((((a :: b :: r).reverse.length:Nat):Int)==1)=false;rw [beq_eq_false_iff_ne]; simp; omega
 ·rw [if_neg hx,show inR ((xs.length:Nat):Int) 1 400=false by rw [Bool.eq_false_iff]; intro e; have:=Da.1 e; exact hx (by omega)];exact ⟨_,rfl,rfl⟩
end
section
def SRel (F I O:List Int):Nat->List (Int×Int)->Prop
 | k,[]=>k=0
 | k,w :: T=>∃ j:Nat,j<k∧F[k - 1]? =some (j:Int)∧I[k - 1]? =some w.1∧O[k - 1]? =some w.2∧SRel F I O j T
theorem Ahz {l:List Int} {k:Nat} {x y:Int} (h:l[k]? =some x):(l++[y])[k]? =some x:=by
 rw [List.getElem?_append_left (gSi.1 h).1]; exact h
theorem SRel.app {F I O:List Int} {x y z:Int}:∀ {T:List (Int×Int)} {k:Nat},SRel F I O k T->SRel (F++[x]) (I++[y]) (O++[z]) k T
 | [],_,h=>h
 | _ :: _,_,⟨j,h1,h2,h3,h4,h5⟩=>⟨j,h1,Ahz h2,Ahz h3,Ahz h4,h5.app⟩
theorem Mo {l:List Int} {k:Nat} {y:Int} (h:l.length=k):(l++[y])[k+1 - 1]? =some y:=by
 subst h;rw [Nat.add_sub_cancel,List.getElem?_append_right (Nat.le_refl _),Nat.sub_self]; rfl
abbrev ScR:=List Int×List Int×List Int×Bool
def Asy (n:Nat) (t:Option (List (Int×Int))) (r:Ctl (List Int×List Int×List Int) ScR):Prop :=
 match t with
 | some T=>∃ F I O,r=Ctl.next (F,I,O)∧F.length=n∧I.length=n∧O.length=n∧okT T∧SRel F I O n T
 | none=>∃ F I O,r=Ctl.out (F,I,O,false)
theorem Aty {xs:List Nd} (hx:1<=xs.length∧xs.length<=400):∃ r,A7 (fun s_:Nat×List Int×List Int×List Int=>E3 xs [] s_.1 s_.2.1 s_.2.2.1 s_.2.2.2) 4611686018427387904 (0,[],[],[])=some r∧Asy xs.length (I1 xs []) r:=by
 refine Ki (Post:=Asy xs.length (I1 xs [])) xs.length (fun k s=>∃ F I O T,s=(k,F,I,O)∧F.length=k∧I.length=k∧O.length=k∧I1 (xs.take k) []=some T∧okT T∧SRel F I O k T) (by omega) ⟨[],[],[],[],rfl,rfl,rfl,rfl,rfl,(fun _ h=>by cases h),rfl⟩ ?_ ?_
 ·rintro k s hk ⟨F,I,O,T,rfl,lF,lI,lO,hT,hok,hS⟩;have hn:=gEg hk;generalize xs[k]=n at hn;have hnext:=W1 hn hT;have hfail:G1 n T=none->I1 xs []=none:=fun h=>V7 (k:=k+1) (by rw [hnext,h])
  try dsimp only
  unfold E3;rw [Bd (by omega),cond_true,hn,obs,Ap9,obs];by_cases hj:n.1=15∨n.1=16
  ·have hnl:lfW n=none:=by
    cases hw:lfW n with
    | none=>rfl
    | some w=>have:=Aa1 hw; omega
   rw [hnl];have e17:(n.1==17)=false:=by rw [beq_eq_false_iff_ne]; omega
   rw [Option.isSome_none,cond_false,e17,obs,cond_false]
   have hst0:G1 n T=if n.2.1=0∧Pi n.2.2=true then (match T with
     | b :: a :: r=>if n.1=15 then (if a.2=b.1 then some ((a.1,b.2) :: r) else none) else (if a.1+b.1<=12∧a.2+b.2<=12 then some ((a.1+b.1,a.2+b.2) :: r) else none)
     | _=>none) else none:=if_pos hj
   have hcond:∀ q:Option Bool,(cond (n.1 !=15) (cond (n.1 !=16) (some true) q) q:Option Bool)=q:=fun q=>by
    rcases hj with h | h <;> rw [h] <;> rfl
   rw [hcond];by_cases hv:n.2.1=0∧Pi n.2.2=true
   ·have hs':(n.2.2.toList==(⟨#[]⟩:ByteArray).toList)=true:=hv.2;rw [if_pos hv] at hst0;rw [hv.1,hs',Bool.not_true,cond_false,show ((0:Int) !=0)=false from rfl,cond_false]
    match T,hT,hok,hS,hnext,hfail,hst0 with
    | [],hT,hok,hS,hnext,hfail,hst0 =>
     refine .inr ⟨Ctl.out (F,I,O,false),?_,?_⟩
     ·have:k=0:=hS;rw [Bd (by omega)]; rfl
     ·rw [hfail hst0]; exact ⟨_,_,_,rfl⟩
    | [b],hT,hok,hS,hnext,hfail,hst0 =>
     refine .inr ⟨Ctl.out (F,I,O,false),?_,?_⟩
     ·obtain ⟨j,h1,h2,h3,h4,h5⟩:=hS;have h5:j=0:=h5;subst h5;by_cases h:k<2
      ·rw [Bd (by omega)]; rfl
      ·have w1:wI ((k:Int) - 1)=((k - 1:Nat):Int):=by rw [B4 (by omega) (by omega)]; omega
       rw [Ba (by omega),cond_false,w1,Ep (by omega),Int.toNat_natCast,h2]; rfl
     ·rw [hfail hst0]; exact ⟨_,_,_,rfl⟩
    | b :: a :: r,hT,hok,hS,hnext,hfail,hst0 =>
     have hb:=hok b (by simp);have ha:=hok a (by simp);obtain ⟨⟨b1,b2⟩,b3,b4⟩:=hb;obtain ⟨⟨a1,a2⟩,a3,a4⟩:=ha;obtain ⟨j,h1,h2,h3,h4,j0,g1,g2,g3,g4,g5⟩:=hS;have w1:wI ((k:Int) - 1)=((k - 1:Nat):Int):=by rw [B4 (by omega) (by omega)]; omega
     have w2:wI ((j:Int) - 1)=((j - 1:Nat):Int):=by rw [B4 (by omega) (by omega)]; omega
     have G:∀ (l:List Int) (m:Nat),Fz l ((m:Nat):Int)=l[m]?:=fun l m=>by rw [Ep (by omega),Int.toNat_natCast]
     rw [Ba (by omega),cond_false,w1];simp only [G,h2,h3,h4,obs,w2,g2,g3,g4];rw [Ba (show ¬ ((j:Nat):Int)<1 by omega),cond_false];dsimp only at hst0
     have hfin:∀ w:Int×Int,G1 n (b :: a :: r)=some (w :: r)->∃ s',(Du (some (Ctl.next (F++([(j0:Int)]),I++([w.1]),O++([w.2])):Ctl (List Int×List Int×List Int) (Ctl (Nat×List Int×List Int×List Int) (Ctl (List Int×List Int×List Int) ScR)))) fun q=>og (k+1<4611686018427387904) (some (Ctl.next (k+1,q.1,q.2.1,q.2.2))))=some (.next s')∧∃ F I O T,s'=(k+1,F,I,O)∧F.length=k+1∧I.length=k+1∧O.length=k+1∧I1 (xs.take (k+1)) []=some T∧okT T∧SRel F I O (k+1) T:=fun w hw=>by
      refine ⟨_,?_,F++[(j0:Int)],I++[w.1],O++[w.2],w :: r,rfl,by simp [lF],by simp [lI],by simp [lO],by rw [hnext,hw],Uj hw hok,j0,by omega,Mo lF,Mo lI,Mo lO,g5.app⟩;simp only [Du,obs,Ctl.then];rw [As (by omega)]
     by_cases h15:n.1=15
     ·rw [if_pos h15] at hst0;rw [beq_iff_eq.2 h15,cond_true];by_cases hab:a.2=b.1
      ·rw [if_pos hab] at hst0;rw [show (a.2 !=b.1)=false by rw [hab]; exact bne_self_eq_false _,cond_false];simp only [Du,obs,Ctl.then];rw [Ba (show ¬ 12<a.1 by omega),Ba (show ¬ 12<b.2 by omega),cond_false,obs,cond_false,As (by omega),As (by omega),As (by omega)];exact .inl (hfin (a.1,b.2) hst0)
      ·rw [if_neg hab] at hst0;rw [bne_iff_ne.2 hab,hfail hst0];exact .inr ⟨_,rfl,_,_,_,rfl⟩
     ·rw [if_neg h15] at hst0;rw [beq_eq_false_iff_ne.2 h15,cond_false,B4 (n:=a.1+b.1) (by omega) (by omega),B4 (n:=a.2+b.2) (by omega) (by omega)];simp only [Du,obs,Ctl.then];by_cases hab:a.1+b.1<=12∧a.2+b.2<=12
      ·rw [if_pos hab] at hst0;rw [Ba (show ¬ 12<a.1+b.1 by omega),Ba (show ¬ 12<a.2+b.2 by omega),cond_false,obs,cond_false,As (by omega),As (by omega),As (by omega)];exact .inl (hfin (a.1+b.1,a.2+b.2) hst0)
      ·rw [if_neg hab] at hst0;rw [hfail hst0];refine .inr ⟨Ctl.out (F,I,O,false),?_,_,_,_,rfl⟩;by_cases h1:12<a.1+b.1
       ·rw [Bd h1]; rfl
       ·rw [Ba h1,Bd (show 12<a.2+b.2 by omega)]; rfl
   ·rw [if_neg hv] at hst0;refine .inr ⟨Ctl.out (F,I,O,false),?_,?_⟩
    ·by_cases hn0:Pi n.2.2=true
     ·have hs':(n.2.2.toList==(⟨#[]⟩:ByteArray).toList)=true:=hn0;rw [hs',show (n.2.1 !=0)=true by rw [bne_iff_ne]; exact fun e=>hv ⟨e,hn0⟩]; rfl
     ·have hs':(n.2.2.toList==(⟨#[]⟩:ByteArray).toList)=false:=by simpa using hn0
      rw [hs']; rfl
    ·rw [hfail hst0]; exact ⟨_,_,_,rfl⟩
  ·have hst:G1 n T=(lfW n).map (· :: T):=if_neg hj;cases hw:lfW n with
   | some w =>
    rw [hw] at hst;have hk:=Aa1 hw;have e17:(n.1==17)=false:=by rw [beq_eq_false_iff_ne]; omega
    rw [Option.isSome_some,cond_true,obs,cond_true,Aq4 hw,obs,e17,cond_false];simp only [Du,obs,Ctl.then];rw [As (by omega),As (by omega),As (by omega)];simp only [obs,Ctl.then];rw [As (by omega)];exact .inl ⟨_,rfl,F++[(k:Int)],I++[w.1],O++[w.2],w :: T,rfl,by simp [lF],by simp [lI],by simp [lO],by rw [hnext,hst]; rfl,Uj hst hok,k,by omega,Mo lF,Mo lI,Mo lO,hS.app⟩
   | none =>
    rw [hw] at hst;rw [Option.isSome_none,cond_false];refine .inr ⟨Ctl.out (F,I,O,false),?_,?_⟩
    ·by_cases h17:n.1=17
     ·have har:Dl n.1 n.2.1 n.2.2=some (1,1):=by
       unfold Dl Hd; rw [h17]; rfl
      rw [beq_iff_eq.2 h17,obs,cond_true,har,obs,cond_true]; rfl
     ·have h15:n.1≠15:=fun e=>hj (.inl e)
      have h16:n.1≠16:=fun e=>hj (.inr e)
      rw [beq_eq_false_iff_ne.2 h17,obs,cond_false,bne_iff_ne.2 h15,cond_true,bne_iff_ne.2 h16]; rfl
    ·rw [hfail hst]; exact ⟨_,_,_,rfl⟩
 ·rintro s ⟨F,I,O,T,rfl,lF,lI,lO,hT,hok,hS⟩;rw [List.take_length] at hT;rw [hT]
  try dsimp only
  unfold E3;rw [Ba (by omega),cond_false];exact ⟨_,rfl,_,_,_,rfl,lF,lI,lO,hok,hS⟩
theorem Aj1 (xs:List Nd):∃ F I O b,Fu xs=some (F,I,O,b)∧match tyV xs with | some w=>b=true∧I[xs.length - 1]? =some w.1∧O[xs.length - 1]? =some w.2 | none=>b=false:=by
 unfold Fu Iq tyV;rw [L4];by_cases hx:1<=xs.length∧xs.length<=400
 ·rw [Da.2 (show (1:Int)<=((xs.length:Nat):Int)∧((xs.length:Nat):Int)<=400 by omega),obs,Bool.not_true,cond_false,if_pos hx];obtain ⟨r,hr,hP⟩:=Aty hx;rw [hr];cases ht:I1 xs [] with
  | none =>
   rw [ht] at hP;obtain ⟨F,I,O,rfl⟩:=hP;exact ⟨_,_,_,_,rfl,rfl⟩
  | some T =>
   rw [ht] at hP;obtain ⟨F,I,O,rfl,lF,lI,lO,hok,hS⟩:=hP;have hne:=Amc (fun e=>by subst e; simp at hx) ht;have w1:wI (((xs.length:Nat):Int) - 1)=((xs.length - 1:Nat):Int):=by rw [B4 (by omega) (by omega)]; omega
   simp only [Du,obs,Ctl.then]
   match T,hne,hS with
   | w :: T,_,⟨j,h1,h2,h3,h4,h5⟩ =>
    rw [w1,Ep (by omega),Int.toNat_natCast,h2,obs,obs,obs];refine ⟨F,I,O,_,rfl,?_⟩;cases T with
    | nil =>
     have h5:j=0:=h5;subst h5;exact ⟨rfl,h3,h4⟩
    | cons v T =>
     obtain ⟨j',h',_⟩:=h5;show ((j:Int)==0)=false;rw [beq_eq_false_iff_ne]; omega
 ·rw [if_neg hx,show inR ((xs.length:Nat):Int) 1 400=false by rw [Bool.eq_false_iff]; intro e; have:=Da.1 e; exact hx (by omega)];exact ⟨_,_,_,_,rfl,rfl⟩
theorem Aof (xs:List Nd):Ha xs=some (match tyV xs with | some w=>(w.1,w.2,true) | none=>(0,0,false)):=by
 unfold Ha;obtain ⟨F,I,O,b,h,hm⟩:=Aj1 xs;rw [h,obs];cases ht:tyV xs with
 | none=>rw [ht] at hm; dsimp only at hm; subst hm; rfl
 | some w =>
  rw [ht] at hm;obtain ⟨rfl,h1,h2⟩:=hm
  have hx:1<=xs.length∧xs.length<=400:=by
   unfold tyV at ht;split at ht
   ·assumption
   ·cases ht
  have w1:wI (((xs.length:Nat):Int) - 1)=((xs.length - 1:Nat):Int):=by rw [B4 (by omega) (by omega)]; omega
  dsimp only;rw [Bool.not_true,cond_false,w1,Ep (by omega),Int.toNat_natCast,h1,obs,obs,Ep (by omega),Int.toNat_natCast,h2]; rfl
end
section
def szV (v:Int) (n:Nat):Int:=if v<n then -1 else v - n
theorem Ao4 (xs:List Int) {v:Int} (hv:0<=v∧v<=1048576) (hx:xs.length<=9223372036854775807):G7 xs v=some (szV v xs.length):=by
 unfold G7 szV;rw [B4 (by omega) (by omega)];by_cases h:v<xs.length
 ·rw [Bd (by omega),if_pos h]; rfl
 ·rw [Ba (by omega),if_neg h]; rfl
theorem Aqv (xs:List Int) (hx:xs.length<=1073741824):Hf xs=some xs:=by
 unfold Hf;rw [As (by omega)]
 have h:A7 (fun s_:Nat×List Int=>Ew xs s_.1 s_.2) 4611686018427387904 (0,List.replicate xs.length (0:Int))=some xs:=by
  refine Cn xs.length (fun i=>(i,xs.take i++List.replicate (xs.length - i) 0)) (by omega) xs (by simp) (fun i hi=>?_) ?_
  ·have hx:=gEg hi
   try dsimp only
   unfold Ew;rw [Bd (by omega),cond_true,hx,obs,Qj hi,obs,As (by omega),Qf hx]
  ·try dsimp only
   unfold Ew;rw [Ba (by omega),cond_false];simp
 rw [h]; rfl
theorem Aoe (xs:List Int) (hx:xs.length<=1073741824):G9 xs xs=some true:=by
 unfold G9
 have h:A7 (fun s_:Nat=>Eu xs xs s_) 4611686018427387904 0=some (.next ()):=by
  refine Cn xs.length (fun i=>i) (by omega) _ rfl (fun i hi=>?_) ?_
  ·have hx:=gEg hi
   try dsimp only
   unfold Eu;rw [Bd (by omega),cond_true,hx,obs,obs,bne_self_eq_false,cond_false,As (by omega)]
  ·try dsimp only
   unfold Eu;rw [Ba (by omega),cond_false]
 rw [h,bne_self_eq_false,cond_false]; rfl
end
section
section
variable {σ ρ:Type}
end
def Hu (b:Nat) (xss:List (List Int)):Prop:=∀ x∈xss,x.length<=b
def I9 (xss:List (List Int)):Nat:=(xss.map List.length).sum
theorem Anf {xss:List (List Int)} {i:Nat} (h:i<xss.length):I9 (xss.take (i+1))=I9 (xss.take i)+xss[i].length:=by
 unfold I9;rw [List.take_add_one,gEg h];simp only [Option.toList,List.map_append,List.map_cons,List.map_nil,List.sum_append,List.sum_cons,List.sum_nil,Nat.add_zero]
theorem An4 (xss:List (List Int)) (hn:xss.length<=1048576) (hb:Hu 1048576 xss):F8 xss xss=some true:=by
 unfold F8
 have h:A7 (fun s_:Nat=>Dz xss xss s_) 4611686018427387904 0=some (.next ()):=by
  refine Cn xss.length (fun i=>i) (by omega) _ rfl (fun i hi=>?_) ?_
  ·have hx:=gEg hi;have:=hb _ (List.getElem_mem hi)
   try dsimp only
   unfold Dz;rw [Bd (by omega),cond_true,hx,obs,obs,Aoe _ (by omega),obs,Bool.not_true,cond_false,As (by omega)]
  ·try dsimp only
   unfold Dz;rw [Ba (by omega),cond_false]
 rw [h,bne_self_eq_false,cond_false]; rfl
def szW (v:Int) (xss:List (List Int)):Int:=if v<xss.length+I9 xss then -1 else v - (xss.length+I9 xss)
theorem Ate {v:Int} {xss:List (List Int)} (hv:v<=1048576) (h:¬ szW v xss<0):xss.length+I9 xss<=1048576∧Hu 1048576 xss∧szW v xss=v - (xss.length+I9 xss):=by
 unfold szW at h ⊢;split at h
 ·omega
 rename_i h1;have h2:xss.length+I9 xss<=1048576:=by omega
 refine ⟨h2,fun x hx=>?_,if_neg h1⟩
 have:∀ {l:List (List Int)},x∈l->x.length<=I9 l:=by
  intro l
  induction l with
  | nil=>intro h; cases h
  | cons y r ih =>
   intro h;simp only [I9,List.map_cons,List.sum_cons] at ih ⊢;rcases List.mem_cons.1 h with rfl | h
   ·omega
   ·have:=ih h; omega
 have:=this hx;omega
theorem An5 (xss:List (List Int)) {v:Int} (hv:0<=v∧v<=1048576) (hn:xss.length<=9223372036854775807) (hb:Hu 9223372036854775807 xss):Gk xss v=some (szW v xss):=by
 unfold Gk;rw [B4 (by omega) (by omega)];by_cases h0:v<xss.length
 ·rw [Bd (by omega),szW,if_pos (by omega)]; rfl
 rw [Ba (by omega),cond_false]
 have h:A7 (fun s_:Int×Nat=>D2 xss s_.1 s_.2) 4611686018427387904 (v - xss.length,0)=some (if v<xss.length+I9 xss then .out (-1) else .next (v - (xss.length+I9 xss))):=by
  have hm:∀ i,I9 (xss.take i)<=I9 xss:=fun i=>by
   have:I9 xss=I9 (xss.take i)+I9 (xss.drop i):=by
    conv=>lhs; rw [← List.take_append_drop i xss]
    rw [I9,List.map_append,List.sum_append]; rfl
   omega
  refine Ft xss.length (fun i s=>s=(v - xss.length - I9 (xss.take i),i)∧(xss.length:Int)+I9 (xss.take i)<=v) (by omega) _ ⟨by simp [I9],by simp [I9]; omega⟩ ?_ ?_
  ·rintro i s hi ⟨rfl,h1⟩;have hx:=gEg hi;have hr:=hb _ (List.getElem_mem hi);have hs:=Anf hi;have hm1:=hm (i+1)
   try dsimp only
   unfold D2;rw [Bd (by omega),cond_true,hx,obs,Ao4 _ (by omega) hr,obs,szV];by_cases h2:v - xss.length - I9 (xss.take i)<xss[i].length
   ·refine .inr ?_;rw [if_pos h2,if_pos (by omega)]; rfl
   ·refine .inl ⟨(v - xss.length - I9 (xss.take (i+1)),i+1),?_,rfl,by omega⟩;rw [if_neg h2,Ba (by omega),cond_false,As (by omega),hs,show v - ↑xss.length - ↑(I9 (List.take i xss)) - ↑xss[i].length=v - ↑xss.length - ↑(I9 (List.take i xss)+xss[i].length) by omega]
  ·rintro s ⟨rfl,h1⟩;rw [List.take_length] at h1 ⊢
   try dsimp only
   unfold D2;rw [Ba (by omega),cond_false,if_neg (by omega)];simp [Int.sub_sub]
 rw [h,szW];split <;> rfl
theorem Am3 (xss:List (List Int)) (hn:xss.length<=1048576) (hb:Hu 1048576 xss):Ge xss=some xss:=by
 unfold Ge;rw [As (by omega)]
 have h:A7 (fun s_:Nat×List (List Int)=>D1 xss s_.1 s_.2) 4611686018427387904 (0,List.replicate xss.length ([]:List Int))=some xss:=by
  refine Cn xss.length (fun i=>(i,xss.take i++List.replicate (xss.length - i) [])) (by omega) xss (by simp) (fun i hi=>?_) ?_
  ·have hx:=gEg hi;have hr:=hb _ (List.getElem_mem hi)
   try dsimp only
   unfold D1;rw [Bd (by omega),cond_true,hx,obs,Aqv _ (by omega),obs,Qj hi,obs,As (by omega),Qf hx]
  ·try dsimp only
   unfold D1;rw [Ba (by omega),cond_false];simp
 rw [h]; rfl
theorem Ash {R:Nat->Prop} {w:World} {t:Ty} {A:Option Addr} {c:Nat} {xss:List (List t.D)} {l:List Addr} (h:Sl R w (.slice t) A c xss l):∀ x∈xss,x.length<=9223372036854775807:=by
 obtain ⟨_,_,f,_,h4⟩:=h;intro x hx;obtain ⟨i,hi,rfl⟩:=List.getElem_of_mem hx;obtain ⟨_,_,_,h5⟩:=h4 (by omega);obtain ⟨A',c',_,h6⟩:=h5 i hi;exact (Ahb (xs:=xss[i]) h6).2
end
section
def inV (p:Int) (x:List Int):Prop:=∀ a,a∈x->0<=a∧a<p
def VecW (p:Int) (w:Nat) (x:List Int):Prop:=x.length=w∧inV p x
def MatW (p:Int) (w:Nat) (m:List (List Int)):Prop:=∀ x,x∈m->VecW p w x
def Dv (p k:Int) (v:List Int):List Int:=v.map fun a=>a*k % p
def Dw (p f:Int) (x v:List Int):List Int:=List.zipWith (fun a b=>(a - f*b) % p) x v
def Dq (m:List (List Int)) (c r:Nat):Nat:=r+(m.drop r).findIdx fun x=>x.getD c 0 !=0
def Jx (m:List (List Int)) (r k:Nat):List (List Int):=(m.set r (m.getD k [])).set k (m.getD r [])
def Il (p:Int) (c r:Nat) (pr:List Int) (m:List (List Int)):List (List Int):=m.mapIdx fun i x=>if i=r then pr else Dw p (x.getD c 0) x pr
def Mv (p a:Int):Int:=(((List.range p.toNat).find? fun (x:Nat)=>a*(x:Int) % p==1).getD 0:Nat)
def prV (p:Int) (c:Nat) (x:List Int):List Int:=Dv p (Mv p (x.getD c 0)) x
def gjS (p:Int) (c:Nat) (s:Nat×List (List Int)):Nat×List (List Int) :=
 if s.1<s.2.length then
  if Dq s.2 c s.1=s.2.length then s
  else (s.1+1,Il p c s.1 (prV p c (s.2.getD (Dq s.2 c s.1) [])) (Jx s.2 s.1 (Dq s.2 c s.1)))
 else s
def gjT (p:Int) (m:List (List Int)):Nat->Nat×List (List Int)
 | 0=>(0,m)
 | c+1=>gjS p c (gjT p m c)
def gj (p:Int) (n:Nat) (m:List (List Int)):List (List Int):=(gjT p m n).2.take (gjT p m n).1
theorem Ak1 {p x:Int} (hp:2<=p):0<=x % p∧x % p<p:=⟨Int.emod_nonneg x (by omega),Int.emod_lt_of_pos x (by omega)⟩
theorem Uu {p k:Int} {w:Nat} {x:List Int} (hp:2<=p) (h:x.length=w):VecW p w (Dv p k x) :=
 ⟨by simp [Dv,h],fun a ha=>by obtain ⟨b,_,rfl⟩:=List.mem_map.1 ha; exact Ak1 hp⟩
theorem Aqq {α β γ:Type} {f:α->β->γ}:∀ {x:List α} {v:List β} {c:γ},c∈List.zipWith f x v->∃ a b,c=f a b
 | [],_,_,h=>by simp at h
 | _ :: _,[],_,h=>by simp at h
 | a :: x,b :: v,c,h=>by
  rw [List.zipWith_cons_cons,List.mem_cons] at h;rcases h with h | h
  ·exact ⟨a,b,h⟩
  ·exact Aqq h
theorem Aoc {p f:Int} {w:Nat} {x v:List Int} (hp:2<=p) (hx:x.length=w) (hv:v.length=w):VecW p w (Dw p f x v) :=
 ⟨by simp [Dw,hx,hv],fun a ha=>by obtain ⟨b,c,rfl⟩:=Aqq ha; exact Ak1 hp⟩
theorem W3 {p:Int} {x v:List Int} (hx:inV p x) (hl:x.length<=v.length):Dw p 0 x v=x:=by
 apply List.ext_getElem
 ·simp [Dw]; omega
 ·intro i h1 h2;have:=hx x[i] (List.getElem_mem h2);simp only [Dw,List.getElem_zipWith,Int.zero_mul,Int.sub_zero];exact Int.emod_eq_of_lt this.1 this.2
theorem Dt {α:Type} {m:List α} {i:Nat} {d x:α} (h:m[i]? =some x):m.getD i d=x:=by rw [gDg,h]; rfl
theorem Jg {α:Type} {m:List α} {i:Nat} (h:i<m.length):∃ x,m[i]? =some x:=⟨_,gEg h⟩
theorem Tk {m:List (List Int)} {c r:Nat} (h:r<=m.length):Dq m c r<=m.length:=by
 have:=List.findIdx_le_length (xs:=m.drop r) (p:=fun x=>x.getD c 0 !=0);rw [List.length_drop] at this;unfold Dq; omega
theorem Aiz {m:List (List Int)} {c r i:Nat} (h1:r<=i) (h2:i<Dq m c r) (hr:r<=m.length):(m.getD i []).getD c 0=0:=by
 have hl:=Tk (c:=c) hr;have h3:i - r<(m.drop r).findIdx fun x=>x.getD c 0 !=0:=by unfold Dq at h2; omega
 have h4:i - r<(m.drop r).length:=by rw [List.length_drop]; omega
 have h5:=List.not_of_lt_findIdx h3;rw [List.getElem_drop] at h5
 have e:m[r+(i - r)]'(by rw [List.length_drop] at h4; omega)=m.getD i []:=by
  rw [gDg,gEg (by omega)];simp only [show r+(i - r)=i by omega,Option.getD_some]
 rw [e] at h5
 simpa using h5
theorem Af3 {m:List (List Int)} {c r:Nat} (h:Dq m c r≠m.length) (hr:r<=m.length):(m.getD (Dq m c r) []).getD c 0≠0:=by
 have hl:=Tk (c:=c) hr;have h4:(m.drop r).findIdx (fun x=>x.getD c 0 !=0)<(m.drop r).length:=by rw [List.length_drop]; unfold Dq at h hl; omega
 have h5:=List.findIdx_getElem (w:=h4);rw [List.getElem_drop] at h5
 have e:m[r+(m.drop r).findIdx (fun x=>x.getD c 0 !=0)]'(by rw [List.length_drop] at h4; omega)=m.getD (Dq m c r) []:=by
  rw [gDg,gEg (by omega)]; rfl
 rw [e] at h5
 simpa using h5
theorem Ql (m:List (List Int)) (r k:Nat):(Jx m r k).length=m.length:=by simp [Jx]
theorem Nl (p:Int) (c r:Nat) (pr:List Int) (m:List (List Int)):(Il p c r pr m).length=m.length:=by simp [Il]
theorem Abi {m:List (List Int)} {i:Nat} (h:i<m.length):m.getD i []∈m:=by
 rw [gDg,gEg h]; exact List.getElem_mem h
theorem Agc {p:Int} {w:Nat} {m:List (List Int)} {r k:Nat} (h:MatW p w m) (hr:r<m.length) (hk:k<m.length):MatW p w (Jx m r k):=by
 intro x hx;unfold Jx at hx;rcases List.mem_or_eq_of_mem_set hx with hx | rfl
 ·rcases List.mem_or_eq_of_mem_set hx with hx | rfl
  ·exact h x hx
  ·exact h _ (Abi hk)
 ·exact h _ (Abi hr)
theorem Arl {p:Int} {w c r:Nat} {m:List (List Int)} {pr:List Int} (hp:2<=p) (h:MatW p w m) (hpr:VecW p w pr):MatW p w (Il p c r pr m):=by
 intro x hx;unfold Il at hx;obtain ⟨i,hi,rfl⟩:=List.mem_mapIdx.1 hx;split
 ·exact hpr
 ·exact Aoc hp (h _ (List.getElem_mem hi)).1 hpr.1
theorem At4 {p:Int} {w c:Nat} {s:Nat×List (List Int)} (hp:2<=p) (h:MatW p w s.2) (hr:s.1<=s.2.length):MatW p w (gjS p c s).2∧(gjS p c s).1<=(gjS p c s).2.length∧(gjS p c s).2.length=s.2.length:=by
 unfold gjS;split
 ·rename_i h1;split
  ·exact ⟨h,hr,rfl⟩
  ·rename_i h2;have h3:=Tk (c:=c) hr;have hk:Dq s.2 c s.1<s.2.length:=by omega
   refine ⟨Arl hp (Agc h h1 hk) (Uu hp (h _ (Abi hk)).1),?_,?_⟩
   ·simp only [Nl,Ql]; omega
   ·simp only [Nl,Ql]
 ·exact ⟨h,hr,rfl⟩
theorem Nu {p:Int} {w:Nat} {m:List (List Int)} (hp:2<=p) (h:MatW p w m):∀ c,MatW p w (gjT p m c).2∧(gjT p m c).1<=(gjT p m c).2.length∧(gjT p m c).2.length=m.length
 | 0=>⟨h,Nat.zero_le _,rfl⟩
 | c+1=>by
  obtain ⟨h1,h2,h3⟩:=Nu hp h c;obtain ⟨k1,k2,k3⟩:=At4 (c:=c) hp h1 h2;exact ⟨k1,k2,k3.trans h3⟩
theorem Zp {p:Int} {m:List (List Int)} {c:Nat} (h:¬ (gjT p m c).1<(gjT p m c).2.length):∀ d,c<=d->gjT p m d=gjT p m c
 | 0, h0 => by obtain rfl : c = 0 := by omega
               rfl
 | d+1,h0=>by
  by_cases e:c=d+1
  ·rw [e]
  ·have ih:=Zp h d (by omega);show gjS p d (gjT p m d)=_;rw [ih];unfold gjS;rw [if_neg h]
theorem Aot {p:Int} {n w:Nat} {m:List (List Int)} (hp:2<=p) (h:MatW p w m):(gj p n m).length=(gjT p m n).1:=by
 obtain ⟨_,h2,_⟩:=Nu hp h n;unfold gj;rw [List.length_take]; omega
theorem Ao2 {p:Int} {n w:Nat} {m:List (List Int)} (hp:2<=p) (h:MatW p w m):MatW p w (gj p n m):=fun x hx=>(Nu hp h n).1 x (List.mem_of_mem_take hx)
end
section
def Atn (p a:Int):Bool:=match Ib p a with
 | some v=>(v==Mv p a)&&((F4 p a==some v)&&((decide (0<=v)&&decide (v<p))&&(a*v % p==1)))
 | none=>false
def ivB:Bool:=(List.range 98).all fun p=> !(isF p)||(List.range p).all fun a=>a==0||Atn (p:Int) (a:Int)
theorem Ap8:ivB=true:=by kernel_rfl
theorem Aqd {p a:Int} (hp:isF p=true) (ha:1<=a∧a<p):Ib p a=some (Mv p a)∧F4 p a=some (Mv p a)∧0<=Mv p a∧Mv p a<p∧a*Mv p a % p=1:=by
 have hb:=K6 hp;obtain ⟨q,rfl⟩:=Int.eq_ofNat_of_zero_le (show 0<=p by omega);obtain ⟨b,rfl⟩:=Int.eq_ofNat_of_zero_le (show 0<=a by omega);have h1:=List.all_eq_true.1 Ap8 q (List.mem_range.2 (by omega));rw [hp,Bool.not_true,Bool.false_or] at h1;have h2:=List.all_eq_true.1 h1 b (List.mem_range.2 (by omega))
 have h3:Atn (q:Int) (b:Int)=true:=by
  rcases (Bool.or_eq_true _ _).mp h2 with h | h
  ·have:b=0:=by simpa using h
   omega
  ·exact h
 unfold Atn at h3;split at h3
 ·rename_i v hv;simp only [Bool.and_eq_true,beq_iff_eq,decide_eq_true_eq] at h3;obtain ⟨h4,h5,⟨h6,h7⟩,h8⟩:=h3;subst h4;exact ⟨hv,h5,h6,h7,h8⟩
 ·cases h3
end
section
theorem Arf {p x y:Int} (hp:2<=p∧p<=97) (hx:0<=x∧x<p) (hy:0<=y∧y<p):Ia p x y=some ((x - y) % p):=by
 unfold Ia;rw [As (by omega),B4 (n:=x+p) (by omega) (by omega),B4 (by omega) (by omega),Int.tmod_eq_emod_of_nonneg (by omega),show x+p - y=x - y+p by omega,Int.add_emod_right]
theorem Ahi {ρ:Type} {body:Nat×List (List Int)->Option (Ctl (Nat×List (List Int)) ρ)} {M:List (List Int)} {r:Nat} {x y:List Int} {o:ρ} (hx:M[r]? =some x) (hl:y.length=x.length) (hb:x.length<4611686018427387904)
  (hs:∀ j (h:j<x.length) (z:List Int),z[j]? =some x[j]->body (j,M.set r z)=some (.next (j+1,M.set r (z.set j (y[j]'(by omega)))))) (he:body (x.length,M.set r y)=some (.out o)) :
  A7 body 4611686018427387904 (0,M)=some o:=by
 refine Cn x.length (fun j=>(j,M.set r (y.take j++x.drop j))) hb _ ?_ (fun j hj=>?_) ?_
 ·obtain ⟨h1,h2⟩:=gSi.1 hx;simp only [List.take_zero,List.nil_append,List.drop_zero];rw [← h2,List.set_getElem_self]
 ·have h1:(y.take j).length=j:=by rw [List.length_take]; omega
  rw [hs j hj _ (Mx hj h1),Mu hj h1,List.take_add_one,gEg (by omega)]; rfl
 ·rw [List.drop_length,List.append_nil,← hl,List.take_length,hl]; exact he
theorem Art {ρ:Type} {body:Nat×List Int->Option (Ctl (Nat×List Int) ρ)} {x y:List Int} {o:ρ} (hl:y.length=x.length) (hb:x.length<4611686018427387904)
  (hs:∀ j (h:j<x.length) (z:List Int),z[j]? =some x[j]->body (j,z)=some (.next (j+1,z.set j (y[j]'(by omega))))) (he:body (x.length,y)=some (.out o)) :
  A7 body 4611686018427387904 (0,x)=some o:=by
 refine Cn x.length (fun j=>(j,y.take j++x.drop j)) hb _ rfl (fun j hj=>?_) ?_
 ·have h1:(y.take j).length=j:=by rw [List.length_take]; omega
  rw [hs j hj _ (Mx hj h1),Mu hj h1,List.take_add_one,gEg (by omega)]; rfl
 ·rw [List.drop_length,List.append_nil,← hl,List.take_length,hl]; exact he
theorem Aq8 {ρ:Type} {body:Nat×List (List Int)->Option (Ctl (Nat×List (List Int)) ρ)} {M E:List (List Int)} {r:Nat} {pr:List Int} {o:ρ} (hl:E.length=M.length) (hM:M[r]? =some pr) (hE:E[r]? =some pr)
  (hb:M.length<4611686018427387904) (hs:∀ i (h:i<M.length) (s:List (List Int)),s.length=M.length->s[i]? =some M[i]->s[r]? =some pr->body (i,s)=some (.next (i+1,s.set i (E[i]'(by omega))))) (he:body (M.length,E)=some (.out o)) :
  A7 body 4611686018427387904 (0,M)=some o:=by
 refine Cn M.length (fun j=>(j,E.take j++M.drop j)) hb _ rfl (fun j hj=>?_) ?_
 ·have h1:(E.take j).length=j:=by rw [List.length_take]; omega
  rw [hs j hj _ (by simp; omega) (Mx hj h1) ?_,Mu hj h1,List.take_add_one,gEg (by omega)]; rfl;by_cases h2:r<j
  ·rw [List.getElem?_append_left (by omega),List.getElem?_take,if_pos h2]; exact hE
  ·rw [List.getElem?_append_right (by omega),h1,List.getElem?_drop,show j+(r - j)=r by omega]; exact hM
 ·rw [List.drop_length,List.append_nil,← hl,List.take_length,hl]; exact he
theorem Qb {α:Type} {m:List α} {i:Nat} {x z:α} (h:m[i]? =some x):(m.set i z)[i]? =some z:=by
 rw [List.getElem?_set_self (Au h)]
theorem Kv {α:Type} {m:List α} {i:Nat} {x:α} (h:m[i]? =some x):m.set i x=m:=by
 obtain ⟨h1,h2⟩:=gSi.1 h;rw [← h2,List.set_getElem_self]
theorem Akg {α:Type} {m:List α} {i j:Nat} {z:α} (h:i≠j):(m.set i z)[j]? =m[j]?:=List.getElem?_set_ne h
theorem Ajr {p k:Int} {x:List Int} {j:Nat} (h:j<(Dv p k x).length):(Dv p k x)[j]=x[j]'(by simpa [Dv] using h)*k % p:=by simp [Dv]
theorem Aj5 {p f:Int} {x v:List Int} {j:Nat} (h:j<(Dw p f x v).length):(Dw p f x v)[j]=(x[j]'(by simp [Dw] at h; omega) - f*v[j]'(by simp [Dw] at h; omega)) % p:=by simp [Dw]
theorem Lm {p:Int} {c r:Nat} {pr:List Int} {m:List (List Int)} {i:Nat} (h:i<(Il p c r pr m).length) :
  (Il p c r pr m)[i]=if i=r then pr else Dw p ((m[i]'(by simpa [Il] using h)).getD c 0) (m[i]'(by simpa [Il] using h)) pr:=by simp [Il]
theorem Xn {p:Int} {w j:Nat} {x:List Int} (hx:VecW p w x) (hj:j<x.length):0<=x[j]∧x[j]<p:=hx.2 _ (List.getElem_mem hj)
theorem Jz {p:Int} {w j:Nat} {x:List Int} (hx:VecW p w x) (hj:j<w):0<=x.getD j 0∧x.getD j 0<p∧x[j]? =some (x.getD j 0):=by
 have h:j<x.length:=by rw [hx.1]; exact hj
 have e:x[j]? =some x[j]:=gEg h;rw [Dt e];exact ⟨(Xn hx h).1,(Xn hx h).2,e⟩
theorem Ara {p f a b:Int}:(a - f*b % p) % p=(a - f*b) % p:=by rw [Int.sub_emod_emod]
section
variable {p:Int} {w:Nat} {m:List (List Int)}
theorem Ant {r:Nat} {x:List Int} {k:Int} (hp:2<=p∧p<=97) (hx:VecW p w x) (hw:w<=100000) (hr:m[r]? =some x) (hk:0<=k∧k<p) :
  A7 (fun s_:Nat×List (List Int)=>Dg x r p k s_.1 s_.2) 4611686018427387904 (0,m)=some (m.set r (Dv p k x)):=by
 have hl:=hx.1;refine Ahi hr (y:=Dv p k x) (by simp [Dv]) (by omega) (fun j hj z hz=>?_) ?_
 ·have hv:=Xn hx hj
  try dsimp only
  unfold Dg;rw [Bd (by omega),cond_true,Qb hr,obs,hz,obs,Am2 hp hv hk,obs,As (by omega),List.set_set,Ajr]
 ·try dsimp only
  unfold Dg;rw [Ba (by omega),cond_false]
theorem Aov {i r:Nat} {x v:List Int} {f:Int} (hp:2<=p∧p<=97) (hx:VecW p w x) (hv:VecW p w v) (hw:w<=100000) (hi:m[i]? =some x) (hr:m[r]? =some v) (hn:i≠r) (hf:0<=f∧f<p) :
  A7 (fun s_:Nat×List (List Int)=>Di x i r p f s_.1 s_.2) 4611686018427387904 (0,m)=some (m.set i (Dw p f x v)):=by
 have hl:=hx.1;have hl':=hv.1;refine Ahi hi (y:=Dw p f x v) (by simp [Dw]; omega) (by omega) (fun j hj z hz=>?_) ?_
 ·have h1:=Xn hx hj;have h2:=Xn hv (j:=j) (by omega)
  try dsimp only
  unfold Di
  rw [Bd (by omega),cond_true,Qb hi,obs,hz,obs,Akg hn,hr,obs,gEg (show j<v.length by omega),obs,Am2 hp hf h2,obs,
   Arf hp h1 (Ak1 hp.1),obs,As (by omega),List.set_set,Aj5,Ara]
 ·try dsimp only
  unfold Di;rw [Ba (by omega),cond_false]
theorem Aiw {c r:Nat} {pr:List Int} (h:r<m.length):(Il p c r pr m)[r]? =some pr:=by
 rw [gEg (by rw [Nl]; exact h),Lm,if_pos rfl]
theorem Aoh {M0:List (List Int)} {c r:Nat} {pr:List Int} (hp:2<=p∧p<=97) (hm:MatW p w m) (hw:w<=100000) (hl:m.length<=100000) (hr:m[r]? =some pr) (hc:c<w) (h0:M0.length=m.length) :
  A7 (fun s_:Nat×List (List Int)=>Dk M0 r c p s_.1 s_.2) 4611686018427387904 (0,m)=some (Il p c r pr m):=by
 refine Aq8 (E:=Il p c r pr m) (Nl ..) hr (Aiw (Au hr)) (by omega) (fun i hi s hs h1 h2=>?_) ?_
 ·have hx:=hm _ (List.getElem_mem hi);have hv:=hm _ (List.mem_of_getElem? hr);obtain ⟨g1,g2,g3⟩:=Jz hx hc;generalize hxe:m[i]=x at *
  try dsimp only
  unfold Dk;rw [Bd (by omega),cond_true,Lm,hxe];by_cases hir:i=r
  ·subst hir;rw [if_pos rfl,show (((i:Nat):Int)==((i:Nat):Int))=true from beq_self_eq_true _,cond_true,obs,cond_true,obs,As (by omega),Kv h2]
  ·rw [if_neg hir,show (((i:Nat):Int)==((r:Nat):Int))=false from by rw [beq_eq_false_iff_ne]; omega,cond_false,h1,obs,g3,obs,obs];by_cases h0:x.getD c 0=0
   ·rw [h0,show ((0:Int)==0)=true from rfl,cond_true,obs,As (by omega),W3 hx.2 (by rw [hx.1,hv.1]; exact Nat.le_refl _),Kv h1]
   ·rw [show (x.getD c 0==0)=false from beq_eq_false_iff_ne.2 h0,cond_false,obs,g3,obs,Aov hp hx hv hw h1 h2 hir ⟨g1,g2⟩,obs,As (by omega)]
 ·try dsimp only
  unfold Dk;rw [Ba (by omega),cond_false]
theorem Ame {c r:Nat} {pr y:List Int}:Il p c r pr (m.set r y)=Il p c r pr m:=by
 apply List.ext_getElem
 ·rw [Nl,Nl,List.length_set]
 ·intro i h1 h2;rw [Lm,Lm];by_cases h:i=r
  ·rw [if_pos h,if_pos h]
  ·rw [if_neg h,if_neg h];simp only [List.getElem_set,if_neg (fun e=>h (Eq.symm e))]
theorem Aq3 {c r:Nat} (hm:MatW p w m) (hc:c<w) (hl:m.length<=100000) (hr:r<=m.length) :
  A7 (fun s_:Nat=>Cj m c s_) 4611686018427387904 r=some (Dq m c r):=by
 have hle:=Tk (c:=c) hr;refine Cn ((m.drop r).findIdx fun x=>x.getD c 0 !=0) (fun t=>r+t) (by unfold Dq at hle; omega) _ rfl (fun t ht=>?_) ?_
 ·have h1:r+t<Dq m c r:=by unfold Dq; omega
  have h0:=Aiz (i:=r+t) (by omega) h1 hr;obtain ⟨x,hx⟩:=Jg (show r+t<m.length by omega);obtain ⟨g1,g2,g3⟩:=Jz (hm _ (List.mem_of_getElem? hx)) hc;rw [Dt hx] at h0
  try dsimp only
  unfold Cj;rw [Bd (by omega),cond_true,hx,obs,g3,obs,obs,h0,show ((0:Int)==0)=true from rfl,cond_true,As (by omega),Nat.add_assoc]
 ·show Cj m c (Dq m c r)=_;unfold Cj;by_cases h:Dq m c r=m.length
  ·rw [Ba (by omega),cond_false,obs,cond_false]
  ·have h0:=Af3 h hr;obtain ⟨x,hx⟩:=Jg (show Dq m c r<m.length by omega);obtain ⟨g1,g2,g3⟩:=Jz (hm _ (List.mem_of_getElem? hx)) hc;rw [Dt hx] at h0;rw [Bd (by omega),cond_true,hx,obs,g3,obs,obs,beq_eq_false_iff_ne.2 h0,cond_false]
theorem Apk {r k:Nat} (hr:r<m.length) (hk:k<m.length):(Jx m r k)[r]? =some (m.getD k []):=by
 unfold Jx;by_cases h:r=k
 ·subst h;rw [List.getElem?_set_self (by rw [List.length_set]; exact hr)]
 ·rw [List.getElem?_set_ne (Ne.symm h),List.getElem?_set_self hr]
theorem App {n:Nat} (hp:isF p=true) (hm:MatW p w m) (hn:n<=w) (hw:w<=100000) (hl:m.length<=100000) :
  A7 (fun s_:Nat×Nat×List (List Int)=>B7 (n:Int) p s_.1 s_.2.1 s_.2.2) 4611686018427387904 (0,0,m)=some (gjT p m n):=by
 have hb:=K6 hp;refine Ft n (fun c s=>s=((gjT p m c).1,c,(gjT p m c).2)) (by omega) _ rfl (fun c s hc hI=>?_) (fun s hI=>?_)
 ·subst hI;obtain ⟨hm',hr,hl'⟩:=Nu hb.1 hm c;by_cases hlt:(gjT p m c).1<(gjT p m c).2.length
  ·refine .inl ?_;refine ⟨_,?_,rfl⟩;show B7 _ _ _ _ _=some (Ctl.next ((gjS p c (gjT p m c)).1,c+1,(gjS p c (gjT p m c)).2));generalize gjT p m c=s at *;obtain ⟨r,M⟩:=s
   try dsimp only at *
   unfold B7 gjS;rw [Bd (by omega),cond_true,obs,Bd (by omega),cond_true,Aq3 hm' (by omega) (by omega) hr,obs,if_pos hlt];by_cases hk:Dq M c r=M.length
   ·rw [hk,beq_self_eq_true,cond_true,obs,if_pos rfl];exact As (by omega) _
   ·have hle:=Tk (c:=c) hr;have hkl:Dq M c r<M.length:=by omega
    rw [show (((Dq M c r:Nat):Int)==((M.length:Nat):Int))=false from by rw [beq_eq_false_iff_ne]; omega,cond_false,if_neg hk];have hnz:=Af3 hk hr;obtain ⟨x,hx⟩:=Jg hlt;obtain ⟨y,hy⟩:=Jg hkl;have hyM:=hm' _ (List.mem_of_getElem? hy);obtain ⟨g1,g2,g3⟩:=Jz hyM (show c<w by omega);rw [Dt hy] at hnz;obtain ⟨i1,_,i2,i3,_⟩:=Aqd hp (a:=y.getD c 0) (by omega);have hs:=Apk hlt hkl;have hpm:=Agc hm' hlt hkl;have hsl:=Ql M r (Dq M c r);have hsw:(M.set r y).set (Dq M c r) x=Jx M r (Dq M c r):=by unfold Jx; rw [Dt hx,Dt hy]
    rw [hx,obs,hy,obs,hsw,Dt hy];rw [Dt hy] at hs;generalize Jx M r (Dq M c r)=W at *;have hpr:VecW p w (Dv p (Mv p (y.getD c 0)) y):=Uu hb.1 hyM.1
    rw [hs,obs,g3,obs,i1,obs,Ant hb hyM hw hs ⟨i2,i3⟩,obs,
     Aoh hb (w:=w) (m:=W.set r (Dv p (Mv p (y.getD c 0)) y)) (pr:=Dv p (Mv p (y.getD c 0)) y) (fun z hz=>?_) hw (by rw [List.length_set]; omega) (Qb hs) (by omega) rfl,obs,As (by omega),obs,Ame]
    ·exact As (by omega) _
    ·rcases List.mem_or_eq_of_mem_set hz with hz | rfl
     ·exact hpm _ hz
     ·exact hpr
  ·refine .inr ?_;rw [Zp hlt n (by omega)];generalize gjT p m c=s at *
   try dsimp only
   unfold B7;rw [Bd (by omega),cond_true,obs,Ba (by omega),cond_false]
 ·subst hI
  try dsimp only
  unfold B7;rw [Ba (by omega),cond_false,obs,cond_false]
theorem Arm (hm:MatW p w m) (hw:w<=100000) (hl:m.length<=100000) :
  A7 (fun s_:Nat×List (List Int)=>Cm m s_.1 s_.2) 4611686018427387904 (0,([]:List (List Int)))=some m:=by
 have h:=Vx (body:=fun s_:Nat×List (List Int)=>Cm m s_.1 s_.2) m id [] (F:=4611686018427387904) (by omega) m (fun i x h=>?_) ?_
 ·simpa using h
 ·have:=Au h;have hx:=(hm x (List.mem_of_getElem? h)).1
  try dsimp only
  unfold Cm;rw [Bd (by omega),cond_true,h,obs,Asj _ (by omega),obs,As (by simp; omega),As (by omega)]; rfl
 ·try dsimp only
  unfold Cm;rw [Ba (by omega),cond_false,List.map_id,List.nil_append]
theorem Alx {n:Nat} (hp:isF p=true) (hm:MatW p w m) (hn:n<=w) (hw:w<=100000) (hl:m.length<=100000):Fk p (n:Int) m=some (gj p n m):=by
 have hb:=K6 hp;obtain ⟨_,h2,h3⟩:=Nu hb.1 hm n;unfold Fk;rw [Arm hm hw hl,obs,App hp hm hn hw hl,obs];exact As (by omega) _
end
end
section
theorem Apu {ρ:Type} {body:Nat×List (List Int)×List (List Int)->Option (Ctl (Nat×List (List Int)×List (List Int)) ρ)} {M E A B:List (List Int)} {r:Nat} {pr pa:List Int} {o:ρ}
  (hl:E.length=M.length) (hA:A.length=M.length) (hB:B.length=M.length) (hM:M[r]? =some pr) (hE:E[r]? =some pr) (hM':A[r]? =some pa) (hE':B[r]? =some pa) (hb:M.length<4611686018427387904)
  (hs:∀ i (h:i<M.length) (s t:List (List Int)),s.length=M.length->t.length=M.length->s[i]? =some M[i]->t[i]? =some (A[i]'(by omega))->s[r]? =some pr->t[r]? =some pa ->
   body (i,s,t)=some (.next (i+1,s.set i (E[i]'(by omega)),t.set i (B[i]'(by omega))))) (he:body (M.length,E,B)=some (.out o)) :
  A7 body 4611686018427387904 (0,M,A)=some o:=by
 have hr:∀ {M E:List (List Int)} {pr:List Int} {j:Nat},(E.take j).length=j->M[r]? =some pr->E[r]? =some pr->(E.take j++M.drop j)[r]? =some pr:=by
  intro M E pr j h1 hM hE;by_cases h2:r<j
  ·rw [List.getElem?_append_left (by omega),List.getElem?_take,if_pos h2]; exact hE
  ·rw [List.getElem?_append_right (by omega),h1,List.getElem?_drop,show j+(r - j)=r by omega]; exact hM
 refine Cn M.length (fun j=>(j,E.take j++M.drop j,B.take j++A.drop j)) hb _ rfl (fun j hj=>?_) ?_
 ·have h1:(E.take j).length=j:=by rw [List.length_take]; omega
  have h2:(B.take j).length=j:=by rw [List.length_take]; omega
  rw [hs j hj _ _ (by simp; omega) (by simp; omega) (Mx hj h1) (Mx (by omega) h2) (hr h1 hM hE) (hr h2 hM' hE'),Mu hj h1,Mu (by omega) h2,List.take_add_one,gEg (by omega),List.take_add_one,gEg (by omega)]; rfl
 ·rw [List.drop_length,List.append_nil,← hl,List.take_length,hl,← hA,List.drop_length,List.append_nil,hA,← hB,List.take_length,hB]; exact he
theorem VecW.tk {p:Int} {w u:Nat} {x:List Int} (h:VecW p w x) (hu:u<=w):VecW p u (x.take u):=⟨by rw [List.length_take,h.1]; omega,fun a ha=>h.2 a (List.mem_of_mem_take ha)⟩
theorem VecW.dr {p:Int} {w u:Nat} {x:List Int} (h:VecW p w x):VecW p (w - u) (x.drop u):=⟨by rw [List.length_drop,h.1],fun a ha=>h.2 a (List.mem_of_mem_drop ha)⟩
theorem MatW.tk {p:Int} {w u:Nat} {m:List (List Int)} (h:MatW p w m) (hu:u<=w):MatW p u (m.map (·.take u)):=fun x hx=>by
 obtain ⟨y,hy,rfl⟩:=List.mem_map.1 hx;exact (h y hy).tk hu
theorem MatW.dr {p:Int} {w u:Nat} {m:List (List Int)} (h:MatW p w m):MatW p (w - u) (m.map (·.drop u)):=fun x hx=>by
 obtain ⟨y,hy,rfl⟩:=List.mem_map.1 hx;exact (h y hy).dr
section
variable {p:Int} {w:Nat} {m:List (List Int)}
theorem Akn {x v:List Int} {f:Int} (hp:2<=p∧p<=97) (hx:VecW p w x) (hv:VecW p w v) (hw:w<=100000) (hf:0<=f∧f<p) :
  Fr p x (wI (0 - f)) v=some (Dw p f x v):=by
 have hl:=hx.1;have hl':=hv.1;unfold Fr;refine Art (y:=Dw p f x v) (by simp [Dw]; omega) (by omega) (fun j hj z hz=>?_) ?_
 ·have h1:=Xn hx hj;have h2:=Xn hv (j:=j) (by omega);have h3:=Alb hp hf h2;have e:(0 - f)*v[j]= -(f*v[j]):=by rw [Int.zero_sub,Int.neg_mul]
  try dsimp only
  unfold Fg;rw [Bd (by omega),cond_true,gEg (show j<v.length by omega),obs,hz,obs,B4 (n:=0 - f) (by omega) (by omega),e,B4 (n:= -(f*v[j])) (by omega) (by omega),B4 (by omega) (by omega),Auu hp,obs,As (by omega),Aj5]; rfl
 ·try dsimp only
  unfold Fg;rw [Ba (by omega),cond_false]
theorem Ah2 {r k:Nat} {x y:List Int} {b:Int} (hr:m[r]? =some x) (hk:m[k]? =some y):Be 0 (r:Int) (k:Int) b p m=some (Jx m r k):=by
 unfold Be Jx;rw [show ((0:Int)==0)=true from rfl,cond_true,Ep (by omega),Int.toNat_natCast,hk,obs,Ep (by omega),Int.toNat_natCast,hr,obs,Dt hr,Dt hk]
theorem Air {r:Nat} {x:List Int} {a b:Int} (hp:isF p=true) (hx:VecW p w x) (hw:w<=100000) (hr:m[r]? =some x) (ha:1<=a∧a<p) :
  Be 1 (r:Int) b a p m=some (m.set r (Dv p (Mv p a) x)):=by
 obtain ⟨_,i1,i2,i3,_⟩:=Aqd hp ha;have hb:=K6 hp;have hl:=hx.1;unfold Be;rw [show ((1:Int)==0)=false from rfl,cond_false,show ((1:Int)==1)=true from rfl,cond_true,i1,obs,Ep (by omega),Int.toNat_natCast,hr,obs];refine Ahi hr (y:=Dv p (Mv p a) x) (by simp [Dv]) (by omega) (fun j hj z hz=>?_) ?_
 ·have hv:=Xn hx hj;have h3:=Alb hb hv ⟨i2,i3⟩
  try dsimp only
  unfold B5;rw [Bd (by omega),cond_true,Ep (by omega),Int.toNat_natCast,Qb hr,obs,As (by omega),hz,obs,As (by omega),As (by omega),List.set_set,Ajr,B4 (by omega) (by omega),Int.tmod_eq_emod_of_nonneg (by omega)]
 ·try dsimp only
  unfold B5;rw [Ba (by omega),cond_false]
theorem Ain {i r:Nat} {x v:List Int} {f:Int} (hp:2<=p∧p<=97) (hx:VecW p w x) (hv:VecW p w v) (hw:w<=100000) (hi:m[i]? =some x) (hr:m[r]? =some v) (hn:i≠r) (hf:0<=f∧f<p) :
  Be 2 (i:Int) (r:Int) f p m=some (m.set i (Dw p f x v)):=by
 have hl:=hx.1;have hl':=hv.1;unfold Be
 rw [show ((2:Int)==0)=false from rfl,cond_false,show ((2:Int)==1)=false from rfl,cond_false,show ((2:Int)==2)=true from rfl,cond_true,Ep (by omega),Int.toNat_natCast,hi,obs,Ep (by omega),Int.toNat_natCast,hr,obs,
  As hn,Akn hp hx hv hw hf,obs,As (by simp [Dw]; omega)]
theorem Aix {r:Nat} (hr:r<m.length):Jx m r r=m:=by
 obtain ⟨x,hx⟩:=Jg hr;unfold Jx;rw [Dt hx,List.set_set,Kv hx]
theorem Aso {A:List (List Int)} {r k:Nat} (hA:A.length=m.length) (hr:r<m.length) (hk:k<m.length):Bl 0 (r:Int) (k:Int) 0 p m A=some (Jx m r k,Jx A r k):=by
 unfold Bl;by_cases h:r=k
 ·subst h;rw [beq_self_eq_true,cond_true,Aix hr,Aix (by omega)]
 ·obtain ⟨x,hx⟩:=Jg hr;obtain ⟨y,hy⟩:=Jg hk;obtain ⟨x',hx'⟩:=Jg (show r<A.length by omega);obtain ⟨y',hy'⟩:=Jg (show k<A.length by omega);rw [show ([(0:Int),(r:Int),(k:Int),0]==[0,(r:Int),(r:Int),0])=false from by rw [beq_eq_false_iff_ne]; intro e; simp at e; omega,cond_false,Ah2 hx hy,obs,As (Ql ..),Ah2 hx' hy',obs,As (Ql ..)]
theorem Ar1 {A:List (List Int)} {w' r:Nat} {x y:List Int} {a:Int} (hp:isF p=true) (hx:VecW p w x) (hy:VecW p w' y) (hw:w<=100000) (hw':w'<=100000) (hr:m[r]? =some x) (hA:A[r]? =some y) (ha:1<=a∧a<p) :
  Bl 1 (r:Int) 0 a p m A=some (m.set r (Dv p (Mv p a) x),A.set r (Dv p (Mv p a) y)):=by
 unfold Bl;rw [show ([(1:Int),(r:Int),0,a]==[0,(r:Int),(r:Int),0])=false from by rw [beq_eq_false_iff_ne]; intro e; simp at e,cond_false,Air hp hx hw hr ha,obs,As (List.length_set ..),Air hp hy hw' hA ha,obs,As (List.length_set ..)]
theorem Arz {A:List (List Int)} {w' i r:Nat} {x v y u:List Int} {f:Int} (hp:2<=p∧p<=97) (hx:VecW p w x) (hv:VecW p w v) (hy:VecW p w' y) (hu:VecW p w' u) (hw:w<=100000) (hw':w'<=100000)
  (hi:m[i]? =some x) (hr:m[r]? =some v) (hi':A[i]? =some y) (hr':A[r]? =some u) (hn:i≠r) (hf:0<=f∧f<p) :
  Bl 2 (i:Int) (r:Int) f p m A=some (m.set i (Dw p f x v),A.set i (Dw p f y u)):=by
 unfold Bl;rw [show ([(2:Int),(i:Int),(r:Int),f]==[0,(i:Int),(i:Int),0])=false from by rw [beq_eq_false_iff_ne]; intro e; simp at e,cond_false,Ain hp hx hv hw hi hr hn hf,obs,As (List.length_set ..),Ain hp hy hu hw' hi' hr' hn hf,obs,As (List.length_set ..)]
def Tu (p:Int) (c r:Nat) (pa:List Int) (M A:List (List Int)):List (List Int):=A.mapIdx fun i x=>if i=r then pa else Dw p ((M.getD i []).getD c 0) x pa
theorem Po {c r:Nat} {pa:List Int} {M A:List (List Int)} {i:Nat} (h:i<(Tu p c r pa M A).length) :
  (Tu p c r pa M A)[i]=if i=r then pa else Dw p ((M.getD i []).getD c 0) (A[i]'(by simpa [Tu] using h)) pa:=by simp [Tu]
theorem Apc {M0:List (List Int)×List (List Int)} {A:List (List Int)} {w' c r:Nat} {pr pa:List Int} (hp:2<=p∧p<=97) (hm:MatW p w m) (hA:MatW p w' A) (hlA:A.length=m.length) (hw:w<=100000) (hw':w'<=100000) (hl:m.length<=100000)
  (hr:m[r]? =some pr) (hr':A[r]? =some pa) (hc:c<w) (h0:M0.1.length=m.length) :
  A7 (fun s_:Nat×List (List Int)×List (List Int)=>C7 M0 r c p s_.1 s_.2.1 s_.2.2) 4611686018427387904 (0,m,A)=some (Il p c r pr m,Tu p c r pa m A):=by
 have hla:(Tu p c r pa m A).length=m.length:=by simp [Tu,hlA]
 have hr2:=Au hr;refine Apu (E:=Il p c r pr m) (B:=Tu p c r pa m A) (Nl ..) hlA hla hr (Aiw hr2) hr' ?_ (by omega) (fun i hi s t hs ht h1 k1 h2 k2=>?_) ?_
 ·rw [gEg (by omega),Po,if_pos rfl]
 ·have hx:=hm _ (List.getElem_mem hi);have hy:=hA _ (List.getElem_mem (show i<A.length by omega));have hv:=hm _ (List.mem_of_getElem? hr);have hu:=hA _ (List.mem_of_getElem? hr');obtain ⟨g1,g2,g3⟩:=Jz hx hc;have hD:m.getD i []=m[i]:=Dt (gEg hi)
  try dsimp only
  unfold C7;rw [Bd (by omega),cond_true,Lm,Po,hD];generalize m[i]=x at *;generalize A[i]=y at *;by_cases hir:i=r
  ·subst hir;rw [if_pos rfl,if_pos rfl,show (((i:Nat):Int) !=((i:Nat):Int))=false from bne_self_eq_false _,cond_false,obs,cond_false,obs,Kv h2,Kv k2];exact As (by omega) _
  ·rw [if_neg hir,if_neg hir,show (((i:Nat):Int) !=((r:Nat):Int))=true from by rw [bne_iff_ne]; omega,cond_true,h1,obs,g3,obs,obs];by_cases h0:x.getD c 0=0
   ·rw [h0,show ((0:Int) !=0)=false from rfl,cond_false,obs,W3 hx.2 (by rw [hx.1,hv.1]; exact Nat.le_refl _),W3 hy.2 (by rw [hy.1,hu.1]; exact Nat.le_refl _),Kv h1,Kv k1];exact As (by omega) _
   ·rw [show (x.getD c 0 !=0)=true from bne_iff_ne.2 h0,cond_true,obs,g3,obs,Arz hp hx hv hy hu hw hw' h1 h2 k1 k2 hir ⟨g1,g2⟩,obs,obs];exact As (by omega) _
 ·try dsimp only
  unfold C7;rw [Ba (by omega),cond_false]
theorem Ar5 {c r:Nat} (hm:MatW p w m) (hc:c<w) (hl:m.length<=100000) (hr:r<=m.length) :
  A7 (fun s_:Nat=>Cf m c s_) 4611686018427387904 r=some (Dq m c r):=by
 have hle:=Tk (c:=c) hr;refine Cn ((m.drop r).findIdx fun x=>x.getD c 0 !=0) (fun t=>r+t) (by unfold Dq at hle; omega) _ rfl (fun t ht=>?_) ?_
 ·have h1:r+t<Dq m c r:=by unfold Dq; omega
  have h0:=Aiz (i:=r+t) (by omega) h1 hr;obtain ⟨x,hx⟩:=Jg (show r+t<m.length by omega);obtain ⟨g1,g2,g3⟩:=Jz (hm _ (List.mem_of_getElem? hx)) hc;rw [Dt hx] at h0
  try dsimp only
  unfold Cf;rw [Bd (by omega),cond_true,hx,obs,g3,obs,obs,h0,show ((0:Int)==0)=true from rfl,cond_true,As (by omega),Nat.add_assoc]
 ·show Cf m c (Dq m c r)=_;unfold Cf;by_cases h:Dq m c r=m.length
  ·rw [Ba (by omega),cond_false,obs,cond_false]
  ·have h0:=Af3 h hr;obtain ⟨x,hx⟩:=Jg (show Dq m c r<m.length by omega);obtain ⟨g1,g2,g3⟩:=Jz (hm _ (List.mem_of_getElem? hx)) hc;rw [Dt hx] at h0;rw [Bd (by omega),cond_true,hx,obs,g3,obs,obs,beq_eq_false_iff_ne.2 h0,cond_false]
theorem Qi {x:List Int} {u c:Nat} (h:c<u):(x.take u).getD c 0=x.getD c 0:=by
 rw [gDg,List.getElem?_take,if_pos h,gDg]
theorem Aoq {u c r:Nat} (h:c<u):Dq (m.map (·.take u)) c r=Dq m c r:=by
 unfold Dq;rw [← List.map_drop,List.findIdx_map];congr 2;funext x;exact congrArg (· !=0) (Qi h)
theorem Abr {f:List Int->List Int} (hf:f []=[]) {i:Nat}:(m.map f).getD i []=f (m.getD i []):=by
 rw [gDg,List.getElem?_map,gDg];cases m[i]? with
 | none=>exact hf.symm
 | some x=>rfl
theorem Amk {f:List Int->List Int} (hf:f []=[]) {r k:Nat}:(Jx m r k).map f=Jx (m.map f) r k:=by
 unfold Jx;rw [List.map_set,List.map_set,Abr hf,Abr hf]
theorem Anc {k:Int} {x:List Int} {u:Nat}:(Dv p k x).take u=Dv p k (x.take u):=by simp [Dv,List.map_take]
theorem Anb {k:Int} {x:List Int} {u:Nat}:(Dv p k x).drop u=Dv p k (x.drop u):=by simp [Dv,List.map_drop]
theorem Am6 {k:Int} {x v:List Int} {u:Nat}:(Dw p k x v).take u=Dw p k (x.take u) (v.take u):=by simp [Dw,List.take_zipWith]
theorem Anm {k:Int} {x v:List Int} {u:Nat}:(Dw p k x v).drop u=Dw p k (x.drop u) (v.drop u):=by simp [Dw,List.drop_zipWith]
theorem Aon {c r u:Nat} {pr:List Int} (h:c<u):(Il p c r pr m).map (·.take u)=Il p c r (pr.take u) (m.map (·.take u)):=by
 apply List.ext_getElem
 ·simp [Il]
 ·intro i h1 h2;rw [List.getElem_map,Lm,Lm,List.getElem_map,Qi h];split
  ·rfl
  ·exact Am6
theorem Apd {c r u:Nat} {pr:List Int} (h:c<u):(Il p c r pr m).map (·.drop u)=Tu p c r (pr.drop u) (m.map (·.take u)) (m.map (·.drop u)):=by
 apply List.ext_getElem
 ·simp [Il,Tu]
 ·intro i h1 h2;rw [List.getElem_map,Lm,Po,List.getElem_map,Abr (f:=(·.take u)) List.take_nil,Qi h,show m.getD i []=m[i]'(by simpa [Il] using h1) from Dt (gEg (by simpa [Il] using h1))];split
  ·rfl
  ·exact Anm
theorem Apq {c r:Nat} {pa y z:List Int} {M A:List (List Int)}:Tu p c r pa (M.set r z) (A.set r y)=Tu p c r pa M A:=by
 apply List.ext_getElem
 ·simp [Tu]
 ·intro i h1 h2;rw [Po,Po];by_cases h:i=r
  ·rw [if_pos h,if_pos h]
  ·rw [if_neg h,if_neg h];simp only [List.getElem_set,if_neg (fun e=>h (Eq.symm e)),gDg,List.getElem?_set_ne (Ne.symm h)]
def rdW (u:Nat) (W:List (List Int)):List (List Int):=W.map (·.take u)
def alW (u:Nat) (W:List (List Int)):List (List Int):=W.map (·.drop u)
theorem Aql {n u:Nat} (hp:isF p=true) (hm:MatW p w m) (hn:n<=u) (hu:u<=w) (hw:w<=100000) (hl:m.length<=100000) :
  A7 (fun s_:Nat×Nat×List (List Int)×List (List Int)=>Bv (n:Int) p s_.1 s_.2.1 s_.2.2.1 s_.2.2.2) 4611686018427387904 (0,0,rdW u m,alW u m)=some ((gjT p m n).1,rdW u (gjT p m n).2,alW u (gjT p m n).2):=by
 have hb:=K6 hp;refine Ft n (fun c s=>s=((gjT p m c).1,c,rdW u (gjT p m c).2,alW u (gjT p m c).2)) (by omega) _ rfl (fun c s hc hI=>?_) (fun s hI=>?_)
 ·subst hI;obtain ⟨hm',hr,hl'⟩:=Nu hb.1 hm c;have hlr:(rdW u (gjT p m c).2).length=(gjT p m c).2.length:=List.length_map ..;have hla:(alW u (gjT p m c).2).length=(gjT p m c).2.length:=List.length_map ..;by_cases hlt:(gjT p m c).1<(gjT p m c).2.length
  ·refine .inl ?_;refine ⟨_,?_,rfl⟩;show Bv _ _ _ _ _ _=some (Ctl.next ((gjS p c (gjT p m c)).1,c+1,rdW u (gjS p c (gjT p m c)).2,alW u (gjS p c (gjT p m c)).2));generalize gjT p m c=s at *;obtain ⟨r,M⟩:=s
   try dsimp only at *
   have hR:MatW p u (rdW u M):=hm'.tk hu;have hA:MatW p (w - u) (alW u M):=hm'.dr;have hpv:Dq (rdW u M) c r=Dq M c r:=Aoq (by omega);unfold Bv gjS;rw [Bd (by omega),cond_true,obs,Bd (by omega),cond_true,Ar5 hR (by omega) (by omega) (by omega),obs,if_pos hlt,hlr,hpv];by_cases hk:Dq M c r=M.length
   ·rw [hk,beq_self_eq_true,cond_true,obs,if_pos rfl];exact As (by omega) _
   ·have hle:=Tk (c:=c) hr;have hkl:Dq M c r<M.length:=by omega
    rw [show (((Dq M c r:Nat):Int)==((M.length:Nat):Int))=false from by rw [beq_eq_false_iff_ne]; omega,cond_false,if_neg hk];have hnz:=Af3 hk hr;obtain ⟨y,hy⟩:=Jg hkl;have hyM:=hm' _ (List.mem_of_getElem? hy);obtain ⟨g1,g2,_⟩:=Jz hyM (show c<w by omega);rw [Dt hy] at hnz;have hs:=Apk hlt hkl;rw [Dt hy] at hs;have hpm:=Agc hm' hlt hkl;have hsl:=Ql M r (Dq M c r);have e1:Jx (rdW u M) r (Dq M c r)=rdW u (Jx M r (Dq M c r)):=(Amk List.take_nil).symm;have e2:Jx (alW u M) r (Dq M c r)=alW u (Jx M r (Dq M c r)):=(Amk List.drop_nil).symm;rw [Aso (by omega) (by omega) (by omega),obs,e1,e2,Dt hy];generalize Jx M r (Dq M c r)=W at *;have hs1:(rdW u W)[r]? =some (y.take u):=by simp [rdW,hs]
    have hs2:(alW u W)[r]? =some (y.drop u):=by simp [alW,hs]
    have g4:(y.take u)[c]? =some (y.getD c 0):=by rw [(Jz (hyM.tk hu) (show c<u by omega)).2.2,Qi (by omega)]
    have q1:VecW p u (Dv p (Mv p (y.getD c 0)) (y.take u)):=Uu hb.1 (hyM.tk hu).1;have q2:VecW p (w - u) (Dv p (Mv p (y.getD c 0)) (y.drop u)):=Uu hb.1 hyM.dr.1;have l1:(rdW u W).length=W.length:=List.length_map ..;have l2:(alW u W).length=W.length:=List.length_map ..
    try dsimp only
    rw [hs1,obs,g4,obs,Ar1 hp (hyM.tk hu) hyM.dr (by omega) (by omega) hs1 hs2 (by omega),obs]
    try dsimp only
    rw [Apc hb (w:=u) (w':=w - u) (pr:=Dv p (Mv p (y.getD c 0)) (y.take u)) (pa:=Dv p (Mv p (y.getD c 0)) (y.drop u)) (fun z hz=>?_) (fun z hz=>?_) (by simp only [List.length_set]; omega) (by omega) (by omega) (by simp only [List.length_set]; omega) (Qb hs1) (Qb hs2) (by omega) rfl,obs]
    ·have e3:rdW u (Il p c r (prV p c y) W)=Il p c r (Dv p (Mv p (y.getD c 0)) (y.take u)) (rdW u W):=by
      unfold rdW prV;rw [Aon (by omega),Anc]
     have e4:alW u (Il p c r (prV p c y) W)=Tu p c r (Dv p (Mv p (y.getD c 0)) (y.drop u)) (rdW u W) (alW u W):=by
      unfold rdW alW prV;rw [Apd (by omega),Anb]
     try dsimp only
     rw [As (by omega),obs,Ame,Apq,e3,e4];exact As (by omega) _
    ·rcases List.mem_or_eq_of_mem_set hz with hz | rfl
     ·exact hpm.tk hu _ hz
     ·exact q1
    ·rcases List.mem_or_eq_of_mem_set hz with hz | rfl
     ·exact hpm.dr _ hz
     ·exact q2
  ·refine .inr ?_;rw [Zp hlt n (by omega)];generalize gjT p m c=s at *
   try dsimp only
   unfold Bv;rw [Bd (by omega),cond_true,obs,hlr,Ba (by omega),cond_false]
 ·subst hI
  try dsimp only
  unfold Bv;rw [Ba (by omega),cond_false,obs,cond_false]
theorem Ajg {n u:Nat} (hp:isF p=true) (hm:MatW p w m) (hn:n<=u) (hu:u<=w) (hw:w<=100000) (hl:m.length<=100000):Em p (rdW u m) (n:Int) (alW u m)=some (rdW u (gjT p m n).2,alW u (gjT p m n).2,(gjT p m n).1):=by
 unfold Em;rw [Aql hp hm hn hu hw hl,obs]
theorem Apj (hm:MatW p w m) (hw:w<=100000) (hl:m.length<=100000):Hh m=some m:=by
 unfold Hh;have h:=Vx (body:=fun s_:Nat×List (List Int)=>De m s_.1 s_.2) m id [] (F:=4611686018427387904) (by omega) m (fun i x h=>?_) ?_
 ·rw [As (by omega),show List.replicate 0 ([]:List Int)=[] from rfl,show A7 (fun s_:Nat×List (List Int)=>De m s_.1 s_.2) 4611686018427387904 (0,[])=some m by simpa using h]; rfl
 ·have:=Au h;have hx:=(hm x (List.mem_of_getElem? h)).1
  try dsimp only
  unfold De;rw [Bd (by omega),cond_true,h,obs,Aq1 _ (by omega),obs,As (by simp; omega),As (by omega)]; rfl
 ·try dsimp only
  unfold De;rw [Ba (by omega),cond_false,List.map_id,List.nil_append]
end
end
section
def Ab9 (p n:Int) (b:List (List Int)):Bool:=b.all fun x=>((x.length:Nat):Int)==n&&x.all fun a=>inR a 0 (p - 1)
theorem H9 {a lo hi:Int}:inR a lo hi=true↔lo<=a∧a<=hi:=by simp [inR]
theorem Afp {p:Int} {n:Nat} {b:List (List Int)} (h:Ab9 p n b=true):MatW p n b:=by
 intro x hx;have h1:=List.all_eq_true.1 h x hx;simp only [Bool.and_eq_true,beq_iff_eq,List.all_eq_true,H9] at h1;exact ⟨by omega,fun a ha=>by have:=h1.2 a ha; omega⟩
theorem Aqo (p n:Int) (b:List (List Int)) (hp:2<=p∧p<=97) (hb:b.length<=1048576) (hr:Hu 1048576 b):Hi p n b=some (Ab9 p n b):=by
 unfold Hi;rw [Fv b (fun x=>((x.length:Nat):Int)==n&&x.all fun a=>inR a 0 (p - 1)) (.next ()) (.out false) (by omega) (fun i x h=>?_) ?_,Jy]; rfl
 ·unfold Gx;rw [Ba (by omega),cond_false]
 ·have:=Au h;have hx:=hr x (List.mem_of_getElem? h);unfold Gx;rw [Bd (by omega),cond_true,h,obs];cases hc:((x.length:Nat):Int)==n
  ·rw [show (((x.length:Nat):Int) !=n)=true by simp only [bne,hc,Bool.not_false],cond_true,obs,cond_true,Bool.false_and]; rfl
  ·rw [show (((x.length:Nat):Int) !=n)=false by simp only [bne,hc,Bool.not_true],cond_false,Auo p x hp (by omega),obs,obs,Bool.true_and,As (by omega)];cases x.all fun a=>inR a 0 (p - 1) <;> rfl
theorem Agn (p n:Int) (b:List (List Int)) (hb:b.length<=1048576) (hr:Hu 1048576 b):Ed p b n=some (Ab9 p n b):=by
 unfold Ed;rw [Fv b (fun x=>((x.length:Nat):Int)==n&&x.all fun a=>inR a 0 (p - 1)) (.next ()) (.out false) (by omega) (fun i x h=>?_) ?_,Jy]; rfl
 ·unfold Ee;rw [Ba (by omega),cond_false]
 ·have:=Au h;have hx:=hr x (List.mem_of_getElem? h);unfold Ee;rw [Bd (by omega),cond_true,h,obs,Alj p x n (by omega),obs,As (by omega)];cases ((x.length:Nat):Int)==n&&x.all fun a=>inR a 0 (p - 1) <;> rfl
theorem Aqt (x y:List Int) (hx:x.length<=1048576):Hk x y=some (x==y):=by
 unfold Hk;by_cases h:x.length=y.length
 ·rw [show (((x.length:Nat):Int) !=((y.length:Nat):Int))=false by rw [h]; exact bne_self_eq_false _,cond_false]
  have key:A7 (fun s_:Nat=>Ev x y s_) 4611686018427387904 0=some (if x==y then .next () else .out false):=by
   refine Ft x.length (fun i s=>s=i∧x.take i=y.take i) (by omega) _ ⟨rfl,by simp⟩ ?_ ?_
   ·rintro i s hi ⟨hsi,ht⟩;subst hsi;unfold Ev;rw [Bd (by omega),cond_true,gEg hi,obs,gEg (show s<y.length by omega),obs];by_cases he:x[s]=y[s]'(by omega)
    ·refine .inl ⟨s+1,?_,rfl,?_⟩
     ·rw [show (x[s] !=y[s]'(by omega))=false by rw [he]; exact bne_self_eq_false _,cond_false,As (by omega)]
     ·rw [List.take_add_one,List.take_add_one,ht,gEg hi,gEg (show s<y.length by omega),he]
    ·refine .inr ?_;rw [bne_iff_ne.2 he,cond_true,show (x==y)=false from by rw [beq_eq_false_iff_ne]; intro e; subst e; exact he rfl]; rfl
   ·rintro s ⟨hs,ht⟩;subst hs;rw [List.take_length,h,List.take_length] at ht;subst ht;unfold Ev;rw [Ba (by omega),cond_false,beq_self_eq_true]; rfl
  rw [key];cases x==y <;> rfl
 ·rw [show (((x.length:Nat):Int) !=((y.length:Nat):Int))=true by rw [bne_iff_ne]; omega,cond_true,show (x==y)=false from by rw [beq_eq_false_iff_ne]; intro e; subst e; exact h rfl]
theorem Apr (x y:List (List Int)) (hx:x.length<=1048576) (hr:Hu 1048576 x):Hc x y=some (x==y):=by
 unfold Hc;by_cases h:x.length=y.length
 ·rw [show (((x.length:Nat):Int) !=((y.length:Nat):Int))=false by rw [h]; exact bne_self_eq_false _,cond_false]
  have key:A7 (fun s_:Nat=>E0 x y s_) 4611686018427387904 0=some (if x==y then .next () else .out false):=by
   refine Ft x.length (fun i s=>s=i∧x.take i=y.take i) (by omega) _ ⟨rfl,by simp⟩ ?_ ?_
   ·rintro i s hi ⟨hsi,ht⟩;subst hsi;unfold E0;rw [Bd (by omega),cond_true,gEg hi,obs,gEg (show s<y.length by omega),obs,Aqt _ _ (hr _ (List.getElem_mem hi)),obs];by_cases he:x[s]=y[s]'(by omega)
    ·refine .inl ⟨s+1,?_,rfl,?_⟩
     ·rw [show (x[s]==y[s]'(by omega))=true by rw [he]; exact beq_self_eq_true _,Bool.not_true,cond_false,As (by omega)]
     ·rw [List.take_add_one,List.take_add_one,ht,gEg hi,gEg (show s<y.length by omega),he]
    ·refine .inr ?_;rw [beq_eq_false_iff_ne.2 he,Bool.not_false,cond_true,show (x==y)=false from by rw [beq_eq_false_iff_ne]; intro e; subst e; exact he rfl]; rfl
   ·rintro s ⟨hs,ht⟩;subst hs;rw [List.take_length,h,List.take_length] at ht;subst ht;unfold E0;rw [Ba (by omega),cond_false,beq_self_eq_true]; rfl
  rw [key];cases x==y <;> rfl
 ·rw [show (((x.length:Nat):Int) !=((y.length:Nat):Int))=true by rw [bne_iff_ne]; omega,cond_true,show (x==y)=false from by rw [beq_eq_false_iff_ne]; intro e; subst e; exact h rfl]
theorem Ani {p:Int} {w:Nat} {m:List (List Int)} (hp:isF p=true) (hm:MatW p w m) (hw:w<=100000) (hl:m.length<=100000):Et p m (w:Int)=some (gj p w m):=by
 have hb:=K6 hp;obtain ⟨k1,h2,h3⟩:=Nu hb.1 hm w
 have e1:∀ {m:List (List Int)},MatW p w m->rdW w m=m:=fun {m} hm=>by
  unfold rdW;exact (List.map_congr_left (g:=id) (fun x hx=>List.take_of_length_le (Nat.le_of_eq (hm x hx).1))).trans (List.map_id _)
 have e2:alW w m=List.replicate m.length []:=by
  unfold alW;rw [List.eq_replicate_iff];refine ⟨List.length_map ..,fun b hb=>?_⟩;obtain ⟨x,hx,rfl⟩:=List.mem_map.1 hb;exact List.drop_of_length_le (Nat.le_of_eq (hm x hx).1)
 have e3:(alW w (gjT p m w).2).length=m.length:=by rw [← h3]; exact List.length_map ..
 have hR:=Ajg hp hm (Nat.le_refl w) (Nat.le_refl w) hw hl;rw [e1 hm,e2] at hR;unfold Et;rw [Apj hm hw hl,obs,As (by omega),hR,obs];rw [e1 k1];rw [As h3,As e3];exact As (by dsimp only; omega) _
theorem As3 (x:List Int):Kb x=some (x.take 48++(List.replicate 48 0).drop (x.take 48).length):=rfl
theorem Amo (x:List Int):(x.take 48++(List.replicate 48 (0:Int)).drop (x.take 48).length).length=48:=by simp; omega
theorem Are {x y:List Int} {n:Nat} (hx:x.length=n) (hy:y.length=n) (hn:n<=48) (h:x.take 48++(List.replicate 48 (0:Int)).drop (x.take 48).length=y.take 48++(List.replicate 48 (0:Int)).drop (y.take 48).length):x=y:=by
 rw [List.take_of_length_le (by omega),List.take_of_length_le (show y.length<=48 by omega)] at h;exact (List.append_inj h (by omega)).1
theorem Aif {p:Int} {n:Nat} (b:List (List Int)) (hp:isF p=true) (hn:n<=48) (hb:b.length<=1048576) (hr:Hu 1048576 b) :
  E6 p b (n:Int)=some (decide (((b.length:Nat):Int)<=n)&&(Ab9 p n b&&gj p n b==b)):=by
 unfold E6;by_cases h1:(n:Int)<b.length
 ·rw [Bd h1,cond_true,obs,cond_true,Ba (by omega),Bool.false_and]
 rw [Ba h1,cond_false,Bd (show ((b.length:Nat):Int)<=n by omega),Bool.true_and,Agn p n b hb hr,obs,obs];cases hv:Ab9 p n b
 ·rw [Bool.not_false,cond_true,Bool.false_and]
 have hm:=Afp hv;have hp2:=K6 hp;have hl:=(Nu hp2.1 hm n).2;have hgl:=Aot (n:=n) hp2.1 hm;have hgm:=Ao2 (n:=n) hp2.1 hm;rw [Bool.not_true,cond_false,Ani hp hm (by omega) (by omega),obs,obs,Bool.true_and]
 have key:A7 (fun s_:Nat=>C9 (gj p n b) b s_) 4611686018427387904 0=some (if gj p n b==b.take (gj p n b).length then .next () else .out false):=by
  generalize gj p n b=x at *;refine Ft x.length (fun i s=>s=i∧x.take i=b.take i) (by omega) _ ⟨rfl,by simp⟩ ?_ ?_
  ·rintro i s hi ⟨hsi,ht⟩;subst hsi;have hs:s<b.length:=by omega
   unfold C9;rw [Bd (by omega),cond_true,gEg hi,obs,As3,obs,gEg hs,obs,As3,obs,As ⟨Amo _,Amo _⟩];by_cases he:x[s]=b[s]
   ·refine .inl ⟨s+1,?_,rfl,?_⟩
    ·rw [he,beq_self_eq_true,Bool.not_true,cond_false,As (by omega)]
    ·rw [List.take_add_one,List.take_add_one,ht,gEg hi,gEg hs,he]
   ·refine .inr ?_;rw [beq_eq_false_iff_ne.2 (fun e=>he (Are (hgm _ (List.getElem_mem hi)).1 (hm _ (List.getElem_mem hs)).1 hn e)),Bool.not_false,cond_true,show (x==b.take x.length)=false from ?_]
    ·rfl
    ·rw [beq_eq_false_iff_ne];intro e;refine he ?_;have e2:=congrArg (fun l=>l[s]?) e;simp only [List.getElem?_take,if_pos hi,gEg hi,gEg hs,Option.some.injEq] at e2;exact e2
  ·rintro s ⟨hs,ht⟩;subst hs;rw [List.take_length] at ht;unfold C9;rw [Ba (by omega),cond_false,← ht,beq_self_eq_true]; rfl
 rw [key];by_cases he:gj p n b=b.take (gj p n b).length
 ·rw [show (gj p n b==b.take (gj p n b).length)=true from beq_iff_eq.2 he];show some _=_;congr 1;by_cases hll:(gj p n b).length=b.length
  ·rw [hll,List.take_length] at he;rw [he,beq_self_eq_true,beq_self_eq_true]
  ·rw [show (gj p n b==b)=false from by rw [beq_eq_false_iff_ne]; exact fun e=>hll (congrArg List.length e),beq_eq_false_iff_ne]; omega
 ·rw [beq_eq_false_iff_ne.2 he,show (gj p n b==b)=false from ?_]
  ·rfl
  ·rw [beq_eq_false_iff_ne];intro e;exact he (by rw [e,List.take_length])
def Aj0 (p l r:Int) (b:List (List Int)):Bool:=isF p&&(inR l 0 24&&(inR r 0 (24 - l)&&(decide (((b.length:Nat):Int)<=l+r)&&(Ab9 p (l+r) b&&gj p (l+r).toNat b==b))))
theorem Ap1 (p l r:Int) (b:List (List Int)) (hb:b.length<=1048576) (hr:Hu 1048576 b):He p l r b=some (Aj0 p l r b):=by
 unfold He Aj0;rw [L4,obs];cases h1:inR l 0 24
 ·rw [Bool.false_and,Bool.and_false]; rfl
 have h1':=H9.1 h1;rw [cond_true,B4 (n:=24 - l) (by omega) (by omega),L4,obs];cases h2:inR r 0 (24 - l)
 ·rw [Bool.false_and,Bool.and_false,Bool.and_false]; rfl
 have h2':=H9.1 h2;rw [cond_true,B4 (by omega) (by omega)];unfold Iw;rw [Abv,obs];cases hp:isF p
 ·rfl
 rw [cond_true,L4,obs,H9.2 (show 0<=l+r∧l+r<=24 by omega),cond_true];by_cases h3:((b.length:Nat):Int)<=l+r
 ·obtain ⟨n,hn⟩:=Int.eq_ofNat_of_zero_le (show 0<=l+r by omega);rw [Bd h3,cond_true,hn,Aqo p n b (K6 hp) hb hr,obs];cases hv:Ab9 p (n:Int) b
  ·rfl
  have hm:=Afp hv;have hgl:=Aot (n:=n) (K6 hp).1 hm;have hgm:=Ao2 (n:=n) (K6 hp).1 hm;have hl:=(Nu (K6 hp).1 hm n).2;rw [cond_true,Alx hp hm (Nat.le_refl n) (by omega) (by omega),obs,Apr _ _ (by omega) (fun x hx=>by rw [(hgm x hx).1]; omega),obs];rfl
 ·rw [Ba h3]; rfl
theorem Af9 (p l r:Int) (b:List (List Int)) (hb:b.length<=1048576) (hr:Hu 1048576 b):D8 p l r b=some (Aj0 p l r b):=by
 unfold D8 Aj0;rw [show Dr p=some (isF p) from rfl,obs];cases hp:isF p
 ·rfl
 rw [cond_true,Bool.true_and]
 have hf:I3 l r=some (inR l 0 24&&inR r 0 (24 - l)):=by
  unfold I3;rw [K7,obs];cases h1:inR l 0 24
  ·rfl
  have h1':=H9.1 h1;rw [cond_true,K7,obs,Bool.true_and];by_cases h2:0<=r∧r<=24
  ·rw [H9.2 h2,cond_true,obs,B4 (by omega) (by omega)];congr 1;rw [Bool.eq_iff_iff,H9];simp only [decide_eq_true_eq];omega
  ·rw [show inR r 0 24=false from by rw [Bool.eq_false_iff]; exact fun h=>h2 (H9.1 h),cond_false,obs];congr 1;symm;rw [Bool.eq_false_iff];intro h;have:=H9.1 h;exact h2 (by omega)
 rw [hf,obs];cases h1:inR l 0 24
 ·rfl
 have h1':=H9.1 h1;cases h2:inR r 0 (24 - l)
 ·rfl
 have h2':=H9.1 h2;obtain ⟨n,hn⟩:=Int.eq_ofNat_of_zero_le (show 0<=l+r by omega);rw [Bool.true_and,cond_true,B4 (by omega) (by omega),hn,Aif b hp (by omega) hb hr];rfl
theorem Agz (l r:Int) (b:List (List Int)) {v:Int} (hv:0<=v∧v<=1048576) (hn:b.length<=9223372036854775807) (hb:Hu 9223372036854775807 b):Ef l r b v=some (szW v b):=by
 unfold Ef;rw [An5 b hv hn hb,obs];by_cases h:szW v b<0
 ·rw [Bd h,cond_true];congr 1;unfold szW at h ⊢;split at h <;> rename_i h'
  ·rw [if_pos h']
  ·omega
 ·rw [Ba h,cond_false]
theorem Agd (l r:Int) (b:List (List Int)) (hn:b.length<=1048576) (hb:Hu 1048576 b):Eb l r b=some b:=by
 unfold Eb;rw [Am3 b hn hb,obs]
theorem Ah0 (l r:Int) (b:List (List Int)) (hn:b.length<=1048576) (hb:Hu 1048576 b):D9 l r b l r b=some true:=by
 unfold D9;rw [bne_self_eq_false,cond_false,bne_self_eq_false,cond_false,An4 b hn hb,obs,Bool.not_true,cond_false]
end
end Go.Proofs.YtodopnonpadpfaaDoor
