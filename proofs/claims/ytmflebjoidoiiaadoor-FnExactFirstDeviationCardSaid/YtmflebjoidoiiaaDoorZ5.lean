/- Lemmas on the program and on partial functions that stand in place of its code (part 5); no condition beyond those that each one states. -/
import Derived.Test.YtmflebjoidoiiaaDoorZ4
namespace Go.Proofs.YtmflebjoidoiiaaDoor
section
open Go.RowKit Go.Deep
set_option maxRecDepth 4000
def Ls:AC :=
 (.seq (rg [xo 1 (.i (.box 59 (tm 0))),xo 2 (qm (.cst .nils))])
 (.seq (.seq (rg [xo 3 (qf 0 (tm 1)),xo 4 (ql (tm 3))])
 (.block 0 (.seq (rg [xo 6 (qb .eql (tm 4) (ci 3)),xo 5 (qm (tm 6))])
 (.cond (tm 5)
  (.seq (rg [xo 7 (qf 1 (tm 1)),xo 8 (ql (tm 7)),xo 9 (qf 2 (tm 1)),xo 10 (ql (tm 9)),xo 11 (.mkS 3 .int [tm 8,tm 10]),xo 2 (qm (tm 11))])
  .ret)
  (.seq (.seq (rg [xo 13 (qb .eql (tm 4) (ci 4)),xo 12 (qm (tm 13))])
  (.cond (tm 12)
   .skip
   (rg [xo 14 (qb .eql (tm 4) (ci 5)),xo 12 (qm (tm 14))])))
  (.cond (tm 12)
   (.seq (rg [xo 15 (qf 1 (tm 1)),xo 16 (ql (tm 15)),xo 17 (.mkS 3 .int [tm 16]),xo 2 (qm (tm 17))])
   .ret)
   .skip))))))
 (.seq (rg [xo 2 (qm (.cst .nils))])
 .ret)))
def Sr:List Res:=[.tmp 2]
theorem Tf:Ar Tryd.prog Tryd.f71=some (Ls,Sr):=by kernel_rfl
def Dk (a0_0:Int) (a0_1:Int) (a0_2:Int) (a0_3:Int):Option (List Int) :=
 cond (a0_0==3)
 (some ([a0_1,a0_2]))
 (Option.bind (cond (a0_0==4)
   (some (a0_0==4))
   (some (a0_0==5))) fun l7_m12 =>
 cond l7_m12
  (some ([a0_1]))
  (some []))
def Rt (r:List Int):RV:=⟨false,[(false,[.new 3 .int r])]⟩
theorem Ff {a0_0:Int} {a0_1:Int} {a0_2:Int} {a0_3:Int} {r:List Int} (h:Dk a0_0 a0_1 a0_2 a0_3=some r):A4 Tryd.prog Tab 71 [.agg [ai a0_0,ai a0_1,ai a0_2,ai a0_3]] (Rt r):=by
 refine A0 (by kernel_rfl) Tryd.func71 Tf (n:=18) (by kernel_rfl) (by simp) (tl:=[(0,.agg [ai a0_0,ai a0_1,ai a0_2,ai a0_3])]) rfl ?_;unfold Ls;unfold Dk at h;refine Al ?_;refine Ab ?_;refine Al ?_;refine Ah ?_;refine Al ?_;rcases Ad h with ⟨q5,h⟩ | ⟨q5,h⟩
 ·refine Ag q5 ?_;refine Al ?_;refine Aj (br_ (tr_ ?_));obtain rfl:=zj h;exact Bk [.own (oi 11 11) .int 0 2] (At rfl (Er (by kernel_rfl) rfl) A5)
 refine Af q5 ?_;refine As h (fun (l7_m12:Bool) S_=>S_=⟨Am [(1,.box (oi 0 1) 0),(12,.bool l7_m12)],Ak (An [(oi 0 1,.cells 59 [ai a0_0,ai a0_1,ai a0_2,ai a0_3])]),2⟩) ?_ ?_
 ·intro v_ h;refine Al ?_;rcases Ad h with ⟨q9,h⟩ | ⟨q9,h⟩
  ·refine Ag q9 ?_;refine Ai (tn_ ?_);obtain rfl:=zj h;exact ⟨_,Ac [(oi 0 1,oi 1 1)],rfl⟩
  refine Af q9 ?_;refine Aa 11 ?_;refine rsB 2 ?_;refine Ao (tn_ ?_);obtain rfl:=zj h;exact ⟨_,Ac [(oi 0 1,oi 1 1)],rfl⟩
 rintro l7_m12 _ rfl h
 (try dsimp only at h);rcases Ad h with ⟨q10,h⟩ | ⟨q10,h⟩
 ·refine Ag q10 ?_;refine Al ?_;refine Aj (br_ (tr_ ?_));obtain rfl:=zj h;exact Bk [.own (oi 17 4) .int 0 1] (At rfl (Er (by kernel_rfl) rfl) A5)
 refine Af q10 ?_;refine Ai (bn_ (tn_ ?_));refine wr_ ?_;refine Al ?_;refine Aj ?_;obtain rfl:=zj h;exact Bk [.nils] (At rfl (Ad7 rfl) A5)
def Q4:AC :=
 (.seq (rg [xo 5 (.i (.box 59 (tm 1))),xo 8 (qm (cb false))])
 (.seq (.seq (rg [xo 9 (.i (.ld false 4 (tm 5))),xo 10 (qc 71 [tm 9] [[none,none,none,none]]),xo 11 (qm (tm 3)),xo 12 (qb .sub (tm 11) (ci 1)),xo 13 (qc 54 [tm 10,ci 0,tm 12] [[some .int],[],[]]),xo 14 (.i (.not (tm 13))),xo 15 (qm (tm 14)),⟨some 16,some (15,false),qf 0 (tm 5)⟩,⟨some 17,some (15,false),ql (tm 16)⟩,⟨some 18,some (15,false),qb .neq (tm 17) (ci 3)⟩,⟨some 19,some (15,false),qm (tm 18)⟩,⟨some 20,some (19,true),qf 2 (tm 5)⟩,⟨some 21,some (19,true),ql (tm 20)⟩,⟨some 22,some (19,true),qb .neq (tm 21) (ci 0)⟩,⟨some 23,some (15,false),.i (.pick (tm 19) (tm 22) (cb false))⟩,xo 24 (.i (.pick (tm 15) (cb true) (tm 23)))])
 (.cond (tm 24)
  (.seq (rg [xo 8 (qm (cb false))])
  .ret)
  .skip))
 (.seq (.seq (rg [xo 25 (qf 0 (tm 5)),xo 26 (ql (tm 25))])
 (.block 0 (.seq (rg [xo 28 (qb .eql (tm 26) (ci 1)),xo 27 (qm (tm 28))])
 (.cond (tm 27)
  (.seq (rg [xo 29 (qf 3 (tm 5)),xo 30 (ql (tm 29)),xo 31 (qm (tm 2)),xo 32 (qb .sub (tm 31) (ci 1)),xo 33 (qc 53 [tm 30,ci 0,tm 32] [[],[],[]]),xo 34 (qm (tm 33)),⟨some 35,some (34,true),qf 1 (tm 5)⟩,⟨some 36,some (34,true),ql (tm 35)⟩,⟨some 37,some (34,true),qb .eql (tm 36) (ci 0)⟩,xo 38 (.i (.pick (tm 34) (tm 37) (cb false))),xo 8 (qm (tm 38))])
  .ret)
  (.seq (rg [xo 40 (qb .eql (tm 26) (ci 2)),xo 39 (qm (tm 40))])
  (.cond (tm 39)
   (.seq (rg [xo 41 (qf 3 (tm 5)),xo 42 (ql (tm 41)),xo 43 (qb .eql (tm 42) (ci 0)),xo 44 (qm (tm 43)),⟨some 45,some (44,true),qf 1 (tm 5)⟩,⟨some 46,some (44,true),ql (tm 45)⟩,⟨some 47,some (44,true),qb .eql (tm 46) (ci 0)⟩,xo 48 (.i (.pick (tm 44) (tm 47) (cb false))),xo 8 (qm (tm 48))])
   .ret)
   (.seq (.seq (rg [xo 50 (qb .eql (tm 26) (ci 3)),xo 49 (qm (tm 50))])
   (.cond (tm 49)
    .skip
    (rg [xo 51 (qb .eql (tm 26) (ci 5)),xo 49 (qm (tm 51))])))
   (.cond (tm 49)
    (.seq (rg [xo 52 (qf 3 (tm 5)),xo 53 (ql (tm 52)),xo 54 (qb .eql (tm 53) (ci 0)),xo 8 (qm (tm 54))])
    .ret)
    (.seq (rg [xo 56 (qb .eql (tm 26) (ci 4)),xo 55 (qm (tm 56))])
    (.cond (tm 55)
     (.seq (rg [xo 57 (qf 3 (tm 5)),xo 58 (ql (tm 57)),xo 59 (qm (tm 0)),xo 60 (qb .sub (tm 59) (ci 1)),xo 61 (qc 53 [tm 58,ci 0,tm 60] [[],[],[]]),xo 8 (qm (tm 61))])
     .ret)
     .skip))))))))))
 (.seq (rg [xo 8 (qm (cb false))])
 .ret))))
def Aal:List Res:=[.tmp 8]
theorem Aag:Ar Tryd.prog Tryd.f55=some (Q4,Aal):=by kernel_rfl
def Hh (a0:Int) (a1_0:Int) (a1_1:Int) (a1_2:Int) (a1_3:Int) (a2:Int) (a3:Int):Option Bool :=
 Option.bind (Option.bind (Dk a1_0 a1_1 a1_2 a1_3) fun y4 =>
 Option.bind (Fi y4 0 (wI (a3 - 1))) fun y5 =>
 cond (!y5)
  (some true)
  (cond (a1_0 !=3)
   (some (a1_2 !=0))
   (some false))) fun l3_m24 =>
cond l3_m24
 (some false)
 (cond (a1_0==1)
  (Option.bind (Option.bind (Ch a1_3 0 (wI (a2 - 1))) fun y15 =>
   cond y15
    (some (a1_1==0))
    (some false)) fun l14_m8 =>
  some l14_m8)
  (cond (a1_0==2)
   (Option.bind (cond (a1_3==0)
     (some (a1_1==0))
     (some false)) fun l19_m8 =>
   some l19_m8)
   (Option.bind (cond (a1_0==3)
     (some (a1_0==3))
     (some (a1_0==5))) fun l21_m49 =>
   cond l21_m49
    (some (a1_3==0))
    (cond (a1_0==4)
     (Option.bind (Ch a1_3 0 (wI (a0 - 1))) fun y29 =>
     some y29)
     (some false)))))
def Zm (r:Bool):RV:=⟨false,[(false,[.sc (.bool r)])]⟩
set_option maxHeartbeats 1600000 in
theorem Xd {a0:Int} {a1_0:Int} {a1_1:Int} {a1_2:Int} {a1_3:Int} {a2:Int} {a3:Int} {r:Bool} (h:Hh a0 a1_0 a1_1 a1_2 a1_3 a2 a3=some r):A4 Tryd.prog Tab 55 [ai a0,.agg [ai a1_0,ai a1_1,ai a1_2,ai a1_3],ai a2,ai a3] (Zm r):=by
 refine A0 (by kernel_rfl) Tryd.func55 Aag (n:=62) (by kernel_rfl) (by simp) (tl:=[(0,ai a0),(1,.agg [ai a1_0,ai a1_1,ai a1_2,ai a1_3]),(2,ai a2),(3,ai a3)]) rfl ?_;unfold Q4;unfold Hh at h;refine Al ?_;refine Ab ?_;refine As h (fun (l3_m24:Bool) S_=>S_=⟨Am [(0,ai a0),(2,ai a2),(5,.box (oi 0 1) 0),(24,.bool l3_m24)],Ak (An [(oi 0 1,.cells 59 [ai a1_0,ai a1_1,ai a1_2,ai a1_3])]),2⟩) ?_ ?_
 ·intro v_ h;obtain ⟨y4,h4,h⟩:=Ae h;obtain ⟨y5,h5,h⟩:=Ae h;rcases Ad h with ⟨q6,h⟩ | ⟨q6,h⟩
  ·refine Aa 19 ?_;refine rzl (.agg [ai a1_0,ai a1_1,ai a1_2,ai a1_3]) ?_;refine zc (.own (oi 160 4) .int 0 y4.length) [(oi 160 4,some (.arr 3 .int y4))] [.agg [ai a1_0,ai a1_1,ai a1_2,ai a1_3]] (Ff h4) ?_;refine rz0 (ai a3) ?_;refine rz0 (ai (wI (a3 - 1))) ?_;refine Bh (.bool y5) [] [.own (oi 160 4) .int 0 y4.length,ai 0,ai (wI (a3 - 1))] _ (caps:=[]) (args0:=[.tree .int y4,ai 0,ai (wI (a3 - 1))]) trivial (Aw (B1 (e:=3) (by kernel_rfl) rfl) (Aw (by kernel_rfl) (Aw (by kernel_rfl) Cw))) (Ha h5) I3 ?_;refine rz0 (.bool (!y5)) ?_;refine rz0 (.bool (!y5)) ?_;refine zs q6 ?_;refine zs q6 ?_;refine zs q6 ?_;refine zs q6 ?_;refine rs0 (.tup []) (Acy (by kernel_rfl)) ?_;refine rs0 (.tup []) (Acy (by kernel_rfl)) ?_;refine rs0 (.tup []) (Acy (by kernel_rfl)) ?_;refine zs q6 ?_;refine rs0 (.bool true) (zT q6) ?_;refine Ao (tn_ ?_);obtain rfl:=zj h;exact ⟨_,Ac [(oi 0 1,oi 5 1)],rfl⟩
  rcases Ad h with ⟨q7,h⟩ | ⟨q7,h⟩
  ·refine Aa 19 ?_;refine rzl (.agg [ai a1_0,ai a1_1,ai a1_2,ai a1_3]) ?_;refine zc (.own (oi 160 4) .int 0 y4.length) [(oi 160 4,some (.arr 3 .int y4))] [.agg [ai a1_0,ai a1_1,ai a1_2,ai a1_3]] (Ff h4) ?_;refine rz0 (ai a3) ?_;refine rz0 (ai (wI (a3 - 1))) ?_;refine Bh (.bool y5) [] [.own (oi 160 4) .int 0 y4.length,ai 0,ai (wI (a3 - 1))] _ (caps:=[]) (args0:=[.tree .int y4,ai 0,ai (wI (a3 - 1))]) trivial (Aw (B1 (e:=3) (by kernel_rfl) rfl) (Aw (by kernel_rfl) (Aw (by kernel_rfl) Cw))) (Ha h5) I3 ?_;refine rz0 (.bool (!y5)) ?_;refine rz0 (.bool (!y5)) ?_;refine rs0 (.box (oi 5 1) 0) (zg q6) ?_;refine rsl (ai a1_0) (zg q6) ?_;refine rs0 (.bool (a1_0 !=3)) (zg q6) ?_;refine rs0 (.bool (a1_0 !=3)) (zg q6) ?_;refine rs0 (.box (oi 5 1) 2) (zg q7) ?_;refine rsl (ai a1_2) (zg q7) ?_;refine rs0 (.bool (a1_2 !=0)) (zg q7) ?_;refine rs0 (.bool (a1_2 !=0)) (Ait (by kernel_rfl) q6 (zT q7)) ?_;refine rs0 (.bool (a1_2 !=0)) (zF q6) ?_;refine Ao (tn_ ?_);obtain rfl:=zj h;exact ⟨_,Ac [(oi 0 1,oi 5 1)],rfl⟩
  refine Aa 19 ?_;refine rzl (.agg [ai a1_0,ai a1_1,ai a1_2,ai a1_3]) ?_;refine zc (.own (oi 160 4) .int 0 y4.length) [(oi 160 4,some (.arr 3 .int y4))] [.agg [ai a1_0,ai a1_1,ai a1_2,ai a1_3]] (Ff h4) ?_;refine rz0 (ai a3) ?_;refine rz0 (ai (wI (a3 - 1))) ?_;refine Bh (.bool y5) [] [.own (oi 160 4) .int 0 y4.length,ai 0,ai (wI (a3 - 1))] _ (caps:=[]) (args0:=[.tree .int y4,ai 0,ai (wI (a3 - 1))]) trivial (Aw (B1 (e:=3) (by kernel_rfl) rfl) (Aw (by kernel_rfl) (Aw (by kernel_rfl) Cw))) (Ha h5) I3 ?_;refine rz0 (.bool (!y5)) ?_;refine rz0 (.bool (!y5)) ?_;refine rs0 (.box (oi 5 1) 0) (zg q6) ?_;refine rsl (ai a1_0) (zg q6) ?_;refine rs0 (.bool (a1_0 !=3)) (zg q6) ?_;refine rs0 (.bool (a1_0 !=3)) (zg q6) ?_;refine zs q7 ?_;refine zs q7 ?_;refine zs q7 ?_;refine rs0 (.bool false) (Ait (by kernel_rfl) q6 (zF q7)) ?_;refine rs0 (.bool false) (zF q6) ?_;refine Ao (tn_ ?_);obtain rfl:=zj h;exact ⟨_,Ac [(oi 0 1,oi 5 1)],rfl⟩
 rintro l3_m24 _ rfl h
 (try dsimp only at h);rcases Ad h with ⟨q8,h⟩ | ⟨q8,h⟩
 ·refine Ag q8 ?_;refine Al ?_;refine Aj (tr_ ?_);obtain rfl:=zj h;exact Bk [.bool false] (At rfl zl A5)
 refine Af q8 ?_;refine Ai (tn_ ?_);refine wr_ ?_;refine Ab ?_;refine Al ?_;refine Ah ?_;refine Al ?_;rcases Ad h with ⟨q13,h⟩ | ⟨q13,h⟩
 ·refine Ag q13 ?_;refine As h (fun (l14_m8:Bool) S_=>S_=⟨Am [(8,.bool l14_m8)],Ak (An []),2⟩) ?_ ?_
  ·intro v_ h;obtain ⟨y15,h15,h⟩:=Ae h;rcases Ad h with ⟨q16,h⟩ | ⟨q16,h⟩
   ·refine Aa 17 ?_;refine rz0 (.box (oi 0 1) 3) ?_;refine rzl (ai a1_3) ?_;refine rz0 (ai a2) ?_;refine rz0 (ai (wI (a2 - 1))) ?_;refine zc (.bool y15) [] [ai a1_3,ai 0,ai (wI (a2 - 1))] (A8 h15) ?_;refine rz0 (.bool y15) ?_;refine rs0 (.box (oi 0 1) 1) (zg q16) ?_;refine rsl (ai a1_1) (zg q16) ?_;refine rs0 (.bool (a1_1==0)) (zg q16) ?_;refine rs0 (.bool (a1_1==0)) (zT q16) ?_;refine rsB 1 ?_;refine Ao (tn_ ?_);obtain rfl:=zj h;exact ⟨_,Ac [],rfl⟩
   refine Aa 17 ?_;refine rz0 (.box (oi 0 1) 3) ?_;refine rzl (ai a1_3) ?_;refine rz0 (ai a2) ?_;refine rz0 (ai (wI (a2 - 1))) ?_;refine zc (.bool y15) [] [ai a1_3,ai 0,ai (wI (a2 - 1))] (A8 h15) ?_;refine rz0 (.bool y15) ?_;refine zs q16 ?_;refine zs q16 ?_;refine zs q16 ?_;refine rs0 (.bool false) (zF q16) ?_;refine rsB 1 ?_;refine Ao (tn_ ?_);obtain rfl:=zj h;exact ⟨_,Ac [],rfl⟩
  rintro l14_m8 _ rfl h
  (try dsimp only at h);refine Aj (br_ (tr_ ?_));obtain rfl:=zj h;exact Bk [.bool l14_m8] (At rfl zl A5)
 refine Af q13 ?_;refine Al ?_;rcases Ad h with ⟨q18,h⟩ | ⟨q18,h⟩
 ·refine Ag q18 ?_;refine As h (fun (l19_m8:Bool) S_=>S_=⟨Am [(8,.bool l19_m8)],Ak (An []),2⟩) ?_ ?_
  ·intro v_ h;rcases Ad h with ⟨q20,h⟩ | ⟨q20,h⟩
   ·refine Aa 17 ?_;refine rz0 (.box (oi 0 1) 3) ?_;refine rzl (ai a1_3) ?_;refine rz0 (.bool (a1_3==0)) ?_;refine rz0 (.bool (a1_3==0)) ?_;refine rs0 (.box (oi 0 1) 1) (zg q20) ?_;refine rsl (ai a1_1) (zg q20) ?_;refine rs0 (.bool (a1_1==0)) (zg q20) ?_;refine rs0 (.bool (a1_1==0)) (zT q20) ?_;refine rsB 1 ?_;refine Ao (tn_ ?_);obtain rfl:=zj h;exact ⟨_,Ac [],rfl⟩
   refine Aa 17 ?_;refine rz0 (.box (oi 0 1) 3) ?_;refine rzl (ai a1_3) ?_;refine rz0 (.bool (a1_3==0)) ?_;refine rz0 (.bool (a1_3==0)) ?_;refine zs q20 ?_;refine zs q20 ?_;refine zs q20 ?_;refine rs0 (.bool false) (zF q20) ?_;refine rsB 1 ?_;refine Ao (tn_ ?_);obtain rfl:=zj h;exact ⟨_,Ac [],rfl⟩
  rintro l19_m8 _ rfl h
  (try dsimp only at h);refine Aj (br_ (tr_ ?_));obtain rfl:=zj h;exact Bk [.bool l19_m8] (At rfl zl A5)
 refine Af q18 ?_;refine As h (fun (l21_m49:Bool) S_=>S_=⟨Am [(0,ai a0),(5,.box (oi 0 1) 0),(26,ai a1_0),(49,.bool l21_m49)],Ak (An [(oi 0 1,.cells 59 [ai a1_0,ai a1_1,ai a1_2,ai a1_3])]),2⟩) ?_ ?_
 ·intro v_ h;refine Al ?_;rcases Ad h with ⟨q23,h⟩ | ⟨q23,h⟩
  ·refine Ag q23 ?_;refine Ai (tn_ ?_);obtain rfl:=zj h;exact ⟨_,Ac [],rfl⟩
  refine Af q23 ?_;refine Aa 12 ?_;refine rsB 2 ?_;refine Ao (tn_ ?_);obtain rfl:=zj h;exact ⟨_,Ac [],rfl⟩
 rintro l21_m49 _ rfl h
 (try dsimp only at h);rcases Ad h with ⟨q24,h⟩ | ⟨q24,h⟩
 ·refine Ag q24 ?_;refine Al ?_;refine Aj (br_ (tr_ ?_));obtain rfl:=zj h;exact Bk [.bool (a1_3==0)] (At rfl zl A5)
 refine Af q24 ?_;refine Al ?_;rcases Ad h with ⟨q27,h⟩ | ⟨q27,h⟩
 ·refine Ag q27 ?_;refine Ab ?_;obtain ⟨y29,h29,h⟩:=Ae h;refine Aa 10 ?_;refine rz0 (.box (oi 0 1) 3) ?_;refine rzl (ai a1_3) ?_;refine rz0 (ai a0) ?_;refine rz0 (ai (wI (a0 - 1))) ?_;refine zc (.bool y29) [] [ai a1_3,ai 0,ai (wI (a0 - 1))] (A8 h29) ?_;refine rsB 1 ?_;refine Ao (tn_ ?_);refine wr_ ?_;refine Aj (br_ (tr_ ?_));obtain rfl:=zj h;exact Bk [.bool y29] (At rfl zl A5)
 refine Af q27 ?_;refine Ai (bn_ (tn_ ?_));refine wr_ ?_;refine Al ?_;refine Aj ?_;obtain rfl:=zj h;exact Bk [.bool false] (At rfl zl A5)
def Ld:AC :=
 (.seq (rg [xo 1 (.i (.box 59 (tm 0))),xo 2 (qm (cb false))])
 (.seq (rg [xo 3 (qf 0 (tm 1)),xo 4 (ql (tm 3)),xo 5 (qb .eql (tm 4) (ci 3)),xo 6 (qm (tm 5)),⟨some 7,some (6,false),qf 0 (tm 1)⟩,⟨some 8,some (6,false),ql (tm 7)⟩,⟨some 9,some (6,false),qb .eql (tm 8) (ci 4)⟩,xo 10 (.i (.pick (tm 6) (cb true) (tm 9))),xo 2 (qm (tm 10))])
 .ret))
def Si:List Res:=[.tmp 2]
theorem Tg:Ar Tryd.prog Tryd.f56=some (Ld,Si):=by kernel_rfl
def Dj (a0_0:Int) (a0_1:Int) (a0_2:Int) (a0_3:Int):Option Bool :=
 Option.bind (cond (a0_0==3)
  (some true)
  (some (a0_0==4))) fun l2_m2 =>
some l2_m2
def Rg (r:Bool):RV:=⟨false,[(false,[.sc (.bool r)])]⟩
theorem Kk {a0_0:Int} {a0_1:Int} {a0_2:Int} {a0_3:Int} {r:Bool} (h:Dj a0_0 a0_1 a0_2 a0_3=some r):A4 Tryd.prog Tab 56 [.agg [ai a0_0,ai a0_1,ai a0_2,ai a0_3]] (Rg r):=by
 refine A0 (by kernel_rfl) Tryd.func56 Tg (n:=11) (by kernel_rfl) (by simp) (tl:=[(0,.agg [ai a0_0,ai a0_1,ai a0_2,ai a0_3])]) rfl ?_;unfold Ld;unfold Dj at h;refine Al ?_;refine As h (fun (l2_m2:Bool) S_=>S_=⟨Am [(2,.bool l2_m2)],Ak (An []),2⟩) ?_ ?_
 ·intro v_ h;rcases Ad h with ⟨q3,h⟩ | ⟨q3,h⟩
  ·refine Aa 12 ?_;refine rz0 (.box (oi 1 1) 0) ?_;refine rzl (ai a0_0) ?_;refine rz0 (.bool (a0_0==3)) ?_;refine rz0 (.bool (a0_0==3)) ?_;refine zs q3 ?_;refine zs q3 ?_;refine zs q3 ?_;refine rs0 (.bool true) (zT q3) ?_;refine rsB 1 ?_;refine Ao (tn_ ?_);obtain rfl:=zj h;exact ⟨_,Ac [],rfl⟩
  refine Aa 12 ?_;refine rz0 (.box (oi 1 1) 0) ?_;refine rzl (ai a0_0) ?_;refine rz0 (.bool (a0_0==3)) ?_;refine rz0 (.bool (a0_0==3)) ?_;refine rs0 (.box (oi 1 1) 0) (zg q3) ?_;refine rsl (ai a0_0) (zg q3) ?_;refine rs0 (.bool (a0_0==4)) (zg q3) ?_;refine rs0 (.bool (a0_0==4)) (zF q3) ?_;refine rsB 1 ?_;refine Ao (tn_ ?_);obtain rfl:=zj h;exact ⟨_,Ac [],rfl⟩
 rintro l2_m2 _ rfl h
 (try dsimp only at h);refine Aj ?_;obtain rfl:=zj h;exact Bk [.bool l2_m2] (At rfl zl A5)
def La:AC :=
 (.seq (rg [xo 52 (qb .lss (tm 51) (tm 50))])
 (.seq (.cond (tm 52)
  .skip
  (.exit 6))
 (.seq (.block 7 (.seq (rg [xo 53 (qx 1 (tm 49) (tm 51)),xo 54 (ql (tm 53)),xo 12 (qm (tm 54))])
 (rg [xo 55 (qm (tm 10)),xo 56 (qm (tm 55)),⟨some 57,some (56,true),qm (tm 4)⟩,⟨some 58,some (56,true),qm (tm 12)⟩,⟨some 59,some (56,true),qx 1 (tm 57) (tm 58)⟩,⟨some 60,some (56,true),ql (tm 59)⟩,xo 61 (.i (.pick (tm 56) (tm 60) (cb false))),xo 10 (qm (tm 61))])))
 (rg [xo 62 (qb .add (tm 51) (ci 1)),xo 51 (qm (tm 62))]))))
def Lq:AC :=
 (.seq (rg [xo 36 (qb .lss (tm 35) (tm 34))])
 (.seq (.cond (tm 36)
  .skip
  (.exit 4))
 (.seq (.block 5 (.seq (rg [xo 37 (qm (tm 35)),xo 38 (qx 4 (tm 33) (tm 35)),xo 39 (.i (.ld false 4 (tm 38))),xo 9 (.i (.alloc 59 [.int .i64 0,.int .i64 0,.int .i64 0,.int .i64 0])),xo 8 (qm (tm 37)),xn (.st false 4 (tm 9) (tm 39))])
 (.seq (.seq (rg [xo 40 (qm (tm 4)),xo 41 (qm (tm 8)),xo 42 (qx 1 (tm 40) (tm 41)),xo 43 (ql (tm 42)),xo 44 (qm (tm 43)),⟨some 45,some (44,false),qm (tm 7)⟩,⟨some 46,some (44,false),qb .geq (tm 45) (ci 0)⟩,xo 47 (.i (.pick (tm 44) (cb true) (tm 46)))])
 (.cond (tm 47)
  (.exit 5)
  .skip))
 (.seq (rg [xo 10 (qm (cb true))])
 (.seq (.seq (rg [xo 48 (.i (.ld false 4 (tm 9))),xo 49 (qc 71 [tm 48] [[none,none,none,none]]),xo 50 (.i (.len (tm 49))),xo 51 (qm (ci 0))])
 (.block 6 (.loop La)))
 (.seq (rg [xo 63 (qm (tm 10))])
 (.cond (tm 63)
  (rg [xo 64 (qm (tm 8)),xo 7 (qm (tm 64))])
  .skip)))))))
 (rg [xo 65 (qb .add (tm 35) (ci 1)),xo 35 (qm (tm 65))]))))
def Le:AC :=
 (.block 3 (.seq (rg [xo 7 (qm (ci (-1)))])
 (.seq (.seq (rg [xo 32 (qf 1 (tm 1)),xo 33 (ql (tm 32)),xo 34 (.i (.len (tm 33))),xo 35 (qm (ci 0))])
 (.block 4 (.loop Lq)))
 (.seq (.seq (rg [xo 66 (qm (tm 7)),xo 67 (qb .lss (tm 66) (ci 0))])
 (.cond (tm 67)
  (.seq (rg [xo 68 (qm (tm 3)),xo 2 (qm (tm 68))])
  .ret)
  .skip))
 (.seq (rg [xo 69 (qm (tm 4)),xo 70 (qm (tm 7)),xo 71 (qx 1 (tm 69) (tm 70)),xn (qs (tm 71) (cb true))])
 (rg [xo 72 (qm (tm 3)),xo 73 (qm (tm 7)),xo 74 (.mkS 3 .int [tm 73]),xo 75 (.append 3 .int 8 (tm 72) (tm 74)),xo 3 (qm (tm 75))]))))))
def Lk:AC :=
 (.seq (rg [xo 21 (qb .lss (tm 20) (tm 19))])
 (.seq (.cond (tm 21)
  .skip
  (.exit 0))
 (.seq (.block 1 (.seq (rg [xo 22 (qm (tm 20)),xo 23 (qx 4 (tm 18) (tm 20)),xo 24 (.i (.ld false 4 (tm 23))),xo 6 (.i (.alloc 59 [.int .i64 0,.int .i64 0,.int .i64 0,.int .i64 0])),xo 5 (qm (tm 22)),xn (.st false 4 (tm 6) (tm 24))])
 (rg [xo 25 (qm (tm 4)),xo 26 (qm (tm 5)),xo 27 (.i (.ld false 4 (tm 6))),xo 28 (qc 56 [tm 27] [[none,none,none,none]]),xo 29 (.i (.not (tm 28))),xo 30 (qx 1 (tm 25) (tm 26)),xn (qs (tm 30) (tm 29))])))
 (rg [xo 31 (qb .add (tm 20) (ci 1)),xo 20 (qm (tm 31))]))))
def Pf:AC :=
 (.seq (rg [xo 1 (.i (.box 31 (tm 0))),xo 2 (qm (.cst .nils))])
 (.seq (rg [xo 3 (qm (.cst .nils))])
 (.seq (rg [xo 13 (qf 1 (tm 1)),xo 14 (ql (tm 13)),xo 15 (.i (.len (tm 14))),xo 16 (.make 4 .bool 1 (tm 15) (tm 15)),xo 4 (qm (tm 16))])
 (.seq (.seq (rg [xo 17 (qf 1 (tm 1)),xo 18 (ql (tm 17)),xo 19 (.i (.len (tm 18))),xo 20 (qm (ci 0))])
 (.block 0 (.loop Lk)))
 (.block 2 (.loop Le))))))
def Xh:List Res:=[.tmp 2]
theorem Xz:Ar Tryd.prog Tryd.f57=some (Pf,Xh):=by kernel_rfl
def Eh (a0_1:List (Int×Int×Int×Int)) (l7_m20:Nat) (l7_m4:List Bool):Option (Ctl (Nat×List Bool) (List Bool)) :=
 cond (decide (((l7_m20:Nat):Int)<((a0_1.length:Nat):Int)))
 (Option.bind (a0_1[l7_m20]?) fun x13 =>
 Option.bind (Dj x13.1 x13.2.1 x13.2.2.1 x13.2.2.2) fun y14 =>
 Option.bind (l7_m4[l7_m20]?) fun x15 =>
 og (l7_m20+1<4611686018427387904) <|
 some (Ctl.next (l7_m20+1,l7_m4.set l7_m20 (!y14))))
 (some (Ctl.out l7_m4))
def D9 (y36:List Int) (l17_m4:List Bool) (l37_m10:Bool) (l37_m51:Nat):Option (Ctl (Bool×Nat) Bool) :=
 cond (decide (((l37_m51:Nat):Int)<((y36.length:Nat):Int)))
 (Option.bind (Option.bind (y36[l37_m51]?) fun x43 =>
  cond l37_m10
   (Option.bind (Gv l17_m4 x43) fun x45 =>
   some x45)
   (some false)) fun l41_m10 =>
 og (l37_m51+1<4611686018427387904) <|
 some (Ctl.next (l41_m10,l37_m51+1)))
 (some (Ctl.out l37_m10))
def Eb (a0_1:List (Int×Int×Int×Int)) (l17_m4:List Bool) (l21_m7:Int) (l21_m35:Nat):Option (Ctl (Int×Nat) Int) :=
 cond (decide (((l21_m35:Nat):Int)<((a0_1.length:Nat):Int)))
 (Option.bind (Option.bind (a0_1[l21_m35]?) fun x27 =>
  Option.bind (Option.bind (l17_m4[l21_m35]?) fun x30 =>
   cond x30
    (some true)
    (some (decide (0<=l21_m7)))) fun l29_m47 =>
  cond l29_m47
   (some l21_m7)
   (Option.bind (Option.bind (Dk x27.1 x27.2.1 x27.2.2.1 x27.2.2.2) fun y36 =>
    Ay (fun s_:Bool×Nat=>D9 y36 l17_m4 s_.1 s_.2) 4611686018427387904 (true,0)) fun l34_m10 =>
   cond l34_m10
    (some ((l21_m35:Nat):Int))
    (some l21_m7))) fun l25_m7 =>
 og (l21_m35+1<4611686018427387904) <|
 some (Ctl.next (l25_m7,l21_m35+1)))
 (some (Ctl.out l21_m7))
def Ec (a0_1:List (Int×Int×Int×Int)) (l17_m3:List Int) (l17_m4:List Bool):Option (Ctl (List Int×List Bool) (List Int)) :=
 Option.bind (Ay (fun s_:Int×Nat=>Eb a0_1 l17_m4 s_.1 s_.2) 4611686018427387904 (-1,0)) fun l19_m7 =>
cond (decide (l19_m7<0))
 (some (Ctl.out l17_m3))
 (Option.bind (Gv l17_m4 l19_m7) fun x55 =>
 og (l17_m3.length+1<=1073741824∧(l17_m3.length+1)*8<=140737488355328) <|
 some (Ctl.next (l17_m3++([l19_m7]),l17_m4.set l19_m7.toNat true)))
def Et (a0_0:Int) (a0_1:List (Int×Int×Int×Int)) (a0_2:List Int):Option (List Int) :=
 og (0<=((a0_1.length:Nat):Int)∧((a0_1.length:Nat):Int)<=((a0_1.length:Nat):Int)∧((a0_1.length:Nat):Int)<=1073741824∧(1:Int)*((a0_1.length:Nat):Int)<=140737488355328) <|
Option.bind (Ay (fun s_:Nat×List Bool=>Eh a0_1 s_.1 s_.2) 4611686018427387904 (0,List.replicate a0_1.length (false:Bool))) fun l5_m4 =>
Ay (fun s_:List Int×List Bool=>Ec a0_1 s_.1 s_.2) 4611686018427387904 ([],l5_m4)
def Vx (r:List Int):RV:=⟨false,[(false,[.new 3 .int r])]⟩
set_option maxHeartbeats 1600000 in
theorem Nx {a0_0:Int} {a0_1:List (Int×Int×Int×Int)} {a0_2:List Int} {r:List Int} (h:Et a0_0 a0_1 a0_2=some r):A4 Tryd.prog Tab 57 [.agg [ai a0_0,.tree T4 a0_1,.tree .int a0_2]] (Vx r):=by
 refine A0 (by kernel_rfl) Tryd.func57 Xz (n:=76) (by kernel_rfl) (by simp) (tl:=[(0,.agg [ai a0_0,.tree T4 a0_1,.tree .int a0_2])]) rfl ?_;unfold Pf;unfold Et at h;refine Al ?_;refine Al ?_;refine Ab ?_;obtain ⟨g4,h⟩:=Aq h;refine Aa 9 ?_;refine rz0 (.box (oi 1 1) 1) ?_;refine rzl (.tree T4 a0_1) ?_;refine rz0 (ai ((a0_1.length:Nat):Int)) ?_;refine rs1 (.own (oi 16 7) .bool 0 a0_1.length) (oi 16 7) (.arr 4 .bool (List.replicate a0_1.length (false:Bool))) (Lv (t:=.bool) (k:=.i64) (k':=.i64) (m:=((a0_1.length:Nat):Int)) (m':=((a0_1.length:Nat):Int)) (by kernel_rfl) (by kernel_rfl) g4 rfl) ?_;refine rsB 1 ?_;refine Ao (tn_ ?_);refine wr_ ?_;refine As h (fun (l5_m4:List Bool) S_=>S_=⟨Am [(1,.box (oi 0 1) 0),(3,.nils),(4,.own (oi 1 1) .bool 0 l5_m4.length)],Ak (An [(oi 0 1,.cells 31 [ai a0_0,.tree T4 a0_1,.tree .int a0_2]),(oi 1 1,.arr 4 .bool l5_m4)]),2⟩) ?_ ?_
 ·intro v_ h;refine Al ?_;refine Ah ?_;refine Ax h (fun t_ S_=>∃ (l7_m20:Nat),∃ (l7_m4:List Bool),t_=(l7_m20,l7_m4)∧S_=⟨Am [(1,.box (oi 0 1) 0),(3,.nils),(4,.own (oi 1 1) .bool 0 l7_m4.length),(18,.tree T4 a0_1),(19,ai ((a0_1.length:Nat):Int)),(20,ai ((l7_m20:Nat):Int))],Ak (An [(oi 0 1,.cells 31 [ai a0_0,.tree T4 a0_1,.tree .int a0_2]),(oi 1 1,.arr 4 .bool l7_m4)]),2⟩) ⟨_,(Bn 4 (.own (oi 16 7) .bool 0 a0_1.length) (.own (oi 16 7) .bool 0 ((List.replicate a0_1.length (false:Bool)).length)) (by kernel_rfl) (congrArg (fun z_=>((.own (oi 16 7) .bool 0 z_):AV)) (List.length_replicate.symm:a0_1.length=(List.replicate a0_1.length (false:Bool)).length))).trans (Ac [(oi 0 1,oi 1 1),(oi 1 1,oi 16 7)]),⟨0,List.replicate a0_1.length (false:Bool),rfl,rfl⟩⟩ ?_;rintro n_ _ _ c_ ⟨l7_m20,l7_m4,rfl,rfl⟩ h hn7
  (try dsimp only at h);unfold Eh at h;unfold Lk;refine Al ?_;refine Ab ?_;rcases Ad h with ⟨q10,h⟩ | ⟨q10,h⟩
  ·have q10_:=of_decide_eq_true q10;refine Ag q10 ?_;refine Ai (tn_ ?_);refine wr_ ?_;refine Ab ?_;refine Ah ?_;refine Ab ?_;obtain ⟨x13,e13,h⟩:=Ae h;refine Aa 9 ?_;refine rz0 (ai ((l7_m20:Nat):Int)) ?_;refine rs0 (.telt T4 x13 0) (zi (t:=T4) (xs:=a0_1) (k:=.i64) (m:=((l7_m20:Nat):Int)) (Ba _) e13) ?_;refine rsB 4 ?_;refine Ao (tn_ ?_);refine wr_ ?_;obtain ⟨y14,h14,h⟩:=Ae h;obtain ⟨x15,e15,h⟩:=Ae h;refine Aa 16 ?_;refine rz0 (.own (oi 1 1) .bool 0 l7_m4.length) ?_;refine rz0 (ai ((l7_m20:Nat):Int)) ?_;refine rzl (.agg [ai x13.1,ai x13.2.1,ai x13.2.2.1,ai x13.2.2.2]) ?_;refine zc (.bool y14) [] [.agg [ai x13.1,ai x13.2.1,ai x13.2.2.1,ai x13.2.2.2]] (Kk h14) ?_;refine rz0 (.bool (!y14)) ?_;refine rs0 (.elt (oi 1 1) l7_m20 0) (zo (t:=.bool) (o:=oi 1 1) (len:=l7_m4.length) (k:=.i64) (m:=((l7_m20:Nat):Int)) (Ba _) (Be e15)) ?_;refine Sk (oi 1 1) (oi 1 1) (.arr 4 .bool (l7_m4.set l7_m20 (!y14))) (Je (i:=oi 1 1) (j:=l7_m20) (k:=0) (e:=4) (t:=.bool) (xs:=l7_m4) (cs:=[.bool (!y14)]) (x1:= !y14) (by kernel_rfl) (by kernel_rfl) e15 (by kernel_rfl) (by kernel_rfl)) ?_;refine Ao (bn_ (tn_ ?_));refine wr_ ?_;obtain ⟨g16,h⟩:=Aq h;refine Aa 18 ?_;refine rs0 (ai ((l7_m20+1:Nat):Int)) (za g16) ?_;refine rsB 1 ?_;refine Ao (tn_ ?_);obtain rfl:=zj h;exact ⟨(l7_m20+1,l7_m4.set l7_m20 (!y14)),_,(Bn 4 (.own (oi 1 1) .bool 0 l7_m4.length) (.own (oi 1 1) .bool 0 ((l7_m4.set l7_m20 (!y14)).length)) (by kernel_rfl) (congrArg (fun z_=>((.own (oi 1 1) .bool 0 z_):AV)) (((rfl:l7_m4.length=l7_m4.length).trans List.length_set.symm):l7_m4.length=(l7_m4.set l7_m20 (!y14)).length))).trans (Ac []),⟨l7_m20+1,l7_m4.set l7_m20 (!y14),rfl,rfl⟩,hn7⟩
  have q10_:=of_decide_eq_false q10;refine Af q10 ?_;refine Av (te_ (te_ (be_ (tn_ ?_))));obtain rfl:=zj h;have h:=hn7
  (try dsimp only at h);obtain rfl:=zj h;exact ⟨_,Ac [],rfl⟩
 rintro l5_m4 _ rfl h
 (try dsimp only at h);refine Ah ?_;refine Ax h (fun t_ S_=>∃ (l17_m3:List Int),∃ (l17_m4:List Bool),t_=(l17_m3,l17_m4)∧S_=⟨Am [(1,.box (oi 0 1) 0),(3,.own (oi 1 1) .int 0 l17_m3.length),(4,.own (oi 2 1) .bool 0 l17_m4.length)],Ak (An [(oi 0 1,.cells 31 [ai a0_0,.tree T4 a0_1,.tree .int a0_2]),(oi 1 1,.arr 3 .int l17_m3),(oi 2 1,.arr 4 .bool l17_m4)]),2⟩) ⟨_,(P2 3 3 .int rfl (by kernel_rfl)).trans (Ac [(oi 1 1,oi 3 2),(oi 2 1,oi 1 1)]),⟨[],l5_m4,rfl,rfl⟩⟩ ?_;rintro n_ _ _ c_ ⟨l17_m3,l17_m4,rfl,rfl⟩ h hn17
 (try dsimp only at h);unfold Ec at h;unfold Le;refine Ah ?_;refine Al ?_;refine As h (fun (l19_m7:Int) S_=>S_=⟨Am [(1,.box (oi 0 1) 0),(3,.own (oi 1 1) .int 0 l17_m3.length),(4,.own (oi 2 1) .bool 0 l17_m4.length),(7,ai l19_m7)],Ak (An [(oi 0 1,.cells 31 [ai a0_0,.tree T4 a0_1,.tree .int a0_2]),(oi 1 1,.arr 3 .int l17_m3),(oi 2 1,.arr 4 .bool l17_m4)]),2⟩) ?_ ?_
 ·intro v_ h;refine Al ?_;refine Ah ?_;refine Ax h (fun t_ S_=>∃ (l21_m7:Int),∃ (l21_m35:Nat),t_=(l21_m7,l21_m35)∧S_=⟨Am [(1,.box (oi 0 1) 0),(3,.own (oi 1 1) .int 0 l17_m3.length),(4,.own (oi 2 1) .bool 0 l17_m4.length),(7,ai l21_m7),(33,.tree T4 a0_1),(34,ai ((a0_1.length:Nat):Int)),(35,ai ((l21_m35:Nat):Int))],Ak (An [(oi 0 1,.cells 31 [ai a0_0,.tree T4 a0_1,.tree .int a0_2]),(oi 1 1,.arr 3 .int l17_m3),(oi 2 1,.arr 4 .bool l17_m4)]),2⟩) ⟨_,Ac [],⟨-1,0,rfl,rfl⟩⟩ ?_;rintro n_ _ _ c_ ⟨l21_m7,l21_m35,rfl,rfl⟩ h hn21
  (try dsimp only at h);unfold Eb at h;unfold Lq;refine Al ?_;refine Ab ?_;rcases Ad h with ⟨q24,h⟩ | ⟨q24,h⟩
  ·have q24_:=of_decide_eq_true q24;refine Ag q24 ?_;refine Ai (tn_ ?_);refine wr_ ?_;refine As h (fun (l25_m7:Int) S_=>S_=⟨Am [(1,.box (oi 0 1) 0),(3,.own (oi 1 1) .int 0 l17_m3.length),(4,.own (oi 2 1) .bool 0 l17_m4.length),(7,ai l25_m7),(33,.tree T4 a0_1),(34,ai ((a0_1.length:Nat):Int)),(35,ai ((l21_m35:Nat):Int))],Ak (An [(oi 0 1,.cells 31 [ai a0_0,.tree T4 a0_1,.tree .int a0_2]),(oi 1 1,.arr 3 .int l17_m3),(oi 2 1,.arr 4 .bool l17_m4)]),2⟩) ?_ ?_
   ·intro v_ h;refine Ah ?_;refine Ab ?_;obtain ⟨x27,e27,h⟩:=Ae h;refine Aa 9 ?_;refine rz0 (ai ((l21_m35:Nat):Int)) ?_;refine rs0 (.telt T4 x27 0) (zi (t:=T4) (xs:=a0_1) (k:=.i64) (m:=((l21_m35:Nat):Int)) (Ba _) e27) ?_;refine rsB 4 ?_;refine Ao (tn_ ?_);refine wr_ ?_;refine Ab ?_;refine As h (fun (l29_m47:Bool) S_=>S_=⟨Am [(1,.box (oi 0 1) 0),(3,.own (oi 1 1) .int 0 l17_m3.length),(4,.own (oi 2 1) .bool 0 l17_m4.length),(7,ai l21_m7),(8,ai ((l21_m35:Nat):Int)),(9,.box (oi 3 1) 0),(33,.tree T4 a0_1),(34,ai ((a0_1.length:Nat):Int)),(35,ai ((l21_m35:Nat):Int)),(47,.bool l29_m47)],Ak (An [(oi 0 1,.cells 31 [ai a0_0,.tree T4 a0_1,.tree .int a0_2]),(oi 1 1,.arr 3 .int l17_m3),(oi 2 1,.arr 4 .bool l17_m4),(oi 3 1,.cells 59 [ai x27.1,ai x27.2.1,ai x27.2.2.1,ai x27.2.2.2])]),2⟩) ?_ ?_
    ·intro v_ h;obtain ⟨x30,e30,h⟩:=Ae h;rcases Ad h with ⟨q31,h⟩ | ⟨q31,h⟩
     ·refine Aa 17 ?_;refine rz0 (.own (oi 2 1) .bool 0 l17_m4.length) ?_;refine rz0 (ai ((l21_m35:Nat):Int)) ?_;refine rs0 (.elt (oi 2 1) l21_m35 0) (zo (t:=.bool) (o:=oi 2 1) (len:=l17_m4.length) (k:=.i64) (m:=((l21_m35:Nat):Int)) (Ba _) (Be e30)) ?_;refine rsl (.bool x30) (Hr (i:=oi 2 1) (j:=l21_m35) (k:=0) (e:=4) (t:=.bool) (xs:=l17_m4) (by kernel_rfl) (by kernel_rfl) e30 (by kernel_rfl)) ?_;refine rz0 (.bool x30) ?_;refine zs q31 ?_;refine zs q31 ?_;refine rs0 (.bool true) (zT q31) ?_;refine Ao (tn_ ?_);obtain rfl:=zj h;exact ⟨_,Ac [(oi 3 1,oi 9 6)],rfl⟩
     refine Aa 17 ?_;refine rz0 (.own (oi 2 1) .bool 0 l17_m4.length) ?_;refine rz0 (ai ((l21_m35:Nat):Int)) ?_;refine rs0 (.elt (oi 2 1) l21_m35 0) (zo (t:=.bool) (o:=oi 2 1) (len:=l17_m4.length) (k:=.i64) (m:=((l21_m35:Nat):Int)) (Ba _) (Be e30)) ?_;refine rsl (.bool x30) (Hr (i:=oi 2 1) (j:=l21_m35) (k:=0) (e:=4) (t:=.bool) (xs:=l17_m4) (by kernel_rfl) (by kernel_rfl) e30 (by kernel_rfl)) ?_;refine rz0 (.bool x30) ?_;refine rs0 (ai l21_m7) (zg q31) ?_;refine rs0 (.bool (decide (0<=l21_m7))) (zg q31) ?_;refine rs0 (.bool (decide (0<=l21_m7))) (zF q31) ?_;refine Ao (tn_ ?_);obtain rfl:=zj h;exact ⟨_,Ac [(oi 3 1,oi 9 6)],rfl⟩
    rintro l29_m47 _ rfl h
    (try dsimp only at h);rcases Ad h with ⟨q32,h⟩ | ⟨q32,h⟩
    ·refine Ag q32 ?_;refine Av (te_ (be_ (tn_ ?_)));obtain rfl:=zj h;exact ⟨_,Ac [],rfl⟩
    refine Af q32 ?_;refine Ai (tn_ ?_);refine wr_ ?_;refine Al ?_;refine As h (fun (l34_m10:Bool) S_=>S_=⟨Am [(1,.box (oi 0 1) 0),(3,.own (oi 1 1) .int 0 l17_m3.length),(4,.own (oi 2 1) .bool 0 l17_m4.length),(7,ai l21_m7),(8,ai ((l21_m35:Nat):Int)),(10,.bool l34_m10),(33,.tree T4 a0_1),(34,ai ((a0_1.length:Nat):Int)),(35,ai ((l21_m35:Nat):Int))],Ak (An [(oi 0 1,.cells 31 [ai a0_0,.tree T4 a0_1,.tree .int a0_2]),(oi 1 1,.arr 3 .int l17_m3),(oi 2 1,.arr 4 .bool l17_m4)]),2⟩) ?_ ?_
    ·intro v_ h;refine Ab ?_;obtain ⟨y36,h36,h⟩:=Ae h;refine Aa 7 ?_;refine rzl (.agg [ai x27.1,ai x27.2.1,ai x27.2.2.1,ai x27.2.2.2]) ?_;refine zc (.own (oi 784 4) .int 0 y36.length) [(oi 784 4,some (.arr 3 .int y36))] [.agg [ai x27.1,ai x27.2.1,ai x27.2.2.1,ai x27.2.2.2]] (Ff h36) ?_;refine rsB 2 ?_;refine Ao (tn_ ?_);refine wr_ ?_;refine Ah ?_;refine Ax h (fun t_ S_=>∃ (l37_m10:Bool),∃ (l37_m51:Nat),t_=(l37_m10,l37_m51)∧S_=⟨Am [(1,.box (oi 0 1) 0),(3,.own (oi 1 1) .int 0 l17_m3.length),(4,.own (oi 2 1) .bool 0 l17_m4.length),(7,ai l21_m7),(8,ai ((l21_m35:Nat):Int)),(10,.bool l37_m10),(33,.tree T4 a0_1),(34,ai ((a0_1.length:Nat):Int)),(35,ai ((l21_m35:Nat):Int)),(49,.own (oi 3 1) .int 0 y36.length),(50,ai ((y36.length:Nat):Int)),(51,ai ((l37_m51:Nat):Int))],Ak (An [(oi 0 1,.cells 31 [ai a0_0,.tree T4 a0_1,.tree .int a0_2]),(oi 1 1,.arr 3 .int l17_m3),(oi 2 1,.arr 4 .bool l17_m4),(oi 3 1,.arr 3 .int y36)]),2⟩) ⟨_,Ac [(oi 3 1,oi 784 4)],⟨true,0,rfl,rfl⟩⟩ ?_;rintro n_ _ _ c_ ⟨l37_m10,l37_m51,rfl,rfl⟩ h hn37
     (try dsimp only at h);unfold D9 at h;unfold La;refine Al ?_;refine Ab ?_;rcases Ad h with ⟨q40,h⟩ | ⟨q40,h⟩
     ·have q40_:=of_decide_eq_true q40;refine Ag q40 ?_;refine Ai (tn_ ?_);refine wr_ ?_;refine As h (fun (l41_m10:Bool) S_=>S_=⟨Am [(1,.box (oi 0 1) 0),(3,.own (oi 1 1) .int 0 l17_m3.length),(4,.own (oi 2 1) .bool 0 l17_m4.length),(7,ai l21_m7),(8,ai ((l21_m35:Nat):Int)),(10,.bool l41_m10),(33,.tree T4 a0_1),(34,ai ((a0_1.length:Nat):Int)),(35,ai ((l21_m35:Nat):Int)),(49,.own (oi 3 1) .int 0 y36.length),(50,ai ((y36.length:Nat):Int)),(51,ai ((l37_m51:Nat):Int))],Ak (An [(oi 0 1,.cells 31 [ai a0_0,.tree T4 a0_1,.tree .int a0_2]),(oi 1 1,.arr 3 .int l17_m3),(oi 2 1,.arr 4 .bool l17_m4),(oi 3 1,.arr 3 .int y36)]),2⟩) ?_ ?_
      ·intro v_ h;refine Ah ?_;refine Ab ?_;obtain ⟨x43,e43,h⟩:=Ae h;refine Aa 6 ?_;refine rs0 (.elt (oi 3 1) l37_m51 0) (zo (t:=.int) (o:=oi 3 1) (len:=y36.length) (k:=.i64) (m:=((l37_m51:Nat):Int)) (Ba _) (Be e43)) ?_;refine rsl (ai x43) (Hr (i:=oi 3 1) (j:=l37_m51) (k:=0) (e:=3) (t:=.int) (xs:=y36) (by kernel_rfl) (by kernel_rfl) e43 (by kernel_rfl)) ?_;refine rsB 1 ?_;refine Ao (tn_ ?_);refine wr_ ?_;rcases Ad h with ⟨q44,h⟩ | ⟨q44,h⟩
       ·obtain ⟨x45,f45,h⟩:=Ae h;obtain ⟨p45,b45,e45⟩:=Bo f45;refine Aa 14 ?_;refine rz0 (.bool l37_m10) ?_;refine rz0 (.bool l37_m10) ?_;refine rs0 (.own (oi 2 1) .bool 0 l17_m4.length) (zg q44) ?_;refine rs0 (ai x43) (zg q44) ?_;refine rs0 (.elt (oi 2 1) x43.toNat 0) (Ait (by kernel_rfl) q44 (zo (t:=.bool) (o:=oi 2 1) (len:=l17_m4.length) (k:=.i64) (m:=x43) p45 (Be e45))) ?_;refine rsl (.bool x45) (Ait (by kernel_rfl) q44 (Hr (i:=oi 2 1) (j:=x43.toNat) (k:=0) (e:=4) (t:=.bool) (xs:=l17_m4) (by kernel_rfl) (by kernel_rfl) e45 (by kernel_rfl))) ?_;refine rs0 (.bool x45) (zT q44) ?_;refine rsB 1 ?_;refine Ao (bn_ (tn_ ?_));obtain rfl:=zj h;exact ⟨_,Ac [],rfl⟩
       refine Aa 14 ?_;refine rz0 (.bool l37_m10) ?_;refine rz0 (.bool l37_m10) ?_;refine zs q44 ?_;refine zs q44 ?_;refine zs q44 ?_;refine zs q44 ?_;refine rs0 (.bool false) (zF q44) ?_;refine rsB 1 ?_;refine Ao (bn_ (tn_ ?_));obtain rfl:=zj h;exact ⟨_,Ac [],rfl⟩
      rintro l41_m10 _ rfl h
      (try dsimp only at h);obtain ⟨g46,h⟩:=Aq h;refine Aa 4 ?_;refine rs0 (ai ((l37_m51+1:Nat):Int)) (za g46) ?_;refine rsB 1 ?_;refine Ao (tn_ ?_);obtain rfl:=zj h;exact ⟨(l41_m10,l37_m51+1),_,Ac [],⟨l41_m10,l37_m51+1,rfl,rfl⟩,hn37⟩
     have q40_:=of_decide_eq_false q40;refine Af q40 ?_;refine Av (te_ (te_ (be_ (tn_ ?_))));obtain rfl:=zj h;have h:=hn37
     (try dsimp only at h);obtain rfl:=zj h;exact ⟨_,Ac [],rfl⟩
    rintro l34_m10 _ rfl h
    (try dsimp only at h);refine Al ?_;rcases Ad h with ⟨q48,h⟩ | ⟨q48,h⟩
    ·refine Ag q48 ?_;refine Aa 5 ?_;refine rsB 2 ?_;refine Ao (bn_ (tn_ ?_));obtain rfl:=zj h;exact ⟨_,Ac [],rfl⟩
    refine Af q48 ?_;refine Ai (bn_ (tn_ ?_));obtain rfl:=zj h;exact ⟨_,Ac [],rfl⟩
   rintro l25_m7 _ rfl h
   (try dsimp only at h);obtain ⟨g49,h⟩:=Aq h;refine Aa 4 ?_;refine rs0 (ai ((l21_m35+1:Nat):Int)) (za g49) ?_;refine rsB 1 ?_;refine Ao (tn_ ?_);obtain rfl:=zj h;exact ⟨(l25_m7,l21_m35+1),_,Ac [],⟨l25_m7,l21_m35+1,rfl,rfl⟩,hn21⟩
  have q24_:=of_decide_eq_false q24;refine Af q24 ?_;refine Av (te_ (te_ (be_ (tn_ ?_))));obtain rfl:=zj h;have h:=hn21
  (try dsimp only at h);obtain rfl:=zj h;exact ⟨_,Ac [],rfl⟩
 rintro l19_m7 _ rfl h
 (try dsimp only at h);refine Ab ?_;refine Al ?_;rcases Ad h with ⟨q52,h⟩ | ⟨q52,h⟩
 ·have q52_:=of_decide_eq_true q52;refine Ag q52 ?_;refine Al ?_;refine Aj (tr_ (br_ (tr_ (br_ ?_))));obtain rfl:=zj h;have h:=hn17
  (try dsimp only at h);obtain rfl:=zj h;exact Bk [.own (oi 1 1) .int 0 l17_m3.length] (At rfl (Er (by kernel_rfl) rfl) A5)
 have q52_:=of_decide_eq_false q52;refine Af q52 ?_;refine Ai (tn_ ?_);refine wr_ ?_;refine Ab ?_;obtain ⟨x55,f55,h⟩:=Ae h;obtain ⟨p55,b55,e55⟩:=Bo f55;refine Aa 8 ?_;refine rz0 (.own (oi 2 1) .bool 0 l17_m4.length) ?_;refine rz0 (ai l19_m7) ?_;refine rs0 (.elt (oi 2 1) l19_m7.toNat 0) (zo (t:=.bool) (o:=oi 2 1) (len:=l17_m4.length) (k:=.i64) (m:=l19_m7) p55 (Be e55)) ?_;refine Sk (oi 2 1) (oi 2 1) (.arr 4 .bool (l17_m4.set l19_m7.toNat true)) (Je (i:=oi 2 1) (j:=l19_m7.toNat) (k:=0) (e:=4) (t:=.bool) (xs:=l17_m4) (cs:=[.bool true]) (x1:=true) (by kernel_rfl) (by kernel_rfl) e55 (by kernel_rfl) (by kernel_rfl)) ?_;refine Ao (tn_ ?_);refine wr_ ?_;obtain ⟨g56,h⟩:=Aq h;refine Aa 13 ?_;refine rz0 (.own (oi 1 1) .int 0 l17_m3.length) ?_;refine rz0 (ai l19_m7) ?_;refine rs1 (.own (oi 74 10) .int 0 1) (oi 74 10) (.arr 3 .int ([l19_m7])) (by kernel_rfl) ?_;refine rs2 (.own (oi 1 11) .int 0 ((l17_m3++([l19_m7])).length)) (oi 1 1) (oi 1 11) (.arr 3 .int (l17_m3++([l19_m7]))) (L0 (t:=.int) (t':=.int) (xs:=l17_m3) (ys:=[l19_m7]) (zs:=l17_m3++([l19_m7])) (j:=oi 1 1) (len:=l17_m3.length) (c:=.own (oi 74 10) .int 0 1) (by kernel_rfl) (by kernel_rfl) rfl (by kernel_rfl) (Py (e:=3) (by kernel_rfl) rfl) rfl g56) ?_;refine rsB 1 ?_;refine Ao (bn_ (tn_ ?_));obtain rfl:=zj h;exact ⟨(l17_m3++([l19_m7]),l17_m4.set l19_m7.toNat true),_,(Bn 4 (.own (oi 2 1) .bool 0 l17_m4.length) (.own (oi 2 1) .bool 0 ((l17_m4.set l19_m7.toNat true).length)) (by kernel_rfl) (congrArg (fun z_=>((.own (oi 2 1) .bool 0 z_):AV)) (((rfl:l17_m4.length=l17_m4.length).trans List.length_set.symm):l17_m4.length=(l17_m4.set l19_m7.toNat true).length))).trans (Ac [(oi 1 1,oi 1 11)]),⟨l17_m3++([l19_m7]),l17_m4.set l19_m7.toNat true,rfl,rfl⟩,hn17⟩
def Mx:AC :=
 (.seq (rg [xo 44 (qb .lss (tm 43) (tm 42))])
 (.seq (.cond (tm 44)
  .skip
  (.exit 0))
 (.seq (.block 1 (.seq (rg [xo 45 (qx 4 (tm 41) (tm 43)),xo 46 (.i (.ld false 4 (tm 45))),xo 7 (.i (.alloc 59 [.int .i64 0,.int .i64 0,.int .i64 0,.int .i64 0])),xn (.st false 4 (tm 7) (tm 46))])
 (.seq (.seq (rg [xo 47 (qm (tm 0)),xo 48 (.i (.ld false 4 (tm 7))),xo 49 (qf 0 (tm 3)),xo 50 (ql (tm 49)),xo 51 (qf 1 (tm 3)),xo 52 (ql (tm 51)),xo 53 (.i (.len (tm 52))),xo 54 (qc 55 [tm 47,tm 48,tm 50,tm 53] [[],[none,none,none,none],[],[]]),xo 55 (.i (.not (tm 54)))])
 (.cond (tm 55)
  (.seq (rg [xo 4 (qm (cb false))])
  .ret)
  .skip))
 (.seq (rg [xo 56 (.i (.ld false 4 (tm 7))),xo 57 (qc 56 [tm 56] [[none,none,none,none]])])
 (.cond (tm 57)
  (rg [xo 58 (qm (tm 5)),xo 59 (qb .add (tm 58) (ci 1)),xo 5 (qm (tm 59))])
  .skip)))))
 (rg [xo 60 (qb .add (tm 43) (ci 1)),xo 43 (qm (tm 60))]))))
def Q9:AC :=
 (.seq (rg [xo 3 (.i (.box 31 (tm 1))),xo 4 (qm (cb false))])
 (.seq (.seq (rg [xo 8 (qm (tm 0)),xo 9 (qc 52 [tm 8] [[]]),xo 10 (.i (.not (tm 9))),xo 11 (qm (tm 10)),⟨some 12,some (11,false),qf 0 (tm 3)⟩,⟨some 13,some (11,false),ql (tm 12)⟩,⟨some 14,some (11,false),qc 53 [tm 13,ci 0,ci 8] [[],[],[]]⟩,⟨some 15,some (11,false),.i (.not (tm 14))⟩,xo 16 (.i (.pick (tm 11) (cb true) (tm 15))),xo 17 (qm (tm 16)),⟨some 18,some (17,false),qf 1 (tm 3)⟩,⟨some 19,some (17,false),ql (tm 18)⟩,⟨some 20,some (17,false),.i (.len (tm 19))⟩,⟨some 21,some (17,false),qc 53 [tm 20,ci 1,ci 40] [[],[],[]]⟩,⟨some 22,some (17,false),.i (.not (tm 21))⟩,xo 23 (.i (.pick (tm 17) (cb true) (tm 22))),xo 24 (qm (tm 23)),⟨some 25,some (24,false),qf 2 (tm 3)⟩,⟨some 26,some (24,false),ql (tm 25)⟩,⟨some 27,some (24,false),.i (.len (tm 26))⟩,⟨some 28,some (24,false),qb .gtr (tm 27) (ci 8)⟩,xo 29 (.i (.pick (tm 24) (cb true) (tm 28))),xo 30 (qm (tm 29)),⟨some 31,some (30,false),qf 2 (tm 3)⟩,⟨some 32,some (30,false),ql (tm 31)⟩,⟨some 33,some (30,false),qf 1 (tm 3)⟩,⟨some 34,some (30,false),ql (tm 33)⟩,⟨some 35,some (30,false),.i (.len (tm 34))⟩,⟨some 36,some (30,false),qb .sub (tm 35) (ci 1)⟩,⟨some 37,some (30,false),qc 54 [tm 32,ci 0,tm 36] [[some .int],[],[]]⟩,⟨some 38,some (30,false),.i (.not (tm 37))⟩,xo 39 (.i (.pick (tm 30) (cb true) (tm 38)))])
 (.cond (tm 39)
  (.seq (rg [xo 4 (qm (cb false))])
  .ret)
  .skip))
 (.seq (rg [xo 5 (qm (ci 0))])
 (.seq (.seq (rg [xo 40 (qf 1 (tm 3)),xo 41 (ql (tm 40)),xo 42 (.i (.len (tm 41))),xo 43 (qm (ci 0))])
 (.block 0 (.loop Mx)))
 (.seq (rg [xo 61 (.i (.ld false 3 (tm 3))),⟨some 62,none,qc 57 [tm 61] [[none,some T4,some .int]]⟩,xo 63 (.i (.len (tm 62))),xo 64 (qm (tm 5)),xo 65 (qb .eql (tm 63) (tm 64)),xo 4 (qm (tm 65))])
 .ret)))))
def Aaq:List Res:=[.tmp 4]
theorem Zx:Ar Tryd.prog Tryd.f37=some (Q9,Aaq):=by kernel_rfl
theorem Pb:A6 Tryd.prog 37=true:=by kernel_rfl
def Ev (a1_1:List (Int×Int×Int×Int)) (a0:Int) (a1_0:Int) (l17_m5:Nat) (l17_m43:Nat):Option (Ctl (Nat×Nat) (Ctl Nat Bool)) :=
 cond (decide (((l17_m43:Nat):Int)<((a1_1.length:Nat):Int)))
 (Ix (Option.bind (a1_1[l17_m43]?) fun x23 =>
  Option.bind (Hh a0 x23.1 x23.2.1 x23.2.2.1 x23.2.2.2 a1_0 ((a1_1.length:Nat):Int)) fun y26 =>
  cond (!y26)
   (some (Ctl.out (Ctl.out (Ctl.out false))))
   (Option.bind (Dj x23.1 x23.2.1 x23.2.2.1 x23.2.2.2) fun y30 =>
   cond y30
    (og (l17_m5+1<4611686018427387904) <|
    some (Ctl.next (l17_m5+1)))
    (some (Ctl.next l17_m5)))) fun l21_m5 =>
 og (l17_m43+1<4611686018427387904) <|
 some (Ctl.next (l21_m5,l17_m43+1)))
 (some (Ctl.out (Ctl.next l17_m5)))
def G4 (a0:Int) (a1_0:Int) (a1_1:List (Int×Int×Int×Int)) (a1_2:List Int):Option Bool :=
 Option.bind (Option.bind (Fs a0) fun y4 =>
 cond (!y4)
  (some true)
  (Option.bind (Ch a1_0 0 8) fun y6 =>
  cond (!y6)
   (some true)
   (Option.bind (Ch ((a1_1.length:Nat):Int) 1 40) fun y8 =>
   cond (!y8)
    (some true)
    (cond (decide (8<((a1_2.length:Nat):Int)))
     (some true)
     (Option.bind (Fi a1_2 0 (wI (((a1_1.length:Nat):Int) - 1))) fun y11 =>
     some (!y11)))))) fun l3_m39 =>
cond l3_m39
 (some false)
 (Ix (Ay (fun s_:Nat×Nat=>Ev a1_1 a0 a1_0 s_.1 s_.2) 4611686018427387904 (0,0)) fun l15_m5 =>
 Option.bind (Et a1_0 a1_1 a1_2) fun y35 =>
 some (((y35.length:Nat):Int)==((l15_m5:Nat):Int)))
def Yq (r:Bool):RV:=⟨false,[(false,[.sc (.bool r)])]⟩
set_option maxHeartbeats 1600000 in
theorem Oz {a0:Int} {a1_0:Int} {a1_1:List (Int×Int×Int×Int)} {a1_2:List Int} {r:Bool} (h:G4 a0 a1_0 a1_1 a1_2=some r):A4 Tryd.prog Tab 37 [ai a0,.agg [ai a1_0,.tree T4 a1_1,.tree .int a1_2]] (Yq r):=by
 refine A0 (by kernel_rfl) Tryd.func37 Zx (n:=66) (by kernel_rfl) (by simp) (tl:=[(0,ai a0),(1,.agg [ai a1_0,.tree T4 a1_1,.tree .int a1_2])]) rfl ?_;unfold Q9;unfold G4 at h;refine Al ?_;refine Ab ?_;refine As h (fun (l3_m39:Bool) S_=>S_=⟨Am [(0,ai a0),(3,.box (oi 0 1) 0),(39,.bool l3_m39)],Ak (An [(oi 0 1,.cells 31 [ai a1_0,.tree T4 a1_1,.tree .int a1_2])]),2⟩) ?_ ?_
 ·intro v_ h;obtain ⟨y4,h4,h⟩:=Ae h;rcases Ad h with ⟨q5,h⟩ | ⟨q5,h⟩
  ·refine Aa 35 ?_;refine rz0 (ai a0) ?_;refine zc (.bool y4) [] [ai a0] (Bt h4) ?_;refine rz0 (.bool (!y4)) ?_;refine rz0 (.bool (!y4)) ?_;refine zs q5 ?_;refine zs q5 ?_;refine zs q5 ?_;refine zs q5 ?_;refine rs0 (.bool true) (zT q5) ?_;refine rsB 23 ?_;refine Ao (tn_ ?_);obtain rfl:=zj h;exact ⟨_,Ac [(oi 0 1,oi 3 1)],rfl⟩
  obtain ⟨y6,h6,h⟩:=Ae h;rcases Ad h with ⟨q7,h⟩ | ⟨q7,h⟩
  ·refine Aa 35 ?_;refine rz0 (ai a0) ?_;refine zc (.bool y4) [] [ai a0] (Bt h4) ?_;refine rz0 (.bool (!y4)) ?_;refine rz0 (.bool (!y4)) ?_;refine rs0 (.box (oi 3 1) 0) (zg q5) ?_;refine rsl (ai a1_0) (zg q5) ?_;refine Bh (.bool y6) [] [ai a1_0,ai 0,ai 8] _ (caps:=[]) (args0:=[ai a1_0,ai 0,ai 8]) (Bj (by kernel_rfl) q5) (by kernel_rfl) (A8 h6) Bf ?_;refine rs0 (.bool (!y6)) (zg q5) ?_;refine rs0 (.bool (!y6)) (zF q5) ?_;refine rz0 (.bool (!y6)) ?_;refine zs q7 ?_;refine zs q7 ?_;refine zs q7 ?_;refine zs q7 ?_;refine zs q7 ?_;refine rs0 (.bool true) (zT q7) ?_;refine rsB 16 ?_;refine Ao (tn_ ?_);obtain rfl:=zj h;exact ⟨_,Ac [(oi 0 1,oi 3 1)],rfl⟩
  obtain ⟨y8,h8,h⟩:=Ae h;rcases Ad h with ⟨q9,h⟩ | ⟨q9,h⟩
  ·refine Aa 35 ?_;refine rz0 (ai a0) ?_;refine zc (.bool y4) [] [ai a0] (Bt h4) ?_;refine rz0 (.bool (!y4)) ?_;refine rz0 (.bool (!y4)) ?_;refine rs0 (.box (oi 3 1) 0) (zg q5) ?_;refine rsl (ai a1_0) (zg q5) ?_;refine Bh (.bool y6) [] [ai a1_0,ai 0,ai 8] _ (caps:=[]) (args0:=[ai a1_0,ai 0,ai 8]) (Bj (by kernel_rfl) q5) (by kernel_rfl) (A8 h6) Bf ?_;refine rs0 (.bool (!y6)) (zg q5) ?_;refine rs0 (.bool (!y6)) (zF q5) ?_;refine rz0 (.bool (!y6)) ?_;refine rs0 (.box (oi 3 1) 1) (zg q7) ?_;refine rsl (.tree T4 a1_1) (zg q7) ?_;refine rs0 (ai ((a1_1.length:Nat):Int)) (zg q7) ?_;refine Bh (.bool y8) [] [ai ((a1_1.length:Nat):Int),ai 1,ai 40] _ (caps:=[]) (args0:=[ai ((a1_1.length:Nat):Int),ai 1,ai 40]) (Bj (by kernel_rfl) q7) (by kernel_rfl) (A8 h8) Bf ?_;refine rs0 (.bool (!y8)) (zg q7) ?_;refine rs0 (.bool (!y8)) (zF q7) ?_;refine rz0 (.bool (!y8)) ?_;refine zs q9 ?_;refine zs q9 ?_;refine zs q9 ?_;refine zs q9 ?_;refine rs0 (.bool true) (zT q9) ?_;refine rsB 10 ?_;refine Ao (tn_ ?_);obtain rfl:=zj h;exact ⟨_,Ac [(oi 0 1,oi 3 1)],rfl⟩
  rcases Ad h with ⟨q10,h⟩ | ⟨q10,h⟩
  ·have q10_:=of_decide_eq_true q10;refine Aa 35 ?_;refine rz0 (ai a0) ?_;refine zc (.bool y4) [] [ai a0] (Bt h4) ?_;refine rz0 (.bool (!y4)) ?_;refine rz0 (.bool (!y4)) ?_;refine rs0 (.box (oi 3 1) 0) (zg q5) ?_;refine rsl (ai a1_0) (zg q5) ?_;refine Bh (.bool y6) [] [ai a1_0,ai 0,ai 8] _ (caps:=[]) (args0:=[ai a1_0,ai 0,ai 8]) (Bj (by kernel_rfl) q5) (by kernel_rfl) (A8 h6) Bf ?_;refine rs0 (.bool (!y6)) (zg q5) ?_;refine rs0 (.bool (!y6)) (zF q5) ?_;refine rz0 (.bool (!y6)) ?_;refine rs0 (.box (oi 3 1) 1) (zg q7) ?_;refine rsl (.tree T4 a1_1) (zg q7) ?_;refine rs0 (ai ((a1_1.length:Nat):Int)) (zg q7) ?_;refine Bh (.bool y8) [] [ai ((a1_1.length:Nat):Int),ai 1,ai 40] _ (caps:=[]) (args0:=[ai ((a1_1.length:Nat):Int),ai 1,ai 40]) (Bj (by kernel_rfl) q7) (by kernel_rfl) (A8 h8) Bf ?_;refine rs0 (.bool (!y8)) (zg q7) ?_;refine rs0 (.bool (!y8)) (zF q7) ?_;refine rz0 (.bool (!y8)) ?_;refine rs0 (.box (oi 3 1) 2) (zg q9) ?_;refine rsl (.tree .int a1_2) (zg q9) ?_;refine rs0 (ai ((a1_2.length:Nat):Int)) (zg q9) ?_;refine rs0 (.bool (decide (8<((a1_2.length:Nat):Int)))) (zg q9) ?_;refine rs0 (.bool (decide (8<((a1_2.length:Nat):Int)))) (zF q9) ?_;refine rz0 (.bool (decide (8<((a1_2.length:Nat):Int)))) ?_;refine zs q10 ?_;refine zs q10 ?_;refine zs q10 ?_;refine zs q10 ?_;refine zs q10 ?_;refine zs q10 ?_;refine zs q10 ?_;refine zs q10 ?_;refine rs0 (.bool true) (zT q10) ?_;refine Ao (tn_ ?_);obtain rfl:=zj h;exact ⟨_,Ac [(oi 0 1,oi 3 1)],rfl⟩
  have q10_:=of_decide_eq_false q10;obtain ⟨y11,h11,h⟩:=Ae h;refine Aa 35 ?_;refine rz0 (ai a0) ?_;refine zc (.bool y4) [] [ai a0] (Bt h4) ?_;refine rz0 (.bool (!y4)) ?_;refine rz0 (.bool (!y4)) ?_;refine rs0 (.box (oi 3 1) 0) (zg q5) ?_;refine rsl (ai a1_0) (zg q5) ?_;refine Bh (.bool y6) [] [ai a1_0,ai 0,ai 8] _ (caps:=[]) (args0:=[ai a1_0,ai 0,ai 8]) (Bj (by kernel_rfl) q5) (by kernel_rfl) (A8 h6) Bf ?_;refine rs0 (.bool (!y6)) (zg q5) ?_;refine rs0 (.bool (!y6)) (zF q5) ?_;refine rz0 (.bool (!y6)) ?_;refine rs0 (.box (oi 3 1) 1) (zg q7) ?_;refine rsl (.tree T4 a1_1) (zg q7) ?_;refine rs0 (ai ((a1_1.length:Nat):Int)) (zg q7) ?_;refine Bh (.bool y8) [] [ai ((a1_1.length:Nat):Int),ai 1,ai 40] _ (caps:=[]) (args0:=[ai ((a1_1.length:Nat):Int),ai 1,ai 40]) (Bj (by kernel_rfl) q7) (by kernel_rfl) (A8 h8) Bf ?_;refine rs0 (.bool (!y8)) (zg q7) ?_;refine rs0 (.bool (!y8)) (zF q7) ?_;refine rz0 (.bool (!y8)) ?_;refine rs0 (.box (oi 3 1) 2) (zg q9) ?_;refine rsl (.tree .int a1_2) (zg q9) ?_;refine rs0 (ai ((a1_2.length:Nat):Int)) (zg q9) ?_;refine rs0 (.bool (decide (8<((a1_2.length:Nat):Int)))) (zg q9) ?_;refine rs0 (.bool (decide (8<((a1_2.length:Nat):Int)))) (zF q9) ?_;refine rz0 (.bool (decide (8<((a1_2.length:Nat):Int)))) ?_;refine rs0 (.box (oi 3 1) 2) (zg q10) ?_;refine rsl (.tree .int a1_2) (zg q10) ?_;refine rs0 (.box (oi 3 1) 1) (zg q10) ?_;refine rsl (.tree T4 a1_1) (zg q10) ?_;refine rs0 (ai ((a1_1.length:Nat):Int)) (zg q10) ?_;refine rs0 (ai (wI (((a1_1.length:Nat):Int) - 1))) (zg q10) ?_;refine Bh (.bool y11) [] [.tree .int a1_2,ai 0,ai (wI (((a1_1.length:Nat):Int) - 1))] _ (caps:=[]) (args0:=[.tree .int a1_2,ai 0,ai (wI (((a1_1.length:Nat):Int) - 1))]) (Bj (by kernel_rfl) q10) (by kernel_rfl) (Ha h11) I3 ?_;refine rs0 (.bool (!y11)) (zg q10) ?_;refine rs0 (.bool (!y11)) (zF q10) ?_;refine Ao (tn_ ?_);obtain rfl:=zj h;exact ⟨_,Ac [(oi 0 1,oi 3 1)],rfl⟩
 rintro l3_m39 _ rfl h
 (try dsimp only at h);rcases Ad h with ⟨q12,h⟩ | ⟨q12,h⟩
 ·refine Ag q12 ?_;refine Al ?_;refine Aj (tr_ ?_);obtain rfl:=zj h;exact Bk [.bool false] (At rfl zl A5)
 refine Af q12 ?_;refine Ai (tn_ ?_);refine wr_ ?_;refine Al ?_;refine C0 h (fun (l15_m5:Nat) S_=>S_=⟨Am [(3,.box (oi 0 1) 0),(5,ai ((l15_m5:Nat):Int))],Ak (An [(oi 0 1,.cells 31 [ai a1_0,.tree T4 a1_1,.tree .int a1_2])]),2⟩) ?_ ?_
 ·intro v_ h hk15;refine Al ?_;refine Ah ?_;refine Ax h (fun t_ S_=>∃ (l17_m5:Nat),∃ (l17_m43:Nat),t_=(l17_m5,l17_m43)∧S_=⟨Am [(0,ai a0),(3,.box (oi 0 1) 0),(5,ai ((l17_m5:Nat):Int)),(41,.tree T4 a1_1),(42,ai ((a1_1.length:Nat):Int)),(43,ai ((l17_m43:Nat):Int))],Ak (An [(oi 0 1,.cells 31 [ai a1_0,.tree T4 a1_1,.tree .int a1_2])]),2⟩) ⟨_,Ac [],⟨0,0,rfl,rfl⟩⟩ ?_;rintro n_ _ _ c_ ⟨l17_m5,l17_m43,rfl,rfl⟩ h hn17
  (try dsimp only at h);unfold Ev at h;unfold Mx;refine Al ?_;refine Ab ?_;rcases Ad h with ⟨q20,h⟩ | ⟨q20,h⟩
  ·have q20_:=of_decide_eq_true q20;refine Ag q20 ?_;refine Ai (tn_ ?_);refine wr_ ?_;refine C0 h (fun (l21_m5:Nat) S_=>S_=⟨Am [(0,ai a0),(3,.box (oi 0 1) 0),(5,ai ((l21_m5:Nat):Int)),(41,.tree T4 a1_1),(42,ai ((a1_1.length:Nat):Int)),(43,ai ((l17_m43:Nat):Int))],Ak (An [(oi 0 1,.cells 31 [ai a1_0,.tree T4 a1_1,.tree .int a1_2])]),2⟩) ?_ ?_
   ·intro v_ h hk21;refine Ah ?_;refine Ab ?_;obtain ⟨x23,e23,h⟩:=Ae h;refine Aa 7 ?_;refine rs0 (.telt T4 x23 0) (zi (t:=T4) (xs:=a1_1) (k:=.i64) (m:=((l17_m43:Nat):Int)) (Ba _) e23) ?_;refine rsB 3 ?_;refine Ao (tn_ ?_);refine wr_ ?_;refine Ab ?_;refine Ab ?_;obtain ⟨y26,h26,h⟩:=Ae h;refine Aa 16 ?_;refine rz0 (ai a0) ?_;refine rzl (.agg [ai x23.1,ai x23.2.1,ai x23.2.2.1,ai x23.2.2.2]) ?_;refine rz0 (.box (oi 0 1) 0) ?_;refine rzl (ai a1_0) ?_;refine rz0 (.box (oi 0 1) 1) ?_;refine rzl (.tree T4 a1_1) ?_;refine rz0 (ai ((a1_1.length:Nat):Int)) ?_;refine zc (.bool y26) [] [ai a0,.agg [ai x23.1,ai x23.2.1,ai x23.2.2.1,ai x23.2.2.2],ai a1_0,ai ((a1_1.length:Nat):Int)] (Xd h26) ?_;refine rsB 1 ?_;refine Ao (tn_ ?_);refine wr_ ?_;rcases Ad h with ⟨q27,h⟩ | ⟨q27,h⟩
    ·refine Ag q27 ?_;refine Al ?_;refine Aj (tr_ (br_ (tr_ (tr_ (br_ (tr_ ?_))))));obtain rfl:=zj h;have h:=hk21
     (try dsimp only at h);obtain rfl:=zj h;have h:=hn17
     (try dsimp only at h);obtain rfl:=zj h;have h:=hk15
     (try dsimp only at h);obtain rfl:=zj h;exact Bk [.bool false] (At rfl zl A5)
    refine Af q27 ?_;refine Ai (tn_ ?_);refine wr_ ?_;refine Ab ?_;obtain ⟨y30,h30,h⟩:=Ae h;refine Aa 18 ?_;refine rzl (.agg [ai x23.1,ai x23.2.1,ai x23.2.2.1,ai x23.2.2.2]) ?_;refine zc (.bool y30) [] [.agg [ai x23.1,ai x23.2.1,ai x23.2.2.1,ai x23.2.2.2]] (Kk h30) ?_;refine Ao (tn_ ?_);refine wr_ ?_;rcases Ad h with ⟨q31,h⟩ | ⟨q31,h⟩
    ·refine Ag q31 ?_;obtain ⟨g32,h⟩:=Aq h;refine Aa 21 ?_;refine rz0 (ai ((l17_m5:Nat):Int)) ?_;refine rs0 (ai ((l17_m5+1:Nat):Int)) (za g32) ?_;refine rsB 1 ?_;refine Ao (bn_ (tn_ ?_));obtain rfl:=zj h;exact ⟨l17_m5+1,_,rfl,Ac [],rfl⟩
    refine Af q31 ?_;refine Ai (bn_ (tn_ ?_));obtain rfl:=zj h;exact ⟨l17_m5,_,rfl,Ac [],rfl⟩
   rintro l21_m5 _ rfl h
   (try dsimp only at h);obtain ⟨g33,h⟩:=Aq h;refine Aa 4 ?_;refine rs0 (ai ((l17_m43+1:Nat):Int)) (za g33) ?_;refine rsB 1 ?_;refine Ao (tn_ ?_);obtain rfl:=zj h;exact ⟨(l21_m5,l17_m43+1),_,Ac [],⟨l21_m5,l17_m43+1,rfl,rfl⟩,hn17⟩
  have q20_:=of_decide_eq_false q20;refine Af q20 ?_;refine Av (te_ (te_ (be_ (tn_ ?_))));obtain rfl:=zj h;have h:=hn17
  (try dsimp only at h);obtain rfl:=zj h;exact ⟨l17_m5,_,rfl,Ac [],rfl⟩
 rintro l15_m5 _ rfl h
 (try dsimp only at h);refine Ab ?_;obtain ⟨y35,h35,h⟩:=Ae h;refine Aa 8 ?_;refine rzl (.agg [ai a1_0,.tree T4 a1_1,.tree .int a1_2]) ?_;refine zc (.own (oi 992 3) .int 0 y35.length) [(oi 992 3,some (.arr 3 .int y35))] [.agg [ai a1_0,.tree T4 a1_1,.tree .int a1_2]] (Nx h35) ?_;refine rsB 4 ?_;refine Ao (tn_ ?_);refine wr_ ?_;refine Aj ?_;obtain rfl:=zj h;exact Bk [.bool (((y35.length:Nat):Int)==((l15_m5:Nat):Int))] (At rfl zl A5)
def I9:AC :=
 (.seq (rg [xo 1 (.i (.box 59 (tm 0))),xo 2 (qm (.cst .nils))])
 (.seq (.seq (rg [xo 3 (qf 0 (tm 1)),xo 4 (ql (tm 3))])
 (.block 0 (.seq (rg [xo 6 (qb .eql (tm 4) (ci 3)),xo 5 (qm (tm 6))])
 (.cond (tm 5)
  (.seq (rg [xo 7 (qf 1 (tm 1)),xo 8 (ql (tm 7)),xo 9 (qf 2 (tm 1)),xo 10 (ql (tm 9)),xo 11 (.mkS 3 .int [tm 8,tm 10]),xo 2 (qm (tm 11))])
  .ret)
  (.seq (.seq (rg [xo 13 (qb .eql (tm 4) (ci 4)),xo 12 (qm (tm 13))])
  (.cond (tm 12)
   .skip
   (rg [xo 14 (qb .eql (tm 4) (ci 5)),xo 12 (qm (tm 14))])))
  (.cond (tm 12)
   (.seq (rg [xo 15 (qf 1 (tm 1)),xo 16 (ql (tm 15)),xo 17 (.mkS 3 .int [tm 16]),xo 2 (qm (tm 17))])
   .ret)
   .skip))))))
 (.seq (rg [xo 2 (qm (.cst .nils))])
 .ret)))
def O2:List Res:=[.tmp 2]
theorem Pe:Ar Tryd.prog Tryd.f76=some (I9,O2):=by kernel_rfl
theorem Of:A6 Tryd.prog 76=true:=by kernel_rfl
def C9 (a0_0:Int) (a0_1:Int) (a0_2:Int) (a0_3:Int):Option (List Int) :=
 cond (a0_0==3)
 (some ([a0_1,a0_2]))
 (Option.bind (cond (a0_0==4)
   (some (a0_0==4))
   (some (a0_0==5))) fun l7_m12 =>
 cond l7_m12
  (some ([a0_1]))
  (some []))
def Oi (r:List Int):RV:=⟨false,[(false,[.new 3 .int r])]⟩
theorem Im {a0_0:Int} {a0_1:Int} {a0_2:Int} {a0_3:Int} {r:List Int} (h:C9 a0_0 a0_1 a0_2 a0_3=some r):A4 Tryd.prog Tab 76 [.agg [ai a0_0,ai a0_1,ai a0_2,ai a0_3]] (Oi r):=by
 refine A0 (by kernel_rfl) Tryd.func76 Pe (n:=18) (by kernel_rfl) (by simp) (tl:=[(0,.agg [ai a0_0,ai a0_1,ai a0_2,ai a0_3])]) rfl ?_;unfold I9;unfold C9 at h;refine Al ?_;refine Ab ?_;refine Al ?_;refine Ah ?_;refine Al ?_;rcases Ad h with ⟨q5,h⟩ | ⟨q5,h⟩
 ·refine Ag q5 ?_;refine Al ?_;refine Aj (br_ (tr_ ?_));obtain rfl:=zj h;exact Bk [.own (oi 11 11) .int 0 2] (At rfl (Er (by kernel_rfl) rfl) A5)
 refine Af q5 ?_;refine As h (fun (l7_m12:Bool) S_=>S_=⟨Am [(1,.box (oi 0 1) 0),(12,.bool l7_m12)],Ak (An [(oi 0 1,.cells 59 [ai a0_0,ai a0_1,ai a0_2,ai a0_3])]),2⟩) ?_ ?_
 ·intro v_ h;refine Al ?_;rcases Ad h with ⟨q9,h⟩ | ⟨q9,h⟩
  ·refine Ag q9 ?_;refine Ai (tn_ ?_);obtain rfl:=zj h;exact ⟨_,Ac [(oi 0 1,oi 1 1)],rfl⟩
  refine Af q9 ?_;refine Aa 11 ?_;refine rsB 2 ?_;refine Ao (tn_ ?_);obtain rfl:=zj h;exact ⟨_,Ac [(oi 0 1,oi 1 1)],rfl⟩
 rintro l7_m12 _ rfl h
 (try dsimp only at h);rcases Ad h with ⟨q10,h⟩ | ⟨q10,h⟩
 ·refine Ag q10 ?_;refine Al ?_;refine Aj (br_ (tr_ ?_));obtain rfl:=zj h;exact Bk [.own (oi 17 4) .int 0 1] (At rfl (Er (by kernel_rfl) rfl) A5)
 refine Af q10 ?_;refine Ai (bn_ (tn_ ?_));refine wr_ ?_;refine Al ?_;refine Aj ?_;obtain rfl:=zj h;exact Bk [.nils] (At rfl (Ad7 rfl) A5)
def It:AC :=
 (.seq (rg [xo 3 (.i (.box 31 (tm 0))),xo 5 (.i (.box 59 (tm 2))),xo 6 (qm (cb false))])
 (.seq (.seq (.region [xo 7 (.i (.ld false 4 (tm 5))),xo 8 (qc 76 [tm 7] [[none,none,none,none]]),xo 9 (qf 1 (tm 3)),xo 10 (ql (tm 9)),xo 11 (.i (.len (tm 10))),xo 12 (qc 63 [tm 8,tm 11] [[some .int],[]]),xo 13 (.i (.not (tm 12)))] true [(1,3)])
 (.cond (tm 13)
  (.seq (rg [xo 6 (qm (cb false))])
  .ret)
  .skip))
 (.seq (.seq (rg [xo 14 (qf 0 (tm 5)),xo 15 (ql (tm 14))])
 (.block 0 (.seq (rg [xo 17 (qb .eql (tm 15) (ci 1)),xo 16 (qm (tm 17))])
 (.cond (tm 16)
  (.seq (rg [xo 18 (qf 1 (tm 5)),xo 19 (ql (tm 18)),xo 20 (qb .eql (tm 19) (ci 0)),xo 21 (qm (tm 20)),⟨some 22,some (21,true),qf 2 (tm 5)⟩,⟨some 23,some (21,true),ql (tm 22)⟩,⟨some 24,some (21,true),qb .eql (tm 23) (ci 0)⟩,xo 25 (.i (.pick (tm 21) (tm 24) (cb false))),xo 26 (qm (tm 25)),⟨some 27,some (26,true),qf 3 (tm 5)⟩,⟨some 28,some (26,true),ql (tm 27)⟩,⟨some 29,some (26,true),qf 0 (tm 3)⟩,⟨some 30,some (26,true),ql (tm 29)⟩,⟨some 31,some (26,true),qb .sub (tm 30) (ci 1)⟩,⟨some 32,some (26,true),qc 62 [tm 28,ci 0,tm 31] [[],[],[]]⟩,xo 33 (.i (.pick (tm 26) (tm 32) (cb false))),xo 6 (qm (tm 33))])
  .ret)
  (.seq (rg [xo 35 (qb .eql (tm 15) (ci 2)),xo 34 (qm (tm 35))])
  (.cond (tm 34)
   (.seq (rg [xo 36 (.i (.ld false 4 (tm 5))),xo 37 (.build [.int .i64 0,.int .i64 0,.int .i64 0,.int .i64 0] [(0,1,ci 2)]),xo 38 (.i (.cmp false 7 (tm 36) (tm 37))),xo 6 (qm (tm 38))])
   .ret)
   (.seq (rg [xo 40 (qb .eql (tm 15) (ci 3)),xo 39 (qm (tm 40))])
   (.cond (tm 39)
    (.seq (rg [xo 41 (qf 3 (tm 5)),xo 42 (ql (tm 41)),xo 43 (qb .eql (tm 42) (ci 0)),xo 6 (qm (tm 43))])
    .ret)
    (.seq (rg [xo 45 (qb .eql (tm 15) (ci 4)),xo 44 (qm (tm 45))])
    (.cond (tm 44)
     (.seq (rg [xo 46 (qf 2 (tm 5)),xo 47 (ql (tm 46)),xo 48 (qb .eql (tm 47) (ci 0)),xo 49 (qm (tm 48)),⟨some 50,some (49,true),qm (tm 1)⟩,⟨some 51,some (49,true),qf 3 (tm 5)⟩,⟨some 52,some (49,true),ql (tm 51)⟩,⟨some 53,some (49,true),qc 77 [tm 50,tm 52] [[],[]]⟩,xo 54 (.i (.pick (tm 49) (tm 53) (cb false))),xo 6 (qm (tm 54))])
     .ret)
     (.seq (rg [xo 56 (qb .eql (tm 15) (ci 5)),xo 55 (qm (tm 56))])
     (.cond (tm 55)
      (.seq (rg [xo 57 (qf 2 (tm 5)),xo 58 (ql (tm 57)),xo 59 (qb .eql (tm 58) (ci 0)),xo 60 (qm (tm 59)),⟨some 61,some (60,true),qf 3 (tm 5)⟩,⟨some 62,some (60,true),ql (tm 61)⟩,⟨some 63,some (60,true),qb .eql (tm 62) (ci 0)⟩,xo 64 (.i (.pick (tm 60) (tm 63) (cb false))),xo 6 (qm (tm 64))])
      .ret)
      .skip))))))))))))
 (.seq (rg [xo 6 (qm (cb false))])
 .ret))))
def Oq:List Res:=[.tmp 6]
theorem Oa:Ar Tryd.prog Tryd.f64=some (It,Oq):=by kernel_rfl
def Cx (a0_0:Int) (a0_1:List (Int×Int×Int×Int)) (a0_2:List Int) (a1:Int) (a2_0:Int) (a2_1:Int) (a2_2:Int) (a2_3:Int):Option Bool :=
 Option.bind (C9 a2_0 a2_1 a2_2 a2_3) fun y4 =>
Option.bind (D7 y4 ((a0_1.length:Nat):Int)) fun y5 =>
cond (!y5)
 (some false)
 (cond (a2_0==1)
  (Option.bind (cond (a2_1==0)
    (cond (a2_2==0)
     (Option.bind (Dp a2_3 0 (wI (a0_0 - 1))) fun y15 =>
     some y15)
     (some false))
    (some false)) fun l12_m6 =>
  some l12_m6)
  (cond (a2_0==2)
   (some ([a2_0,a2_1,a2_2,a2_3]==[2,0,0,0]))
   (cond (a2_0==3)
    (some (a2_3==0))
    (cond (a2_0==4)
     (Option.bind (cond (a2_2==0)
       (Option.bind (E3 a1 a2_3) fun y26 =>
       some y26)
       (some false)) fun l24_m6 =>
     some l24_m6)
     (cond (a2_0==5)
      (Option.bind (cond (a2_2==0)
        (some (a2_3==0))
        (some false)) fun l29_m6 =>
      some l29_m6)
      (some false))))))
def Ng (r:Bool):RV:=⟨false,[(false,[.sc (.bool r)])]⟩
theorem M2 {a0_0:Int} {a0_1:List (Int×Int×Int×Int)} {a0_2:List Int} {a1:Int} {a2_0:Int} {a2_1:Int} {a2_2:Int} {a2_3:Int} {r:Bool} (h:Cx a0_0 a0_1 a0_2 a1 a2_0 a2_1 a2_2 a2_3=some r):A4 Tryd.prog Tab 64 [.agg [ai a0_0,.tree T4 a0_1,.tree .int a0_2],ai a1,.agg [ai a2_0,ai a2_1,ai a2_2,ai a2_3]] (Ng r):=by
 refine A0 (by kernel_rfl) Tryd.func64 Oa (n:=65) (by kernel_rfl) (by simp) (tl:=[(0,.agg [ai a0_0,.tree T4 a0_1,.tree .int a0_2]),(1,ai a1),(2,.agg [ai a2_0,ai a2_1,ai a2_2,ai a2_3])]) rfl ?_;unfold It;unfold Cx at h;refine Al ?_;refine Ab ?_;refine Ab ?_;obtain ⟨y4,h4,h⟩:=Ae h;obtain ⟨y5,h5,h⟩:=Ae h;refine A1 11 ?_;refine dzl (.agg [ai a2_0,ai a2_1,ai a2_2,ai a2_3]) ?_;refine Cq (.own (oi 128 5) .int 0 y4.length) [(oi 128 5,some (.arr 3 .int y4))] [.agg [ai a2_0,ai a2_1,ai a2_2,ai a2_3]] _ (caps:=[]) (args0:=[.agg [ai a2_0,ai a2_1,ai a2_2,ai a2_3]]) trivial (by kernel_rfl) (Im h4) Of ?_;refine dz0 (.box (oi 3 1) 1) ?_;refine dzl (.tree T4 a0_1) ?_;refine dz0 (ai ((a0_1.length:Nat):Int)) ?_;refine Cq (.bool y5) [] [.own (oi 128 5) .int 0 y4.length,ai ((a0_1.length:Nat):Int)] _ (caps:=[]) (args0:=[.tree .int y4,ai ((a0_1.length:Nat):Int)]) trivial (Aw (B1 (e:=3) (by kernel_rfl) rfl) (Aw (by kernel_rfl) Cw)) (Mn h5) Ml ?_;refine dz0 (.bool (!y5)) ?_;refine Gj (Bi (by kernel_rfl)) (tn_ ?_);refine wr_ ?_;rcases Ad h with ⟨q6,h⟩ | ⟨q6,h⟩
 ·refine Ag q6 ?_;refine Al ?_;refine Aj (tr_ ?_);obtain rfl:=zj h;exact Bk [.bool false] (At rfl zl A5)
 refine Af q6 ?_;refine Ai (tn_ ?_);refine wr_ ?_;refine Ab ?_;refine Al ?_;refine Ah ?_;refine Al ?_;rcases Ad h with ⟨q11,h⟩ | ⟨q11,h⟩
 ·refine Ag q11 ?_;refine As h (fun (l12_m6:Bool) S_=>S_=⟨Am [(6,.bool l12_m6)],Ak (An []),2⟩) ?_ ?_
  ·intro v_ h;rcases Ad h with ⟨q13,h⟩ | ⟨q13,h⟩
   ·rcases Ad h with ⟨q14,h⟩ | ⟨q14,h⟩
    ·obtain ⟨y15,h15,h⟩:=Ae h;refine Aa 32 ?_;refine rz0 (.box (oi 5 2) 1) ?_;refine rzl (ai a2_1) ?_;refine rz0 (.bool (a2_1==0)) ?_;refine rz0 (.bool (a2_1==0)) ?_;refine rs0 (.box (oi 5 2) 2) (zg q13) ?_;refine rsl (ai a2_2) (zg q13) ?_;refine rs0 (.bool (a2_2==0)) (zg q13) ?_;refine rs0 (.bool (a2_2==0)) (zT q13) ?_;refine rz0 (.bool (a2_2==0)) ?_;refine rs0 (.box (oi 5 2) 3) (zg q14) ?_;refine rsl (ai a2_3) (zg q14) ?_;refine rs0 (.box (oi 3 1) 0) (zg q14) ?_;refine rsl (ai a0_0) (zg q14) ?_;refine rs0 (ai (wI (a0_0 - 1))) (zg q14) ?_;refine Bh (.bool y15) [] [ai a2_3,ai 0,ai (wI (a0_0 - 1))] _ (caps:=[]) (args0:=[ai a2_3,ai 0,ai (wI (a0_0 - 1))]) (Bj (by kernel_rfl) q14) (by kernel_rfl) (Cm h15) Dc ?_;refine rs0 (.bool y15) (zT q14) ?_;refine rsB 1 ?_;refine Ao (tn_ ?_);obtain rfl:=zj h;exact ⟨_,Ac [],rfl⟩
    refine Aa 32 ?_;refine rz0 (.box (oi 5 2) 1) ?_;refine rzl (ai a2_1) ?_;refine rz0 (.bool (a2_1==0)) ?_;refine rz0 (.bool (a2_1==0)) ?_;refine rs0 (.box (oi 5 2) 2) (zg q13) ?_;refine rsl (ai a2_2) (zg q13) ?_;refine rs0 (.bool (a2_2==0)) (zg q13) ?_;refine rs0 (.bool (a2_2==0)) (zT q13) ?_;refine rz0 (.bool (a2_2==0)) ?_;refine zs q14 ?_;refine zs q14 ?_;refine zs q14 ?_;refine zs q14 ?_;refine zs q14 ?_;refine zs q14 ?_;refine rs0 (.bool false) (zF q14) ?_;refine rsB 1 ?_;refine Ao (tn_ ?_);obtain rfl:=zj h;exact ⟨_,Ac [],rfl⟩
   refine Aa 32 ?_;refine rz0 (.box (oi 5 2) 1) ?_;refine rzl (ai a2_1) ?_;refine rz0 (.bool (a2_1==0)) ?_;refine rz0 (.bool (a2_1==0)) ?_;refine zs q13 ?_;refine zs q13 ?_;refine zs q13 ?_;refine rs0 (.bool false) (zF q13) ?_;refine rsB 9 ?_;refine Ao (tn_ ?_);obtain rfl:=zj h;exact ⟨_,Ac [],rfl⟩
  rintro l12_m6 _ rfl h
  (try dsimp only at h);refine Aj (br_ (tr_ ?_));obtain rfl:=zj h;exact Bk [.bool l12_m6] (At rfl zl A5)
 refine Af q11 ?_;refine Al ?_;rcases Ad h with ⟨q17,h⟩ | ⟨q17,h⟩
 ·refine Ag q17 ?_;refine Al ?_;refine Aj (br_ (tr_ ?_));obtain rfl:=zj h;exact Bk [.bool ([a2_0,a2_1,a2_2,a2_3]==[2,0,0,0])] (At rfl zl A5)
 refine Af q17 ?_;refine Al ?_;rcases Ad h with ⟨q20,h⟩ | ⟨q20,h⟩
 ·refine Ag q20 ?_;refine Al ?_;refine Aj (br_ (tr_ ?_));obtain rfl:=zj h;exact Bk [.bool (a2_3==0)] (At rfl zl A5)
 refine Af q20 ?_;refine Al ?_;rcases Ad h with ⟨q23,h⟩ | ⟨q23,h⟩
 ·refine Ag q23 ?_;refine As h (fun (l24_m6:Bool) S_=>S_=⟨Am [(6,.bool l24_m6)],Ak (An []),2⟩) ?_ ?_
  ·intro v_ h;rcases Ad h with ⟨q25,h⟩ | ⟨q25,h⟩
   ·obtain ⟨y26,h26,h⟩:=Ae h;refine Aa 31 ?_;refine rz0 (.box (oi 5 2) 2) ?_;refine rzl (ai a2_2) ?_;refine rz0 (.bool (a2_2==0)) ?_;refine rz0 (.bool (a2_2==0)) ?_;refine rs0 (ai a1) (zg q25) ?_;refine rs0 (.box (oi 5 2) 3) (zg q25) ?_;refine rsl (ai a2_3) (zg q25) ?_;refine Bh (.bool y26) [] [ai a1,ai a2_3] _ (caps:=[]) (args0:=[ai a1,ai a2_3]) (Bj (by kernel_rfl) q25) (by kernel_rfl) (Ss h26) Sh ?_;refine rs0 (.bool y26) (zT q25) ?_;refine rsB 1 ?_;refine Ao (tn_ ?_);obtain rfl:=zj h;exact ⟨_,Ac [],rfl⟩
   refine Aa 31 ?_;refine rz0 (.box (oi 5 2) 2) ?_;refine rzl (ai a2_2) ?_;refine rz0 (.bool (a2_2==0)) ?_;refine rz0 (.bool (a2_2==0)) ?_;refine zs q25 ?_;refine zs q25 ?_;refine zs q25 ?_;refine zs q25 ?_;refine rs0 (.bool false) (zF q25) ?_;refine rsB 1 ?_;refine Ao (tn_ ?_);obtain rfl:=zj h;exact ⟨_,Ac [],rfl⟩
  rintro l24_m6 _ rfl h
  (try dsimp only at h);refine Aj (br_ (tr_ ?_));obtain rfl:=zj h;exact Bk [.bool l24_m6] (At rfl zl A5)
 refine Af q23 ?_;refine Al ?_;rcases Ad h with ⟨q28,h⟩ | ⟨q28,h⟩
 ·refine Ag q28 ?_;refine As h (fun (l29_m6:Bool) S_=>S_=⟨Am [(6,.bool l29_m6)],Ak (An []),2⟩) ?_ ?_
  ·intro v_ h;rcases Ad h with ⟨q30,h⟩ | ⟨q30,h⟩
   ·refine Aa 32 ?_;refine rz0 (.box (oi 5 2) 2) ?_;refine rzl (ai a2_2) ?_;refine rz0 (.bool (a2_2==0)) ?_;refine rz0 (.bool (a2_2==0)) ?_;refine rs0 (.box (oi 5 2) 3) (zg q30) ?_;refine rsl (ai a2_3) (zg q30) ?_;refine rs0 (.bool (a2_3==0)) (zg q30) ?_;refine rs0 (.bool (a2_3==0)) (zT q30) ?_;refine rsB 1 ?_;refine Ao (tn_ ?_);obtain rfl:=zj h;exact ⟨_,Ac [],rfl⟩
   refine Aa 32 ?_;refine rz0 (.box (oi 5 2) 2) ?_;refine rzl (ai a2_2) ?_;refine rz0 (.bool (a2_2==0)) ?_;refine rz0 (.bool (a2_2==0)) ?_;refine zs q30 ?_;refine zs q30 ?_;refine zs q30 ?_;refine rs0 (.bool false) (zF q30) ?_;refine rsB 1 ?_;refine Ao (tn_ ?_);obtain rfl:=zj h;exact ⟨_,Ac [],rfl⟩
  rintro l29_m6 _ rfl h
  (try dsimp only at h);refine Aj (br_ (tr_ ?_));obtain rfl:=zj h;exact Bk [.bool l29_m6] (At rfl zl A5)
 refine Af q28 ?_;refine Ai (bn_ (tn_ ?_));refine wr_ ?_;refine Al ?_;refine Aj ?_;obtain rfl:=zj h;exact Bk [.bool false] (At rfl zl A5)
def K8:AC :=
 (.seq (rg [xo 1 (.i (.box 59 (tm 0))),xo 2 (qm (.cst .nils))])
 (.seq (.seq (rg [xo 3 (qf 0 (tm 1)),xo 4 (ql (tm 3)),xo 5 (qb .eql (tm 4) (ci 3)),xo 6 (qm (tm 5)),⟨some 7,some (6,false),qf 0 (tm 1)⟩,⟨some 8,some (6,false),ql (tm 7)⟩,⟨some 9,some (6,false),qb .eql (tm 8) (ci 4)⟩,xo 10 (.i (.pick (tm 6) (cb true) (tm 9)))])
 (.cond (tm 10)
  (.seq (rg [xo 11 (.i (.ld false 4 (tm 1))),xo 12 (qc 76 [tm 11] [[none,none,none,none]]),xo 2 (qm (tm 12))])
  .ret)
  .skip))
 (.seq (rg [xo 2 (qm (.cst .nils))])
 .ret)))
def R1:List Res:=[.tmp 2]
theorem Sn:Ar Tryd.prog Tryd.f78=some (K8,R1):=by kernel_rfl
theorem Rp:A6 Tryd.prog 78=true:=by kernel_rfl
def Di (a0_0:Int) (a0_1:Int) (a0_2:Int) (a0_3:Int):Option (List Int) :=
 Option.bind (cond (a0_0==3)
  (some true)
  (some (a0_0==4))) fun l3_m10 =>
cond l3_m10
 (Option.bind (C9 a0_0 a0_1 a0_2 a0_3) fun y7 =>
 some y7)
 (some [])
def Rv (r:List Int):RV:=⟨false,[(false,[.new 3 .int r])]⟩
theorem Kt {a0_0:Int} {a0_1:Int} {a0_2:Int} {a0_3:Int} {r:List Int} (h:Di a0_0 a0_1 a0_2 a0_3=some r):A4 Tryd.prog Tab 78 [.agg [ai a0_0,ai a0_1,ai a0_2,ai a0_3]] (Rv r):=by
 refine A0 (by kernel_rfl) Tryd.func78 Sn (n:=13) (by kernel_rfl) (by simp) (tl:=[(0,.agg [ai a0_0,ai a0_1,ai a0_2,ai a0_3])]) rfl ?_;unfold K8;unfold Di at h;refine Al ?_;refine Ab ?_;refine As h (fun (l3_m10:Bool) S_=>S_=⟨Am [(1,.box (oi 0 1) 0),(10,.bool l3_m10)],Ak (An [(oi 0 1,.cells 59 [ai a0_0,ai a0_1,ai a0_2,ai a0_3])]),2⟩) ?_ ?_
 ·intro v_ h;rcases Ad h with ⟨q4,h⟩ | ⟨q4,h⟩
  ·refine Aa 11 ?_;refine rz0 (.box (oi 1 1) 0) ?_;refine rzl (ai a0_0) ?_;refine rz0 (.bool (a0_0==3)) ?_;refine rz0 (.bool (a0_0==3)) ?_;refine zs q4 ?_;refine zs q4 ?_;refine zs q4 ?_;refine rs0 (.bool true) (zT q4) ?_;refine Ao (tn_ ?_);obtain rfl:=zj h;exact ⟨_,Ac [(oi 0 1,oi 1 1)],rfl⟩
  refine Aa 11 ?_;refine rz0 (.box (oi 1 1) 0) ?_;refine rzl (ai a0_0) ?_;refine rz0 (.bool (a0_0==3)) ?_;refine rz0 (.bool (a0_0==3)) ?_;refine rs0 (.box (oi 1 1) 0) (zg q4) ?_;refine rsl (ai a0_0) (zg q4) ?_;refine rs0 (.bool (a0_0==4)) (zg q4) ?_;refine rs0 (.bool (a0_0==4)) (zF q4) ?_;refine Ao (tn_ ?_);obtain rfl:=zj h;exact ⟨_,Ac [(oi 0 1,oi 1 1)],rfl⟩
 rintro l3_m10 _ rfl h
 (try dsimp only at h);rcases Ad h with ⟨q5,h⟩ | ⟨q5,h⟩
 ·refine Ag q5 ?_;refine Ab ?_;obtain ⟨y7,h7,h⟩:=Ae h;refine Aa 5 ?_;refine rzl (.agg [ai a0_0,ai a0_1,ai a0_2,ai a0_3]) ?_;refine zc (.own (oi 192 3) .int 0 y7.length) [(oi 192 3,some (.arr 3 .int y7))] [.agg [ai a0_0,ai a0_1,ai a0_2,ai a0_3]] (Im h7) ?_;refine rsB 1 ?_;refine Ao (tn_ ?_);refine wr_ ?_;refine Aj (tr_ ?_);obtain rfl:=zj h;exact Bk [.own (oi 192 3) .int 0 y7.length] (At rfl (Er (by kernel_rfl) rfl) A5)
 refine Af q5 ?_;refine Ai (tn_ ?_);refine wr_ ?_;refine Al ?_;refine Aj ?_;obtain rfl:=zj h;exact Bk [.nils] (At rfl (Ad7 rfl) A5)
def F1:AC :=
 (.seq (rg [xo 3 (qm (cb false))])
 (.seq (rg [xo 4 (ql (tm 1)),xo 5 (qm (tm 0)),xo 6 (.i (.look 100 false (tm 4) (tm 5))),xo 3 (qm (tm 6))])
 .ret))
def J5:List Res:=[.tmp 3]
theorem J4:Ar Tryd.prog Tryd.f83=some (F1,J5):=by kernel_rfl
theorem Jv:A6 Tryd.prog 83=true:=by kernel_rfl
def Ci (a0:Int) (c0_0:List (Int×Bool)):Option Bool :=
 og (H3 a0) <|
some ((C4 c0_0 a0).getD false)
def Js (r:Bool):RV:=⟨false,[(false,[.sc (.bool r)])]⟩
theorem Jq {a0:Int} {c0_0:List (Int×Bool)} {r:Bool} (h:Ci a0 c0_0=some r):A4 Tryd.prog Tab 83 [ai a0,.ref [.mtree 100 .bool c0_0]] (Js r):=by
 refine A0 (by kernel_rfl) Tryd.func83 J4 (n:=7) (by kernel_rfl) (by simp) (tl:=[(0,ai a0),(1,.ref [.mtree 100 .bool c0_0])]) rfl ?_;unfold F1;unfold Ci at h;refine Al ?_;refine Ab ?_;obtain ⟨g3,h⟩:=Aq h;refine Aa 6 ?_;refine rz0 (.mtree 100 .bool c0_0) ?_;refine rz0 (ai a0) ?_;refine rs0 (.bool ((C4 c0_0 a0).getD false)) (Acv (t:=.bool) (es:=c0_0) (k:=a0) (by kernel_rfl) (by kernel_rfl) g3) ?_;refine rsB 1 ?_;refine Ao (tn_ ?_);refine wr_ ?_;refine Aj ?_;obtain rfl:=zj h;exact Bk [.bool ((C4 c0_0 a0).getD false)] (At rfl zl A5)
def Db:AC :=
 (.seq (rg [xo 9 (qb .lss (tm 8) (tm 7))])
 (.seq (.cond (tm 9)
  .skip
  (.exit 0))
 (.seq (.block 1 (.seq (rg [xo 10 (qm (tm 8)),xo 5 (qm (tm 10))])
 (.seq (rg [xo 11 (qm (tm 1)),xo 12 (qm (tm 0)),xo 13 (qm (tm 5)),xo 14 (qx 1 (tm 12) (tm 13)),xo 15 (ql (tm 14)),xo 16 (.call (tm 11) [tm 15] [[]])])
 (.cond (tm 16)
  (.seq (rg [xo 17 (qm (tm 5)),xo 4 (qm (tm 17))])
  .ret)
  .skip))))
 (rg [xo 18 (qb .add (tm 8) (ci 1)),xo 8 (qm (tm 18))]))))
def D1:AC :=
 (.seq (rg [xo 4 (qm (ci 0))])
 (.seq (.seq (rg [xo 6 (qm (tm 0)),xo 7 (.i (.len (tm 6))),xo 8 (qm (ci 0))])
 (.block 0 (.loop Db)))
 (.seq (rg [xo 4 (qm (ci (-1)))])
 .ret)))
def Km:List Res:=[.tmp 4]
theorem Gd:Ar Tryd.prog Tryd.f79=some (D1,Km):=by kernel_rfl
theorem J1:A6 Tryd.prog 79=true:=by kernel_rfl
def A3 (a0:List Int) (a1_0_0:List (Int×Bool)) (l4_m8:Nat):Option (Ctl Nat (Ctl Unit Int)) :=
 cond (decide (((l4_m8:Nat):Int)<((a0.length:Nat):Int)))
 (Option.bind (a0[l4_m8]?) fun x11 =>
 Option.bind (Ci x11 a1_0_0) fun y12 =>
 cond y12
  (some (Ctl.out (Ctl.out ((l4_m8:Nat):Int))))
  (og (l4_m8+1<4611686018427387904) <|
  some (Ctl.next (l4_m8+1))))
 (some (Ctl.out (Ctl.next ())))
def Bd (a0:List Int) (a1_0_0:List (Int×Bool)):Option Int :=
 Ix (Ay (fun s_:Nat=>A3 a0 a1_0_0 s_) 4611686018427387904 0) fun _ =>
some (-1)
def C7 (r:Int):RV:=⟨false,[(false,[.sc (.int .i64 r)])]⟩
theorem C8 {a0:List Int} {a1_0_0:List (Int×Bool)} {r:Int} (h:Bd a0 a1_0_0=some r):A4 Tryd.prog Tab 79 [.tree .int a0,.fn 83 [.ref [.mtree 100 .bool a1_0_0]]] (C7 r):=by
 refine A0 (by kernel_rfl) Tryd.func79 Gd (n:=19) (by kernel_rfl) (by simp) (tl:=[(0,.tree .int a0),(1,.fn 83 [.ref [.mtree 100 .bool a1_0_0]])]) rfl ?_;unfold D1;unfold Bd at h;refine Al ?_;refine C0 h (fun (_:Unit) S_=>S_=⟨Am [],Ak (An []),2⟩) ?_ ?_
 ·intro v_ h hk2;refine Al ?_;refine Ah ?_;refine Ax h (fun (l4_m8:Nat) S_=>S_=⟨Am [(0,.tree .int a0),(1,.fn 83 [.ref [.mtree 100 .bool a1_0_0]]),(7,ai ((a0.length:Nat):Int)),(8,ai ((l4_m8:Nat):Int))],Ak (An []),2⟩) ⟨_,Ac [],rfl⟩ ?_;rintro n_ l4_m8 _ c_ rfl h hn4
  (try dsimp only at h);unfold A3 at h;unfold Db;refine Al ?_;refine Ab ?_;rcases Ad h with ⟨q7,h⟩ | ⟨q7,h⟩
  ·have q7_:=of_decide_eq_true q7;refine Ag q7 ?_;refine Ai (tn_ ?_);refine wr_ ?_;refine Ab ?_;refine Ah ?_;refine Al ?_;refine Ab ?_;obtain ⟨x11,e11,h⟩:=Ae h;obtain ⟨y12,h12,h⟩:=Ae h;refine Aa 11 ?_;refine rz0 (.fn 83 [.ref [.mtree 100 .bool a1_0_0]]) ?_;refine rz0 (.tree .int a0) ?_;refine rz0 (ai ((l4_m8:Nat):Int)) ?_;refine rs0 (.telt .int x11 0) (zi (t:=.int) (xs:=a0) (k:=.i64) (m:=((l4_m8:Nat):Int)) (Ba _) e11) ?_;refine rz0 (ai x11) ?_;refine Bh (.bool y12) [] [ai x11,.ref [.mtree 100 .bool a1_0_0]] _ (caps:=[.ref [.mtree 100 .bool a1_0_0]]) (args0:=[ai x11,.ref [.mtree 100 .bool a1_0_0]]) trivial (by kernel_rfl) (Jq h12) Jv ?_;refine Ao (tn_ ?_);refine wr_ ?_;rcases Ad h with ⟨q13,h⟩ | ⟨q13,h⟩
   ·refine Ag q13 ?_;refine Al ?_;refine Aj (br_ (tr_ (tr_ (br_ (tr_ ?_)))));obtain rfl:=zj h;have h:=hn4
    (try dsimp only at h);obtain rfl:=zj h;have h:=hk2
    (try dsimp only at h);obtain rfl:=zj h;exact Bk [ai ((l4_m8:Nat):Int)] (At rfl zl A5)
   refine Af q13 ?_;refine Ai (bn_ (tn_ ?_));refine wr_ ?_;obtain ⟨g15,h⟩:=Aq h;refine Aa 13 ?_;refine rs0 (ai ((l4_m8+1:Nat):Int)) (za g15) ?_;refine rsB 1 ?_;refine Ao (tn_ ?_);obtain rfl:=zj h;exact ⟨l4_m8+1,_,Ac [],rfl,hn4⟩
  have q7_:=of_decide_eq_false q7;refine Af q7 ?_;refine Av (te_ (te_ (be_ (tn_ ?_))));obtain rfl:=zj h;have h:=hn4
  (try dsimp only at h);obtain rfl:=zj h;exact ⟨(),_,rfl,Ac [],rfl⟩
 rintro _ _ rfl h
 (try dsimp only at h);refine Al ?_;refine Aj ?_;obtain rfl:=zj h;exact Bk [ai (-1)] (At rfl zl A5)
def E6:AC :=
 (.seq (rg [xo 4 (qm (cb false))])
 (.seq (rg [xo 5 (qm (tm 0)),xo 6 (qm (tm 1)),xo 7 (qc 79 [tm 5,tm 6] [[some .int],[]]),xo 8 (qb .geq (tm 7) (ci 0)),xo 4 (qm (tm 8))])
 .ret))
def Jd:List Res:=[.tmp 4]
theorem Jj:Ar Tryd.prog Tryd.f82=some (E6,Jd):=by kernel_rfl
theorem I0:A6 Tryd.prog 82=true:=by kernel_rfl
def A2 (a0:List Int) (a1_0_0:List (Int×Bool)):Option Bool :=
 Option.bind (Bd a0 a1_0_0) fun y3 =>
some (decide (0<=y3))
def Cv (r:Bool):RV:=⟨false,[(false,[.sc (.bool r)])]⟩
theorem Cs {a0:List Int} {a1_0_0:List (Int×Bool)} {r:Bool} (h:A2 a0 a1_0_0=some r):A4 Tryd.prog Tab 82 [.tree .int a0,.fn 83 [.ref [.mtree 100 .bool a1_0_0]]] (Cv r):=by
 refine A0 (by kernel_rfl) Tryd.func82 Jj (n:=9) (by kernel_rfl) (by simp) (tl:=[(0,.tree .int a0),(1,.fn 83 [.ref [.mtree 100 .bool a1_0_0]])]) rfl ?_;unfold E6;unfold A2 at h;refine Al ?_;refine Ab ?_;obtain ⟨y3,h3,h⟩:=Ae h;refine Aa 7 ?_;refine rz0 (.tree .int a0) ?_;refine rz0 (.fn 83 [.ref [.mtree 100 .bool a1_0_0]]) ?_;refine zc (ai y3) [] [.tree .int a0,.fn 83 [.ref [.mtree 100 .bool a1_0_0]]] (C8 h3) ?_;refine rsB 2 ?_;refine Ao (tn_ ?_);refine wr_ ?_;refine Aj ?_;obtain rfl:=zj h;exact Bk [.bool (decide (0<=y3))] (At rfl zl A5)
def Gm:AC :=
 (.seq (rg [xo 4 (qm (cb false))])
 (.seq (rg [xo 5 (ql (tm 1)),xo 6 (qm (tm 0)),xo 7 (.i (.look 100 false (tm 5) (tm 6))),xo 8 (qm (tm 7)),⟨some 9,some (8,true),qf 1 (tm 2)⟩,⟨some 10,some (8,true),ql (tm 9)⟩,⟨some 11,some (8,true),qm (tm 0)⟩,⟨some 12,some (8,true),qx 4 (tm 10) (tm 11)⟩,⟨some 13,some (8,true),.i (.ld false 4 (tm 12))⟩,⟨some 14,some (8,true),qc 78 [tm 13] [[none,none,none,none]]⟩,⟨some 15,some (8,true),.i (.mkfn 83 [tm 1])⟩,⟨some 16,some (8,true),qc 82 [tm 14,tm 15] [[some .int],[]]⟩,⟨some 17,some (8,true),.i (.not (tm 16))⟩,xo 18 (.i (.pick (tm 8) (tm 17) (cb false))),xo 4 (qm (tm 18))])
 .ret))
def K6:List Res:=[.tmp 4]
theorem K5:Ar Tryd.prog Tryd.f81=some (Gm,K6):=by kernel_rfl
theorem Kc:A6 Tryd.prog 81=true:=by kernel_rfl
def B8 (a0:Int) (c0_0:List (Int×Bool)) (c1_0:Int) (c1_1:List (Int×Int×Int×Int)) (c1_2:List Int):Option Bool :=
 Option.bind (og (H3 a0) <|
 cond ((C4 c0_0 a0).getD false)
  (Option.bind (Gv c1_1 a0) fun x5 =>
  Option.bind (Di x5.1 x5.2.1 x5.2.2.1 x5.2.2.2) fun y6 =>
  Option.bind (A2 y6 c0_0) fun y7 =>
  some (!y7))
  (some false)) fun l2_m4 =>
some l2_m4
def Ku (r:Bool):RV:=⟨false,[(false,[.sc (.bool r)])]⟩
theorem Ka {a0:Int} {c0_0:List (Int×Bool)} {c1_0:Int} {c1_1:List (Int×Int×Int×Int)} {c1_2:List Int} {r:Bool} (h:B8 a0 c0_0 c1_0 c1_1 c1_2=some r):A4 Tryd.prog Tab 81 [ai a0,.ref [.mtree 100 .bool c0_0],.ref [ai c1_0,.tree T4 c1_1,.tree .int c1_2]] (Ku r):=by
 refine A0 (by kernel_rfl) Tryd.func81 K5 (n:=19) (by kernel_rfl) (by simp) (tl:=[(0,ai a0),(1,.ref [.mtree 100 .bool c0_0]),(2,.ref [ai c1_0,.tree T4 c1_1,.tree .int c1_2])]) rfl ?_;unfold Gm;unfold B8 at h;refine Al ?_;refine As h (fun (l2_m4:Bool) S_=>S_=⟨Am [(4,.bool l2_m4)],Ak (An []),2⟩) ?_ ?_
 ·intro v_ h;obtain ⟨g3,h⟩:=Aq h;rcases Ad h with ⟨q4,h⟩ | ⟨q4,h⟩
  ·obtain ⟨x5,f5,h⟩:=Ae h;obtain ⟨p5,b5,e5⟩:=Bo f5;obtain ⟨y6,h6,h⟩:=Ae h;obtain ⟨y7,h7,h⟩:=Ae h;refine Aa 17 ?_;refine rz0 (.mtree 100 .bool c0_0) ?_;refine rz0 (ai a0) ?_;refine rs0 (.bool ((C4 c0_0 a0).getD false)) (Acv (t:=.bool) (es:=c0_0) (k:=a0) (by kernel_rfl) (by kernel_rfl) g3) ?_;refine rz0 (.bool ((C4 c0_0 a0).getD false)) ?_;refine rs0 (.ref [.tree T4 c1_1,.tree .int c1_2]) (zg q4) ?_;refine rs0 (.tree T4 c1_1) (zg q4) ?_;refine rs0 (ai a0) (zg q4) ?_;refine rs0 (.telt T4 x5 0) (Ait (by kernel_rfl) q4 (zi (t:=T4) (xs:=c1_1) (k:=.i64) (m:=a0) p5 e5)) ?_;refine rs0 (.agg [ai x5.1,ai x5.2.1,ai x5.2.2.1,ai x5.2.2.2]) (zg q4) ?_;refine Bh (.own (oi 224 11) .int 0 y6.length) [(oi 224 11,some (.arr 3 .int y6))] [.agg [ai x5.1,ai x5.2.1,ai x5.2.2.1,ai x5.2.2.2]] _ (caps:=[]) (args0:=[.agg [ai x5.1,ai x5.2.1,ai x5.2.2.1,ai x5.2.2.2]]) (Bj (by kernel_rfl) q4) (by kernel_rfl) (Kt h6) Rp ?_;refine rs0 (.fn 83 [.ref [.mtree 100 .bool c0_0]]) (zg q4) ?_;refine Bh (.bool y7) [] [.own (oi 224 11) .int 0 y6.length,.fn 83 [.ref [.mtree 100 .bool c0_0]]] _ (caps:=[]) (args0:=[.tree .int y6,.fn 83 [.ref [.mtree 100 .bool c0_0]]]) (Bj (by kernel_rfl) q4) (Aw (B1 (e:=3) (by kernel_rfl) rfl) (Aw (by kernel_rfl) Cw)) (Cs h7) I0 ?_;refine rs0 (.bool (!y7)) (zg q4) ?_;refine rs0 (.bool (!y7)) (zT q4) ?_;refine rsB 1 ?_;refine Ao (tn_ ?_);obtain rfl:=zj h;exact ⟨_,Ac [],rfl⟩
  refine Aa 17 ?_;refine rz0 (.mtree 100 .bool c0_0) ?_;refine rz0 (ai a0) ?_;refine rs0 (.bool ((C4 c0_0 a0).getD false)) (Acv (t:=.bool) (es:=c0_0) (k:=a0) (by kernel_rfl) (by kernel_rfl) g3) ?_;refine rz0 (.bool ((C4 c0_0 a0).getD false)) ?_;refine zs q4 ?_;refine zs q4 ?_;refine zs q4 ?_;refine zs q4 ?_;refine zs q4 ?_;refine zs q4 ?_;refine zs q4 ?_;refine zs q4 ?_;refine zs q4 ?_;refine rs0 (.bool false) (zF q4) ?_;refine rsB 1 ?_;refine Ao (tn_ ?_);obtain rfl:=zj h;exact ⟨_,Ac [],rfl⟩
 rintro l2_m4 _ rfl h
 (try dsimp only at h);refine Aj ?_;obtain rfl:=zj h;exact Bk [.bool l2_m4] (At rfl zl A5)
def Bc (a0:List Int) (a1_0_0:List (Int×Bool)) (a1_1_0:Int) (a1_1_1:List (Int×Int×Int×Int)) (a1_1_2:List Int) (l4_m8:Nat):Option (Ctl Nat (Ctl Unit Int)) :=
 cond (decide (((l4_m8:Nat):Int)<((a0.length:Nat):Int)))
 (Option.bind (a0[l4_m8]?) fun x11 =>
 Option.bind (B8 x11 a1_0_0 a1_1_0 a1_1_1 a1_1_2) fun y12 =>
 cond y12
  (some (Ctl.out (Ctl.out ((l4_m8:Nat):Int))))
  (og (l4_m8+1<4611686018427387904) <|
  some (Ctl.next (l4_m8+1))))
 (some (Ctl.out (Ctl.next ())))
def A7 (a0:List Int) (a1_0_0:List (Int×Bool)) (a1_1_0:Int) (a1_1_1:List (Int×Int×Int×Int)) (a1_1_2:List Int):Option Int :=
 Ix (Ay (fun s_:Nat=>Bc a0 a1_0_0 a1_1_0 a1_1_1 a1_1_2 s_) 4611686018427387904 0) fun _ =>
some (-1)
def De (r:Int):RV:=⟨false,[(false,[.sc (.int .i64 r)])]⟩
theorem Df {a0:List Int} {a1_0_0:List (Int×Bool)} {a1_1_0:Int} {a1_1_1:List (Int×Int×Int×Int)} {a1_1_2:List Int} {r:Int} (h:A7 a0 a1_0_0 a1_1_0 a1_1_1 a1_1_2=some r):A4 Tryd.prog Tab 79 [.tree .int a0,.fn 81 [.ref [.mtree 100 .bool a1_0_0],.ref [ai a1_1_0,.tree T4 a1_1_1,.tree .int a1_1_2]]] (De r):=by
 refine A0 (by kernel_rfl) Tryd.func79 Gd (n:=19) (by kernel_rfl) (by simp) (tl:=[(0,.tree .int a0),(1,.fn 81 [.ref [.mtree 100 .bool a1_0_0],.ref [ai a1_1_0,.tree T4 a1_1_1,.tree .int a1_1_2]])]) rfl ?_;unfold D1;unfold A7 at h;refine Al ?_;refine C0 h (fun (_:Unit) S_=>S_=⟨Am [],Ak (An []),2⟩) ?_ ?_
 ·intro v_ h hk2;refine Al ?_;refine Ah ?_;refine Ax h (fun (l4_m8:Nat) S_=>S_=⟨Am [(0,.tree .int a0),(1,.fn 81 [.ref [.mtree 100 .bool a1_0_0],.ref [ai a1_1_0,.tree T4 a1_1_1,.tree .int a1_1_2]]),(7,ai ((a0.length:Nat):Int)),(8,ai ((l4_m8:Nat):Int))],Ak (An []),2⟩) ⟨_,Ac [],rfl⟩ ?_;rintro n_ l4_m8 _ c_ rfl h hn4
  (try dsimp only at h);unfold Bc at h;unfold Db;refine Al ?_;refine Ab ?_;rcases Ad h with ⟨q7,h⟩ | ⟨q7,h⟩
  ·have q7_:=of_decide_eq_true q7;refine Ag q7 ?_;refine Ai (tn_ ?_);refine wr_ ?_;refine Ab ?_;refine Ah ?_;refine Al ?_;refine Ab ?_;obtain ⟨x11,e11,h⟩:=Ae h;obtain ⟨y12,h12,h⟩:=Ae h;refine Aa 11 ?_;refine rz0 (.fn 81 [.ref [.mtree 100 .bool a1_0_0],.ref [ai a1_1_0,.tree T4 a1_1_1,.tree .int a1_1_2]]) ?_;refine rz0 (.tree .int a0) ?_;refine rz0 (ai ((l4_m8:Nat):Int)) ?_;refine rs0 (.telt .int x11 0) (zi (t:=.int) (xs:=a0) (k:=.i64) (m:=((l4_m8:Nat):Int)) (Ba _) e11) ?_;refine rz0 (ai x11) ?_;refine Bh (.bool y12) [] [ai x11,.ref [.mtree 100 .bool a1_0_0],.ref [ai a1_1_0,.tree T4 a1_1_1,.tree .int a1_1_2]] _ (caps:=[.ref [.mtree 100 .bool a1_0_0],.ref [ai a1_1_0,.tree T4 a1_1_1,.tree .int a1_1_2]]) (args0:=[ai x11,.ref [.mtree 100 .bool a1_0_0],.ref [ai a1_1_0,.tree T4 a1_1_1,.tree .int a1_1_2]]) trivial (by kernel_rfl) (Ka h12) Kc ?_;refine Ao (tn_ ?_);refine wr_ ?_;rcases Ad h with ⟨q13,h⟩ | ⟨q13,h⟩
   ·refine Ag q13 ?_;refine Al ?_;refine Aj (br_ (tr_ (tr_ (br_ (tr_ ?_)))));obtain rfl:=zj h;have h:=hn4
    (try dsimp only at h);obtain rfl:=zj h;have h:=hk2
    (try dsimp only at h);obtain rfl:=zj h;exact Bk [ai ((l4_m8:Nat):Int)] (At rfl zl A5)
   refine Af q13 ?_;refine Ai (bn_ (tn_ ?_));refine wr_ ?_;obtain ⟨g15,h⟩:=Aq h;refine Aa 13 ?_;refine rs0 (ai ((l4_m8+1:Nat):Int)) (za g15) ?_;refine rsB 1 ?_;refine Ao (tn_ ?_);obtain rfl:=zj h;exact ⟨l4_m8+1,_,Ac [],rfl,hn4⟩
  have q7_:=of_decide_eq_false q7;refine Af q7 ?_;refine Av (te_ (te_ (be_ (tn_ ?_))));obtain rfl:=zj h;have h:=hn4
  (try dsimp only at h);obtain rfl:=zj h;exact ⟨(),_,rfl,Ac [],rfl⟩
 rintro _ _ rfl h
 (try dsimp only at h);refine Al ?_;refine Aj ?_;obtain rfl:=zj h;exact Bk [ai (-1)] (At rfl zl A5)
def F9:AC :=
 (.seq (.seq (rg [xo 26 (ql (tm 4)),xo 27 (.i (.lenM 100 (tm 26))),xo 28 (qb .gtr (tm 27) (ci 0))])
 (.cond (tm 28)
  .skip
  (.exit 2)))
 (.block 3 (.seq (rg [xo 29 (qf 1 (tm 1)),xo 30 (ql (tm 29)),xo 31 (.i (.len (tm 30))),xo 32 (qc 80 [tm 31] [[]]),xo 33 (.i (.mkfn 81 [tm 4,tm 1])),xo 34 (qc 79 [tm 32,tm 33] [[some .int],[]]),xo 8 (qm (tm 34))])
 (.seq (.seq (rg [xo 35 (qm (tm 8)),xo 36 (qb .lss (tm 35) (ci 0))])
 (.cond (tm 36)
  (.seq (rg [xo 2 (qm (.cst .nils)),xo 3 (qm (cb false))])
  .ret)
  .skip))
 (.seq (rg [xo 37 (ql (tm 4)),xo 38 (qm (tm 8)),xn (.del 100 (tm 37) (tm 38))])
 (rg [xo 39 (qm (tm 7)),xo 40 (qm (tm 8)),xo 41 (.mkS 3 .int [tm 40]),xo 42 (.append 3 .int 8 (tm 39) (tm 41)),xo 7 (qm (tm 42))]))))))
def F4:AC :=
 (.seq (rg [xo 14 (qb .lss (tm 13) (tm 12))])
 (.seq (.cond (tm 14)
  .skip
  (.exit 0))
 (.seq (.block 1 (.seq (rg [xo 15 (qm (tm 13)),xo 16 (qx 4 (tm 11) (tm 13)),xo 17 (.i (.ld false 4 (tm 16))),xo 6 (.i (.alloc 59 [.int .i64 0,.int .i64 0,.int .i64 0,.int .i64 0])),xo 5 (qm (tm 15)),xn (.st false 4 (tm 6) (tm 17))])
 (.seq (rg [xo 18 (.i (.ld false 4 (tm 6))),xo 19 (qc 78 [tm 18] [[none,none,none,none]]),xo 20 (.i (.len (tm 19))),xo 21 (qb .gtr (tm 20) (ci 0))])
 (.cond (tm 21)
  (rg [xo 22 (ql (tm 4)),xo 23 (qm (tm 5)),xn (.upd 100 (tm 22) (tm 23) (cb true))])
  .skip))))
 (rg [xo 24 (qb .add (tm 13) (ci 1)),xo 13 (qm (tm 24))]))))
def Ht:AC :=
 (.seq (rg [xo 1 (.i (.box 31 (tm 0))),xo 2 (qm (.cst .nils)),xo 3 (qm (cb false))])
 (.seq (rg [xo 9 (.makeM 100 .bool),xo 4 (.i (.alloc 100 [.any])),xn (qs (tm 4) (tm 9))])
 (.seq (.seq (rg [xo 10 (qf 1 (tm 1)),xo 11 (ql (tm 10)),xo 12 (.i (.len (tm 11))),xo 13 (qm (ci 0))])
 (.block 0 (.loop F4)))
 (.seq (rg [xo 25 (.mkS 3 .int []),xo 7 (qm (tm 25))])
 (.seq (.block 2 (.loop F9))
 (.seq (rg [xo 43 (qm (tm 7)),xo 2 (qm (tm 43)),xo 3 (qm (cb true))])
 .ret))))))
def Mv:List Res:=[.tmp 2,.tmp 3]
theorem L3:Ar Tryd.prog Tryd.f65=some (Ht,Mv):=by kernel_rfl
def Bv (a0_1:List (Int×Int×Int×Int)) (l5_m13:Nat) (l5_m4_0:List (Int×Bool)):Option (Ctl (Nat×(List (Int×Bool))) (List (Int×Bool))) :=
 cond (decide (((l5_m13:Nat):Int)<((a0_1.length:Nat):Int)))
 (Option.bind (Option.bind (a0_1[l5_m13]?) fun x11 =>
  Option.bind (Di x11.1 x11.2.1 x11.2.2.1 x11.2.2.2) fun y13 =>
  cond (decide (0<((y13.length:Nat):Int)))
   (og (H3 ((l5_m13:Nat):Int)∧l5_m4_0.length<1073741824) <|
   some (Qh l5_m4_0 ((l5_m13:Nat):Int) true))
   (some l5_m4_0)) fun l9_m4_0 =>
 og (l5_m13+1<4611686018427387904) <|
 some (Ctl.next (l5_m13+1,l9_m4_0)))
 (some (Ctl.out l5_m4_0))
def Bs (a0_1:List (Int×Int×Int×Int)) (a0_0:Int) (a0_2:List Int) (l19_m7:List Int) (l19_m4_0:List (Int×Bool)):Option (Ctl (List Int×(List (Int×Bool))) (Ctl (List Int) (List Int×Bool))) :=
 cond (decide (0<((l19_m4_0.length:Nat):Int)))
 (Option.bind (I7 ((a0_1.length:Nat):Int)) fun y24 =>
 Option.bind (A7 y24 l19_m4_0 a0_0 a0_1 a0_2) fun y25 =>
 cond (decide (y25<0))
  (some (Ctl.out (Ctl.out ([],false))))
  (og (H3 y25) <|
  og (l19_m7.length+1<=1073741824∧(l19_m7.length+1)*8<=140737488355328) <|
  some (Ctl.next (l19_m7++([y25]),Ii l19_m4_0 y25))))
 (some (Ctl.out (Ctl.next l19_m7)))
def B4 (a0_0:Int) (a0_1:List (Int×Int×Int×Int)) (a0_2:List Int):Option (List Int×Bool) :=
 Option.bind (Ay (fun s_:Nat×(List (Int×Bool))=>Bv a0_1 s_.1 s_.2) 4611686018427387904 (0,[])) fun l3_m4_0 =>
Ix (Ay (fun s_:List Int×(List (Int×Bool))=>Bs a0_1 a0_0 a0_2 s_.1 s_.2) 4611686018427387904 ([],l3_m4_0)) fun l18_m7 =>
some (l18_m7,true)
def Lu (r:List Int×Bool):RV:=⟨true,[(false,[.new 3 .int r.1]),(false,[.sc (.bool r.2)])]⟩
theorem G0 {a0_0:Int} {a0_1:List (Int×Int×Int×Int)} {a0_2:List Int} {r:List Int×Bool} (h:B4 a0_0 a0_1 a0_2=some r):A4 Tryd.prog Tab 65 [.agg [ai a0_0,.tree T4 a0_1,.tree .int a0_2]] (Lu r):=by
 refine A0 (by kernel_rfl) Tryd.func65 L3 (n:=44) (by kernel_rfl) (by simp) (tl:=[(0,.agg [ai a0_0,.tree T4 a0_1,.tree .int a0_2])]) rfl ?_;unfold Ht;unfold B4 at h;refine Al ?_;refine Al ?_;refine As h (fun (l3_m4_0:List (Int×Bool)) S_=>S_=⟨Am [(1,.box (oi 0 1) 0),(4,.box (oi 1 1) 0)],Ak (An [(oi 0 1,.cells 31 [ai a0_0,.tree T4 a0_1,.tree .int a0_2]),(oi 1 1,.cells 100 [.mp (oi 2 1)]),(oi 2 1,.map 100 .bool l3_m4_0)]),2⟩) ?_ ?_
 ·intro v_ h;refine Al ?_;refine Ah ?_;refine Ax h (fun t_ S_=>∃ (l5_m13:Nat),∃ (l5_m4_0:List (Int×Bool)),t_=(l5_m13,l5_m4_0)∧S_=⟨Am [(1,.box (oi 0 1) 0),(4,.box (oi 1 1) 0),(11,.tree T4 a0_1),(12,ai ((a0_1.length:Nat):Int)),(13,ai ((l5_m13:Nat):Int))],Ak (An [(oi 0 1,.cells 31 [ai a0_0,.tree T4 a0_1,.tree .int a0_2]),(oi 1 1,.cells 100 [.mp (oi 2 1)]),(oi 2 1,.map 100 .bool l5_m4_0)]),2⟩) ⟨_,Ac [(oi 0 1,oi 1 1),(oi 1 1,oi 4 5),(oi 2 1,oi 9 4)],⟨0,[],rfl,rfl⟩⟩ ?_;rintro n_ _ _ c_ ⟨l5_m13,l5_m4_0,rfl,rfl⟩ h hn5
  (try dsimp only at h);unfold Bv at h;unfold F4;refine Al ?_;refine Ab ?_;rcases Ad h with ⟨q8,h⟩ | ⟨q8,h⟩
  ·have q8_:=of_decide_eq_true q8;refine Ag q8 ?_;refine Ai (tn_ ?_);refine wr_ ?_;refine As h (fun (l9_m4_0:List (Int×Bool)) S_=>S_=⟨Am [(1,.box (oi 0 1) 0),(4,.box (oi 1 1) 0),(11,.tree T4 a0_1),(12,ai ((a0_1.length:Nat):Int)),(13,ai ((l5_m13:Nat):Int))],Ak (An [(oi 0 1,.cells 31 [ai a0_0,.tree T4 a0_1,.tree .int a0_2]),(oi 1 1,.cells 100 [.mp (oi 2 1)]),(oi 2 1,.map 100 .bool l9_m4_0)]),2⟩) ?_ ?_
   ·intro v_ h;refine Ah ?_;refine Ab ?_;obtain ⟨x11,e11,h⟩:=Ae h;refine Aa 9 ?_;refine rz0 (ai ((l5_m13:Nat):Int)) ?_;refine rs0 (.telt T4 x11 0) (zi (t:=T4) (xs:=a0_1) (k:=.i64) (m:=((l5_m13:Nat):Int)) (Ba _) e11) ?_;refine rsB 4 ?_;refine Ao (tn_ ?_);refine wr_ ?_;refine Ab ?_;obtain ⟨y13,h13,h⟩:=Ae h;refine Aa 13 ?_;refine rzl (.agg [ai x11.1,ai x11.2.1,ai x11.2.2.1,ai x11.2.2.2]) ?_;refine zc (.own (oi 304 10) .int 0 y13.length) [(oi 304 10,some (.arr 3 .int y13))] [.agg [ai x11.1,ai x11.2.1,ai x11.2.2.1,ai x11.2.2.2]] (Kt h13) ?_;refine rsB 2 ?_;refine Ao (tn_ ?_);refine wr_ ?_;rcases Ad h with ⟨q14,h⟩ | ⟨q14,h⟩
    ·have q14_:=of_decide_eq_true q14;refine Ag q14 ?_;obtain ⟨g15,h⟩:=Aq h;refine Aa 16 ?_;refine rzl (.mp (oi 2 1)) ?_;refine rz0 (ai ((l5_m13:Nat):Int)) ?_;refine Sk (oi 2 1) (oi 2 1) (.map 100 .bool (Qh l5_m4_0 ((l5_m13:Nat):Int) true)) (Anh (es:=l5_m4_0) (k:=((l5_m13:Nat):Int)) (nv:=true) (by kernel_rfl) (by kernel_rfl) (by kernel_rfl) (by kernel_rfl) g15) ?_;refine Ao (bn_ (tn_ ?_));obtain rfl:=zj h;exact ⟨_,Ac [],rfl⟩
    have q14_:=of_decide_eq_false q14;refine Af q14 ?_;refine Ai (bn_ (tn_ ?_));obtain rfl:=zj h;exact ⟨_,Ac [],rfl⟩
   rintro l9_m4_0 _ rfl h
   (try dsimp only at h);obtain ⟨g16,h⟩:=Aq h;refine Aa 4 ?_;refine rs0 (ai ((l5_m13+1:Nat):Int)) (za g16) ?_;refine rsB 1 ?_;refine Ao (tn_ ?_);obtain rfl:=zj h;exact ⟨(l5_m13+1,l9_m4_0),_,Ac [],⟨l5_m13+1,l9_m4_0,rfl,rfl⟩,hn5⟩
  have q8_:=of_decide_eq_false q8;refine Af q8 ?_;refine Av (te_ (te_ (be_ (tn_ ?_))));obtain rfl:=zj h;have h:=hn5
  (try dsimp only at h);obtain rfl:=zj h;exact ⟨_,Ac [],rfl⟩
 rintro l3_m4_0 _ rfl h
 (try dsimp only at h);refine Al ?_;refine C0 h (fun (l18_m7:List Int) S_=>S_=⟨Am [(7,.own (oi 0 1) .int 0 l18_m7.length)],Ak (An [(oi 0 1,.arr 3 .int l18_m7)]),2⟩) ?_ ?_
 ·intro v_ h hk18;refine Ah ?_;refine Ax h (fun t_ S_=>∃ (l19_m7:List Int),∃ (l19_m4_0:List (Int×Bool)),t_=(l19_m7,l19_m4_0)∧S_=⟨Am [(1,.box (oi 0 1) 0),(4,.box (oi 1 1) 0),(7,.own (oi 2 1) .int 0 l19_m7.length)],Ak (An [(oi 0 1,.cells 31 [ai a0_0,.tree T4 a0_1,.tree .int a0_2]),(oi 1 1,.cells 100 [.mp (oi 3 1)]),(oi 2 1,.arr 3 .int l19_m7),(oi 3 1,.map 100 .bool l19_m4_0)]),2⟩) ⟨_,Ac [(oi 3 1,oi 2 1),(oi 2 1,oi 25 2)],⟨[],l3_m4_0,rfl,rfl⟩⟩ ?_;rintro n_ _ _ c_ ⟨l19_m7,l19_m4_0,rfl,rfl⟩ h hn19
  (try dsimp only at h);unfold Bs at h;unfold F9;refine Ab ?_;refine Al ?_;rcases Ad h with ⟨q22,h⟩ | ⟨q22,h⟩
  ·have q22_:=of_decide_eq_true q22;refine Ag q22 ?_;refine Ai (tn_ ?_);refine wr_ ?_;refine Ah ?_;refine Ab ?_;obtain ⟨y24,h24,h⟩:=Ae h;obtain ⟨y25,h25,h⟩:=Ae h;refine Aa 12 ?_;refine rz0 (.box (oi 0 1) 1) ?_;refine rzl (.tree T4 a0_1) ?_;refine rz0 (ai ((a0_1.length:Nat):Int)) ?_;refine zc (.own (oi 512 8) .int 0 y24.length) [(oi 512 8,some (.arr 3 .int y24))] [ai ((a0_1.length:Nat):Int)] (Adv h24) ?_;refine rz0 (.fn 81 [.box (oi 1 1) 0,.box (oi 0 1) 0]) ?_;refine Bh (ai y25) [] [.own (oi 512 8) .int 0 y24.length,.fn 81 [.box (oi 1 1) 0,.box (oi 0 1) 0]] _ (caps:=[]) (args0:=[.tree .int y24,.fn 81 [.ref [.mtree 100 .bool l19_m4_0],.ref [ai a0_0,.tree T4 a0_1,.tree .int a0_2]]]) trivial (Aw (B1 (e:=3) (by kernel_rfl) rfl) (Aw (by kernel_rfl) Cw)) (Df h25) J1 ?_;refine rsB 1 ?_;refine Ao (tn_ ?_);refine wr_ ?_;refine Ab ?_;refine Al ?_;rcases Ad h with ⟨q28,h⟩ | ⟨q28,h⟩
   ·have q28_:=of_decide_eq_true q28;refine Ag q28 ?_;refine Al ?_;refine Aj (tr_ (br_ (tr_ (br_ (tr_ ?_)))));obtain rfl:=zj h;have h:=hn19
    (try dsimp only at h);obtain rfl:=zj h;have h:=hk18
    (try dsimp only at h);obtain rfl:=zj h;exact Bk [.nils,.bool false] (At rfl (Ad7 rfl) (At rfl zl A5))
   have q28_:=of_decide_eq_false q28;refine Af q28 ?_;refine Ai (tn_ ?_);refine wr_ ?_;refine Ab ?_;obtain ⟨g31,h⟩:=Aq h;refine Aa 17 ?_;refine rzl (.mp (oi 3 1)) ?_;refine rz0 (ai y25) ?_;refine Sk (oi 3 1) (oi 3 1) (.map 100 .bool (Ii l19_m4_0 y25)) (Anw (t:=.bool) (es:=l19_m4_0) (k:=y25) (by kernel_rfl) (by kernel_rfl) (by kernel_rfl) g31) ?_;refine Ao (tn_ ?_);refine wr_ ?_;obtain ⟨g32,h⟩:=Aq h;refine Aa 22 ?_;refine rz0 (.own (oi 2 1) .int 0 l19_m7.length) ?_;refine rz0 (ai y25) ?_;refine rs1 (.own (oi 41 19) .int 0 1) (oi 41 19) (.arr 3 .int ([y25])) (by kernel_rfl) ?_;refine rs2 (.own (oi 2 20) .int 0 ((l19_m7++([y25])).length)) (oi 2 1) (oi 2 20) (.arr 3 .int (l19_m7++([y25]))) (L0 (t:=.int) (t':=.int) (xs:=l19_m7) (ys:=[y25]) (zs:=l19_m7++([y25])) (j:=oi 2 1) (len:=l19_m7.length) (c:=.own (oi 41 19) .int 0 1) (by kernel_rfl) (by kernel_rfl) rfl (by kernel_rfl) (Py (e:=3) (by kernel_rfl) rfl) rfl g32) ?_;refine rsB 1 ?_;refine Ao (bn_ (tn_ ?_));obtain rfl:=zj h;exact ⟨(l19_m7++([y25]),Ii l19_m4_0 y25),_,Ac [(oi 2 1,oi 2 20)],⟨l19_m7++([y25]),Ii l19_m4_0 y25,rfl,rfl⟩,hn19⟩
  have q22_:=of_decide_eq_false q22;refine Af q22 ?_;refine Av (te_ (te_ (be_ (tn_ ?_))));obtain rfl:=zj h;have h:=hn19
  (try dsimp only at h);obtain rfl:=zj h;exact ⟨l19_m7,_,rfl,Ac [(oi 0 1,oi 2 1)],rfl⟩
 rintro l18_m7 _ rfl h
 (try dsimp only at h);refine Al ?_;refine Aj ?_;obtain rfl:=zj h;exact Bk [.own (oi 0 1) .int 0 l18_m7.length,.bool true] (At rfl (Er (by kernel_rfl) rfl) (At rfl zl A5))
def Jw:AC :=
 (.seq (rg [xo 44 (qb .lss (tm 43) (tm 42))])
 (.seq (.cond (tm 44)
  .skip
  (.exit 0))
 (.seq (.block 1 (.seq (rg [xo 45 (qx 4 (tm 41) (tm 43)),xo 46 (.i (.ld false 4 (tm 45))),xo 6 (.i (.alloc 59 [.int .i64 0,.int .i64 0,.int .i64 0,.int .i64 0])),xn (.st false 4 (tm 6) (tm 46))])
 (.seq (rg [xo 47 (.i (.ld false 3 (tm 3))),xo 48 (qm (tm 0)),xo 49 (.i (.ld false 4 (tm 6))),⟨some 50,none,qc 64 [tm 47,tm 48,tm 49] [[none,some T4,some .int],[],[none,none,none,none]]⟩,xo 51 (.i (.not (tm 50)))])
 (.cond (tm 51)
  (.seq (rg [xo 4 (qm (cb false))])
  .ret)
  .skip))))
 (rg [xo 52 (qb .add (tm 43) (ci 1)),xo 43 (qm (tm 52))]))))
def Mh:AC :=
 (.seq (rg [xo 3 (.i (.box 31 (tm 1))),xo 4 (qm (cb false))])
 (.seq (.seq (rg [xo 9 (qm (tm 0)),xo 10 (qc 61 [tm 9] [[]]),xo 11 (.i (.not (tm 10))),xo 12 (qm (tm 11)),⟨some 13,some (12,false),qf 0 (tm 3)⟩,⟨some 14,some (12,false),ql (tm 13)⟩,⟨some 15,some (12,false),qc 62 [tm 14,ci 0,ci 8] [[],[],[]]⟩,⟨some 16,some (12,false),.i (.not (tm 15))⟩,xo 17 (.i (.pick (tm 12) (cb true) (tm 16))),xo 18 (qm (tm 17)),⟨some 19,some (18,false),qf 1 (tm 3)⟩,⟨some 20,some (18,false),ql (tm 19)⟩,⟨some 21,some (18,false),.i (.len (tm 20))⟩,⟨some 22,some (18,false),qc 62 [tm 21,ci 1,ci 40] [[],[],[]]⟩,⟨some 23,some (18,false),.i (.not (tm 22))⟩,xo 24 (.i (.pick (tm 18) (cb true) (tm 23))),xo 25 (qm (tm 24)),⟨some 26,some (25,false),qf 2 (tm 3)⟩,⟨some 27,some (25,false),ql (tm 26)⟩,⟨some 28,some (25,false),.i (.len (tm 27))⟩,⟨some 29,some (25,false),qb .gtr (tm 28) (ci 8)⟩,xo 30 (.i (.pick (tm 25) (cb true) (tm 29))),xo 31 (qm (tm 30)),⟨some 32,some (31,false),qf 2 (tm 3)⟩,⟨some 33,some (31,false),ql (tm 32)⟩,⟨some 34,some (31,false),qf 1 (tm 3)⟩,⟨some 35,some (31,false),ql (tm 34)⟩,⟨some 36,some (31,false),.i (.len (tm 35))⟩,⟨some 37,some (31,false),qc 63 [tm 33,tm 36] [[some .int],[]]⟩,⟨some 38,some (31,false),.i (.not (tm 37))⟩,xo 39 (.i (.pick (tm 31) (cb true) (tm 38)))])
 (.cond (tm 39)
  (.seq (rg [xo 4 (qm (cb false))])
  .ret)
  .skip))
 (.seq (.seq (rg [xo 40 (qf 1 (tm 3)),xo 41 (ql (tm 40)),xo 42 (.i (.len (tm 41))),xo 43 (qm (ci 0))])
 (.block 0 (.loop Jw)))
 (.seq (rg [xo 54 (.i (.ld false 3 (tm 3))),⟨some 55,none,qc 65 [tm 54] [[none,some T4,some .int]]⟩,xo 53 (qm (tm 55)),xo 56 (.i (.extr 0 (tm 53))),xo 57 (.i (.extr 1 (tm 53))),xo 7 (qm (tm 56)),xo 8 (qm (tm 57))])
 (.seq (rg [xo 58 (qm (tm 8)),xo 4 (qm (tm 58))])
 .ret)))))
def Ug:List Res:=[.tmp 4]
theorem Tq:Ar Tryd.prog Tryd.f43=some (Mh,Ug):=by kernel_rfl
theorem H1:A6 Tryd.prog 43=true:=by kernel_rfl
def Em (a1_1:List (Int×Int×Int×Int)) (a1_0:Int) (a1_2:List Int) (a0:Int) (l16_m43:Nat):Option (Ctl Nat (Ctl Unit Bool)) :=
 cond (decide (((l16_m43:Nat):Int)<((a1_1.length:Nat):Int)))
 (Option.bind (a1_1[l16_m43]?) fun x22 =>
 Option.bind (Cx a1_0 a1_1 a1_2 a0 x22.1 x22.2.1 x22.2.2.1 x22.2.2.2) fun y24 =>
 cond (!y24)
  (some (Ctl.out (Ctl.out false)))
  (og (l16_m43+1<4611686018427387904) <|
  some (Ctl.next (l16_m43+1))))
 (some (Ctl.out (Ctl.next ())))
def Dv (a0:Int) (a1_0:Int) (a1_1:List (Int×Int×Int×Int)) (a1_2:List Int):Option Bool :=
 Option.bind (Option.bind (Ke a0) fun y4 =>
 cond (!y4)
  (some true)
  (Option.bind (Dp a1_0 0 8) fun y6 =>
  cond (!y6)
   (some true)
   (Option.bind (Dp ((a1_1.length:Nat):Int) 1 40) fun y8 =>
   cond (!y8)
    (some true)
    (cond (decide (8<((a1_2.length:Nat):Int)))
     (some true)
     (Option.bind (D7 a1_2 ((a1_1.length:Nat):Int)) fun y11 =>
     some (!y11)))))) fun l3_m39 =>
cond l3_m39
 (some false)
 (Ix (Ay (fun s_:Nat=>Em a1_1 a1_0 a1_2 a0 s_) 4611686018427387904 0) fun _ =>
 Option.bind (B4 a1_0 a1_1 a1_2) fun y29 =>
 some y29.2)
def Tc (r:Bool):RV:=⟨false,[(false,[.sc (.bool r)])]⟩
set_option maxHeartbeats 1600000 in
theorem Cl {a0:Int} {a1_0:Int} {a1_1:List (Int×Int×Int×Int)} {a1_2:List Int} {r:Bool} (h:Dv a0 a1_0 a1_1 a1_2=some r):A4 Tryd.prog Tab 43 [ai a0,.agg [ai a1_0,.tree T4 a1_1,.tree .int a1_2]] (Tc r):=by
 refine A0 (by kernel_rfl) Tryd.func43 Tq (n:=59) (by kernel_rfl) (by simp) (tl:=[(0,ai a0),(1,.agg [ai a1_0,.tree T4 a1_1,.tree .int a1_2])]) rfl ?_;unfold Mh;unfold Dv at h;refine Al ?_;refine Ab ?_;refine As h (fun (l3_m39:Bool) S_=>S_=⟨Am [(0,ai a0),(3,.box (oi 0 1) 0),(39,.bool l3_m39)],Ak (An [(oi 0 1,.cells 31 [ai a1_0,.tree T4 a1_1,.tree .int a1_2])]),2⟩) ?_ ?_
 ·intro v_ h;obtain ⟨y4,h4,h⟩:=Ae h;rcases Ad h with ⟨q5,h⟩ | ⟨q5,h⟩
  ·refine Aa 34 ?_;refine rz0 (ai a0) ?_;refine zc (.bool y4) [] [ai a0] (Fl h4) ?_;refine rz0 (.bool (!y4)) ?_;refine rz0 (.bool (!y4)) ?_;refine zs q5 ?_;refine zs q5 ?_;refine zs q5 ?_;refine zs q5 ?_;refine rs0 (.bool true) (zT q5) ?_;refine rsB 22 ?_;refine Ao (tn_ ?_);obtain rfl:=zj h;exact ⟨_,Ac [(oi 0 1,oi 3 1)],rfl⟩
  obtain ⟨y6,h6,h⟩:=Ae h;rcases Ad h with ⟨q7,h⟩ | ⟨q7,h⟩
  ·refine Aa 34 ?_;refine rz0 (ai a0) ?_;refine zc (.bool y4) [] [ai a0] (Fl h4) ?_;refine rz0 (.bool (!y4)) ?_;refine rz0 (.bool (!y4)) ?_;refine rs0 (.box (oi 3 1) 0) (zg q5) ?_;refine rsl (ai a1_0) (zg q5) ?_;refine Bh (.bool y6) [] [ai a1_0,ai 0,ai 8] _ (caps:=[]) (args0:=[ai a1_0,ai 0,ai 8]) (Bj (by kernel_rfl) q5) (by kernel_rfl) (Cm h6) Dc ?_;refine rs0 (.bool (!y6)) (zg q5) ?_;refine rs0 (.bool (!y6)) (zF q5) ?_;refine rz0 (.bool (!y6)) ?_;refine zs q7 ?_;refine zs q7 ?_;refine zs q7 ?_;refine zs q7 ?_;refine zs q7 ?_;refine rs0 (.bool true) (zT q7) ?_;refine rsB 15 ?_;refine Ao (tn_ ?_);obtain rfl:=zj h;exact ⟨_,Ac [(oi 0 1,oi 3 1)],rfl⟩
  obtain ⟨y8,h8,h⟩:=Ae h;rcases Ad h with ⟨q9,h⟩ | ⟨q9,h⟩
  ·refine Aa 34 ?_;refine rz0 (ai a0) ?_;refine zc (.bool y4) [] [ai a0] (Fl h4) ?_;refine rz0 (.bool (!y4)) ?_;refine rz0 (.bool (!y4)) ?_;refine rs0 (.box (oi 3 1) 0) (zg q5) ?_;refine rsl (ai a1_0) (zg q5) ?_;refine Bh (.bool y6) [] [ai a1_0,ai 0,ai 8] _ (caps:=[]) (args0:=[ai a1_0,ai 0,ai 8]) (Bj (by kernel_rfl) q5) (by kernel_rfl) (Cm h6) Dc ?_;refine rs0 (.bool (!y6)) (zg q5) ?_;refine rs0 (.bool (!y6)) (zF q5) ?_;refine rz0 (.bool (!y6)) ?_;refine rs0 (.box (oi 3 1) 1) (zg q7) ?_;refine rsl (.tree T4 a1_1) (zg q7) ?_;refine rs0 (ai ((a1_1.length:Nat):Int)) (zg q7) ?_;refine Bh (.bool y8) [] [ai ((a1_1.length:Nat):Int),ai 1,ai 40] _ (caps:=[]) (args0:=[ai ((a1_1.length:Nat):Int),ai 1,ai 40]) (Bj (by kernel_rfl) q7) (by kernel_rfl) (Cm h8) Dc ?_;refine rs0 (.bool (!y8)) (zg q7) ?_;refine rs0 (.bool (!y8)) (zF q7) ?_;refine rz0 (.bool (!y8)) ?_;refine zs q9 ?_;refine zs q9 ?_;refine zs q9 ?_;refine zs q9 ?_;refine rs0 (.bool true) (zT q9) ?_;refine rsB 9 ?_;refine Ao (tn_ ?_);obtain rfl:=zj h;exact ⟨_,Ac [(oi 0 1,oi 3 1)],rfl⟩
  rcases Ad h with ⟨q10,h⟩ | ⟨q10,h⟩
  ·have q10_:=of_decide_eq_true q10;refine Aa 34 ?_;refine rz0 (ai a0) ?_;refine zc (.bool y4) [] [ai a0] (Fl h4) ?_;refine rz0 (.bool (!y4)) ?_;refine rz0 (.bool (!y4)) ?_;refine rs0 (.box (oi 3 1) 0) (zg q5) ?_;refine rsl (ai a1_0) (zg q5) ?_;refine Bh (.bool y6) [] [ai a1_0,ai 0,ai 8] _ (caps:=[]) (args0:=[ai a1_0,ai 0,ai 8]) (Bj (by kernel_rfl) q5) (by kernel_rfl) (Cm h6) Dc ?_;refine rs0 (.bool (!y6)) (zg q5) ?_;refine rs0 (.bool (!y6)) (zF q5) ?_;refine rz0 (.bool (!y6)) ?_;refine rs0 (.box (oi 3 1) 1) (zg q7) ?_;refine rsl (.tree T4 a1_1) (zg q7) ?_;refine rs0 (ai ((a1_1.length:Nat):Int)) (zg q7) ?_;refine Bh (.bool y8) [] [ai ((a1_1.length:Nat):Int),ai 1,ai 40] _ (caps:=[]) (args0:=[ai ((a1_1.length:Nat):Int),ai 1,ai 40]) (Bj (by kernel_rfl) q7) (by kernel_rfl) (Cm h8) Dc ?_;refine rs0 (.bool (!y8)) (zg q7) ?_;refine rs0 (.bool (!y8)) (zF q7) ?_;refine rz0 (.bool (!y8)) ?_;refine rs0 (.box (oi 3 1) 2) (zg q9) ?_;refine rsl (.tree .int a1_2) (zg q9) ?_;refine rs0 (ai ((a1_2.length:Nat):Int)) (zg q9) ?_;refine rs0 (.bool (decide (8<((a1_2.length:Nat):Int)))) (zg q9) ?_;refine rs0 (.bool (decide (8<((a1_2.length:Nat):Int)))) (zF q9) ?_;refine rz0 (.bool (decide (8<((a1_2.length:Nat):Int)))) ?_;refine zs q10 ?_;refine zs q10 ?_;refine zs q10 ?_;refine zs q10 ?_;refine zs q10 ?_;refine zs q10 ?_;refine zs q10 ?_;refine rs0 (.bool true) (zT q10) ?_;refine Ao (tn_ ?_);obtain rfl:=zj h;exact ⟨_,Ac [(oi 0 1,oi 3 1)],rfl⟩
  have q10_:=of_decide_eq_false q10;obtain ⟨y11,h11,h⟩:=Ae h;refine Aa 34 ?_;refine rz0 (ai a0) ?_;refine zc (.bool y4) [] [ai a0] (Fl h4) ?_;refine rz0 (.bool (!y4)) ?_;refine rz0 (.bool (!y4)) ?_;refine rs0 (.box (oi 3 1) 0) (zg q5) ?_;refine rsl (ai a1_0) (zg q5) ?_;refine Bh (.bool y6) [] [ai a1_0,ai 0,ai 8] _ (caps:=[]) (args0:=[ai a1_0,ai 0,ai 8]) (Bj (by kernel_rfl) q5) (by kernel_rfl) (Cm h6) Dc ?_;refine rs0 (.bool (!y6)) (zg q5) ?_;refine rs0 (.bool (!y6)) (zF q5) ?_;refine rz0 (.bool (!y6)) ?_;refine rs0 (.box (oi 3 1) 1) (zg q7) ?_;refine rsl (.tree T4 a1_1) (zg q7) ?_;refine rs0 (ai ((a1_1.length:Nat):Int)) (zg q7) ?_;refine Bh (.bool y8) [] [ai ((a1_1.length:Nat):Int),ai 1,ai 40] _ (caps:=[]) (args0:=[ai ((a1_1.length:Nat):Int),ai 1,ai 40]) (Bj (by kernel_rfl) q7) (by kernel_rfl) (Cm h8) Dc ?_;refine rs0 (.bool (!y8)) (zg q7) ?_;refine rs0 (.bool (!y8)) (zF q7) ?_;refine rz0 (.bool (!y8)) ?_;refine rs0 (.box (oi 3 1) 2) (zg q9) ?_;refine rsl (.tree .int a1_2) (zg q9) ?_;refine rs0 (ai ((a1_2.length:Nat):Int)) (zg q9) ?_;refine rs0 (.bool (decide (8<((a1_2.length:Nat):Int)))) (zg q9) ?_;refine rs0 (.bool (decide (8<((a1_2.length:Nat):Int)))) (zF q9) ?_;refine rz0 (.bool (decide (8<((a1_2.length:Nat):Int)))) ?_;refine rs0 (.box (oi 3 1) 2) (zg q10) ?_;refine rsl (.tree .int a1_2) (zg q10) ?_;refine rs0 (.box (oi 3 1) 1) (zg q10) ?_;refine rsl (.tree T4 a1_1) (zg q10) ?_;refine rs0 (ai ((a1_1.length:Nat):Int)) (zg q10) ?_;refine Bh (.bool y11) [] [.tree .int a1_2,ai ((a1_1.length:Nat):Int)] _ (caps:=[]) (args0:=[.tree .int a1_2,ai ((a1_1.length:Nat):Int)]) (Bj (by kernel_rfl) q10) (by kernel_rfl) (Mn h11) Ml ?_;refine rs0 (.bool (!y11)) (zg q10) ?_;refine rs0 (.bool (!y11)) (zF q10) ?_;refine Ao (tn_ ?_);obtain rfl:=zj h;exact ⟨_,Ac [(oi 0 1,oi 3 1)],rfl⟩
 rintro l3_m39 _ rfl h
 (try dsimp only at h);rcases Ad h with ⟨q12,h⟩ | ⟨q12,h⟩
 ·refine Ag q12 ?_;refine Al ?_;refine Aj (tr_ ?_);obtain rfl:=zj h;exact Bk [.bool false] (At rfl zl A5)
 refine Af q12 ?_;refine Ai (tn_ ?_);refine wr_ ?_;refine C0 h (fun (_:Unit) S_=>S_=⟨Am [(3,.box (oi 0 1) 0)],Ak (An [(oi 0 1,.cells 31 [ai a1_0,.tree T4 a1_1,.tree .int a1_2])]),2⟩) ?_ ?_
 ·intro v_ h hk14;refine Al ?_;refine Ah ?_;refine Ax h (fun (l16_m43:Nat) S_=>S_=⟨Am [(0,ai a0),(3,.box (oi 0 1) 0),(41,.tree T4 a1_1),(42,ai ((a1_1.length:Nat):Int)),(43,ai ((l16_m43:Nat):Int))],Ak (An [(oi 0 1,.cells 31 [ai a1_0,.tree T4 a1_1,.tree .int a1_2])]),2⟩) ⟨_,Ac [],rfl⟩ ?_;rintro n_ l16_m43 _ c_ rfl h hn16
  (try dsimp only at h);unfold Em at h;unfold Jw;refine Al ?_;refine Ab ?_;rcases Ad h with ⟨q19,h⟩ | ⟨q19,h⟩
  ·have q19_:=of_decide_eq_true q19;refine Ag q19 ?_;refine Ai (tn_ ?_);refine wr_ ?_;refine Ab ?_;refine Ah ?_;refine Ab ?_;obtain ⟨x22,e22,h⟩:=Ae h;refine Aa 7 ?_;refine rs0 (.telt T4 x22 0) (zi (t:=T4) (xs:=a1_1) (k:=.i64) (m:=((l16_m43:Nat):Int)) (Ba _) e22) ?_;refine rsB 3 ?_;refine Ao (tn_ ?_);refine wr_ ?_;refine Ab ?_;obtain ⟨y24,h24,h⟩:=Ae h;refine Aa 12 ?_;refine rzl (.agg [ai a1_0,.tree T4 a1_1,.tree .int a1_2]) ?_;refine rz0 (ai a0) ?_;refine rzl (.agg [ai x22.1,ai x22.2.1,ai x22.2.2.1,ai x22.2.2.2]) ?_;refine zc (.bool y24) [] [.agg [ai a1_0,.tree T4 a1_1,.tree .int a1_2],ai a0,.agg [ai x22.1,ai x22.2.1,ai x22.2.2.1,ai x22.2.2.2]] (M2 h24) ?_;refine rsB 1 ?_;refine Ao (tn_ ?_);refine wr_ ?_;rcases Ad h with ⟨q25,h⟩ | ⟨q25,h⟩
   ·refine Ag q25 ?_;refine Al ?_;refine Aj (br_ (tr_ (tr_ (br_ (tr_ ?_)))));obtain rfl:=zj h;have h:=hn16
    (try dsimp only at h);obtain rfl:=zj h;have h:=hk14
    (try dsimp only at h);obtain rfl:=zj h;exact Bk [.bool false] (At rfl zl A5)
   refine Af q25 ?_;refine Ai (bn_ (tn_ ?_));refine wr_ ?_;obtain ⟨g27,h⟩:=Aq h;refine Aa 14 ?_;refine rs0 (ai ((l16_m43+1:Nat):Int)) (za g27) ?_;refine rsB 1 ?_;refine Ao (tn_ ?_);obtain rfl:=zj h;exact ⟨l16_m43+1,_,Ac [],rfl,hn16⟩
  have q19_:=of_decide_eq_false q19;refine Af q19 ?_;refine Av (te_ (te_ (be_ (tn_ ?_))));obtain rfl:=zj h;have h:=hn16
  (try dsimp only at h);obtain rfl:=zj h;exact ⟨(),_,rfl,Ac [],rfl⟩
 rintro _ _ rfl h
 (try dsimp only at h);refine Ab ?_;obtain ⟨y29,h29,h⟩:=Ae h;refine Aa 9 ?_;refine rzl (.agg [ai a1_0,.tree T4 a1_1,.tree .int a1_2]) ?_;refine zc (.tup [.own (oi 880 3) .int 0 y29.1.length,.bool y29.2]) [(oi 880 3,some (.arr 3 .int y29.1))] [.agg [ai a1_0,.tree T4 a1_1,.tree .int a1_2]] (G0 h29) ?_;refine rsB 5 ?_;refine Ao (tn_ ?_);refine wr_ ?_;refine Al ?_;refine Aj ?_;obtain rfl:=zj h;exact Bk [.bool y29.2] (At rfl zl A5)
end
section
open Go.RowKit Go.Deep
set_option maxRecDepth 4000
def Hb:AC :=
 (.seq (rg [xo 11 (qb .lss (tm 10) (tm 9))])
 (.seq (.cond (tm 11)
  .skip
  (.exit 0))
 (.seq (.block 1 (.seq (rg [xo 12 (qm (tm 10)),xo 13 (qx 4 (tm 8) (tm 10)),xo 14 (.i (.ld false 4 (tm 13))),xo 5 (.i (.alloc 59 [.int .i64 0,.int .i64 0,.int .i64 0,.int .i64 0])),xo 4 (qm (tm 12)),xn (.st false 4 (tm 5) (tm 14))])
 (.seq (rg [xo 15 (qf 0 (tm 5)),xo 16 (ql (tm 15)),xo 17 (qb .eql (tm 16) (ci 5))])
 (.cond (tm 17)
  (rg [xo 18 (qm (tm 3)),xo 19 (qm (tm 4)),xo 20 (.mkS 3 .int [tm 19]),xo 21 (.append 3 .int 8 (tm 18) (tm 20)),xo 3 (qm (tm 21))])
  .skip))))
 (rg [xo 22 (qb .add (tm 10) (ci 1)),xo 10 (qm (tm 22))]))))
def Is:AC :=
 (.seq (rg [xo 1 (.i (.box 31 (tm 0))),xo 2 (qm (.cst .nils))])
 (.seq (rg [xo 6 (.mkS 3 .int []),xo 3 (qm (tm 6))])
 (.seq (.seq (rg [xo 7 (qf 1 (tm 1)),xo 8 (ql (tm 7)),xo 9 (.i (.len (tm 8))),xo 10 (qm (ci 0))])
 (.block 0 (.loop Hb)))
 (.seq (rg [xo 23 (qm (tm 3)),xo 2 (qm (tm 23))])
 .ret))))
def Og:List Res:=[.tmp 2]
theorem Oo:Ar Tryd.prog Tryd.f44=some (Is,Og):=by kernel_rfl
theorem Nh:A6 Tryd.prog 44=true:=by kernel_rfl
def G2 (a0_1:List (Int×Int×Int×Int)) (l5_m10:Nat) (l5_m3:List Int):Option (Ctl (Nat×List Int) (List Int)) :=
 cond (decide (((l5_m10:Nat):Int)<((a0_1.length:Nat):Int)))
 (Option.bind (Option.bind (a0_1[l5_m10]?) fun x11 =>
  cond (x11.1==5)
   (og (l5_m3.length+1<=1073741824∧(l5_m3.length+1)*8<=140737488355328) <|
   some (l5_m3++([((l5_m10:Nat):Int)])))
   (some l5_m3)) fun l9_m3 =>
 og (l5_m10+1<4611686018427387904) <|
 some (Ctl.next (l5_m10+1,l9_m3)))
 (some (Ctl.out l5_m3))
def C3 (a0_0:Int) (a0_1:List (Int×Int×Int×Int)) (a0_2:List Int):Option (List Int) :=
 Option.bind (Ay (fun s_:Nat×List Int=>G2 a0_1 s_.1 s_.2) 4611686018427387904 (0,[])) fun l3_m3 =>
some l3_m3
def Nl (r:List Int):RV:=⟨false,[(false,[.new 3 .int r])]⟩
theorem Ih {a0_0:Int} {a0_1:List (Int×Int×Int×Int)} {a0_2:List Int} {r:List Int} (h:C3 a0_0 a0_1 a0_2=some r):A4 Tryd.prog Tab 44 [.agg [ai a0_0,.tree T4 a0_1,.tree .int a0_2]] (Nl r):=by
 refine A0 (by kernel_rfl) Tryd.func44 Oo (n:=24) (by kernel_rfl) (by simp) (tl:=[(0,.agg [ai a0_0,.tree T4 a0_1,.tree .int a0_2])]) rfl ?_;unfold Is;unfold C3 at h;refine Al ?_;refine Al ?_;refine As h (fun (l3_m3:List Int) S_=>S_=⟨Am [(3,.own (oi 0 1) .int 0 l3_m3.length)],Ak (An [(oi 0 1,.arr 3 .int l3_m3)]),2⟩) ?_ ?_
 ·intro v_ h;refine Al ?_;refine Ah ?_;refine Ax h (fun t_ S_=>∃ (l5_m10:Nat),∃ (l5_m3:List Int),t_=(l5_m10,l5_m3)∧S_=⟨Am [(3,.own (oi 0 1) .int 0 l5_m3.length),(8,.tree T4 a0_1),(9,ai ((a0_1.length:Nat):Int)),(10,ai ((l5_m10:Nat):Int))],Ak (An [(oi 0 1,.arr 3 .int l5_m3)]),2⟩) ⟨_,Ac [(oi 0 1,oi 6 3)],⟨0,[],rfl,rfl⟩⟩ ?_;rintro n_ _ _ c_ ⟨l5_m10,l5_m3,rfl,rfl⟩ h hn5
  (try dsimp only at h);unfold G2 at h;unfold Hb;refine Al ?_;refine Ab ?_;rcases Ad h with ⟨q8,h⟩ | ⟨q8,h⟩
  ·have q8_:=of_decide_eq_true q8;refine Ag q8 ?_;refine Ai (tn_ ?_);refine wr_ ?_;refine As h (fun (l9_m3:List Int) S_=>S_=⟨Am [(3,.own (oi 0 1) .int 0 l9_m3.length),(8,.tree T4 a0_1),(9,ai ((a0_1.length:Nat):Int)),(10,ai ((l5_m10:Nat):Int))],Ak (An [(oi 0 1,.arr 3 .int l9_m3)]),2⟩) ?_ ?_
   ·intro v_ h;refine Ah ?_;refine Ab ?_;obtain ⟨x11,e11,h⟩:=Ae h;refine Aa 9 ?_;refine rz0 (ai ((l5_m10:Nat):Int)) ?_;refine rs0 (.telt T4 x11 0) (zi (t:=T4) (xs:=a0_1) (k:=.i64) (m:=((l5_m10:Nat):Int)) (Ba _) e11) ?_;refine rsB 4 ?_;refine Ao (tn_ ?_);refine wr_ ?_;refine Al ?_;rcases Ad h with ⟨q13,h⟩ | ⟨q13,h⟩
    ·refine Ag q13 ?_;obtain ⟨g14,h⟩:=Aq h;refine Aa 17 ?_;refine rz0 (.own (oi 0 1) .int 0 l5_m3.length) ?_;refine rz0 (ai ((l5_m10:Nat):Int)) ?_;refine rs1 (.own (oi 20 14) .int 0 1) (oi 20 14) (.arr 3 .int ([((l5_m10:Nat):Int)])) (by kernel_rfl) ?_;refine rs2 (.own (oi 0 15) .int 0 ((l5_m3++([((l5_m10:Nat):Int)])).length)) (oi 0 1) (oi 0 15) (.arr 3 .int (l5_m3++([((l5_m10:Nat):Int)]))) (L0 (t:=.int) (t':=.int) (xs:=l5_m3) (ys:=[((l5_m10:Nat):Int)]) (zs:=l5_m3++([((l5_m10:Nat):Int)])) (j:=oi 0 1) (len:=l5_m3.length) (c:=.own (oi 20 14) .int 0 1) (by kernel_rfl) (by kernel_rfl) rfl (by kernel_rfl) (Py (e:=3) (by kernel_rfl) rfl) rfl g14) ?_;refine rsB 1 ?_;refine Ao (bn_ (tn_ ?_));obtain rfl:=zj h;exact ⟨_,Ac [(oi 0 1,oi 0 15)],rfl⟩
    refine Af q13 ?_;refine Ai (bn_ (tn_ ?_));obtain rfl:=zj h;exact ⟨_,Ac [],rfl⟩
   rintro l9_m3 _ rfl h
   (try dsimp only at h);obtain ⟨g15,h⟩:=Aq h;refine Aa 4 ?_;refine rs0 (ai ((l5_m10+1:Nat):Int)) (za g15) ?_;refine rsB 1 ?_;refine Ao (tn_ ?_);obtain rfl:=zj h;exact ⟨(l5_m10+1,l9_m3),_,Ac [],⟨l5_m10+1,l9_m3,rfl,rfl⟩,hn5⟩
  have q8_:=of_decide_eq_false q8;refine Af q8 ?_;refine Av (te_ (te_ (be_ (tn_ ?_))));obtain rfl:=zj h;have h:=hn5
  (try dsimp only at h);obtain rfl:=zj h;exact ⟨_,Ac [],rfl⟩
 rintro l3_m3 _ rfl h
 (try dsimp only at h);refine Al ?_;refine Aj ?_;obtain rfl:=zj h;exact Bk [.own (oi 0 1) .int 0 l3_m3.length] (At rfl (Er (by kernel_rfl) rfl) A5)
def Kl:AC :=
 (.seq (rg [xo 10 (qb .lss (tm 9) (tm 8))])
 (.seq (.cond (tm 10)
  .skip
  (.exit 0))
 (.seq (.block 1 (.seq (rg [xo 11 (qm (tm 9)),xo 12 (qx 4 (tm 7) (tm 9)),xo 13 (.i (.ld false 4 (tm 12))),xo 5 (.i (.alloc 59 [.int .i64 0,.int .i64 0,.int .i64 0,.int .i64 0])),xo 4 (qm (tm 11)),xn (.st false 4 (tm 5) (tm 13))])
 (.seq (rg [xo 14 (qf 0 (tm 5)),xo 15 (ql (tm 14)),xo 16 (qb .eql (tm 15) (ci 5))])
 (.cond (tm 16)
  (rg [xo 17 (qm (tm 3)),xo 18 (qm (tm 4)),xo 19 (.mkS 3 .int [tm 18]),xo 20 (.append 3 .int 8 (tm 17) (tm 19)),xo 3 (qm (tm 20))])
  .skip))))
 (rg [xo 21 (qb .add (tm 9) (ci 1)),xo 9 (qm (tm 21))]))))
def N7:AC :=
 (.seq (rg [xo 1 (.i (.box 31 (tm 0))),xo 2 (qm (.cst .nils))])
 (.seq (rg [xo 3 (qm (.cst .nils))])
 (.seq (.seq (rg [xo 6 (qf 1 (tm 1)),xo 7 (ql (tm 6)),xo 8 (.i (.len (tm 7))),xo 9 (qm (ci 0))])
 (.block 0 (.loop Kl)))
 (.seq (rg [xo 22 (qm (tm 3)),xo 2 (qm (tm 22))])
 .ret))))
def Vr:List Res:=[.tmp 2]
theorem V7:Ar Tryd.prog Tryd.f38=some (N7,Vr):=by kernel_rfl
theorem Mp:A6 Tryd.prog 38=true:=by kernel_rfl
def Fa (a0_1:List (Int×Int×Int×Int)) (l5_m9:Nat) (l5_m3:List Int):Option (Ctl (Nat×List Int) (List Int)) :=
 cond (decide (((l5_m9:Nat):Int)<((a0_1.length:Nat):Int)))
 (Option.bind (Option.bind (a0_1[l5_m9]?) fun x11 =>
  cond (x11.1==5)
   (og (l5_m3.length+1<=1073741824∧(l5_m3.length+1)*8<=140737488355328) <|
   some (l5_m3++([((l5_m9:Nat):Int)])))
   (some l5_m3)) fun l9_m3 =>
 og (l5_m9+1<4611686018427387904) <|
 some (Ctl.next (l5_m9+1,l9_m3)))
 (some (Ctl.out l5_m3))
def Cp (a0_0:Int) (a0_1:List (Int×Int×Int×Int)) (a0_2:List Int):Option (List Int) :=
 Option.bind (Ay (fun s_:Nat×List Int=>Fa a0_1 s_.1 s_.2) 4611686018427387904 (0,[])) fun l3_m3 =>
some l3_m3
def Ut (r:List Int):RV:=⟨false,[(false,[.new 3 .int r])]⟩
theorem Gi {a0_0:Int} {a0_1:List (Int×Int×Int×Int)} {a0_2:List Int} {r:List Int} (h:Cp a0_0 a0_1 a0_2=some r):A4 Tryd.prog Tab 38 [.agg [ai a0_0,.tree T4 a0_1,.tree .int a0_2]] (Ut r):=by
 refine A0 (by kernel_rfl) Tryd.func38 V7 (n:=23) (by kernel_rfl) (by simp) (tl:=[(0,.agg [ai a0_0,.tree T4 a0_1,.tree .int a0_2])]) rfl ?_;unfold N7;unfold Cp at h;refine Al ?_;refine Al ?_;refine As h (fun (l3_m3:List Int) S_=>S_=⟨Am [(3,.own (oi 0 1) .int 0 l3_m3.length)],Ak (An [(oi 0 1,.arr 3 .int l3_m3)]),2⟩) ?_ ?_
 ·intro v_ h;refine Al ?_;refine Ah ?_;refine Ax h (fun t_ S_=>∃ (l5_m9:Nat),∃ (l5_m3:List Int),t_=(l5_m9,l5_m3)∧S_=⟨Am [(3,.own (oi 0 1) .int 0 l5_m3.length),(7,.tree T4 a0_1),(8,ai ((a0_1.length:Nat):Int)),(9,ai ((l5_m9:Nat):Int))],Ak (An [(oi 0 1,.arr 3 .int l5_m3)]),2⟩) ⟨_,(P2 3 3 .int rfl (by kernel_rfl)).trans (Ac [(oi 0 1,oi 3 8)]),⟨0,[],rfl,rfl⟩⟩ ?_;rintro n_ _ _ c_ ⟨l5_m9,l5_m3,rfl,rfl⟩ h hn5
  (try dsimp only at h);unfold Fa at h;unfold Kl;refine Al ?_;refine Ab ?_;rcases Ad h with ⟨q8,h⟩ | ⟨q8,h⟩
  ·have q8_:=of_decide_eq_true q8;refine Ag q8 ?_;refine Ai (tn_ ?_);refine wr_ ?_;refine As h (fun (l9_m3:List Int) S_=>S_=⟨Am [(3,.own (oi 0 1) .int 0 l9_m3.length),(7,.tree T4 a0_1),(8,ai ((a0_1.length:Nat):Int)),(9,ai ((l5_m9:Nat):Int))],Ak (An [(oi 0 1,.arr 3 .int l9_m3)]),2⟩) ?_ ?_
   ·intro v_ h;refine Ah ?_;refine Ab ?_;obtain ⟨x11,e11,h⟩:=Ae h;refine Aa 9 ?_;refine rz0 (ai ((l5_m9:Nat):Int)) ?_;refine rs0 (.telt T4 x11 0) (zi (t:=T4) (xs:=a0_1) (k:=.i64) (m:=((l5_m9:Nat):Int)) (Ba _) e11) ?_;refine rsB 4 ?_;refine Ao (tn_ ?_);refine wr_ ?_;refine Al ?_;rcases Ad h with ⟨q13,h⟩ | ⟨q13,h⟩
    ·refine Ag q13 ?_;obtain ⟨g14,h⟩:=Aq h;refine Aa 17 ?_;refine rz0 (.own (oi 0 1) .int 0 l5_m3.length) ?_;refine rz0 (ai ((l5_m9:Nat):Int)) ?_;refine rs1 (.own (oi 19 14) .int 0 1) (oi 19 14) (.arr 3 .int ([((l5_m9:Nat):Int)])) (by kernel_rfl) ?_;refine rs2 (.own (oi 0 15) .int 0 ((l5_m3++([((l5_m9:Nat):Int)])).length)) (oi 0 1) (oi 0 15) (.arr 3 .int (l5_m3++([((l5_m9:Nat):Int)]))) (L0 (t:=.int) (t':=.int) (xs:=l5_m3) (ys:=[((l5_m9:Nat):Int)]) (zs:=l5_m3++([((l5_m9:Nat):Int)])) (j:=oi 0 1) (len:=l5_m3.length) (c:=.own (oi 19 14) .int 0 1) (by kernel_rfl) (by kernel_rfl) rfl (by kernel_rfl) (Py (e:=3) (by kernel_rfl) rfl) rfl g14) ?_;refine rsB 1 ?_;refine Ao (bn_ (tn_ ?_));obtain rfl:=zj h;exact ⟨_,Ac [(oi 0 1,oi 0 15)],rfl⟩
    refine Af q13 ?_;refine Ai (bn_ (tn_ ?_));obtain rfl:=zj h;exact ⟨_,Ac [],rfl⟩
   rintro l9_m3 _ rfl h
   (try dsimp only at h);obtain ⟨g15,h⟩:=Aq h;refine Aa 4 ?_;refine rs0 (ai ((l5_m9+1:Nat):Int)) (za g15) ?_;refine rsB 1 ?_;refine Ao (tn_ ?_);obtain rfl:=zj h;exact ⟨(l5_m9+1,l9_m3),_,Ac [],⟨l5_m9+1,l9_m3,rfl,rfl⟩,hn5⟩
  have q8_:=of_decide_eq_false q8;refine Af q8 ?_;refine Av (te_ (te_ (be_ (tn_ ?_))));obtain rfl:=zj h;have h:=hn5
  (try dsimp only at h);obtain rfl:=zj h;exact ⟨_,Ac [],rfl⟩
 rintro l3_m3 _ rfl h
 (try dsimp only at h);refine Al ?_;refine Aj ?_;obtain rfl:=zj h;exact Bk [.own (oi 0 1) .int 0 l3_m3.length] (At rfl (Er (by kernel_rfl) rfl) A5)
end
section
open Go.RowKit Go.Deep
set_option maxRecDepth 4000
def Ig:AC :=
 (.seq (rg [xo 118 (qb .lss (tm 117) (tm 116))])
 (.seq (.cond (tm 118)
  .skip
  (.exit 6))
 (.seq (.block 7 (.seq (rg [xo 119 (qx 1 (tm 115) (tm 117)),xo 120 (ql (tm 119)),xo 23 (qm (tm 120))])
 (rg [xo 121 (qm (tm 21)),xo 122 (qm (tm 10)),xo 123 (qf 1 (tm 4)),xo 124 (ql (tm 123)),xo 125 (qm (tm 23)),xo 126 (qx 4 (tm 124) (tm 125)),xo 127 (qf 1 (tm 126)),xo 128 (ql (tm 127)),xo 129 (qx 1 (tm 122) (tm 128)),xo 130 (ql (tm 129)),xo 131 (.mkS 3 .int [tm 130]),xo 132 (.append 3 .int 8 (tm 121) (tm 131)),xo 21 (qm (tm 132))])))
 (rg [xo 133 (qb .add (tm 117) (ci 1)),xo 117 (qm (tm 133))]))))
def Hx:AC :=
 (.seq (rg [xo 73 (qb .lss (tm 72) (tm 71))])
 (.seq (.cond (tm 73)
  .skip
  (.exit 4))
 (.seq (.block 5 (.seq (rg [xo 74 (qx 1 (tm 70) (tm 72)),xo 75 (ql (tm 74)),xo 19 (qm (tm 75))])
 (.seq (rg [xo 76 (qf 1 (tm 4)),xo 77 (ql (tm 76)),xo 78 (qm (tm 19)),xo 79 (qx 4 (tm 77) (tm 78)),xo 80 (.i (.ld false 4 (tm 79))),xo 20 (.i (.alloc 59 [.int .i64 0,.int .i64 0,.int .i64 0,.int .i64 0])),xn (.st false 4 (tm 20) (tm 80))])
 (.seq (rg [xo 81 (qf 0 (tm 20)),xo 82 (ql (tm 81)),xo 83 (qb .eql (tm 82) (ci 3))])
 (.cond (tm 83)
  (.region [xo 84 (qm (tm 10)),xo 85 (qm (tm 19)),xo 86 (qm (tm 1)),xo 87 (qm (tm 10)),xo 88 (qf 1 (tm 20)),xo 89 (ql (tm 88)),xo 90 (qx 1 (tm 87) (tm 89)),xo 91 (ql (tm 90)),xo 92 (qm (tm 10)),xo 93 (qf 2 (tm 20)),xo 94 (ql (tm 93)),xo 95 (qx 1 (tm 92) (tm 94)),xo 96 (ql (tm 95)),xo 97 (qb .add (tm 91) (tm 96)),xo 98 (qc 66 [tm 86,tm 97] [[],[]]),xo 99 (qx 1 (tm 84) (tm 85)),xn (qs (tm 99) (tm 98))] true [])
  (.region [xo 100 (qm (tm 10)),xo 101 (qm (tm 19)),xo 102 (qm (tm 1)),xo 103 (qf 3 (tm 20)),xo 104 (ql (tm 103)),xo 105 (qm (tm 10)),xo 106 (qf 1 (tm 20)),xo 107 (ql (tm 106)),xo 108 (qx 1 (tm 105) (tm 107)),xo 109 (ql (tm 108)),xo 110 (qb .mul (tm 104) (tm 109)),xo 111 (qc 66 [tm 102,tm 110] [[],[]]),xo 112 (qx 1 (tm 100) (tm 101)),xn (qs (tm 112) (tm 111))] true []))))))
 (rg [xo 113 (qb .add (tm 72) (ci 1)),xo 72 (qm (tm 113))]))))
def H5:AC :=
 (.seq (rg [xo 49 (qb .lss (tm 48) (tm 47))])
 (.seq (.cond (tm 49)
  .skip
  (.exit 2))
 (.seq (.block 3 (.seq (rg [xo 50 (qm (tm 48)),xo 51 (qx 4 (tm 46) (tm 48)),xo 52 (.i (.ld false 4 (tm 51))),xo 15 (.i (.alloc 59 [.int .i64 0,.int .i64 0,.int .i64 0,.int .i64 0])),xo 14 (qm (tm 50)),xn (.st false 4 (tm 15) (tm 52))])
 (.seq (rg [xo 53 (qf 0 (tm 15)),xo 54 (ql (tm 53)),xo 55 (qb .eql (tm 54) (ci 1))])
 (.cond (tm 55)
  (rg [xo 56 (qm (tm 10)),xo 57 (qm (tm 14)),xo 58 (qm (tm 3)),xo 59 (qf 3 (tm 15)),xo 60 (ql (tm 59)),xo 61 (qx 1 (tm 58) (tm 60)),xo 62 (ql (tm 61)),xo 63 (qx 1 (tm 56) (tm 57)),xn (qs (tm 63) (tm 62))])
  .skip))))
 (rg [xo 64 (qb .add (tm 48) (ci 1)),xo 48 (qm (tm 64))]))))
def Id:AC :=
 (.seq (rg [xo 33 (qb .lss (tm 32) (tm 31))])
 (.seq (.cond (tm 33)
  .skip
  (.exit 0))
 (.seq (.block 1 (.seq (rg [xo 34 (qm (tm 32)),xo 35 (qx 1 (tm 30) (tm 32)),xo 36 (ql (tm 35)),xo 12 (qm (tm 34)),xo 13 (qm (tm 36))])
 (rg [xo 37 (qm (tm 10)),xo 38 (qm (tm 13)),xo 39 (qm (tm 2)),xo 40 (qm (tm 12)),xo 41 (qx 1 (tm 39) (tm 40)),xo 42 (ql (tm 41)),xo 43 (qx 1 (tm 37) (tm 38)),xn (qs (tm 43) (tm 42))])))
 (rg [xo 44 (qb .add (tm 32) (ci 1)),xo 32 (qm (tm 44))]))))
def Jy:AC :=
 (.seq (rg [xo 4 (.i (.box 31 (tm 0))),xo 8 (qm (.cst .nils)),xo 9 (qm (.cst .nils))])
 (.seq (rg [xo 24 (qf 1 (tm 4)),xo 25 (ql (tm 24)),xo 26 (.i (.len (tm 25))),xo 27 (qc 47 [tm 26] [[]]),xo 10 (qm (tm 27))])
 (.seq (rg [xo 28 (.i (.ld false 3 (tm 4))),⟨some 29,none,qc 44 [tm 28] [[none,some T4,some .int]]⟩,xo 11 (qm (tm 29))])
 (.seq (.seq (rg [xo 30 (qm (tm 11)),xo 31 (.i (.len (tm 30))),xo 32 (qm (ci 0))])
 (.block 0 (.loop Id)))
 (.seq (.seq (rg [xo 45 (qf 1 (tm 4)),xo 46 (ql (tm 45)),xo 47 (.i (.len (tm 46))),xo 48 (qm (ci 0))])
 (.block 2 (.loop H5)))
 (.seq (rg [xo 66 (.i (.ld false 3 (tm 4))),⟨some 67,none,qc 65 [tm 66] [[none,some T4,some .int]]⟩,xo 65 (qm (tm 67)),xo 68 (.i (.extr 0 (tm 65))),xo 69 (.i (.extr 1 (tm 65))),xo 16 (qm (tm 68)),xo 17 (qm (tm 69))])
 (.seq (.seq (rg [xo 70 (qm (tm 16)),xo 71 (.i (.len (tm 70))),xo 72 (qm (ci 0))])
 (.block 4 (.loop Hx)))
 (.seq (rg [xo 114 (.mkS 3 .int []),xo 21 (qm (tm 114))])
 (.seq (.seq (rg [xo 115 (qm (tm 11)),xo 116 (.i (.len (tm 115))),xo 117 (qm (ci 0))])
 (.block 6 (.loop Ig)))
 (.seq (rg [xo 134 (qm (tm 21)),xo 135 (qm (tm 10)),xo 136 (qf 2 (tm 4)),xo 137 (ql (tm 136)),xo 138 (qc 67 [tm 135,tm 137] [[some .int],[some .int]]),xo 8 (qm (tm 134)),xo 9 (qm (tm 138))])
 .ret))))))))))
def Qg:List Res:=[.tmp 8,.tmp 9]
theorem Qo:Ar Tryd.prog Tryd.f45=some (Jy,Qg):=by kernel_rfl
theorem Ja:A6 Tryd.prog 45=true:=by kernel_rfl
def Fb (y5:List Int) (a2:List Int) (l8_m32:Nat) (l8_m10:List Int):Option (Ctl (Nat×List Int) (List Int)) :=
 cond (decide (((l8_m32:Nat):Int)<((y5.length:Nat):Int)))
 (Option.bind (y5[l8_m32]?) fun x14 =>
 Option.bind (a2[l8_m32]?) fun x15 =>
 Option.bind (Gv l8_m10 x14) fun x16 =>
 og (l8_m32+1<4611686018427387904) <|
 some (Ctl.next (l8_m32+1,l8_m10.set x14.toNat x15)))
 (some (Ctl.out l8_m10))
def E9 (a0_1:List (Int×Int×Int×Int)) (a3:List Int) (l20_m48:Nat) (l20_m10:List Int):Option (Ctl (Nat×List Int) (List Int)) :=
 cond (decide (((l20_m48:Nat):Int)<((a0_1.length:Nat):Int)))
 (Option.bind (Option.bind (a0_1[l20_m48]?) fun x26 =>
  cond (x26.1==1)
   (Option.bind (Gv a3 x26.2.2.2) fun x29 =>
   Option.bind (l20_m10[l20_m48]?) fun x30 =>
   some (l20_m10.set l20_m48 x29))
   (some l20_m10)) fun l24_m10 =>
 og (l20_m48+1<4611686018427387904) <|
 some (Ctl.next (l20_m48+1,l24_m10)))
 (some (Ctl.out l20_m10))
def B7 (y33:List Int×Bool) (a0_1:List (Int×Int×Int×Int)) (a1:Int) (l36_m72:Nat) (l36_m10:List Int):Option (Ctl (Nat×List Int) (List Int)) :=
 cond (decide (((l36_m72:Nat):Int)<((y33.1.length:Nat):Int)))
 (Option.bind (Option.bind (y33.1[l36_m72]?) fun x42 =>
  Option.bind (Gv a0_1 x42) fun x44 =>
  cond (x44.1==3)
   (Option.bind (Gv l36_m10 x44.2.1) fun x47 =>
   Option.bind (Gv l36_m10 x44.2.2.1) fun x48 =>
   Option.bind (Ho a1 (wI (x47+x48))) fun y49 =>
   Option.bind (Gv l36_m10 x42) fun x50 =>
   some (l36_m10.set x42.toNat y49))
   (Option.bind (Gv l36_m10 x44.2.1) fun x51 =>
   Option.bind (Ho a1 (wI (x44.2.2.2*x51))) fun y52 =>
   Option.bind (Gv l36_m10 x42) fun x53 =>
   some (l36_m10.set x42.toNat y52))) fun l40_m10 =>
 og (l36_m72+1<4611686018427387904) <|
 some (Ctl.next (l36_m72+1,l40_m10)))
 (some (Ctl.out l36_m10))
def Fd (y5:List Int) (a0_1:List (Int×Int×Int×Int)) (l34_m10:List Int) (l58_m117:Nat) (l58_m21:List Int):Option (Ctl (Nat×List Int) (List Int)) :=
 cond (decide (((l58_m117:Nat):Int)<((y5.length:Nat):Int)))
 (Option.bind (y5[l58_m117]?) fun x64 =>
 Option.bind (Gv a0_1 x64) fun x65 =>
 Option.bind (Gv l34_m10 x65.2.1) fun x66 =>
 og (l58_m21.length+1<=1073741824∧(l58_m21.length+1)*8<=140737488355328) <|
 og (l58_m117+1<4611686018427387904) <|
 some (Ctl.next (l58_m117+1,l58_m21++([x66]))))
 (some (Ctl.out l58_m21))
def Co (a0_0:Int) (a0_1:List (Int×Int×Int×Int)) (a0_2:List Int) (a1:Int) (a2:List Int) (a3:List Int):Option (List Int×List Int) :=
 Option.bind (C6 ((a0_1.length:Nat):Int)) fun y3 =>
Option.bind (C3 a0_0 a0_1 a0_2) fun y5 =>
Option.bind (Ay (fun s_:Nat×List Int=>Fb y5 a2 s_.1 s_.2) 4611686018427387904 (0,y3)) fun l6_m10 =>
Option.bind (Ay (fun s_:Nat×List Int=>E9 a0_1 a3 s_.1 s_.2) 4611686018427387904 (0,l6_m10)) fun l18_m10 =>
Option.bind (B4 a0_0 a0_1 a0_2) fun y33 =>
Option.bind (Ay (fun s_:Nat×List Int=>B7 y33 a0_1 a1 s_.1 s_.2) 4611686018427387904 (0,l18_m10)) fun l34_m10 =>
Option.bind (Ay (fun s_:Nat×List Int=>Fd y5 a0_1 l34_m10 s_.1 s_.2) 4611686018427387904 (0,[])) fun l56_m21 =>
Option.bind (Hc l34_m10 a0_2) fun y70 =>
some (l56_m21,y70)
def Pi (r:List Int×List Int):RV:=⟨true,[(false,[.new 3 .int r.1]),(false,[.new 3 .int r.2])]⟩
set_option maxHeartbeats 1600000 in
theorem Jl {a0_0:Int} {a0_1:List (Int×Int×Int×Int)} {a0_2:List Int} {a1:Int} {a2:List Int} {a3:List Int} {r:List Int×List Int} (h:Co a0_0 a0_1 a0_2 a1 a2 a3=some r):A4 Tryd.prog Tab 45 [.agg [ai a0_0,.tree T4 a0_1,.tree .int a0_2],ai a1,.tree .int a2,.tree .int a3] (Pi r):=by
 refine A0 (by kernel_rfl) Tryd.func45 Qo (n:=139) (by kernel_rfl) (by simp) (tl:=[(0,.agg [ai a0_0,.tree T4 a0_1,.tree .int a0_2]),(1,ai a1),(2,.tree .int a2),(3,.tree .int a3)]) rfl ?_;unfold Jy;unfold Co at h;refine Al ?_;refine Ab ?_;obtain ⟨y3,h3,h⟩:=Ae h;refine Aa 9 ?_;refine rz0 (.box (oi 4 1) 1) ?_;refine rzl (.tree T4 a0_1) ?_;refine rz0 (ai ((a0_1.length:Nat):Int)) ?_;refine zc (.own (oi 432 7) .int 0 y3.length) [(oi 432 7,some (.arr 3 .int y3))] [ai ((a0_1.length:Nat):Int)] (Fx h3) ?_;refine rsB 1 ?_;refine Ao (tn_ ?_);refine wr_ ?_;refine Ab ?_;obtain ⟨y5,h5,h⟩:=Ae h;refine Aa 12 ?_;refine rzl (.agg [ai a0_0,.tree T4 a0_1,.tree .int a0_2]) ?_;refine zc (.own (oi 464 10) .int 0 y5.length) [(oi 464 10,some (.arr 3 .int y5))] [.agg [ai a0_0,.tree T4 a0_1,.tree .int a0_2]] (Ih h5) ?_;refine rsB 1 ?_;refine Ao (tn_ ?_);refine wr_ ?_;refine As h (fun (l6_m10:List Int) S_=>S_=⟨Am [(1,ai a1),(3,.tree .int a3),(4,.box (oi 0 1) 0),(10,.own (oi 1 1) .int 0 l6_m10.length),(11,.own (oi 2 1) .int 0 y5.length)],Ak (An [(oi 0 1,.cells 31 [ai a0_0,.tree T4 a0_1,.tree .int a0_2]),(oi 1 1,.arr 3 .int l6_m10),(oi 2 1,.arr 3 .int y5)]),2⟩) ?_ ?_
 ·intro v_ h;refine Al ?_;refine Ah ?_;refine Ax h (fun t_ S_=>∃ (l8_m32:Nat),∃ (l8_m10:List Int),t_=(l8_m32,l8_m10)∧S_=⟨Am [(1,ai a1),(2,.tree .int a2),(3,.tree .int a3),(4,.box (oi 0 1) 0),(10,.own (oi 1 1) .int 0 l8_m10.length),(11,.own (oi 2 1) .int 0 y5.length),(30,.own (oi 2 1) .int 0 y5.length),(31,ai ((y5.length:Nat):Int)),(32,ai ((l8_m32:Nat):Int))],Ak (An [(oi 0 1,.cells 31 [ai a0_0,.tree T4 a0_1,.tree .int a0_2]),(oi 1 1,.arr 3 .int l8_m10),(oi 2 1,.arr 3 .int y5)]),2⟩) ⟨_,Ac [(oi 0 1,oi 4 1),(oi 1 1,oi 432 7),(oi 2 1,oi 464 10)],⟨0,y3,rfl,rfl⟩⟩ ?_;rintro n_ _ _ c_ ⟨l8_m32,l8_m10,rfl,rfl⟩ h hn8
  (try dsimp only at h);unfold Fb at h;unfold Id;refine Al ?_;refine Ab ?_;rcases Ad h with ⟨q11,h⟩ | ⟨q11,h⟩
  ·have q11_:=of_decide_eq_true q11;refine Ag q11 ?_;refine Ai (tn_ ?_);refine wr_ ?_;refine Ab ?_;refine Ah ?_;refine Ab ?_;obtain ⟨x14,e14,h⟩:=Ae h;refine Aa 8 ?_;refine rz0 (ai ((l8_m32:Nat):Int)) ?_;refine rs0 (.elt (oi 2 1) l8_m32 0) (zo (t:=.int) (o:=oi 2 1) (len:=y5.length) (k:=.i64) (m:=((l8_m32:Nat):Int)) (Ba _) (Be e14)) ?_;refine rsl (ai x14) (Hr (i:=oi 2 1) (j:=l8_m32) (k:=0) (e:=3) (t:=.int) (xs:=y5) (by kernel_rfl) (by kernel_rfl) e14 (by kernel_rfl)) ?_;refine rsB 2 ?_;refine Ao (tn_ ?_);refine wr_ ?_;obtain ⟨x15,e15,h⟩:=Ae h;obtain ⟨x16,f16,h⟩:=Ae h;obtain ⟨p16,b16,e16⟩:=Bo f16;refine Aa 16 ?_;refine rz0 (.own (oi 1 1) .int 0 l8_m10.length) ?_;refine rz0 (ai x14) ?_;refine rz0 (.tree .int a2) ?_;refine rz0 (ai ((l8_m32:Nat):Int)) ?_;refine rs0 (.telt .int x15 0) (zi (t:=.int) (xs:=a2) (k:=.i64) (m:=((l8_m32:Nat):Int)) (Ba _) e15) ?_;refine rz0 (ai x15) ?_;refine rs0 (.elt (oi 1 1) x14.toNat 0) (zo (t:=.int) (o:=oi 1 1) (len:=l8_m10.length) (k:=.i64) (m:=x14) p16 (Be e16)) ?_;refine Sk (oi 1 1) (oi 1 1) (.arr 3 .int (l8_m10.set x14.toNat x15)) (Je (i:=oi 1 1) (j:=x14.toNat) (k:=0) (e:=3) (t:=.int) (xs:=l8_m10) (cs:=[ai x15]) (x1:=x15) (by kernel_rfl) (by kernel_rfl) e16 (by kernel_rfl) (by kernel_rfl)) ?_;refine Ao (bn_ (tn_ ?_));refine wr_ ?_;obtain ⟨g17,h⟩:=Aq h;refine Aa 18 ?_;refine rs0 (ai ((l8_m32+1:Nat):Int)) (za g17) ?_;refine rsB 1 ?_;refine Ao (tn_ ?_);obtain rfl:=zj h;exact ⟨(l8_m32+1,l8_m10.set x14.toNat x15),_,(Bn 10 (.own (oi 1 1) .int 0 l8_m10.length) (.own (oi 1 1) .int 0 ((l8_m10.set x14.toNat x15).length)) (by kernel_rfl) (congrArg (fun z_=>((.own (oi 1 1) .int 0 z_):AV)) (((rfl:l8_m10.length=l8_m10.length).trans List.length_set.symm):l8_m10.length=(l8_m10.set x14.toNat x15).length))).trans (Ac []),⟨l8_m32+1,l8_m10.set x14.toNat x15,rfl,rfl⟩,hn8⟩
  have q11_:=of_decide_eq_false q11;refine Af q11 ?_;refine Av (te_ (te_ (be_ (tn_ ?_))));obtain rfl:=zj h;have h:=hn8
  (try dsimp only at h);obtain rfl:=zj h;exact ⟨_,Ac [],rfl⟩
 rintro l6_m10 _ rfl h
 (try dsimp only at h);refine As h (fun (l18_m10:List Int) S_=>S_=⟨Am [(1,ai a1),(4,.box (oi 0 1) 0),(10,.own (oi 1 1) .int 0 l18_m10.length),(11,.own (oi 2 1) .int 0 y5.length)],Ak (An [(oi 0 1,.cells 31 [ai a0_0,.tree T4 a0_1,.tree .int a0_2]),(oi 1 1,.arr 3 .int l18_m10),(oi 2 1,.arr 3 .int y5)]),2⟩) ?_ ?_
 ·intro v_ h;refine Al ?_;refine Ah ?_;refine Ax h (fun t_ S_=>∃ (l20_m48:Nat),∃ (l20_m10:List Int),t_=(l20_m48,l20_m10)∧S_=⟨Am [(1,ai a1),(3,.tree .int a3),(4,.box (oi 0 1) 0),(10,.own (oi 1 1) .int 0 l20_m10.length),(11,.own (oi 2 1) .int 0 y5.length),(46,.tree T4 a0_1),(47,ai ((a0_1.length:Nat):Int)),(48,ai ((l20_m48:Nat):Int))],Ak (An [(oi 0 1,.cells 31 [ai a0_0,.tree T4 a0_1,.tree .int a0_2]),(oi 1 1,.arr 3 .int l20_m10),(oi 2 1,.arr 3 .int y5)]),2⟩) ⟨_,Ac [],⟨0,l6_m10,rfl,rfl⟩⟩ ?_;rintro n_ _ _ c_ ⟨l20_m48,l20_m10,rfl,rfl⟩ h hn20
  (try dsimp only at h);unfold E9 at h;unfold H5;refine Al ?_;refine Ab ?_;rcases Ad h with ⟨q23,h⟩ | ⟨q23,h⟩
  ·have q23_:=of_decide_eq_true q23;refine Ag q23 ?_;refine Ai (tn_ ?_);refine wr_ ?_;refine As h (fun (l24_m10:List Int) S_=>S_=⟨Am [(1,ai a1),(3,.tree .int a3),(4,.box (oi 0 1) 0),(10,.own (oi 1 1) .int 0 l24_m10.length),(11,.own (oi 2 1) .int 0 y5.length),(46,.tree T4 a0_1),(47,ai ((a0_1.length:Nat):Int)),(48,ai ((l20_m48:Nat):Int))],Ak (An [(oi 0 1,.cells 31 [ai a0_0,.tree T4 a0_1,.tree .int a0_2]),(oi 1 1,.arr 3 .int l24_m10),(oi 2 1,.arr 3 .int y5)]),2⟩) ?_ ?_
   ·intro v_ h;refine Ah ?_;refine Ab ?_;obtain ⟨x26,e26,h⟩:=Ae h;refine Aa 9 ?_;refine rz0 (ai ((l20_m48:Nat):Int)) ?_;refine rs0 (.telt T4 x26 0) (zi (t:=T4) (xs:=a0_1) (k:=.i64) (m:=((l20_m48:Nat):Int)) (Ba _) e26) ?_;refine rsB 4 ?_;refine Ao (tn_ ?_);refine wr_ ?_;refine Al ?_;rcases Ad h with ⟨q28,h⟩ | ⟨q28,h⟩
    ·refine Ag q28 ?_;obtain ⟨x29,f29,h⟩:=Ae h;obtain ⟨p29,b29,e29⟩:=Bo f29;obtain ⟨x30,e30,h⟩:=Ae h;refine Aa 21 ?_;refine rz0 (.own (oi 1 1) .int 0 l20_m10.length) ?_;refine rz0 (ai ((l20_m48:Nat):Int)) ?_;refine rz0 (.tree .int a3) ?_;refine rz0 (.box (oi 15 6) 3) ?_;refine rzl (ai x26.2.2.2) ?_;refine rs0 (.telt .int x29 0) (zi (t:=.int) (xs:=a3) (k:=.i64) (m:=x26.2.2.2) p29 e29) ?_;refine rz0 (ai x29) ?_;refine rs0 (.elt (oi 1 1) l20_m48 0) (zo (t:=.int) (o:=oi 1 1) (len:=l20_m10.length) (k:=.i64) (m:=((l20_m48:Nat):Int)) (Ba _) (Be e30)) ?_;refine Sk (oi 1 1) (oi 1 1) (.arr 3 .int (l20_m10.set l20_m48 x29)) (Je (i:=oi 1 1) (j:=l20_m48) (k:=0) (e:=3) (t:=.int) (xs:=l20_m10) (cs:=[ai x29]) (x1:=x29) (by kernel_rfl) (by kernel_rfl) e30 (by kernel_rfl) (by kernel_rfl)) ?_;refine Ao (bn_ (tn_ ?_));obtain rfl:=zj h;exact ⟨_,(Bn 10 (.own (oi 1 1) .int 0 l20_m10.length) (.own (oi 1 1) .int 0 ((l20_m10.set l20_m48 x29).length)) (by kernel_rfl) (congrArg (fun z_=>((.own (oi 1 1) .int 0 z_):AV)) (((rfl:l20_m10.length=l20_m10.length).trans List.length_set.symm):l20_m10.length=(l20_m10.set l20_m48 x29).length))).trans (Ac []),rfl⟩
    refine Af q28 ?_;refine Ai (bn_ (tn_ ?_));obtain rfl:=zj h;exact ⟨_,Ac [],rfl⟩
   rintro l24_m10 _ rfl h
   (try dsimp only at h);obtain ⟨g31,h⟩:=Aq h;refine Aa 4 ?_;refine rs0 (ai ((l20_m48+1:Nat):Int)) (za g31) ?_;refine rsB 1 ?_;refine Ao (tn_ ?_);obtain rfl:=zj h;exact ⟨(l20_m48+1,l24_m10),_,Ac [],⟨l20_m48+1,l24_m10,rfl,rfl⟩,hn20⟩
  have q23_:=of_decide_eq_false q23;refine Af q23 ?_;refine Av (te_ (te_ (be_ (tn_ ?_))));obtain rfl:=zj h;have h:=hn20
  (try dsimp only at h);obtain rfl:=zj h;exact ⟨_,Ac [],rfl⟩
 rintro l18_m10 _ rfl h
 (try dsimp only at h);refine Ab ?_;obtain ⟨y33,h33,h⟩:=Ae h;refine Aa 9 ?_;refine rzl (.agg [ai a0_0,.tree T4 a0_1,.tree .int a0_2]) ?_;refine zc (.tup [.own (oi 1072 3) .int 0 y33.1.length,.bool y33.2]) [(oi 1072 3,some (.arr 3 .int y33.1))] [.agg [ai a0_0,.tree T4 a0_1,.tree .int a0_2]] (G0 h33) ?_;refine rsB 5 ?_;refine Ao (tn_ ?_);refine wr_ ?_;refine As h (fun (l34_m10:List Int) S_=>S_=⟨Am [(4,.box (oi 0 1) 0),(10,.own (oi 1 1) .int 0 l34_m10.length),(11,.own (oi 2 1) .int 0 y5.length)],Ak (An [(oi 0 1,.cells 31 [ai a0_0,.tree T4 a0_1,.tree .int a0_2]),(oi 1 1,.arr 3 .int l34_m10),(oi 2 1,.arr 3 .int y5)]),2⟩) ?_ ?_
 ·intro v_ h;refine Al ?_;refine Ah ?_;refine Ax h (fun t_ S_=>∃ (l36_m72:Nat),∃ (l36_m10:List Int),t_=(l36_m72,l36_m10)∧S_=⟨Am [(1,ai a1),(4,.box (oi 0 1) 0),(10,.own (oi 1 1) .int 0 l36_m10.length),(11,.own (oi 2 1) .int 0 y5.length),(70,.own (oi 3 1) .int 0 y33.1.length),(71,ai ((y33.1.length:Nat):Int)),(72,ai ((l36_m72:Nat):Int))],Ak (An [(oi 0 1,.cells 31 [ai a0_0,.tree T4 a0_1,.tree .int a0_2]),(oi 1 1,.arr 3 .int l36_m10),(oi 2 1,.arr 3 .int y5),(oi 3 1,.arr 3 .int y33.1)]),2⟩) ⟨_,Ac [(oi 3 1,oi 1072 3)],⟨0,l18_m10,rfl,rfl⟩⟩ ?_;rintro n_ _ _ c_ ⟨l36_m72,l36_m10,rfl,rfl⟩ h hn36
  (try dsimp only at h);unfold B7 at h;unfold Hx;refine Al ?_;refine Ab ?_;rcases Ad h with ⟨q39,h⟩ | ⟨q39,h⟩
  ·have q39_:=of_decide_eq_true q39;refine Ag q39 ?_;refine Ai (tn_ ?_);refine wr_ ?_;refine As h (fun (l40_m10:List Int) S_=>S_=⟨Am [(1,ai a1),(4,.box (oi 0 1) 0),(10,.own (oi 1 1) .int 0 l40_m10.length),(11,.own (oi 2 1) .int 0 y5.length),(70,.own (oi 3 1) .int 0 y33.1.length),(71,ai ((y33.1.length:Nat):Int)),(72,ai ((l36_m72:Nat):Int))],Ak (An [(oi 0 1,.cells 31 [ai a0_0,.tree T4 a0_1,.tree .int a0_2]),(oi 1 1,.arr 3 .int l40_m10),(oi 2 1,.arr 3 .int y5),(oi 3 1,.arr 3 .int y33.1)]),2⟩) ?_ ?_
   ·intro v_ h;refine Ah ?_;refine Ab ?_;obtain ⟨x42,e42,h⟩:=Ae h;refine Aa 6 ?_;refine rs0 (.elt (oi 3 1) l36_m72 0) (zo (t:=.int) (o:=oi 3 1) (len:=y33.1.length) (k:=.i64) (m:=((l36_m72:Nat):Int)) (Ba _) (Be e42)) ?_;refine rsl (ai x42) (Hr (i:=oi 3 1) (j:=l36_m72) (k:=0) (e:=3) (t:=.int) (xs:=y33.1) (by kernel_rfl) (by kernel_rfl) e42 (by kernel_rfl)) ?_;refine rsB 1 ?_;refine Ao (tn_ ?_);refine wr_ ?_;refine Ab ?_;obtain ⟨x44,f44,h⟩:=Ae h;obtain ⟨p44,b44,e44⟩:=Bo f44;refine Aa 13 ?_;refine rz0 (.box (oi 0 1) 1) ?_;refine rzl (.tree T4 a0_1) ?_;refine rz0 (ai x42) ?_;refine rs0 (.telt T4 x44 0) (zi (t:=T4) (xs:=a0_1) (k:=.i64) (m:=x42) p44 e44) ?_;refine rsB 3 ?_;refine Ao (tn_ ?_);refine wr_ ?_;refine Al ?_;rcases Ad h with ⟨q46,h⟩ | ⟨q46,h⟩
    ·refine Ag q46 ?_;obtain ⟨x47,f47,h⟩:=Ae h;obtain ⟨p47,b47,e47⟩:=Bo f47;obtain ⟨x48,f48,h⟩:=Ae h;obtain ⟨p48,b48,e48⟩:=Bo f48;obtain ⟨y49,h49,h⟩:=Ae h;obtain ⟨x50,f50,h⟩:=Ae h;obtain ⟨p50,b50,e50⟩:=Bo f50;refine A1 33 ?_;refine dz0 (.own (oi 1 1) .int 0 l36_m10.length) ?_;refine dz0 (ai x42) ?_;refine dz0 (ai a1) ?_;refine dz0 (.own (oi 1 1) .int 0 l36_m10.length) ?_;refine dz0 (.box (oi 20 11) 1) ?_;refine dzl (ai x44.2.1) ?_;refine ds0 (.elt (oi 1 1) x44.2.1.toNat 0) (zo (t:=.int) (o:=oi 1 1) (len:=l36_m10.length) (k:=.i64) (m:=x44.2.1) p47 (Be e47)) ?_;refine dsl (ai x47) (Hr (i:=oi 1 1) (j:=x44.2.1.toNat) (k:=0) (e:=3) (t:=.int) (xs:=l36_m10) (by kernel_rfl) (by kernel_rfl) e47 (by kernel_rfl)) ?_;refine dz0 (.own (oi 1 1) .int 0 l36_m10.length) ?_;refine dz0 (.box (oi 20 11) 2) ?_;refine dzl (ai x44.2.2.1) ?_;refine ds0 (.elt (oi 1 1) x44.2.2.1.toNat 0) (zo (t:=.int) (o:=oi 1 1) (len:=l36_m10.length) (k:=.i64) (m:=x44.2.2.1) p48 (Be e48)) ?_;refine dsl (ai x48) (Hr (i:=oi 1 1) (j:=x44.2.2.1.toNat) (k:=0) (e:=3) (t:=.int) (xs:=l36_m10) (by kernel_rfl) (by kernel_rfl) e48 (by kernel_rfl)) ?_;refine dz0 (ai (wI (x47+x48))) ?_;refine Cq (ai y49) [] [ai a1,ai (wI (x47+x48))] _ (caps:=[]) (args0:=[ai a1,ai (wI (x47+x48))]) trivial (by kernel_rfl) (Pn h49) Vf ?_;refine ds0 (.elt (oi 1 1) x42.toNat 0) (zo (t:=.int) (o:=oi 1 1) (len:=l36_m10.length) (k:=.i64) (m:=x42) p50 (Be e50)) ?_;refine J2 (oi 1 1) (oi 1 1) (.arr 3 .int (l36_m10.set x42.toNat y49)) (Je (i:=oi 1 1) (j:=x42.toNat) (k:=0) (e:=3) (t:=.int) (xs:=l36_m10) (cs:=[ai y49]) (x1:=y49) (by kernel_rfl) (by kernel_rfl) e50 (by kernel_rfl) (by kernel_rfl)) ?_;refine Gj (Bi (by kernel_rfl)) (bn_ (tn_ ?_));obtain rfl:=zj h;exact ⟨_,(Bn 10 (.own (oi 1 1) .int 0 l36_m10.length) (.own (oi 1 1) .int 0 ((l36_m10.set x42.toNat y49).length)) (by kernel_rfl) (congrArg (fun z_=>((.own (oi 1 1) .int 0 z_):AV)) (((rfl:l36_m10.length=l36_m10.length).trans List.length_set.symm):l36_m10.length=(l36_m10.set x42.toNat y49).length))).trans (Ac []),rfl⟩
    refine Af q46 ?_;obtain ⟨x51,f51,h⟩:=Ae h;obtain ⟨p51,b51,e51⟩:=Bo f51;obtain ⟨y52,h52,h⟩:=Ae h;obtain ⟨x53,f53,h⟩:=Ae h;obtain ⟨p53,b53,e53⟩:=Bo f53;refine A1 30 ?_;refine dz0 (.own (oi 1 1) .int 0 l36_m10.length) ?_;refine dz0 (ai x42) ?_;refine dz0 (ai a1) ?_;refine dz0 (.box (oi 20 11) 3) ?_;refine dzl (ai x44.2.2.2) ?_;refine dz0 (.own (oi 1 1) .int 0 l36_m10.length) ?_;refine dz0 (.box (oi 20 11) 1) ?_;refine dzl (ai x44.2.1) ?_;refine ds0 (.elt (oi 1 1) x44.2.1.toNat 0) (zo (t:=.int) (o:=oi 1 1) (len:=l36_m10.length) (k:=.i64) (m:=x44.2.1) p51 (Be e51)) ?_;refine dsl (ai x51) (Hr (i:=oi 1 1) (j:=x44.2.1.toNat) (k:=0) (e:=3) (t:=.int) (xs:=l36_m10) (by kernel_rfl) (by kernel_rfl) e51 (by kernel_rfl)) ?_;refine dz0 (ai (wI (x44.2.2.2*x51))) ?_;refine Cq (ai y52) [] [ai a1,ai (wI (x44.2.2.2*x51))] _ (caps:=[]) (args0:=[ai a1,ai (wI (x44.2.2.2*x51))]) trivial (by kernel_rfl) (Pn h52) Vf ?_;refine ds0 (.elt (oi 1 1) x42.toNat 0) (zo (t:=.int) (o:=oi 1 1) (len:=l36_m10.length) (k:=.i64) (m:=x42) p53 (Be e53)) ?_;refine J2 (oi 1 1) (oi 1 1) (.arr 3 .int (l36_m10.set x42.toNat y52)) (Je (i:=oi 1 1) (j:=x42.toNat) (k:=0) (e:=3) (t:=.int) (xs:=l36_m10) (cs:=[ai y52]) (x1:=y52) (by kernel_rfl) (by kernel_rfl) e53 (by kernel_rfl) (by kernel_rfl)) ?_;refine Gj (Bi (by kernel_rfl)) (bn_ (tn_ ?_));obtain rfl:=zj h;exact ⟨_,(Bn 10 (.own (oi 1 1) .int 0 l36_m10.length) (.own (oi 1 1) .int 0 ((l36_m10.set x42.toNat y52).length)) (by kernel_rfl) (congrArg (fun z_=>((.own (oi 1 1) .int 0 z_):AV)) (((rfl:l36_m10.length=l36_m10.length).trans List.length_set.symm):l36_m10.length=(l36_m10.set x42.toNat y52).length))).trans (Ac []),rfl⟩
   rintro l40_m10 _ rfl h
   (try dsimp only at h);obtain ⟨g54,h⟩:=Aq h;refine Aa 4 ?_;refine rs0 (ai ((l36_m72+1:Nat):Int)) (za g54) ?_;refine rsB 1 ?_;refine Ao (tn_ ?_);obtain rfl:=zj h;exact ⟨(l36_m72+1,l40_m10),_,Ac [],⟨l36_m72+1,l40_m10,rfl,rfl⟩,hn36⟩
  have q39_:=of_decide_eq_false q39;refine Af q39 ?_;refine Av (te_ (te_ (be_ (tn_ ?_))));obtain rfl:=zj h;have h:=hn36
  (try dsimp only at h);obtain rfl:=zj h;exact ⟨_,Ac [],rfl⟩
 rintro l34_m10 _ rfl h
 (try dsimp only at h);refine Al ?_;refine As h (fun (l56_m21:List Int) S_=>S_=⟨Am [(4,.box (oi 0 1) 0),(10,.own (oi 1 1) .int 0 l34_m10.length),(21,.own (oi 2 1) .int 0 l56_m21.length)],Ak (An [(oi 0 1,.cells 31 [ai a0_0,.tree T4 a0_1,.tree .int a0_2]),(oi 1 1,.arr 3 .int l34_m10),(oi 2 1,.arr 3 .int l56_m21)]),2⟩) ?_ ?_
 ·intro v_ h;refine Al ?_;refine Ah ?_;refine Ax h (fun t_ S_=>∃ (l58_m117:Nat),∃ (l58_m21:List Int),t_=(l58_m117,l58_m21)∧S_=⟨Am [(4,.box (oi 0 1) 0),(10,.own (oi 1 1) .int 0 l34_m10.length),(21,.own (oi 2 1) .int 0 l58_m21.length),(115,.own (oi 3 1) .int 0 y5.length),(116,ai ((y5.length:Nat):Int)),(117,ai ((l58_m117:Nat):Int))],Ak (An [(oi 0 1,.cells 31 [ai a0_0,.tree T4 a0_1,.tree .int a0_2]),(oi 1 1,.arr 3 .int l34_m10),(oi 2 1,.arr 3 .int l58_m21),(oi 3 1,.arr 3 .int y5)]),2⟩) ⟨_,Ac [(oi 2 1,oi 114 2),(oi 3 1,oi 2 1)],⟨0,[],rfl,rfl⟩⟩ ?_;rintro n_ _ _ c_ ⟨l58_m117,l58_m21,rfl,rfl⟩ h hn58
  (try dsimp only at h);unfold Fd at h;unfold Ig;refine Al ?_;refine Ab ?_;rcases Ad h with ⟨q61,h⟩ | ⟨q61,h⟩
  ·have q61_:=of_decide_eq_true q61;refine Ag q61 ?_;refine Ai (tn_ ?_);refine wr_ ?_;refine Ab ?_;refine Ah ?_;refine Ab ?_;obtain ⟨x64,e64,h⟩:=Ae h;refine Aa 6 ?_;refine rs0 (.elt (oi 3 1) l58_m117 0) (zo (t:=.int) (o:=oi 3 1) (len:=y5.length) (k:=.i64) (m:=((l58_m117:Nat):Int)) (Ba _) (Be e64)) ?_;refine rsl (ai x64) (Hr (i:=oi 3 1) (j:=l58_m117) (k:=0) (e:=3) (t:=.int) (xs:=y5) (by kernel_rfl) (by kernel_rfl) e64 (by kernel_rfl)) ?_;refine rsB 1 ?_;refine Ao (tn_ ?_);refine wr_ ?_;obtain ⟨x65,f65,h⟩:=Ae h;obtain ⟨p65,b65,e65⟩:=Bo f65;obtain ⟨x66,f66,h⟩:=Ae h;obtain ⟨p66,b66,e66⟩:=Bo f66;obtain ⟨g67,h⟩:=Aq h;refine Aa 19 ?_;refine rz0 (.own (oi 2 1) .int 0 l58_m21.length) ?_;refine rz0 (.own (oi 1 1) .int 0 l34_m10.length) ?_;refine rz0 (.box (oi 0 1) 1) ?_;refine rzl (.tree T4 a0_1) ?_;refine rz0 (ai x64) ?_;refine rs0 (.telt T4 x65 0) (zi (t:=T4) (xs:=a0_1) (k:=.i64) (m:=x64) p65 e65) ?_;refine rz0 (.telt T4 x65 1) ?_;refine rz0 (ai x65.2.1) ?_;refine rs0 (.elt (oi 1 1) x65.2.1.toNat 0) (zo (t:=.int) (o:=oi 1 1) (len:=l34_m10.length) (k:=.i64) (m:=x65.2.1) p66 (Be e66)) ?_;refine rsl (ai x66) (Hr (i:=oi 1 1) (j:=x65.2.1.toNat) (k:=0) (e:=3) (t:=.int) (xs:=l34_m10) (by kernel_rfl) (by kernel_rfl) e66 (by kernel_rfl)) ?_;refine rs1 (.own (oi 131 16) .int 0 1) (oi 131 16) (.arr 3 .int ([x66])) (by kernel_rfl) ?_;refine rs2 (.own (oi 2 17) .int 0 ((l58_m21++([x66])).length)) (oi 2 1) (oi 2 17) (.arr 3 .int (l58_m21++([x66]))) (L0 (t:=.int) (t':=.int) (xs:=l58_m21) (ys:=[x66]) (zs:=l58_m21++([x66])) (j:=oi 2 1) (len:=l58_m21.length) (c:=.own (oi 131 16) .int 0 1) (by kernel_rfl) (by kernel_rfl) rfl (by kernel_rfl) (Py (e:=3) (by kernel_rfl) rfl) rfl g67) ?_;refine rsB 1 ?_;refine Ao (bn_ (tn_ ?_));refine wr_ ?_;obtain ⟨g68,h⟩:=Aq h;refine Aa 21 ?_;refine rs0 (ai ((l58_m117+1:Nat):Int)) (za g68) ?_;refine rsB 1 ?_;refine Ao (tn_ ?_);obtain rfl:=zj h;exact ⟨(l58_m117+1,l58_m21++([x66])),_,Ac [(oi 2 1,oi 2 17)],⟨l58_m117+1,l58_m21++([x66]),rfl,rfl⟩,hn58⟩
  have q61_:=of_decide_eq_false q61;refine Af q61 ?_;refine Av (te_ (te_ (be_ (tn_ ?_))));obtain rfl:=zj h;have h:=hn58
  (try dsimp only at h);obtain rfl:=zj h;exact ⟨_,Ac [],rfl⟩
 rintro l56_m21 _ rfl h
 (try dsimp only at h);refine Ab ?_;obtain ⟨y70,h70,h⟩:=Ae h;refine Aa 9 ?_;refine rz0 (.own (oi 2 1) .int 0 l56_m21.length) ?_;refine rz0 (.own (oi 1 1) .int 0 l34_m10.length) ?_;refine rz0 (.box (oi 0 1) 2) ?_;refine rzl (.tree .int a0_2) ?_;refine Bh (.own (oi 2208 6) .int 0 y70.length) [(oi 2208 6,some (.arr 3 .int y70))] [.own (oi 1 1) .int 0 l34_m10.length,.tree .int a0_2] _ (caps:=[]) (args0:=[.tree .int l34_m10,.tree .int a0_2]) trivial (Aw (B1 (e:=3) (by kernel_rfl) rfl) (Aw (by kernel_rfl) Cw)) (Xt h70) Zi ?_;refine rsB 2 ?_;refine Ao (tn_ ?_);refine wr_ ?_;refine Aj ?_;obtain rfl:=zj h;exact Bk [.own (oi 2 1) .int 0 l56_m21.length,.own (oi 2208 6) .int 0 y70.length] (At rfl (Er (by kernel_rfl) rfl) (At rfl (Er (by kernel_rfl) rfl) A5))
def Mf:AC :=
 (.seq (rg [xo 108 (qb .lss (tm 107) (tm 106))])
 (.seq (.cond (tm 108)
  .skip
  (.exit 6))
 (.seq (.block 7 (.seq (rg [xo 109 (qx 1 (tm 105) (tm 107)),xo 110 (ql (tm 109)),xo 20 (qm (tm 110))])
 (rg [xo 111 (qm (tm 18)),xo 112 (qm (tm 10)),xo 113 (qf 1 (tm 5)),xo 114 (ql (tm 113)),xo 115 (qm (tm 20)),xo 116 (qx 4 (tm 114) (tm 115)),xo 117 (qf 1 (tm 116)),xo 118 (ql (tm 117)),xo 119 (qx 1 (tm 112) (tm 118)),xo 120 (ql (tm 119)),xo 121 (.mkS 3 .int [tm 120]),xo 122 (.append 3 .int 8 (tm 111) (tm 121)),xo 18 (qm (tm 122))])))
 (rg [xo 123 (qb .add (tm 107) (ci 1)),xo 107 (qm (tm 123))]))))
def Me:AC :=
 (.seq (rg [xo 65 (qb .lss (tm 64) (tm 63))])
 (.seq (.cond (tm 65)
  .skip
  (.exit 4))
 (.seq (.block 5 (.seq (rg [xo 66 (qx 1 (tm 62) (tm 64)),xo 67 (ql (tm 66)),xo 16 (qm (tm 67))])
 (.seq (rg [xo 68 (qf 1 (tm 5)),xo 69 (ql (tm 68)),xo 70 (qm (tm 16)),xo 71 (qx 4 (tm 69) (tm 70)),xo 72 (.i (.ld false 4 (tm 71))),xo 17 (.i (.alloc 59 [.int .i64 0,.int .i64 0,.int .i64 0,.int .i64 0])),xn (.st false 4 (tm 17) (tm 72))])
 (.seq (rg [xo 73 (qf 0 (tm 17)),xo 74 (ql (tm 73)),xo 75 (qb .eql (tm 74) (ci 3))])
 (.cond (tm 75)
  (.region [xo 76 (qm (tm 10)),xo 77 (qm (tm 16)),xo 78 (qm (tm 0)),xo 79 (qm (tm 10)),xo 80 (qf 1 (tm 17)),xo 81 (ql (tm 80)),xo 82 (qx 1 (tm 79) (tm 81)),xo 83 (ql (tm 82)),xo 84 (qm (tm 10)),xo 85 (qf 2 (tm 17)),xo 86 (ql (tm 85)),xo 87 (qx 1 (tm 84) (tm 86)),xo 88 (ql (tm 87)),xo 89 (qc 72 [tm 78,tm 83,tm 88] [[],[],[]]),xo 90 (qx 1 (tm 76) (tm 77)),xn (qs (tm 90) (tm 89))] true [])
  (.region [xo 91 (qm (tm 10)),xo 92 (qm (tm 16)),xo 93 (qm (tm 0)),xo 94 (qf 3 (tm 17)),xo 95 (ql (tm 94)),xo 96 (qm (tm 10)),xo 97 (qf 1 (tm 17)),xo 98 (ql (tm 97)),xo 99 (qx 1 (tm 96) (tm 98)),xo 100 (ql (tm 99)),xo 101 (qc 73 [tm 93,tm 95,tm 100] [[],[],[]]),xo 102 (qx 1 (tm 91) (tm 92)),xn (qs (tm 102) (tm 101))] true []))))))
 (rg [xo 103 (qb .add (tm 64) (ci 1)),xo 64 (qm (tm 103))]))))
def Mu:AC :=
 (.seq (rg [xo 49 (qb .lss (tm 48) (tm 47))])
 (.seq (.cond (tm 49)
  .skip
  (.exit 2))
 (.seq (.block 3 (.seq (rg [xo 50 (qm (tm 48)),xo 51 (qx 1 (tm 46) (tm 48)),xo 52 (ql (tm 51)),xo 13 (qm (tm 50)),xo 14 (qm (tm 52))])
 (rg [xo 53 (qm (tm 10)),xo 54 (qm (tm 14)),xo 55 (qm (tm 2)),xo 56 (qm (tm 13)),xo 57 (qx 1 (tm 55) (tm 56)),xo 58 (ql (tm 57)),xo 59 (qx 1 (tm 53) (tm 54)),xn (qs (tm 59) (tm 58))])))
 (rg [xo 60 (qb .add (tm 48) (ci 1)),xo 48 (qm (tm 60))]))))
def M1:AC :=
 (.seq (rg [xo 29 (qb .lss (tm 28) (tm 27))])
 (.seq (.cond (tm 29)
  .skip
  (.exit 0))
 (.seq (.block 1 (.seq (rg [xo 30 (qm (tm 28)),xo 31 (qx 4 (tm 26) (tm 28)),xo 32 (.i (.ld false 4 (tm 31))),xo 12 (.i (.alloc 59 [.int .i64 0,.int .i64 0,.int .i64 0,.int .i64 0])),xo 11 (qm (tm 30)),xn (.st false 4 (tm 12) (tm 32))])
 (.seq (rg [xo 33 (qf 0 (tm 12)),xo 34 (ql (tm 33)),xo 35 (qb .eql (tm 34) (ci 1))])
 (.cond (tm 35)
  (rg [xo 36 (qm (tm 10)),xo 37 (qm (tm 11)),xo 38 (qm (tm 3)),xo 39 (qf 3 (tm 12)),xo 40 (ql (tm 39)),xo 41 (qx 1 (tm 38) (tm 40)),xo 42 (ql (tm 41)),xo 43 (qx 1 (tm 36) (tm 37)),xn (qs (tm 43) (tm 42))])
  .skip))))
 (rg [xo 44 (qb .add (tm 28) (ci 1)),xo 28 (qm (tm 44))]))))
def Q7:AC :=
 (.seq (rg [xo 5 (.i (.box 31 (tm 1))),xo 8 (qm (.cst .nils)),xo 9 (qm (.cst .nils))])
 (.seq (rg [xo 21 (qf 1 (tm 5)),xo 22 (ql (tm 21)),xo 23 (.i (.len (tm 22))),xo 24 (.make 3 .int 8 (tm 23) (tm 23)),xo 10 (qm (tm 24))])
 (.seq (.seq (rg [xo 25 (qf 1 (tm 5)),xo 26 (ql (tm 25)),xo 27 (.i (.len (tm 26))),xo 28 (qm (ci 0))])
 (.block 0 (.loop M1)))
 (.seq (.seq (rg [xo 45 (.i (.ld false 3 (tm 5))),⟨some 46,none,qc 38 [tm 45] [[none,some T4,some .int]]⟩,xo 47 (.i (.len (tm 46))),xo 48 (qm (ci 0))])
 (.block 2 (.loop Mu)))
 (.seq (.seq (rg [xo 61 (.i (.ld false 3 (tm 5))),⟨some 62,none,qc 57 [tm 61] [[none,some T4,some .int]]⟩,xo 63 (.i (.len (tm 62))),xo 64 (qm (ci 0))])
 (.block 4 (.loop Me)))
 (.seq (rg [xo 18 (qm (.cst .nils))])
 (.seq (.seq (rg [xo 104 (.i (.ld false 3 (tm 5))),⟨some 105,none,qc 38 [tm 104] [[none,some T4,some .int]]⟩,xo 106 (.i (.len (tm 105))),xo 107 (qm (ci 0))])
 (.block 6 (.loop Mf)))
 (.seq (rg [xo 124 (qm (tm 18)),xo 125 (qf 2 (tm 5)),xo 126 (ql (tm 125)),xo 127 (qm (tm 10)),xo 128 (qc 74 [tm 126,tm 127] [[some .int],[some .int]]),xo 8 (qm (tm 124)),xo 9 (qm (tm 128))])
 .ret))))))))
def Aa2:List Res:=[.tmp 8,.tmp 9]
theorem Aaw:Ar Tryd.prog Tryd.f58=some (Q7,Aa2):=by kernel_rfl
theorem Pq:A6 Tryd.prog 58=true:=by kernel_rfl
def Ew (a1_1:List (Int×Int×Int×Int)) (a3:List Int) (l6_m28:Nat) (l6_m10:List Int):Option (Ctl (Nat×List Int) (List Int)) :=
 cond (decide (((l6_m28:Nat):Int)<((a1_1.length:Nat):Int)))
 (Option.bind (Option.bind (a1_1[l6_m28]?) fun x12 =>
  cond (x12.1==1)
   (Option.bind (Gv a3 x12.2.2.2) fun x15 =>
   Option.bind (l6_m10[l6_m28]?) fun x16 =>
   some (l6_m10.set l6_m28 x15))
   (some l6_m10)) fun l10_m10 =>
 og (l6_m28+1<4611686018427387904) <|
 some (Ctl.next (l6_m28+1,l10_m10)))
 (some (Ctl.out l6_m10))
def Eo (y20:List Int) (a2:List Int) (l21_m48:Nat) (l21_m10:List Int):Option (Ctl (Nat×List Int) (List Int)) :=
 cond (decide (((l21_m48:Nat):Int)<((y20.length:Nat):Int)))
 (Option.bind (y20[l21_m48]?) fun x27 =>
 Option.bind (a2[l21_m48]?) fun x28 =>
 Option.bind (Gv l21_m10 x27) fun x29 =>
 og (l21_m48+1<4611686018427387904) <|
 some (Ctl.next (l21_m48+1,l21_m10.set x27.toNat x28)))
 (some (Ctl.out l21_m10))
def Dt (y33:List Int) (a1_1:List (Int×Int×Int×Int)) (a0:Int) (l34_m64:Nat) (l34_m10:List Int):Option (Ctl (Nat×List Int) (List Int)) :=
 cond (decide (((l34_m64:Nat):Int)<((y33.length:Nat):Int)))
 (Option.bind (Option.bind (y33[l34_m64]?) fun x40 =>
  Option.bind (Gv a1_1 x40) fun x42 =>
  cond (x42.1==3)
   (Option.bind (Gv l34_m10 x42.2.1) fun x45 =>
   Option.bind (Gv l34_m10 x42.2.2.1) fun x46 =>
   Option.bind (H6 a0 x45 x46) fun y47 =>
   Option.bind (Gv l34_m10 x40) fun x48 =>
   some (l34_m10.set x40.toNat y47))
   (Option.bind (Gv l34_m10 x42.2.1) fun x49 =>
   Option.bind (H4 a0 x42.2.2.2 x49) fun y50 =>
   Option.bind (Gv l34_m10 x40) fun x51 =>
   some (l34_m10.set x40.toNat y50))) fun l38_m10 =>
 og (l34_m64+1<4611686018427387904) <|
 some (Ctl.next (l34_m64+1,l38_m10)))
 (some (Ctl.out l34_m10))
def E1 (y56:List Int) (a1_1:List (Int×Int×Int×Int)) (l31_m10:List Int) (l57_m107:Nat) (l57_m18:List Int):Option (Ctl (Nat×List Int) (List Int)) :=
 cond (decide (((l57_m107:Nat):Int)<((y56.length:Nat):Int)))
 (Option.bind (y56[l57_m107]?) fun x63 =>
 Option.bind (Gv a1_1 x63) fun x64 =>
 Option.bind (Gv l31_m10 x64.2.1) fun x65 =>
 og (l57_m18.length+1<=1073741824∧(l57_m18.length+1)*8<=140737488355328) <|
 og (l57_m107+1<4611686018427387904) <|
 some (Ctl.next (l57_m107+1,l57_m18++([x65]))))
 (some (Ctl.out l57_m18))
def Fr (a0:Int) (a1_0:Int) (a1_1:List (Int×Int×Int×Int)) (a1_2:List Int) (a2:List Int) (a3:List Int):Option (List Int×List Int) :=
 og (0<=((a1_1.length:Nat):Int)∧((a1_1.length:Nat):Int)<=((a1_1.length:Nat):Int)∧((a1_1.length:Nat):Int)<=1073741824∧(8:Int)*((a1_1.length:Nat):Int)<=140737488355328) <|
Option.bind (Ay (fun s_:Nat×List Int=>Ew a1_1 a3 s_.1 s_.2) 4611686018427387904 (0,List.replicate a1_1.length (0:Int))) fun l4_m10 =>
Option.bind (Option.bind (Cp a1_0 a1_1 a1_2) fun y20 =>
 Ay (fun s_:Nat×List Int=>Eo y20 a2 s_.1 s_.2) 4611686018427387904 (0,l4_m10)) fun l18_m10 =>
Option.bind (Option.bind (Et a1_0 a1_1 a1_2) fun y33 =>
 Ay (fun s_:Nat×List Int=>Dt y33 a1_1 a0 s_.1 s_.2) 4611686018427387904 (0,l18_m10)) fun l31_m10 =>
Option.bind (Option.bind (Cp a1_0 a1_1 a1_2) fun y56 =>
 Ay (fun s_:Nat×List Int=>E1 y56 a1_1 l31_m10 s_.1 s_.2) 4611686018427387904 (0,[])) fun l54_m18 =>
Option.bind (Gr a1_2 l31_m10) fun y69 =>
some (l54_m18,y69)
def Y6 (r:List Int×List Int):RV:=⟨true,[(false,[.new 3 .int r.1]),(false,[.new 3 .int r.2])]⟩
set_option maxHeartbeats 1600000 in
theorem Pc {a0:Int} {a1_0:Int} {a1_1:List (Int×Int×Int×Int)} {a1_2:List Int} {a2:List Int} {a3:List Int} {r:List Int×List Int} (h:Fr a0 a1_0 a1_1 a1_2 a2 a3=some r):A4 Tryd.prog Tab 58 [ai a0,.agg [ai a1_0,.tree T4 a1_1,.tree .int a1_2],.tree .int a2,.tree .int a3] (Y6 r):=by
 refine A0 (by kernel_rfl) Tryd.func58 Aaw (n:=129) (by kernel_rfl) (by simp) (tl:=[(0,ai a0),(1,.agg [ai a1_0,.tree T4 a1_1,.tree .int a1_2]),(2,.tree .int a2),(3,.tree .int a3)]) rfl ?_;unfold Q7;unfold Fr at h;refine Al ?_;refine Ab ?_;obtain ⟨g3,h⟩:=Aq h;refine Aa 9 ?_;refine rz0 (.box (oi 5 1) 1) ?_;refine rzl (.tree T4 a1_1) ?_;refine rz0 (ai ((a1_1.length:Nat):Int)) ?_;refine rs1 (.own (oi 24 7) .int 0 a1_1.length) (oi 24 7) (.arr 3 .int (List.replicate a1_1.length (0:Int))) (Lv (t:=.int) (k:=.i64) (k':=.i64) (m:=((a1_1.length:Nat):Int)) (m':=((a1_1.length:Nat):Int)) (by kernel_rfl) (by kernel_rfl) g3 rfl) ?_;refine rsB 1 ?_;refine Ao (tn_ ?_);refine wr_ ?_;refine As h (fun (l4_m10:List Int) S_=>S_=⟨Am [(0,ai a0),(2,.tree .int a2),(5,.box (oi 0 1) 0),(10,.own (oi 1 1) .int 0 l4_m10.length)],Ak (An [(oi 0 1,.cells 31 [ai a1_0,.tree T4 a1_1,.tree .int a1_2]),(oi 1 1,.arr 3 .int l4_m10)]),2⟩) ?_ ?_
 ·intro v_ h;refine Al ?_;refine Ah ?_;refine Ax h (fun t_ S_=>∃ (l6_m28:Nat),∃ (l6_m10:List Int),t_=(l6_m28,l6_m10)∧S_=⟨Am [(0,ai a0),(2,.tree .int a2),(3,.tree .int a3),(5,.box (oi 0 1) 0),(10,.own (oi 1 1) .int 0 l6_m10.length),(26,.tree T4 a1_1),(27,ai ((a1_1.length:Nat):Int)),(28,ai ((l6_m28:Nat):Int))],Ak (An [(oi 0 1,.cells 31 [ai a1_0,.tree T4 a1_1,.tree .int a1_2]),(oi 1 1,.arr 3 .int l6_m10)]),2⟩) ⟨_,(Bn 10 (.own (oi 24 7) .int 0 a1_1.length) (.own (oi 24 7) .int 0 ((List.replicate a1_1.length (0:Int)).length)) (by kernel_rfl) (congrArg (fun z_=>((.own (oi 24 7) .int 0 z_):AV)) (List.length_replicate.symm:a1_1.length=(List.replicate a1_1.length (0:Int)).length))).trans (Ac [(oi 0 1,oi 5 1),(oi 1 1,oi 24 7)]),⟨0,List.replicate a1_1.length (0:Int),rfl,rfl⟩⟩ ?_;rintro n_ _ _ c_ ⟨l6_m28,l6_m10,rfl,rfl⟩ h hn6
  (try dsimp only at h);unfold Ew at h;unfold M1;refine Al ?_;refine Ab ?_;rcases Ad h with ⟨q9,h⟩ | ⟨q9,h⟩
  ·have q9_:=of_decide_eq_true q9;refine Ag q9 ?_;refine Ai (tn_ ?_);refine wr_ ?_;refine As h (fun (l10_m10:List Int) S_=>S_=⟨Am [(0,ai a0),(2,.tree .int a2),(3,.tree .int a3),(5,.box (oi 0 1) 0),(10,.own (oi 1 1) .int 0 l10_m10.length),(26,.tree T4 a1_1),(27,ai ((a1_1.length:Nat):Int)),(28,ai ((l6_m28:Nat):Int))],Ak (An [(oi 0 1,.cells 31 [ai a1_0,.tree T4 a1_1,.tree .int a1_2]),(oi 1 1,.arr 3 .int l10_m10)]),2⟩) ?_ ?_
   ·intro v_ h;refine Ah ?_;refine Ab ?_;obtain ⟨x12,e12,h⟩:=Ae h;refine Aa 9 ?_;refine rz0 (ai ((l6_m28:Nat):Int)) ?_;refine rs0 (.telt T4 x12 0) (zi (t:=T4) (xs:=a1_1) (k:=.i64) (m:=((l6_m28:Nat):Int)) (Ba _) e12) ?_;refine rsB 4 ?_;refine Ao (tn_ ?_);refine wr_ ?_;refine Al ?_;rcases Ad h with ⟨q14,h⟩ | ⟨q14,h⟩
    ·refine Ag q14 ?_;obtain ⟨x15,f15,h⟩:=Ae h;obtain ⟨p15,b15,e15⟩:=Bo f15;obtain ⟨x16,e16,h⟩:=Ae h;refine Aa 21 ?_;refine rz0 (.own (oi 1 1) .int 0 l6_m10.length) ?_;refine rz0 (ai ((l6_m28:Nat):Int)) ?_;refine rz0 (.tree .int a3) ?_;refine rz0 (.box (oi 12 6) 3) ?_;refine rzl (ai x12.2.2.2) ?_;refine rs0 (.telt .int x15 0) (zi (t:=.int) (xs:=a3) (k:=.i64) (m:=x12.2.2.2) p15 e15) ?_;refine rz0 (ai x15) ?_;refine rs0 (.elt (oi 1 1) l6_m28 0) (zo (t:=.int) (o:=oi 1 1) (len:=l6_m10.length) (k:=.i64) (m:=((l6_m28:Nat):Int)) (Ba _) (Be e16)) ?_;refine Sk (oi 1 1) (oi 1 1) (.arr 3 .int (l6_m10.set l6_m28 x15)) (Je (i:=oi 1 1) (j:=l6_m28) (k:=0) (e:=3) (t:=.int) (xs:=l6_m10) (cs:=[ai x15]) (x1:=x15) (by kernel_rfl) (by kernel_rfl) e16 (by kernel_rfl) (by kernel_rfl)) ?_;refine Ao (bn_ (tn_ ?_));obtain rfl:=zj h;exact ⟨_,(Bn 10 (.own (oi 1 1) .int 0 l6_m10.length) (.own (oi 1 1) .int 0 ((l6_m10.set l6_m28 x15).length)) (by kernel_rfl) (congrArg (fun z_=>((.own (oi 1 1) .int 0 z_):AV)) (((rfl:l6_m10.length=l6_m10.length).trans List.length_set.symm):l6_m10.length=(l6_m10.set l6_m28 x15).length))).trans (Ac []),rfl⟩
    refine Af q14 ?_;refine Ai (bn_ (tn_ ?_));obtain rfl:=zj h;exact ⟨_,Ac [],rfl⟩
   rintro l10_m10 _ rfl h
   (try dsimp only at h);obtain ⟨g17,h⟩:=Aq h;refine Aa 4 ?_;refine rs0 (ai ((l6_m28+1:Nat):Int)) (za g17) ?_;refine rsB 1 ?_;refine Ao (tn_ ?_);obtain rfl:=zj h;exact ⟨(l6_m28+1,l10_m10),_,Ac [],⟨l6_m28+1,l10_m10,rfl,rfl⟩,hn6⟩
  have q9_:=of_decide_eq_false q9;refine Af q9 ?_;refine Av (te_ (te_ (be_ (tn_ ?_))));obtain rfl:=zj h;have h:=hn6
  (try dsimp only at h);obtain rfl:=zj h;exact ⟨_,Ac [],rfl⟩
 rintro l4_m10 _ rfl h
 (try dsimp only at h);refine As h (fun (l18_m10:List Int) S_=>S_=⟨Am [(0,ai a0),(5,.box (oi 0 1) 0),(10,.own (oi 1 1) .int 0 l18_m10.length)],Ak (An [(oi 0 1,.cells 31 [ai a1_0,.tree T4 a1_1,.tree .int a1_2]),(oi 1 1,.arr 3 .int l18_m10)]),2⟩) ?_ ?_
 ·intro v_ h;refine Ab ?_;obtain ⟨y20,h20,h⟩:=Ae h;refine Aa 6 ?_;refine rzl (.agg [ai a1_0,.tree T4 a1_1,.tree .int a1_2]) ?_;refine zc (.own (oi 736 3) .int 0 y20.length) [(oi 736 3,some (.arr 3 .int y20))] [.agg [ai a1_0,.tree T4 a1_1,.tree .int a1_2]] (Gi h20) ?_;refine rsB 2 ?_;refine Ao (tn_ ?_);refine wr_ ?_;refine Ah ?_;refine Ax h (fun t_ S_=>∃ (l21_m48:Nat),∃ (l21_m10:List Int),t_=(l21_m48,l21_m10)∧S_=⟨Am [(0,ai a0),(2,.tree .int a2),(5,.box (oi 0 1) 0),(10,.own (oi 1 1) .int 0 l21_m10.length),(46,.own (oi 2 1) .int 0 y20.length),(47,ai ((y20.length:Nat):Int)),(48,ai ((l21_m48:Nat):Int))],Ak (An [(oi 0 1,.cells 31 [ai a1_0,.tree T4 a1_1,.tree .int a1_2]),(oi 1 1,.arr 3 .int l21_m10),(oi 2 1,.arr 3 .int y20)]),2⟩) ⟨_,Ac [(oi 2 1,oi 736 3)],⟨0,l4_m10,rfl,rfl⟩⟩ ?_;rintro n_ _ _ c_ ⟨l21_m48,l21_m10,rfl,rfl⟩ h hn21
  (try dsimp only at h);unfold Eo at h;unfold Mu;refine Al ?_;refine Ab ?_;rcases Ad h with ⟨q24,h⟩ | ⟨q24,h⟩
  ·have q24_:=of_decide_eq_true q24;refine Ag q24 ?_;refine Ai (tn_ ?_);refine wr_ ?_;refine Ab ?_;refine Ah ?_;refine Ab ?_;obtain ⟨x27,e27,h⟩:=Ae h;refine Aa 8 ?_;refine rz0 (ai ((l21_m48:Nat):Int)) ?_;refine rs0 (.elt (oi 2 1) l21_m48 0) (zo (t:=.int) (o:=oi 2 1) (len:=y20.length) (k:=.i64) (m:=((l21_m48:Nat):Int)) (Ba _) (Be e27)) ?_;refine rsl (ai x27) (Hr (i:=oi 2 1) (j:=l21_m48) (k:=0) (e:=3) (t:=.int) (xs:=y20) (by kernel_rfl) (by kernel_rfl) e27 (by kernel_rfl)) ?_;refine rsB 2 ?_;refine Ao (tn_ ?_);refine wr_ ?_;obtain ⟨x28,e28,h⟩:=Ae h;obtain ⟨x29,f29,h⟩:=Ae h;obtain ⟨p29,b29,e29⟩:=Bo f29;refine Aa 16 ?_;refine rz0 (.own (oi 1 1) .int 0 l21_m10.length) ?_;refine rz0 (ai x27) ?_;refine rz0 (.tree .int a2) ?_;refine rz0 (ai ((l21_m48:Nat):Int)) ?_;refine rs0 (.telt .int x28 0) (zi (t:=.int) (xs:=a2) (k:=.i64) (m:=((l21_m48:Nat):Int)) (Ba _) e28) ?_;refine rz0 (ai x28) ?_;refine rs0 (.elt (oi 1 1) x27.toNat 0) (zo (t:=.int) (o:=oi 1 1) (len:=l21_m10.length) (k:=.i64) (m:=x27) p29 (Be e29)) ?_;refine Sk (oi 1 1) (oi 1 1) (.arr 3 .int (l21_m10.set x27.toNat x28)) (Je (i:=oi 1 1) (j:=x27.toNat) (k:=0) (e:=3) (t:=.int) (xs:=l21_m10) (cs:=[ai x28]) (x1:=x28) (by kernel_rfl) (by kernel_rfl) e29 (by kernel_rfl) (by kernel_rfl)) ?_;refine Ao (bn_ (tn_ ?_));refine wr_ ?_;obtain ⟨g30,h⟩:=Aq h;refine Aa 18 ?_;refine rs0 (ai ((l21_m48+1:Nat):Int)) (za g30) ?_;refine rsB 1 ?_;refine Ao (tn_ ?_);obtain rfl:=zj h;exact ⟨(l21_m48+1,l21_m10.set x27.toNat x28),_,(Bn 10 (.own (oi 1 1) .int 0 l21_m10.length) (.own (oi 1 1) .int 0 ((l21_m10.set x27.toNat x28).length)) (by kernel_rfl) (congrArg (fun z_=>((.own (oi 1 1) .int 0 z_):AV)) (((rfl:l21_m10.length=l21_m10.length).trans List.length_set.symm):l21_m10.length=(l21_m10.set x27.toNat x28).length))).trans (Ac []),⟨l21_m48+1,l21_m10.set x27.toNat x28,rfl,rfl⟩,hn21⟩
  have q24_:=of_decide_eq_false q24;refine Af q24 ?_;refine Av (te_ (te_ (be_ (tn_ ?_))));obtain rfl:=zj h;have h:=hn21
  (try dsimp only at h);obtain rfl:=zj h;exact ⟨_,Ac [],rfl⟩
 rintro l18_m10 _ rfl h
 (try dsimp only at h);refine As h (fun (l31_m10:List Int) S_=>S_=⟨Am [(5,.box (oi 0 1) 0),(10,.own (oi 1 1) .int 0 l31_m10.length)],Ak (An [(oi 0 1,.cells 31 [ai a1_0,.tree T4 a1_1,.tree .int a1_2]),(oi 1 1,.arr 3 .int l31_m10)]),2⟩) ?_ ?_
 ·intro v_ h;refine Ab ?_;obtain ⟨y33,h33,h⟩:=Ae h;refine Aa 6 ?_;refine rzl (.agg [ai a1_0,.tree T4 a1_1,.tree .int a1_2]) ?_;refine zc (.own (oi 992 3) .int 0 y33.length) [(oi 992 3,some (.arr 3 .int y33))] [.agg [ai a1_0,.tree T4 a1_1,.tree .int a1_2]] (Nx h33) ?_;refine rsB 2 ?_;refine Ao (tn_ ?_);refine wr_ ?_;refine Ah ?_;refine Ax h (fun t_ S_=>∃ (l34_m64:Nat),∃ (l34_m10:List Int),t_=(l34_m64,l34_m10)∧S_=⟨Am [(0,ai a0),(5,.box (oi 0 1) 0),(10,.own (oi 1 1) .int 0 l34_m10.length),(62,.own (oi 2 1) .int 0 y33.length),(63,ai ((y33.length:Nat):Int)),(64,ai ((l34_m64:Nat):Int))],Ak (An [(oi 0 1,.cells 31 [ai a1_0,.tree T4 a1_1,.tree .int a1_2]),(oi 1 1,.arr 3 .int l34_m10),(oi 2 1,.arr 3 .int y33)]),2⟩) ⟨_,Ac [(oi 2 1,oi 992 3)],⟨0,l18_m10,rfl,rfl⟩⟩ ?_;rintro n_ _ _ c_ ⟨l34_m64,l34_m10,rfl,rfl⟩ h hn34
  (try dsimp only at h);unfold Dt at h;unfold Me;refine Al ?_;refine Ab ?_;rcases Ad h with ⟨q37,h⟩ | ⟨q37,h⟩
  ·have q37_:=of_decide_eq_true q37;refine Ag q37 ?_;refine Ai (tn_ ?_);refine wr_ ?_;refine As h (fun (l38_m10:List Int) S_=>S_=⟨Am [(0,ai a0),(5,.box (oi 0 1) 0),(10,.own (oi 1 1) .int 0 l38_m10.length),(62,.own (oi 2 1) .int 0 y33.length),(63,ai ((y33.length:Nat):Int)),(64,ai ((l34_m64:Nat):Int))],Ak (An [(oi 0 1,.cells 31 [ai a1_0,.tree T4 a1_1,.tree .int a1_2]),(oi 1 1,.arr 3 .int l38_m10),(oi 2 1,.arr 3 .int y33)]),2⟩) ?_ ?_
   ·intro v_ h;refine Ah ?_;refine Ab ?_;obtain ⟨x40,e40,h⟩:=Ae h;refine Aa 6 ?_;refine rs0 (.elt (oi 2 1) l34_m64 0) (zo (t:=.int) (o:=oi 2 1) (len:=y33.length) (k:=.i64) (m:=((l34_m64:Nat):Int)) (Ba _) (Be e40)) ?_;refine rsl (ai x40) (Hr (i:=oi 2 1) (j:=l34_m64) (k:=0) (e:=3) (t:=.int) (xs:=y33) (by kernel_rfl) (by kernel_rfl) e40 (by kernel_rfl)) ?_;refine rsB 1 ?_;refine Ao (tn_ ?_);refine wr_ ?_;refine Ab ?_;obtain ⟨x42,f42,h⟩:=Ae h;obtain ⟨p42,b42,e42⟩:=Bo f42;refine Aa 13 ?_;refine rz0 (.box (oi 0 1) 1) ?_;refine rzl (.tree T4 a1_1) ?_;refine rz0 (ai x40) ?_;refine rs0 (.telt T4 x42 0) (zi (t:=T4) (xs:=a1_1) (k:=.i64) (m:=x40) p42 e42) ?_;refine rsB 3 ?_;refine Ao (tn_ ?_);refine wr_ ?_;refine Al ?_;rcases Ad h with ⟨q44,h⟩ | ⟨q44,h⟩
    ·refine Ag q44 ?_;obtain ⟨x45,f45,h⟩:=Ae h;obtain ⟨p45,b45,e45⟩:=Bo f45;obtain ⟨x46,f46,h⟩:=Ae h;obtain ⟨p46,b46,e46⟩:=Bo f46;obtain ⟨y47,h47,h⟩:=Ae h;obtain ⟨x48,f48,h⟩:=Ae h;obtain ⟨p48,b48,e48⟩:=Bo f48;refine A1 32 ?_;refine dz0 (.own (oi 1 1) .int 0 l34_m10.length) ?_;refine dz0 (ai x40) ?_;refine dz0 (ai a0) ?_;refine dz0 (.own (oi 1 1) .int 0 l34_m10.length) ?_;refine dz0 (.box (oi 17 11) 1) ?_;refine dzl (ai x42.2.1) ?_;refine ds0 (.elt (oi 1 1) x42.2.1.toNat 0) (zo (t:=.int) (o:=oi 1 1) (len:=l34_m10.length) (k:=.i64) (m:=x42.2.1) p45 (Be e45)) ?_;refine dsl (ai x45) (Hr (i:=oi 1 1) (j:=x42.2.1.toNat) (k:=0) (e:=3) (t:=.int) (xs:=l34_m10) (by kernel_rfl) (by kernel_rfl) e45 (by kernel_rfl)) ?_;refine dz0 (.own (oi 1 1) .int 0 l34_m10.length) ?_;refine dz0 (.box (oi 17 11) 2) ?_;refine dzl (ai x42.2.2.1) ?_;refine ds0 (.elt (oi 1 1) x42.2.2.1.toNat 0) (zo (t:=.int) (o:=oi 1 1) (len:=l34_m10.length) (k:=.i64) (m:=x42.2.2.1) p46 (Be e46)) ?_;refine dsl (ai x46) (Hr (i:=oi 1 1) (j:=x42.2.2.1.toNat) (k:=0) (e:=3) (t:=.int) (xs:=l34_m10) (by kernel_rfl) (by kernel_rfl) e46 (by kernel_rfl)) ?_;refine Cq (ai y47) [] [ai a0,ai x45,ai x46] _ (caps:=[]) (args0:=[ai a0,ai x45,ai x46]) trivial (by kernel_rfl) (Aa0 h47) Aa4 ?_;refine ds0 (.elt (oi 1 1) x40.toNat 0) (zo (t:=.int) (o:=oi 1 1) (len:=l34_m10.length) (k:=.i64) (m:=x40) p48 (Be e48)) ?_;refine J2 (oi 1 1) (oi 1 1) (.arr 3 .int (l34_m10.set x40.toNat y47)) (Je (i:=oi 1 1) (j:=x40.toNat) (k:=0) (e:=3) (t:=.int) (xs:=l34_m10) (cs:=[ai y47]) (x1:=y47) (by kernel_rfl) (by kernel_rfl) e48 (by kernel_rfl) (by kernel_rfl)) ?_;refine Gj (Bi (by kernel_rfl)) (bn_ (tn_ ?_));obtain rfl:=zj h;exact ⟨_,(Bn 10 (.own (oi 1 1) .int 0 l34_m10.length) (.own (oi 1 1) .int 0 ((l34_m10.set x40.toNat y47).length)) (by kernel_rfl) (congrArg (fun z_=>((.own (oi 1 1) .int 0 z_):AV)) (((rfl:l34_m10.length=l34_m10.length).trans List.length_set.symm):l34_m10.length=(l34_m10.set x40.toNat y47).length))).trans (Ac []),rfl⟩
    refine Af q44 ?_;obtain ⟨x49,f49,h⟩:=Ae h;obtain ⟨p49,b49,e49⟩:=Bo f49;obtain ⟨y50,h50,h⟩:=Ae h;obtain ⟨x51,f51,h⟩:=Ae h;obtain ⟨p51,b51,e51⟩:=Bo f51;refine A1 29 ?_;refine dz0 (.own (oi 1 1) .int 0 l34_m10.length) ?_;refine dz0 (ai x40) ?_;refine dz0 (ai a0) ?_;refine dz0 (.box (oi 17 11) 3) ?_;refine dzl (ai x42.2.2.2) ?_;refine dz0 (.own (oi 1 1) .int 0 l34_m10.length) ?_;refine dz0 (.box (oi 17 11) 1) ?_;refine dzl (ai x42.2.1) ?_;refine ds0 (.elt (oi 1 1) x42.2.1.toNat 0) (zo (t:=.int) (o:=oi 1 1) (len:=l34_m10.length) (k:=.i64) (m:=x42.2.1) p49 (Be e49)) ?_;refine dsl (ai x49) (Hr (i:=oi 1 1) (j:=x42.2.1.toNat) (k:=0) (e:=3) (t:=.int) (xs:=l34_m10) (by kernel_rfl) (by kernel_rfl) e49 (by kernel_rfl)) ?_;refine Cq (ai y50) [] [ai a0,ai x42.2.2.2,ai x49] _ (caps:=[]) (args0:=[ai a0,ai x42.2.2.2,ai x49]) trivial (by kernel_rfl) (Abd h50) Abb ?_;refine ds0 (.elt (oi 1 1) x40.toNat 0) (zo (t:=.int) (o:=oi 1 1) (len:=l34_m10.length) (k:=.i64) (m:=x40) p51 (Be e51)) ?_;refine J2 (oi 1 1) (oi 1 1) (.arr 3 .int (l34_m10.set x40.toNat y50)) (Je (i:=oi 1 1) (j:=x40.toNat) (k:=0) (e:=3) (t:=.int) (xs:=l34_m10) (cs:=[ai y50]) (x1:=y50) (by kernel_rfl) (by kernel_rfl) e51 (by kernel_rfl) (by kernel_rfl)) ?_;refine Gj (Bi (by kernel_rfl)) (bn_ (tn_ ?_));obtain rfl:=zj h;exact ⟨_,(Bn 10 (.own (oi 1 1) .int 0 l34_m10.length) (.own (oi 1 1) .int 0 ((l34_m10.set x40.toNat y50).length)) (by kernel_rfl) (congrArg (fun z_=>((.own (oi 1 1) .int 0 z_):AV)) (((rfl:l34_m10.length=l34_m10.length).trans List.length_set.symm):l34_m10.length=(l34_m10.set x40.toNat y50).length))).trans (Ac []),rfl⟩
   rintro l38_m10 _ rfl h
   (try dsimp only at h);obtain ⟨g52,h⟩:=Aq h;refine Aa 4 ?_;refine rs0 (ai ((l34_m64+1:Nat):Int)) (za g52) ?_;refine rsB 1 ?_;refine Ao (tn_ ?_);obtain rfl:=zj h;exact ⟨(l34_m64+1,l38_m10),_,Ac [],⟨l34_m64+1,l38_m10,rfl,rfl⟩,hn34⟩
  have q37_:=of_decide_eq_false q37;refine Af q37 ?_;refine Av (te_ (te_ (be_ (tn_ ?_))));obtain rfl:=zj h;have h:=hn34
  (try dsimp only at h);obtain rfl:=zj h;exact ⟨_,Ac [],rfl⟩
 rintro l31_m10 _ rfl h
 (try dsimp only at h);refine Al ?_;refine As h (fun (l54_m18:List Int) S_=>S_=⟨Am [(5,.box (oi 0 1) 0),(10,.own (oi 1 1) .int 0 l31_m10.length),(18,.own (oi 2 1) .int 0 l54_m18.length)],Ak (An [(oi 0 1,.cells 31 [ai a1_0,.tree T4 a1_1,.tree .int a1_2]),(oi 1 1,.arr 3 .int l31_m10),(oi 2 1,.arr 3 .int l54_m18)]),2⟩) ?_ ?_
 ·intro v_ h;refine Ab ?_;obtain ⟨y56,h56,h⟩:=Ae h;refine Aa 7 ?_;refine rzl (.agg [ai a1_0,.tree T4 a1_1,.tree .int a1_2]) ?_;refine zc (.own (oi 1680 4) .int 0 y56.length) [(oi 1680 4,some (.arr 3 .int y56))] [.agg [ai a1_0,.tree T4 a1_1,.tree .int a1_2]] (Gi h56) ?_;refine rsB 2 ?_;refine Ao (tn_ ?_);refine wr_ ?_;refine Ah ?_;refine Ax h (fun t_ S_=>∃ (l57_m107:Nat),∃ (l57_m18:List Int),t_=(l57_m107,l57_m18)∧S_=⟨Am [(5,.box (oi 0 1) 0),(10,.own (oi 1 1) .int 0 l31_m10.length),(18,.own (oi 2 1) .int 0 l57_m18.length),(105,.own (oi 3 1) .int 0 y56.length),(106,ai ((y56.length:Nat):Int)),(107,ai ((l57_m107:Nat):Int))],Ak (An [(oi 0 1,.cells 31 [ai a1_0,.tree T4 a1_1,.tree .int a1_2]),(oi 1 1,.arr 3 .int l31_m10),(oi 2 1,.arr 3 .int l57_m18),(oi 3 1,.arr 3 .int y56)]),2⟩) ⟨_,(P2 18 3 .int rfl (by kernel_rfl)).trans (Ac [(oi 2 1,oi 18 7),(oi 3 1,oi 1680 4)]),⟨0,[],rfl,rfl⟩⟩ ?_;rintro n_ _ _ c_ ⟨l57_m107,l57_m18,rfl,rfl⟩ h hn57
  (try dsimp only at h);unfold E1 at h;unfold Mf;refine Al ?_;refine Ab ?_;rcases Ad h with ⟨q60,h⟩ | ⟨q60,h⟩
  ·have q60_:=of_decide_eq_true q60;refine Ag q60 ?_;refine Ai (tn_ ?_);refine wr_ ?_;refine Ab ?_;refine Ah ?_;refine Ab ?_;obtain ⟨x63,e63,h⟩:=Ae h;refine Aa 6 ?_;refine rs0 (.elt (oi 3 1) l57_m107 0) (zo (t:=.int) (o:=oi 3 1) (len:=y56.length) (k:=.i64) (m:=((l57_m107:Nat):Int)) (Ba _) (Be e63)) ?_;refine rsl (ai x63) (Hr (i:=oi 3 1) (j:=l57_m107) (k:=0) (e:=3) (t:=.int) (xs:=y56) (by kernel_rfl) (by kernel_rfl) e63 (by kernel_rfl)) ?_;refine rsB 1 ?_;refine Ao (tn_ ?_);refine wr_ ?_;obtain ⟨x64,f64,h⟩:=Ae h;obtain ⟨p64,b64,e64⟩:=Bo f64;obtain ⟨x65,f65,h⟩:=Ae h;obtain ⟨p65,b65,e65⟩:=Bo f65;obtain ⟨g66,h⟩:=Aq h;refine Aa 19 ?_;refine rz0 (.own (oi 2 1) .int 0 l57_m18.length) ?_;refine rz0 (.own (oi 1 1) .int 0 l31_m10.length) ?_;refine rz0 (.box (oi 0 1) 1) ?_;refine rzl (.tree T4 a1_1) ?_;refine rz0 (ai x63) ?_;refine rs0 (.telt T4 x64 0) (zi (t:=T4) (xs:=a1_1) (k:=.i64) (m:=x63) p64 e64) ?_;refine rz0 (.telt T4 x64 1) ?_;refine rz0 (ai x64.2.1) ?_;refine rs0 (.elt (oi 1 1) x64.2.1.toNat 0) (zo (t:=.int) (o:=oi 1 1) (len:=l31_m10.length) (k:=.i64) (m:=x64.2.1) p65 (Be e65)) ?_;refine rsl (ai x65) (Hr (i:=oi 1 1) (j:=x64.2.1.toNat) (k:=0) (e:=3) (t:=.int) (xs:=l31_m10) (by kernel_rfl) (by kernel_rfl) e65 (by kernel_rfl)) ?_;refine rs1 (.own (oi 121 16) .int 0 1) (oi 121 16) (.arr 3 .int ([x65])) (by kernel_rfl) ?_;refine rs2 (.own (oi 2 17) .int 0 ((l57_m18++([x65])).length)) (oi 2 1) (oi 2 17) (.arr 3 .int (l57_m18++([x65]))) (L0 (t:=.int) (t':=.int) (xs:=l57_m18) (ys:=[x65]) (zs:=l57_m18++([x65])) (j:=oi 2 1) (len:=l57_m18.length) (c:=.own (oi 121 16) .int 0 1) (by kernel_rfl) (by kernel_rfl) rfl (by kernel_rfl) (Py (e:=3) (by kernel_rfl) rfl) rfl g66) ?_;refine rsB 1 ?_;refine Ao (bn_ (tn_ ?_));refine wr_ ?_;obtain ⟨g67,h⟩:=Aq h;refine Aa 21 ?_;refine rs0 (ai ((l57_m107+1:Nat):Int)) (za g67) ?_;refine rsB 1 ?_;refine Ao (tn_ ?_);obtain rfl:=zj h;exact ⟨(l57_m107+1,l57_m18++([x65])),_,Ac [(oi 2 1,oi 2 17)],⟨l57_m107+1,l57_m18++([x65]),rfl,rfl⟩,hn57⟩
  have q60_:=of_decide_eq_false q60;refine Af q60 ?_;refine Av (te_ (te_ (be_ (tn_ ?_))));obtain rfl:=zj h;have h:=hn57
  (try dsimp only at h);obtain rfl:=zj h;exact ⟨_,Ac [],rfl⟩
 rintro l54_m18 _ rfl h
 (try dsimp only at h);refine Ab ?_;obtain ⟨y69,h69,h⟩:=Ae h;refine Aa 9 ?_;refine rz0 (.own (oi 2 1) .int 0 l54_m18.length) ?_;refine rz0 (.box (oi 0 1) 2) ?_;refine rzl (.tree .int a1_2) ?_;refine rz0 (.own (oi 1 1) .int 0 l31_m10.length) ?_;refine Bh (.own (oi 2048 6) .int 0 y69.length) [(oi 2048 6,some (.arr 3 .int y69))] [.tree .int a1_2,.own (oi 1 1) .int 0 l31_m10.length] _ (caps:=[]) (args0:=[.tree .int a1_2,.tree .int l31_m10]) trivial (Aw (by kernel_rfl) (Aw (B1 (e:=3) (by kernel_rfl) rfl) Cw)) (Wy h69) X2 ?_;refine rsB 2 ?_;refine Ao (tn_ ?_);refine wr_ ?_;refine Aj ?_;obtain rfl:=zj h;exact Bk [.own (oi 2 1) .int 0 l54_m18.length,.own (oi 2048 6) .int 0 y69.length] (At rfl (Er (by kernel_rfl) rfl) (At rfl (Er (by kernel_rfl) rfl) A5))
def Qz:AC :=
 (.seq (rg [xo 4 (qm (.cst .nils))])
 (.seq (rg [xo 6 (qm (tm 0)),xo 7 (.make 3 .int 8 (tm 6) (tm 6)),xo 5 (qm (tm 7))])
 (.seq (rg [xo 8 (qm (tm 5)),xo 9 (qm (tm 1)),xo 10 (qx 1 (tm 8) (tm 9)),xn (qs (tm 10) (ci 1))])
 (.seq (rg [xo 11 (qm (tm 5)),xo 4 (qm (tm 11))])
 .ret))))
def Zy:List Res:=[.tmp 4]
theorem Aax:Ar Tryd.prog Tryd.f59=some (Qz,Zy):=by kernel_rfl
theorem O4:A6 Tryd.prog 59=true:=by kernel_rfl
def Dq (a0:Int) (a1:Int):Option (List Int) :=
 og (0<=a0∧a0<=a0∧a0<=1073741824∧(8:Int)*a0<=140737488355328) <|
Option.bind (Gv (List.replicate a0.toNat (0:Int)) a1) fun x5 =>
some ((List.replicate a0.toNat (0:Int)).set a1.toNat 1)
def Yf (r:List Int):RV:=⟨false,[(false,[.new 3 .int r])]⟩
theorem Pv {a0:Int} {a1:Int} {r:List Int} (h:Dq a0 a1=some r):A4 Tryd.prog Tab 59 [ai a0,ai a1] (Yf r):=by
 refine A0 (by kernel_rfl) Tryd.func59 Aax (n:=12) (by kernel_rfl) (by simp) (tl:=[(0,ai a0),(1,ai a1)]) rfl ?_;unfold Qz;unfold Dq at h;refine Al ?_;refine Ab ?_;obtain ⟨g3,h⟩:=Aq h;refine Aa 5 ?_;refine rz0 (ai a0) ?_;refine rs1 (.own (oi 7 3) .int 0 a0.toNat) (oi 7 3) (.arr 3 .int (List.replicate a0.toNat (0:Int))) (Lv (t:=.int) (k:=.i64) (k':=.i64) (m:=a0) (m':=a0) (by kernel_rfl) (by kernel_rfl) g3 rfl) ?_;refine rsB 1 ?_;refine Ao (tn_ ?_);refine wr_ ?_;refine Ab ?_;obtain ⟨x5,f5,h⟩:=Ae h;obtain ⟨p5,b5,e5⟩:=Bo f5;refine Aa 9 ?_;refine rz0 (.own (oi 7 3) .int 0 a0.toNat) ?_;refine rz0 (ai a1) ?_;refine rs0 (.elt (oi 7 3) a1.toNat 0) (zo (t:=.int) (o:=oi 7 3) (len:=a0.toNat) (k:=.i64) (m:=a1) p5 (Nat.lt_of_lt_of_le (Be e5) (Nat.le_of_eq (Eq.symm List.length_replicate.symm)))) ?_;refine Sk (oi 7 3) (oi 7 3) (.arr 3 .int ((List.replicate a0.toNat (0:Int)).set a1.toNat 1)) (Je (i:=oi 7 3) (j:=a1.toNat) (k:=0) (e:=3) (t:=.int) (xs:=List.replicate a0.toNat (0:Int)) (cs:=[ai 1]) (x1:=1) (by kernel_rfl) (by kernel_rfl) e5 (by kernel_rfl) (by kernel_rfl)) ?_;refine Ao (tn_ ?_);refine wr_ ?_;refine Al ?_;refine Aj ?_;obtain rfl:=zj h;exact Bk [.own (oi 7 3) .int 0 a0.toNat] (At rfl (Er (by kernel_rfl) (List.length_replicate.symm.trans List.length_set.symm)) A5)
def U2:AC :=
 (.seq (rg [xo 4 (qm (.cst .nils))])
 (.seq (rg [xo 6 (qm (tm 0)),xo 7 (qc 47 [tm 6] [[]]),xo 5 (qm (tm 7))])
 (.seq (rg [xo 8 (qm (tm 5)),xo 9 (qm (tm 1)),xo 10 (qx 1 (tm 8) (tm 9)),xn (qs (tm 10) (ci 1))])
 (.seq (rg [xo 11 (qm (tm 5)),xo 4 (qm (tm 11))])
 .ret))))
def Afd:List Res:=[.tmp 4]
theorem Ae9:Ar Tryd.prog Tryd.f46=some (U2,Afd):=by kernel_rfl
theorem S6:A6 Tryd.prog 46=true:=by kernel_rfl
def E5 (a0:Int) (a1:Int):Option (List Int) :=
 Option.bind (C6 a0) fun y3 =>
Option.bind (Gv y3 a1) fun x5 =>
some (y3.set a1.toNat 1)
def Aci (r:List Int):RV:=⟨false,[(false,[.new 3 .int r])]⟩
theorem Su {a0:Int} {a1:Int} {r:List Int} (h:E5 a0 a1=some r):A4 Tryd.prog Tab 46 [ai a0,ai a1] (Aci r):=by
 refine A0 (by kernel_rfl) Tryd.func46 Ae9 (n:=12) (by kernel_rfl) (by simp) (tl:=[(0,ai a0),(1,ai a1)]) rfl ?_;unfold U2;unfold E5 at h;refine Al ?_;refine Ab ?_;obtain ⟨y3,h3,h⟩:=Ae h;refine Aa 5 ?_;refine rz0 (ai a0) ?_;refine zc (.own (oi 112 3) .int 0 y3.length) [(oi 112 3,some (.arr 3 .int y3))] [ai a0] (Fx h3) ?_;refine rsB 1 ?_;refine Ao (tn_ ?_);refine wr_ ?_;refine Ab ?_;obtain ⟨x5,f5,h⟩:=Ae h;obtain ⟨p5,b5,e5⟩:=Bo f5;refine Aa 9 ?_;refine rz0 (.own (oi 112 3) .int 0 y3.length) ?_;refine rz0 (ai a1) ?_;refine rs0 (.elt (oi 112 3) a1.toNat 0) (zo (t:=.int) (o:=oi 112 3) (len:=y3.length) (k:=.i64) (m:=a1) p5 (Be e5)) ?_;refine Sk (oi 112 3) (oi 112 3) (.arr 3 .int (y3.set a1.toNat 1)) (Je (i:=oi 112 3) (j:=a1.toNat) (k:=0) (e:=3) (t:=.int) (xs:=y3) (cs:=[ai 1]) (x1:=1) (by kernel_rfl) (by kernel_rfl) e5 (by kernel_rfl) (by kernel_rfl)) ?_;refine Ao (tn_ ?_);refine wr_ ?_;refine Al ?_;refine Aj ?_;obtain rfl:=zj h;exact Bk [.own (oi 112 3) .int 0 y3.length] (At rfl (Er (by kernel_rfl) ((rfl:y3.length=y3.length).trans List.length_set.symm)) A5)
end
section
open Go.RowKit Go.Deep
end
section
open Go.RowKit Go.Deep
section
variable {n:Nat} {d:Option Nat} {f:Nat->AV} {ob:Oid->Option Ob}
end
end
section
open Go.RowKit Go.Deep
end
section
open Go.RowKit Go.Deep
def GN (G:World->Prop) (n:Nat) (w:World):Prop:=G w∧n<=w.heap.size
def AV.toN (n:Nat):AV->AV
 | .tree t xs=>.ftr n t xs
 | c=>c
def RL.toN (n:Nat):RL->RL
 | .frz c=>.frz (c.toN n)
 | l=>l
def RV.toN (n:Nat) (r:RV):RV:=⟨r.tup,r.ps.map fun p=>(p.1,p.2.map (RL.toN n))⟩
section
variable {P:Program} {G:World->Prop} {f:FuncId} {args:List AV} {r:RV} {n:Nat}
theorem Fn (h:A4 P G f args r):A4 P (GN G n) f args r:=fun w im vs hG hr=>h w im vs (fun w' hb=>(hG w' hb).1) hr
theorem Kq {lo:Nat} {im:Nat->Prop} {vs:List Value} {w:World} (hn:n<=lo):∀ {rs:List RL} {us:List Value} {ls:List Loc},RL.RepL lo im vs w rs us ls->RL.RepL lo im vs w (rs.map (RL.toN n)) us ls
 | [],_,_,h=>h
 | .sc _ :: _,_,_,⟨u,us',e,q1,q2,q3⟩=>⟨u,us',e,q1,q2,Kq hn q3⟩
 | .new _ _ _ :: _,_,_,⟨l,ls',us',e1,e2,q1,q2,q3,q4⟩=>⟨l,ls',us',e1,e2,q1,q2,q3,Kq hn q4⟩
 | .newM _ _ _ _ :: _,_,_,⟨l,kl,ls',us',ks,e1,e2,q,q4⟩=>⟨l,kl,ls',us',ks,e1,e2,q,Kq hn q4⟩
 | .arg _ _ :: _,_,_,⟨u,us',e,q1,q3⟩=>⟨u,us',e,q1,Kq hn q3⟩
 | .argS _ _ _ _ _ :: _,_,_,⟨A,m,c,us',e,q1,q3⟩=>⟨A,m,c,us',e,q1,Kq hn q3⟩
 | .frz c :: _,_,_,⟨u,us',e,q1,q2,q3⟩=>by
  refine ⟨u,us',e,?_,?_,Kq hn q3⟩
  ·cases c <;> first | exact q1 | skip
   obtain ⟨A,c,l,e,hs⟩:=q1;exact ⟨A,c,l,e,Cn (fun b _ hb=>⟨hb,Nat.le_trans hn hb⟩) hs⟩
  ·cases c <;> first | exact q2 | rfl
theorem Y2:∀ (ps:List (Bool×List RL)) (us:List Value),Hm (ps.map fun p=>(p.1,p.2.map (RL.toN n))) us=Hm ps us
 | [],_=>rfl
 | (b,rs) :: ps,us=>by simp only [List.map_cons,Hm,List.length_map,Y2 ps]
theorem Yp (r:RV):(r.toN n).leaves=r.leaves.map (RL.toN n):=by
 simp only [RV.leaves,RV.toN,List.flatMap_map,List.map_flatMap]
theorem L8 (h:A4 P G f args r):A4 P (GN G n) f args (r.toN n):=by
 intro w im vs hG hr;have hn:n<=w.heap.size:=(hG w (Below.refl _ _)).2;refine (h w im vs (fun w' hb=>(hG w' hb).1) hr).mono ?_;rintro e w' ⟨u,rfl,hb,us,ls,q1,⟨q2,q3⟩,q4⟩;refine ⟨u,rfl,hb,us,ls,by rw [Yp]; exact Kq hn q1,⟨q2,fun ⟨c,hc⟩=>q3 ?_⟩,?_⟩
 ·rw [Yp] at hc;obtain ⟨l,hl,e⟩:=List.mem_map.1 hc;cases l <;> first | exact ⟨_,hl⟩ | cases e
 ·rw [q4]; simp only [RV.toN,Y2]
end
-- rows of things that nobody writes
theorem Hw (m:Option Nat):∀ (t:Ty) (x:t.D),(t.avM m x).length=t.size
 | .int,_ | .bool,_ | .str,_ | .slice _,_=>rfl
 | .pair a b,x=>by simp only [Ty.avM,List.length_append,Hw m a,Hw m b,Ty.size]
theorem Ac3 {m:Option Nat} {t:Ty} (xs:List t.D):(tvC m t xs).length=xs.length*t.size:=by
 unfold tvC
 induction xs with
 | nil=>simp
 | cons x xs ih=>rw [List.flatMap_cons,List.length_append,ih,Hw,List.length_cons,Nat.succ_mul]; omega
theorem Alt {m:Option Nat} {t:Ty} (xs ys:List t.D):tvC m t (xs++ys)=tvC m t xs++tvC m t ys:=by simp [tvC]
theorem Af3 {ob:Oid->Option Ob} (m:Option Nat):∀ (t:Ty) (x:t.D),rdC ob t (t.avM m x)=some x
 | .int,_=>rfl
 | .bool,_=>rfl
 | .str,_=>rfl
 | .slice t,xs=>by
  have:Fq ob t (trM m t xs)=some xs:=by cases m <;> simp only [trM,Fq,Ty.eq?_self,Dx]
  simp only [Ty.avM,rdC,this]
 | .pair a b,x=>by
  have h1:(a.avM m x.1++b.avM m x.2).take a.size=a.avM m x.1:=List.take_left' (Hw m a x.1);have h2:(a.avM m x.1++b.avM m x.2).drop a.size=b.avM m x.2:=List.drop_left' (Hw m a x.1);simp only [Ty.avM,rdC,h1,h2,Af3 m a,Af3 m b]
theorem Ab5 {ob:Oid->Option Ob} {m:Option Nat} {t:Ty}:∀ (xs:List t.D),Po (rdC ob t) t.size xs.length (tvC m t xs)=some xs
 | []=>rfl
 | x :: xs=>by
  have h1:(tvC m t (x :: xs)).take t.size=t.avM m x:=List.take_left' (Hw m t x);have h2:(tvC m t (x :: xs)).drop t.size=tvC m t xs:=List.drop_left' (Hw m t x);simp only [List.length_cons,Po,h1,h2,Af3,Ab5 xs]
section
variable {ob:Oid->Option Ob}
theorem An8 {n len:Nat} {o:Oid} {e:TypeId} {m:Option Nat} {t:Ty} {xs:List t.D} (ho:ob o=some (.vec e t.size xs.length (tvC m t xs))) (hl:len=xs.length):gnd ob (n+1) (.own o t 0 len)=some (.tree t xs):=by
 subst hl
 have:Aei ob t.size (rdC ob t) (.own o t 0 xs.length)=some xs:=by
  simp only [Aei,ho];rw [if_pos ⟨trivial,by omega⟩,Nat.zero_mul,List.drop_zero,List.take_of_length_le (by rw [Ac3]; exact Nat.le_refl _)];exact Ab5 xs
 simp only [gnd,ho,this,Option.map_some]
end
theorem Pu {tl:List (Nat×AV)} {ol:List (Oid×Option Ob)} {g:Nat} (o:Oid) (e:TypeId) (m:Option Nat) (t:Ty) (xs:List t.D) {N:Nat} (h:Ak ol o=some (.vec e t.size N (tvC m t xs))) (hN:N=xs.length):Weak ⟨Am tl,Ak ol,g⟩ ⟨Am tl,Ak ((o,some (.tv e m t xs)) :: ol),g⟩:=by
 subst hN
 have:Ak ((o,some (.tv e m t xs)) :: ol)=Ak ol:=by
  funext i;show (if i=o then some (.vec e t.size xs.length (tvC m t xs)) else Ak ol i)=Ak ol i;by_cases hi:i=o
  ·rw [if_pos hi,hi,h]
  ·rw [if_neg hi]
 rw [this]; exact Weak.refl _
theorem Afc {tl:List (Nat×AV)} {ol:List (Oid×Option Ob)} {g:Nat} (s:Nat) (e:TypeId) (m:Option Nat) (t:Ty) (hs:Am tl s=.nils):Weak ⟨Am tl,Ak ol,g⟩ ⟨Am ((s,.own ((s,0),g) t 0 0) :: tl),Ak ((((s,0),g),some (.tv e m t [])) :: ol),g+1⟩:=by
 have key:Weak ⟨Am tl,Ak ol,g⟩ ⟨upd (Am tl) s (.own ((s,0),g) t 0 0),upd (Ak ol) ((s,0),g) (some (.vec e t.size 0 [])),g+1⟩:=by
  intro G w0 B N a w hr;obtain ⟨σ,hm,hf,hB⟩:=hr.ex;obtain ⟨hL,hM⟩:=Yc (e:=e) (sz:=t.size) (i:=((s,0),g)) hm rfl;refine ⟨⟨_,hM,fun u=>?_,hB.trans hL⟩,hr.size,hr.defers,fun i hi=>?_⟩
  ·simp only [upd];split
   ·rename_i eu;subst eu;have:=hf u;rw [show (St.tm ⟨Am tl,Ak ol,g⟩) u=.nils from hs] at this;exact .inl ⟨Bg _ _ _,rfl,rfl,this⟩
   ·exact AV.Rep.later hL _ _ (hf u)
  ·show i.2<g+1;by_cases h:i=((s,0),g)
   ·subst h; show g<g+1; omega
   ·simp only [A9 _ _ _ _ h] at hi;have:i.2<g:=hr.obg i hi;omega
 rw [Mw] at key;have e2:upd (Ak ol) ((s,0),g) (some (.vec e t.size 0 []))=Ak ((((s,0),g),some (.tv e m t [])) :: ol):=by rw [Jn rfl]; rfl
 rw [e2] at key;exact key
section
variable {n:Nat} {d:Option Nat} {f:Nat->AV} {ob:Oid->Option Ob}
theorem Wj {x y:Opd} {o q:Oid} {e1 e2:TypeId} {t t' t2:Ty} {b len:Nat} {m:Option Nat} {xs:List t.D} {z:t.D} (hx:x.ev f=.own o t' 0 len) (hob:ob o=some (.vec e1 t.size xs.length (tvC m t xs))) (hl:len=xs.length) (hy:y.ev f=.own q t2 0 1) (hq:ob q=some (.vec e2 t.size 1 (tvC m t [z]))) (h:xs.length+1<=1073741824∧(xs.length+1)*b<=140737488355328) :
  Bp n ⟨d,none,.appV e1 t b x y⟩ f ob=some (2,.own (o.1,n) t 0 (xs.length+1),[(o,none),((o.1,n),some (.vec e1 t.size (xs.length+1) (tvC m t (xs++[z]))))]):=by
 subst hl;have h1:List.take (xs.length*t.size) (tvC m t xs)=tvC m t xs:=List.take_of_length_le (by rw [Ac3]; exact Nat.le_refl _);have h2:List.take (1*t.size) (List.drop (0*t.size) (tvC m t [z]))=tvC m t [z]:=by rw [Nat.zero_mul,List.drop_zero]; exact List.take_of_length_le (by rw [Ac3]; exact Nat.le_refl _)
 simp only [Bp,ev,Kn,hx,hy,Ael,hq,hob,true_and,Nat.zero_add,Nat.le_refl,if_true,h1,h2,h.1,h.2,and_self,Alt]
end
-- results
inductive Afu (n:Nat) (ob:Oid->Option Ob):AV->AV->Prop
 | ftr {t:Ty} {xs:List t.D}:Afu n ob (.ftr n t xs) (.tree t xs)
 | nil {t:Ty}:Afu n ob .nils (.tree t [])
 | arr {i:Oid} {t u:Ty} {e:TypeId} {xs:List u.D} {len:Nat}:ob i=some (.arr e u xs)->len=xs.length->Afu n ob (.own i t 0 len) (.tree u xs)
 | mat {o p:Oid} {e1 e:TypeId} {u:Ty} {xss:List (List u.D)} {len:Nat}:ob o=some (.vec e1 1 xss.length (hdL p u xss))->(∀ k row,xss[k]? =some row->ob (kid p k)=some (.arr e u row))->len=xss.length->Afu n ob (.own o (.slice u) 0 len) (.tree (.slice u) xss)
 | tv {o:Oid} {e:TypeId} {t:Ty} {xs:List t.D} {len:Nat}:ob o=some (.vec e t.size xs.length (tvC (some n) t xs))->len=xs.length->Afu n ob (.own o t 0 len) (.tree t xs)
section
variable {G:World->Prop} {w0 w:World} {ob:Oid->Option Ob} {σ:Oid->Option Loc} {K:Nat->Prop}
theorem Adp {im im':Nat->Prop} {i:Oid} {t:Ty} {off len:Nat} {v:Value} (h:AV.Rep σ im w (.own i t off len) v):AV.Rep σ im' w (.own i t off len) v:=h
theorem Am2 {im im':Nat->Prop} {p:Oid} {u:Ty} {xss:List (List u.D)} {vs:List Value} (h:AV.RepL σ im w (hdL p u xss) vs):AV.RepL σ im' w (hdL p u xss) vs:=by
 have key:∀ (l:List (List u.D×Nat)) (vs:List Value),AV.RepL σ im w (l.map fun x=>.own (kid p x.2) u 0 x.1.length) vs->AV.RepL σ im' w (l.map fun x=>.own (kid p x.2) u 0 x.1.length) vs:=by
  intro l
  induction l with
  | nil=>intro vs h; exact h
  | cons x l ih=>rintro vs ⟨v,vs',e,h1,h2⟩; exact ⟨v,vs',e,Adp h1,ih vs' h2⟩
 exact key _ _ h
theorem Agy {im:Nat->Prop} {n:Nat}:∀ (t:Ty) (x:t.D) (vs:List Value),AV.RepL σ im w (t.avM (some n) x) vs->AV.RepL σ (fun b=>n<=b) w (t.av x) vs
 | .int,_,_,⟨v,vs',e,h1,h2⟩=>⟨v,vs',e,h1,h2⟩
 | .bool,_,_,⟨v,vs',e,h1,h2⟩=>⟨v,vs',e,h1,h2⟩
 | .str,_,_,⟨v,vs',e,h1,h2⟩=>⟨v,vs',e,h1,h2⟩
 | .slice t,xs,_,⟨v,vs',e,⟨A,c,l,e1,hs⟩,h2⟩=>⟨v,vs',e,⟨A,c,l,e1,Cn (fun b _ hb=>hb.2) hs⟩,h2⟩
 | .pair a b,x,vs,h=>by
  have hl:=h.length;have h1:=h.take a.size;have h2:=h.drop a.size;have e1:((Ty.pair a b).avM (some n) x).take a.size=a.avM (some n) x.1:=List.take_left' (Hw _ a x.1);have e2:((Ty.pair a b).avM (some n) x).drop a.size=b.avM (some n) x.2:=List.drop_left' (Hw _ a x.1);rw [e1] at h1;rw [e2] at h2;have:=(Agy a x.1 _ h1).append (Agy b x.2 _ h2);rw [List.take_append_drop] at this;exact this
theorem Aj1 {im:Nat->Prop} {n:Nat} {t:Ty}:∀ (xs:List t.D) (vs:List Value),AV.RepL σ im w (tvC (some n) t xs) vs->AV.RepL σ (fun b=>n<=b) w (tvC none t xs) vs
 | [],_,h=>h
 | x :: xs,vs,h=>by
  have h1:=h.take t.size;have h2:=h.drop t.size;have e1:(tvC (some n) t (x :: xs)).take t.size=t.avM (some n) x:=List.take_left' (Hw _ t x);have e2:(tvC (some n) t (x :: xs)).drop t.size=tvC (some n) t xs:=List.drop_left' (Hw _ t x);rw [e1] at h1;rw [e2] at h2
  have hav:∀ (t:Ty) (x:t.D),t.avM none x=t.av x:=by
   intro t
   induction t with
   | pair a b ha hb=>intro x; simp only [Ty.avM,Ty.av,ha,hb]
   | _=>intro x; rfl
  have h1':=Agy t x _ h1;rw [← hav] at h1';have:=h1'.append (Aj1 xs _ h2);rw [List.take_append_drop] at this;exact this
theorem Ajo (hM:Mem0 G w0 ob σ K w) {c d:AV} {v:Value} (h:Afu w0.heap.size ob c d) (hr:AV.Rep σ (imm ob σ) w c v):AV.Rep (fun _=>none) (fun b=>w0.heap.size<=b) w d v:=by
 cases h with
 | ftr=>obtain ⟨A,c,l,e,hs⟩:=hr; exact ⟨A,c,l,e,Cn (fun b _ hb=>hb.2) hs⟩
 | nil=>exact ⟨none,0,[],hr,by simp,by simp [maxLen],fun _=>[],by simp,fun h=>absurd h (by simp)⟩
 | @arr i t u e xs len h1 h2 =>
  refine L4 (ob:=fun j=>if j=i then some (.arr e u xs) else none) (σ:=σ) (im:=fun b=>w0.heap.size<=b) (lo:=w0.heap.size) (fun j o l hj hl=>?_) (fun _ hb=>hb) (fun j o b c s _ hs=>(hM.lt j b c s hs).1) 1 _ _ _ (B1 (e:=e) (if_pos rfl) h2) (Adp hr);split at hj
  ·rename_i e'; subst e';obtain rfl:=osj hj;exact hM.obs j _ l h1 hl
  ·cases hj
 | @mat o p e1 e u xss len h1 h2 h3 =>
  refine L4 (ob:=fun j=>match ob j with | some (.arr e u xs)=>some (.arr e u xs) | _=>if j=o then some (.vec e1 1 xss.length (hdL p u xss)) else none) (σ:=σ) (im:=fun b=>w0.heap.size<=b) (lo:=w0.heap.size) (fun j q l hj hl=>?_) (fun _ hb=>hb) (fun j o b c s _ hs=>(hM.lt j b c s hs).1) 1 _ _ _ (Ann (p:=p) (e1:=e1) (e:=e) (by simp only [h1]; rw [if_pos trivial]) (fun k row hk=>by simp only [h2 k row hk]) h3) (Adp hr);split at hj
  ·rename_i e' u' xs' hj';obtain rfl:=osj hj;exact hM.obs j _ l hj' hl
  ·split at hj
   ·rename_i e'; subst e';obtain rfl:=osj hj;obtain ⟨vs,g1,g2,g3⟩:=hM.obs j _ l h1 hl;exact ⟨vs,g1,Am2 g2,g3⟩
   ·cases hj
 | @tv o e t xs len h1 h2 =>
  refine L4 (ob:=fun j=>if j=o then some (.vec e t.size xs.length (tvC none t xs)) else none) (σ:=σ) (im:=fun b=>w0.heap.size<=b) (lo:=w0.heap.size) (fun j q l hj hl=>?_) (fun _ hb=>hb) (fun j o b c s _ hs=>(hM.lt j b c s hs).1) 1 _ _ _ (An8 (m:=none) (e:=e) (if_pos rfl) h2) (Adp hr);split at hj
  ·rename_i e'; subst e';obtain rfl:=osj hj;obtain ⟨vs,g1,g2,g3⟩:=hM.obs j _ l h1 hl;exact ⟨vs,g1,Aj1 xs vs g2,g3⟩
  ·cases hj
def Ae1 (n:Nat) (ob:Oid->Option Ob) (c:AV) (l:RL):Prop:=(c.scal=true∧l=.sc c)∨∃ d,l=.frz d∧d.gndB=true∧Afu n ob c d
def Li (n:Nat) (ob:Oid->Option Ob):List AV->List RL->Prop
 | [],ls=>ls=[]
 | c :: cs,ls=>∃ l ls',ls=l :: ls'∧Ae1 n ob c l∧Li n ob cs ls'
def M6 (n:Nat) (ob:Oid->Option Ob):List (Bool×List AV)->List (Bool×List RL)->Prop
 | [],ps=>ps=[]
 | (b,cs) :: r,ps=>∃ ls ps',ps=(b,ls) :: ps'∧Li n ob cs ls∧(b=false->cs.length=1)∧M6 n ob r ps'
def Alq:List (Bool×List AV)->List AV
 | []=>[]
 | (b,cs) :: r=>(if b then .agg cs else cs.headD .any) :: Alq r
def An6 (n:Nat) (rs:List Res) (S:St) (r:RV):Prop :=
 ∃ gs ps,Res.evL S.tm S.ob rs=some (Alq gs)∧M6 n S.ob gs ps∧r=⟨decide (rs.length≠1),ps⟩
theorem U4 (hM:Mem0 G w0 ob σ K w) {im:Nat->Prop} {vs0:List Value}:∀ {cs:List AV} {ls:List RL} {us:List Value},Li w0.heap.size ob cs ls->AV.RepL σ (imm ob σ) w cs us->RL.RepL w0.heap.size im vs0 w ls us []∧ls.length=us.length
 | [],ls,us,h,hr=>by obtain rfl:ls=[]:=h; exact ⟨⟨hr,rfl⟩,by rw [show us=[] from hr]; rfl⟩
 | c :: cs,ls,us,⟨l,ls',e,h1,h2⟩,⟨u,us',e',r1,r2⟩=>by
  subst e e';obtain ⟨q1,q2⟩:=U4 hM (im:=im) (vs0:=vs0) h2 r2;refine ⟨?_,by simp [q2]⟩;rcases h1 with ⟨a1,rfl⟩ | ⟨d,rfl,a1,a2⟩
  ·exact ⟨u,us',rfl,(by cases c <;> first | exact r1 | cases a1),a1,q1⟩
  ·exact ⟨u,us',rfl,Ajo hM a2 r1,a1,q1⟩
theorem Ae4 {lo:Nat} {im:Nat->Prop} {vs:List Value} {w:World}:∀ {rs:List RL} {us:List Value} {rs':List RL} {us':List Value},(∀ l∈rs,(∃ c,l=.sc c)∨∃ d,l=.frz d)->RL.RepL lo im vs w rs us []->RL.RepL lo im vs w rs' us' []->RL.RepL lo im vs w (rs++rs') (us++us') []
 | [],_,_,_,_,⟨e,_⟩,h=>by subst e; exact h
 | l :: rs,us,rs',us',hk,h,h'=>by
  have hk':=fun l hl=>hk l (List.mem_cons_of_mem _ hl)
  rcases hk l List.mem_cons_self with ⟨c,rfl⟩ | ⟨d,rfl⟩ <;> obtain ⟨u,us1,rfl,q1,q2,q3⟩:=h <;> exact ⟨u,us1++us',rfl,q1,q2,Ae4 hk' q3 h'⟩
theorem R6 {n:Nat}:∀ {cs:List AV} {ls:List RL},Li n ob cs ls->∀ l∈ls,(∃ c,l=.sc c)∨∃ d,l=.frz d
 | [],ls,h,l,hl=>by rw [show ls=[] from h] at hl; cases hl
 | c :: cs,ls,⟨l0,ls',e,h1,h2⟩,l,hl=>by
  subst e;rcases List.mem_cons.1 hl with rfl | hl
  ·rcases h1 with ⟨_,rfl⟩ | ⟨d,rfl,_⟩
   ·exact .inl ⟨_,rfl⟩
   ·exact .inr ⟨_,rfl⟩
  ·exact R6 h2 l hl
theorem Zc (hM:Mem0 G w0 ob σ K w) {im:Nat->Prop} {vs0:List Value}:∀ {gs:List (Bool×List AV)} {ps:List (Bool×List RL)} {us:List Value},M6 w0.heap.size ob gs ps->AV.RepL σ (imm ob σ) w (Alq gs) us->∃ vs,RL.RepL w0.heap.size im vs0 w (ps.flatMap (·.2)) vs []∧Hm ps vs=us
 | [],ps,us,h,hr=>by
  obtain rfl:ps=[]:=h;exact ⟨[],⟨rfl,rfl⟩,hr.symm⟩
 | (b,cs) :: gs,ps,us,⟨ls,ps',e,h1,h2,h3⟩,⟨u,us',e',r1,r2⟩=>by
  subst e e';obtain ⟨vs,q1,q2⟩:=Zc hM (im:=im) (vs0:=vs0) h3 r2
  have key:∀ ws:List Value,AV.RepL σ (imm ob σ) w cs ws->(if b then Value.agg ws.toArray else ws.headD undef)=u->∃ vs,RL.RepL w0.heap.size im vs0 w (((b,ls) :: ps').flatMap (·.2)) vs []∧Hm ((b,ls) :: ps') vs=u :: us':=fun ws hw hu=>by
   obtain ⟨a1,a2⟩:=U4 hM (im:=im) (vs0:=vs0) h1 hw;refine ⟨ws++vs,Ae4 (R6 h1) a1 q1,?_⟩;simp only [Hm];rw [List.drop_left' a2.symm,q2,List.take_left' a2.symm];congr 1;cases b with
   | true=>exact hu
   | false =>
    have hl:=h2 rfl;rw [← hw.length] at hl;cases ws with
    | nil=>simp at hl
    | cons w0 ws=>exact hu
  cases b with
  | true =>
   obtain ⟨ws,e1,e2⟩:=r1;exact key ws e2 (by rw [e1]; rfl)
  | false =>
   have hl:=h2 rfl;obtain ⟨c,rfl⟩:=List.length_eq_one_iff.1 hl;exact key [u] ⟨u,[],rfl,r1,rfl⟩ rfl
end
theorem F5 {P:Program} [IsP P] {G:World->Prop} (hfol:P.follows .mixedOrders=true) {g:FuncId} {fn:Func} (hf:P.funcs[g]? =some fn) {ac:AC} {rs:List Res} (hc0:Ar P fn=some (ac,rs)) {args:List AV} {r:RV} {n:Nat} (hN:fn.ntmps=n) (hn:args.length<=n) {tl:List (Nat×AV)} (htl:tmL 0 args=tl)
  (h:∀ n,awp P (GN G n) ac (fun e S=>∃ S',Weak S S'∧(e=.normal∨e=.ret)∧An6 n rs S' r) ⟨Am tl,Ak [],1⟩):A4 P G g args r:=by
 subst hN
 have h0:∃ c,fn.body=some c∧AC.of P fn.ntmps c=some ac∧Res.ofL P fn.results.toList=some rs:=by
  unfold Ar at hc0;split at hc0
  ·rename_i c hb;split at hc0
   ·rename_i ac' rs' h1 h2;obtain ⟨rfl,rfl⟩:=Prod.mk.inj (osj hc0);exact ⟨c,hb,h1,h2⟩
   ·cases hc0
  ·cases hc0
 obtain ⟨c,hb,hc,hrs⟩:=h0;intro w im vs hG hargs
 replace h:=h w.heap.size
 rw [← htl,← St.init_eq] at h;have hlen:vs.length=args.length:=hargs.length
 have hany:∀ (cs:List AV) (us:List Value),AV.RepL (fun _=>none) im w cs us->AV.RepL (fun _=>none) (imm (fun _=>none) (fun _=>none)) w cs us:=fun cs us h' =>
  AV.RepL.later ⟨fun _ _ h=>h,(fun _ _ _ _ _ _ _ h=>by cases h),fun _ _ _=>rfl,Nat.le_refl _⟩ cs us h'
 have hreps:Ps (GN G w.heap.size) w ⟨fun _=>none,fun _=>False,w,fun _ _ h=>(nomatch h)⟩ fn.ntmps (St.init args) { tmps:=vs.toArray++Array.replicate (fn.ntmps - vs.toArray.size) undef,defers:=[] } w:=by
  refine ⟨⟨fun _=>none,⟨Below.refl _ _,fun w' hb=>⟨hG w' hb,hb.size⟩,(fun _ _ h=>by cases h),(fun _ _ _ _ h=>by cases h),(fun _ _ _ _ h=>by cases h),(fun _ _ _ _ _ _ _ _ _ h=>by cases h),(fun _ _ _ h=>by cases h)⟩,fun t=>?_,⟨fun _ _ h=>h,fun _ _ h=>h.elim,fun _ _ h=>h.elim,Nat.le_refl _⟩⟩,by simp; omega,rfl,fun i h=>absurd rfl h⟩;simp only [St.init,gDg];cases ht:args[t]? with
  | none=>trivial
  | some c =>
   obtain ⟨v,hv,hr⟩:=(hany _ _ hargs).get ht;have hlt:t<vs.length:=(gSi.1 hv).1
   have e:(vs.toArray++Array.replicate (fn.ntmps - vs.toArray.size) undef).getD t undef=v:=by
    rw [Array.getD_eq_getD_getElem?,Array.getElem?_append_left (by simpa using hlt)];simp [hv]
   rw [e];exact hr
 refine calls_of_wp hf hb (Code.wp_mono (fun e a' w' hq=>?_) (Uj hfol c ac _ _ _ w hc h hreps));obtain ⟨e',S0,rfl,⟨S',hweak,hend,gs,ps,h1,h2,h4⟩,hr⟩:=hq
 replace hr:=hweak _ _ _ _ _ _ hr
 obtain ⟨σ,hM,hF,_⟩:=hr.ex
 have hrun:∀ (vars:List ResultVar) (rs:List Res) (avs:List AV),Res.ofL P vars=some rs->Res.evL S'.tm S'.ob rs=some avs ->
   ∃ us,(vars.mapM (Afa a'.tmps)).run P w'=.ok us w'∧AV.RepL σ (imm S'.ob σ) w' avs us∧us.length=vars.length∧rs.length=vars.length:=by
  intro vars
  induction vars with
  | nil =>
   intro rs avs q1 q2;obtain rfl:[]=rs:=osj q1;obtain rfl:[]=avs:=osj q2;exact ⟨[],rfl,rfl,rfl,rfl⟩
  | cons v vars ih =>
   intro rs avs q1 q2;simp only [Res.ofL] at q1;split at q1
   ·rename_i x xs p1 p2;obtain rfl:=osj q1;simp only [Res.evL] at q2;split at q2
    ·rename_i y ys p3 p4;obtain rfl:=osj q2;obtain ⟨u,r1,r2⟩:=Res.run hM hF p1 p3;obtain ⟨us,r3,r4,r5,r6⟩:=ih _ _ p2 p4;refine ⟨u :: us,?_,⟨u,us,rfl,r2,r4⟩,by simp [r5],by simp [r6]⟩;rw [List.mapM_cons,Sem.run_bind,r1];simp only [Result.andThen_ok,Sem.run_bind,r3,Sem.run_pure]
    ·cases q2
   ·cases q1
 obtain ⟨us,u1,u2,u3,u4⟩:=hrun fn.results.toList rs _ hrs h1;obtain ⟨vs',f1,f3⟩:=Zc (im:=im) (vs0:=vs) hM h2 u2;have hres:(results fn a'.tmps).run P w'=.ok (if fn.results.size=1 then us.headD undef else .tuple us.toArray) w':=O1 u1 (by rw [u3]; simp)
 have hrv:r.Rep w.heap.size im vs w' (if fn.results.size=1 then us.headD undef else .tuple us.toArray):=by
  subst h4;refine ⟨vs',[],f1,⟨trivial,fun _=>rfl⟩,?_⟩;simp only [f3];have:rs.length=fn.results.size:=by rw [u4]; simp
  rw [this];by_cases h1:fn.results.size=1 <;> simp [h1]
 have fin:∃ u,(results fn a'.tmps).run P w'=.ok u w'∧∃ v,Ending.returned u=.returned v∧Below w.heap.size w w'∧r.Rep w.heap.size im vs w' v:=⟨_,hres,_,rfl,hM.below,hrv⟩
 rcases hend with rfl | rfl
 ·exact ⟨hr.defers,fin⟩
 ·exact ⟨hr.defers,fin⟩
theorem Lm {n:Nat} {rs:List Res} {tm:Nat->AV} {ob:Oid->Option Ob} {g:Nat} {r:RV} (gs:List (Bool×List AV)) {e:AE} (h2:M6 n ob gs r.ps) (he:e=.normal∨e=.ret:=by simp) (h1:Res.evL tm ob rs=some (Alq gs):=by kernel_rfl) (h4:r.tup=decide (rs.length≠1):=by kernel_rfl):∃ S',Weak ⟨tm,ob,g⟩ S'∧(e=.normal∨e=.ret)∧An6 n rs S' r :=
 ⟨_,Weak.refl _,he,gs,r.ps,h1,h2,by cases r; cases h4; rfl⟩
section
variable {n:Nat} {ob:Oid->Option Ob}
theorem H7:M6 n ob [] []:=rfl
theorem K3 {cs:List AV} {r:List (Bool×List AV)} {ls:List RL} {ps:List (Bool×List RL)} (h1:Li n ob cs ls) (h2:M6 n ob r ps):M6 n ob ((true,cs) :: r) ((true,ls) :: ps):=⟨ls,ps,rfl,h1,(fun h=>by cases h),h2⟩
theorem Iy {c:AV} {r:List (Bool×List AV)} {l:RL} {ps:List (Bool×List RL)} (h1:Ae1 n ob c l) (h2:M6 n ob r ps):M6 n ob ((false,[c]) :: r) ((false,[l]) :: ps):=⟨[l],ps,rfl,⟨l,[],rfl,h1,rfl⟩,fun _=>rfl,h2⟩
theorem Ko:Li n ob [] []:=rfl
theorem Au {c:AV} {cs:List AV} {l:RL} {ls:List RL} (h1:Ae1 n ob c l) (h2:Li n ob cs ls):Li n ob (c :: cs) (l :: ls):=⟨l,ls,rfl,h1,h2⟩
theorem Ck {c:AV} (h:c.scal=true:=by kernel_rfl):Ae1 n ob c (.sc c):=.inl ⟨h,rfl⟩
theorem Bl {c:AV} {t:Ty} {xs:List t.D} (h:Afu n ob c (.tree t xs)):Ae1 n ob c (.frz (.tree t xs)):=.inr ⟨_,rfl,rfl,h⟩
end
end
end Go.Proofs.YtmflebjoidoiiaaDoor
