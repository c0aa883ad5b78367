/- Lemmas on the program and on partial functions that stand in place of its code (part 5); no condition beyond those that each one states. -/
import Derived.Test.YtpnofkjgeokdhaaDoorZ4
namespace Go.Proofs.YtpnofkjgeokdhaaDoor
section
open Go.RowKit Go.Deep
set_option maxRecDepth 4000
def Rb:AC :=
 (.seq (rg [xo 1 (.i (.box 55 (tm 0))),xo 2 (qm (.cst .nils))])
 (.seq (.seq (rg [xf 3 0 1,xl 4 3])
 (.block 0 (.seq (rg [xo 6 (qb .eql (tm 4) (ci 3)),xm 5 6])
 (.cond (tm 5)
  (.seq (rg [xf 7 1 1,xl 8 7,xf 9 2 1,xl 10 9,xo 11 (.mkS 3 .int [tm 8,tm 10]),xm 2 11])
  .ret)
  (.seq (.seq (rg [xo 13 (qb .eql (tm 4) (ci 4)),xm 12 13])
  (.cond (tm 12)
   .skip
   (rg [xo 14 (qb .eql (tm 4) (ci 5)),xm 12 14])))
  (.cond (tm 12)
   (.seq (rg [xf 15 1 1,xl 16 15,xo 17 (.mkS 3 .int [tm 16]),xm 2 17])
   .ret)
   .skip))))))
 (.seq (rg [xo 2 (qm (.cst .nils))])
 .ret)))
def Aaw:List Res:=[.tmp 2]
theorem Zg:At Tryd.prog Tryd.f69=some (Rb,Aaw):=by kernel_rfl
def Ex (u0 u1:Int) (u2 u4:Int):Option (List Int) :=
 cond (u0==3)
 (some ([u1,u2]))
 (Option.bind (cond (u0==4)
   (some (u0==4))
   (some (u0==5))) fun u3 =>
 cond u3
  (some ([u1]))
  (some []))
def Yi (r:List Int):RV:=⟨false,[(false,[.new 3 .int r])]⟩
theorem Ig {u0 u1:Int} {u2 u3:Int} {r:List Int} (h:Ex u0 u1 u2 u3=some r):A0 Tryd.prog Tab 69 [.agg [ai u0,ai u1,ai u2,ai u3]] (Yi r):=by
 refine A1 (by kernel_rfl) Tryd.func69 Zg (n:=18) (by kernel_rfl) (by simp) (tl:=[(0,.agg [ai u0,ai u1,ai u2,ai u3])]) rfl ?_;unfold Rb;unfold Ex at h;refine Al ?_;refine Ab ?_;refine Al ?_;refine Ae ?_;refine Al ?_;rcases Af h with ⟨q5,h⟩ | ⟨q5,h⟩
 ·refine Ah q5 ?_;refine Al ?_;refine An (br_ (tr_ ?_));obtain rfl:=zj h;exact Bo [oI 11 11 2] (A2 rfl (Fy (by kernel_rfl) rfl) A5)
 refine Ag q5 ?_;refine Ar h (fun (u4:Bool) S_=>S_=⟨Ao [(1,.box (oi 0 1) 0),(12,.bool u4)],Aj (Ap [(oi 0 1,.cells 55 [ai u0,ai u1,ai u2,ai u3])]),2⟩) ?_ ?_
 ·intro v_ h;refine Al ?_;rcases Af h with ⟨q9,h⟩ | ⟨q9,h⟩
  ·refine Ah q9 ?_;refine Ai (tn_ ?_);obtain rfl:=zj h;exact ⟨_,Ac [(oi 0 1,oi 1 1)],rfl⟩
  refine Ag q9 ?_;refine Aa 11 ?_;refine rsB 2 ?_;refine Aq (tn_ ?_);obtain rfl:=zj h;exact ⟨_,Ac [(oi 0 1,oi 1 1)],rfl⟩
 rintro u4 _ rfl h
 (try dsimp only at h);rcases Af h with ⟨q10,h⟩ | ⟨q10,h⟩
 ·refine Ah q10 ?_;refine Al ?_;refine An (br_ (tr_ ?_));obtain rfl:=zj h;exact Bo [oI 17 4 1] (A2 rfl (Fy (by kernel_rfl) rfl) A5)
 refine Ag q10 ?_;refine Ai (bn_ (tn_ ?_));refine wr_ ?_;refine Al ?_;refine An ?_;obtain rfl:=zj h;exact Bo [.nils] (A2 rfl (Al7 rfl) A5)
def Yf:AC :=
 (.seq (rg [xo 5 (.i (.box 55 (tm 1))),xo 8 (qm (cb false))])
 (.seq (.seq (rg [xo 9 (.i (.ld false 4 (tm 5))),xo 10 (qc 69 [tm 9] [[none,none,none,none]]),xm 11 3,xo 12 (qb .sub (tm 11) (ci 1)),xo 13 (qc 35 [tm 10,ci 0,tm 12] [[some .int],[],[]]),xo 14 (.i (.not (tm 13))),xm 15 14,⟨some 16,some (15,false),qf 0 (tm 5)⟩,⟨some 17,some (15,false),ql (tm 16)⟩,⟨some 18,some (15,false),qb .neq (tm 17) (ci 3)⟩,⟨some 19,some (15,false),qm (tm 18)⟩,⟨some 20,some (19,true),qf 2 (tm 5)⟩,⟨some 21,some (19,true),ql (tm 20)⟩,⟨some 22,some (19,true),qb .neq (tm 21) (ci 0)⟩,⟨some 23,some (15,false),.i (.pick (tm 19) (tm 22) (cb false))⟩,xo 24 (.i (.pick (tm 15) (cb true) (tm 23)))])
 (.cond (tm 24)
  (.seq (rg [xo 8 (qm (cb false))])
  .ret)
  .skip))
 (.seq (.seq (rg [xf 25 0 5,xl 26 25])
 (.block 0 (.seq (rg [xo 28 (qb .eql (tm 26) (ci 1)),xm 27 28])
 (.cond (tm 27)
  (.seq (rg [xf 29 3 5,xl 30 29,xm 31 2,xo 32 (qb .sub (tm 31) (ci 1)),xo 33 (qc 34 [tm 30,ci 0,tm 32] [[],[],[]]),xm 34 33,⟨some 35,some (34,true),qf 1 (tm 5)⟩,⟨some 36,some (34,true),ql (tm 35)⟩,⟨some 37,some (34,true),qb .eql (tm 36) (ci 0)⟩,xo 38 (.i (.pick (tm 34) (tm 37) (cb false))),xm 8 38])
  .ret)
  (.seq (rg [xo 40 (qb .eql (tm 26) (ci 2)),xm 39 40])
  (.cond (tm 39)
   (.seq (rg [xf 41 3 5,xl 42 41,xo 43 (qb .eql (tm 42) (ci 0)),xm 44 43,⟨some 45,some (44,true),qf 1 (tm 5)⟩,⟨some 46,some (44,true),ql (tm 45)⟩,⟨some 47,some (44,true),qb .eql (tm 46) (ci 0)⟩,xo 48 (.i (.pick (tm 44) (tm 47) (cb false))),xm 8 48])
   .ret)
   (.seq (.seq (rg [xo 50 (qb .eql (tm 26) (ci 3)),xm 49 50])
   (.cond (tm 49)
    .skip
    (rg [xo 51 (qb .eql (tm 26) (ci 5)),xm 49 51])))
   (.cond (tm 49)
    (.seq (rg [xf 52 3 5,xl 53 52,xo 54 (qb .eql (tm 53) (ci 0)),xm 8 54])
    .ret)
    (.seq (rg [xo 56 (qb .eql (tm 26) (ci 4)),xm 55 56])
    (.cond (tm 55)
     (.seq (rg [xf 57 3 5,xl 58 57,xm 59 0,xo 60 (qb .sub (tm 59) (ci 1)),xo 61 (qc 34 [tm 58,ci 0,tm 60] [[],[],[]]),xm 8 61])
     .ret)
     .skip))))))))))
 (.seq (rg [xo 8 (qm (cb false))])
 .ret))))
def Ai4:List Res:=[.tmp 8]
theorem Aju:At Tryd.prog Tryd.f36=some (Yf,Ai4):=by kernel_rfl
def Kx (a0 u0:Int) (u2 u3:Int) (u1 a2 a3:Int):Option Bool :=
 Option.bind (Option.bind (Ex u0 u2 u3 u1) fun y4 =>
 Option.bind (J2 y4 0 (wI (a3 - 1))) fun y5 =>
 cond (!y5)
  (some true)
  (cond (u0 !=3)
   (some (u3 !=0))
   (some false))) fun u4 =>
cond u4
 (some false)
 (cond (u0==1)
  (Option.bind (Option.bind (Ff u1 0 (wI (a2 - 1))) fun y15 =>
   cond y15
    (some (u2==0))
    (some false)) fun u5 =>
  some u5)
  (cond (u0==2)
   (Option.bind (cond (u1==0)
     (some (u2==0))
     (some false)) fun u6 =>
   some u6)
   (Option.bind (cond (u0==3)
     (some (u0==3))
     (some (u0==5))) fun u7 =>
   cond u7
    (some (u1==0))
    (cond (u0==4)
     (Option.bind (Ff u1 0 (wI (a0 - 1))) fun y29 =>
     some y29)
     (some false)))))
def Af3 (r:Bool):RV:=⟨false,[(false,[.sc (.bool r)])]⟩
theorem Ahr {a0 u0:Int} {u1 u2:Int} {u3 a2 a3:Int} {r:Bool} (h:Kx a0 u0 u1 u2 u3 a2 a3=some r):A0 Tryd.prog Tab 36 [ai a0,.agg [ai u0,ai u1,ai u2,ai u3],ai a2,ai a3] (Af3 r):=by
 refine A1 (by kernel_rfl) Tryd.func36 Aju (n:=62) (by kernel_rfl) (by simp) (tl:=[(0,ai a0),(1,.agg [ai u0,ai u1,ai u2,ai u3]),(2,ai a2),(3,ai a3)]) rfl ?_;unfold Yf;unfold Kx at h;refine Al ?_;refine Ab ?_;refine Ar h (fun (u6:Bool) S_=>S_=⟨Ao [(0,ai a0),(2,ai a2),(5,.box (oi 0 1) 0),(24,.bool u6)],Aj (Ap [(oi 0 1,.cells 55 [ai u0,ai u1,ai u2,ai u3])]),2⟩) ?_ ?_
 ·intro v_ h;obtain ⟨y4,h4,h⟩:=Ad h;obtain ⟨y5,h5,h⟩:=Ad h;rcases Af h with ⟨q6,h⟩ | ⟨q6,h⟩
  ·refine Aa 19 ?_;refine rsB 1 ?_;refine zc (oI 160 4 y4.length) [nI 160 4 y4] [.agg [ai u0,ai u1,ai u2,ai u3]] (Ig h4) ?_;refine rsB 2 ?_;refine Cm (.bool y5) [] [oI 160 4 y4.length,ai 0,ai (wI (a3 - 1))] _ (caps:=[]) (args0:=[tI y4,ai 0,ai (wI (a3 - 1))]) trivial (Ay (Ca (e:=3) (by kernel_rfl) rfl) (Ay (by kernel_rfl) (Ay (by kernel_rfl) B9))) (M7 h5) Na ?_;refine rsB 2 ?_;refine zs q6 ?_;refine zs q6 ?_;refine zs q6 ?_;refine zs q6 ?_;refine rs0 (.tup []) (Amq (by kernel_rfl)) ?_;refine rs0 (.tup []) (Amq (by kernel_rfl)) ?_;refine rs0 (.tup []) (Amq (by kernel_rfl)) ?_;refine zs q6 ?_;refine rs0 (.bool true) (zT q6) ?_;refine Aq (tn_ ?_);obtain rfl:=zj h;exact ⟨_,Ac [(oi 0 1,oi 5 1)],rfl⟩
  rcases Af h with ⟨q7,h⟩ | ⟨q7,h⟩
  ·refine Aa 19 ?_;refine rsB 1 ?_;refine zc (oI 160 4 y4.length) [nI 160 4 y4] [.agg [ai u0,ai u1,ai u2,ai u3]] (Ig h4) ?_;refine rsB 2 ?_;refine Cm (.bool y5) [] [oI 160 4 y4.length,ai 0,ai (wI (a3 - 1))] _ (caps:=[]) (args0:=[tI y4,ai 0,ai (wI (a3 - 1))]) trivial (Ay (Ca (e:=3) (by kernel_rfl) rfl) (Ay (by kernel_rfl) (Ay (by kernel_rfl) B9))) (M7 h5) Na ?_;refine rsB 2 ?_;refine rs0 (.box (oi 5 1) 0) (zg q6) ?_;refine rsl (ai u0) (zg q6) ?_;refine rs0 (.bool (u0 !=3)) (zg q6) ?_;refine rs0 (.bool (u0 !=3)) (zg q6) ?_;refine rs0 (.box (oi 5 1) 2) (zg q7) ?_;refine rsl (ai u2) (zg q7) ?_;refine rs0 (.bool (u2 !=0)) (zg q7) ?_;refine rs0 (.bool (u2 !=0)) (P3 (by kernel_rfl) q6 (zT q7)) ?_;refine rs0 (.bool (u2 !=0)) (zF q6) ?_;refine Aq (tn_ ?_);obtain rfl:=zj h;exact ⟨_,Ac [(oi 0 1,oi 5 1)],rfl⟩
  refine Aa 19 ?_;refine rsB 1 ?_;refine zc (oI 160 4 y4.length) [nI 160 4 y4] [.agg [ai u0,ai u1,ai u2,ai u3]] (Ig h4) ?_;refine rsB 2 ?_;refine Cm (.bool y5) [] [oI 160 4 y4.length,ai 0,ai (wI (a3 - 1))] _ (caps:=[]) (args0:=[tI y4,ai 0,ai (wI (a3 - 1))]) trivial (Ay (Ca (e:=3) (by kernel_rfl) rfl) (Ay (by kernel_rfl) (Ay (by kernel_rfl) B9))) (M7 h5) Na ?_;refine rsB 2 ?_;refine rs0 (.box (oi 5 1) 0) (zg q6) ?_;refine rsl (ai u0) (zg q6) ?_;refine rs0 (.bool (u0 !=3)) (zg q6) ?_;refine rs0 (.bool (u0 !=3)) (zg q6) ?_;refine zs q7 ?_;refine zs q7 ?_;refine zs q7 ?_;refine rs0 (.bool false) (P3 (by kernel_rfl) q6 (zF q7)) ?_;refine rs0 (.bool false) (zF q6) ?_;refine Aq (tn_ ?_);obtain rfl:=zj h;exact ⟨_,Ac [(oi 0 1,oi 5 1)],rfl⟩
 rintro u6 _ rfl h
 (try dsimp only at h);rcases Af h with ⟨q8,h⟩ | ⟨q8,h⟩
 ·refine Ah q8 ?_;refine Al ?_;refine An (tr_ ?_);obtain rfl:=zj h;exact Bo [.bool false] (A2 rfl zl A5)
 refine Ag q8 ?_;refine Ai (tn_ ?_);refine wr_ ?_;refine Ab ?_;refine Al ?_;refine Ae ?_;refine Al ?_;rcases Af h with ⟨q13,h⟩ | ⟨q13,h⟩
 ·refine Ah q13 ?_;refine Ar h (fun (u4:Bool) S_=>S_=⟨Ao [(8,.bool u4)],Aj (Ap []),2⟩) ?_ ?_
  ·intro v_ h;obtain ⟨y15,h15,h⟩:=Ad h;rcases Af h with ⟨q16,h⟩ | ⟨q16,h⟩
   ·refine Aa 17 ?_;refine rsB 4 ?_;refine zc (.bool y15) [] [ai u3,ai 0,ai (wI (a2 - 1))] (C1 h15) ?_;refine rsB 1 ?_;refine rs0 (.box (oi 0 1) 1) (zg q16) ?_;refine rsl (ai u1) (zg q16) ?_;refine rs0 (.bool (u1==0)) (zg q16) ?_;refine rs0 (.bool (u1==0)) (zT q16) ?_;refine rsB 1 ?_;refine Aq (tn_ ?_);obtain rfl:=zj h;exact ⟨_,Ac [],rfl⟩
   refine Aa 17 ?_;refine rsB 4 ?_;refine zc (.bool y15) [] [ai u3,ai 0,ai (wI (a2 - 1))] (C1 h15) ?_;refine rsB 1 ?_;refine zs q16 ?_;refine zs q16 ?_;refine zs q16 ?_;refine rs0 (.bool false) (zF q16) ?_;refine rsB 1 ?_;refine Aq (tn_ ?_);obtain rfl:=zj h;exact ⟨_,Ac [],rfl⟩
  rintro u4 _ rfl h
  (try dsimp only at h);refine An (br_ (tr_ ?_));obtain rfl:=zj h;exact Bo [.bool u4] (A2 rfl zl A5)
 refine Ag q13 ?_;refine Al ?_;rcases Af h with ⟨q18,h⟩ | ⟨q18,h⟩
 ·refine Ah q18 ?_;refine Ar h (fun (u5:Bool) S_=>S_=⟨Ao [(8,.bool u5)],Aj (Ap []),2⟩) ?_ ?_
  ·intro v_ h;rcases Af h with ⟨q20,h⟩ | ⟨q20,h⟩
   ·refine Aa 17 ?_;refine rsB 4 ?_;refine rs0 (.box (oi 0 1) 1) (zg q20) ?_;refine rsl (ai u1) (zg q20) ?_;refine rs0 (.bool (u1==0)) (zg q20) ?_;refine rs0 (.bool (u1==0)) (zT q20) ?_;refine rsB 1 ?_;refine Aq (tn_ ?_);obtain rfl:=zj h;exact ⟨_,Ac [],rfl⟩
   refine Aa 17 ?_;refine rsB 4 ?_;refine zs q20 ?_;refine zs q20 ?_;refine zs q20 ?_;refine rs0 (.bool false) (zF q20) ?_;refine rsB 1 ?_;refine Aq (tn_ ?_);obtain rfl:=zj h;exact ⟨_,Ac [],rfl⟩
  rintro u5 _ rfl h
  (try dsimp only at h);refine An (br_ (tr_ ?_));obtain rfl:=zj h;exact Bo [.bool u5] (A2 rfl zl A5)
 refine Ag q18 ?_;refine Ar h (fun (u7:Bool) S_=>S_=⟨Ao [(0,ai a0),(5,.box (oi 0 1) 0),(26,ai u0),(49,.bool u7)],Aj (Ap [(oi 0 1,.cells 55 [ai u0,ai u1,ai u2,ai u3])]),2⟩) ?_ ?_
 ·intro v_ h;refine Al ?_;rcases Af h with ⟨q23,h⟩ | ⟨q23,h⟩
  ·refine Ah q23 ?_;refine Ai (tn_ ?_);obtain rfl:=zj h;exact ⟨_,Ac [],rfl⟩
  refine Ag q23 ?_;refine Aa 12 ?_;refine rsB 2 ?_;refine Aq (tn_ ?_);obtain rfl:=zj h;exact ⟨_,Ac [],rfl⟩
 rintro u7 _ rfl h
 (try dsimp only at h);rcases Af h with ⟨q24,h⟩ | ⟨q24,h⟩
 ·refine Ah q24 ?_;refine Al ?_;refine An (br_ (tr_ ?_));obtain rfl:=zj h;exact Bo [.bool (u3==0)] (A2 rfl zl A5)
 refine Ag q24 ?_;refine Al ?_;rcases Af h with ⟨q27,h⟩ | ⟨q27,h⟩
 ·refine Ah q27 ?_;refine Ab ?_;obtain ⟨y29,h29,h⟩:=Ad h;refine Aa 10 ?_;refine rsB 4 ?_;refine zc (.bool y29) [] [ai u3,ai 0,ai (wI (a0 - 1))] (C1 h29) ?_;refine rsB 1 ?_;refine Aq (tn_ ?_);refine wr_ ?_;refine An (br_ (tr_ ?_));obtain rfl:=zj h;exact Bo [.bool y29] (A2 rfl zl A5)
 refine Ag q27 ?_;refine Ai (bn_ (tn_ ?_));refine wr_ ?_;refine Al ?_;refine An ?_;obtain rfl:=zj h;exact Bo [.bool false] (A2 rfl zl A5)
def Ri:AC :=
 (.seq (rg [xo 1 (.i (.box 55 (tm 0))),xo 2 (qm (cb false))])
 (.seq (rg [xf 3 0 1,xl 4 3,xo 5 (qb .eql (tm 4) (ci 3)),xm 6 5,⟨some 7,some (6,false),qf 0 (tm 1)⟩,⟨some 8,some (6,false),ql (tm 7)⟩,⟨some 9,some (6,false),qb .eql (tm 8) (ci 4)⟩,xo 10 (.i (.pick (tm 6) (cb true) (tm 9))),xm 2 10])
 .ret))
def Aax:List Res:=[.tmp 2]
theorem Z0:At Tryd.prog Tryd.f37=some (Ri,Aax):=by kernel_rfl
def Ev (u0 u2:Int) (u3 u4:Int):Option Bool :=
 Option.bind (cond (u0==3)
  (some true)
  (some (u0==4))) fun u1 =>
some u1
def Y1 (r:Bool):RV:=⟨false,[(false,[.sc (.bool r)])]⟩
theorem Pv {u0 u1:Int} {u2 u3:Int} {r:Bool} (h:Ev u0 u1 u2 u3=some r):A0 Tryd.prog Tab 37 [.agg [ai u0,ai u1,ai u2,ai u3]] (Y1 r):=by
 refine A1 (by kernel_rfl) Tryd.func37 Z0 (n:=11) (by kernel_rfl) (by simp) (tl:=[(0,.agg [ai u0,ai u1,ai u2,ai u3])]) rfl ?_;unfold Ri;unfold Ev at h;refine Al ?_;refine Ar h (fun (u4:Bool) S_=>S_=⟨Ao [(2,.bool u4)],Aj (Ap []),2⟩) ?_ ?_
 ·intro v_ h;rcases Af h with ⟨q3,h⟩ | ⟨q3,h⟩
  ·refine Aa 12 ?_;refine rsB 4 ?_;refine zs q3 ?_;refine zs q3 ?_;refine zs q3 ?_;refine rs0 (.bool true) (zT q3) ?_;refine rsB 1 ?_;refine Aq (tn_ ?_);obtain rfl:=zj h;exact ⟨_,Ac [],rfl⟩
  refine Aa 12 ?_;refine rsB 4 ?_;refine rs0 (.box (oi 1 1) 0) (zg q3) ?_;refine rsl (ai u0) (zg q3) ?_;refine rs0 (.bool (u0==4)) (zg q3) ?_;refine rs0 (.bool (u0==4)) (zF q3) ?_;refine rsB 1 ?_;refine Aq (tn_ ?_);obtain rfl:=zj h;exact ⟨_,Ac [],rfl⟩
 rintro u4 _ rfl h
 (try dsimp only at h);refine An ?_;obtain rfl:=zj h;exact Bo [.bool u4] (A2 rfl zl A5)
def Q9:AC :=
 (.seq (rg [xs1 52 51 50])
 (.seq (.cond (tm 52)
  .skip
  (.exit 6))
 (.seq (.block 7 (.seq (rg [xx 53 1 49 51,xl 54 53,xm 12 54])
 (rg [xm 55 10,xm 56 55,⟨some 57,some (56,true),qm (tm 4)⟩,⟨some 58,some (56,true),qm (tm 12)⟩,⟨some 59,some (56,true),qx 1 (tm 57) (tm 58)⟩,⟨some 60,some (56,true),ql (tm 59)⟩,xo 61 (.i (.pick (tm 56) (tm 60) (cb false))),xm 10 61])))
 (rg [xa 62 51,xm 51 62]))))
def Q7:AC :=
 (.seq (rg [xs1 36 35 34])
 (.seq (.cond (tm 36)
  .skip
  (.exit 4))
 (.seq (.block 5 (.seq (rg [xm 37 35,xx 38 4 33 35,xo 39 (.i (.ld false 4 (tm 38))),xo 9 (.i (.alloc 55 [.int .i64 0,.int .i64 0,.int .i64 0,.int .i64 0])),xm 8 37,xn (.st false 4 (tm 9) (tm 39))])
 (.seq (.seq (rg [xm 40 4,xm 41 8,xx 42 1 40 41,xl 43 42,xm 44 43,⟨some 45,some (44,false),qm (tm 7)⟩,⟨some 46,some (44,false),qb .geq (tm 45) (ci 0)⟩,xo 47 (.i (.pick (tm 44) (cb true) (tm 46)))])
 (.cond (tm 47)
  (.exit 5)
  .skip))
 (.seq (rg [xo 10 (qm (cb true))])
 (.seq (.seq (rg [xo 48 (.i (.ld false 4 (tm 9))),xo 49 (qc 69 [tm 48] [[none,none,none,none]]),xn1 50 49,xo 51 (qm (ci 0))])
 (.block 6 (.loop Q9)))
 (.seq (rg [xm 63 10])
 (.cond (tm 63)
  (rg [xm 64 8,xm 7 64])
  .skip)))))))
 (rg [xa 65 35,xm 35 65]))))
def Rc:AC :=
 (.block 3 (.seq (rg [xo 7 (qm (ci (-1)))])
 (.seq (.seq (rg [xf 32 1 1,xl 33 32,xn1 34 33,xo 35 (qm (ci 0))])
 (.block 4 (.loop Q7)))
 (.seq (.seq (rg [xm 66 7,xo 67 (qb .lss (tm 66) (ci 0))])
 (.cond (tm 67)
  (.seq (rg [xm 68 3,xm 2 68])
  .ret)
  .skip))
 (.seq (rg [xm 69 4,xm 70 7,xx 71 1 69 70,xn (qs (tm 71) (cb true))])
 (rg [xm 72 3,xm 73 7,xo 74 (.mkS 3 .int [tm 73]),xo 75 (.append 3 .int 8 (tm 72) (tm 74)),xm 3 75]))))))
def Rk:AC :=
 (.seq (rg [xs1 21 20 19])
 (.seq (.cond (tm 21)
  .skip
  (.exit 0))
 (.seq (.block 1 (.seq (rg [xm 22 20,xx 23 4 18 20,xo 24 (.i (.ld false 4 (tm 23))),xo 6 (.i (.alloc 55 [.int .i64 0,.int .i64 0,.int .i64 0,.int .i64 0])),xm 5 22,xn (.st false 4 (tm 6) (tm 24))])
 (rg [xm 25 4,xm 26 5,xo 27 (.i (.ld false 4 (tm 6))),xo 28 (qc 37 [tm 27] [[none,none,none,none]]),xo 29 (.i (.not (tm 28))),xx 30 1 25 26,xn (qs (tm 30) (tm 29))])))
 (rg [xa 31 20,xm 20 31]))))
def Ws:AC :=
 (.seq (rg [xo 1 (.i (.box 31 (tm 0))),xo 2 (qm (.cst .nils))])
 (.seq (rg [xo 3 (qm (.cst .nils))])
 (.seq (rg [xf 13 1 1,xl 14 13,xn1 15 14,xo 16 (.make 4 .bool 1 (tm 15) (tm 15)),xm 4 16])
 (.seq (.seq (rg [xf 17 1 1,xl 18 17,xn1 19 18,xo 20 (qm (ci 0))])
 (.block 0 (.loop Rk)))
 (.block 2 (.loop Rc))))))
def Aic:List Res:=[.tmp 2]
theorem Aib:At Tryd.prog Tryd.f38=some (Ws,Aic):=by kernel_rfl
def Gm (u2:List (Int×Int×Int×Int)) (u0:Nat) (u1:List Bool):Option (Ctl (Nat×List Bool) (List Bool)) :=
 cond (decide ((u0:Int)<(u2.length:Int)))
 (Option.bind (u2[u0]?) fun x13 =>
 Option.bind (Ev x13.1 x13.2.1 x13.2.2.1 x13.2.2.2) fun y14 =>
 Option.bind (u1[u0]?) fun x15 =>
 og (u0+1<4611686018427387904) <|
 some (Ctl.next (u0+1,u1.set u0 (!y14))))
 (some (Ctl.out u1))
def Gk (y36:List Int) (u2:List Bool) (u1:Bool) (u0:Nat):Option (Ctl (Bool×Nat) Bool) :=
 cond (decide ((u0:Int)<(y36.length:Int)))
 (Option.bind (Option.bind (y36[u0]?) fun x43 =>
  cond u1
   (Option.bind (E2 u2 x43) fun x45 =>
   some x45)
   (some false)) fun u3 =>
 og (u0+1<4611686018427387904) <|
 some (Ctl.next (u3,u0+1)))
 (some (Ctl.out u1))
def Gi (u2:List (Int×Int×Int×Int)) (u3:List Bool) (u1:Int) (u0:Nat):Option (Ctl (Int×Nat) Int) :=
 cond (decide ((u0:Int)<(u2.length:Int)))
 (Option.bind (Option.bind (u2[u0]?) fun x27 =>
  Option.bind (Option.bind (u3[u0]?) fun x30 =>
   cond x30
    (some true)
    (some (decide (0<=u1)))) fun u4 =>
  cond u4
   (some u1)
   (Option.bind (Option.bind (Ex x27.1 x27.2.1 x27.2.2.1 x27.2.2.2) fun y36 =>
    Aw (fun s_:Bool×Nat=>Gk y36 u3 s_.1 s_.2) 4611686018427387904 (true,0)) fun u5 =>
   cond u5
    (some (u0:Int))
    (some u1))) fun u6 =>
 og (u0+1<4611686018427387904) <|
 some (Ctl.next (u6,u0+1)))
 (some (Ctl.out u1))
def Gh (u3:List (Int×Int×Int×Int)) (u0:List Int) (u2:List Bool):Option (Ctl (List Int×List Bool) (List Int)) :=
 Option.bind (Aw (fun s_:Int×Nat=>Gi u3 u2 s_.1 s_.2) 4611686018427387904 (-1,0)) fun u1 =>
cond (decide (u1<0))
 (some (Ctl.out u0))
 (Option.bind (E2 u2 u1) fun x55 =>
 og (u0.length+1<=1073741824∧(u0.length+1)*8<=140737488355328) <|
 some (Ctl.next (u0++([u1]),u2.set u1.toNat true)))
def Hs (u2:Int) (u0:List (Int×Int×Int×Int)) (u3:List Int):Option (List Int) :=
 og (0<=(u0.length:Int)∧(u0.length:Int)<=(u0.length:Int)∧(u0.length:Int)<=1073741824∧(1:Int)*(u0.length:Int)<=140737488355328) <|
Option.bind (Aw (fun s_:Nat×List Bool=>Gm u0 s_.1 s_.2) 4611686018427387904 (0,List.replicate u0.length (false:Bool))) fun u1 =>
Aw (fun s_:List Int×List Bool=>Gh u0 s_.1 s_.2) 4611686018427387904 ([],u1)
def Adt (r:List Int):RV:=⟨false,[(false,[.new 3 .int r])]⟩
set_option maxHeartbeats 1600000 in
theorem U5 {u6:Int} {u0:List (Int×Int×Int×Int)} {u7 r:List Int} (h:Hs u6 u0 u7=some r):A0 Tryd.prog Tab 38 [.agg [ai u6,.tree T4 u0,tI u7]] (Adt r):=by
 refine A1 (by kernel_rfl) Tryd.func38 Aib (n:=76) (by kernel_rfl) (by simp) (tl:=[(0,.agg [ai u6,.tree T4 u0,tI u7])]) rfl ?_;unfold Ws;unfold Hs at h;refine Al ?_;refine Al ?_;refine Ab ?_;obtain ⟨g4,h⟩:=Am h;refine Aa 9 ?_;refine rsB 3 ?_;refine rs1 (.own (oi 16 7) .bool 0 u0.length) (oi 16 7) (.arr 4 .bool (List.replicate u0.length (false:Bool))) (Lu (t:=.bool) (k:=.i64) (k':=.i64) (m:=(u0.length:Int)) (m':=(u0.length:Int)) (by kernel_rfl) (by kernel_rfl) g4 rfl) ?_;refine rsB 1 ?_;refine Aq (tn_ ?_);refine wr_ ?_;refine Ar h (fun (ub:List Bool) S_=>S_=⟨Ao [(1,.box (oi 0 1) 0),(3,.nils),(4,.own (oi 1 1) .bool 0 ub.length)],Aj (Ap [(oi 0 1,.cells 31 [ai u6,.tree T4 u0,tI u7]),(oi 1 1,.arr 4 .bool ub)]),2⟩) ?_ ?_
 ·intro v_ h;refine Al ?_;refine Ae ?_;refine Av h (fun t_ S_=>∃ (u8:Nat),∃ (u5:List Bool),t_=(u8,u5)∧S_=⟨Ao [(1,.box (oi 0 1) 0),(3,.nils),(4,.own (oi 1 1) .bool 0 u5.length),(18,.tree T4 u0),(19,an u0.length),(20,an u8)],Aj (Ap [(oi 0 1,.cells 31 [ai u6,.tree T4 u0,tI u7]),(oi 1 1,.arr 4 .bool u5)]),2⟩) ⟨_,(A8 4 (.own (oi 16 7) .bool 0 u0.length) (.own (oi 16 7) .bool 0 ((List.replicate u0.length (false:Bool)).length)) (by kernel_rfl) (congrArg (fun z_=>((.own (oi 16 7) .bool 0 z_):AV)) (List.length_replicate.symm:u0.length=(List.replicate u0.length (false:Bool)).length))).trans (Ac [(oi 0 1,oi 1 1),(oi 1 1,oi 16 7)]),⟨0,List.replicate u0.length (false:Bool),rfl,rfl⟩⟩ ?_;rintro n_ _ _ c_ ⟨u8,u5,rfl,rfl⟩ h hn7
  (try dsimp only at h);unfold Gm at h;unfold Rk;refine Al ?_;refine Ab ?_;rcases Af h with ⟨q10,h⟩ | ⟨q10,h⟩
  ·have q10_:=of_decide_eq_true q10;refine Ah q10 ?_;refine Ai (tn_ ?_);refine wr_ ?_;refine Ab ?_;refine Ae ?_;refine Ab ?_;obtain ⟨x13,e13,h⟩:=Ad h;refine Aa 9 ?_;refine rsB 1 ?_;refine zI T4 e13 ?_;refine rsB 4 ?_;refine Aq (tn_ ?_);refine wr_ ?_;obtain ⟨y14,h14,h⟩:=Ad h;obtain ⟨x15,e15,h⟩:=Ad h;refine Aa 16 ?_;refine rsB 3 ?_;refine zc (.bool y14) [] [.agg [ai x13.1,ai x13.2.1,ai x13.2.2.1,ai x13.2.2.2]] (Pv h14) ?_;refine rsB 1 ?_;refine zO (oi 1 1) .bool u5.length (As e15) ?_;refine Ame (oi 1 1) (oi 1 1) (.arr 4 .bool (u5.set u8 (!y14))) (Zm (i:=oi 1 1) (j:=u8) (k:=0) (e:=4) (t:=.bool) (xs:=u5) (cs:=[.bool (!y14)]) (x1:= !y14) (by kernel_rfl) (by kernel_rfl) e15 (by kernel_rfl) (by kernel_rfl)) ?_;refine Aq (bn_ (tn_ ?_));refine wr_ ?_;obtain ⟨g16,h⟩:=Am h;refine Aa 18 ?_;refine zA g16 ?_;refine rsB 1 ?_;refine Aq (tn_ ?_);obtain rfl:=zj h;exact ⟨(u8+1,u5.set u8 (!y14)),_,(A8 4 (.own (oi 1 1) .bool 0 u5.length) (.own (oi 1 1) .bool 0 ((u5.set u8 (!y14)).length)) (by kernel_rfl) (congrArg (fun z_=>((.own (oi 1 1) .bool 0 z_):AV)) (((rfl:u5.length=u5.length).trans List.length_set.symm):u5.length=(u5.set u8 (!y14)).length))).trans (Ac []),⟨u8+1,u5.set u8 (!y14),rfl,rfl⟩,hn7⟩
  have q10_:=of_decide_eq_false q10;refine Ag q10 ?_;refine Au (te_ (te_ (be_ (tn_ ?_))));obtain rfl:=zj h;have h:=hn7
  (try dsimp only at h);obtain rfl:=zj h;exact ⟨_,Ac [],rfl⟩
 rintro ub _ rfl h
 (try dsimp only at h);refine Ae ?_;refine Av h (fun t_ S_=>∃ (u2:List Int),∃ (u1:List Bool),t_=(u2,u1)∧S_=⟨Ao [(1,.box (oi 0 1) 0),(3,oI 1 1 u2.length),(4,.own (oi 2 1) .bool 0 u1.length)],Aj (Ap [(oi 0 1,.cells 31 [ai u6,.tree T4 u0,tI u7]),(oi 1 1,.arr 3 .int u2),(oi 2 1,.arr 4 .bool u1)]),2⟩) ⟨_,(My 3 3 .int rfl (by kernel_rfl)).trans (Ac [(oi 1 1,oi 3 2),(oi 2 1,oi 1 1)]),⟨[],ub,rfl,rfl⟩⟩ ?_;rintro n_ _ _ c_ ⟨u2,u1,rfl,rfl⟩ h hn17
 (try dsimp only at h);unfold Gh at h;unfold Rc;refine Ae ?_;refine Al ?_;refine Ar h (fun (u3:Int) S_=>S_=⟨Ao [(1,.box (oi 0 1) 0),(3,oI 1 1 u2.length),(4,.own (oi 2 1) .bool 0 u1.length),(7,ai u3)],Aj (Ap [(oi 0 1,.cells 31 [ai u6,.tree T4 u0,tI u7]),(oi 1 1,.arr 3 .int u2),(oi 2 1,.arr 4 .bool u1)]),2⟩) ?_ ?_
 ·intro v_ h;refine Al ?_;refine Ae ?_;refine Av h (fun t_ S_=>∃ (u9:Int),∃ (u4:Nat),t_=(u9,u4)∧S_=⟨Ao [(1,.box (oi 0 1) 0),(3,oI 1 1 u2.length),(4,.own (oi 2 1) .bool 0 u1.length),(7,ai u9),(33,.tree T4 u0),(34,an u0.length),(35,an u4)],Aj (Ap [(oi 0 1,.cells 31 [ai u6,.tree T4 u0,tI u7]),(oi 1 1,.arr 3 .int u2),(oi 2 1,.arr 4 .bool u1)]),2⟩) ⟨_,Ac [],⟨-1,0,rfl,rfl⟩⟩ ?_;rintro n_ _ _ c_ ⟨u9,u4,rfl,rfl⟩ h hn21
  (try dsimp only at h);unfold Gi at h;unfold Q7;refine Al ?_;refine Ab ?_;rcases Af h with ⟨q24,h⟩ | ⟨q24,h⟩
  ·have q24_:=of_decide_eq_true q24;refine Ah q24 ?_;refine Ai (tn_ ?_);refine wr_ ?_;refine Ar h (fun (uc:Int) S_=>S_=⟨Ao [(1,.box (oi 0 1) 0),(3,oI 1 1 u2.length),(4,.own (oi 2 1) .bool 0 u1.length),(7,ai uc),(33,.tree T4 u0),(34,an u0.length),(35,an u4)],Aj (Ap [(oi 0 1,.cells 31 [ai u6,.tree T4 u0,tI u7]),(oi 1 1,.arr 3 .int u2),(oi 2 1,.arr 4 .bool u1)]),2⟩) ?_ ?_
   ·intro v_ h;refine Ae ?_;refine Ab ?_;obtain ⟨x27,e27,h⟩:=Ad h;refine Aa 9 ?_;refine rsB 1 ?_;refine zI T4 e27 ?_;refine rsB 4 ?_;refine Aq (tn_ ?_);refine wr_ ?_;refine Ab ?_;refine Ar h (fun (uf:Bool) S_=>S_=⟨Ao [(1,.box (oi 0 1) 0),(3,oI 1 1 u2.length),(4,.own (oi 2 1) .bool 0 u1.length),(7,ai u9),(8,an u4),(9,.box (oi 3 1) 0),(33,.tree T4 u0),(34,an u0.length),(35,an u4),(47,.bool uf)],Aj (Ap [(oi 0 1,.cells 31 [ai u6,.tree T4 u0,tI u7]),(oi 1 1,.arr 3 .int u2),(oi 2 1,.arr 4 .bool u1),(oi 3 1,.cells 55 [ai x27.1,ai x27.2.1,ai x27.2.2.1,ai x27.2.2.2])]),2⟩) ?_ ?_
    ·intro v_ h;obtain ⟨x30,e30,h⟩:=Ad h;rcases Af h with ⟨q31,h⟩ | ⟨q31,h⟩
     ·refine Aa 17 ?_;refine rsB 2 ?_;refine zO (oi 2 1) .bool u1.length (As e30) ?_;refine rsl (.bool x30) (Mu (i:=oi 2 1) (j:=u4) (k:=0) (e:=4) (t:=.bool) (xs:=u1) (by kernel_rfl) (by kernel_rfl) e30 (by kernel_rfl)) ?_;refine rsB 1 ?_;refine zs q31 ?_;refine zs q31 ?_;refine rs0 (.bool true) (zT q31) ?_;refine Aq (tn_ ?_);obtain rfl:=zj h;exact ⟨_,Ac [(oi 3 1,oi 9 6)],rfl⟩
     refine Aa 17 ?_;refine rsB 2 ?_;refine zO (oi 2 1) .bool u1.length (As e30) ?_;refine rsl (.bool x30) (Mu (i:=oi 2 1) (j:=u4) (k:=0) (e:=4) (t:=.bool) (xs:=u1) (by kernel_rfl) (by kernel_rfl) e30 (by kernel_rfl)) ?_;refine rsB 1 ?_;refine rs0 (ai u9) (zg q31) ?_;refine rs0 (.bool (decide (0<=u9))) (zg q31) ?_;refine rs0 (.bool (decide (0<=u9))) (zF q31) ?_;refine Aq (tn_ ?_);obtain rfl:=zj h;exact ⟨_,Ac [(oi 3 1,oi 9 6)],rfl⟩
    rintro uf _ rfl h
    (try dsimp only at h);rcases Af h with ⟨q32,h⟩ | ⟨q32,h⟩
    ·refine Ah q32 ?_;refine Au (te_ (be_ (tn_ ?_)));obtain rfl:=zj h;exact ⟨_,Ac [],rfl⟩
    refine Ag q32 ?_;refine Ai (tn_ ?_);refine wr_ ?_;refine Al ?_;refine Ar h (fun (ug:Bool) S_=>S_=⟨Ao [(1,.box (oi 0 1) 0),(3,oI 1 1 u2.length),(4,.own (oi 2 1) .bool 0 u1.length),(7,ai u9),(8,an u4),(10,.bool ug),(33,.tree T4 u0),(34,an u0.length),(35,an u4)],Aj (Ap [(oi 0 1,.cells 31 [ai u6,.tree T4 u0,tI u7]),(oi 1 1,.arr 3 .int u2),(oi 2 1,.arr 4 .bool u1)]),2⟩) ?_ ?_
    ·intro v_ h;refine Ab ?_;obtain ⟨y36,h36,h⟩:=Ad h;refine Aa 7 ?_;refine rsB 1 ?_;refine zc (oI 784 4 y36.length) [nI 784 4 y36] [.agg [ai x27.1,ai x27.2.1,ai x27.2.2.1,ai x27.2.2.2]] (Ig h36) ?_;refine rsB 2 ?_;refine Aq (tn_ ?_);refine wr_ ?_;refine Ae ?_;refine Av h (fun t_ S_=>∃ (ue:Bool),∃ (ua:Nat),t_=(ue,ua)∧S_=⟨Ao [(1,.box (oi 0 1) 0),(3,oI 1 1 u2.length),(4,.own (oi 2 1) .bool 0 u1.length),(7,ai u9),(8,an u4),(10,.bool ue),(33,.tree T4 u0),(34,an u0.length),(35,an u4),(49,oI 3 1 y36.length),(50,an y36.length),(51,an ua)],Aj (Ap [(oi 0 1,.cells 31 [ai u6,.tree T4 u0,tI u7]),(oi 1 1,.arr 3 .int u2),(oi 2 1,.arr 4 .bool u1),(oi 3 1,.arr 3 .int y36)]),2⟩) ⟨_,Ac [(oi 3 1,oi 784 4)],⟨true,0,rfl,rfl⟩⟩ ?_;rintro n_ _ _ c_ ⟨ue,ua,rfl,rfl⟩ h hn37
     (try dsimp only at h);unfold Gk at h;unfold Q9;refine Al ?_;refine Ab ?_;rcases Af h with ⟨q40,h⟩ | ⟨q40,h⟩
     ·have q40_:=of_decide_eq_true q40;refine Ah q40 ?_;refine Ai (tn_ ?_);refine wr_ ?_;refine Ar h (fun (ud:Bool) S_=>S_=⟨Ao [(1,.box (oi 0 1) 0),(3,oI 1 1 u2.length),(4,.own (oi 2 1) .bool 0 u1.length),(7,ai u9),(8,an u4),(10,.bool ud),(33,.tree T4 u0),(34,an u0.length),(35,an u4),(49,oI 3 1 y36.length),(50,an y36.length),(51,an ua)],Aj (Ap [(oi 0 1,.cells 31 [ai u6,.tree T4 u0,tI u7]),(oi 1 1,.arr 3 .int u2),(oi 2 1,.arr 4 .bool u1),(oi 3 1,.arr 3 .int y36)]),2⟩) ?_ ?_
      ·intro v_ h;refine Ae ?_;refine Ab ?_;obtain ⟨x43,e43,h⟩:=Ad h;refine Aa 6 ?_;refine zO (oi 3 1) .int y36.length (As e43) ?_;refine zE (oi 3 1) e43 ?_;refine rsB 1 ?_;refine Aq (tn_ ?_);refine wr_ ?_;rcases Af h with ⟨q44,h⟩ | ⟨q44,h⟩
       ·obtain ⟨x45,f45,h⟩:=Ad h;obtain ⟨p45,b45,e45⟩:=Ba f45;refine Aa 14 ?_;refine rsB 2 ?_;refine rs0 (.own (oi 2 1) .bool 0 u1.length) (zg q44) ?_;refine rs0 (ai x43) (zg q44) ?_;refine rs0 (.elt (oi 2 1) x43.toNat 0) (P3 (by kernel_rfl) q44 (zo (t:=.bool) (o:=oi 2 1) (len:=u1.length) (k:=.i64) (m:=x43) p45 (As e45))) ?_;refine rsl (.bool x45) (P3 (by kernel_rfl) q44 (Mu (i:=oi 2 1) (j:=x43.toNat) (k:=0) (e:=4) (t:=.bool) (xs:=u1) (by kernel_rfl) (by kernel_rfl) e45 (by kernel_rfl))) ?_;refine rs0 (.bool x45) (zT q44) ?_;refine rsB 1 ?_;refine Aq (bn_ (tn_ ?_));obtain rfl:=zj h;exact ⟨_,Ac [],rfl⟩
       refine Aa 14 ?_;refine rsB 2 ?_;refine zs q44 ?_;refine zs q44 ?_;refine zs q44 ?_;refine zs q44 ?_;refine rs0 (.bool false) (zF q44) ?_;refine rsB 1 ?_;refine Aq (bn_ (tn_ ?_));obtain rfl:=zj h;exact ⟨_,Ac [],rfl⟩
      rintro ud _ rfl h
      (try dsimp only at h);obtain ⟨g46,h⟩:=Am h;refine Aa 4 ?_;refine zA g46 ?_;refine rsB 1 ?_;refine Aq (tn_ ?_);obtain rfl:=zj h;exact ⟨(ud,ua+1),_,Ac [],⟨ud,ua+1,rfl,rfl⟩,hn37⟩
     have q40_:=of_decide_eq_false q40;refine Ag q40 ?_;refine Au (te_ (te_ (be_ (tn_ ?_))));obtain rfl:=zj h;have h:=hn37
     (try dsimp only at h);obtain rfl:=zj h;exact ⟨_,Ac [],rfl⟩
    rintro ug _ rfl h
    (try dsimp only at h);refine Al ?_;rcases Af h with ⟨q48,h⟩ | ⟨q48,h⟩
    ·refine Ah q48 ?_;refine Aa 5 ?_;refine rsB 2 ?_;refine Aq (bn_ (tn_ ?_));obtain rfl:=zj h;exact ⟨_,Ac [],rfl⟩
    refine Ag q48 ?_;refine Ai (bn_ (tn_ ?_));obtain rfl:=zj h;exact ⟨_,Ac [],rfl⟩
   rintro uc _ rfl h
   (try dsimp only at h);obtain ⟨g49,h⟩:=Am h;refine Aa 4 ?_;refine zA g49 ?_;refine rsB 1 ?_;refine Aq (tn_ ?_);obtain rfl:=zj h;exact ⟨(uc,u4+1),_,Ac [],⟨uc,u4+1,rfl,rfl⟩,hn21⟩
  have q24_:=of_decide_eq_false q24;refine Ag q24 ?_;refine Au (te_ (te_ (be_ (tn_ ?_))));obtain rfl:=zj h;have h:=hn21
  (try dsimp only at h);obtain rfl:=zj h;exact ⟨_,Ac [],rfl⟩
 rintro u3 _ rfl h
 (try dsimp only at h);refine Ab ?_;refine Al ?_;rcases Af h with ⟨q52,h⟩ | ⟨q52,h⟩
 ·have q52_:=of_decide_eq_true q52;refine Ah q52 ?_;refine Al ?_;refine An (tr_ (br_ (tr_ (br_ ?_))));obtain rfl:=zj h;have h:=hn17
  (try dsimp only at h);obtain rfl:=zj h;exact Bo [oI 1 1 u2.length] (A2 rfl (Fy (by kernel_rfl) rfl) A5)
 have q52_:=of_decide_eq_false q52;refine Ag q52 ?_;refine Ai (tn_ ?_);refine wr_ ?_;refine Ab ?_;obtain ⟨x55,f55,h⟩:=Ad h;obtain ⟨p55,b55,e55⟩:=Ba f55;refine Aa 8 ?_;refine rsB 2 ?_;refine rs0 (.elt (oi 2 1) u3.toNat 0) (zo (t:=.bool) (o:=oi 2 1) (len:=u1.length) (k:=.i64) (m:=u3) p55 (As e55)) ?_;refine Ame (oi 2 1) (oi 2 1) (.arr 4 .bool (u1.set u3.toNat true)) (Zm (i:=oi 2 1) (j:=u3.toNat) (k:=0) (e:=4) (t:=.bool) (xs:=u1) (cs:=[.bool true]) (x1:=true) (by kernel_rfl) (by kernel_rfl) e55 (by kernel_rfl) (by kernel_rfl)) ?_;refine Aq (tn_ ?_);refine wr_ ?_;obtain ⟨g56,h⟩:=Am h;refine Aa 13 ?_;refine rsB 3 ?_;refine rs2 (oI 1 11 ((u2++([u3])).length)) (oi 1 1) (oi 1 11) (.arr 3 .int (u2++([u3]))) (I9 (t:=.int) (t':=.int) (xs:=u2) (ys:=[u3]) (zs:=u2++([u3])) (j:=oi 1 1) (len:=u2.length) (c:=oI 74 10 1) (by kernel_rfl) (by kernel_rfl) rfl (by kernel_rfl) (Ma (e:=3) (by kernel_rfl) rfl) rfl g56) ?_;refine rsB 1 ?_;refine Aq (bn_ (tn_ ?_));obtain rfl:=zj h;exact ⟨(u2++([u3]),u1.set u3.toNat true),_,(A8 4 (.own (oi 2 1) .bool 0 u1.length) (.own (oi 2 1) .bool 0 ((u1.set u3.toNat true).length)) (by kernel_rfl) (congrArg (fun z_=>((.own (oi 2 1) .bool 0 z_):AV)) (((rfl:u1.length=u1.length).trans List.length_set.symm):u1.length=(u1.set u3.toNat true).length))).trans (Ac [(oi 1 1,oi 1 11)]),⟨u2++([u3]),u1.set u3.toNat true,rfl,rfl⟩,hn17⟩
def Sk:AC :=
 (.seq (rg [xs1 44 43 42])
 (.seq (.cond (tm 44)
  .skip
  (.exit 0))
 (.seq (.block 1 (.seq (rg [xx 45 4 41 43,xo 46 (.i (.ld false 4 (tm 45))),xo 7 (.i (.alloc 55 [.int .i64 0,.int .i64 0,.int .i64 0,.int .i64 0])),xn (.st false 4 (tm 7) (tm 46))])
 (.seq (.seq (rg [xm 47 0,xo 48 (.i (.ld false 4 (tm 7))),xf 49 0 3,xl 50 49,xf 51 1 3,xl 52 51,xn1 53 52,xo 54 (qc 36 [tm 47,tm 48,tm 50,tm 53] [[],[none,none,none,none],[],[]]),xo 55 (.i (.not (tm 54)))])
 (.cond (tm 55)
  (.seq (rg [xo 4 (qm (cb false))])
  .ret)
  .skip))
 (.seq (rg [xo 56 (.i (.ld false 4 (tm 7))),xo 57 (qc 37 [tm 56] [[none,none,none,none]])])
 (.cond (tm 57)
  (rg [xm 58 5,xa 59 58,xm 5 59])
  .skip)))))
 (rg [xa 60 43,xm 43 60]))))
def Xw:AC :=
 (.seq (rg [xo 3 (.i (.box 31 (tm 1))),xo 4 (qm (cb false))])
 (.seq (.seq (rg [xm 8 0,xo 9 (qc 33 [tm 8] [[]]),xo 10 (.i (.not (tm 9))),xm 11 10,⟨some 12,some (11,false),qf 0 (tm 3)⟩,⟨some 13,some (11,false),ql (tm 12)⟩,⟨some 14,some (11,false),qc 34 [tm 13,ci 0,ci 8] [[],[],[]]⟩,⟨some 15,some (11,false),.i (.not (tm 14))⟩,xo 16 (.i (.pick (tm 11) (cb true) (tm 15))),xm 17 16,⟨some 18,some (17,false),qf 1 (tm 3)⟩,⟨some 19,some (17,false),ql (tm 18)⟩,⟨some 20,some (17,false),.i (.len (tm 19))⟩,⟨some 21,some (17,false),qc 34 [tm 20,ci 1,ci 40] [[],[],[]]⟩,⟨some 22,some (17,false),.i (.not (tm 21))⟩,xo 23 (.i (.pick (tm 17) (cb true) (tm 22))),xm 24 23,⟨some 25,some (24,false),qf 2 (tm 3)⟩,⟨some 26,some (24,false),ql (tm 25)⟩,⟨some 27,some (24,false),.i (.len (tm 26))⟩,⟨some 28,some (24,false),qb .gtr (tm 27) (ci 8)⟩,xo 29 (.i (.pick (tm 24) (cb true) (tm 28))),xm 30 29,⟨some 31,some (30,false),qf 2 (tm 3)⟩,⟨some 32,some (30,false),ql (tm 31)⟩,⟨some 33,some (30,false),qf 1 (tm 3)⟩,⟨some 34,some (30,false),ql (tm 33)⟩,⟨some 35,some (30,false),.i (.len (tm 34))⟩,⟨some 36,some (30,false),qb .sub (tm 35) (ci 1)⟩,⟨some 37,some (30,false),qc 35 [tm 32,ci 0,tm 36] [[some .int],[],[]]⟩,⟨some 38,some (30,false),.i (.not (tm 37))⟩,xo 39 (.i (.pick (tm 30) (cb true) (tm 38)))])
 (.cond (tm 39)
  (.seq (rg [xo 4 (qm (cb false))])
  .ret)
  .skip))
 (.seq (rg [xo 5 (qm (ci 0))])
 (.seq (.seq (rg [xf 40 1 3,xl 41 40,xn1 42 41,xo 43 (qm (ci 0))])
 (.block 0 (.loop Sk)))
 (.seq (rg [xo 61 (.i (.ld false 3 (tm 3))),⟨some 62,none,qc 38 [tm 61] [[none,some T4,some .int]]⟩,xn1 63 62,xm 64 5,xo 65 (qb .eql (tm 63) (tm 64)),xm 4 65])
 .ret)))))
def Aj1:List Res:=[.tmp 4]
theorem Ajr:At Tryd.prog Tryd.f19=some (Xw,Aj1):=by kernel_rfl
def Hy (u2:List (Int×Int×Int×Int)) (a0 u3:Int) (u0 u1:Nat):Option (Ctl (Nat×Nat) (Ctl Nat Bool)) :=
 cond (decide ((u1:Int)<(u2.length:Int)))
 (Sn (Option.bind (u2[u1]?) fun x23 =>
  Option.bind (Kx a0 x23.1 x23.2.1 x23.2.2.1 x23.2.2.2 u3 (u2.length:Int)) fun y26 =>
  cond (!y26)
   (some (Ctl.out (Ctl.out (Ctl.out false))))
   (Option.bind (Ev x23.1 x23.2.1 x23.2.2.1 x23.2.2.2) fun y30 =>
   cond y30
    (og (u0+1<4611686018427387904) <|
    some (Ctl.next (u0+1)))
    (some (Ctl.next u0)))) fun u4 =>
 og (u1+1<4611686018427387904) <|
 some (Ctl.next (u4,u1+1)))
 (some (Ctl.out (Ctl.next u0)))
def Ks (a0 u1:Int) (u0:List (Int×Int×Int×Int)) (u2:List Int):Option Bool :=
 Option.bind (Option.bind (Kg a0) fun y4 =>
 cond (!y4)
  (some true)
  (Option.bind (Ff u1 0 8) fun y6 =>
  cond (!y6)
   (some true)
   (Option.bind (Ff (u0.length:Int) 1 40) fun y8 =>
   cond (!y8)
    (some true)
    (cond (decide (8<(u2.length:Int)))
     (some true)
     (Option.bind (J2 u2 0 (wI ((u0.length:Int) - 1))) fun y11 =>
     some (!y11)))))) fun u3 =>
cond u3
 (some false)
 (Sn (Aw (fun s_:Nat×Nat=>Hy u0 a0 u1 s_.1 s_.2) 4611686018427387904 (0,0)) fun u4 =>
 Option.bind (Hs u1 u0 u2) fun y35 =>
 some ((y35.length:Int)==(u4:Int)))
def Ah3 (r:Bool):RV:=⟨false,[(false,[.sc (.bool r)])]⟩
set_option maxHeartbeats 1600000 in
theorem Wo {a0 u1:Int} {u0:List (Int×Int×Int×Int)} {u2:List Int} {r:Bool} (h:Ks a0 u1 u0 u2=some r):A0 Tryd.prog Tab 19 [ai a0,.agg [ai u1,.tree T4 u0,tI u2]] (Ah3 r):=by
 refine A1 (by kernel_rfl) Tryd.func19 Ajr (n:=66) (by kernel_rfl) (by simp) (tl:=[(0,ai a0),(1,.agg [ai u1,.tree T4 u0,tI u2])]) rfl ?_;unfold Xw;unfold Ks at h;refine Al ?_;refine Ab ?_;refine Ar h (fun (u7:Bool) S_=>S_=⟨Ao [(0,ai a0),(3,.box (oi 0 1) 0),(39,.bool u7)],Aj (Ap [(oi 0 1,.cells 31 [ai u1,.tree T4 u0,tI u2])]),2⟩) ?_ ?_
 ·intro v_ h;obtain ⟨y4,h4,h⟩:=Ad h;rcases Af h with ⟨q5,h⟩ | ⟨q5,h⟩
  ·refine Aa 35 ?_;refine rsB 1 ?_;refine zc (.bool y4) [] [ai a0] (Ja h4) ?_;refine rsB 2 ?_;refine zs q5 ?_;refine zs q5 ?_;refine zs q5 ?_;refine zs q5 ?_;refine rs0 (.bool true) (zT q5) ?_;refine rsB 23 ?_;refine Aq (tn_ ?_);obtain rfl:=zj h;exact ⟨_,Ac [(oi 0 1,oi 3 1)],rfl⟩
  obtain ⟨y6,h6,h⟩:=Ad h;rcases Af h with ⟨q7,h⟩ | ⟨q7,h⟩
  ·refine Aa 35 ?_;refine rsB 1 ?_;refine zc (.bool y4) [] [ai a0] (Ja h4) ?_;refine rsB 2 ?_;refine rs0 (.box (oi 3 1) 0) (zg q5) ?_;refine rsl (ai u1) (zg q5) ?_;refine Cm (.bool y6) [] [ai u1,ai 0,ai 8] _ (caps:=[]) (args0:=[ai u1,ai 0,ai 8]) (F8 (by kernel_rfl) q5) (by kernel_rfl) (C1 h6) Ib ?_;refine rs0 (.bool (!y6)) (zg q5) ?_;refine rs0 (.bool (!y6)) (zF q5) ?_;refine rsB 1 ?_;refine zs q7 ?_;refine zs q7 ?_;refine zs q7 ?_;refine zs q7 ?_;refine zs q7 ?_;refine rs0 (.bool true) (zT q7) ?_;refine rsB 16 ?_;refine Aq (tn_ ?_);obtain rfl:=zj h;exact ⟨_,Ac [(oi 0 1,oi 3 1)],rfl⟩
  obtain ⟨y8,h8,h⟩:=Ad h;rcases Af h with ⟨q9,h⟩ | ⟨q9,h⟩
  ·refine Aa 35 ?_;refine rsB 1 ?_;refine zc (.bool y4) [] [ai a0] (Ja h4) ?_;refine rsB 2 ?_;refine rs0 (.box (oi 3 1) 0) (zg q5) ?_;refine rsl (ai u1) (zg q5) ?_;refine Cm (.bool y6) [] [ai u1,ai 0,ai 8] _ (caps:=[]) (args0:=[ai u1,ai 0,ai 8]) (F8 (by kernel_rfl) q5) (by kernel_rfl) (C1 h6) Ib ?_;refine rs0 (.bool (!y6)) (zg q5) ?_;refine rs0 (.bool (!y6)) (zF q5) ?_;refine rsB 1 ?_;refine rs0 (.box (oi 3 1) 1) (zg q7) ?_;refine rsl (.tree T4 u0) (zg q7) ?_;refine rs0 (an u0.length) (zg q7) ?_;refine Cm (.bool y8) [] [an u0.length,ai 1,ai 40] _ (caps:=[]) (args0:=[an u0.length,ai 1,ai 40]) (F8 (by kernel_rfl) q7) (by kernel_rfl) (C1 h8) Ib ?_;refine rs0 (.bool (!y8)) (zg q7) ?_;refine rs0 (.bool (!y8)) (zF q7) ?_;refine rsB 1 ?_;refine zs q9 ?_;refine zs q9 ?_;refine zs q9 ?_;refine zs q9 ?_;refine rs0 (.bool true) (zT q9) ?_;refine rsB 10 ?_;refine Aq (tn_ ?_);obtain rfl:=zj h;exact ⟨_,Ac [(oi 0 1,oi 3 1)],rfl⟩
  rcases Af h with ⟨q10,h⟩ | ⟨q10,h⟩
  ·have q10_:=of_decide_eq_true q10;refine Aa 35 ?_;refine rsB 1 ?_;refine zc (.bool y4) [] [ai a0] (Ja h4) ?_;refine rsB 2 ?_;refine rs0 (.box (oi 3 1) 0) (zg q5) ?_;refine rsl (ai u1) (zg q5) ?_;refine Cm (.bool y6) [] [ai u1,ai 0,ai 8] _ (caps:=[]) (args0:=[ai u1,ai 0,ai 8]) (F8 (by kernel_rfl) q5) (by kernel_rfl) (C1 h6) Ib ?_;refine rs0 (.bool (!y6)) (zg q5) ?_;refine rs0 (.bool (!y6)) (zF q5) ?_;refine rsB 1 ?_;refine rs0 (.box (oi 3 1) 1) (zg q7) ?_;refine rsl (.tree T4 u0) (zg q7) ?_;refine rs0 (an u0.length) (zg q7) ?_;refine Cm (.bool y8) [] [an u0.length,ai 1,ai 40] _ (caps:=[]) (args0:=[an u0.length,ai 1,ai 40]) (F8 (by kernel_rfl) q7) (by kernel_rfl) (C1 h8) Ib ?_;refine rs0 (.bool (!y8)) (zg q7) ?_;refine rs0 (.bool (!y8)) (zF q7) ?_;refine rsB 1 ?_;refine rs0 (.box (oi 3 1) 2) (zg q9) ?_;refine rsl (tI u2) (zg q9) ?_;refine rs0 (an u2.length) (zg q9) ?_;refine rs0 (.bool (decide (8<(u2.length:Int)))) (zg q9) ?_;refine rs0 (.bool (decide (8<(u2.length:Int)))) (zF q9) ?_;refine rsB 1 ?_;refine zs q10 ?_;refine zs q10 ?_;refine zs q10 ?_;refine zs q10 ?_;refine zs q10 ?_;refine zs q10 ?_;refine zs q10 ?_;refine zs q10 ?_;refine rs0 (.bool true) (zT q10) ?_;refine Aq (tn_ ?_);obtain rfl:=zj h;exact ⟨_,Ac [(oi 0 1,oi 3 1)],rfl⟩
  have q10_:=of_decide_eq_false q10;obtain ⟨y11,h11,h⟩:=Ad h;refine Aa 35 ?_;refine rsB 1 ?_;refine zc (.bool y4) [] [ai a0] (Ja h4) ?_;refine rsB 2 ?_;refine rs0 (.box (oi 3 1) 0) (zg q5) ?_;refine rsl (ai u1) (zg q5) ?_;refine Cm (.bool y6) [] [ai u1,ai 0,ai 8] _ (caps:=[]) (args0:=[ai u1,ai 0,ai 8]) (F8 (by kernel_rfl) q5) (by kernel_rfl) (C1 h6) Ib ?_;refine rs0 (.bool (!y6)) (zg q5) ?_;refine rs0 (.bool (!y6)) (zF q5) ?_;refine rsB 1 ?_;refine rs0 (.box (oi 3 1) 1) (zg q7) ?_;refine rsl (.tree T4 u0) (zg q7) ?_;refine rs0 (an u0.length) (zg q7) ?_;refine Cm (.bool y8) [] [an u0.length,ai 1,ai 40] _ (caps:=[]) (args0:=[an u0.length,ai 1,ai 40]) (F8 (by kernel_rfl) q7) (by kernel_rfl) (C1 h8) Ib ?_;refine rs0 (.bool (!y8)) (zg q7) ?_;refine rs0 (.bool (!y8)) (zF q7) ?_;refine rsB 1 ?_;refine rs0 (.box (oi 3 1) 2) (zg q9) ?_;refine rsl (tI u2) (zg q9) ?_;refine rs0 (an u2.length) (zg q9) ?_;refine rs0 (.bool (decide (8<(u2.length:Int)))) (zg q9) ?_;refine rs0 (.bool (decide (8<(u2.length:Int)))) (zF q9) ?_;refine rsB 1 ?_;refine rs0 (.box (oi 3 1) 2) (zg q10) ?_;refine rsl (tI u2) (zg q10) ?_;refine rs0 (.box (oi 3 1) 1) (zg q10) ?_;refine rsl (.tree T4 u0) (zg q10) ?_;refine rs0 (an u0.length) (zg q10) ?_;refine rs0 (ai (wI ((u0.length:Int) - 1))) (zg q10) ?_;refine Cm (.bool y11) [] [tI u2,ai 0,ai (wI ((u0.length:Int) - 1))] _ (caps:=[]) (args0:=[tI u2,ai 0,ai (wI ((u0.length:Int) - 1))]) (F8 (by kernel_rfl) q10) (by kernel_rfl) (M7 h11) Na ?_;refine rs0 (.bool (!y11)) (zg q10) ?_;refine rs0 (.bool (!y11)) (zF q10) ?_;refine Aq (tn_ ?_);obtain rfl:=zj h;exact ⟨_,Ac [(oi 0 1,oi 3 1)],rfl⟩
 rintro u7 _ rfl h
 (try dsimp only at h);rcases Af h with ⟨q12,h⟩ | ⟨q12,h⟩
 ·refine Ah q12 ?_;refine Al ?_;refine An (tr_ ?_);obtain rfl:=zj h;exact Bo [.bool false] (A2 rfl zl A5)
 refine Ag q12 ?_;refine Ai (tn_ ?_);refine wr_ ?_;refine Al ?_;refine Hz h (fun (u6:Nat) S_=>S_=⟨Ao [(3,.box (oi 0 1) 0),(5,an u6)],Aj (Ap [(oi 0 1,.cells 31 [ai u1,.tree T4 u0,tI u2])]),2⟩) ?_ ?_
 ·intro v_ h hk15;refine Al ?_;refine Ae ?_;refine Av h (fun t_ S_=>∃ (u3:Nat),∃ (u4:Nat),t_=(u3,u4)∧S_=⟨Ao [(0,ai a0),(3,.box (oi 0 1) 0),(5,an u3),(41,.tree T4 u0),(42,an u0.length),(43,an u4)],Aj (Ap [(oi 0 1,.cells 31 [ai u1,.tree T4 u0,tI u2])]),2⟩) ⟨_,Ac [],⟨0,0,rfl,rfl⟩⟩ ?_;rintro n_ _ _ c_ ⟨u3,u4,rfl,rfl⟩ h hn17
  (try dsimp only at h);unfold Hy at h;unfold Sk;refine Al ?_;refine Ab ?_;rcases Af h with ⟨q20,h⟩ | ⟨q20,h⟩
  ·have q20_:=of_decide_eq_true q20;refine Ah q20 ?_;refine Ai (tn_ ?_);refine wr_ ?_;refine Hz h (fun (u5:Nat) S_=>S_=⟨Ao [(0,ai a0),(3,.box (oi 0 1) 0),(5,an u5),(41,.tree T4 u0),(42,an u0.length),(43,an u4)],Aj (Ap [(oi 0 1,.cells 31 [ai u1,.tree T4 u0,tI u2])]),2⟩) ?_ ?_
   ·intro v_ h hk21;refine Ae ?_;refine Ab ?_;obtain ⟨x23,e23,h⟩:=Ad h;refine Aa 7 ?_;refine zI T4 e23 ?_;refine rsB 3 ?_;refine Aq (tn_ ?_);refine wr_ ?_;refine Ab ?_;refine Ab ?_;obtain ⟨y26,h26,h⟩:=Ad h;refine Aa 16 ?_;refine rsB 7 ?_;refine zc (.bool y26) [] [ai a0,.agg [ai x23.1,ai x23.2.1,ai x23.2.2.1,ai x23.2.2.2],ai u1,an u0.length] (Ahr h26) ?_;refine rsB 1 ?_;refine Aq (tn_ ?_);refine wr_ ?_;rcases Af h with ⟨q27,h⟩ | ⟨q27,h⟩
    ·refine Ah q27 ?_;refine Al ?_;refine An (tr_ (br_ (tr_ (tr_ (br_ (tr_ ?_))))));obtain rfl:=zj h;have h:=hk21
     (try dsimp only at h);obtain rfl:=zj h;have h:=hn17
     (try dsimp only at h);obtain rfl:=zj h;have h:=hk15
     (try dsimp only at h);obtain rfl:=zj h;exact Bo [.bool false] (A2 rfl zl A5)
    refine Ag q27 ?_;refine Ai (tn_ ?_);refine wr_ ?_;refine Ab ?_;obtain ⟨y30,h30,h⟩:=Ad h;refine Aa 18 ?_;refine rsB 1 ?_;refine zc (.bool y30) [] [.agg [ai x23.1,ai x23.2.1,ai x23.2.2.1,ai x23.2.2.2]] (Pv h30) ?_;refine Aq (tn_ ?_);refine wr_ ?_;rcases Af h with ⟨q31,h⟩ | ⟨q31,h⟩
    ·refine Ah q31 ?_;obtain ⟨g32,h⟩:=Am h;refine Aa 21 ?_;refine rsB 1 ?_;refine zA g32 ?_;refine rsB 1 ?_;refine Aq (bn_ (tn_ ?_));obtain rfl:=zj h;exact ⟨u3+1,_,rfl,Ac [],rfl⟩
    refine Ag q31 ?_;refine Ai (bn_ (tn_ ?_));obtain rfl:=zj h;exact ⟨u3,_,rfl,Ac [],rfl⟩
   rintro u5 _ rfl h
   (try dsimp only at h);obtain ⟨g33,h⟩:=Am h;refine Aa 4 ?_;refine zA g33 ?_;refine rsB 1 ?_;refine Aq (tn_ ?_);obtain rfl:=zj h;exact ⟨(u5,u4+1),_,Ac [],⟨u5,u4+1,rfl,rfl⟩,hn17⟩
  have q20_:=of_decide_eq_false q20;refine Ag q20 ?_;refine Au (te_ (te_ (be_ (tn_ ?_))));obtain rfl:=zj h;have h:=hn17
  (try dsimp only at h);obtain rfl:=zj h;exact ⟨u3,_,rfl,Ac [],rfl⟩
 rintro u6 _ rfl h
 (try dsimp only at h);refine Ab ?_;obtain ⟨y35,h35,h⟩:=Ad h;refine Aa 8 ?_;refine rsB 1 ?_;refine zc (oI 992 3 y35.length) [nI 992 3 y35] [.agg [ai u1,.tree T4 u0,tI u2]] (U5 h35) ?_;refine rsB 4 ?_;refine Aq (tn_ ?_);refine wr_ ?_;refine An ?_;obtain rfl:=zj h;exact Bo [.bool ((y35.length:Int)==(u6:Int))] (A2 rfl zl A5)
def Nq:AC :=
 (.seq (rg [xo 1 (.i (.box 55 (tm 0))),xo 2 (qm (.cst .nils))])
 (.seq (.seq (rg [xf 3 0 1,xl 4 3])
 (.block 0 (.seq (rg [xo 6 (qb .eql (tm 4) (ci 3)),xm 5 6])
 (.cond (tm 5)
  (.seq (rg [xf 7 1 1,xl 8 7,xf 9 2 1,xl 10 9,xo 11 (.mkS 3 .int [tm 8,tm 10]),xm 2 11])
  .ret)
  (.seq (.seq (rg [xo 13 (qb .eql (tm 4) (ci 4)),xm 12 13])
  (.cond (tm 12)
   .skip
   (rg [xo 14 (qb .eql (tm 4) (ci 5)),xm 12 14])))
  (.cond (tm 12)
   (.seq (rg [xf 15 1 1,xl 16 15,xo 17 (.mkS 3 .int [tm 16]),xm 2 17])
   .ret)
   .skip))))))
 (.seq (rg [xo 2 (qm (.cst .nils))])
 .ret)))
def Vw:List Res:=[.tmp 2]
theorem Wy:At Tryd.prog Tryd.f76=some (Nq,Vw):=by kernel_rfl
def Em (u0 u1:Int) (u2 u4:Int):Option (List Int) :=
 cond (u0==3)
 (some ([u1,u2]))
 (Option.bind (cond (u0==4)
   (some (u0==4))
   (some (u0==5))) fun u3 =>
 cond u3
  (some ([u1]))
  (some []))
def Vp (r:List Int):RV:=⟨false,[(false,[.new 3 .int r])]⟩
theorem Mv {u0 u1:Int} {u2 u3:Int} {r:List Int} (h:Em u0 u1 u2 u3=some r):A0 Tryd.prog Tab 76 [.agg [ai u0,ai u1,ai u2,ai u3]] (Vp r):=by
 refine A1 (by kernel_rfl) Tryd.func76 Wy (n:=18) (by kernel_rfl) (by simp) (tl:=[(0,.agg [ai u0,ai u1,ai u2,ai u3])]) rfl ?_;unfold Nq;unfold Em at h;refine Al ?_;refine Ab ?_;refine Al ?_;refine Ae ?_;refine Al ?_;rcases Af h with ⟨q5,h⟩ | ⟨q5,h⟩
 ·refine Ah q5 ?_;refine Al ?_;refine An (br_ (tr_ ?_));obtain rfl:=zj h;exact Bo [oI 11 11 2] (A2 rfl (Fy (by kernel_rfl) rfl) A5)
 refine Ag q5 ?_;refine Ar h (fun (u4:Bool) S_=>S_=⟨Ao [(1,.box (oi 0 1) 0),(12,.bool u4)],Aj (Ap [(oi 0 1,.cells 55 [ai u0,ai u1,ai u2,ai u3])]),2⟩) ?_ ?_
 ·intro v_ h;refine Al ?_;rcases Af h with ⟨q9,h⟩ | ⟨q9,h⟩
  ·refine Ah q9 ?_;refine Ai (tn_ ?_);obtain rfl:=zj h;exact ⟨_,Ac [(oi 0 1,oi 1 1)],rfl⟩
  refine Ag q9 ?_;refine Aa 11 ?_;refine rsB 2 ?_;refine Aq (tn_ ?_);obtain rfl:=zj h;exact ⟨_,Ac [(oi 0 1,oi 1 1)],rfl⟩
 rintro u4 _ rfl h
 (try dsimp only at h);rcases Af h with ⟨q10,h⟩ | ⟨q10,h⟩
 ·refine Ah q10 ?_;refine Al ?_;refine An (br_ (tr_ ?_));obtain rfl:=zj h;exact Bo [oI 17 4 1] (A2 rfl (Fy (by kernel_rfl) rfl) A5)
 refine Ag q10 ?_;refine Ai (bn_ (tn_ ?_));refine wr_ ?_;refine Al ?_;refine An ?_;obtain rfl:=zj h;exact Bo [.nils] (A2 rfl (Al7 rfl) A5)
def Mo:AC :=
 (.seq (rg [xo 3 (.i (.box 31 (tm 0))),xo 5 (.i (.box 55 (tm 2))),xo 6 (qm (cb false))])
 (.seq (.seq (.region [xo 7 (.i (.ld false 4 (tm 5))),xo 8 (qc 76 [tm 7] [[none,none,none,none]]),xf 9 1 3,xl 10 9,xn1 11 10,xo 12 (qc 51 [tm 8,tm 11] [[some .int],[]]),xo 13 (.i (.not (tm 12)))] true [(1,3)])
 (.cond (tm 13)
  (.seq (rg [xo 6 (qm (cb false))])
  .ret)
  .skip))
 (.seq (.seq (rg [xf 14 0 5,xl 15 14])
 (.block 0 (.seq (rg [xo 17 (qb .eql (tm 15) (ci 1)),xm 16 17])
 (.cond (tm 16)
  (.seq (rg [xf 18 1 5,xl 19 18,xo 20 (qb .eql (tm 19) (ci 0)),xm 21 20,⟨some 22,some (21,true),qf 2 (tm 5)⟩,⟨some 23,some (21,true),ql (tm 22)⟩,⟨some 24,some (21,true),qb .eql (tm 23) (ci 0)⟩,xo 25 (.i (.pick (tm 21) (tm 24) (cb false))),xm 26 25,⟨some 27,some (26,true),qf 3 (tm 5)⟩,⟨some 28,some (26,true),ql (tm 27)⟩,⟨some 29,some (26,true),qf 0 (tm 3)⟩,⟨some 30,some (26,true),ql (tm 29)⟩,⟨some 31,some (26,true),qb .sub (tm 30) (ci 1)⟩,⟨some 32,some (26,true),qc 50 [tm 28,ci 0,tm 31] [[],[],[]]⟩,xo 33 (.i (.pick (tm 26) (tm 32) (cb false))),xm 6 33])
  .ret)
  (.seq (rg [xo 35 (qb .eql (tm 15) (ci 2)),xm 34 35])
  (.cond (tm 34)
   (.seq (rg [xo 36 (.i (.ld false 4 (tm 5))),xo 37 (.build [.int .i64 0,.int .i64 0,.int .i64 0,.int .i64 0] [(0,1,ci 2)]),xo 38 (.i (.cmp false 7 (tm 36) (tm 37))),xm 6 38])
   .ret)
   (.seq (rg [xo 40 (qb .eql (tm 15) (ci 3)),xm 39 40])
   (.cond (tm 39)
    (.seq (rg [xf 41 3 5,xl 42 41,xo 43 (qb .eql (tm 42) (ci 0)),xm 6 43])
    .ret)
    (.seq (rg [xo 45 (qb .eql (tm 15) (ci 4)),xm 44 45])
    (.cond (tm 44)
     (.seq (rg [xf 46 2 5,xl 47 46,xo 48 (qb .eql (tm 47) (ci 0)),xm 49 48,⟨some 50,some (49,true),qm (tm 1)⟩,⟨some 51,some (49,true),qf 3 (tm 5)⟩,⟨some 52,some (49,true),ql (tm 51)⟩,⟨some 53,some (49,true),qc 77 [tm 50,tm 52] [[],[]]⟩,xo 54 (.i (.pick (tm 49) (tm 53) (cb false))),xm 6 54])
     .ret)
     (.seq (rg [xo 56 (qb .eql (tm 15) (ci 5)),xm 55 56])
     (.cond (tm 55)
      (.seq (rg [xf 57 2 5,xl 58 57,xo 59 (qb .eql (tm 58) (ci 0)),xm 60 59,⟨some 61,some (60,true),qf 3 (tm 5)⟩,⟨some 62,some (60,true),ql (tm 61)⟩,⟨some 63,some (60,true),qb .eql (tm 62) (ci 0)⟩,xo 64 (.i (.pick (tm 60) (tm 63) (cb false))),xm 6 64])
      .ret)
      .skip))))))))))))
 (.seq (rg [xo 6 (qm (cb false))])
 .ret))))
def Vn:List Res:=[.tmp 6]
theorem Vg:At Tryd.prog Tryd.f52=some (Mo,Vn):=by kernel_rfl
def Dx (u4:Int) (u5:List (Int×Int×Int×Int)) (u9:List Int) (a1 u0:Int) (u3 u2 u1:Int):Option Bool :=
 Option.bind (Em u0 u3 u2 u1) fun y4 =>
Option.bind (Gb y4 (u5.length:Int)) fun y5 =>
cond (!y5)
 (some false)
 (cond (u0==1)
  (Option.bind (cond (u3==0)
    (cond (u2==0)
     (Option.bind (Fd u1 0 (wI (u4 - 1))) fun y15 =>
     some y15)
     (some false))
    (some false)) fun u6 =>
  some u6)
  (cond (u0==2)
   (some ([u0,u3,u2,u1]==[2,0,0,0]))
   (cond (u0==3)
    (some (u1==0))
    (cond (u0==4)
     (Option.bind (cond (u2==0)
       (Option.bind (Hj a1 u1) fun y26 =>
       some y26)
       (some false)) fun u7 =>
     some u7)
     (cond (u0==5)
      (Option.bind (cond (u2==0)
        (some (u1==0))
        (some false)) fun u8 =>
      some u8)
      (some false))))))
def Tz (r:Bool):RV:=⟨false,[(false,[.sc (.bool r)])]⟩
theorem Ul {u2:Int} {u3:List (Int×Int×Int×Int)} {u6:List Int} {a1 u4:Int} {u5 u1 u0:Int} {r:Bool} (h:Dx u2 u3 u6 a1 u4 u5 u1 u0=some r):A0 Tryd.prog Tab 52 [.agg [ai u2,.tree T4 u3,tI u6],ai a1,.agg [ai u4,ai u5,ai u1,ai u0]] (Tz r):=by
 refine A1 (by kernel_rfl) Tryd.func52 Vg (n:=65) (by kernel_rfl) (by simp) (tl:=[(0,.agg [ai u2,.tree T4 u3,tI u6]),(1,ai a1),(2,.agg [ai u4,ai u5,ai u1,ai u0])]) rfl ?_;unfold Mo;unfold Dx at h;refine Al ?_;refine Ab ?_;refine Ab ?_;obtain ⟨y4,h4,h⟩:=Ad h;obtain ⟨y5,h5,h⟩:=Ad h;refine Ax 11 ?_;refine dzl (.agg [ai u4,ai u5,ai u1,ai u0]) ?_;refine dzc (oI 128 5 y4.length) [nI 128 5 y4] [.agg [ai u4,ai u5,ai u1,ai u0]] (Mv h4) ?_;refine dz0 (.box (oi 3 1) 1) ?_;refine dzl (.tree T4 u3) ?_;refine dz0 (an u3.length) ?_;refine Lg (.bool y5) [] [oI 128 5 y4.length,an u3.length] _ (caps:=[]) (args0:=[tI y4,an u3.length]) trivial (Ay (Ca (e:=3) (by kernel_rfl) rfl) (Ay (by kernel_rfl) B9)) (S7 h5) S6 ?_;refine dz0 (.bool (!y5)) ?_;refine F5 (Bc (by kernel_rfl)) (tn_ ?_);refine wr_ ?_;rcases Af h with ⟨q6,h⟩ | ⟨q6,h⟩
 ·refine Ah q6 ?_;refine Al ?_;refine An (tr_ ?_);obtain rfl:=zj h;exact Bo [.bool false] (A2 rfl zl A5)
 refine Ag q6 ?_;refine Ai (tn_ ?_);refine wr_ ?_;refine Ab ?_;refine Al ?_;refine Ae ?_;refine Al ?_;rcases Af h with ⟨q11,h⟩ | ⟨q11,h⟩
 ·refine Ah q11 ?_;refine Ar h (fun (u7:Bool) S_=>S_=⟨Ao [(6,.bool u7)],Aj (Ap []),2⟩) ?_ ?_
  ·intro v_ h;rcases Af h with ⟨q13,h⟩ | ⟨q13,h⟩
   ·rcases Af h with ⟨q14,h⟩ | ⟨q14,h⟩
    ·obtain ⟨y15,h15,h⟩:=Ad h;refine Aa 32 ?_;refine rsB 4 ?_;refine rs0 (.box (oi 5 2) 2) (zg q13) ?_;refine rsl (ai u1) (zg q13) ?_;refine rs0 (.bool (u1==0)) (zg q13) ?_;refine rs0 (.bool (u1==0)) (zT q13) ?_;refine rsB 1 ?_;refine rs0 (.box (oi 5 2) 3) (zg q14) ?_;refine rsl (ai u0) (zg q14) ?_;refine rs0 (.box (oi 3 1) 0) (zg q14) ?_;refine rsl (ai u2) (zg q14) ?_;refine rs0 (ai (wI (u2 - 1))) (zg q14) ?_;refine Cm (.bool y15) [] [ai u0,ai 0,ai (wI (u2 - 1))] _ (caps:=[]) (args0:=[ai u0,ai 0,ai (wI (u2 - 1))]) (F8 (by kernel_rfl) q14) (by kernel_rfl) (De h15) El ?_;refine rs0 (.bool y15) (zT q14) ?_;refine rsB 1 ?_;refine Aq (tn_ ?_);obtain rfl:=zj h;exact ⟨_,Ac [],rfl⟩
    refine Aa 32 ?_;refine rsB 4 ?_;refine rs0 (.box (oi 5 2) 2) (zg q13) ?_;refine rsl (ai u1) (zg q13) ?_;refine rs0 (.bool (u1==0)) (zg q13) ?_;refine rs0 (.bool (u1==0)) (zT q13) ?_;refine rsB 1 ?_;refine zs q14 ?_;refine zs q14 ?_;refine zs q14 ?_;refine zs q14 ?_;refine zs q14 ?_;refine zs q14 ?_;refine rs0 (.bool false) (zF q14) ?_;refine rsB 1 ?_;refine Aq (tn_ ?_);obtain rfl:=zj h;exact ⟨_,Ac [],rfl⟩
   refine Aa 32 ?_;refine rsB 4 ?_;refine zs q13 ?_;refine zs q13 ?_;refine zs q13 ?_;refine rs0 (.bool false) (zF q13) ?_;refine rsB 9 ?_;refine Aq (tn_ ?_);obtain rfl:=zj h;exact ⟨_,Ac [],rfl⟩
  rintro u7 _ rfl h
  (try dsimp only at h);refine An (br_ (tr_ ?_));obtain rfl:=zj h;exact Bo [.bool u7] (A2 rfl zl A5)
 refine Ag q11 ?_;refine Al ?_;rcases Af h with ⟨q17,h⟩ | ⟨q17,h⟩
 ·refine Ah q17 ?_;refine Al ?_;refine An (br_ (tr_ ?_));obtain rfl:=zj h;exact Bo [.bool ([u4,u5,u1,u0]==[2,0,0,0])] (A2 rfl zl A5)
 refine Ag q17 ?_;refine Al ?_;rcases Af h with ⟨q20,h⟩ | ⟨q20,h⟩
 ·refine Ah q20 ?_;refine Al ?_;refine An (br_ (tr_ ?_));obtain rfl:=zj h;exact Bo [.bool (u0==0)] (A2 rfl zl A5)
 refine Ag q20 ?_;refine Al ?_;rcases Af h with ⟨q23,h⟩ | ⟨q23,h⟩
 ·refine Ah q23 ?_;refine Ar h (fun (u8:Bool) S_=>S_=⟨Ao [(6,.bool u8)],Aj (Ap []),2⟩) ?_ ?_
  ·intro v_ h;rcases Af h with ⟨q25,h⟩ | ⟨q25,h⟩
   ·obtain ⟨y26,h26,h⟩:=Ad h;refine Aa 31 ?_;refine rsB 4 ?_;refine rs0 (ai a1) (zg q25) ?_;refine rs0 (.box (oi 5 2) 3) (zg q25) ?_;refine rsl (ai u0) (zg q25) ?_;refine Cm (.bool y26) [] [ai a1,ai u0] _ (caps:=[]) (args0:=[ai a1,ai u0]) (F8 (by kernel_rfl) q25) (by kernel_rfl) (Aa1 h26) Aa3 ?_;refine rs0 (.bool y26) (zT q25) ?_;refine rsB 1 ?_;refine Aq (tn_ ?_);obtain rfl:=zj h;exact ⟨_,Ac [],rfl⟩
   refine Aa 31 ?_;refine rsB 4 ?_;refine zs q25 ?_;refine zs q25 ?_;refine zs q25 ?_;refine zs q25 ?_;refine rs0 (.bool false) (zF q25) ?_;refine rsB 1 ?_;refine Aq (tn_ ?_);obtain rfl:=zj h;exact ⟨_,Ac [],rfl⟩
  rintro u8 _ rfl h
  (try dsimp only at h);refine An (br_ (tr_ ?_));obtain rfl:=zj h;exact Bo [.bool u8] (A2 rfl zl A5)
 refine Ag q23 ?_;refine Al ?_;rcases Af h with ⟨q28,h⟩ | ⟨q28,h⟩
 ·refine Ah q28 ?_;refine Ar h (fun (u9:Bool) S_=>S_=⟨Ao [(6,.bool u9)],Aj (Ap []),2⟩) ?_ ?_
  ·intro v_ h;rcases Af h with ⟨q30,h⟩ | ⟨q30,h⟩
   ·refine Aa 32 ?_;refine rsB 4 ?_;refine rs0 (.box (oi 5 2) 3) (zg q30) ?_;refine rsl (ai u0) (zg q30) ?_;refine rs0 (.bool (u0==0)) (zg q30) ?_;refine rs0 (.bool (u0==0)) (zT q30) ?_;refine rsB 1 ?_;refine Aq (tn_ ?_);obtain rfl:=zj h;exact ⟨_,Ac [],rfl⟩
   refine Aa 32 ?_;refine rsB 4 ?_;refine zs q30 ?_;refine zs q30 ?_;refine zs q30 ?_;refine rs0 (.bool false) (zF q30) ?_;refine rsB 1 ?_;refine Aq (tn_ ?_);obtain rfl:=zj h;exact ⟨_,Ac [],rfl⟩
  rintro u9 _ rfl h
  (try dsimp only at h);refine An (br_ (tr_ ?_));obtain rfl:=zj h;exact Bo [.bool u9] (A2 rfl zl A5)
 refine Ag q28 ?_;refine Ai (bn_ (tn_ ?_));refine wr_ ?_;refine Al ?_;refine An ?_;obtain rfl:=zj h;exact Bo [.bool false] (A2 rfl zl A5)
def Q5:AC :=
 (.seq (rg [xo 1 (.i (.box 55 (tm 0))),xo 2 (qm (.cst .nils))])
 (.seq (.seq (rg [xf 3 0 1,xl 4 3,xo 5 (qb .eql (tm 4) (ci 3)),xm 6 5,⟨some 7,some (6,false),qf 0 (tm 1)⟩,⟨some 8,some (6,false),ql (tm 7)⟩,⟨some 9,some (6,false),qb .eql (tm 8) (ci 4)⟩,xo 10 (.i (.pick (tm 6) (cb true) (tm 9)))])
 (.cond (tm 10)
  (.seq (rg [xo 11 (.i (.ld false 4 (tm 1))),xo 12 (qc 76 [tm 11] [[none,none,none,none]]),xm 2 12])
  .ret)
  .skip))
 (.seq (rg [xo 2 (qm (.cst .nils))])
 .ret)))
def Aa4:List Res:=[.tmp 2]
theorem Aaf:At Tryd.prog Tryd.f78=some (Q5,Aa4):=by kernel_rfl
theorem Ys:Be Tryd.prog 78=true:=by kernel_rfl
def E0 (u0 u1:Int) (u2 u3:Int):Option (List Int) :=
 Option.bind (cond (u0==3)
  (some true)
  (some (u0==4))) fun u4 =>
cond u4
 (Option.bind (Em u0 u1 u2 u3) fun y7 =>
 some y7)
 (some [])
def Zd (r:List Int):RV:=⟨false,[(false,[.new 3 .int r])]⟩
theorem P9 {u0 u1:Int} {u2 u3:Int} {r:List Int} (h:E0 u0 u1 u2 u3=some r):A0 Tryd.prog Tab 78 [.agg [ai u0,ai u1,ai u2,ai u3]] (Zd r):=by
 refine A1 (by kernel_rfl) Tryd.func78 Aaf (n:=13) (by kernel_rfl) (by simp) (tl:=[(0,.agg [ai u0,ai u1,ai u2,ai u3])]) rfl ?_;unfold Q5;unfold E0 at h;refine Al ?_;refine Ab ?_;refine Ar h (fun (u4:Bool) S_=>S_=⟨Ao [(1,.box (oi 0 1) 0),(10,.bool u4)],Aj (Ap [(oi 0 1,.cells 55 [ai u0,ai u1,ai u2,ai u3])]),2⟩) ?_ ?_
 ·intro v_ h;rcases Af h with ⟨q4,h⟩ | ⟨q4,h⟩
  ·refine Aa 11 ?_;refine rsB 4 ?_;refine zs q4 ?_;refine zs q4 ?_;refine zs q4 ?_;refine rs0 (.bool true) (zT q4) ?_;refine Aq (tn_ ?_);obtain rfl:=zj h;exact ⟨_,Ac [(oi 0 1,oi 1 1)],rfl⟩
  refine Aa 11 ?_;refine rsB 4 ?_;refine rs0 (.box (oi 1 1) 0) (zg q4) ?_;refine rsl (ai u0) (zg q4) ?_;refine rs0 (.bool (u0==4)) (zg q4) ?_;refine rs0 (.bool (u0==4)) (zF q4) ?_;refine Aq (tn_ ?_);obtain rfl:=zj h;exact ⟨_,Ac [(oi 0 1,oi 1 1)],rfl⟩
 rintro u4 _ rfl h
 (try dsimp only at h);rcases Af h with ⟨q5,h⟩ | ⟨q5,h⟩
 ·refine Ah q5 ?_;refine Ab ?_;obtain ⟨y7,h7,h⟩:=Ad h;refine Aa 5 ?_;refine rsB 1 ?_;refine zc (oI 192 3 y7.length) [nI 192 3 y7] [.agg [ai u0,ai u1,ai u2,ai u3]] (Mv h7) ?_;refine rsB 1 ?_;refine Aq (tn_ ?_);refine wr_ ?_;refine An (tr_ ?_);obtain rfl:=zj h;exact Bo [oI 192 3 y7.length] (A2 rfl (Fy (by kernel_rfl) rfl) A5)
 refine Ag q5 ?_;refine Ai (tn_ ?_);refine wr_ ?_;refine Al ?_;refine An ?_;obtain rfl:=zj h;exact Bo [.nils] (A2 rfl (Al7 rfl) A5)
def Iw:AC :=
 (.seq (rg [xo 3 (qm (cb false))])
 (.seq (rg [xl 4 1,xm 5 0,xo 6 (.i (.look 93 false (tm 4) (tm 5))),xm 3 6])
 .ret))
def O5:List Res:=[.tmp 3]
theorem O4:At Tryd.prog Tryd.f83=some (Iw,O5):=by kernel_rfl
theorem N2:Be Tryd.prog 83=true:=by kernel_rfl
def Da (a0:Int) (u0:List (Int×Bool)):Option Bool :=
 og (Lt a0) <|
some ((Et u0 a0).getD false)
def Ny (r:Bool):RV:=⟨false,[(false,[.sc (.bool r)])]⟩
theorem N4 {a0:Int} {u0:List (Int×Bool)} {r:Bool} (h:Da a0 u0=some r):A0 Tryd.prog Tab 83 [ai a0,.ref [.mtree 93 .bool u0]] (Ny r):=by
 refine A1 (by kernel_rfl) Tryd.func83 O4 (n:=7) (by kernel_rfl) (by simp) (tl:=[(0,ai a0),(1,.ref [.mtree 93 .bool u0])]) rfl ?_;unfold Iw;unfold Da at h;refine Al ?_;refine Ab ?_;obtain ⟨g3,h⟩:=Am h;refine Aa 6 ?_;refine rsB 2 ?_;refine rs0 (.bool ((Et u0 a0).getD false)) (Anj (t:=.bool) (es:=u0) (k:=a0) (by kernel_rfl) (by kernel_rfl) g3) ?_;refine rsB 1 ?_;refine Aq (tn_ ?_);refine wr_ ?_;refine An ?_;obtain rfl:=zj h;exact Bo [.bool ((Et u0 a0).getD false)] (A2 rfl zl A5)
def Eg:AC :=
 (.seq (rg [xs1 9 8 7])
 (.seq (.cond (tm 9)
  .skip
  (.exit 0))
 (.seq (.block 1 (.seq (rg [xm 10 8,xm 5 10])
 (.seq (rg [xm 11 1,xm 12 0,xm 13 5,xx 14 1 12 13,xl 15 14,xo 16 (.call (tm 11) [tm 15] [[]])])
 (.cond (tm 16)
  (.seq (rg [xm 17 5,xm 4 17])
  .ret)
  .skip))))
 (rg [xa 18 8,xm 8 18]))))
def Ft:AC :=
 (.seq (rg [xo 4 (qm (ci 0))])
 (.seq (.seq (rg [xm 6 0,xn1 7 6,xo 8 (qm (ci 0))])
 (.block 0 (.loop Eg)))
 (.seq (rg [xo 4 (qm (ci (-1)))])
 .ret)))
def Qb:List Res:=[.tmp 4]
theorem I8:At Tryd.prog Tryd.f79=some (Ft,Qb):=by kernel_rfl
theorem O6:Be Tryd.prog 79=true:=by kernel_rfl
def A6 (a0:List Int) (u1:List (Int×Bool)) (u0:Nat):Option (Ctl Nat (Ctl Unit Int)) :=
 cond (decide ((u0:Int)<(a0.length:Int)))
 (Option.bind (a0[u0]?) fun x11 =>
 Option.bind (Da x11 u1) fun y12 =>
 cond y12
  (some (Ctl.out (Ctl.out (u0:Int))))
  (og (u0+1<4611686018427387904) <|
  some (Ctl.next (u0+1))))
 (some (Ctl.out (Ctl.next ())))
def Bi (a0:List Int) (u0:List (Int×Bool)):Option Int :=
 Sn (Aw (fun s_:Nat=>A6 a0 u0 s_) 4611686018427387904 0) fun _ =>
some (-1)
def Ec (r:Int):RV:=⟨false,[(false,[.sc (.int .i64 r)])]⟩
theorem Eb {a0:List Int} {u0:List (Int×Bool)} {r:Int} (h:Bi a0 u0=some r):A0 Tryd.prog Tab 79 [tI a0,.fn 83 [.ref [.mtree 93 .bool u0]]] (Ec r):=by
 refine A1 (by kernel_rfl) Tryd.func79 I8 (n:=19) (by kernel_rfl) (by simp) (tl:=[(0,tI a0),(1,.fn 83 [.ref [.mtree 93 .bool u0]])]) rfl ?_;unfold Ft;unfold Bi at h;refine Al ?_;refine Hz h (fun (_:Unit) S_=>S_=⟨Ao [],Aj (Ap []),2⟩) ?_ ?_
 ·intro v_ h hk2;refine Al ?_;refine Ae ?_;refine Av h (fun (u1:Nat) S_=>S_=⟨Ao [(0,tI a0),(1,.fn 83 [.ref [.mtree 93 .bool u0]]),(7,an a0.length),(8,an u1)],Aj (Ap []),2⟩) ⟨_,Ac [],rfl⟩ ?_;rintro n_ u1 _ c_ rfl h hn4
  (try dsimp only at h);unfold A6 at h;unfold Eg;refine Al ?_;refine Ab ?_;rcases Af h with ⟨q7,h⟩ | ⟨q7,h⟩
  ·have q7_:=of_decide_eq_true q7;refine Ah q7 ?_;refine Ai (tn_ ?_);refine wr_ ?_;refine Ab ?_;refine Ae ?_;refine Al ?_;refine Ab ?_;obtain ⟨x11,e11,h⟩:=Ad h;obtain ⟨y12,h12,h⟩:=Ad h;refine Aa 11 ?_;refine rsB 3 ?_;refine zI .int e11 ?_;refine rsB 1 ?_;refine Cm (.bool y12) [] [ai x11,.ref [.mtree 93 .bool u0]] _ (caps:=[.ref [.mtree 93 .bool u0]]) (args0:=[ai x11,.ref [.mtree 93 .bool u0]]) trivial (by kernel_rfl) (N4 h12) N2 ?_;refine Aq (tn_ ?_);refine wr_ ?_;rcases Af h with ⟨q13,h⟩ | ⟨q13,h⟩
   ·refine Ah q13 ?_;refine Al ?_;refine An (br_ (tr_ (tr_ (br_ (tr_ ?_)))));obtain rfl:=zj h;have h:=hn4
    (try dsimp only at h);obtain rfl:=zj h;have h:=hk2
    (try dsimp only at h);obtain rfl:=zj h;exact Bo [an u1] (A2 rfl zl A5)
   refine Ag q13 ?_;refine Ai (bn_ (tn_ ?_));refine wr_ ?_;obtain ⟨g15,h⟩:=Am h;refine Aa 13 ?_;refine zA g15 ?_;refine rsB 1 ?_;refine Aq (tn_ ?_);obtain rfl:=zj h;exact ⟨u1+1,_,Ac [],rfl,hn4⟩
  have q7_:=of_decide_eq_false q7;refine Ag q7 ?_;refine Au (te_ (te_ (be_ (tn_ ?_))));obtain rfl:=zj h;have h:=hn4
  (try dsimp only at h);obtain rfl:=zj h;exact ⟨(),_,rfl,Ac [],rfl⟩
 rintro _ _ rfl h
 (try dsimp only at h);refine Al ?_;refine An ?_;obtain rfl:=zj h;exact Bo [ai (-1)] (A2 rfl zl A5)
def H3:AC :=
 (.seq (rg [xo 4 (qm (cb false))])
 (.seq (rg [xm 5 0,xm 6 1,xo 7 (qc 79 [tm 5,tm 6] [[some .int],[]]),xo 8 (qb .geq (tm 7) (ci 0)),xm 4 8])
 .ret))
def Nw:List Res:=[.tmp 4]
theorem Nj:At Tryd.prog Tryd.f82=some (H3,Nw):=by kernel_rfl
theorem Mz:Be Tryd.prog 82=true:=by kernel_rfl
def A7 (a0:List Int) (u0:List (Int×Bool)):Option Bool :=
 Option.bind (Bi a0 u0) fun y3 =>
some (decide (0<=y3))
def Dq (r:Bool):RV:=⟨false,[(false,[.sc (.bool r)])]⟩
theorem Dr {a0:List Int} {u0:List (Int×Bool)} {r:Bool} (h:A7 a0 u0=some r):A0 Tryd.prog Tab 82 [tI a0,.fn 83 [.ref [.mtree 93 .bool u0]]] (Dq r):=by
 refine A1 (by kernel_rfl) Tryd.func82 Nj (n:=9) (by kernel_rfl) (by simp) (tl:=[(0,tI a0),(1,.fn 83 [.ref [.mtree 93 .bool u0]])]) rfl ?_;unfold H3;unfold A7 at h;refine Al ?_;refine Ab ?_;obtain ⟨y3,h3,h⟩:=Ad h;refine Aa 7 ?_;refine rsB 2 ?_;refine zc (ai y3) [] [tI a0,.fn 83 [.ref [.mtree 93 .bool u0]]] (Eb h3) ?_;refine rsB 2 ?_;refine Aq (tn_ ?_);refine wr_ ?_;refine An ?_;obtain rfl:=zj h;exact Bo [.bool (decide (0<=y3))] (A2 rfl zl A5)
def J4:AC :=
 (.seq (rg [xo 4 (qm (cb false))])
 (.seq (rg [xl 5 1,xm 6 0,xo 7 (.i (.look 93 false (tm 5) (tm 6))),xm 8 7,⟨some 9,some (8,true),qf 1 (tm 2)⟩,⟨some 10,some (8,true),ql (tm 9)⟩,⟨some 11,some (8,true),qm (tm 0)⟩,⟨some 12,some (8,true),qx 4 (tm 10) (tm 11)⟩,⟨some 13,some (8,true),.i (.ld false 4 (tm 12))⟩,⟨some 14,some (8,true),qc 78 [tm 13] [[none,none,none,none]]⟩,⟨some 15,some (8,true),.i (.mkfn 83 [tm 1])⟩,⟨some 16,some (8,true),qc 82 [tm 14,tm 15] [[some .int],[]]⟩,⟨some 17,some (8,true),.i (.not (tm 16))⟩,xo 18 (.i (.pick (tm 8) (tm 17) (cb false))),xm 4 18])
 .ret))
def Qn:List Res:=[.tmp 4]
theorem Qs:At Tryd.prog Tryd.f81=some (J4,Qn):=by kernel_rfl
theorem Pu:Be Tryd.prog 81=true:=by kernel_rfl
def Cq (a0:Int) (u0:List (Int×Bool)) (u3:Int) (u1:List (Int×Int×Int×Int)) (u4:List Int):Option Bool :=
 Option.bind (og (Lt a0) <|
 cond ((Et u0 a0).getD false)
  (Option.bind (E2 u1 a0) fun x5 =>
  Option.bind (E0 x5.1 x5.2.1 x5.2.2.1 x5.2.2.2) fun y6 =>
  Option.bind (A7 y6 u0) fun y7 =>
  some (!y7))
  (some false)) fun u2 =>
some u2
def P7 (r:Bool):RV:=⟨false,[(false,[.sc (.bool r)])]⟩
theorem Ps {a0:Int} {u0:List (Int×Bool)} {u3:Int} {u1:List (Int×Int×Int×Int)} {u2:List Int} {r:Bool} (h:Cq a0 u0 u3 u1 u2=some r):A0 Tryd.prog Tab 81 [ai a0,.ref [.mtree 93 .bool u0],.ref [ai u3,.tree T4 u1,tI u2]] (P7 r):=by
 refine A1 (by kernel_rfl) Tryd.func81 Qs (n:=19) (by kernel_rfl) (by simp) (tl:=[(0,ai a0),(1,.ref [.mtree 93 .bool u0]),(2,.ref [ai u3,.tree T4 u1,tI u2])]) rfl ?_;unfold J4;unfold Cq at h;refine Al ?_;refine Ar h (fun (u4:Bool) S_=>S_=⟨Ao [(4,.bool u4)],Aj (Ap []),2⟩) ?_ ?_
 ·intro v_ h;obtain ⟨g3,h⟩:=Am h;rcases Af h with ⟨q4,h⟩ | ⟨q4,h⟩
  ·obtain ⟨x5,f5,h⟩:=Ad h;obtain ⟨p5,b5,e5⟩:=Ba f5;obtain ⟨y6,h6,h⟩:=Ad h;obtain ⟨y7,h7,h⟩:=Ad h;refine Aa 17 ?_;refine rsB 2 ?_;refine rs0 (.bool ((Et u0 a0).getD false)) (Anj (t:=.bool) (es:=u0) (k:=a0) (by kernel_rfl) (by kernel_rfl) g3) ?_;refine rsB 1 ?_;refine rs0 (.ref [.tree T4 u1,tI u2]) (zg q4) ?_;refine rs0 (.tree T4 u1) (zg q4) ?_;refine rs0 (ai a0) (zg q4) ?_;refine rs0 (.telt none T4 x5 0) (P3 (by kernel_rfl) q4 (zi (t:=T4) (xs:=u1) (k:=.i64) (m:=a0) p5 e5)) ?_;refine rs0 (.agg [ai x5.1,ai x5.2.1,ai x5.2.2.1,ai x5.2.2.2]) (zg q4) ?_;refine Cm (oI 224 11 y6.length) [nI 224 11 y6] [.agg [ai x5.1,ai x5.2.1,ai x5.2.2.1,ai x5.2.2.2]] _ (caps:=[]) (args0:=[.agg [ai x5.1,ai x5.2.1,ai x5.2.2.1,ai x5.2.2.2]]) (F8 (by kernel_rfl) q4) (by kernel_rfl) (P9 h6) Ys ?_;refine rs0 (.fn 83 [.ref [.mtree 93 .bool u0]]) (zg q4) ?_;refine Cm (.bool y7) [] [oI 224 11 y6.length,.fn 83 [.ref [.mtree 93 .bool u0]]] _ (caps:=[]) (args0:=[tI y6,.fn 83 [.ref [.mtree 93 .bool u0]]]) (F8 (by kernel_rfl) q4) (Ay (Ca (e:=3) (by kernel_rfl) rfl) (Ay (by kernel_rfl) B9)) (Dr h7) Mz ?_;refine rs0 (.bool (!y7)) (zg q4) ?_;refine rs0 (.bool (!y7)) (zT q4) ?_;refine rsB 1 ?_;refine Aq (tn_ ?_);obtain rfl:=zj h;exact ⟨_,Ac [],rfl⟩
  refine Aa 17 ?_;refine rsB 2 ?_;refine rs0 (.bool ((Et u0 a0).getD false)) (Anj (t:=.bool) (es:=u0) (k:=a0) (by kernel_rfl) (by kernel_rfl) g3) ?_;refine rsB 1 ?_;refine zs q4 ?_;refine zs q4 ?_;refine zs q4 ?_;refine zs q4 ?_;refine zs q4 ?_;refine zs q4 ?_;refine zs q4 ?_;refine zs q4 ?_;refine zs q4 ?_;refine rs0 (.bool false) (zF q4) ?_;refine rsB 1 ?_;refine Aq (tn_ ?_);obtain rfl:=zj h;exact ⟨_,Ac [],rfl⟩
 rintro u4 _ rfl h
 (try dsimp only at h);refine An ?_;obtain rfl:=zj h;exact Bo [.bool u4] (A2 rfl zl A5)
def Bh (a0:List Int) (u1:List (Int×Bool)) (u2:Int) (u3:List (Int×Int×Int×Int)) (u4:List Int) (u0:Nat):Option (Ctl Nat (Ctl Unit Int)) :=
 cond (decide ((u0:Int)<(a0.length:Int)))
 (Option.bind (a0[u0]?) fun x11 =>
 Option.bind (Cq x11 u1 u2 u3 u4) fun y12 =>
 cond y12
  (some (Ctl.out (Ctl.out (u0:Int))))
  (og (u0+1<4611686018427387904) <|
  some (Ctl.next (u0+1))))
 (some (Ctl.out (Ctl.next ())))
def Bb (a0:List Int) (u0:List (Int×Bool)) (u1:Int) (u2:List (Int×Int×Int×Int)) (u3:List Int):Option Int :=
 Sn (Aw (fun s_:Nat=>Bh a0 u0 u1 u2 u3 s_) 4611686018427387904 0) fun _ =>
some (-1)
def Er (r:Int):RV:=⟨false,[(false,[.sc (.int .i64 r)])]⟩
theorem Es {a0:List Int} {u0:List (Int×Bool)} {u1:Int} {u2:List (Int×Int×Int×Int)} {u3:List Int} {r:Int} (h:Bb a0 u0 u1 u2 u3=some r):A0 Tryd.prog Tab 79 [tI a0,.fn 81 [.ref [.mtree 93 .bool u0],.ref [ai u1,.tree T4 u2,tI u3]]] (Er r):=by
 refine A1 (by kernel_rfl) Tryd.func79 I8 (n:=19) (by kernel_rfl) (by simp) (tl:=[(0,tI a0),(1,.fn 81 [.ref [.mtree 93 .bool u0],.ref [ai u1,.tree T4 u2,tI u3]])]) rfl ?_;unfold Ft;unfold Bb at h;refine Al ?_;refine Hz h (fun (_:Unit) S_=>S_=⟨Ao [],Aj (Ap []),2⟩) ?_ ?_
 ·intro v_ h hk2;refine Al ?_;refine Ae ?_;refine Av h (fun (u4:Nat) S_=>S_=⟨Ao [(0,tI a0),(1,.fn 81 [.ref [.mtree 93 .bool u0],.ref [ai u1,.tree T4 u2,tI u3]]),(7,an a0.length),(8,an u4)],Aj (Ap []),2⟩) ⟨_,Ac [],rfl⟩ ?_;rintro n_ u4 _ c_ rfl h hn4
  (try dsimp only at h);unfold Bh at h;unfold Eg;refine Al ?_;refine Ab ?_;rcases Af h with ⟨q7,h⟩ | ⟨q7,h⟩
  ·have q7_:=of_decide_eq_true q7;refine Ah q7 ?_;refine Ai (tn_ ?_);refine wr_ ?_;refine Ab ?_;refine Ae ?_;refine Al ?_;refine Ab ?_;obtain ⟨x11,e11,h⟩:=Ad h;obtain ⟨y12,h12,h⟩:=Ad h;refine Aa 11 ?_;refine rsB 3 ?_;refine zI .int e11 ?_;refine rsB 1 ?_;refine Cm (.bool y12) [] [ai x11,.ref [.mtree 93 .bool u0],.ref [ai u1,.tree T4 u2,tI u3]] _ (caps:=[.ref [.mtree 93 .bool u0],.ref [ai u1,.tree T4 u2,tI u3]]) (args0:=[ai x11,.ref [.mtree 93 .bool u0],.ref [ai u1,.tree T4 u2,tI u3]]) trivial (by kernel_rfl) (Ps h12) Pu ?_;refine Aq (tn_ ?_);refine wr_ ?_;rcases Af h with ⟨q13,h⟩ | ⟨q13,h⟩
   ·refine Ah q13 ?_;refine Al ?_;refine An (br_ (tr_ (tr_ (br_ (tr_ ?_)))));obtain rfl:=zj h;have h:=hn4
    (try dsimp only at h);obtain rfl:=zj h;have h:=hk2
    (try dsimp only at h);obtain rfl:=zj h;exact Bo [an u4] (A2 rfl zl A5)
   refine Ag q13 ?_;refine Ai (bn_ (tn_ ?_));refine wr_ ?_;obtain ⟨g15,h⟩:=Am h;refine Aa 13 ?_;refine zA g15 ?_;refine rsB 1 ?_;refine Aq (tn_ ?_);obtain rfl:=zj h;exact ⟨u4+1,_,Ac [],rfl,hn4⟩
  have q7_:=of_decide_eq_false q7;refine Ag q7 ?_;refine Au (te_ (te_ (be_ (tn_ ?_))));obtain rfl:=zj h;have h:=hn4
  (try dsimp only at h);obtain rfl:=zj h;exact ⟨(),_,rfl,Ac [],rfl⟩
 rintro _ _ rfl h
 (try dsimp only at h);refine Al ?_;refine An ?_;obtain rfl:=zj h;exact Bo [ai (-1)] (A2 rfl zl A5)
def Ji:AC :=
 (.seq (.seq (rg [xl 26 4,xo 27 (.i (.lenM 93 (tm 26))),xo 28 (qb .gtr (tm 27) (ci 0))])
 (.cond (tm 28)
  .skip
  (.exit 2)))
 (.block 3 (.seq (rg [xf 29 1 1,xl 30 29,xn1 31 30,xo 32 (qc 80 [tm 31] [[]]),xo 33 (.i (.mkfn 81 [tm 4,tm 1])),xo 34 (qc 79 [tm 32,tm 33] [[some .int],[]]),xm 8 34])
 (.seq (.seq (rg [xm 35 8,xo 36 (qb .lss (tm 35) (ci 0))])
 (.cond (tm 36)
  (.seq (rg [xo 2 (qm (.cst .nils)),xo 3 (qm (cb false))])
  .ret)
  .skip))
 (.seq (rg [xl 37 4,xm 38 8,xn (.del 93 (tm 37) (tm 38))])
 (rg [xm 39 7,xm 40 8,xo 41 (.mkS 3 .int [tm 40]),xo 42 (.append 3 .int 8 (tm 39) (tm 41)),xm 7 42]))))))
def Jb:AC :=
 (.seq (rg [xs1 14 13 12])
 (.seq (.cond (tm 14)
  .skip
  (.exit 0))
 (.seq (.block 1 (.seq (rg [xm 15 13,xx 16 4 11 13,xo 17 (.i (.ld false 4 (tm 16))),xo 6 (.i (.alloc 55 [.int .i64 0,.int .i64 0,.int .i64 0,.int .i64 0])),xm 5 15,xn (.st false 4 (tm 6) (tm 17))])
 (.seq (rg [xo 18 (.i (.ld false 4 (tm 6))),xo 19 (qc 78 [tm 18] [[none,none,none,none]]),xn1 20 19,xo 21 (qb .gtr (tm 20) (ci 0))])
 (.cond (tm 21)
  (rg [xl 22 4,xm 23 5,xn (.upd 93 (tm 22) (tm 23) (cb true))])
  .skip))))
 (rg [xa 24 13,xm 13 24]))))
def Lc:AC :=
 (.seq (rg [xo 1 (.i (.box 31 (tm 0))),xo 2 (qm (.cst .nils)),xo 3 (qm (cb false))])
 (.seq (rg [xo 9 (.makeM 93 .bool),xo 4 (.i (.alloc 93 [.any])),xn (qs (tm 4) (tm 9))])
 (.seq (.seq (rg [xf 10 1 1,xl 11 10,xn1 12 11,xo 13 (qm (ci 0))])
 (.block 0 (.loop Jb)))
 (.seq (rg [xo 25 (.mkS 3 .int []),xm 7 25])
 (.seq (.block 2 (.loop Ji))
 (.seq (rg [xm 43 7,xm 2 43,xo 3 (qm (cb true))])
 .ret))))))
def Sd:List Res:=[.tmp 2,.tmp 3]
theorem Sj:At Tryd.prog Tryd.f53=some (Lc,Sd):=by kernel_rfl
def B5 (u2:List (Int×Int×Int×Int)) (u0:Nat) (u1:List (Int×Bool)):Option (Ctl (Nat×(List (Int×Bool))) (List (Int×Bool))) :=
 cond (decide ((u0:Int)<(u2.length:Int)))
 (Option.bind (Option.bind (u2[u0]?) fun x11 =>
  Option.bind (E0 x11.1 x11.2.1 x11.2.2.1 x11.2.2.2) fun y13 =>
  cond (decide (0<(y13.length:Int)))
   (og (Lt (u0:Int)∧u1.length<1073741824) <|
   some (Xj u1 (u0:Int) true))
   (some u1)) fun u3 =>
 og (u0+1<4611686018427387904) <|
 some (Ctl.next (u0+1,u3)))
 (some (Ctl.out u1))
def B4 (u2:List (Int×Int×Int×Int)) (u3:Int) (u4 u0:List Int) (u1:List (Int×Bool)):Option (Ctl (List Int×(List (Int×Bool))) (Ctl (List Int) (List Int×Bool))) :=
 cond (decide (0<(u1.length:Int)))
 (Option.bind (Nf (u2.length:Int)) fun y24 =>
 Option.bind (Bb y24 u1 u3 u2 u4) fun y25 =>
 cond (decide (y25<0))
  (some (Ctl.out (Ctl.out ([],false))))
  (og (Lt y25) <|
  og (u0.length+1<=1073741824∧(u0.length+1)*8<=140737488355328) <|
  some (Ctl.next (u0++([y25]),Mf u1 y25))))
 (some (Ctl.out (Ctl.next u0)))
def Cl (u1:Int) (u0:List (Int×Int×Int×Int)) (u2:List Int):Option (List Int×Bool) :=
 Option.bind (Aw (fun s_:Nat×(List (Int×Bool))=>B5 u0 s_.1 s_.2) 4611686018427387904 (0,[])) fun u3 =>
Sn (Aw (fun s_:List Int×(List (Int×Bool))=>B4 u0 u1 u2 s_.1 s_.2) 4611686018427387904 ([],u3)) fun u4 =>
some (u4,true)
def Rx (r:List Int×Bool):RV:=⟨true,[(false,[.new 3 .int r.1]),(false,[.sc (.bool r.2)])]⟩
theorem Kw {u2:Int} {u0:List (Int×Int×Int×Int)} {u3:List Int} {r:List Int×Bool} (h:Cl u2 u0 u3=some r):A0 Tryd.prog Tab 53 [.agg [ai u2,.tree T4 u0,tI u3]] (Rx r):=by
 refine A1 (by kernel_rfl) Tryd.func53 Sj (n:=44) (by kernel_rfl) (by simp) (tl:=[(0,.agg [ai u2,.tree T4 u0,tI u3])]) rfl ?_;unfold Lc;unfold Cl at h;refine Al ?_;refine Al ?_;refine Ar h (fun (u9:List (Int×Bool)) S_=>S_=⟨Ao [(1,.box (oi 0 1) 0),(4,.box (oi 1 1) 0)],Aj (Ap [(oi 0 1,.cells 31 [ai u2,.tree T4 u0,tI u3]),(oi 1 1,.cells 93 [.mp (oi 2 1)]),(oi 2 1,.map 93 .bool u9)]),2⟩) ?_ ?_
 ·intro v_ h;refine Al ?_;refine Ae ?_;refine Av h (fun t_ S_=>∃ (u4:Nat),∃ (u6:List (Int×Bool)),t_=(u4,u6)∧S_=⟨Ao [(1,.box (oi 0 1) 0),(4,.box (oi 1 1) 0),(11,.tree T4 u0),(12,an u0.length),(13,an u4)],Aj (Ap [(oi 0 1,.cells 31 [ai u2,.tree T4 u0,tI u3]),(oi 1 1,.cells 93 [.mp (oi 2 1)]),(oi 2 1,.map 93 .bool u6)]),2⟩) ⟨_,Ac [(oi 0 1,oi 1 1),(oi 1 1,oi 4 5),(oi 2 1,oi 9 4)],⟨0,[],rfl,rfl⟩⟩ ?_;rintro n_ _ _ c_ ⟨u4,u6,rfl,rfl⟩ h hn5
  (try dsimp only at h);unfold B5 at h;unfold Jb;refine Al ?_;refine Ab ?_;rcases Af h with ⟨q8,h⟩ | ⟨q8,h⟩
  ·have q8_:=of_decide_eq_true q8;refine Ah q8 ?_;refine Ai (tn_ ?_);refine wr_ ?_;refine Ar h (fun (u7:List (Int×Bool)) S_=>S_=⟨Ao [(1,.box (oi 0 1) 0),(4,.box (oi 1 1) 0),(11,.tree T4 u0),(12,an u0.length),(13,an u4)],Aj (Ap [(oi 0 1,.cells 31 [ai u2,.tree T4 u0,tI u3]),(oi 1 1,.cells 93 [.mp (oi 2 1)]),(oi 2 1,.map 93 .bool u7)]),2⟩) ?_ ?_
   ·intro v_ h;refine Ae ?_;refine Ab ?_;obtain ⟨x11,e11,h⟩:=Ad h;refine Aa 9 ?_;refine rsB 1 ?_;refine zI T4 e11 ?_;refine rsB 4 ?_;refine Aq (tn_ ?_);refine wr_ ?_;refine Ab ?_;obtain ⟨y13,h13,h⟩:=Ad h;refine Aa 13 ?_;refine rsB 1 ?_;refine zc (oI 304 10 y13.length) [nI 304 10 y13] [.agg [ai x11.1,ai x11.2.1,ai x11.2.2.1,ai x11.2.2.2]] (P9 h13) ?_;refine rsB 2 ?_;refine Aq (tn_ ?_);refine wr_ ?_;rcases Af h with ⟨q14,h⟩ | ⟨q14,h⟩
    ·have q14_:=of_decide_eq_true q14;refine Ah q14 ?_;obtain ⟨g15,h⟩:=Am h;refine Aa 16 ?_;refine rsB 2 ?_;refine Ame (oi 2 1) (oi 2 1) (.map 93 .bool (Xj u6 (u4:Int) true)) (A1u (es:=u6) (k:=(u4:Int)) (nv:=true) (by kernel_rfl) (by kernel_rfl) (by kernel_rfl) (by kernel_rfl) g15) ?_;refine Aq (bn_ (tn_ ?_));obtain rfl:=zj h;exact ⟨_,Ac [],rfl⟩
    have q14_:=of_decide_eq_false q14;refine Ag q14 ?_;refine Ai (bn_ (tn_ ?_));obtain rfl:=zj h;exact ⟨_,Ac [],rfl⟩
   rintro u7 _ rfl h
   (try dsimp only at h);obtain ⟨g16,h⟩:=Am h;refine Aa 4 ?_;refine zA g16 ?_;refine rsB 1 ?_;refine Aq (tn_ ?_);obtain rfl:=zj h;exact ⟨(u4+1,u7),_,Ac [],⟨u4+1,u7,rfl,rfl⟩,hn5⟩
  have q8_:=of_decide_eq_false q8;refine Ag q8 ?_;refine Au (te_ (te_ (be_ (tn_ ?_))));obtain rfl:=zj h;have h:=hn5
  (try dsimp only at h);obtain rfl:=zj h;exact ⟨_,Ac [],rfl⟩
 rintro u9 _ rfl h
 (try dsimp only at h);refine Al ?_;refine Hz h (fun (u8:List Int) S_=>S_=⟨Ao [(7,oI 0 1 u8.length)],Aj (Ap [(oi 0 1,.arr 3 .int u8)]),2⟩) ?_ ?_
 ·intro v_ h hk18;refine Ae ?_;refine Av h (fun t_ S_=>∃ (u1:List Int),∃ (u5:List (Int×Bool)),t_=(u1,u5)∧S_=⟨Ao [(1,.box (oi 0 1) 0),(4,.box (oi 1 1) 0),(7,oI 2 1 u1.length)],Aj (Ap [(oi 0 1,.cells 31 [ai u2,.tree T4 u0,tI u3]),(oi 1 1,.cells 93 [.mp (oi 3 1)]),(oi 2 1,.arr 3 .int u1),(oi 3 1,.map 93 .bool u5)]),2⟩) ⟨_,Ac [(oi 3 1,oi 2 1),(oi 2 1,oi 25 2)],⟨[],u9,rfl,rfl⟩⟩ ?_;rintro n_ _ _ c_ ⟨u1,u5,rfl,rfl⟩ h hn19
  (try dsimp only at h);unfold B4 at h;unfold Ji;refine Ab ?_;refine Al ?_;rcases Af h with ⟨q22,h⟩ | ⟨q22,h⟩
  ·have q22_:=of_decide_eq_true q22;refine Ah q22 ?_;refine Ai (tn_ ?_);refine wr_ ?_;refine Ae ?_;refine Ab ?_;obtain ⟨y24,h24,h⟩:=Ad h;obtain ⟨y25,h25,h⟩:=Ad h;refine Aa 12 ?_;refine rsB 3 ?_;refine zc (oI 512 8 y24.length) [nI 512 8 y24] [an u0.length] (Al0 h24) ?_;refine rsB 1 ?_;refine Cm (ai y25) [] [oI 512 8 y24.length,.fn 81 [.box (oi 1 1) 0,.box (oi 0 1) 0]] _ (caps:=[]) (args0:=[tI y24,.fn 81 [.ref [.mtree 93 .bool u5],.ref [ai u2,.tree T4 u0,tI u3]]]) trivial (Ay (Ca (e:=3) (by kernel_rfl) rfl) (Ay (by kernel_rfl) B9)) (Es h25) O6 ?_;refine rsB 1 ?_;refine Aq (tn_ ?_);refine wr_ ?_;refine Ab ?_;refine Al ?_;rcases Af h with ⟨q28,h⟩ | ⟨q28,h⟩
   ·have q28_:=of_decide_eq_true q28;refine Ah q28 ?_;refine Al ?_;refine An (tr_ (br_ (tr_ (br_ (tr_ ?_)))));obtain rfl:=zj h;have h:=hn19
    (try dsimp only at h);obtain rfl:=zj h;have h:=hk18
    (try dsimp only at h);obtain rfl:=zj h;exact Bo [.nils,.bool false] (A2 rfl (Al7 rfl) (A2 rfl zl A5))
   have q28_:=of_decide_eq_false q28;refine Ag q28 ?_;refine Ai (tn_ ?_);refine wr_ ?_;refine Ab ?_;obtain ⟨g31,h⟩:=Am h;refine Aa 17 ?_;refine rsB 2 ?_;refine Ame (oi 3 1) (oi 3 1) (.map 93 .bool (Mf u5 y25)) (A14 (t:=.bool) (es:=u5) (k:=y25) (by kernel_rfl) (by kernel_rfl) (by kernel_rfl) g31) ?_;refine Aq (tn_ ?_);refine wr_ ?_;obtain ⟨g32,h⟩:=Am h;refine Aa 22 ?_;refine rsB 3 ?_;refine rs2 (oI 2 20 ((u1++([y25])).length)) (oi 2 1) (oi 2 20) (.arr 3 .int (u1++([y25]))) (I9 (t:=.int) (t':=.int) (xs:=u1) (ys:=[y25]) (zs:=u1++([y25])) (j:=oi 2 1) (len:=u1.length) (c:=oI 41 19 1) (by kernel_rfl) (by kernel_rfl) rfl (by kernel_rfl) (Ma (e:=3) (by kernel_rfl) rfl) rfl g32) ?_;refine rsB 1 ?_;refine Aq (bn_ (tn_ ?_));obtain rfl:=zj h;exact ⟨(u1++([y25]),Mf u5 y25),_,Ac [(oi 2 1,oi 2 20)],⟨u1++([y25]),Mf u5 y25,rfl,rfl⟩,hn19⟩
  have q22_:=of_decide_eq_false q22;refine Ag q22 ?_;refine Au (te_ (te_ (be_ (tn_ ?_))));obtain rfl:=zj h;have h:=hn19
  (try dsimp only at h);obtain rfl:=zj h;exact ⟨u1,_,rfl,Ac [(oi 0 1,oi 2 1)],rfl⟩
 rintro u8 _ rfl h
 (try dsimp only at h);refine Al ?_;refine An ?_;obtain rfl:=zj h;exact Bo [oI 0 1 u8.length,.bool true] (A2 rfl (Fy (by kernel_rfl) rfl) (A2 rfl zl A5))
def Oh:AC :=
 (.seq (rg [xs1 44 43 42])
 (.seq (.cond (tm 44)
  .skip
  (.exit 0))
 (.seq (.block 1 (.seq (rg [xx 45 4 41 43,xo 46 (.i (.ld false 4 (tm 45))),xo 6 (.i (.alloc 55 [.int .i64 0,.int .i64 0,.int .i64 0,.int .i64 0])),xn (.st false 4 (tm 6) (tm 46))])
 (.seq (rg [xo 47 (.i (.ld false 3 (tm 3))),xm 48 0,xo 49 (.i (.ld false 4 (tm 6))),⟨some 50,none,qc 52 [tm 47,tm 48,tm 49] [[none,some T4,some .int],[],[none,none,none,none]]⟩,xo 51 (.i (.not (tm 50)))])
 (.cond (tm 51)
  (.seq (rg [xo 4 (qm (cb false))])
  .ret)
  .skip))))
 (rg [xa 52 43,xm 43 52]))))
def R7:AC :=
 (.seq (rg [xo 3 (.i (.box 31 (tm 1))),xo 4 (qm (cb false))])
 (.seq (.seq (rg [xm 9 0,xo 10 (qc 49 [tm 9] [[]]),xo 11 (.i (.not (tm 10))),xm 12 11,⟨some 13,some (12,false),qf 0 (tm 3)⟩,⟨some 14,some (12,false),ql (tm 13)⟩,⟨some 15,some (12,false),qc 50 [tm 14,ci 0,ci 8] [[],[],[]]⟩,⟨some 16,some (12,false),.i (.not (tm 15))⟩,xo 17 (.i (.pick (tm 12) (cb true) (tm 16))),xm 18 17,⟨some 19,some (18,false),qf 1 (tm 3)⟩,⟨some 20,some (18,false),ql (tm 19)⟩,⟨some 21,some (18,false),.i (.len (tm 20))⟩,⟨some 22,some (18,false),qc 50 [tm 21,ci 1,ci 40] [[],[],[]]⟩,⟨some 23,some (18,false),.i (.not (tm 22))⟩,xo 24 (.i (.pick (tm 18) (cb true) (tm 23))),xm 25 24,⟨some 26,some (25,false),qf 2 (tm 3)⟩,⟨some 27,some (25,false),ql (tm 26)⟩,⟨some 28,some (25,false),.i (.len (tm 27))⟩,⟨some 29,some (25,false),qb .gtr (tm 28) (ci 8)⟩,xo 30 (.i (.pick (tm 25) (cb true) (tm 29))),xm 31 30,⟨some 32,some (31,false),qf 2 (tm 3)⟩,⟨some 33,some (31,false),ql (tm 32)⟩,⟨some 34,some (31,false),qf 1 (tm 3)⟩,⟨some 35,some (31,false),ql (tm 34)⟩,⟨some 36,some (31,false),.i (.len (tm 35))⟩,⟨some 37,some (31,false),qc 51 [tm 33,tm 36] [[some .int],[]]⟩,⟨some 38,some (31,false),.i (.not (tm 37))⟩,xo 39 (.i (.pick (tm 31) (cb true) (tm 38)))])
 (.cond (tm 39)
  (.seq (rg [xo 4 (qm (cb false))])
  .ret)
  .skip))
 (.seq (.seq (rg [xf 40 1 3,xl 41 40,xn1 42 41,xo 43 (qm (ci 0))])
 (.block 0 (.loop Oh)))
 (.seq (rg [xo 54 (.i (.ld false 3 (tm 3))),⟨some 55,none,qc 53 [tm 54] [[none,some T4,some .int]]⟩,xm 53 55,xo 56 (.i (.extr 0 (tm 53))),xo 57 (.i (.extr 1 (tm 53))),xm 7 56,xm 8 57])
 (.seq (rg [xm 58 8,xm 4 58])
 .ret)))))
def Abg:List Res:=[.tmp 4]
theorem Ab2:At Tryd.prog Tryd.f28=some (R7,Abg):=by kernel_rfl
def G5 (u1:List (Int×Int×Int×Int)) (u2:Int) (u3:List Int) (a0:Int) (u0:Nat):Option (Ctl Nat (Ctl Unit Bool)) :=
 cond (decide ((u0:Int)<(u1.length:Int)))
 (Option.bind (u1[u0]?) fun x22 =>
 Option.bind (Dx u2 u1 u3 a0 x22.1 x22.2.1 x22.2.2.1 x22.2.2.2) fun y24 =>
 cond (!y24)
  (some (Ctl.out (Ctl.out false)))
  (og (u0+1<4611686018427387904) <|
  some (Ctl.next (u0+1))))
 (some (Ctl.out (Ctl.next ())))
def Hr (a0 u2:Int) (u0:List (Int×Int×Int×Int)) (u1:List Int):Option Bool :=
 Option.bind (Option.bind (Py a0) fun y4 =>
 cond (!y4)
  (some true)
  (Option.bind (Fd u2 0 8) fun y6 =>
  cond (!y6)
   (some true)
   (Option.bind (Fd (u0.length:Int) 1 40) fun y8 =>
   cond (!y8)
    (some true)
    (cond (decide (8<(u1.length:Int)))
     (some true)
     (Option.bind (Gb u1 (u0.length:Int)) fun y11 =>
     some (!y11)))))) fun u3 =>
cond u3
 (some false)
 (Sn (Aw (fun s_:Nat=>G5 u0 u2 u1 a0 s_) 4611686018427387904 0) fun _ =>
 Option.bind (Cl u2 u0 u1) fun y29 =>
 some y29.2)
def Aab (r:Bool):RV:=⟨false,[(false,[.sc (.bool r)])]⟩
set_option maxHeartbeats 1600000 in
theorem Aau {a0 u1:Int} {u0:List (Int×Int×Int×Int)} {u2:List Int} {r:Bool} (h:Hr a0 u1 u0 u2=some r):A0 Tryd.prog Tab 28 [ai a0,.agg [ai u1,.tree T4 u0,tI u2]] (Aab r):=by
 refine A1 (by kernel_rfl) Tryd.func28 Ab2 (n:=59) (by kernel_rfl) (by simp) (tl:=[(0,ai a0),(1,.agg [ai u1,.tree T4 u0,tI u2])]) rfl ?_;unfold R7;unfold Hr at h;refine Al ?_;refine Ab ?_;refine Ar h (fun (u4:Bool) S_=>S_=⟨Ao [(0,ai a0),(3,.box (oi 0 1) 0),(39,.bool u4)],Aj (Ap [(oi 0 1,.cells 31 [ai u1,.tree T4 u0,tI u2])]),2⟩) ?_ ?_
 ·intro v_ h;obtain ⟨y4,h4,h⟩:=Ad h;rcases Af h with ⟨q5,h⟩ | ⟨q5,h⟩
  ·refine Aa 34 ?_;refine rsB 1 ?_;refine zc (.bool y4) [] [ai a0] (Io h4) ?_;refine rsB 2 ?_;refine zs q5 ?_;refine zs q5 ?_;refine zs q5 ?_;refine zs q5 ?_;refine rs0 (.bool true) (zT q5) ?_;refine rsB 22 ?_;refine Aq (tn_ ?_);obtain rfl:=zj h;exact ⟨_,Ac [(oi 0 1,oi 3 1)],rfl⟩
  obtain ⟨y6,h6,h⟩:=Ad h;rcases Af h with ⟨q7,h⟩ | ⟨q7,h⟩
  ·refine Aa 34 ?_;refine rsB 1 ?_;refine zc (.bool y4) [] [ai a0] (Io h4) ?_;refine rsB 2 ?_;refine rs0 (.box (oi 3 1) 0) (zg q5) ?_;refine rsl (ai u1) (zg q5) ?_;refine Cm (.bool y6) [] [ai u1,ai 0,ai 8] _ (caps:=[]) (args0:=[ai u1,ai 0,ai 8]) (F8 (by kernel_rfl) q5) (by kernel_rfl) (De h6) El ?_;refine rs0 (.bool (!y6)) (zg q5) ?_;refine rs0 (.bool (!y6)) (zF q5) ?_;refine rsB 1 ?_;refine zs q7 ?_;refine zs q7 ?_;refine zs q7 ?_;refine zs q7 ?_;refine zs q7 ?_;refine rs0 (.bool true) (zT q7) ?_;refine rsB 15 ?_;refine Aq (tn_ ?_);obtain rfl:=zj h;exact ⟨_,Ac [(oi 0 1,oi 3 1)],rfl⟩
  obtain ⟨y8,h8,h⟩:=Ad h;rcases Af h with ⟨q9,h⟩ | ⟨q9,h⟩
  ·refine Aa 34 ?_;refine rsB 1 ?_;refine zc (.bool y4) [] [ai a0] (Io h4) ?_;refine rsB 2 ?_;refine rs0 (.box (oi 3 1) 0) (zg q5) ?_;refine rsl (ai u1) (zg q5) ?_;refine Cm (.bool y6) [] [ai u1,ai 0,ai 8] _ (caps:=[]) (args0:=[ai u1,ai 0,ai 8]) (F8 (by kernel_rfl) q5) (by kernel_rfl) (De h6) El ?_;refine rs0 (.bool (!y6)) (zg q5) ?_;refine rs0 (.bool (!y6)) (zF q5) ?_;refine rsB 1 ?_;refine rs0 (.box (oi 3 1) 1) (zg q7) ?_;refine rsl (.tree T4 u0) (zg q7) ?_;refine rs0 (an u0.length) (zg q7) ?_;refine Cm (.bool y8) [] [an u0.length,ai 1,ai 40] _ (caps:=[]) (args0:=[an u0.length,ai 1,ai 40]) (F8 (by kernel_rfl) q7) (by kernel_rfl) (De h8) El ?_;refine rs0 (.bool (!y8)) (zg q7) ?_;refine rs0 (.bool (!y8)) (zF q7) ?_;refine rsB 1 ?_;refine zs q9 ?_;refine zs q9 ?_;refine zs q9 ?_;refine zs q9 ?_;refine rs0 (.bool true) (zT q9) ?_;refine rsB 9 ?_;refine Aq (tn_ ?_);obtain rfl:=zj h;exact ⟨_,Ac [(oi 0 1,oi 3 1)],rfl⟩
  rcases Af h with ⟨q10,h⟩ | ⟨q10,h⟩
  ·have q10_:=of_decide_eq_true q10;refine Aa 34 ?_;refine rsB 1 ?_;refine zc (.bool y4) [] [ai a0] (Io h4) ?_;refine rsB 2 ?_;refine rs0 (.box (oi 3 1) 0) (zg q5) ?_;refine rsl (ai u1) (zg q5) ?_;refine Cm (.bool y6) [] [ai u1,ai 0,ai 8] _ (caps:=[]) (args0:=[ai u1,ai 0,ai 8]) (F8 (by kernel_rfl) q5) (by kernel_rfl) (De h6) El ?_;refine rs0 (.bool (!y6)) (zg q5) ?_;refine rs0 (.bool (!y6)) (zF q5) ?_;refine rsB 1 ?_;refine rs0 (.box (oi 3 1) 1) (zg q7) ?_;refine rsl (.tree T4 u0) (zg q7) ?_;refine rs0 (an u0.length) (zg q7) ?_;refine Cm (.bool y8) [] [an u0.length,ai 1,ai 40] _ (caps:=[]) (args0:=[an u0.length,ai 1,ai 40]) (F8 (by kernel_rfl) q7) (by kernel_rfl) (De h8) El ?_;refine rs0 (.bool (!y8)) (zg q7) ?_;refine rs0 (.bool (!y8)) (zF q7) ?_;refine rsB 1 ?_;refine rs0 (.box (oi 3 1) 2) (zg q9) ?_;refine rsl (tI u2) (zg q9) ?_;refine rs0 (an u2.length) (zg q9) ?_;refine rs0 (.bool (decide (8<(u2.length:Int)))) (zg q9) ?_;refine rs0 (.bool (decide (8<(u2.length:Int)))) (zF q9) ?_;refine rsB 1 ?_;refine zs q10 ?_;refine zs q10 ?_;refine zs q10 ?_;refine zs q10 ?_;refine zs q10 ?_;refine zs q10 ?_;refine zs q10 ?_;refine rs0 (.bool true) (zT q10) ?_;refine Aq (tn_ ?_);obtain rfl:=zj h;exact ⟨_,Ac [(oi 0 1,oi 3 1)],rfl⟩
  have q10_:=of_decide_eq_false q10;obtain ⟨y11,h11,h⟩:=Ad h;refine Aa 34 ?_;refine rsB 1 ?_;refine zc (.bool y4) [] [ai a0] (Io h4) ?_;refine rsB 2 ?_;refine rs0 (.box (oi 3 1) 0) (zg q5) ?_;refine rsl (ai u1) (zg q5) ?_;refine Cm (.bool y6) [] [ai u1,ai 0,ai 8] _ (caps:=[]) (args0:=[ai u1,ai 0,ai 8]) (F8 (by kernel_rfl) q5) (by kernel_rfl) (De h6) El ?_;refine rs0 (.bool (!y6)) (zg q5) ?_;refine rs0 (.bool (!y6)) (zF q5) ?_;refine rsB 1 ?_;refine rs0 (.box (oi 3 1) 1) (zg q7) ?_;refine rsl (.tree T4 u0) (zg q7) ?_;refine rs0 (an u0.length) (zg q7) ?_;refine Cm (.bool y8) [] [an u0.length,ai 1,ai 40] _ (caps:=[]) (args0:=[an u0.length,ai 1,ai 40]) (F8 (by kernel_rfl) q7) (by kernel_rfl) (De h8) El ?_;refine rs0 (.bool (!y8)) (zg q7) ?_;refine rs0 (.bool (!y8)) (zF q7) ?_;refine rsB 1 ?_;refine rs0 (.box (oi 3 1) 2) (zg q9) ?_;refine rsl (tI u2) (zg q9) ?_;refine rs0 (an u2.length) (zg q9) ?_;refine rs0 (.bool (decide (8<(u2.length:Int)))) (zg q9) ?_;refine rs0 (.bool (decide (8<(u2.length:Int)))) (zF q9) ?_;refine rsB 1 ?_;refine rs0 (.box (oi 3 1) 2) (zg q10) ?_;refine rsl (tI u2) (zg q10) ?_;refine rs0 (.box (oi 3 1) 1) (zg q10) ?_;refine rsl (.tree T4 u0) (zg q10) ?_;refine rs0 (an u0.length) (zg q10) ?_;refine Cm (.bool y11) [] [tI u2,an u0.length] _ (caps:=[]) (args0:=[tI u2,an u0.length]) (F8 (by kernel_rfl) q10) (by kernel_rfl) (S7 h11) S6 ?_;refine rs0 (.bool (!y11)) (zg q10) ?_;refine rs0 (.bool (!y11)) (zF q10) ?_;refine Aq (tn_ ?_);obtain rfl:=zj h;exact ⟨_,Ac [(oi 0 1,oi 3 1)],rfl⟩
 rintro u4 _ rfl h
 (try dsimp only at h);rcases Af h with ⟨q12,h⟩ | ⟨q12,h⟩
 ·refine Ah q12 ?_;refine Al ?_;refine An (tr_ ?_);obtain rfl:=zj h;exact Bo [.bool false] (A2 rfl zl A5)
 refine Ag q12 ?_;refine Ai (tn_ ?_);refine wr_ ?_;refine Hz h (fun (_:Unit) S_=>S_=⟨Ao [(3,.box (oi 0 1) 0)],Aj (Ap [(oi 0 1,.cells 31 [ai u1,.tree T4 u0,tI u2])]),2⟩) ?_ ?_
 ·intro v_ h hk14;refine Al ?_;refine Ae ?_;refine Av h (fun (u3:Nat) S_=>S_=⟨Ao [(0,ai a0),(3,.box (oi 0 1) 0),(41,.tree T4 u0),(42,an u0.length),(43,an u3)],Aj (Ap [(oi 0 1,.cells 31 [ai u1,.tree T4 u0,tI u2])]),2⟩) ⟨_,Ac [],rfl⟩ ?_;rintro n_ u3 _ c_ rfl h hn16
  (try dsimp only at h);unfold G5 at h;unfold Oh;refine Al ?_;refine Ab ?_;rcases Af h with ⟨q19,h⟩ | ⟨q19,h⟩
  ·have q19_:=of_decide_eq_true q19;refine Ah q19 ?_;refine Ai (tn_ ?_);refine wr_ ?_;refine Ab ?_;refine Ae ?_;refine Ab ?_;obtain ⟨x22,e22,h⟩:=Ad h;refine Aa 7 ?_;refine zI T4 e22 ?_;refine rsB 3 ?_;refine Aq (tn_ ?_);refine wr_ ?_;refine Ab ?_;obtain ⟨y24,h24,h⟩:=Ad h;refine Aa 12 ?_;refine rsB 3 ?_;refine zc (.bool y24) [] [.agg [ai u1,.tree T4 u0,tI u2],ai a0,.agg [ai x22.1,ai x22.2.1,ai x22.2.2.1,ai x22.2.2.2]] (Ul h24) ?_;refine rsB 1 ?_;refine Aq (tn_ ?_);refine wr_ ?_;rcases Af h with ⟨q25,h⟩ | ⟨q25,h⟩
   ·refine Ah q25 ?_;refine Al ?_;refine An (br_ (tr_ (tr_ (br_ (tr_ ?_)))));obtain rfl:=zj h;have h:=hn16
    (try dsimp only at h);obtain rfl:=zj h;have h:=hk14
    (try dsimp only at h);obtain rfl:=zj h;exact Bo [.bool false] (A2 rfl zl A5)
   refine Ag q25 ?_;refine Ai (bn_ (tn_ ?_));refine wr_ ?_;obtain ⟨g27,h⟩:=Am h;refine Aa 14 ?_;refine zA g27 ?_;refine rsB 1 ?_;refine Aq (tn_ ?_);obtain rfl:=zj h;exact ⟨u3+1,_,Ac [],rfl,hn16⟩
  have q19_:=of_decide_eq_false q19;refine Ag q19 ?_;refine Au (te_ (te_ (be_ (tn_ ?_))));obtain rfl:=zj h;have h:=hn16
  (try dsimp only at h);obtain rfl:=zj h;exact ⟨(),_,rfl,Ac [],rfl⟩
 rintro _ _ rfl h
 (try dsimp only at h);refine Ab ?_;obtain ⟨y29,h29,h⟩:=Ad h;refine Aa 9 ?_;refine rsB 1 ?_;refine zc (.tup [oI 880 3 y29.1.length,.bool y29.2]) [nI 880 3 y29.1] [.agg [ai u1,.tree T4 u0,tI u2]] (Kw h29) ?_;refine rsB 5 ?_;refine Aq (tn_ ?_);refine wr_ ?_;refine Al ?_;refine An ?_;obtain rfl:=zj h;exact Bo [.bool y29.2] (A2 rfl zl A5)
end

section
open Go.RowKit Go.Deep
set_option maxRecDepth 4000
def Ki:AC :=
 (.seq (rg [xs1 11 10 9])
 (.seq (.cond (tm 11)
  .skip
  (.exit 0))
 (.seq (.block 1 (.seq (rg [xm 12 10,xx 13 4 8 10,xo 14 (.i (.ld false 4 (tm 13))),xo 5 (.i (.alloc 55 [.int .i64 0,.int .i64 0,.int .i64 0,.int .i64 0])),xm 4 12,xn (.st false 4 (tm 5) (tm 14))])
 (.seq (rg [xf 15 0 5,xl 16 15,xo 17 (qb .eql (tm 16) (ci 5))])
 (.cond (tm 17)
  (rg [xm 18 3,xm 19 4,xo 20 (.mkS 3 .int [tm 19]),xo 21 (.append 3 .int 8 (tm 18) (tm 20)),xm 3 21])
  .skip))))
 (rg [xa 22 10,xm 10 22]))))
def Mr:AC :=
 (.seq (rg [xo 1 (.i (.box 31 (tm 0))),xo 2 (qm (.cst .nils))])
 (.seq (rg [xo 6 (.mkS 3 .int []),xm 3 6])
 (.seq (.seq (rg [xf 7 1 1,xl 8 7,xn1 9 8,xo 10 (qm (ci 0))])
 (.block 0 (.loop Ki)))
 (.seq (rg [xm 23 3,xm 2 23])
 .ret))))
def Vi:List Res:=[.tmp 2]
theorem Vl:At Tryd.prog Tryd.f54=some (Mr,Vi):=by kernel_rfl
def Kc (u2:List (Int×Int×Int×Int)) (u0:Nat) (u1:List Int):Option (Ctl (Nat×List Int) (List Int)) :=
 cond (decide ((u0:Int)<(u2.length:Int)))
 (Option.bind (Option.bind (u2[u0]?) fun x11 =>
  cond (x11.1==5)
   (og (u1.length+1<=1073741824∧(u1.length+1)*8<=140737488355328) <|
   some (u1++([(u0:Int)])))
   (some u1)) fun u3 =>
 og (u0+1<4611686018427387904) <|
 some (Ctl.next (u0+1,u3)))
 (some (Ctl.out u1))
def Dz (u2:Int) (u0:List (Int×Int×Int×Int)) (u3:List Int):Option (List Int) :=
 Option.bind (Aw (fun s_:Nat×List Int=>Kc u0 s_.1 s_.2) 4611686018427387904 (0,[])) fun u1 =>
some u1
def Uo (r:List Int):RV:=⟨false,[(false,[.new 3 .int r])]⟩
theorem Lv {u5:Int} {u2:List (Int×Int×Int×Int)} {u6 r:List Int} (h:Dz u5 u2 u6=some r):A0 Tryd.prog Tab 54 [.agg [ai u5,.tree T4 u2,tI u6]] (Uo r):=by
 refine A1 (by kernel_rfl) Tryd.func54 Vl (n:=24) (by kernel_rfl) (by simp) (tl:=[(0,.agg [ai u5,.tree T4 u2,tI u6])]) rfl ?_;unfold Mr;unfold Dz at h;refine Al ?_;refine Al ?_;refine Ar h (fun (u4:List Int) S_=>S_=⟨Ao [(3,oI 0 1 u4.length)],Aj (Ap [(oi 0 1,.arr 3 .int u4)]),2⟩) ?_ ?_
 ·intro v_ h;refine Al ?_;refine Ae ?_;refine Av h (fun t_ S_=>∃ (u0:Nat),∃ (u1:List Int),t_=(u0,u1)∧S_=⟨Ao [(3,oI 0 1 u1.length),(8,.tree T4 u2),(9,an u2.length),(10,an u0)],Aj (Ap [(oi 0 1,.arr 3 .int u1)]),2⟩) ⟨_,Ac [(oi 0 1,oi 6 3)],⟨0,[],rfl,rfl⟩⟩ ?_;rintro n_ _ _ c_ ⟨u0,u1,rfl,rfl⟩ h hn5
  (try dsimp only at h);unfold Kc at h;unfold Ki;refine Al ?_;refine Ab ?_;rcases Af h with ⟨q8,h⟩ | ⟨q8,h⟩
  ·have q8_:=of_decide_eq_true q8;refine Ah q8 ?_;refine Ai (tn_ ?_);refine wr_ ?_;refine Ar h (fun (u3:List Int) S_=>S_=⟨Ao [(3,oI 0 1 u3.length),(8,.tree T4 u2),(9,an u2.length),(10,an u0)],Aj (Ap [(oi 0 1,.arr 3 .int u3)]),2⟩) ?_ ?_
   ·intro v_ h;refine Ae ?_;refine Ab ?_;obtain ⟨x11,e11,h⟩:=Ad h;refine Aa 9 ?_;refine rsB 1 ?_;refine zI T4 e11 ?_;refine rsB 4 ?_;refine Aq (tn_ ?_);refine wr_ ?_;refine Al ?_;rcases Af h with ⟨q13,h⟩ | ⟨q13,h⟩
    ·refine Ah q13 ?_;obtain ⟨g14,h⟩:=Am h;refine Aa 17 ?_;refine rsB 3 ?_;refine rs2 (oI 0 15 ((u1++([(u0:Int)])).length)) (oi 0 1) (oi 0 15) (.arr 3 .int (u1++([(u0:Int)]))) (I9 (t:=.int) (t':=.int) (xs:=u1) (ys:=[(u0:Int)]) (zs:=u1++([(u0:Int)])) (j:=oi 0 1) (len:=u1.length) (c:=oI 20 14 1) (by kernel_rfl) (by kernel_rfl) rfl (by kernel_rfl) (Ma (e:=3) (by kernel_rfl) rfl) rfl g14) ?_;refine rsB 1 ?_;refine Aq (bn_ (tn_ ?_));obtain rfl:=zj h;exact ⟨_,Ac [(oi 0 1,oi 0 15)],rfl⟩
    refine Ag q13 ?_;refine Ai (bn_ (tn_ ?_));obtain rfl:=zj h;exact ⟨_,Ac [],rfl⟩
   rintro u3 _ rfl h
   (try dsimp only at h);obtain ⟨g15,h⟩:=Am h;refine Aa 4 ?_;refine zA g15 ?_;refine rsB 1 ?_;refine Aq (tn_ ?_);obtain rfl:=zj h;exact ⟨(u0+1,u3),_,Ac [],⟨u0+1,u3,rfl,rfl⟩,hn5⟩
  have q8_:=of_decide_eq_false q8;refine Ag q8 ?_;refine Au (te_ (te_ (be_ (tn_ ?_))));obtain rfl:=zj h;have h:=hn5
  (try dsimp only at h);obtain rfl:=zj h;exact ⟨_,Ac [],rfl⟩
 rintro u4 _ rfl h
 (try dsimp only at h);refine Al ?_;refine An ?_;obtain rfl:=zj h;exact Bo [oI 0 1 u4.length] (A2 rfl (Fy (by kernel_rfl) rfl) A5)
def Pz:AC :=
 (.seq (rg [xs1 10 9 8])
 (.seq (.cond (tm 10)
  .skip
  (.exit 0))
 (.seq (.block 1 (.seq (rg [xm 11 9,xx 12 4 7 9,xo 13 (.i (.ld false 4 (tm 12))),xo 5 (.i (.alloc 55 [.int .i64 0,.int .i64 0,.int .i64 0,.int .i64 0])),xm 4 11,xn (.st false 4 (tm 5) (tm 13))])
 (.seq (rg [xf 14 0 5,xl 15 14,xo 16 (qb .eql (tm 15) (ci 5))])
 (.cond (tm 16)
  (rg [xm 17 3,xm 18 4,xo 19 (.mkS 3 .int [tm 18]),xo 20 (.append 3 .int 8 (tm 17) (tm 19)),xm 3 20])
  .skip))))
 (rg [xa 21 9,xm 9 21]))))
def Vb:AC :=
 (.seq (rg [xo 1 (.i (.box 31 (tm 0))),xo 2 (qm (.cst .nils))])
 (.seq (rg [xo 3 (qm (.cst .nils))])
 (.seq (.seq (rg [xf 6 1 1,xl 7 6,xn1 8 7,xo 9 (qm (ci 0))])
 (.block 0 (.loop Pz)))
 (.seq (rg [xm 22 3,xm 2 22])
 .ret))))
def Adz:List Res:=[.tmp 2]
theorem Adl:At Tryd.prog Tryd.f20=some (Vb,Adz):=by kernel_rfl
theorem Acf:Be Tryd.prog 20=true:=by kernel_rfl
def Ie (u2:List (Int×Int×Int×Int)) (u0:Nat) (u1:List Int):Option (Ctl (Nat×List Int) (List Int)) :=
 cond (decide ((u0:Int)<(u2.length:Int)))
 (Option.bind (Option.bind (u2[u0]?) fun x11 =>
  cond (x11.1==5)
   (og (u1.length+1<=1073741824∧(u1.length+1)*8<=140737488355328) <|
   some (u1++([(u0:Int)])))
   (some u1)) fun u3 =>
 og (u0+1<4611686018427387904) <|
 some (Ctl.next (u0+1,u3)))
 (some (Ctl.out u1))
def Do (u2:Int) (u0:List (Int×Int×Int×Int)) (u3:List Int):Option (List Int) :=
 Option.bind (Aw (fun s_:Nat×List Int=>Ie u0 s_.1 s_.2) 4611686018427387904 (0,[])) fun u1 =>
some u1
def Abo (r:List Int):RV:=⟨false,[(false,[.new 3 .int r])]⟩
theorem Js {u5:Int} {u2:List (Int×Int×Int×Int)} {u6 r:List Int} (h:Do u5 u2 u6=some r):A0 Tryd.prog Tab 20 [.agg [ai u5,.tree T4 u2,tI u6]] (Abo r):=by
 refine A1 (by kernel_rfl) Tryd.func20 Adl (n:=23) (by kernel_rfl) (by simp) (tl:=[(0,.agg [ai u5,.tree T4 u2,tI u6])]) rfl ?_;unfold Vb;unfold Do at h;refine Al ?_;refine Al ?_;refine Ar h (fun (u4:List Int) S_=>S_=⟨Ao [(3,oI 0 1 u4.length)],Aj (Ap [(oi 0 1,.arr 3 .int u4)]),2⟩) ?_ ?_
 ·intro v_ h;refine Al ?_;refine Ae ?_;refine Av h (fun t_ S_=>∃ (u0:Nat),∃ (u1:List Int),t_=(u0,u1)∧S_=⟨Ao [(3,oI 0 1 u1.length),(7,.tree T4 u2),(8,an u2.length),(9,an u0)],Aj (Ap [(oi 0 1,.arr 3 .int u1)]),2⟩) ⟨_,(My 3 3 .int rfl (by kernel_rfl)).trans (Ac [(oi 0 1,oi 3 8)]),⟨0,[],rfl,rfl⟩⟩ ?_;rintro n_ _ _ c_ ⟨u0,u1,rfl,rfl⟩ h hn5
  (try dsimp only at h);unfold Ie at h;unfold Pz;refine Al ?_;refine Ab ?_;rcases Af h with ⟨q8,h⟩ | ⟨q8,h⟩
  ·have q8_:=of_decide_eq_true q8;refine Ah q8 ?_;refine Ai (tn_ ?_);refine wr_ ?_;refine Ar h (fun (u3:List Int) S_=>S_=⟨Ao [(3,oI 0 1 u3.length),(7,.tree T4 u2),(8,an u2.length),(9,an u0)],Aj (Ap [(oi 0 1,.arr 3 .int u3)]),2⟩) ?_ ?_
   ·intro v_ h;refine Ae ?_;refine Ab ?_;obtain ⟨x11,e11,h⟩:=Ad h;refine Aa 9 ?_;refine rsB 1 ?_;refine zI T4 e11 ?_;refine rsB 4 ?_;refine Aq (tn_ ?_);refine wr_ ?_;refine Al ?_;rcases Af h with ⟨q13,h⟩ | ⟨q13,h⟩
    ·refine Ah q13 ?_;obtain ⟨g14,h⟩:=Am h;refine Aa 17 ?_;refine rsB 3 ?_;refine rs2 (oI 0 15 ((u1++([(u0:Int)])).length)) (oi 0 1) (oi 0 15) (.arr 3 .int (u1++([(u0:Int)]))) (I9 (t:=.int) (t':=.int) (xs:=u1) (ys:=[(u0:Int)]) (zs:=u1++([(u0:Int)])) (j:=oi 0 1) (len:=u1.length) (c:=oI 19 14 1) (by kernel_rfl) (by kernel_rfl) rfl (by kernel_rfl) (Ma (e:=3) (by kernel_rfl) rfl) rfl g14) ?_;refine rsB 1 ?_;refine Aq (bn_ (tn_ ?_));obtain rfl:=zj h;exact ⟨_,Ac [(oi 0 1,oi 0 15)],rfl⟩
    refine Ag q13 ?_;refine Ai (bn_ (tn_ ?_));obtain rfl:=zj h;exact ⟨_,Ac [],rfl⟩
   rintro u3 _ rfl h
   (try dsimp only at h);obtain ⟨g15,h⟩:=Am h;refine Aa 4 ?_;refine zA g15 ?_;refine rsB 1 ?_;refine Aq (tn_ ?_);obtain rfl:=zj h;exact ⟨(u0+1,u3),_,Ac [],⟨u0+1,u3,rfl,rfl⟩,hn5⟩
  have q8_:=of_decide_eq_false q8;refine Ag q8 ?_;refine Au (te_ (te_ (be_ (tn_ ?_))));obtain rfl:=zj h;have h:=hn5
  (try dsimp only at h);obtain rfl:=zj h;exact ⟨_,Ac [],rfl⟩
 rintro u4 _ rfl h
 (try dsimp only at h);refine Al ?_;refine An ?_;obtain rfl:=zj h;exact Bo [oI 0 1 u4.length] (A2 rfl (Fy (by kernel_rfl) rfl) A5)
end

section
open Go.RowKit Go.Deep
set_option maxRecDepth 4000
def Ln:AC :=
 (.seq (rg [xs1 118 117 116])
 (.seq (.cond (tm 118)
  .skip
  (.exit 6))
 (.seq (.block 7 (.seq (rg [xx 119 1 115 117,xl 120 119,xm 23 120])
 (rg [xm 121 21,xm 122 10,xf 123 1 4,xl 124 123,xm 125 23,xx 126 4 124 125,xf 127 1 126,xl 128 127,xx 129 1 122 128,xl 130 129,xo 131 (.mkS 3 .int [tm 130]),xo 132 (.append 3 .int 8 (tm 121) (tm 131)),xm 21 132])))
 (rg [xa 133 117,xm 117 133]))))
def Lm:AC :=
 (.seq (rg [xs1 73 72 71])
 (.seq (.cond (tm 73)
  .skip
  (.exit 4))
 (.seq (.block 5 (.seq (rg [xx 74 1 70 72,xl 75 74,xm 19 75])
 (.seq (rg [xf 76 1 4,xl 77 76,xm 78 19,xx 79 4 77 78,xo 80 (.i (.ld false 4 (tm 79))),xo 20 (.i (.alloc 55 [.int .i64 0,.int .i64 0,.int .i64 0,.int .i64 0])),xn (.st false 4 (tm 20) (tm 80))])
 (.seq (rg [xf 81 0 20,xl 82 81,xo 83 (qb .eql (tm 82) (ci 3))])
 (.cond (tm 83)
  (.region [xm 84 10,xm 85 19,xm 86 1,xm 87 10,xf 88 1 20,xl 89 88,xx 90 1 87 89,xl 91 90,xm 92 10,xf 93 2 20,xl 94 93,xx 95 1 92 94,xl 96 95,xo 97 (qb .add (tm 91) (tm 96)),xo 98 (qc 84 [tm 86,tm 97] [[],[]]),xx 99 1 84 85,xn (qs (tm 99) (tm 98))] true [])
  (.region [xm 100 10,xm 101 19,xm 102 1,xf 103 3 20,xl 104 103,xm 105 10,xf 106 1 20,xl 107 106,xx 108 1 105 107,xl 109 108,xo 110 (qb .mul (tm 104) (tm 109)),xo 111 (qc 84 [tm 102,tm 110] [[],[]]),xx 112 1 100 101,xn (qs (tm 112) (tm 111))] true []))))))
 (rg [xa 113 72,xm 72 113]))))
def Ll:AC :=
 (.seq (rg [xs1 49 48 47])
 (.seq (.cond (tm 49)
  .skip
  (.exit 2))
 (.seq (.block 3 (.seq (rg [xm 50 48,xx 51 4 46 48,xo 52 (.i (.ld false 4 (tm 51))),xo 15 (.i (.alloc 55 [.int .i64 0,.int .i64 0,.int .i64 0,.int .i64 0])),xm 14 50,xn (.st false 4 (tm 15) (tm 52))])
 (.seq (rg [xf 53 0 15,xl 54 53,xo 55 (qb .eql (tm 54) (ci 1))])
 (.cond (tm 55)
  (rg [xm 56 10,xm 57 14,xm 58 3,xf 59 3 15,xl 60 59,xx 61 1 58 60,xl 62 61,xx 63 1 56 57,xn (qs (tm 63) (tm 62))])
  .skip))))
 (rg [xa 64 48,xm 48 64]))))
def L6:AC :=
 (.seq (rg [xs1 33 32 31])
 (.seq (.cond (tm 33)
  .skip
  (.exit 0))
 (.seq (.block 1 (.seq (rg [xm 34 32,xx 35 1 30 32,xl 36 35,xm 12 34,xm 13 36])
 (rg [xm 37 10,xm 38 13,xm 39 2,xm 40 12,xx 41 1 39 40,xl 42 41,xx 43 1 37 38,xn (qs (tm 43) (tm 42))])))
 (rg [xa 44 32,xm 32 44]))))
def Oq:AC :=
 (.seq (rg [xo 4 (.i (.box 31 (tm 0))),xo 8 (qm (.cst .nils)),xo 9 (qm (.cst .nils))])
 (.seq (rg [xf 24 1 4,xl 25 24,xn1 26 25,xo 27 (qc 57 [tm 26] [[]]),xm 10 27])
 (.seq (rg [xo 28 (.i (.ld false 3 (tm 4))),⟨some 29,none,qc 54 [tm 28] [[none,some T4,some .int]]⟩,xm 11 29])
 (.seq (.seq (rg [xm 30 11,xn1 31 30,xo 32 (qm (ci 0))])
 (.block 0 (.loop L6)))
 (.seq (.seq (rg [xf 45 1 4,xl 46 45,xn1 47 46,xo 48 (qm (ci 0))])
 (.block 2 (.loop Ll)))
 (.seq (rg [xo 66 (.i (.ld false 3 (tm 4))),⟨some 67,none,qc 53 [tm 66] [[none,some T4,some .int]]⟩,xm 65 67,xo 68 (.i (.extr 0 (tm 65))),xo 69 (.i (.extr 1 (tm 65))),xm 16 68,xm 17 69])
 (.seq (.seq (rg [xm 70 16,xn1 71 70,xo 72 (qm (ci 0))])
 (.block 4 (.loop Lm)))
 (.seq (rg [xo 114 (.mkS 3 .int []),xm 21 114])
 (.seq (.seq (rg [xm 115 11,xn1 116 115,xo 117 (qm (ci 0))])
 (.block 6 (.loop Ln)))
 (.seq (rg [xm 134 21,xm 135 10,xf 136 2 4,xl 137 136,xo 138 (qc 68 [tm 135,tm 137] [[some .int],[some .int]]),xm 8 134,xm 9 138])
 .ret))))))))))
def Xl:List Res:=[.tmp 8,.tmp 9]
theorem Xn:At Tryd.prog Tryd.f55=some (Oq,Xl):=by kernel_rfl
theorem Nl:Be Tryd.prog 55=true:=by kernel_rfl
def Ia (y5 a2:List Int) (u0:Nat) (u1:List Int):Option (Ctl (Nat×List Int) (List Int)) :=
 cond (decide ((u0:Int)<(y5.length:Int)))
 (Option.bind (y5[u0]?) fun x14 =>
 Option.bind (a2[u0]?) fun x15 =>
 Option.bind (E2 u1 x14) fun x16 =>
 og (u0+1<4611686018427387904) <|
 some (Ctl.next (u0+1,u1.set x14.toNat x15)))
 (some (Ctl.out u1))
def H9 (u2:List (Int×Int×Int×Int)) (a3:List Int) (u0:Nat) (u1:List Int):Option (Ctl (Nat×List Int) (List Int)) :=
 cond (decide ((u0:Int)<(u2.length:Int)))
 (Option.bind (Option.bind (u2[u0]?) fun x26 =>
  cond (x26.1==1)
   (Option.bind (E2 a3 x26.2.2.2) fun x29 =>
   Option.bind (u1[u0]?) fun x30 =>
   some (u1.set u0 x29))
   (some u1)) fun u3 =>
 og (u0+1<4611686018427387904) <|
 some (Ctl.next (u0+1,u3)))
 (some (Ctl.out u1))
def Cp (y33:List Int×Bool) (u2:List (Int×Int×Int×Int)) (a1:Int) (u1:Nat) (u0:List Int):Option (Ctl (Nat×List Int) (List Int)) :=
 cond (decide ((u1:Int)<(y33.1.length:Int)))
 (Option.bind (Option.bind (y33.1[u1]?) fun x42 =>
  Option.bind (E2 u2 x42) fun x44 =>
  cond (x44.1==3)
   (Option.bind (E2 u0 x44.2.1) fun x47 =>
   Option.bind (E2 u0 x44.2.2.1) fun x48 =>
   Option.bind (La a1 (wI (x47+x48))) fun y49 =>
   Option.bind (E2 u0 x42) fun x50 =>
   some (u0.set x42.toNat y49))
   (Option.bind (E2 u0 x44.2.1) fun x51 =>
   Option.bind (La a1 (wI (x44.2.2.2*x51))) fun y52 =>
   Option.bind (E2 u0 x42) fun x53 =>
   some (u0.set x42.toNat y52))) fun u3 =>
 og (u1+1<4611686018427387904) <|
 some (Ctl.next (u1+1,u3)))
 (some (Ctl.out u0))
def Id (y5:List Int) (u2:List (Int×Int×Int×Int)) (u3:List Int) (u0:Nat) (u1:List Int):Option (Ctl (Nat×List Int) (List Int)) :=
 cond (decide ((u0:Int)<(y5.length:Int)))
 (Option.bind (y5[u0]?) fun x64 =>
 Option.bind (E2 u2 x64) fun x65 =>
 Option.bind (E2 u3 x65.2.1) fun x66 =>
 og (u1.length+1<=1073741824∧(u1.length+1)*8<=140737488355328) <|
 og (u0+1<4611686018427387904) <|
 some (Ctl.next (u0+1,u1++([x66]))))
 (some (Ctl.out u1))
def Di (u2:Int) (u0:List (Int×Int×Int×Int)) (u1:List Int) (a1:Int) (a2 a3:List Int):Option (List Int×List Int) :=
 Option.bind (Ed (u0.length:Int)) fun y3 =>
Option.bind (Dz u2 u0 u1) fun y5 =>
Option.bind (Aw (fun s_:Nat×List Int=>Ia y5 a2 s_.1 s_.2) 4611686018427387904 (0,y3)) fun u4 =>
Option.bind (Aw (fun s_:Nat×List Int=>H9 u0 a3 s_.1 s_.2) 4611686018427387904 (0,u4)) fun u5 =>
Option.bind (Cl u2 u0 u1) fun y33 =>
Option.bind (Aw (fun s_:Nat×List Int=>Cp y33 u0 a1 s_.1 s_.2) 4611686018427387904 (0,u5)) fun u3 =>
Option.bind (Aw (fun s_:Nat×List Int=>Id y5 u0 u3 s_.1 s_.2) 4611686018427387904 (0,[])) fun u6 =>
Option.bind (Fb u3 u1) fun y70 =>
some (u6,y70)
def Wg (r:List Int×List Int):RV:=⟨true,[(false,[.new 3 .int r.1]),(false,[.new 3 .int r.2])]⟩
set_option maxHeartbeats 1600000 in
theorem Nc {u3:Int} {u1:List (Int×Int×Int×Int)} {u2:List Int} {a1:Int} {a2 a3:List Int} {r:List Int×List Int} (h:Di u3 u1 u2 a1 a2 a3=some r):A0 Tryd.prog Tab 55 [.agg [ai u3,.tree T4 u1,tI u2],ai a1,tI a2,tI a3] (Wg r):=by
 refine A1 (by kernel_rfl) Tryd.func55 Xn (n:=139) (by kernel_rfl) (by simp) (tl:=[(0,.agg [ai u3,.tree T4 u1,tI u2]),(1,ai a1),(2,tI a2),(3,tI a3)]) rfl ?_;unfold Oq;unfold Di at h;refine Al ?_;refine Ab ?_;obtain ⟨y3,h3,h⟩:=Ad h;refine Aa 9 ?_;refine rsB 3 ?_;refine zc (oI 432 7 y3.length) [nI 432 7 y3] [an u1.length] (Is h3) ?_;refine rsB 1 ?_;refine Aq (tn_ ?_);refine wr_ ?_;refine Ab ?_;obtain ⟨y5,h5,h⟩:=Ad h;refine Aa 12 ?_;refine rsB 1 ?_;refine zc (oI 464 10 y5.length) [nI 464 10 y5] [.agg [ai u3,.tree T4 u1,tI u2]] (Lv h5) ?_;refine rsB 1 ?_;refine Aq (tn_ ?_);refine wr_ ?_;refine Ar h (fun (ue:List Int) S_=>S_=⟨Ao [(1,ai a1),(3,tI a3),(4,.box (oi 0 1) 0),(10,oI 1 1 ue.length),(11,oI 2 1 y5.length)],Aj (Ap [(oi 0 1,.cells 31 [ai u3,.tree T4 u1,tI u2]),(oi 1 1,.arr 3 .int ue),(oi 2 1,.arr 3 .int y5)]),2⟩) ?_ ?_
 ·intro v_ h;refine Al ?_;refine Ae ?_;refine Av h (fun t_ S_=>∃ (ua:Nat),∃ (u4:List Int),t_=(ua,u4)∧S_=⟨Ao [(1,ai a1),(2,tI a2),(3,tI a3),(4,.box (oi 0 1) 0),(10,oI 1 1 u4.length),(11,oI 2 1 y5.length),(30,oI 2 1 y5.length),(31,an y5.length),(32,an ua)],Aj (Ap [(oi 0 1,.cells 31 [ai u3,.tree T4 u1,tI u2]),(oi 1 1,.arr 3 .int u4),(oi 2 1,.arr 3 .int y5)]),2⟩) ⟨_,Ac [(oi 0 1,oi 4 1),(oi 1 1,oi 432 7),(oi 2 1,oi 464 10)],⟨0,y3,rfl,rfl⟩⟩ ?_;rintro n_ _ _ c_ ⟨ua,u4,rfl,rfl⟩ h hn8
  (try dsimp only at h);unfold Ia at h;unfold L6;refine Al ?_;refine Ab ?_;rcases Af h with ⟨q11,h⟩ | ⟨q11,h⟩
  ·have q11_:=of_decide_eq_true q11;refine Ah q11 ?_;refine Ai (tn_ ?_);refine wr_ ?_;refine Ab ?_;refine Ae ?_;refine Ab ?_;obtain ⟨x14,e14,h⟩:=Ad h;refine Aa 8 ?_;refine rsB 1 ?_;refine zO (oi 2 1) .int y5.length (As e14) ?_;refine zE (oi 2 1) e14 ?_;refine rsB 2 ?_;refine Aq (tn_ ?_);refine wr_ ?_;obtain ⟨x15,e15,h⟩:=Ad h;obtain ⟨x16,f16,h⟩:=Ad h;obtain ⟨p16,b16,e16⟩:=Ba f16;refine Aa 16 ?_;refine rsB 4 ?_;refine zI .int e15 ?_;refine rsB 1 ?_;refine rs0 (.elt (oi 1 1) x14.toNat 0) (zo (t:=.int) (o:=oi 1 1) (len:=u4.length) (k:=.i64) (m:=x14) p16 (As e16)) ?_;refine zS (oi 1 1) (x15) e16 ?_;refine Aq (bn_ (tn_ ?_));refine wr_ ?_;obtain ⟨g17,h⟩:=Am h;refine Aa 18 ?_;refine zA g17 ?_;refine rsB 1 ?_;refine Aq (tn_ ?_);obtain rfl:=zj h;exact ⟨(ua+1,u4.set x14.toNat x15),_,(A8 10 (oI 1 1 u4.length) (oI 1 1 ((u4.set x14.toNat x15).length)) (by kernel_rfl) (congrArg (fun z_=>((oI 1 1 z_):AV)) (((rfl:u4.length=u4.length).trans List.length_set.symm):u4.length=(u4.set x14.toNat x15).length))).trans (Ac []),⟨ua+1,u4.set x14.toNat x15,rfl,rfl⟩,hn8⟩
  have q11_:=of_decide_eq_false q11;refine Ag q11 ?_;refine Au (te_ (te_ (be_ (tn_ ?_))));obtain rfl:=zj h;have h:=hn8
  (try dsimp only at h);obtain rfl:=zj h;exact ⟨_,Ac [],rfl⟩
 rintro ue _ rfl h
 (try dsimp only at h);refine Ar h (fun (uf:List Int) S_=>S_=⟨Ao [(1,ai a1),(4,.box (oi 0 1) 0),(10,oI 1 1 uf.length),(11,oI 2 1 y5.length)],Aj (Ap [(oi 0 1,.cells 31 [ai u3,.tree T4 u1,tI u2]),(oi 1 1,.arr 3 .int uf),(oi 2 1,.arr 3 .int y5)]),2⟩) ?_ ?_
 ·intro v_ h;refine Al ?_;refine Ae ?_;refine Av h (fun t_ S_=>∃ (u8:Nat),∃ (u5:List Int),t_=(u8,u5)∧S_=⟨Ao [(1,ai a1),(3,tI a3),(4,.box (oi 0 1) 0),(10,oI 1 1 u5.length),(11,oI 2 1 y5.length),(46,.tree T4 u1),(47,an u1.length),(48,an u8)],Aj (Ap [(oi 0 1,.cells 31 [ai u3,.tree T4 u1,tI u2]),(oi 1 1,.arr 3 .int u5),(oi 2 1,.arr 3 .int y5)]),2⟩) ⟨_,Ac [],⟨0,ue,rfl,rfl⟩⟩ ?_;rintro n_ _ _ c_ ⟨u8,u5,rfl,rfl⟩ h hn20
  (try dsimp only at h);unfold H9 at h;unfold Ll;refine Al ?_;refine Ab ?_;rcases Af h with ⟨q23,h⟩ | ⟨q23,h⟩
  ·have q23_:=of_decide_eq_true q23;refine Ah q23 ?_;refine Ai (tn_ ?_);refine wr_ ?_;refine Ar h (fun (ub:List Int) S_=>S_=⟨Ao [(1,ai a1),(3,tI a3),(4,.box (oi 0 1) 0),(10,oI 1 1 ub.length),(11,oI 2 1 y5.length),(46,.tree T4 u1),(47,an u1.length),(48,an u8)],Aj (Ap [(oi 0 1,.cells 31 [ai u3,.tree T4 u1,tI u2]),(oi 1 1,.arr 3 .int ub),(oi 2 1,.arr 3 .int y5)]),2⟩) ?_ ?_
   ·intro v_ h;refine Ae ?_;refine Ab ?_;obtain ⟨x26,e26,h⟩:=Ad h;refine Aa 9 ?_;refine rsB 1 ?_;refine zI T4 e26 ?_;refine rsB 4 ?_;refine Aq (tn_ ?_);refine wr_ ?_;refine Al ?_;rcases Af h with ⟨q28,h⟩ | ⟨q28,h⟩
    ·refine Ah q28 ?_;obtain ⟨x29,f29,h⟩:=Ad h;obtain ⟨p29,b29,e29⟩:=Ba f29;obtain ⟨x30,e30,h⟩:=Ad h;refine Aa 21 ?_;refine rsB 5 ?_;refine rs0 (.telt none .int x29 0) (zi (t:=.int) (xs:=a3) (k:=.i64) (m:=x26.2.2.2) p29 e29) ?_;refine rsB 1 ?_;refine zO (oi 1 1) .int u5.length (As e30) ?_;refine zS (oi 1 1) (x29) e30 ?_;refine Aq (bn_ (tn_ ?_));obtain rfl:=zj h;exact ⟨_,(A8 10 (oI 1 1 u5.length) (oI 1 1 ((u5.set u8 x29).length)) (by kernel_rfl) (congrArg (fun z_=>((oI 1 1 z_):AV)) (((rfl:u5.length=u5.length).trans List.length_set.symm):u5.length=(u5.set u8 x29).length))).trans (Ac []),rfl⟩
    refine Ag q28 ?_;refine Ai (bn_ (tn_ ?_));obtain rfl:=zj h;exact ⟨_,Ac [],rfl⟩
   rintro ub _ rfl h
   (try dsimp only at h);obtain ⟨g31,h⟩:=Am h;refine Aa 4 ?_;refine zA g31 ?_;refine rsB 1 ?_;refine Aq (tn_ ?_);obtain rfl:=zj h;exact ⟨(u8+1,ub),_,Ac [],⟨u8+1,ub,rfl,rfl⟩,hn20⟩
  have q23_:=of_decide_eq_false q23;refine Ag q23 ?_;refine Au (te_ (te_ (be_ (tn_ ?_))));obtain rfl:=zj h;have h:=hn20
  (try dsimp only at h);obtain rfl:=zj h;exact ⟨_,Ac [],rfl⟩
 rintro uf _ rfl h
 (try dsimp only at h);refine Ab ?_;obtain ⟨y33,h33,h⟩:=Ad h;refine Aa 9 ?_;refine rsB 1 ?_;refine zc (.tup [oI 1072 3 y33.1.length,.bool y33.2]) [nI 1072 3 y33.1] [.agg [ai u3,.tree T4 u1,tI u2]] (Kw h33) ?_;refine rsB 5 ?_;refine Aq (tn_ ?_);refine wr_ ?_;refine Ar h (fun (u7:List Int) S_=>S_=⟨Ao [(4,.box (oi 0 1) 0),(10,oI 1 1 u7.length),(11,oI 2 1 y5.length)],Aj (Ap [(oi 0 1,.cells 31 [ai u3,.tree T4 u1,tI u2]),(oi 1 1,.arr 3 .int u7),(oi 2 1,.arr 3 .int y5)]),2⟩) ?_ ?_
 ·intro v_ h;refine Al ?_;refine Ae ?_;refine Av h (fun t_ S_=>∃ (u9:Nat),∃ (u0:List Int),t_=(u9,u0)∧S_=⟨Ao [(1,ai a1),(4,.box (oi 0 1) 0),(10,oI 1 1 u0.length),(11,oI 2 1 y5.length),(70,oI 3 1 y33.1.length),(71,an y33.1.length),(72,an u9)],Aj (Ap [(oi 0 1,.cells 31 [ai u3,.tree T4 u1,tI u2]),(oi 1 1,.arr 3 .int u0),(oi 2 1,.arr 3 .int y5),(oi 3 1,.arr 3 .int y33.1)]),2⟩) ⟨_,Ac [(oi 3 1,oi 1072 3)],⟨0,uf,rfl,rfl⟩⟩ ?_;rintro n_ _ _ c_ ⟨u9,u0,rfl,rfl⟩ h hn36
  (try dsimp only at h);unfold Cp at h;unfold Lm;refine Al ?_;refine Ab ?_;rcases Af h with ⟨q39,h⟩ | ⟨q39,h⟩
  ·have q39_:=of_decide_eq_true q39;refine Ah q39 ?_;refine Ai (tn_ ?_);refine wr_ ?_;refine Ar h (fun (uc:List Int) S_=>S_=⟨Ao [(1,ai a1),(4,.box (oi 0 1) 0),(10,oI 1 1 uc.length),(11,oI 2 1 y5.length),(70,oI 3 1 y33.1.length),(71,an y33.1.length),(72,an u9)],Aj (Ap [(oi 0 1,.cells 31 [ai u3,.tree T4 u1,tI u2]),(oi 1 1,.arr 3 .int uc),(oi 2 1,.arr 3 .int y5),(oi 3 1,.arr 3 .int y33.1)]),2⟩) ?_ ?_
   ·intro v_ h;refine Ae ?_;refine Ab ?_;obtain ⟨x42,e42,h⟩:=Ad h;refine Aa 6 ?_;refine zO (oi 3 1) .int y33.1.length (As e42) ?_;refine zE (oi 3 1) e42 ?_;refine rsB 1 ?_;refine Aq (tn_ ?_);refine wr_ ?_;refine Ab ?_;obtain ⟨x44,f44,h⟩:=Ad h;obtain ⟨p44,b44,e44⟩:=Ba f44;refine Aa 13 ?_;refine rsB 3 ?_;refine rs0 (.telt none T4 x44 0) (zi (t:=T4) (xs:=u1) (k:=.i64) (m:=x42) p44 e44) ?_;refine rsB 3 ?_;refine Aq (tn_ ?_);refine wr_ ?_;refine Al ?_;rcases Af h with ⟨q46,h⟩ | ⟨q46,h⟩
    ·refine Ah q46 ?_;obtain ⟨x47,f47,h⟩:=Ad h;obtain ⟨p47,b47,e47⟩:=Ba f47;obtain ⟨x48,f48,h⟩:=Ad h;obtain ⟨p48,b48,e48⟩:=Ba f48;obtain ⟨y49,h49,h⟩:=Ad h;obtain ⟨x50,f50,h⟩:=Ad h;obtain ⟨p50,b50,e50⟩:=Ba f50;refine Ax 33 ?_;refine dz0 (oI 1 1 u0.length) ?_;refine dz0 (ai x42) ?_;refine dz0 (ai a1) ?_;refine dz0 (oI 1 1 u0.length) ?_;refine dz0 (.box (oi 20 11) 1) ?_;refine dzl (ai x44.2.1) ?_;refine ds0 (.elt (oi 1 1) x44.2.1.toNat 0) (zo (t:=.int) (o:=oi 1 1) (len:=u0.length) (k:=.i64) (m:=x44.2.1) p47 (As e47)) ?_;refine dzE (oi 1 1) e47 ?_;refine dz0 (oI 1 1 u0.length) ?_;refine dz0 (.box (oi 20 11) 2) ?_;refine dzl (ai x44.2.2.1) ?_;refine ds0 (.elt (oi 1 1) x44.2.2.1.toNat 0) (zo (t:=.int) (o:=oi 1 1) (len:=u0.length) (k:=.i64) (m:=x44.2.2.1) p48 (As e48)) ?_;refine dzE (oi 1 1) e48 ?_;refine dz0 (ai (wI (x47+x48))) ?_;refine dzc (ai y49) [] [ai a1,ai (wI (x47+x48))] (W1 h49) ?_;refine ds0 (.elt (oi 1 1) x42.toNat 0) (zo (t:=.int) (o:=oi 1 1) (len:=u0.length) (k:=.i64) (m:=x42) p50 (As e50)) ?_;refine dzS (oi 1 1) (y49) e50 ?_;refine F5 (Bc (by kernel_rfl)) (bn_ (tn_ ?_));obtain rfl:=zj h;exact ⟨_,(A8 10 (oI 1 1 u0.length) (oI 1 1 ((u0.set x42.toNat y49).length)) (by kernel_rfl) (congrArg (fun z_=>((oI 1 1 z_):AV)) (((rfl:u0.length=u0.length).trans List.length_set.symm):u0.length=(u0.set x42.toNat y49).length))).trans (Ac []),rfl⟩
    refine Ag q46 ?_;obtain ⟨x51,f51,h⟩:=Ad h;obtain ⟨p51,b51,e51⟩:=Ba f51;obtain ⟨y52,h52,h⟩:=Ad h;obtain ⟨x53,f53,h⟩:=Ad h;obtain ⟨p53,b53,e53⟩:=Ba f53;refine Ax 30 ?_;refine dz0 (oI 1 1 u0.length) ?_;refine dz0 (ai x42) ?_;refine dz0 (ai a1) ?_;refine dz0 (.box (oi 20 11) 3) ?_;refine dzl (ai x44.2.2.2) ?_;refine dz0 (oI 1 1 u0.length) ?_;refine dz0 (.box (oi 20 11) 1) ?_;refine dzl (ai x44.2.1) ?_;refine ds0 (.elt (oi 1 1) x44.2.1.toNat 0) (zo (t:=.int) (o:=oi 1 1) (len:=u0.length) (k:=.i64) (m:=x44.2.1) p51 (As e51)) ?_;refine dzE (oi 1 1) e51 ?_;refine dz0 (ai (wI (x44.2.2.2*x51))) ?_;refine dzc (ai y52) [] [ai a1,ai (wI (x44.2.2.2*x51))] (W1 h52) ?_;refine ds0 (.elt (oi 1 1) x42.toNat 0) (zo (t:=.int) (o:=oi 1 1) (len:=u0.length) (k:=.i64) (m:=x42) p53 (As e53)) ?_;refine dzS (oi 1 1) (y52) e53 ?_;refine F5 (Bc (by kernel_rfl)) (bn_ (tn_ ?_));obtain rfl:=zj h;exact ⟨_,(A8 10 (oI 1 1 u0.length) (oI 1 1 ((u0.set x42.toNat y52).length)) (by kernel_rfl) (congrArg (fun z_=>((oI 1 1 z_):AV)) (((rfl:u0.length=u0.length).trans List.length_set.symm):u0.length=(u0.set x42.toNat y52).length))).trans (Ac []),rfl⟩
   rintro uc _ rfl h
   (try dsimp only at h);obtain ⟨g54,h⟩:=Am h;refine Aa 4 ?_;refine zA g54 ?_;refine rsB 1 ?_;refine Aq (tn_ ?_);obtain rfl:=zj h;exact ⟨(u9+1,uc),_,Ac [],⟨u9+1,uc,rfl,rfl⟩,hn36⟩
  have q39_:=of_decide_eq_false q39;refine Ag q39 ?_;refine Au (te_ (te_ (be_ (tn_ ?_))));obtain rfl:=zj h;have h:=hn36
  (try dsimp only at h);obtain rfl:=zj h;exact ⟨_,Ac [],rfl⟩
 rintro u7 _ rfl h
 (try dsimp only at h);refine Al ?_;refine Ar h (fun (ug:List Int) S_=>S_=⟨Ao [(4,.box (oi 0 1) 0),(10,oI 1 1 u7.length),(21,oI 2 1 ug.length)],Aj (Ap [(oi 0 1,.cells 31 [ai u3,.tree T4 u1,tI u2]),(oi 1 1,.arr 3 .int u7),(oi 2 1,.arr 3 .int ug)]),2⟩) ?_ ?_
 ·intro v_ h;refine Al ?_;refine Ae ?_;refine Av h (fun t_ S_=>∃ (ud:Nat),∃ (u6:List Int),t_=(ud,u6)∧S_=⟨Ao [(4,.box (oi 0 1) 0),(10,oI 1 1 u7.length),(21,oI 2 1 u6.length),(115,oI 3 1 y5.length),(116,an y5.length),(117,an ud)],Aj (Ap [(oi 0 1,.cells 31 [ai u3,.tree T4 u1,tI u2]),(oi 1 1,.arr 3 .int u7),(oi 2 1,.arr 3 .int u6),(oi 3 1,.arr 3 .int y5)]),2⟩) ⟨_,Ac [(oi 2 1,oi 114 2),(oi 3 1,oi 2 1)],⟨0,[],rfl,rfl⟩⟩ ?_;rintro n_ _ _ c_ ⟨ud,u6,rfl,rfl⟩ h hn58
  (try dsimp only at h);unfold Id at h;unfold Ln;refine Al ?_;refine Ab ?_;rcases Af h with ⟨q61,h⟩ | ⟨q61,h⟩
  ·have q61_:=of_decide_eq_true q61;refine Ah q61 ?_;refine Ai (tn_ ?_);refine wr_ ?_;refine Ab ?_;refine Ae ?_;refine Ab ?_;obtain ⟨x64,e64,h⟩:=Ad h;refine Aa 6 ?_;refine zO (oi 3 1) .int y5.length (As e64) ?_;refine zE (oi 3 1) e64 ?_;refine rsB 1 ?_;refine Aq (tn_ ?_);refine wr_ ?_;obtain ⟨x65,f65,h⟩:=Ad h;obtain ⟨p65,b65,e65⟩:=Ba f65;obtain ⟨x66,f66,h⟩:=Ad h;obtain ⟨p66,b66,e66⟩:=Ba f66;obtain ⟨g67,h⟩:=Am h;refine Aa 19 ?_;refine rsB 5 ?_;refine rs0 (.telt none T4 x65 0) (zi (t:=T4) (xs:=u1) (k:=.i64) (m:=x64) p65 e65) ?_;refine rsB 2 ?_;refine rs0 (.elt (oi 1 1) x65.2.1.toNat 0) (zo (t:=.int) (o:=oi 1 1) (len:=u7.length) (k:=.i64) (m:=x65.2.1) p66 (As e66)) ?_;refine zE (oi 1 1) e66 ?_;refine rsB 1 ?_;refine rs2 (oI 2 17 ((u6++([x66])).length)) (oi 2 1) (oi 2 17) (.arr 3 .int (u6++([x66]))) (I9 (t:=.int) (t':=.int) (xs:=u6) (ys:=[x66]) (zs:=u6++([x66])) (j:=oi 2 1) (len:=u6.length) (c:=oI 131 16 1) (by kernel_rfl) (by kernel_rfl) rfl (by kernel_rfl) (Ma (e:=3) (by kernel_rfl) rfl) rfl g67) ?_;refine rsB 1 ?_;refine Aq (bn_ (tn_ ?_));refine wr_ ?_;obtain ⟨g68,h⟩:=Am h;refine Aa 21 ?_;refine zA g68 ?_;refine rsB 1 ?_;refine Aq (tn_ ?_);obtain rfl:=zj h;exact ⟨(ud+1,u6++([x66])),_,Ac [(oi 2 1,oi 2 17)],⟨ud+1,u6++([x66]),rfl,rfl⟩,hn58⟩
  have q61_:=of_decide_eq_false q61;refine Ag q61 ?_;refine Au (te_ (te_ (be_ (tn_ ?_))));obtain rfl:=zj h;have h:=hn58
  (try dsimp only at h);obtain rfl:=zj h;exact ⟨_,Ac [],rfl⟩
 rintro ug _ rfl h
 (try dsimp only at h);refine Ab ?_;obtain ⟨y70,h70,h⟩:=Ad h;refine Aa 9 ?_;refine rsB 4 ?_;refine Cm (oI 2208 6 y70.length) [nI 2208 6 y70] [oI 1 1 u7.length,tI u2] _ (caps:=[]) (args0:=[tI u7,tI u2]) trivial (Ay (Ca (e:=3) (by kernel_rfl) rfl) (Ay (by kernel_rfl) B9)) (Vq h70) V2 ?_;refine rsB 2 ?_;refine Aq (tn_ ?_);refine wr_ ?_;refine An ?_;obtain rfl:=zj h;exact Bo [oI 2 1 ug.length,oI 2208 6 y70.length] (A2 rfl (Fy (by kernel_rfl) rfl) (A2 rfl (Fy (by kernel_rfl) rfl) A5))
def Tc:AC :=
 (.seq (rg [xs1 108 107 106])
 (.seq (.cond (tm 108)
  .skip
  (.exit 6))
 (.seq (.block 7 (.seq (rg [xx 109 1 105 107,xl 110 109,xm 20 110])
 (rg [xm 111 18,xm 112 10,xf 113 1 5,xl 114 113,xm 115 20,xx 116 4 114 115,xf 117 1 116,xl 118 117,xx 119 1 112 118,xl 120 119,xo 121 (.mkS 3 .int [tm 120]),xo 122 (.append 3 .int 8 (tm 111) (tm 121)),xm 18 122])))
 (rg [xa 123 107,xm 107 123]))))
def Tq:AC :=
 (.seq (rg [xs1 65 64 63])
 (.seq (.cond (tm 65)
  .skip
  (.exit 4))
 (.seq (.block 5 (.seq (rg [xx 66 1 62 64,xl 67 66,xm 16 67])
 (.seq (rg [xf 68 1 5,xl 69 68,xm 70 16,xx 71 4 69 70,xo 72 (.i (.ld false 4 (tm 71))),xo 17 (.i (.alloc 55 [.int .i64 0,.int .i64 0,.int .i64 0,.int .i64 0])),xn (.st false 4 (tm 17) (tm 72))])
 (.seq (rg [xf 73 0 17,xl 74 73,xo 75 (qb .eql (tm 74) (ci 3))])
 (.cond (tm 75)
  (.region [xm 76 10,xm 77 16,xm 78 0,xm 79 10,xf 80 1 17,xl 81 80,xx 82 1 79 81,xl 83 82,xm 84 10,xf 85 2 17,xl 86 85,xx 87 1 84 86,xl 88 87,xo 89 (qc 70 [tm 78,tm 83,tm 88] [[],[],[]]),xx 90 1 76 77,xn (qs (tm 90) (tm 89))] true [])
  (.region [xm 91 10,xm 92 16,xm 93 0,xf 94 3 17,xl 95 94,xm 96 10,xf 97 1 17,xl 98 97,xx 99 1 96 98,xl 100 99,xo 101 (qc 48 [tm 93,tm 95,tm 100] [[],[],[]]),xx 102 1 91 92,xn (qs (tm 102) (tm 101))] true []))))))
 (rg [xa 103 64,xm 64 103]))))
def Te:AC :=
 (.seq (rg [xs1 49 48 47])
 (.seq (.cond (tm 49)
  .skip
  (.exit 2))
 (.seq (.block 3 (.seq (rg [xm 50 48,xx 51 1 46 48,xl 52 51,xm 13 50,xm 14 52])
 (rg [xm 53 10,xm 54 14,xm 55 2,xm 56 13,xx 57 1 55 56,xl 58 57,xx 59 1 53 54,xn (qs (tm 59) (tm 58))])))
 (rg [xa 60 48,xm 48 60]))))
def Sw:AC :=
 (.seq (rg [xs1 29 28 27])
 (.seq (.cond (tm 29)
  .skip
  (.exit 0))
 (.seq (.block 1 (.seq (rg [xm 30 28,xx 31 4 26 28,xo 32 (.i (.ld false 4 (tm 31))),xo 12 (.i (.alloc 55 [.int .i64 0,.int .i64 0,.int .i64 0,.int .i64 0])),xm 11 30,xn (.st false 4 (tm 12) (tm 32))])
 (.seq (rg [xf 33 0 12,xl 34 33,xo 35 (qb .eql (tm 34) (ci 1))])
 (.cond (tm 35)
  (rg [xm 36 10,xm 37 11,xm 38 3,xf 39 3 12,xl 40 39,xx 41 1 38 40,xl 42 41,xx 43 1 36 37,xn (qs (tm 43) (tm 42))])
  .skip))))
 (rg [xa 44 28,xm 28 44]))))
def Xq:AC :=
 (.seq (rg [xo 5 (.i (.box 31 (tm 1))),xo 8 (qm (.cst .nils)),xo 9 (qm (.cst .nils))])
 (.seq (rg [xf 21 1 5,xl 22 21,xn1 23 22,xo 24 (.make 3 .int 8 (tm 23) (tm 23)),xm 10 24])
 (.seq (.seq (rg [xf 25 1 5,xl 26 25,xn1 27 26,xo 28 (qm (ci 0))])
 (.block 0 (.loop Sw)))
 (.seq (.seq (rg [xo 45 (.i (.ld false 3 (tm 5))),⟨some 46,none,qc 20 [tm 45] [[none,some T4,some .int]]⟩,xn1 47 46,xo 48 (qm (ci 0))])
 (.block 2 (.loop Te)))
 (.seq (.seq (rg [xo 61 (.i (.ld false 3 (tm 5))),⟨some 62,none,qc 38 [tm 61] [[none,some T4,some .int]]⟩,xn1 63 62,xo 64 (qm (ci 0))])
 (.block 4 (.loop Tq)))
 (.seq (rg [xo 18 (qm (.cst .nils))])
 (.seq (.seq (rg [xo 104 (.i (.ld false 3 (tm 5))),⟨some 105,none,qc 20 [tm 104] [[none,some T4,some .int]]⟩,xn1 106 105,xo 107 (qm (ci 0))])
 (.block 6 (.loop Tc)))
 (.seq (rg [xm 124 18,xf 125 2 5,xl 126 125,xm 127 10,xo 128 (qc 71 [tm 126,tm 127] [[some .int],[some .int]]),xm 8 124,xm 9 128])
 .ret))))))))
def Ajk:List Res:=[.tmp 8,.tmp 9]
theorem Ajg:At Tryd.prog Tryd.f39=some (Xq,Ajk):=by kernel_rfl
theorem Wk:Be Tryd.prog 39=true:=by kernel_rfl
def Hb (u2:List (Int×Int×Int×Int)) (a3:List Int) (u0:Nat) (u1:List Int):Option (Ctl (Nat×List Int) (List Int)) :=
 cond (decide ((u0:Int)<(u2.length:Int)))
 (Option.bind (Option.bind (u2[u0]?) fun x12 =>
  cond (x12.1==1)
   (Option.bind (E2 a3 x12.2.2.2) fun x15 =>
   Option.bind (u1[u0]?) fun x16 =>
   some (u1.set u0 x15))
   (some u1)) fun u3 =>
 og (u0+1<4611686018427387904) <|
 some (Ctl.next (u0+1,u3)))
 (some (Ctl.out u1))
def G9 (y20 a2:List Int) (u0:Nat) (u1:List Int):Option (Ctl (Nat×List Int) (List Int)) :=
 cond (decide ((u0:Int)<(y20.length:Int)))
 (Option.bind (y20[u0]?) fun x27 =>
 Option.bind (a2[u0]?) fun x28 =>
 Option.bind (E2 u1 x27) fun x29 =>
 og (u0+1<4611686018427387904) <|
 some (Ctl.next (u0+1,u1.set x27.toNat x28)))
 (some (Ctl.out u1))
def Fi (y33:List Int) (u2:List (Int×Int×Int×Int)) (a0:Int) (u1:Nat) (u0:List Int):Option (Ctl (Nat×List Int) (List Int)) :=
 cond (decide ((u1:Int)<(y33.length:Int)))
 (Option.bind (Option.bind (y33[u1]?) fun x40 =>
  Option.bind (E2 u2 x40) fun x42 =>
  cond (x42.1==3)
   (Option.bind (E2 u0 x42.2.1) fun x45 =>
   Option.bind (E2 u0 x42.2.2.1) fun x46 =>
   Option.bind (Lw a0 x45 x46) fun y47 =>
   Option.bind (E2 u0 x40) fun x48 =>
   some (u0.set x40.toNat y47))
   (Option.bind (E2 u0 x42.2.1) fun x49 =>
   Option.bind (Gr a0 x42.2.2.2 x49) fun y50 =>
   Option.bind (E2 u0 x40) fun x51 =>
   some (u0.set x40.toNat y50))) fun u3 =>
 og (u1+1<4611686018427387904) <|
 some (Ctl.next (u1+1,u3)))
 (some (Ctl.out u0))
def Hc (y56:List Int) (u2:List (Int×Int×Int×Int)) (u3:List Int) (u0:Nat) (u1:List Int):Option (Ctl (Nat×List Int) (List Int)) :=
 cond (decide ((u0:Int)<(y56.length:Int)))
 (Option.bind (y56[u0]?) fun x63 =>
 Option.bind (E2 u2 x63) fun x64 =>
 Option.bind (E2 u3 x64.2.1) fun x65 =>
 og (u1.length+1<=1073741824∧(u1.length+1)*8<=140737488355328) <|
 og (u0+1<4611686018427387904) <|
 some (Ctl.next (u0+1,u1++([x65]))))
 (some (Ctl.out u1))
def Iq (a0 u2:Int) (u0:List (Int×Int×Int×Int)) (u1 a2 a3:List Int):Option (List Int×List Int) :=
 og (0<=(u0.length:Int)∧(u0.length:Int)<=(u0.length:Int)∧(u0.length:Int)<=1073741824∧(8:Int)*(u0.length:Int)<=140737488355328) <|
Option.bind (Aw (fun s_:Nat×List Int=>Hb u0 a3 s_.1 s_.2) 4611686018427387904 (0,List.replicate u0.length (0:Int))) fun u4 =>
Option.bind (Option.bind (Do u2 u0 u1) fun y20 =>
 Aw (fun s_:Nat×List Int=>G9 y20 a2 s_.1 s_.2) 4611686018427387904 (0,u4)) fun u5 =>
Option.bind (Option.bind (Hs u2 u0 u1) fun y33 =>
 Aw (fun s_:Nat×List Int=>Fi y33 u0 a0 s_.1 s_.2) 4611686018427387904 (0,u5)) fun u3 =>
Option.bind (Option.bind (Do u2 u0 u1) fun y56 =>
 Aw (fun s_:Nat×List Int=>Hc y56 u0 u3 s_.1 s_.2) 4611686018427387904 (0,[])) fun u6 =>
Option.bind (Ke u1 u3) fun y69 =>
some (u6,y69)
def Ahb (r:List Int×List Int):RV:=⟨true,[(false,[.new 3 .int r.1]),(false,[.new 3 .int r.2])]⟩
set_option maxHeartbeats 1600000 in
theorem Wt {a0 u3:Int} {u0:List (Int×Int×Int×Int)} {u2 a2 a3:List Int} {r:List Int×List Int} (h:Iq a0 u3 u0 u2 a2 a3=some r):A0 Tryd.prog Tab 39 [ai a0,.agg [ai u3,.tree T4 u0,tI u2],tI a2,tI a3] (Ahb r):=by
 refine A1 (by kernel_rfl) Tryd.func39 Ajg (n:=129) (by kernel_rfl) (by simp) (tl:=[(0,ai a0),(1,.agg [ai u3,.tree T4 u0,tI u2]),(2,tI a2),(3,tI a3)]) rfl ?_;unfold Xq;unfold Iq at h;refine Al ?_;refine Ab ?_;obtain ⟨g3,h⟩:=Am h;refine Aa 9 ?_;refine rsB 3 ?_;refine rs1 (oI 24 7 u0.length) (oi 24 7) (.arr 3 .int (List.replicate u0.length (0:Int))) (Lu (t:=.int) (k:=.i64) (k':=.i64) (m:=(u0.length:Int)) (m':=(u0.length:Int)) (by kernel_rfl) (by kernel_rfl) g3 rfl) ?_;refine rsB 1 ?_;refine Aq (tn_ ?_);refine wr_ ?_;refine Ar h (fun (ue:List Int) S_=>S_=⟨Ao [(0,ai a0),(2,tI a2),(5,.box (oi 0 1) 0),(10,oI 1 1 ue.length)],Aj (Ap [(oi 0 1,.cells 31 [ai u3,.tree T4 u0,tI u2]),(oi 1 1,.arr 3 .int ue)]),2⟩) ?_ ?_
 ·intro v_ h;refine Al ?_;refine Ae ?_;refine Av h (fun t_ S_=>∃ (u8:Nat),∃ (u5:List Int),t_=(u8,u5)∧S_=⟨Ao [(0,ai a0),(2,tI a2),(3,tI a3),(5,.box (oi 0 1) 0),(10,oI 1 1 u5.length),(26,.tree T4 u0),(27,an u0.length),(28,an u8)],Aj (Ap [(oi 0 1,.cells 31 [ai u3,.tree T4 u0,tI u2]),(oi 1 1,.arr 3 .int u5)]),2⟩) ⟨_,(A8 10 (oI 24 7 u0.length) (oI 24 7 ((List.replicate u0.length (0:Int)).length)) (by kernel_rfl) (congrArg (fun z_=>((oI 24 7 z_):AV)) (List.length_replicate.symm:u0.length=(List.replicate u0.length (0:Int)).length))).trans (Ac [(oi 0 1,oi 5 1),(oi 1 1,oi 24 7)]),⟨0,List.replicate u0.length (0:Int),rfl,rfl⟩⟩ ?_;rintro n_ _ _ c_ ⟨u8,u5,rfl,rfl⟩ h hn6
  (try dsimp only at h);unfold Hb at h;unfold Sw;refine Al ?_;refine Ab ?_;rcases Af h with ⟨q9,h⟩ | ⟨q9,h⟩
  ·have q9_:=of_decide_eq_true q9;refine Ah q9 ?_;refine Ai (tn_ ?_);refine wr_ ?_;refine Ar h (fun (ua:List Int) S_=>S_=⟨Ao [(0,ai a0),(2,tI a2),(3,tI a3),(5,.box (oi 0 1) 0),(10,oI 1 1 ua.length),(26,.tree T4 u0),(27,an u0.length),(28,an u8)],Aj (Ap [(oi 0 1,.cells 31 [ai u3,.tree T4 u0,tI u2]),(oi 1 1,.arr 3 .int ua)]),2⟩) ?_ ?_
   ·intro v_ h;refine Ae ?_;refine Ab ?_;obtain ⟨x12,e12,h⟩:=Ad h;refine Aa 9 ?_;refine rsB 1 ?_;refine zI T4 e12 ?_;refine rsB 4 ?_;refine Aq (tn_ ?_);refine wr_ ?_;refine Al ?_;rcases Af h with ⟨q14,h⟩ | ⟨q14,h⟩
    ·refine Ah q14 ?_;obtain ⟨x15,f15,h⟩:=Ad h;obtain ⟨p15,b15,e15⟩:=Ba f15;obtain ⟨x16,e16,h⟩:=Ad h;refine Aa 21 ?_;refine rsB 5 ?_;refine rs0 (.telt none .int x15 0) (zi (t:=.int) (xs:=a3) (k:=.i64) (m:=x12.2.2.2) p15 e15) ?_;refine rsB 1 ?_;refine zO (oi 1 1) .int u5.length (As e16) ?_;refine zS (oi 1 1) (x15) e16 ?_;refine Aq (bn_ (tn_ ?_));obtain rfl:=zj h;exact ⟨_,(A8 10 (oI 1 1 u5.length) (oI 1 1 ((u5.set u8 x15).length)) (by kernel_rfl) (congrArg (fun z_=>((oI 1 1 z_):AV)) (((rfl:u5.length=u5.length).trans List.length_set.symm):u5.length=(u5.set u8 x15).length))).trans (Ac []),rfl⟩
    refine Ag q14 ?_;refine Ai (bn_ (tn_ ?_));obtain rfl:=zj h;exact ⟨_,Ac [],rfl⟩
   rintro ua _ rfl h
   (try dsimp only at h);obtain ⟨g17,h⟩:=Am h;refine Aa 4 ?_;refine zA g17 ?_;refine rsB 1 ?_;refine Aq (tn_ ?_);obtain rfl:=zj h;exact ⟨(u8+1,ua),_,Ac [],⟨u8+1,ua,rfl,rfl⟩,hn6⟩
  have q9_:=of_decide_eq_false q9;refine Ag q9 ?_;refine Au (te_ (te_ (be_ (tn_ ?_))));obtain rfl:=zj h;have h:=hn6
  (try dsimp only at h);obtain rfl:=zj h;exact ⟨_,Ac [],rfl⟩
 rintro ue _ rfl h
 (try dsimp only at h);refine Ar h (fun (uf:List Int) S_=>S_=⟨Ao [(0,ai a0),(5,.box (oi 0 1) 0),(10,oI 1 1 uf.length)],Aj (Ap [(oi 0 1,.cells 31 [ai u3,.tree T4 u0,tI u2]),(oi 1 1,.arr 3 .int uf)]),2⟩) ?_ ?_
 ·intro v_ h;refine Ab ?_;obtain ⟨y20,h20,h⟩:=Ad h;refine Aa 6 ?_;refine rsB 1 ?_;refine zc (oI 736 3 y20.length) [nI 736 3 y20] [.agg [ai u3,.tree T4 u0,tI u2]] (Js h20) ?_;refine rsB 2 ?_;refine Aq (tn_ ?_);refine wr_ ?_;refine Ae ?_;refine Av h (fun t_ S_=>∃ (ub:Nat),∃ (u4:List Int),t_=(ub,u4)∧S_=⟨Ao [(0,ai a0),(2,tI a2),(5,.box (oi 0 1) 0),(10,oI 1 1 u4.length),(46,oI 2 1 y20.length),(47,an y20.length),(48,an ub)],Aj (Ap [(oi 0 1,.cells 31 [ai u3,.tree T4 u0,tI u2]),(oi 1 1,.arr 3 .int u4),(oi 2 1,.arr 3 .int y20)]),2⟩) ⟨_,Ac [(oi 2 1,oi 736 3)],⟨0,ue,rfl,rfl⟩⟩ ?_;rintro n_ _ _ c_ ⟨ub,u4,rfl,rfl⟩ h hn21
  (try dsimp only at h);unfold G9 at h;unfold Te;refine Al ?_;refine Ab ?_;rcases Af h with ⟨q24,h⟩ | ⟨q24,h⟩
  ·have q24_:=of_decide_eq_true q24;refine Ah q24 ?_;refine Ai (tn_ ?_);refine wr_ ?_;refine Ab ?_;refine Ae ?_;refine Ab ?_;obtain ⟨x27,e27,h⟩:=Ad h;refine Aa 8 ?_;refine rsB 1 ?_;refine zO (oi 2 1) .int y20.length (As e27) ?_;refine zE (oi 2 1) e27 ?_;refine rsB 2 ?_;refine Aq (tn_ ?_);refine wr_ ?_;obtain ⟨x28,e28,h⟩:=Ad h;obtain ⟨x29,f29,h⟩:=Ad h;obtain ⟨p29,b29,e29⟩:=Ba f29;refine Aa 16 ?_;refine rsB 4 ?_;refine zI .int e28 ?_;refine rsB 1 ?_;refine rs0 (.elt (oi 1 1) x27.toNat 0) (zo (t:=.int) (o:=oi 1 1) (len:=u4.length) (k:=.i64) (m:=x27) p29 (As e29)) ?_;refine zS (oi 1 1) (x28) e29 ?_;refine Aq (bn_ (tn_ ?_));refine wr_ ?_;obtain ⟨g30,h⟩:=Am h;refine Aa 18 ?_;refine zA g30 ?_;refine rsB 1 ?_;refine Aq (tn_ ?_);obtain rfl:=zj h;exact ⟨(ub+1,u4.set x27.toNat x28),_,(A8 10 (oI 1 1 u4.length) (oI 1 1 ((u4.set x27.toNat x28).length)) (by kernel_rfl) (congrArg (fun z_=>((oI 1 1 z_):AV)) (((rfl:u4.length=u4.length).trans List.length_set.symm):u4.length=(u4.set x27.toNat x28).length))).trans (Ac []),⟨ub+1,u4.set x27.toNat x28,rfl,rfl⟩,hn21⟩
  have q24_:=of_decide_eq_false q24;refine Ag q24 ?_;refine Au (te_ (te_ (be_ (tn_ ?_))));obtain rfl:=zj h;have h:=hn21
  (try dsimp only at h);obtain rfl:=zj h;exact ⟨_,Ac [],rfl⟩
 rintro uf _ rfl h
 (try dsimp only at h);refine Ar h (fun (u7:List Int) S_=>S_=⟨Ao [(5,.box (oi 0 1) 0),(10,oI 1 1 u7.length)],Aj (Ap [(oi 0 1,.cells 31 [ai u3,.tree T4 u0,tI u2]),(oi 1 1,.arr 3 .int u7)]),2⟩) ?_ ?_
 ·intro v_ h;refine Ab ?_;obtain ⟨y33,h33,h⟩:=Ad h;refine Aa 6 ?_;refine rsB 1 ?_;refine zc (oI 992 3 y33.length) [nI 992 3 y33] [.agg [ai u3,.tree T4 u0,tI u2]] (U5 h33) ?_;refine rsB 2 ?_;refine Aq (tn_ ?_);refine wr_ ?_;refine Ae ?_;refine Av h (fun t_ S_=>∃ (u9:Nat),∃ (u1:List Int),t_=(u9,u1)∧S_=⟨Ao [(0,ai a0),(5,.box (oi 0 1) 0),(10,oI 1 1 u1.length),(62,oI 2 1 y33.length),(63,an y33.length),(64,an u9)],Aj (Ap [(oi 0 1,.cells 31 [ai u3,.tree T4 u0,tI u2]),(oi 1 1,.arr 3 .int u1),(oi 2 1,.arr 3 .int y33)]),2⟩) ⟨_,Ac [(oi 2 1,oi 992 3)],⟨0,uf,rfl,rfl⟩⟩ ?_;rintro n_ _ _ c_ ⟨u9,u1,rfl,rfl⟩ h hn34
  (try dsimp only at h);unfold Fi at h;unfold Tq;refine Al ?_;refine Ab ?_;rcases Af h with ⟨q37,h⟩ | ⟨q37,h⟩
  ·have q37_:=of_decide_eq_true q37;refine Ah q37 ?_;refine Ai (tn_ ?_);refine wr_ ?_;refine Ar h (fun (uc:List Int) S_=>S_=⟨Ao [(0,ai a0),(5,.box (oi 0 1) 0),(10,oI 1 1 uc.length),(62,oI 2 1 y33.length),(63,an y33.length),(64,an u9)],Aj (Ap [(oi 0 1,.cells 31 [ai u3,.tree T4 u0,tI u2]),(oi 1 1,.arr 3 .int uc),(oi 2 1,.arr 3 .int y33)]),2⟩) ?_ ?_
   ·intro v_ h;refine Ae ?_;refine Ab ?_;obtain ⟨x40,e40,h⟩:=Ad h;refine Aa 6 ?_;refine zO (oi 2 1) .int y33.length (As e40) ?_;refine zE (oi 2 1) e40 ?_;refine rsB 1 ?_;refine Aq (tn_ ?_);refine wr_ ?_;refine Ab ?_;obtain ⟨x42,f42,h⟩:=Ad h;obtain ⟨p42,b42,e42⟩:=Ba f42;refine Aa 13 ?_;refine rsB 3 ?_;refine rs0 (.telt none T4 x42 0) (zi (t:=T4) (xs:=u0) (k:=.i64) (m:=x40) p42 e42) ?_;refine rsB 3 ?_;refine Aq (tn_ ?_);refine wr_ ?_;refine Al ?_;rcases Af h with ⟨q44,h⟩ | ⟨q44,h⟩
    ·refine Ah q44 ?_;obtain ⟨x45,f45,h⟩:=Ad h;obtain ⟨p45,b45,e45⟩:=Ba f45;obtain ⟨x46,f46,h⟩:=Ad h;obtain ⟨p46,b46,e46⟩:=Ba f46;obtain ⟨y47,h47,h⟩:=Ad h;obtain ⟨x48,f48,h⟩:=Ad h;obtain ⟨p48,b48,e48⟩:=Ba f48;refine Ax 32 ?_;refine dz0 (oI 1 1 u1.length) ?_;refine dz0 (ai x40) ?_;refine dz0 (ai a0) ?_;refine dz0 (oI 1 1 u1.length) ?_;refine dz0 (.box (oi 17 11) 1) ?_;refine dzl (ai x42.2.1) ?_;refine ds0 (.elt (oi 1 1) x42.2.1.toNat 0) (zo (t:=.int) (o:=oi 1 1) (len:=u1.length) (k:=.i64) (m:=x42.2.1) p45 (As e45)) ?_;refine dzE (oi 1 1) e45 ?_;refine dz0 (oI 1 1 u1.length) ?_;refine dz0 (.box (oi 17 11) 2) ?_;refine dzl (ai x42.2.2.1) ?_;refine ds0 (.elt (oi 1 1) x42.2.2.1.toNat 0) (zo (t:=.int) (o:=oi 1 1) (len:=u1.length) (k:=.i64) (m:=x42.2.2.1) p46 (As e46)) ?_;refine dzE (oi 1 1) e46 ?_;refine dzc (ai y47) [] [ai a0,ai x45,ai x46] (Aiz h47) ?_;refine ds0 (.elt (oi 1 1) x40.toNat 0) (zo (t:=.int) (o:=oi 1 1) (len:=u1.length) (k:=.i64) (m:=x40) p48 (As e48)) ?_;refine dzS (oi 1 1) (y47) e48 ?_;refine F5 (Bc (by kernel_rfl)) (bn_ (tn_ ?_));obtain rfl:=zj h;exact ⟨_,(A8 10 (oI 1 1 u1.length) (oI 1 1 ((u1.set x40.toNat y47).length)) (by kernel_rfl) (congrArg (fun z_=>((oI 1 1 z_):AV)) (((rfl:u1.length=u1.length).trans List.length_set.symm):u1.length=(u1.set x40.toNat y47).length))).trans (Ac []),rfl⟩
    refine Ag q44 ?_;obtain ⟨x49,f49,h⟩:=Ad h;obtain ⟨p49,b49,e49⟩:=Ba f49;obtain ⟨y50,h50,h⟩:=Ad h;obtain ⟨x51,f51,h⟩:=Ad h;obtain ⟨p51,b51,e51⟩:=Ba f51;refine Ax 29 ?_;refine dz0 (oI 1 1 u1.length) ?_;refine dz0 (ai x40) ?_;refine dz0 (ai a0) ?_;refine dz0 (.box (oi 17 11) 3) ?_;refine dzl (ai x42.2.2.2) ?_;refine dz0 (oI 1 1 u1.length) ?_;refine dz0 (.box (oi 17 11) 1) ?_;refine dzl (ai x42.2.1) ?_;refine ds0 (.elt (oi 1 1) x42.2.1.toNat 0) (zo (t:=.int) (o:=oi 1 1) (len:=u1.length) (k:=.i64) (m:=x42.2.1) p49 (As e49)) ?_;refine dzE (oi 1 1) e49 ?_;refine dzc (ai y50) [] [ai a0,ai x42.2.2.2,ai x49] (M8 h50) ?_;refine ds0 (.elt (oi 1 1) x40.toNat 0) (zo (t:=.int) (o:=oi 1 1) (len:=u1.length) (k:=.i64) (m:=x40) p51 (As e51)) ?_;refine dzS (oi 1 1) (y50) e51 ?_;refine F5 (Bc (by kernel_rfl)) (bn_ (tn_ ?_));obtain rfl:=zj h;exact ⟨_,(A8 10 (oI 1 1 u1.length) (oI 1 1 ((u1.set x40.toNat y50).length)) (by kernel_rfl) (congrArg (fun z_=>((oI 1 1 z_):AV)) (((rfl:u1.length=u1.length).trans List.length_set.symm):u1.length=(u1.set x40.toNat y50).length))).trans (Ac []),rfl⟩
   rintro uc _ rfl h
   (try dsimp only at h);obtain ⟨g52,h⟩:=Am h;refine Aa 4 ?_;refine zA g52 ?_;refine rsB 1 ?_;refine Aq (tn_ ?_);obtain rfl:=zj h;exact ⟨(u9+1,uc),_,Ac [],⟨u9+1,uc,rfl,rfl⟩,hn34⟩
  have q37_:=of_decide_eq_false q37;refine Ag q37 ?_;refine Au (te_ (te_ (be_ (tn_ ?_))));obtain rfl:=zj h;have h:=hn34
  (try dsimp only at h);obtain rfl:=zj h;exact ⟨_,Ac [],rfl⟩
 rintro u7 _ rfl h
 (try dsimp only at h);refine Al ?_;refine Ar h (fun (ug:List Int) S_=>S_=⟨Ao [(5,.box (oi 0 1) 0),(10,oI 1 1 u7.length),(18,oI 2 1 ug.length)],Aj (Ap [(oi 0 1,.cells 31 [ai u3,.tree T4 u0,tI u2]),(oi 1 1,.arr 3 .int u7),(oi 2 1,.arr 3 .int ug)]),2⟩) ?_ ?_
 ·intro v_ h;refine Ab ?_;obtain ⟨y56,h56,h⟩:=Ad h;refine Aa 7 ?_;refine rsB 1 ?_;refine zc (oI 1680 4 y56.length) [nI 1680 4 y56] [.agg [ai u3,.tree T4 u0,tI u2]] (Js h56) ?_;refine rsB 2 ?_;refine Aq (tn_ ?_);refine wr_ ?_;refine Ae ?_;refine Av h (fun t_ S_=>∃ (ud:Nat),∃ (u6:List Int),t_=(ud,u6)∧S_=⟨Ao [(5,.box (oi 0 1) 0),(10,oI 1 1 u7.length),(18,oI 2 1 u6.length),(105,oI 3 1 y56.length),(106,an y56.length),(107,an ud)],Aj (Ap [(oi 0 1,.cells 31 [ai u3,.tree T4 u0,tI u2]),(oi 1 1,.arr 3 .int u7),(oi 2 1,.arr 3 .int u6),(oi 3 1,.arr 3 .int y56)]),2⟩) ⟨_,(My 18 3 .int rfl (by kernel_rfl)).trans (Ac [(oi 2 1,oi 18 7),(oi 3 1,oi 1680 4)]),⟨0,[],rfl,rfl⟩⟩ ?_;rintro n_ _ _ c_ ⟨ud,u6,rfl,rfl⟩ h hn57
  (try dsimp only at h);unfold Hc at h;unfold Tc;refine Al ?_;refine Ab ?_;rcases Af h with ⟨q60,h⟩ | ⟨q60,h⟩
  ·have q60_:=of_decide_eq_true q60;refine Ah q60 ?_;refine Ai (tn_ ?_);refine wr_ ?_;refine Ab ?_;refine Ae ?_;refine Ab ?_;obtain ⟨x63,e63,h⟩:=Ad h;refine Aa 6 ?_;refine zO (oi 3 1) .int y56.length (As e63) ?_;refine zE (oi 3 1) e63 ?_;refine rsB 1 ?_;refine Aq (tn_ ?_);refine wr_ ?_;obtain ⟨x64,f64,h⟩:=Ad h;obtain ⟨p64,b64,e64⟩:=Ba f64;obtain ⟨x65,f65,h⟩:=Ad h;obtain ⟨p65,b65,e65⟩:=Ba f65;obtain ⟨g66,h⟩:=Am h;refine Aa 19 ?_;refine rsB 5 ?_;refine rs0 (.telt none T4 x64 0) (zi (t:=T4) (xs:=u0) (k:=.i64) (m:=x63) p64 e64) ?_;refine rsB 2 ?_;refine rs0 (.elt (oi 1 1) x64.2.1.toNat 0) (zo (t:=.int) (o:=oi 1 1) (len:=u7.length) (k:=.i64) (m:=x64.2.1) p65 (As e65)) ?_;refine zE (oi 1 1) e65 ?_;refine rsB 1 ?_;refine rs2 (oI 2 17 ((u6++([x65])).length)) (oi 2 1) (oi 2 17) (.arr 3 .int (u6++([x65]))) (I9 (t:=.int) (t':=.int) (xs:=u6) (ys:=[x65]) (zs:=u6++([x65])) (j:=oi 2 1) (len:=u6.length) (c:=oI 121 16 1) (by kernel_rfl) (by kernel_rfl) rfl (by kernel_rfl) (Ma (e:=3) (by kernel_rfl) rfl) rfl g66) ?_;refine rsB 1 ?_;refine Aq (bn_ (tn_ ?_));refine wr_ ?_;obtain ⟨g67,h⟩:=Am h;refine Aa 21 ?_;refine zA g67 ?_;refine rsB 1 ?_;refine Aq (tn_ ?_);obtain rfl:=zj h;exact ⟨(ud+1,u6++([x65])),_,Ac [(oi 2 1,oi 2 17)],⟨ud+1,u6++([x65]),rfl,rfl⟩,hn57⟩
  have q60_:=of_decide_eq_false q60;refine Ag q60 ?_;refine Au (te_ (te_ (be_ (tn_ ?_))));obtain rfl:=zj h;have h:=hn57
  (try dsimp only at h);obtain rfl:=zj h;exact ⟨_,Ac [],rfl⟩
 rintro ug _ rfl h
 (try dsimp only at h);refine Ab ?_;obtain ⟨y69,h69,h⟩:=Ad h;refine Aa 9 ?_;refine rsB 4 ?_;refine Cm (oI 2048 6 y69.length) [nI 2048 6 y69] [tI u2,oI 1 1 u7.length] _ (caps:=[]) (args0:=[tI u2,tI u7]) trivial (Ay (by kernel_rfl) (Ay (Ca (e:=3) (by kernel_rfl) rfl) B9)) (Agk h69) Ae3 ?_;refine rsB 2 ?_;refine Aq (tn_ ?_);refine wr_ ?_;refine An ?_;obtain rfl:=zj h;exact Bo [oI 2 1 ug.length,oI 2048 6 y69.length] (A2 rfl (Fy (by kernel_rfl) rfl) (A2 rfl (Fy (by kernel_rfl) rfl) A5))
def X4:AC :=
 (.seq (rg [xo 4 (qm (.cst .nils))])
 (.seq (rg [xm 6 0,xo 7 (.make 3 .int 8 (tm 6) (tm 6)),xm 5 7])
 (.seq (rg [xm 8 5,xm 9 1,xx 10 1 8 9,xn (qs (tm 10) (ci 1))])
 (.seq (rg [xm 11 5,xm 4 11])
 .ret))))
def Aka:List Res:=[.tmp 4]
theorem Aj6:At Tryd.prog Tryd.f40=some (X4,Aka):=by kernel_rfl
def Fe (a0 a1:Int):Option (List Int) :=
 og (0<=a0∧a0<=a0∧a0<=1073741824∧(8:Int)*a0<=140737488355328) <|
Option.bind (E2 (List.replicate a0.toNat (0:Int)) a1) fun x5 =>
some ((List.replicate a0.toNat (0:Int)).set a1.toNat 1)
def Ahi (r:List Int):RV:=⟨false,[(false,[.new 3 .int r])]⟩
theorem V5 {a0 a1:Int} {r:List Int} (h:Fe a0 a1=some r):A0 Tryd.prog Tab 40 [ai a0,ai a1] (Ahi r):=by
 refine A1 (by kernel_rfl) Tryd.func40 Aj6 (n:=12) (by kernel_rfl) (by simp) (tl:=[(0,ai a0),(1,ai a1)]) rfl ?_;unfold X4;unfold Fe at h;refine Al ?_;refine Ab ?_;obtain ⟨g3,h⟩:=Am h;refine Aa 5 ?_;refine rsB 1 ?_;refine rs1 (oI 7 3 a0.toNat) (oi 7 3) (.arr 3 .int (List.replicate a0.toNat (0:Int))) (Lu (t:=.int) (k:=.i64) (k':=.i64) (m:=a0) (m':=a0) (by kernel_rfl) (by kernel_rfl) g3 rfl) ?_;refine rsB 1 ?_;refine Aq (tn_ ?_);refine wr_ ?_;refine Ab ?_;obtain ⟨x5,f5,h⟩:=Ad h;obtain ⟨p5,b5,e5⟩:=Ba f5;refine Aa 9 ?_;refine rsB 2 ?_;refine rs0 (.elt (oi 7 3) a1.toNat 0) (zo (t:=.int) (o:=oi 7 3) (len:=a0.toNat) (k:=.i64) (m:=a1) p5 (Nat.lt_of_lt_of_le (As e5) (Nat.le_of_eq (Eq.symm List.length_replicate.symm)))) ?_;refine zS (oi 7 3) (1) e5 ?_;refine Aq (tn_ ?_);refine wr_ ?_;refine Al ?_;refine An ?_;obtain rfl:=zj h;exact Bo [oI 7 3 a0.toNat] (A2 rfl (Fy (by kernel_rfl) (List.length_replicate.symm.trans List.length_set.symm)) A5)
def Ac8:AC :=
 (.seq (rg [xo 4 (qm (.cst .nils))])
 (.seq (rg [xm 6 0,xo 7 (qc 57 [tm 6] [[]]),xm 5 7])
 (.seq (rg [xm 8 5,xm 9 1,xx 10 1 8 9,xn (qs (tm 10) (ci 1))])
 (.seq (rg [xm 11 5,xm 4 11])
 .ret))))
def Apv:List Res:=[.tmp 4]
theorem Aon:At Tryd.prog Tryd.f56=some (Ac8,Apv):=by kernel_rfl
def Ee (a0 a1:Int):Option (List Int) :=
 Option.bind (Ed a0) fun y3 =>
Option.bind (E2 y3 a1) fun x5 =>
some (y3.set a1.toNat 1)
def Anv (r:List Int):RV:=⟨false,[(false,[.new 3 .int r])]⟩
theorem Ur {a0 a1:Int} {r:List Int} (h:Ee a0 a1=some r):A0 Tryd.prog Tab 56 [ai a0,ai a1] (Anv r):=by
 refine A1 (by kernel_rfl) Tryd.func56 Aon (n:=12) (by kernel_rfl) (by simp) (tl:=[(0,ai a0),(1,ai a1)]) rfl ?_;unfold Ac8;unfold Ee at h;refine Al ?_;refine Ab ?_;obtain ⟨y3,h3,h⟩:=Ad h;refine Aa 5 ?_;refine rsB 1 ?_;refine zc (oI 112 3 y3.length) [nI 112 3 y3] [ai a0] (Is h3) ?_;refine rsB 1 ?_;refine Aq (tn_ ?_);refine wr_ ?_;refine Ab ?_;obtain ⟨x5,f5,h⟩:=Ad h;obtain ⟨p5,b5,e5⟩:=Ba f5;refine Aa 9 ?_;refine rsB 2 ?_;refine rs0 (.elt (oi 112 3) a1.toNat 0) (zo (t:=.int) (o:=oi 112 3) (len:=y3.length) (k:=.i64) (m:=a1) p5 (As e5)) ?_;refine zS (oi 112 3) (1) e5 ?_;refine Aq (tn_ ?_);refine wr_ ?_;refine Al ?_;refine An ?_;obtain rfl:=zj h;exact Bo [oI 112 3 y3.length] (A2 rfl (Fy (by kernel_rfl) ((rfl:y3.length=y3.length).trans List.length_set.symm)) A5)
end

section
open Go.RowKit Go.Deep
theorem A00 {f:Nat->AV} {ob:Oid->Option Ob} {d:Option Nat} {gd:Option (Nat×Bool)} {fo y:Opd} {ys:List Opd} {tys:List (List (Option Ty))} {i p:Oid} {t u:Ty} {off len z m k:Nat} {e1:TypeId} {xss:List (List u.D)} (n:Nat) (hy:ys[n]? =some y) (he:y.ev f=.own i t off len) (hob:ob i=some (.vec e1 z m (hdL p u xss))) (hk:k<xss.length):kid p k∈rdX f ob ⟨d,gd,.call fo ys tys⟩:=by
 refine List.mem_flatMap.2 ⟨y,List.mem_cons_of_mem _ (List.mem_of_getElem? hy),?_⟩;rw [he];show kid p k∈Lf ob (7+1) (.own i t off len);unfold Lf;dsimp only;rw [hob];refine List.mem_cons_of_mem _ (List.mem_flatMap.2 ⟨.own (kid p k) u 0 xss[k].length,List.mem_of_getElem? (i:=k) (by rw [Ez,gEg hk]; rfl),?_⟩);exact List.mem_singleton.2 rfl
theorem Afc {f:Nat->AV} {ob:Oid->Option Ob} {d:Option Nat} {gd:Option (Nat×Bool)} {fo y:Opd} {ys:List Opd} {tys:List (List (Option Ty))} {i p:Oid} {t u:Ty} {off len z m:Nat} {e e1:TypeId} {xss:List (List u.D)} (n:Nat) (hy:ys[n]? =some y) (he:y.ev f=.own i t off len) (hob:ob i=some (.vec e1 z m (hdL p u xss))) (hr:∀ (k:Nat) (row:List u.D),xss[k]? =some row->ob (kid p k)=some (.arr e u row)) (k:Nat) (row:List u.D) (h:xss[k]? =some row):only (rdX f ob ⟨d,gd,.call fo ys tys⟩) ob (kid p k)=some (.arr e u row):=(O2 (A00 n hy he hob (gSi.1 h).1)).trans (hr k row h)
end
section
open Go.RowKit Go.Deep
theorem Aze {f:Nat->AV} {ob:Oid->Option Ob} {d:Option Nat} {gd:Option (Nat×Bool)} {fo y:Opd} {ys:List Opd} {tys:List (List (Option Ty))} {az:List AV} {i p:Oid} {t u:Ty} {off len z m k:Nat} {e1:TypeId} {xss:List (List u.D)} (n j:Nat) (hy:ys[n]? =some y) (he:y.ev f=.agg az) (hj:az[j]? =some (.own i t off len)) (hob:ob i=some (.vec e1 z m (hdL p u xss))) (hk:k<xss.length):kid p k∈rdX f ob ⟨d,gd,.call fo ys tys⟩:=by
 refine List.mem_flatMap.2 ⟨y,List.mem_cons_of_mem _ (List.mem_of_getElem? hy),?_⟩;rw [he];show kid p k∈Lf ob (7+1) (.agg az);unfold Lf;dsimp only;refine List.mem_flatMap.2 ⟨_,List.mem_of_getElem? hj,?_⟩;show kid p k∈Lf ob (6+1) (.own i t off len);unfold Lf;dsimp only;rw [hob];refine List.mem_cons_of_mem _ (List.mem_flatMap.2 ⟨.own (kid p k) u 0 xss[k].length,List.mem_of_getElem? (i:=k) (by rw [Ez,gEg hk]; rfl),?_⟩);exact List.mem_singleton.2 rfl
theorem Agn {f:Nat->AV} {ob:Oid->Option Ob} {d:Option Nat} {gd:Option (Nat×Bool)} {fo y:Opd} {ys:List Opd} {tys:List (List (Option Ty))} (az:List AV) {i p:Oid} {t u:Ty} {off len z m:Nat} {e e1:TypeId} {xss:List (List u.D)} (n j:Nat) (hy:ys[n]? =some y) (he:y.ev f=.agg az) (hj:az[j]? =some (.own i t off len)) (hob:ob i=some (.vec e1 z m (hdL p u xss))) (hr:∀ (k:Nat) (row:List u.D),xss[k]? =some row->ob (kid p k)=some (.arr e u row)) (k:Nat) (row:List u.D) (h:xss[k]? =some row):only (rdX f ob ⟨d,gd,.call fo ys tys⟩) ob (kid p k)=some (.arr e u row):=(O2 (Aze n j hy he hj hob (gSi.1 h).1)).trans (hr k row h)
theorem Atm {f:Nat->AV} {ob:Oid->Option Ob} {d:Option Nat} {gd:Option (Nat×Bool)} {fo y:Opd} {ys:List Opd} {tys:List (List (Option Ty))} (az:List AV) {i:Oid} {t:Ty} {off len:Nat} (n j:Nat) (hy:ys[n]? =some y) (he:y.ev f=.agg az) (hj:az[j]? =some (.own i t off len)):i∈rdX f ob ⟨d,gd,.call fo ys tys⟩:=by
 refine List.mem_flatMap.2 ⟨y,List.mem_cons_of_mem _ (List.mem_of_getElem? hy),?_⟩;rw [he];show i∈Lf ob (7+1) (.agg az);unfold Lf;dsimp only;refine List.mem_flatMap.2 ⟨_,List.mem_of_getElem? hj,?_⟩;show i∈Lf ob (6+1) (.own i t off len);unfold Lf;dsimp only;split <;> simp
section
variable {n:Nat} {d:Option Nat} {f:Nat->AV} {ob:Oid->Option Ob}
end
end
end Go.Proofs.YtpnofkjgeokdhaaDoor
