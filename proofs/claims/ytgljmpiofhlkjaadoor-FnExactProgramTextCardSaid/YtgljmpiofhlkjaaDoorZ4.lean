/- Lemmas on the program and on partial functions that stand in place of its code (part 4); no condition beyond those that each one states. -/
import Derived.Test.YtgljmpiofhlkjaaDoorZ3
import Derived.Lib.SplitLaws
import Derived.Deep.RegionHeld3
namespace Go.Proofs.YtgljmpiofhlkjaaDoor
section
open Go.RowKit Go.Deep
set_option maxRecDepth 4000
def Gr:AC :=
 (.seq (rg [xo 4 (qm (ci 0))])
 (.seq (rg [xm 5 1,xm 6 0,xn1 7 6,xo 8 (qb .sub (tm 5) (tm 7)),xm 1 8])
 (.seq (.seq (rg [xm 9 1,xo 10 (qb .lss (tm 9) (ci 0))])
 (.cond (tm 10)
  (.seq (rg [xo 4 (qm (ci (-1)))])
  .ret)
  .skip))
 (.seq (rg [xm 11 1,xm 4 11])
 .ret))))
def Lw:List Res:=[.tmp 4]
theorem Lo:Aw Tryd.prog Tryd.f25=some (Gr,Lw):=by kernel_rfl
def Cz (a0:List (Int×Int×Int×Int×Int)) (a1:Int):Option Int :=
 cond (decide (wI (a1 - (a0.length:Int))<0))
 (some (-1))
 (some (wI (a1 - (a0.length:Int))))
def Kp (r:Int):RV:=⟨false,[(false,[.sc (.int .i64 r)])]⟩
theorem K3 {a0:List (Int×Int×Int×Int×Int)} {a1 r:Int} (h:Cz a0 a1=some r):Az Tryd.prog Tab 25 [.tree T5 a0,ai a1] (Kp r):=by
 refine Ay (by kernel_rfl) Tryd.func25 Lo (n:=12) (by kernel_rfl) (by simp) rfl ?_;unfold Gr;unfold Cz at h;refine Al (Al (Ac (Al ?_)));rcases Aa h with ⟨q5,h⟩ | ⟨q5,h⟩
 ·have q5_:=of_decide_eq_true q5;refine Ae q5 (Al (Ag (tr_ ?_)));obtain rfl:=zj h;exact A2 [ai (-1)] (Ar rfl zl As)
 have q5_:=of_decide_eq_false q5;refine Af q5 (Ak (tn_ (wr_ (Al (Ag ?_)))));obtain rfl:=zj h;exact A2 [ai (wI (a1 - (a0.length:Int)))] (Ar rfl zl As)
def Fl:AC :=
 (.seq (rg [xo 2 (.i (.box 37 (tm 0))),xo 4 (qm (ci 0))])
 (.seq (rg [xf 5 4 2,xl 6 5,xm 7 1,⟨some 8,none,qc 25 [tm 6,tm 7] [[some T5],[]]⟩,xm 1 8])
 (.seq (.seq (rg [xm 9 1,xo 10 (qb .lss (tm 9) (ci 0))])
 (.cond (tm 10)
  (.seq (rg [xo 4 (qm (ci (-1)))])
  .ret)
  .skip))
 (.seq (rg [xm 11 1,xm 4 11])
 .ret))))
def Kd:List Res:=[.tmp 4]
theorem J7:Aw Tryd.prog Tryd.f10=some (Fl,Kd):=by kernel_rfl
def Ce (u1 u2:Int) (u3 u4:Int) (u0:List (Int×Int×Int×Int×Int)) (a1:Int):Option Int :=
 (Cz u0 a1).bind fun y3 =>
cond (decide (y3<0))
 (some (-1))
 (some y3)
def I6 (r:Int):RV:=⟨false,[(false,[.sc (.int .i64 r)])]⟩
theorem Jl {u1 u2:Int} {u3 u4:Int} {u0:List (Int×Int×Int×Int×Int)} {a1 r:Int} (h:Ce u1 u2 u3 u4 u0 a1=some r):Az Tryd.prog Tab 10 [.agg [ai u1,ai u2,ai u3,ai u4,.tree T5 u0],ai a1] (I6 r):=by
 refine Ay (by kernel_rfl) Tryd.func10 J7 (n:=12) (by kernel_rfl) (by simp) rfl ?_;unfold Fl;unfold Ce at h;refine Al (Ac ?_);obtain ⟨y3,h3,h⟩:=Ah h;refine Ab 8 (rsT 3 (zc (ai y3) [] [.tree T5 u0,ai a1] (K3 h3) (rsT 1 (Av (tn_ (wr_ (Ac (Al ?_))))))));rcases Aa h with ⟨q6,h⟩ | ⟨q6,h⟩
 ·have q6_:=of_decide_eq_true q6;refine Ae q6 (Al (Ag (tr_ ?_)));obtain rfl:=zj h;exact A2 [ai (-1)] (Ar rfl zl As)
 have q6_:=of_decide_eq_false q6;refine Af q6 (Ak (tn_ (wr_ (Al (Ag ?_)))));obtain rfl:=zj h;exact A2 [ai y3] (Ar rfl zl As)
def G0:AC :=
 (.seq (rg [xo 1 (.i (.box 87 (tm 0))),xo 2 (.i (.alloc 82 [.int .i64 0,.int .i64 0,.int .i64 0,.int .i64 0,.int .i64 0]))])
 (.seq (rg [xo 3 (.i (.alloc 82 [.int .i64 0,.int .i64 0,.int .i64 0,.int .i64 0,.int .i64 0]))])
 (.seq (rg [xf 4 0 1,xl 5 4,xf 6 0 3,xn (qs (tm 6) (tm 5))])
 (.seq (rg [xf 7 1 1,xl 8 7,xf 9 1 3,xn (qs (tm 9) (tm 8))])
 (.seq (rg [xf 10 2 1,xl 11 10,xf 12 2 3,xn (qs (tm 12) (tm 11))])
 (.seq (rg [xf 13 3 1,xl 14 13,xf 15 3 3,xn (qs (tm 15) (tm 14))])
 (.seq (rg [xf 16 4 1,xl 17 16,xf 18 4 3,xn (qs (tm 18) (tm 17))])
 (.seq (rg [xo 19 (.i (.ld false 5 (tm 3))),xn (.st false 5 (tm 2) (tm 19))])
 .ret))))))))
def M2:List Res:=[.cell 2 false 5]
theorem Nk:Aw Tryd.prog Tryd.f56=some (G0,M2):=by kernel_rfl
def D0 (u0 u1:Int) (u2 u3 u4:Int):Option (Int×Int×Int×Int×Int) :=
 some (u0,u1,u2,u3,u4)
def Lr (r:Int×Int×Int×Int×Int):RV:=⟨false,[(true,[.sc (.int .i64 r.1),.sc (.int .i64 r.2.1),.sc (.int .i64 r.2.2.1),.sc (.int .i64 r.2.2.2.1),.sc (.int .i64 r.2.2.2.2)])]⟩
theorem Lx {u0 u1:Int} {u2 u3 u4:Int} {r:Int×Int×Int×Int×Int} (h:D0 u0 u1 u2 u3 u4=some r):Az Tryd.prog Tab 56 [.agg [ai u0,ai u1,ai u2,ai u3,ai u4]] (Lr r):=by
 refine Ay (by kernel_rfl) Tryd.func56 Nk (n:=20) (by kernel_rfl) (by simp) rfl ?_;unfold G0;unfold D0 at h;refine Al (Al (Al (Al (Al (Al (Al (Al (Ag ?_))))))));obtain rfl:=zj h;exact A2 [.agg [ai u0,ai u1,ai u2,ai u3,ai u4]] (Xh (Fi zl (Fi zl (Fi zl (Fi zl (Fi zl Xi))))) As)
def E2:AC :=
 (.seq (.seq (rg [xm 8 4,xm 9 0,xn1 10 9,xs1 11 8 10])
 (.cond (tm 11)
  .skip
  (.exit 0)))
 (.seq (.block 1 (rg [xm 14 3,xm 15 4,xm 16 0,xm 17 4,xx 18 5 16 17,xo 19 (.i (.ld false 5 (tm 18))),xo 20 (qc 56 [tm 19] [[none,none,none,none,none]]),xx 21 5 14 15,xn (.st false 5 (tm 21) (tm 20))]))
 (rg [xm 12 4,xa 13 12,xm 4 13])))
def Gm:AC :=
 (.seq (rg [xo 2 (qm (.cst .nils))])
 (.seq (rg [xm 5 0,xn1 6 5,⟨some 7,none,.make 82 T5 40 (tm 6) (tm 6)⟩,xm 3 7])
 (.seq (.seq (rg [xo 4 (qm (ci 0))])
 (.block 0 (.loop E2)))
 (.seq (rg [xm 22 3,xm 2 22])
 .ret))))
def Lt:List Res:=[.tmp 2]
theorem L0:Aw Tryd.prog Tryd.f28=some (Gm,Lt):=by kernel_rfl
def B2 (a0:List (Int×Int×Int×Int×Int)) (u0:Nat) (u1:List (Int×Int×Int×Int×Int)):Option (Ctl (Nat×(List (Int×Int×Int×Int×Int))) (List (Int×Int×Int×Int×Int))) :=
 cond (decide ((u0:Int)<(a0.length:Int)))
 ((a0[u0]?).bind fun x11 =>
 (D0 x11.1 x11.2.1 x11.2.2.1 x11.2.2.2.1 x11.2.2.2.2).bind fun y12 =>
 (u1[u0]?).bind fun x13 =>
 og (u0+1<4611686018427387904) <|
 some (Ctl.next (u0+1,u1.set u0 y12)))
 (some (Ctl.out u1))
def Cy (a0:List (Int×Int×Int×Int×Int)):Option (List (Int×Int×Int×Int×Int)) :=
 og (0<=(a0.length:Int)∧(a0.length:Int)<=(a0.length:Int)∧(a0.length:Int)<=1073741824∧(40:Int)*(a0.length:Int)<=140737488355328) <|
(Bs (fun s_:Nat×(List (Int×Int×Int×Int×Int))=>B2 a0 s_.1 s_.2) 4611686018427387904 (0,List.replicate a0.length ((0,0,0,0,0):Int×Int×Int×Int×Int))).bind fun u0 =>
some u0
def K2 (r:List (Int×Int×Int×Int×Int)):RV:=⟨false,[(false,[.new 82 T5 r])]⟩
theorem Kz {a0:List (Int×Int×Int×Int×Int)} {r:List (Int×Int×Int×Int×Int)} (h:Cy a0=some r):Az Tryd.prog Tab 28 [.tree T5 a0] (K2 r):=by
 refine Ay (by kernel_rfl) Tryd.func28 L0 (n:=23) (by kernel_rfl) (by simp) rfl ?_;unfold Gm;unfold Cy at h;refine Al (Ac ?_);obtain ⟨g3,h⟩:=Bk h;refine Ab 6 (rsT 2 (rs1 (.own (oi 7 4) T5 0 a0.length) (oi 7 4) (.arr 82 T5 (List.replicate a0.length ((0,0,0,0,0):Int×Int×Int×Int×Int))) (Yg (t:=T5) (k:=.i64) (k':=.i64) (m:=(a0.length:Int)) (m':=(a0.length:Int)) (by kernel_rfl) (by kernel_rfl) g3 rfl) (rsT 1 (Av (tn_ (wr_ (A1 h (fun (u2:List (Int×Int×Int×Int×Int)) S_=>S_=⟨Ao [(3,.own (oi 0 1) T5 0 u2.length)],Aq (A5 [(oi 0 1,.arr 82 T5 u2)]),2⟩) ?_ ?_)))))))
 ·intro v_ h;refine Al (Ax (C2 h (fun t_ S_=>∃ (u1:Nat),∃ (u0:List (Int×Int×Int×Int×Int)),t_=(u1,u0)∧S_=⟨Ao [(0,.tree T5 a0),(3,.own (oi 0 1) T5 0 u0.length),(4,an u1)],Aq (A5 [(oi 0 1,.arr 82 T5 u0)]),2⟩) ⟨_,(Rq 3 (.own (oi 7 4) T5 0 a0.length) (.own (oi 7 4) T5 0 ((List.replicate a0.length ((0,0,0,0,0):Int×Int×Int×Int×Int)).length)) (by kernel_rfl) (congrArg (fun z_=>((.own (oi 7 4) T5 0 z_):AV)) (List.length_replicate.symm:a0.length=(List.replicate a0.length ((0,0,0,0,0):Int×Int×Int×Int×Int)).length))).trans (Ad [(oi 0 1,oi 7 4)]),⟨0,List.replicate a0.length ((0,0,0,0,0):Int×Int×Int×Int×Int),rfl,rfl⟩⟩ ?_));rintro n_ _ _ c_ ⟨u1,u0,rfl,rfl⟩ h hn6
  (try dsimp only at h);unfold B2 at h;unfold E2;refine Ac (Al ?_);rcases Aa h with ⟨q9,h⟩ | ⟨q9,h⟩
  ·have q9_:=of_decide_eq_true q9;refine Ae q9 (Ak (tn_ (wr_ (Ac (Ax ?_)))));obtain ⟨x11,e11,h⟩:=Ah h;obtain ⟨y12,h12,h⟩:=Ah h;obtain ⟨x13,e13,h⟩:=Ah h;refine Ab 15 (rsT 4 (zI T5 e11 (rsT 1 (zc (.agg [ai y12.1,ai y12.2.1,ai y12.2.2.1,ai y12.2.2.2.1,ai y12.2.2.2.2]) [] [.agg [ai x11.1,ai x11.2.1,ai x11.2.2.1,ai x11.2.2.2.1,ai x11.2.2.2.2]] (Lx h12) (zO (oi 0 1) T5 u0.length (Ej e13) (Yw (oi 0 1) (oi 0 1) (.arr 82 T5 (u0.set u1 y12)) (Yp (i:=oi 0 1) (j:=u1) (k:=0) (e:=82) (t:=T5) (xs:=u0) (cs:=[ai y12.1,ai y12.2.1,ai y12.2.2.1,ai y12.2.2.2.1,ai y12.2.2.2.2]) (x1:=y12) (by kernel_rfl) (by kernel_rfl) e13 (by kernel_rfl) (by kernel_rfl)) (Av (bn_ (tn_ (wr_ ?_))))))))));obtain ⟨g14,h⟩:=Bk h;refine Ab 18 (rsT 1 (zA g14 (rsT 1 (Av (tn_ ?_)))));obtain rfl:=zj h;exact ⟨(u1+1,u0.set u1 y12),_,(Rq 3 (.own (oi 0 1) T5 0 u0.length) (.own (oi 0 1) T5 0 ((u0.set u1 y12).length)) (by kernel_rfl) (congrArg (fun z_=>((.own (oi 0 1) T5 0 z_):AV)) (((rfl:u0.length=u0.length).trans List.length_set.symm):u0.length=(u0.set u1 y12).length))).trans (Ad []),⟨u1+1,u0.set u1 y12,rfl,rfl⟩,hn6⟩
  have q9_:=of_decide_eq_false q9;refine Af q9 (C3 (te_ (te_ (be_ (tn_ ?_)))));obtain rfl:=zj h;have h:=hn6
  (try dsimp only at h);obtain rfl:=zj h;exact ⟨_,Ad [],rfl⟩
 rintro u2 _ rfl h
 (try dsimp only at h);refine Al (Ag ?_);obtain rfl:=zj h;exact A2 [.own (oi 0 1) T5 0 u2.length] (Ar rfl (Gx (by kernel_rfl) rfl) As)
def F1:AC :=
 (.seq (rg [xo 1 (.i (.box 37 (tm 0))),xo 2 (.i (.alloc 42 [.int .i64 0,.int .i64 0,.int .i64 0,.int .i64 0,.nils]))])
 (.seq (rg [xo 3 (.i (.alloc 42 [.int .i64 0,.int .i64 0,.int .i64 0,.int .i64 0,.nils]))])
 (.seq (rg [xf 4 0 1,xl 5 4,xf 6 0 3,xn (qs (tm 6) (tm 5))])
 (.seq (rg [xf 7 1 1,xl 8 7,xf 9 1 3,xn (qs (tm 9) (tm 8))])
 (.seq (rg [xf 10 2 1,xl 11 10,xf 12 2 3,xn (qs (tm 12) (tm 11))])
 (.seq (rg [xf 13 3 1,xl 14 13,xf 15 3 3,xn (qs (tm 15) (tm 14))])
 (.seq (rg [xf 16 4 1,xl 17 16,⟨some 18,none,qc 28 [tm 17] [[some T5]]⟩,xf 19 4 3,xn (qs (tm 19) (tm 18))])
 (.seq (rg [xo 20 (.i (.ld false 5 (tm 3))),xn (.st false 5 (tm 2) (tm 20))])
 .ret))))))))
def Kq:List Res:=[.cell 2 false 5]
theorem Kl:Aw Tryd.prog Tryd.f12=some (F1,Kq):=by kernel_rfl
def Br (u0 u1:Int) (u2 u3:Int) (u4:List (Int×Int×Int×Int×Int)):Option (Int×Int×Int×Int×(List (Int×Int×Int×Int×Int))) :=
 (Cy u4).bind fun y8 =>
some (u0,u1,u2,u3,y8)
def Jd (r:Int×Int×Int×Int×(List (Int×Int×Int×Int×Int))):RV:=⟨false,[(true,[.sc (.int .i64 r.1),.sc (.int .i64 r.2.1),.sc (.int .i64 r.2.2.1),.sc (.int .i64 r.2.2.2.1),.new 82 T5 r.2.2.2.2])]⟩
theorem Dy {u0 u1:Int} {u2 u3:Int} {u4:List (Int×Int×Int×Int×Int)} {r:Int×Int×Int×Int×(List (Int×Int×Int×Int×Int))} (h:Br u0 u1 u2 u3 u4=some r):Az Tryd.prog Tab 12 [.agg [ai u0,ai u1,ai u2,ai u3,.tree T5 u4]] (Jd r):=by
 refine Ay (by kernel_rfl) Tryd.func12 Kl (n:=21) (by kernel_rfl) (by simp) rfl ?_;unfold F1;unfold Br at h;refine Al (Al (Al (Al (Al (Al (Ac ?_))))));obtain ⟨y8,h8,h⟩:=Ah h;refine Ab 25 (rsT 2 (zc (.own (oi 288 22) T5 0 y8.length) [(oi 288 22,some (.arr 82 T5 y8))] [.tree T5 u4] (Kz h8) (rsB 2 (Av (tn_ (wr_ (Al (Ag ?_))))))));obtain rfl:=zj h;exact A2 [.agg [ai u0,ai u1,ai u2,ai u3,.own (oi 288 22) T5 0 y8.length]] (Xh (Fi zl (Fi zl (Fi zl (Fi zl (Fi (Gx (by kernel_rfl) rfl) Xi))))) As)
def G5:AC :=
 (.seq (rg [xo 2 (.i (.box 82 (tm 0))),xo 3 (.i (.box 82 (tm 1))),xo 4 (qm (cb false))])
 (.seq (.seq (rg [xf 5 0 2,xl 6 5,xf 7 0 3,xl 8 7,xo 9 (qb .neq (tm 6) (tm 8))])
 (.cond (tm 9)
  (.seq (rg [xo 4 (qm (cb false))])
  .ret)
  .skip))
 (.seq (.seq (rg [xf 10 1 2,xl 11 10,xf 12 1 3,xl 13 12,xo 14 (qb .neq (tm 11) (tm 13))])
 (.cond (tm 14)
  (.seq (rg [xo 4 (qm (cb false))])
  .ret)
  .skip))
 (.seq (.seq (rg [xf 15 2 2,xl 16 15,xf 17 2 3,xl 18 17,xo 19 (qb .neq (tm 16) (tm 18))])
 (.cond (tm 19)
  (.seq (rg [xo 4 (qm (cb false))])
  .ret)
  .skip))
 (.seq (.seq (rg [xf 20 3 2,xl 21 20,xf 22 3 3,xl 23 22,xo 24 (qb .neq (tm 21) (tm 23))])
 (.cond (tm 24)
  (.seq (rg [xo 4 (qm (cb false))])
  .ret)
  .skip))
 (.seq (.seq (rg [xf 25 4 2,xl 26 25,xf 27 4 3,xl 28 27,xo 29 (qb .neq (tm 26) (tm 28))])
 (.cond (tm 29)
  (.seq (rg [xo 4 (qm (cb false))])
  .ret)
  .skip))
 (.seq (rg [xo 4 (qm (cb true))])
 .ret)))))))
def Mt:List Res:=[.tmp 4]
theorem Mu:Aw Tryd.prog Tryd.f63=some (G5,Mt):=by kernel_rfl
def Du (u0 u1:Int) (u2 u3:Int) (u4 u5:Int) (u6 u7:Int) (u8 u9:Int):Option Bool :=
 cond (u0 !=u5)
 (some false)
 (cond (u1 !=u6)
  (some false)
  (cond (u2 !=u7)
   (some false)
   (cond (u3 !=u8)
    (some false)
    (cond (u4 !=u9)
     (some false)
     (some true)))))
def L4 (r:Bool):RV:=⟨false,[(false,[.sc (.bool r)])]⟩
theorem L1 {u0 u1:Int} {u2 u3:Int} {u4 u5:Int} {u6 u7:Int} {u8 u9:Int} {r:Bool} (h:Du u0 u1 u2 u3 u4 u5 u6 u7 u8 u9=some r):Az Tryd.prog Tab 63 [.agg [ai u0,ai u1,ai u2,ai u3,ai u4],.agg [ai u5,ai u6,ai u7,ai u8,ai u9]] (L4 r):=by
 refine Ay (by kernel_rfl) Tryd.func63 Mu (n:=30) (by kernel_rfl) (by simp) rfl ?_;unfold G5;unfold Du at h;refine Al (Ac (Al ?_));rcases Aa h with ⟨q4,h⟩ | ⟨q4,h⟩
 ·refine Ae q4 (Al (Ag (tr_ ?_)));obtain rfl:=zj h;exact A2 [.bool false] (Ar rfl zl As)
 refine Af q4 (Ak (tn_ (wr_ (Ac (Al ?_)))));rcases Aa h with ⟨q8,h⟩ | ⟨q8,h⟩
 ·refine Ae q8 (Al (Ag (tr_ ?_)));obtain rfl:=zj h;exact A2 [.bool false] (Ar rfl zl As)
 refine Af q8 (Ak (tn_ (wr_ (Ac (Al ?_)))));rcases Aa h with ⟨q12,h⟩ | ⟨q12,h⟩
 ·refine Ae q12 (Al (Ag (tr_ ?_)));obtain rfl:=zj h;exact A2 [.bool false] (Ar rfl zl As)
 refine Af q12 (Ak (tn_ (wr_ (Ac (Al ?_)))));rcases Aa h with ⟨q16,h⟩ | ⟨q16,h⟩
 ·refine Ae q16 (Al (Ag (tr_ ?_)));obtain rfl:=zj h;exact A2 [.bool false] (Ar rfl zl As)
 refine Af q16 (Ak (tn_ (wr_ (Ac (Al ?_)))));rcases Aa h with ⟨q20,h⟩ | ⟨q20,h⟩
 ·refine Ae q20 (Al (Ag (tr_ ?_)));obtain rfl:=zj h;exact A2 [.bool false] (Ar rfl zl As)
 refine Af q20 (Ak (tn_ (wr_ (Al (Ag ?_)))));obtain rfl:=zj h;exact A2 [.bool true] (Ar rfl zl As)
def Eq:AC :=
 (.seq (.seq (rg [xm 11 5,xm 12 0,xn1 13 12,xs1 14 11 13])
 (.cond (tm 14)
  .skip
  (.exit 0)))
 (.seq (.block 1 (.seq (.region [xm 17 0,xm 18 5,xx 19 5 17 18,xo 20 (.i (.ld false 5 (tm 19))),xm 21 1,xm 22 5,xx 23 5 21 22,xo 24 (.i (.ld false 5 (tm 23))),xo 25 (qc 63 [tm 20,tm 24] [[none,none,none,none,none],[none,none,none,none,none]]),xo 26 (.i (.not (tm 25)))] true [])
 (.cond (tm 26)
  (.seq (rg [xo 4 (qm (cb false))])
  .ret)
  .skip)))
 (rg [xm 15 5,xa 16 15,xm 5 16])))
def Gs:AC :=
 (.seq (rg [xo 4 (qm (cb false))])
 (.seq (.seq (rg [xm 6 0,xn1 7 6,xm 8 1,xn1 9 8,xo 10 (qb .neq (tm 7) (tm 9))])
 (.cond (tm 10)
  (.seq (rg [xo 4 (qm (cb false))])
  .ret)
  .skip))
 (.seq (.seq (rg [xo 5 (qm (ci 0))])
 (.block 0 (.loop Eq)))
 (.seq (rg [xo 4 (qm (cb true))])
 .ret))))
def Ls:List Res:=[.tmp 4]
theorem Lq:Aw Tryd.prog Tryd.f31=some (Gs,Ls):=by kernel_rfl
def B7 (a0:List (Int×Int×Int×Int×Int)) (a1:List (Int×Int×Int×Int×Int)) (u0:Nat):Option (Ctl Nat (Ctl Unit Bool)) :=
 cond (decide ((u0:Int)<(a0.length:Int)))
 ((a0[u0]?).bind fun x14 =>
 (a1[u0]?).bind fun x15 =>
 (Du x14.1 x14.2.1 x14.2.2.1 x14.2.2.2.1 x14.2.2.2.2 x15.1 x15.2.1 x15.2.2.1 x15.2.2.2.1 x15.2.2.2.2).bind fun y16 =>
 cond (!y16)
  (some (Ctl.out (Ctl.out false)))
  (og (u0+1<4611686018427387904) <|
  some (Ctl.next (u0+1))))
 (some (Ctl.out (Ctl.next ())))
def C0 (a0:List (Int×Int×Int×Int×Int)) (a1:List (Int×Int×Int×Int×Int)):Option Bool :=
 cond ((a0.length:Int) !=(a1.length:Int))
 (some false)
 (Q2 (Bs (fun s_:Nat=>B7 a0 a1 s_) 4611686018427387904 0) fun _ =>
 some true)
def Kr (r:Bool):RV:=⟨false,[(false,[.sc (.bool r)])]⟩
theorem Ky {a0:List (Int×Int×Int×Int×Int)} {a1:List (Int×Int×Int×Int×Int)} {r:Bool} (h:C0 a0 a1=some r):Az Tryd.prog Tab 31 [.tree T5 a0,.tree T5 a1] (Kr r):=by
 refine Ay (by kernel_rfl) Tryd.func31 Lq (n:=27) (by kernel_rfl) (by simp) rfl ?_;unfold Gs;unfold C0 at h;refine Al (Ac (Al ?_));rcases Aa h with ⟨q4,h⟩ | ⟨q4,h⟩
 ·refine Ae q4 (Al (Ag (tr_ ?_)));obtain rfl:=zj h;exact A2 [.bool false] (Ar rfl zl As)
 refine Af q4 (Ak (tn_ (wr_ (G8 h (fun (_:Unit) S_=>S_=⟨Ao [],Aq (A5 []),2⟩) ?_ ?_))))
 ·intro v_ h hk6;refine Al (Ax (C2 h (fun (u0:Nat) S_=>S_=⟨Ao [(0,.tree T5 a0),(1,.tree T5 a1),(5,an u0)],Aq (A5 []),2⟩) ⟨_,Ad [],rfl⟩ ?_));rintro n_ u0 _ c_ rfl h hn8
  (try dsimp only at h);unfold B7 at h;unfold Eq;refine Ac (Al ?_);rcases Aa h with ⟨q11,h⟩ | ⟨q11,h⟩
  ·have q11_:=of_decide_eq_true q11;refine Ae q11 (Ak (tn_ (wr_ (Ac (Ax (Ac ?_))))));obtain ⟨x14,e14,h⟩:=Ah h;obtain ⟨x15,e15,h⟩:=Ah h;obtain ⟨y16,h16,h⟩:=Ah h;refine Cu 16 (dz0 (.tree T5 a0) (dz0 (an u0) (dzI T5 e14 (dz0 (.agg [ai x14.1,ai x14.2.1,ai x14.2.2.1,ai x14.2.2.2.1,ai x14.2.2.2.2]) (dz0 (.tree T5 a1) (dz0 (an u0) (dzI T5 e15 (dz0 (.agg [ai x15.1,ai x15.2.1,ai x15.2.2.1,ai x15.2.2.2.1,ai x15.2.2.2.2]) (dzc (.bool y16) [] [.agg [ai x14.1,ai x14.2.1,ai x14.2.2.1,ai x14.2.2.2.1,ai x14.2.2.2.2],.agg [ai x15.1,ai x15.2.1,ai x15.2.2.1,ai x15.2.2.2.1,ai x15.2.2.2.2]] (L1 h16) (dz0 (.bool (!y16)) (Qo (Dh (by kernel_rfl)) (tn_ (wr_ ?_)))))))))))));rcases Aa h with ⟨q17,h⟩ | ⟨q17,h⟩
   ·refine Ae q17 (Al (Ag (br_ (tr_ (tr_ (br_ (tr_ ?_)))))));obtain rfl:=zj h;have h:=hn8
    (try dsimp only at h);obtain rfl:=zj h;have h:=hk6
    (try dsimp only at h);obtain rfl:=zj h;exact A2 [.bool false] (Ar rfl zl As)
   refine Af q17 (Ak (bn_ (tn_ (wr_ ?_))));obtain ⟨g19,h⟩:=Bk h;refine Ab 19 (rsT 1 (zA g19 (rsT 1 (Av (tn_ ?_)))));obtain rfl:=zj h;exact ⟨u0+1,_,Ad [],rfl,hn8⟩
  have q11_:=of_decide_eq_false q11;refine Af q11 (C3 (te_ (te_ (be_ (tn_ ?_)))));obtain rfl:=zj h;have h:=hn8
  (try dsimp only at h);obtain rfl:=zj h;exact ⟨(),_,rfl,Ad [],rfl⟩
 rintro _ _ rfl h
 (try dsimp only at h);refine Al (Ag ?_);obtain rfl:=zj h;exact A2 [.bool true] (Ar rfl zl As)
def F0:AC :=
 (.seq (rg [xo 2 (.i (.box 42 (tm 0))),xo 3 (.i (.box 42 (tm 1))),xo 4 (qm (cb false))])
 (.seq (.seq (rg [xf 5 0 2,xl 6 5,xf 7 0 3,xl 8 7,xo 9 (qb .neq (tm 6) (tm 8))])
 (.cond (tm 9)
  (.seq (rg [xo 4 (qm (cb false))])
  .ret)
  .skip))
 (.seq (.seq (rg [xf 10 1 2,xl 11 10,xf 12 1 3,xl 13 12,xo 14 (qb .neq (tm 11) (tm 13))])
 (.cond (tm 14)
  (.seq (rg [xo 4 (qm (cb false))])
  .ret)
  .skip))
 (.seq (.seq (rg [xf 15 2 2,xl 16 15,xf 17 2 3,xl 18 17,xo 19 (qb .neq (tm 16) (tm 18))])
 (.cond (tm 19)
  (.seq (rg [xo 4 (qm (cb false))])
  .ret)
  .skip))
 (.seq (.seq (rg [xf 20 3 2,xl 21 20,xf 22 3 3,xl 23 22,xo 24 (qb .neq (tm 21) (tm 23))])
 (.cond (tm 24)
  (.seq (rg [xo 4 (qm (cb false))])
  .ret)
  .skip))
 (.seq (.seq (rg [xf 25 4 2,xl 26 25,xf 27 4 3,xl 28 27,⟨some 29,none,qc 31 [tm 26,tm 28] [[some T5],[some T5]]⟩,xo 30 (.i (.not (tm 29)))])
 (.cond (tm 30)
  (.seq (rg [xo 4 (qm (cb false))])
  .ret)
  .skip))
 (.seq (rg [xo 4 (qm (cb true))])
 .ret)))))))
def K7:List Res:=[.tmp 4]
theorem Ke:Aw Tryd.prog Tryd.f14=some (F0,K7):=by kernel_rfl
theorem Jr:Ba Tryd.prog 14=true:=by kernel_rfl
def Ci (u0 u1:Int) (u2 u3:Int) (u4:List (Int×Int×Int×Int×Int)) (u5 u6:Int) (u7 u8:Int) (u9:List (Int×Int×Int×Int×Int)):Option Bool :=
 cond (u0 !=u5)
 (some false)
 (cond (u1 !=u6)
  (some false)
  (cond (u2 !=u7)
   (some false)
   (cond (u3 !=u8)
    (some false)
    ((C0 u4 u9).bind fun y20 =>
    cond (!y20)
     (some false)
     (some true)))))
def J0 (r:Bool):RV:=⟨false,[(false,[.sc (.bool r)])]⟩
theorem Ji {u2 u3:Int} {u4 u5:Int} {u0:List (Int×Int×Int×Int×Int)} {u6 u7:Int} {u8 u9:Int} {u1:List (Int×Int×Int×Int×Int)} {r:Bool} (h:Ci u2 u3 u4 u5 u0 u6 u7 u8 u9 u1=some r):Az Tryd.prog Tab 14 [.agg [ai u2,ai u3,ai u4,ai u5,.tree T5 u0],.agg [ai u6,ai u7,ai u8,ai u9,.tree T5 u1]] (J0 r):=by
 refine Ay (by kernel_rfl) Tryd.func14 Ke (n:=31) (by kernel_rfl) (by simp) rfl ?_;unfold F0;unfold Ci at h;refine Al (Ac (Al ?_));rcases Aa h with ⟨q4,h⟩ | ⟨q4,h⟩
 ·refine Ae q4 (Al (Ag (tr_ ?_)));obtain rfl:=zj h;exact A2 [.bool false] (Ar rfl zl As)
 refine Af q4 (Ak (tn_ (wr_ (Ac (Al ?_)))));rcases Aa h with ⟨q8,h⟩ | ⟨q8,h⟩
 ·refine Ae q8 (Al (Ag (tr_ ?_)));obtain rfl:=zj h;exact A2 [.bool false] (Ar rfl zl As)
 refine Af q8 (Ak (tn_ (wr_ (Ac (Al ?_)))));rcases Aa h with ⟨q12,h⟩ | ⟨q12,h⟩
 ·refine Ae q12 (Al (Ag (tr_ ?_)));obtain rfl:=zj h;exact A2 [.bool false] (Ar rfl zl As)
 refine Af q12 (Ak (tn_ (wr_ (Ac (Al ?_)))));rcases Aa h with ⟨q16,h⟩ | ⟨q16,h⟩
 ·refine Ae q16 (Al (Ag (tr_ ?_)));obtain rfl:=zj h;exact A2 [.bool false] (Ar rfl zl As)
 refine Af q16 (Ak (tn_ (wr_ (Ac (Ac ?_)))));obtain ⟨y20,h20,h⟩:=Ah h;refine Ab 30 (rsT 4 (zc (.bool y20) [] [.tree T5 u0,.tree T5 u1] (Ky h20) (rsT 1 (Av (tn_ (wr_ ?_))))));rcases Aa h with ⟨q21,h⟩ | ⟨q21,h⟩
 ·refine Ae q21 (Al (Ag (tr_ ?_)));obtain rfl:=zj h;exact A2 [.bool false] (Ar rfl zl As)
 refine Af q21 (Ak (tn_ (wr_ (Al (Ag ?_)))));obtain rfl:=zj h;exact A2 [.bool true] (Ar rfl zl As)
end

section
open Go.RowKit Go.Deep
set_option maxRecDepth 4000
def G1:AC :=
 (.seq (rg [xo 4 (.i (.box 42 (tm 1))),xo 5 (.i (.box 82 (tm 2))),xo 6 (qm (cb false))])
 (.seq (.region [xf 10 1 5,xl 11 10,xf 12 3 4,xl 13 12,xo 14 (qb .sub (tm 13) (ci 1)),xo 15 (qc 33 [tm 11,ci 0,tm 14] [[],[],[]]),xf 16 2 5,xl 17 16,xf 18 3 4,xl 19 18,xo 20 (qb .sub (tm 19) (ci 1)),xo 21 (qc 33 [tm 17,ci 0,tm 20] [[],[],[]]),xf 22 3 5,xl 23 22,xf 24 3 4,xl 25 24,xo 26 (qb .sub (tm 25) (ci 1)),xo 27 (qc 33 [tm 23,ci 0,tm 26] [[],[],[]]),xm 7 15,xm 8 21,xm 9 27] true [(5,7),(5,9),(5,13),(11,13),(5,15),(11,15)])
 (.seq (.seq (rg [xf 28 0 5,xl 29 28])
 (.block 0 (.seq (rg [xo 31 (qb .eql (tm 29) (ci 1)),xm 30 31])
 (.cond (tm 30)
  (.seq (rg [xm 32 7,xm 33 32,⟨some 34,some (33,true),qf 2 (tm 5)⟩,⟨some 35,some (33,true),ql (tm 34)⟩,⟨some 36,some (33,true),qf 0 (tm 4)⟩,⟨some 37,some (33,true),ql (tm 36)⟩,⟨some 38,some (33,true),qb .sub (tm 37) (ci 1)⟩,⟨some 39,some (33,true),qc 33 [tm 35,ci 0,tm 38] [[],[],[]]⟩,xo 40 (.i (.pick (tm 33) (tm 39) (cb false))),xm 41 40,⟨some 42,some (41,true),qf 3 (tm 5)⟩,⟨some 43,some (41,true),ql (tm 42)⟩,⟨some 44,some (41,true),qb .eql (tm 43) (ci 0)⟩,xo 45 (.i (.pick (tm 41) (tm 44) (cb false))),xm 46 45,⟨some 47,some (46,true),qf 4 (tm 5)⟩,⟨some 48,some (46,true),ql (tm 47)⟩,⟨some 49,some (46,true),qb .eql (tm 48) (ci 0)⟩,xo 50 (.i (.pick (tm 46) (tm 49) (cb false))),xm 6 50])
  .ret)
  (.seq (rg [xo 52 (qb .eql (tm 29) (ci 2)),xm 51 52])
  (.cond (tm 51)
   (.seq (rg [xm 53 7,xm 54 53,⟨some 55,some (54,true),qf 2 (tm 5)⟩,⟨some 56,some (54,true),ql (tm 55)⟩,⟨some 57,some (54,true),qb .eql (tm 56) (ci 0)⟩,xo 58 (.i (.pick (tm 54) (tm 57) (cb false))),xm 59 58,⟨some 60,some (59,true),qf 3 (tm 5)⟩,⟨some 61,some (59,true),ql (tm 60)⟩,⟨some 62,some (59,true),qb .eql (tm 61) (ci 0)⟩,xo 63 (.i (.pick (tm 59) (tm 62) (cb false))),xm 64 63,⟨some 65,some (64,true),qf 4 (tm 5)⟩,⟨some 66,some (64,true),ql (tm 65)⟩,⟨some 67,some (64,true),qb .eql (tm 66) (ci 0)⟩,xo 68 (.i (.pick (tm 64) (tm 67) (cb false))),xm 6 68])
   .ret)
   (.seq (rg [xo 70 (qb .eql (tm 29) (ci 3)),xm 69 70])
   (.cond (tm 69)
    (.seq (rg [xm 71 7,xm 72 71,⟨some 73,some (72,true),qm (tm 8)⟩,xo 74 (.i (.pick (tm 72) (tm 73) (cb false))),xm 75 74,⟨some 76,some (75,true),qm (tm 9)⟩,xo 77 (.i (.pick (tm 75) (tm 76) (cb false))),xm 78 77,⟨some 79,some (78,true),qf 4 (tm 5)⟩,⟨some 80,some (78,true),ql (tm 79)⟩,⟨some 81,some (78,true),qb .eql (tm 80) (ci 0)⟩,xo 82 (.i (.pick (tm 78) (tm 81) (cb false))),xm 6 82])
    .ret)
    (.seq (rg [xo 84 (qb .eql (tm 29) (ci 4)),xm 83 84])
    (.cond (tm 83)
     (.seq (rg [xm 85 7,xm 86 85,⟨some 87,some (86,true),qm (tm 8)⟩,xo 88 (.i (.pick (tm 86) (tm 87) (cb false))),xm 89 88,⟨some 90,some (89,true),qf 3 (tm 5)⟩,⟨some 91,some (89,true),ql (tm 90)⟩,⟨some 92,some (89,true),qb .eql (tm 91) (ci 0)⟩,xo 93 (.i (.pick (tm 89) (tm 92) (cb false))),xm 94 93,⟨some 95,some (94,true),qf 4 (tm 5)⟩,⟨some 96,some (94,true),ql (tm 95)⟩,⟨some 97,some (94,true),qm (tm 0)⟩,⟨some 98,some (94,true),qb .sub (tm 97) (ci 1)⟩,⟨some 99,some (94,true),qc 33 [tm 96,ci 0,tm 98] [[],[],[]]⟩,xo 100 (.i (.pick (tm 94) (tm 99) (cb false))),xm 6 100])
     .ret)
     (.seq (.seq (rg [xo 102 (qb .eql (tm 29) (ci 5)),xm 101 102])
     (.cond (tm 101)
      .skip
      (rg [xo 103 (qb .eql (tm 29) (ci 6)),xm 101 103])))
     (.cond (tm 101)
      (.seq (rg [xm 104 7,xm 105 104,⟨some 106,some (105,true),qf 2 (tm 5)⟩,⟨some 107,some (105,true),ql (tm 106)⟩,⟨some 108,some (105,true),qf 2 (tm 4)⟩,⟨some 109,some (105,true),ql (tm 108)⟩,⟨some 110,some (105,true),qb .sub (tm 109) (ci 1)⟩,⟨some 111,some (105,true),qc 33 [tm 107,ci 0,tm 110] [[],[],[]]⟩,xo 112 (.i (.pick (tm 105) (tm 111) (cb false))),xm 113 112,⟨some 114,some (113,true),qf 3 (tm 5)⟩,⟨some 115,some (113,true),ql (tm 114)⟩,⟨some 116,some (113,true),qb .eql (tm 115) (ci 0)⟩,xo 117 (.i (.pick (tm 113) (tm 116) (cb false))),xm 118 117,⟨some 119,some (118,true),qf 4 (tm 5)⟩,⟨some 120,some (118,true),ql (tm 119)⟩,⟨some 121,some (118,true),qb .eql (tm 120) (ci 0)⟩,xo 122 (.i (.pick (tm 118) (tm 121) (cb false))),xm 6 122])
      .ret)
      (.seq (rg [xo 124 (qb .eql (tm 29) (ci 7)),xm 123 124])
      (.cond (tm 123)
       (.seq (rg [xm 125 7,xm 126 125,⟨some 127,some (126,true),qf 2 (tm 5)⟩,⟨some 128,some (126,true),ql (tm 127)⟩,⟨some 129,some (126,true),qf 1 (tm 4)⟩,⟨some 130,some (126,true),ql (tm 129)⟩,⟨some 131,some (126,true),qb .sub (tm 130) (ci 1)⟩,⟨some 132,some (126,true),qc 33 [tm 128,ci 0,tm 131] [[],[],[]]⟩,xo 133 (.i (.pick (tm 126) (tm 132) (cb false))),xm 134 133,⟨some 135,some (134,true),qf 3 (tm 5)⟩,⟨some 136,some (134,true),ql (tm 135)⟩,⟨some 137,some (134,true),qb .eql (tm 136) (ci 0)⟩,xo 138 (.i (.pick (tm 134) (tm 137) (cb false))),xm 139 138,⟨some 140,some (139,true),qf 4 (tm 5)⟩,⟨some 141,some (139,true),ql (tm 140)⟩,⟨some 142,some (139,true),qb .eql (tm 141) (ci 0)⟩,xo 143 (.i (.pick (tm 139) (tm 142) (cb false))),xm 6 143])
       .ret)
       .skip))))))))))))))
 (.seq (rg [xo 6 (qm (cb false))])
 .ret))))
def N4:List Res:=[.tmp 6]
theorem M1:Aw Tryd.prog Tryd.f52=some (G1,N4):=by kernel_rfl
def C8 (a0 u5:Int) (u6 u7 u4:Int) (ug:List (Int×Int×Int×Int×Int)) (u0 u8:Int) (u3 u1 u2:Int):Option Bool :=
 (A4 u8 0 (wI (u4 - 1))).bind fun y3 =>
(A4 u3 0 (wI (u4 - 1))).bind fun y4 =>
(A4 u1 0 (wI (u4 - 1))).bind fun y5 =>
cond (u0==1)
 ((cond y3
   ((A4 u3 0 (wI (u5 - 1))).bind fun y12 =>
   cond y12
    (cond (u1==0)
     (some (u2==0))
     (some false))
    (some false))
   (some false)).bind fun u9 =>
 some u9)
 (cond (u0==2)
  ((cond y3
    (cond (u3==0)
     (cond (u1==0)
      (some (u2==0))
      (some false))
     (some false))
    (some false)).bind fun ua =>
  some ua)
  (cond (u0==3)
   ((cond y3
     (cond y4
      (cond y5
       (some (u2==0))
       (some false))
      (some false))
     (some false)).bind fun ub =>
   some ub)
   (cond (u0==4)
    ((cond y3
      (cond y4
       (cond (u1==0)
        ((A4 u2 0 (wI (a0 - 1))).bind fun y33 =>
        some y33)
        (some false))
       (some false))
      (some false)).bind fun uc =>
    some uc)
    ((cond (u0==5)
      (some (u0==5))
      (some (u0==6))).bind fun ud =>
    cond ud
     ((cond y3
       ((A4 u3 0 (wI (u7 - 1))).bind fun y40 =>
       cond y40
        (cond (u1==0)
         (some (u2==0))
         (some false))
        (some false))
       (some false)).bind fun ue =>
     some ue)
     (cond (u0==7)
      ((cond y3
        ((A4 u3 0 (wI (u6 - 1))).bind fun y47 =>
        cond y47
         (cond (u1==0)
          (some (u2==0))
          (some false))
         (some false))
        (some false)).bind fun uf =>
      some uf)
      (some false))))))
def Lz (r:Bool):RV:=⟨false,[(false,[.sc (.bool r)])]⟩
set_option maxHeartbeats 1600000 in
theorem L3 {a0 u2:Int} {u3 u4 u0:Int} {u9:List (Int×Int×Int×Int×Int)} {u8 u5:Int} {u1 u6 u7:Int} {r:Bool} (h:C8 a0 u2 u3 u4 u0 u9 u8 u5 u1 u6 u7=some r):Az Tryd.prog Tab 52 [ai a0,.agg [ai u2,ai u3,ai u4,ai u0,.tree T5 u9],.agg [ai u8,ai u5,ai u1,ai u6,ai u7]] (Lz r):=by
 refine Ay (by kernel_rfl) Tryd.func52 M1 (n:=144) (by kernel_rfl) (by simp) rfl ?_;unfold G1;unfold C8 at h;refine Al (Ac ?_);obtain ⟨y3,h3,h⟩:=Ah h;obtain ⟨y4,h4,h⟩:=Ah h;obtain ⟨y5,h5,h⟩:=Ah h;refine Cu 25 (dz0 (.box (oi 5 2) 1) (dzl (ai u5) (dz0 (.box (oi 4 1) 3) (dzl (ai u0) (dz0 (ai (wI (u0 - 1))) (dzc (.bool y3) [] [ai u5,ai 0,ai (wI (u0 - 1))] (A9 h3) (dz0 (.box (oi 5 2) 2) (dzl (ai u1) (dz0 (.box (oi 4 1) 3) (dzl (ai u0) (dz0 (ai (wI (u0 - 1))) (dzc (.bool y4) [] [ai u1,ai 0,ai (wI (u0 - 1))] (A9 h4) (dz0 (.box (oi 5 2) 3) (dzl (ai u6) (dz0 (.box (oi 4 1) 3) (dzl (ai u0) (dz0 (ai (wI (u0 - 1))) (dzc (.bool y5) [] [ai u6,ai 0,ai (wI (u0 - 1))] (A9 h5) (dz0 (.bool y3) (dz0 (.bool y4) (dz0 (.bool y5) (Qo (Dh (by kernel_rfl)) (tn_ (wr_ (Ac (Al (Ax (Al ?_))))))))))))))))))))))))))));rcases Aa h with ⟨q9,h⟩ | ⟨q9,h⟩
 ·refine Ae q9 (A1 h (fun (ua:Bool) S_=>S_=⟨Ao [(6,.bool ua)],Aq (A5 []),2⟩) ?_ ?_)
  ·intro v_ h;refine Ab 49 (rsT 2 ?_);rcases Aa h with ⟨q11,h⟩ | ⟨q11,h⟩
   ·obtain ⟨y12,h12,h⟩:=Ah h;refine rq 33 q11 (rsT 5 (Cr (.bool y12) [] [ai u1,ai 0,ai (wI (u2 - 1))] _ (caps:=[]) (args0:=[ai u1,ai 0,ai (wI (u2 - 1))]) (C4 (by kernel_rfl)) (by kernel_rfl) (A9 h12) B9 (rsT 2 ?_)));rcases Aa h with ⟨q13,h⟩ | ⟨q13,h⟩
    ·refine rq 41 q13 (rsT 5 ?_);rcases Aa h with ⟨q14,h⟩ | ⟨q14,h⟩
     ·refine rq 46 q14 (rsT 5 (Av (tn_ ?_)));obtain rfl:=zj h;exact ⟨_,Ad [],rfl⟩
     refine rq 46 q14 (rsT 5 (Av (tn_ ?_)));obtain rfl:=zj h;exact ⟨_,Ad [],rfl⟩
    refine rq 41 q13 (rsT 10 (Av (tn_ ?_)));obtain rfl:=zj h;exact ⟨_,Ad [],rfl⟩
   refine rq 33 q11 (rsT 18 (Av (tn_ ?_)));obtain rfl:=zj h;exact ⟨_,Ad [],rfl⟩
  rintro ua _ rfl h
  (try dsimp only at h);refine Ag (br_ (tr_ ?_));obtain rfl:=zj h;exact A2 [.bool ua] (Ar rfl zl As)
 refine Af q9 (Al ?_);rcases Aa h with ⟨q16,h⟩ | ⟨q16,h⟩
 ·refine Ae q16 (A1 h (fun (ub:Bool) S_=>S_=⟨Ao [(6,.bool ub)],Aq (A5 []),2⟩) ?_ ?_)
  ·intro v_ h;refine Ab 48 (rsT 2 ?_);rcases Aa h with ⟨q18,h⟩ | ⟨q18,h⟩
   ·refine rq 54 q18 (rsT 5 ?_);rcases Aa h with ⟨q19,h⟩ | ⟨q19,h⟩
    ·refine rq 59 q19 (rsT 5 ?_);rcases Aa h with ⟨q20,h⟩ | ⟨q20,h⟩
     ·refine rq 64 q20 (rsT 5 (Av (tn_ ?_)));obtain rfl:=zj h;exact ⟨_,Ad [],rfl⟩
     refine rq 64 q20 (rsT 5 (Av (tn_ ?_)));obtain rfl:=zj h;exact ⟨_,Ad [],rfl⟩
    refine rq 59 q19 (rsT 10 (Av (tn_ ?_)));obtain rfl:=zj h;exact ⟨_,Ad [],rfl⟩
   refine rq 54 q18 (rsT 15 (Av (tn_ ?_)));obtain rfl:=zj h;exact ⟨_,Ad [],rfl⟩
  rintro ub _ rfl h
  (try dsimp only at h);refine Ag (br_ (tr_ ?_));obtain rfl:=zj h;exact A2 [.bool ub] (Ar rfl zl As)
 refine Af q16 (Al ?_);rcases Aa h with ⟨q22,h⟩ | ⟨q22,h⟩
 ·refine Ae q22 (A1 h (fun (uc:Bool) S_=>S_=⟨Ao [(6,.bool uc)],Aq (A5 []),2⟩) ?_ ?_)
  ·intro v_ h;refine Ab 46 (rsT 2 ?_);rcases Aa h with ⟨q24,h⟩ | ⟨q24,h⟩
   ·refine rq 72 q24 (rsT 3 ?_);rcases Aa h with ⟨q25,h⟩ | ⟨q25,h⟩
    ·refine rq 75 q25 (rsT 3 ?_);rcases Aa h with ⟨q26,h⟩ | ⟨q26,h⟩
     ·refine rq 78 q26 (rsT 5 (Av (tn_ ?_)));obtain rfl:=zj h;exact ⟨_,Ad [],rfl⟩
     refine rq 78 q26 (rsT 5 (Av (tn_ ?_)));obtain rfl:=zj h;exact ⟨_,Ad [],rfl⟩
    refine rq 75 q25 (rsT 8 (Av (tn_ ?_)));obtain rfl:=zj h;exact ⟨_,Ad [],rfl⟩
   refine rq 72 q24 (rsT 11 (Av (tn_ ?_)));obtain rfl:=zj h;exact ⟨_,Ad [],rfl⟩
  rintro uc _ rfl h
  (try dsimp only at h);refine Ag (br_ (tr_ ?_));obtain rfl:=zj h;exact A2 [.bool uc] (Ar rfl zl As)
 refine Af q22 (Al ?_);rcases Aa h with ⟨q28,h⟩ | ⟨q28,h⟩
 ·refine Ae q28 (A1 h (fun (ud:Bool) S_=>S_=⟨Ao [(6,.bool ud)],Aq (A5 []),2⟩) ?_ ?_)
  ·intro v_ h;refine Ab 52 (rsT 2 ?_);rcases Aa h with ⟨q30,h⟩ | ⟨q30,h⟩
   ·refine rq 86 q30 (rsT 3 ?_);rcases Aa h with ⟨q31,h⟩ | ⟨q31,h⟩
    ·refine rq 89 q31 (rsT 5 ?_);rcases Aa h with ⟨q32,h⟩ | ⟨q32,h⟩
     ·obtain ⟨y33,h33,h⟩:=Ah h;refine rq 94 q32 (rsT 4 (Cr (.bool y33) [] [ai u7,ai 0,ai (wI (a0 - 1))] _ (caps:=[]) (args0:=[ai u7,ai 0,ai (wI (a0 - 1))]) (C4 (by kernel_rfl)) (by kernel_rfl) (A9 h33) B9 (rsT 2 (Av (tn_ ?_)))));obtain rfl:=zj h;exact ⟨_,Ad [],rfl⟩
     refine rq 94 q32 (rsT 7 (Av (tn_ ?_)));obtain rfl:=zj h;exact ⟨_,Ad [],rfl⟩
    refine rq 89 q31 (rsT 12 (Av (tn_ ?_)));obtain rfl:=zj h;exact ⟨_,Ad [],rfl⟩
   refine rq 86 q30 (rsT 15 (Av (tn_ ?_)));obtain rfl:=zj h;exact ⟨_,Ad [],rfl⟩
  rintro ud _ rfl h
  (try dsimp only at h);refine Ag (br_ (tr_ ?_));obtain rfl:=zj h;exact A2 [.bool ud] (Ar rfl zl As)
 refine Af q28 (A1 h (fun (ug:Bool) S_=>S_=⟨Ao [(4,.box (oi 0 1) 0),(5,.box (oi 1 1) 0),(7,.bool y3),(29,ai u8),(101,.bool ug)],Aq (A5 [(oi 0 1,.cells 42 [ai u2,ai u3,ai u4,ai u0,.tree T5 u9]),(oi 1 1,.cells 82 [ai u8,ai u5,ai u1,ai u6,ai u7])]),2⟩) ?_ ?_)
 ·intro v_ h;refine Al ?_;rcases Aa h with ⟨q36,h⟩ | ⟨q36,h⟩
  ·refine Ae q36 (Ak (tn_ ?_));obtain rfl:=zj h;exact ⟨_,Ad [(oi 0 1,oi 4 1),(oi 1 1,oi 5 2)],rfl⟩
  refine Af q36 (Ab 39 (rsT 2 (Av (tn_ ?_))));obtain rfl:=zj h;exact ⟨_,Ad [(oi 0 1,oi 4 1),(oi 1 1,oi 5 2)],rfl⟩
 rintro ug _ rfl h
 (try dsimp only at h);rcases Aa h with ⟨q37,h⟩ | ⟨q37,h⟩
 ·refine Ae q37 (A1 h (fun (ue:Bool) S_=>S_=⟨Ao [(6,.bool ue)],Aq (A5 []),2⟩) ?_ ?_)
  ·intro v_ h;refine Ab 22 (rsT 2 ?_);rcases Aa h with ⟨q39,h⟩ | ⟨q39,h⟩
   ·obtain ⟨y40,h40,h⟩:=Ah h;refine rq 105 q39 (rsT 5 (Cr (.bool y40) [] [ai u1,ai 0,ai (wI (u4 - 1))] _ (caps:=[]) (args0:=[ai u1,ai 0,ai (wI (u4 - 1))]) (C4 (by kernel_rfl)) (by kernel_rfl) (A9 h40) B9 (rsT 2 ?_)));rcases Aa h with ⟨q41,h⟩ | ⟨q41,h⟩
    ·refine rq 113 q41 (rsT 5 ?_);rcases Aa h with ⟨q42,h⟩ | ⟨q42,h⟩
     ·refine rq 118 q42 (rsT 5 (Av (tn_ ?_)));obtain rfl:=zj h;exact ⟨_,Ad [],rfl⟩
     refine rq 118 q42 (rsT 5 (Av (tn_ ?_)));obtain rfl:=zj h;exact ⟨_,Ad [],rfl⟩
    refine rq 113 q41 (rsT 10 (Av (tn_ ?_)));obtain rfl:=zj h;exact ⟨_,Ad [],rfl⟩
   refine rq 105 q39 (rsT 18 (Av (tn_ ?_)));obtain rfl:=zj h;exact ⟨_,Ad [],rfl⟩
  rintro ue _ rfl h
  (try dsimp only at h);refine Ag (br_ (tr_ ?_));obtain rfl:=zj h;exact A2 [.bool ue] (Ar rfl zl As)
 refine Af q37 (Al ?_);rcases Aa h with ⟨q44,h⟩ | ⟨q44,h⟩
 ·refine Ae q44 (A1 h (fun (uf:Bool) S_=>S_=⟨Ao [(6,.bool uf)],Aq (A5 []),2⟩) ?_ ?_)
  ·intro v_ h;refine Ab 24 (rsT 2 ?_);rcases Aa h with ⟨q46,h⟩ | ⟨q46,h⟩
   ·obtain ⟨y47,h47,h⟩:=Ah h;refine rq 126 q46 (rsT 5 (Cr (.bool y47) [] [ai u1,ai 0,ai (wI (u3 - 1))] _ (caps:=[]) (args0:=[ai u1,ai 0,ai (wI (u3 - 1))]) (C4 (by kernel_rfl)) (by kernel_rfl) (A9 h47) B9 (rsT 2 ?_)));rcases Aa h with ⟨q48,h⟩ | ⟨q48,h⟩
    ·refine rq 134 q48 (rsT 5 ?_);rcases Aa h with ⟨q49,h⟩ | ⟨q49,h⟩
     ·refine rq 139 q49 (rsT 5 (Av (tn_ ?_)));obtain rfl:=zj h;exact ⟨_,Ad [],rfl⟩
     refine rq 139 q49 (rsT 5 (Av (tn_ ?_)));obtain rfl:=zj h;exact ⟨_,Ad [],rfl⟩
    refine rq 134 q48 (rsT 10 (Av (tn_ ?_)));obtain rfl:=zj h;exact ⟨_,Ad [],rfl⟩
   refine rq 126 q46 (rsT 18 (Av (tn_ ?_)));obtain rfl:=zj h;exact ⟨_,Ad [],rfl⟩
  rintro uf _ rfl h
  (try dsimp only at h);refine Ag (br_ (tr_ ?_));obtain rfl:=zj h;exact A2 [.bool uf] (Ar rfl zl As)
 refine Af q44 (Ak (bn_ (tn_ (wr_ (Al (Ag ?_))))));obtain rfl:=zj h;exact A2 [.bool false] (Ar rfl zl As)
def Fo:AC :=
 (.seq (rg [xs1 44 43 42])
 (.seq (.cond (tm 44)
  .skip
  (.exit 0))
 (.seq (.block 1 (.seq (rg [xx 45 5 41 43,xo 46 (.i (.ld false 5 (tm 45))),xo 6 (.i (.alloc 82 [.int .i64 0,.int .i64 0,.int .i64 0,.int .i64 0,.int .i64 0])),xn (.st false 5 (tm 6) (tm 46))])
 (.seq (rg [xm 47 0,xo 48 (.i (.ld false 5 (tm 3))),xo 49 (.i (.ld false 5 (tm 6))),⟨some 50,none,qc 52 [tm 47,tm 48,tm 49] [[],[none,none,none,none,some T5],[none,none,none,none,none]]⟩,xo 51 (.i (.not (tm 50)))])
 (.cond (tm 51)
  (.seq (rg [xo 4 (qm (cb false))])
  .ret)
  .skip))))
 (rg [xa 52 43,xm 43 52]))))
def Ia:AC :=
 (.seq (rg [xo 3 (.i (.box 42 (tm 1))),xo 4 (qm (cb false))])
 (.seq (.seq (rg [xm 7 0,xo 8 (qc 51 [tm 7] [[]]),xo 9 (.i (.not (tm 8))),xm 10 9,⟨some 11,some (10,false),qf 0 (tm 3)⟩,⟨some 12,some (10,false),ql (tm 11)⟩,⟨some 13,some (10,false),qc 33 [tm 12,ci 0,ci 8] [[],[],[]]⟩,⟨some 14,some (10,false),.i (.not (tm 13))⟩,xo 15 (.i (.pick (tm 10) (cb true) (tm 14))),xm 16 15,⟨some 17,some (16,false),qf 1 (tm 3)⟩,⟨some 18,some (16,false),ql (tm 17)⟩,⟨some 19,some (16,false),qc 33 [tm 18,ci 0,ci 8] [[],[],[]]⟩,⟨some 20,some (16,false),.i (.not (tm 19))⟩,xo 21 (.i (.pick (tm 16) (cb true) (tm 20))),xm 22 21,⟨some 23,some (22,false),qf 2 (tm 3)⟩,⟨some 24,some (22,false),ql (tm 23)⟩,⟨some 25,some (22,false),qc 33 [tm 24,ci 0,ci 40] [[],[],[]]⟩,⟨some 26,some (22,false),.i (.not (tm 25))⟩,xo 27 (.i (.pick (tm 22) (cb true) (tm 26))),xm 28 27,⟨some 29,some (28,false),qf 3 (tm 3)⟩,⟨some 30,some (28,false),ql (tm 29)⟩,⟨some 31,some (28,false),qc 33 [tm 30,ci 0,ci 16] [[],[],[]]⟩,⟨some 32,some (28,false),.i (.not (tm 31))⟩,xo 33 (.i (.pick (tm 28) (cb true) (tm 32))),xm 34 33,⟨some 35,some (34,false),qf 4 (tm 3)⟩,⟨some 36,some (34,false),ql (tm 35)⟩,⟨some 37,some (34,false),.i (.len (tm 36))⟩,⟨some 38,some (34,false),qb .gtr (tm 37) (ci 120)⟩,xo 39 (.i (.pick (tm 34) (cb true) (tm 38)))])
 (.cond (tm 39)
  (.seq (rg [xo 4 (qm (cb false))])
  .ret)
  .skip))
 (.seq (.seq (rg [xf 40 4 3,xl 41 40,xn1 42 41,xo 43 (qm (ci 0))])
 (.block 0 (.loop Fo)))
 (.seq (rg [xo 4 (qm (cb true))])
 .ret))))
def Ok:List Res:=[.tmp 4]
theorem Oj:Aw Tryd.prog Tryd.f26=some (Ia,Ok):=by kernel_rfl
def Df (u1:List (Int×Int×Int×Int×Int)) (a0 u2:Int) (u3 u4 u5:Int) (u0:Nat):Option (Ctl Nat (Ctl Unit Bool)) :=
 cond (decide ((u0:Int)<(u1.length:Int)))
 ((u1[u0]?).bind fun x24 =>
 (C8 a0 u2 u3 u4 u5 u1 x24.1 x24.2.1 x24.2.2.1 x24.2.2.2.1 x24.2.2.2.2).bind fun y26 =>
 cond (!y26)
  (some (Ctl.out (Ctl.out false)))
  (og (u0+1<4611686018427387904) <|
  some (Ctl.next (u0+1))))
 (some (Ctl.out (Ctl.next ())))
def Do (a0 u0:Int) (u1 u2 u3:Int) (u4:List (Int×Int×Int×Int×Int)):Option Bool :=
 ((Dp a0).bind fun y4 =>
 cond (!y4)
  (some true)
  ((A4 u0 0 8).bind fun y6 =>
  cond (!y6)
   (some true)
   ((A4 u1 0 8).bind fun y8 =>
   cond (!y8)
    (some true)
    ((A4 u2 0 40).bind fun y10 =>
    cond (!y10)
     (some true)
     ((A4 u3 0 16).bind fun y12 =>
     cond (!y12)
      (some true)
      (some (decide (120<(u4.length:Int))))))))).bind fun u5 =>
cond u5
 (some false)
 (Q2 (Bs (fun s_:Nat=>Df u4 a0 u0 u1 u2 u3 s_) 4611686018427387904 0) fun _ =>
 some true)
def Me (r:Bool):RV:=⟨false,[(false,[.sc (.bool r)])]⟩
theorem Mf {a0 u0:Int} {u1 u2 u3:Int} {u4:List (Int×Int×Int×Int×Int)} {r:Bool} (h:Do a0 u0 u1 u2 u3 u4=some r):Az Tryd.prog Tab 26 [ai a0,.agg [ai u0,ai u1,ai u2,ai u3,.tree T5 u4]] (Me r):=by
 refine Ay (by kernel_rfl) Tryd.func26 Oj (n:=53) (by kernel_rfl) (by simp) rfl ?_;unfold Ia;unfold Do at h;refine Al (Ac (A1 h (fun (u6:Bool) S_=>S_=⟨Ao [(0,ai a0),(3,.box (oi 0 1) 0),(39,.bool u6)],Aq (A5 [(oi 0 1,.cells 42 [ai u0,ai u1,ai u2,ai u3,.tree T5 u4])]),2⟩) ?_ ?_))
 ·intro v_ h;obtain ⟨y4,h4,h⟩:=Ah h;refine Ab 36 (rsT 1 (zc (.bool y4) [] [ai a0] (M7 h4) (rsT 2 ?_)));rcases Aa h with ⟨q5,h⟩ | ⟨q5,h⟩
  ·refine rq 10 q5 (rsT 29 (Av (tn_ ?_)));obtain rfl:=zj h;exact ⟨_,Ad [(oi 0 1,oi 3 1)],rfl⟩
  obtain ⟨y6,h6,h⟩:=Ah h;refine rq 10 q5 (rsT 2 (Cr (.bool y6) [] [ai u0,ai 0,ai 8] _ (caps:=[]) (args0:=[ai u0,ai 0,ai 8]) (C4 (by kernel_rfl)) (by kernel_rfl) (A9 h6) B9 (rsT 3 ?_)));rcases Aa h with ⟨q7,h⟩ | ⟨q7,h⟩
  ·refine rq 16 q7 (rsT 23 (Av (tn_ ?_)));obtain rfl:=zj h;exact ⟨_,Ad [(oi 0 1,oi 3 1)],rfl⟩
  obtain ⟨y8,h8,h⟩:=Ah h;refine rq 16 q7 (rsT 2 (Cr (.bool y8) [] [ai u1,ai 0,ai 8] _ (caps:=[]) (args0:=[ai u1,ai 0,ai 8]) (C4 (by kernel_rfl)) (by kernel_rfl) (A9 h8) B9 (rsT 3 ?_)));rcases Aa h with ⟨q9,h⟩ | ⟨q9,h⟩
  ·refine rq 22 q9 (rsT 17 (Av (tn_ ?_)));obtain rfl:=zj h;exact ⟨_,Ad [(oi 0 1,oi 3 1)],rfl⟩
  obtain ⟨y10,h10,h⟩:=Ah h;refine rq 22 q9 (rsT 2 (Cr (.bool y10) [] [ai u2,ai 0,ai 40] _ (caps:=[]) (args0:=[ai u2,ai 0,ai 40]) (C4 (by kernel_rfl)) (by kernel_rfl) (A9 h10) B9 (rsT 3 ?_)));rcases Aa h with ⟨q11,h⟩ | ⟨q11,h⟩
  ·refine rq 28 q11 (rsT 11 (Av (tn_ ?_)));obtain rfl:=zj h;exact ⟨_,Ad [(oi 0 1,oi 3 1)],rfl⟩
  obtain ⟨y12,h12,h⟩:=Ah h;refine rq 28 q11 (rsT 2 (Cr (.bool y12) [] [ai u3,ai 0,ai 16] _ (caps:=[]) (args0:=[ai u3,ai 0,ai 16]) (C4 (by kernel_rfl)) (by kernel_rfl) (A9 h12) B9 (rsT 3 ?_)));rcases Aa h with ⟨q13,h⟩ | ⟨q13,h⟩
  ·refine rq 34 q13 (rsT 5 (Av (tn_ ?_)));obtain rfl:=zj h;exact ⟨_,Ad [(oi 0 1,oi 3 1)],rfl⟩
  refine rq 34 q13 (rsT 5 (Av (tn_ ?_)));obtain rfl:=zj h;exact ⟨_,Ad [(oi 0 1,oi 3 1)],rfl⟩
 rintro u6 _ rfl h
 (try dsimp only at h);rcases Aa h with ⟨q14,h⟩ | ⟨q14,h⟩
 ·refine Ae q14 (Al (Ag (tr_ ?_)));obtain rfl:=zj h;exact A2 [.bool false] (Ar rfl zl As)
 refine Af q14 (Ak (tn_ (wr_ (G8 h (fun (_:Unit) S_=>S_=⟨Ao [],Aq (A5 []),2⟩) ?_ ?_))))
 ·intro v_ h hk16;refine Al (Ax (C2 h (fun (u5:Nat) S_=>S_=⟨Ao [(0,ai a0),(3,.box (oi 0 1) 0),(41,.tree T5 u4),(42,an u4.length),(43,an u5)],Aq (A5 [(oi 0 1,.cells 42 [ai u0,ai u1,ai u2,ai u3,.tree T5 u4])]),2⟩) ⟨_,Ad [],rfl⟩ ?_));rintro n_ u5 _ c_ rfl h hn18
  (try dsimp only at h);unfold Df at h;unfold Fo;refine Al (Ac ?_);rcases Aa h with ⟨q21,h⟩ | ⟨q21,h⟩
  ·have q21_:=of_decide_eq_true q21;refine Ae q21 (Ak (tn_ (wr_ (Ac (Ax (Ac ?_))))));obtain ⟨x24,e24,h⟩:=Ah h;refine Ab 7 (zI T5 e24 (rsB 3 (Av (tn_ (wr_ (Ac ?_))))));obtain ⟨y26,h26,h⟩:=Ah h;refine Ab 12 (rsT 3 (zc (.bool y26) [] [ai a0,.agg [ai u0,ai u1,ai u2,ai u3,.tree T5 u4],.agg [ai x24.1,ai x24.2.1,ai x24.2.2.1,ai x24.2.2.2.1,ai x24.2.2.2.2]] (L3 h26) (rsT 1 (Av (tn_ (wr_ ?_))))));rcases Aa h with ⟨q27,h⟩ | ⟨q27,h⟩
   ·refine Ae q27 (Al (Ag (br_ (tr_ (tr_ (br_ (tr_ ?_)))))));obtain rfl:=zj h;have h:=hn18
    (try dsimp only at h);obtain rfl:=zj h;have h:=hk16
    (try dsimp only at h);obtain rfl:=zj h;exact A2 [.bool false] (Ar rfl zl As)
   refine Af q27 (Ak (bn_ (tn_ (wr_ ?_))));obtain ⟨g29,h⟩:=Bk h;refine Ab 14 (zA g29 (rsT 1 (Av (tn_ ?_))));obtain rfl:=zj h;exact ⟨u5+1,_,Ad [],rfl,hn18⟩
  have q21_:=of_decide_eq_false q21;refine Af q21 (C3 (te_ (te_ (be_ (tn_ ?_)))));obtain rfl:=zj h;have h:=hn18
  (try dsimp only at h);obtain rfl:=zj h;exact ⟨(),_,rfl,Ad [],rfl⟩
 rintro _ _ rfl h
 (try dsimp only at h);refine Al (Ag ?_);obtain rfl:=zj h;exact A2 [.bool true] (Ar rfl zl As)
def Ew:AC :=
 (.seq (rg [xo 1 (.i (.box 82 (tm 0))),xo 2 (qm (.cst .nils))])
 (.seq (.seq (rg [xf 3 0 1,xl 4 3])
 (.block 0 (.seq (rg [xo 6 (qb .eql (tm 4) (ci 3)),xm 5 6])
 (.cond (tm 5)
  (.seq (rg [xf 7 2 1,xl 8 7,xf 9 3 1,xl 10 9,xo 11 (.mkS 3 .int [tm 8,tm 10]),xm 2 11])
  .ret)
  (.seq (rg [xo 13 (qb .eql (tm 4) (ci 4)),xm 12 13])
  (.cond (tm 12)
   (.seq (rg [xf 14 2 1,xl 15 14,xo 16 (.mkS 3 .int [tm 15]),xm 2 16])
   .ret)
   (.seq (.seq (rg [xo 18 (qb .eql (tm 4) (ci 6)),xm 17 18])
   (.cond (tm 17)
    .skip
    (rg [xo 19 (qb .eql (tm 4) (ci 7)),xm 17 19])))
   (.cond (tm 17)
    (.seq (rg [xf 20 1 1,xl 21 20,xo 22 (.mkS 3 .int [tm 21]),xm 2 22])
    .ret)
    .skip))))))))
 (.seq (rg [xo 2 (qm (.cst .nils))])
 .ret)))
def Ip:List Res:=[.tmp 2]
theorem Iw:Aw Tryd.prog Tryd.f77=some (Ew,Ip):=by kernel_rfl
theorem Hu:Ba Tryd.prog 77=true:=by kernel_rfl
def Cx (u0 u2:Int) (u1 u3 u5:Int):Option (List Int) :=
 cond (u0==3)
 (some ([u1,u3]))
 (cond (u0==4)
  (some ([u1]))
  ((cond (u0==6)
    (some (u0==6))
    (some (u0==7))).bind fun u4 =>
  cond u4
   (some ([u2]))
   (some [])))
def Ht (r:List Int):RV:=⟨false,[(false,[.new 3 .int r])]⟩
theorem H1 {u0 u1:Int} {u2 u3 u4:Int} {r:List Int} (h:Cx u0 u1 u2 u3 u4=some r):Az Tryd.prog Tab 77 [.agg [ai u0,ai u1,ai u2,ai u3,ai u4]] (Ht r):=by
 refine Ay (by kernel_rfl) Tryd.func77 Iw (n:=23) (by kernel_rfl) (by simp) rfl ?_;unfold Ew;unfold Cx at h;refine Al (Ac (Al (Ax (Al ?_))));rcases Aa h with ⟨q5,h⟩ | ⟨q5,h⟩
 ·refine Ae q5 (Al (Ag (br_ (tr_ ?_))));obtain rfl:=zj h;exact A2 [oI 11 11 2] (Ar rfl (Gx (by kernel_rfl) rfl) As)
 refine Af q5 (Al ?_);rcases Aa h with ⟨q8,h⟩ | ⟨q8,h⟩
 ·refine Ae q8 (Al (Ag (br_ (tr_ ?_))));obtain rfl:=zj h;exact A2 [oI 16 11 1] (Ar rfl (Gx (by kernel_rfl) rfl) As)
 refine Af q8 (A1 h (fun (u5:Bool) S_=>S_=⟨Ao [(1,.box (oi 0 1) 0),(17,.bool u5)],Aq (A5 [(oi 0 1,.cells 82 [ai u0,ai u1,ai u2,ai u3,ai u4])]),2⟩) ?_ ?_)
 ·intro v_ h;refine Al ?_;rcases Aa h with ⟨q12,h⟩ | ⟨q12,h⟩
  ·refine Ae q12 (Ak (tn_ ?_));obtain rfl:=zj h;exact ⟨_,Ad [(oi 0 1,oi 1 1)],rfl⟩
  refine Af q12 (Ab 13 (rsT 2 (Av (tn_ ?_))));obtain rfl:=zj h;exact ⟨_,Ad [(oi 0 1,oi 1 1)],rfl⟩
 rintro u5 _ rfl h
 (try dsimp only at h);rcases Aa h with ⟨q13,h⟩ | ⟨q13,h⟩
 ·refine Ae q13 (Al (Ag (br_ (tr_ ?_))));obtain rfl:=zj h;exact A2 [oI 22 4 1] (Ar rfl (Gx (by kernel_rfl) rfl) As)
 refine Af q13 (Ak (bn_ (tn_ (wr_ (Al (Ag ?_))))));obtain rfl:=zj h;exact A2 [.nils] (Ar rfl (Xx rfl) As)
def Dt:AC :=
 (.seq (rg [xo 3 (.i (.box 42 (tm 0))),xo 5 (.i (.box 82 (tm 2))),xo 6 (qm (cb false))])
 (.seq (.seq (.region [xf 8 1 5,xl 9 8,xf 10 3 3,xl 11 10,xo 12 (qb .sub (tm 11) (ci 1)),xo 13 (qc 42 [tm 9,ci 0,tm 12] [[],[],[]]),xo 14 (.i (.not (tm 13))),xm 15 14,⟨some 16,some (15,false),.i (.ld false 5 (tm 5))⟩,⟨some 17,some (15,false),qc 77 [tm 16] [[none,none,none,none,none]]⟩,⟨some 18,some (15,false),qf 3 (tm 3)⟩,⟨some 19,some (15,false),ql (tm 18)⟩,⟨some 20,some (15,false),qc 76 [tm 17,tm 19] [[some .int],[]]⟩,⟨some 21,some (15,false),.i (.not (tm 20))⟩,xo 22 (.i (.pick (tm 15) (cb true) (tm 21)))] true [(9,11)])
 (.cond (tm 22)
  (.seq (rg [xo 6 (qm (cb false))])
  .ret)
  .skip))
 (.seq (rg [xf 23 3 5,xl 24 23,xo 25 (qb .eql (tm 24) (ci 0)),xm 26 25,⟨some 27,some (26,true),qf 4 (tm 5)⟩,⟨some 28,some (26,true),ql (tm 27)⟩,⟨some 29,some (26,true),qb .eql (tm 28) (ci 0)⟩,xo 30 (.i (.pick (tm 26) (tm 29) (cb false))),xm 7 30])
 (.seq (.seq (rg [xf 31 0 5,xl 32 31])
 (.block 0 (.seq (rg [xo 34 (qb .eql (tm 32) (ci 1)),xm 33 34])
 (.cond (tm 33)
  (.seq (rg [xm 35 7,xm 36 35,⟨some 37,some (36,true),qf 2 (tm 5)⟩,⟨some 38,some (36,true),ql (tm 37)⟩,⟨some 39,some (36,true),qf 0 (tm 3)⟩,⟨some 40,some (36,true),ql (tm 39)⟩,⟨some 41,some (36,true),qb .sub (tm 40) (ci 1)⟩,⟨some 42,some (36,true),qc 42 [tm 38,ci 0,tm 41] [[],[],[]]⟩,xo 43 (.i (.pick (tm 36) (tm 42) (cb false))),xm 6 43])
  .ret)
  (.seq (rg [xo 45 (qb .eql (tm 32) (ci 2)),xm 44 45])
  (.cond (tm 44)
   (.seq (rg [xm 46 7,xm 47 46,⟨some 48,some (47,true),qf 2 (tm 5)⟩,⟨some 49,some (47,true),ql (tm 48)⟩,⟨some 50,some (47,true),qb .eql (tm 49) (ci 0)⟩,xo 51 (.i (.pick (tm 47) (tm 50) (cb false))),xm 6 51])
   .ret)
   (.seq (rg [xo 53 (qb .eql (tm 32) (ci 3)),xm 52 53])
   (.cond (tm 52)
    (.seq (rg [xf 54 4 5,xl 55 54,xo 56 (qb .eql (tm 55) (ci 0)),xm 6 56])
    .ret)
    (.seq (rg [xo 58 (qb .eql (tm 32) (ci 4)),xm 57 58])
    (.cond (tm 57)
     (.seq (rg [xf 59 3 5,xl 60 59,xo 61 (qb .eql (tm 60) (ci 0)),xm 62 61,⟨some 63,some (62,true),qm (tm 1)⟩,⟨some 64,some (62,true),qf 4 (tm 5)⟩,⟨some 65,some (62,true),ql (tm 64)⟩,⟨some 66,some (62,true),qc 78 [tm 63,tm 65] [[],[]]⟩,xo 67 (.i (.pick (tm 62) (tm 66) (cb false))),xm 6 67])
     .ret)
     (.seq (.seq (rg [xo 69 (qb .eql (tm 32) (ci 5)),xm 68 69])
     (.cond (tm 68)
      .skip
      (rg [xo 70 (qb .eql (tm 32) (ci 6)),xm 68 70])))
     (.cond (tm 68)
      (.seq (rg [xm 71 7,xm 72 71,⟨some 73,some (72,true),qf 2 (tm 5)⟩,⟨some 74,some (72,true),ql (tm 73)⟩,⟨some 75,some (72,true),qf 2 (tm 3)⟩,⟨some 76,some (72,true),ql (tm 75)⟩,⟨some 77,some (72,true),qb .sub (tm 76) (ci 1)⟩,⟨some 78,some (72,true),qc 42 [tm 74,ci 0,tm 77] [[],[],[]]⟩,xo 79 (.i (.pick (tm 72) (tm 78) (cb false))),xm 6 79])
      .ret)
      (.seq (rg [xo 81 (qb .eql (tm 32) (ci 7)),xm 80 81])
      (.cond (tm 80)
       (.seq (rg [xm 82 7,xm 83 82,⟨some 84,some (83,true),qf 2 (tm 5)⟩,⟨some 85,some (83,true),ql (tm 84)⟩,⟨some 86,some (83,true),qf 1 (tm 3)⟩,⟨some 87,some (83,true),ql (tm 86)⟩,⟨some 88,some (83,true),qb .sub (tm 87) (ci 1)⟩,⟨some 89,some (83,true),qc 42 [tm 85,ci 0,tm 88] [[],[],[]]⟩,xo 90 (.i (.pick (tm 83) (tm 89) (cb false))),xm 6 90])
       .ret)
       .skip))))))))))))))
 (.seq (rg [xo 6 (qm (cb false))])
 .ret)))))
def Ge:List Res:=[.tmp 6]
theorem F5:Aw Tryd.prog Tryd.f60=some (Dt,Ge):=by kernel_rfl
def Bi (u7 u8:Int) (u9 u5:Int) (uh:List (Int×Int×Int×Int×Int)) (a1 u0:Int) (u6 u1:Int) (u4 u2:Int):Option Bool :=
 ((A3 u6 0 (wI (u5 - 1))).bind fun y4 =>
 cond (!y4)
  (some true)
  ((Cx u0 u6 u1 u4 u2).bind fun y6 =>
  (B8 y6 u5).bind fun y7 =>
  some (!y7))).bind fun ua =>
cond ua
 (some false)
 ((cond (u4==0)
   (some (u2==0))
   (some false)).bind fun u3 =>
 cond (u0==1)
  ((cond u3
    ((A3 u1 0 (wI (u7 - 1))).bind fun y18 =>
    some y18)
    (some false)).bind fun ub =>
  some ub)
  (cond (u0==2)
   ((cond u3
     (some (u1==0))
     (some false)).bind fun uc =>
   some uc)
   (cond (u0==3)
    (some (u2==0))
    (cond (u0==4)
     ((cond (u4==0)
       ((Cn a1 u2).bind fun y30 =>
       some y30)
       (some false)).bind fun ud =>
     some ud)
     ((cond (u0==5)
       (some (u0==5))
       (some (u0==6))).bind fun ue =>
     cond ue
      ((cond u3
        ((A3 u1 0 (wI (u9 - 1))).bind fun y37 =>
        some y37)
        (some false)).bind fun uf =>
      some uf)
      (cond (u0==7)
       ((cond u3
         ((A3 u1 0 (wI (u8 - 1))).bind fun y42 =>
         some y42)
         (some false)).bind fun ug =>
       some ug)
       (some false)))))))
def Fy (r:Bool):RV:=⟨false,[(false,[.sc (.bool r)])]⟩
set_option maxHeartbeats 1600000 in
theorem Fm {u6 u7:Int} {u8 u1:Int} {u9:List (Int×Int×Int×Int×Int)} {a1 u4:Int} {u3 u0:Int} {u5 u2:Int} {r:Bool} (h:Bi u6 u7 u8 u1 u9 a1 u4 u3 u0 u5 u2=some r):Az Tryd.prog Tab 60 [.agg [ai u6,ai u7,ai u8,ai u1,.tree T5 u9],ai a1,.agg [ai u4,ai u3,ai u0,ai u5,ai u2]] (Fy r):=by
 refine Ay (by kernel_rfl) Tryd.func60 F5 (n:=91) (by kernel_rfl) (by simp) rfl ?_;unfold Dt;unfold Bi at h;refine Al (Ac (A1 h (fun (ug:Bool) S_=>S_=⟨Ao [(1,ai a1),(3,.box (oi 0 1) 0),(5,.box (oi 1 1) 0),(22,.bool ug)],Aq (A5 [(oi 0 1,.cells 42 [ai u6,ai u7,ai u8,ai u1,.tree T5 u9]),(oi 1 1,.cells 82 [ai u4,ai u3,ai u0,ai u5,ai u2])]),2⟩) ?_ ?_))
 ·intro v_ h;obtain ⟨y4,h4,h⟩:=Ah h;refine Cu 19 (dz0 (.box (oi 5 2) 1) (dzl (ai u3) (dz0 (.box (oi 3 1) 3) (dzl (ai u1) (dz0 (ai (wI (u1 - 1))) (dzc (.bool y4) [] [ai u3,ai 0,ai (wI (u1 - 1))] (Bj h4) (dz0 (.bool (!y4)) (dz0 (.bool (!y4)) ?_))))))));rcases Aa h with ⟨q5,h⟩ | ⟨q5,h⟩
  ·refine dq 15 q5 (dz0 (.tup []) (dz0 (.tup []) (dz0 (.tup []) (dz0 (.tup []) (dz0 (.tup []) (dz0 (.tup []) (dz0 (.bool true) (Qo (Dh (by kernel_rfl)) (tn_ ?_)))))))));obtain rfl:=zj h;exact ⟨_,Ad [(oi 0 1,oi 3 1),(oi 1 1,oi 5 2)],rfl⟩
  obtain ⟨y6,h6,h⟩:=Ah h;obtain ⟨y7,h7,h⟩:=Ah h;refine dq 15 q5 (dzl (.agg [ai u4,ai u3,ai u0,ai u5,ai u2]) (Pb (oI 272 13 y6.length) [nI 272 13 y6] [.agg [ai u4,ai u3,ai u0,ai u5,ai u2]] _ (caps:=[]) (args0:=[.agg [ai u4,ai u3,ai u0,ai u5,ai u2]]) (C4 (by kernel_rfl)) (by kernel_rfl) (H1 h6) Hu (dz0 (.box (oi 3 1) 3) (dzl (ai u1) (Pb (.bool y7) [] [oI 272 13 y6.length,ai u1] _ (caps:=[]) (args0:=[tI y6,ai u1]) (C4 (by kernel_rfl)) (A0 (Fh (e:=3) (by kernel_rfl) rfl) (A0 (by kernel_rfl) D4)) (K9 h7) Kg (dz0 (.bool (!y7)) (dz0 (.bool (!y7)) (Qo (Dh (by kernel_rfl)) (tn_ ?_)))))))));obtain rfl:=zj h;exact ⟨_,Ad [(oi 0 1,oi 3 1),(oi 1 1,oi 5 2)],rfl⟩
 rintro ug _ rfl h
 (try dsimp only at h);rcases Aa h with ⟨q8,h⟩ | ⟨q8,h⟩
 ·refine Ae q8 (Al (Ag (tr_ ?_)));obtain rfl:=zj h;exact A2 [.bool false] (Ar rfl zl As)
 refine Af q8 (Ak (tn_ (wr_ (A1 h (fun (ua:Bool) S_=>S_=⟨Ao [(1,ai a1),(3,.box (oi 0 1) 0),(5,.box (oi 1 1) 0),(7,.bool ua)],Aq (A5 [(oi 0 1,.cells 42 [ai u6,ai u7,ai u8,ai u1,.tree T5 u9]),(oi 1 1,.cells 82 [ai u4,ai u3,ai u0,ai u5,ai u2])]),2⟩) ?_ ?_))))
 ·intro v_ h;refine Ab 11 (rsT 4 ?_);rcases Aa h with ⟨q11,h⟩ | ⟨q11,h⟩
  ·refine rq 26 q11 (rsT 5 (Av (tn_ ?_)));obtain rfl:=zj h;exact ⟨_,Ad [],rfl⟩
  refine rq 26 q11 (rsT 5 (Av (tn_ ?_)));obtain rfl:=zj h;exact ⟨_,Ad [],rfl⟩
 rintro ua _ rfl h
 (try dsimp only at h);refine Ac (Al (Ax (Al ?_)));rcases Aa h with ⟨q15,h⟩ | ⟨q15,h⟩
 ·refine Ae q15 (A1 h (fun (ub:Bool) S_=>S_=⟨Ao [(6,.bool ub)],Aq (A5 []),2⟩) ?_ ?_)
  ·intro v_ h;refine Ab 16 (rsT 2 ?_);rcases Aa h with ⟨q17,h⟩ | ⟨q17,h⟩
   ·obtain ⟨y18,h18,h⟩:=Ah h;refine rq 36 q17 (rsT 5 (Cr (.bool y18) [] [ai u0,ai 0,ai (wI (u6 - 1))] _ (caps:=[]) (args0:=[ai u0,ai 0,ai (wI (u6 - 1))]) (C4 (by kernel_rfl)) (by kernel_rfl) (Bj h18) B5 (rsT 2 (Av (tn_ ?_)))));obtain rfl:=zj h;exact ⟨_,Ad [],rfl⟩
   refine rq 36 q17 (rsT 8 (Av (tn_ ?_)));obtain rfl:=zj h;exact ⟨_,Ad [],rfl⟩
  rintro ub _ rfl h
  (try dsimp only at h);refine Ag (br_ (tr_ ?_));obtain rfl:=zj h;exact A2 [.bool ub] (Ar rfl zl As)
 refine Af q15 (Al ?_);rcases Aa h with ⟨q20,h⟩ | ⟨q20,h⟩
 ·refine Ae q20 (A1 h (fun (uc:Bool) S_=>S_=⟨Ao [(6,.bool uc)],Aq (A5 []),2⟩) ?_ ?_)
  ·intro v_ h;refine Ab 15 (rsT 2 ?_);rcases Aa h with ⟨q22,h⟩ | ⟨q22,h⟩
   ·refine rq 47 q22 (rsT 5 (Av (tn_ ?_)));obtain rfl:=zj h;exact ⟨_,Ad [],rfl⟩
   refine rq 47 q22 (rsT 5 (Av (tn_ ?_)));obtain rfl:=zj h;exact ⟨_,Ad [],rfl⟩
  rintro uc _ rfl h
  (try dsimp only at h);refine Ag (br_ (tr_ ?_));obtain rfl:=zj h;exact A2 [.bool uc] (Ar rfl zl As)
 refine Af q20 (Al ?_);rcases Aa h with ⟨q24,h⟩ | ⟨q24,h⟩
 ·refine Ae q24 (Al (Ag (br_ (tr_ ?_))));obtain rfl:=zj h;exact A2 [.bool (u2==0)] (Ar rfl zl As)
 refine Af q24 (Al ?_);rcases Aa h with ⟨q27,h⟩ | ⟨q27,h⟩
 ·refine Ae q27 (A1 h (fun (ud:Bool) S_=>S_=⟨Ao [(6,.bool ud)],Aq (A5 []),2⟩) ?_ ?_)
  ·intro v_ h;refine Ab 22 (rsT 4 ?_);rcases Aa h with ⟨q29,h⟩ | ⟨q29,h⟩
   ·obtain ⟨y30,h30,h⟩:=Ah h;refine rq 62 q29 (rsT 3 (Cr (.bool y30) [] [ai a1,ai u2] _ (caps:=[]) (args0:=[ai a1,ai u2]) (C4 (by kernel_rfl)) (by kernel_rfl) (Jg h30) I7 (rsT 2 (Av (tn_ ?_)))));obtain rfl:=zj h;exact ⟨_,Ad [],rfl⟩
   refine rq 62 q29 (rsT 6 (Av (tn_ ?_)));obtain rfl:=zj h;exact ⟨_,Ad [],rfl⟩
  rintro ud _ rfl h
  (try dsimp only at h);refine Ag (br_ (tr_ ?_));obtain rfl:=zj h;exact A2 [.bool ud] (Ar rfl zl As)
 refine Af q27 (A1 h (fun (uh:Bool) S_=>S_=⟨Ao [(3,.box (oi 0 1) 0),(5,.box (oi 1 1) 0),(7,.bool ua),(32,ai u4),(68,.bool uh)],Aq (A5 [(oi 0 1,.cells 42 [ai u6,ai u7,ai u8,ai u1,.tree T5 u9]),(oi 1 1,.cells 82 [ai u4,ai u3,ai u0,ai u5,ai u2])]),2⟩) ?_ ?_)
 ·intro v_ h;refine Al ?_;rcases Aa h with ⟨q33,h⟩ | ⟨q33,h⟩
  ·refine Ae q33 (Ak (tn_ ?_));obtain rfl:=zj h;exact ⟨_,Ad [],rfl⟩
  refine Af q33 (Ab 16 (rsT 2 (Av (tn_ ?_))));obtain rfl:=zj h;exact ⟨_,Ad [],rfl⟩
 rintro uh _ rfl h
 (try dsimp only at h);rcases Aa h with ⟨q34,h⟩ | ⟨q34,h⟩
 ·refine Ae q34 (A1 h (fun (ue:Bool) S_=>S_=⟨Ao [(6,.bool ue)],Aq (A5 []),2⟩) ?_ ?_)
  ·intro v_ h;refine Ab 12 (rsT 2 ?_);rcases Aa h with ⟨q36,h⟩ | ⟨q36,h⟩
   ·obtain ⟨y37,h37,h⟩:=Ah h;refine rq 72 q36 (rsT 5 (Cr (.bool y37) [] [ai u0,ai 0,ai (wI (u8 - 1))] _ (caps:=[]) (args0:=[ai u0,ai 0,ai (wI (u8 - 1))]) (C4 (by kernel_rfl)) (by kernel_rfl) (Bj h37) B5 (rsT 2 (Av (tn_ ?_)))));obtain rfl:=zj h;exact ⟨_,Ad [],rfl⟩
   refine rq 72 q36 (rsT 8 (Av (tn_ ?_)));obtain rfl:=zj h;exact ⟨_,Ad [],rfl⟩
  rintro ue _ rfl h
  (try dsimp only at h);refine Ag (br_ (tr_ ?_));obtain rfl:=zj h;exact A2 [.bool ue] (Ar rfl zl As)
 refine Af q34 (Al ?_);rcases Aa h with ⟨q39,h⟩ | ⟨q39,h⟩
 ·refine Ae q39 (A1 h (fun (uf:Bool) S_=>S_=⟨Ao [(6,.bool uf)],Aq (A5 []),2⟩) ?_ ?_)
  ·intro v_ h;refine Ab 14 (rsT 2 ?_);rcases Aa h with ⟨q41,h⟩ | ⟨q41,h⟩
   ·obtain ⟨y42,h42,h⟩:=Ah h;refine rq 83 q41 (rsT 5 (Cr (.bool y42) [] [ai u0,ai 0,ai (wI (u7 - 1))] _ (caps:=[]) (args0:=[ai u0,ai 0,ai (wI (u7 - 1))]) (C4 (by kernel_rfl)) (by kernel_rfl) (Bj h42) B5 (rsT 2 (Av (tn_ ?_)))));obtain rfl:=zj h;exact ⟨_,Ad [],rfl⟩
   refine rq 83 q41 (rsT 8 (Av (tn_ ?_)));obtain rfl:=zj h;exact ⟨_,Ad [],rfl⟩
  rintro uf _ rfl h
  (try dsimp only at h);refine Ag (br_ (tr_ ?_));obtain rfl:=zj h;exact A2 [.bool uf] (Ar rfl zl As)
 refine Af q39 (Ak (bn_ (tn_ (wr_ (Al (Ag ?_))))));obtain rfl:=zj h;exact A2 [.bool false] (Ar rfl zl As)
def E0:AC :=
 (.seq (rg [xo 3 (.i (.box 82 (tm 0))),xo 4 (qm (cb false))])
 (.seq (rg [xo 5 (.i (.ld false 5 (tm 1))),xl 6 2,xo 7 (.i (.ld false 5 (tm 3))),⟨some 8,none,qc 60 [tm 5,tm 6,tm 7] [[none,none,none,none,some T5],[],[none,none,none,none,none]]⟩,xo 9 (.i (.not (tm 8))),xm 4 9])
 .ret))
def I1:List Res:=[.tmp 4]
theorem Ix:Aw Tryd.prog Tryd.f59=some (E0,I1):=by kernel_rfl
theorem Hv:Ba Tryd.prog 59=true:=by kernel_rfl
def Cv (u0 u1:Int) (u2 u3:Int) (u4 u5:Int) (u6 u7 u8:Int) (u9:List (Int×Int×Int×Int×Int)) (ua:Int):Option Bool :=
 (Bi u5 u6 u7 u8 u9 ua u0 u1 u2 u3 u4).bind fun y3 =>
some (!y3)
def Hz (r:Bool):RV:=⟨false,[(false,[.sc (.bool r)])]⟩
theorem Hs {u0 u1:Int} {u2 u3:Int} {u4 u5:Int} {u6 u7 u8:Int} {u9:List (Int×Int×Int×Int×Int)} {ua:Int} {r:Bool} (h:Cv u0 u1 u2 u3 u4 u5 u6 u7 u8 u9 ua=some r):Az Tryd.prog Tab 59 [.agg [ai u0,ai u1,ai u2,ai u3,ai u4],.ref [ai u5,ai u6,ai u7,ai u8,.tree T5 u9],.ref [ai ua]] (Hz r):=by
 refine Ay (by kernel_rfl) Tryd.func59 Ix (n:=10) (by kernel_rfl) (by simp) rfl ?_;unfold E0;unfold Cv at h;refine Al (Ac ?_);obtain ⟨y3,h3,h⟩:=Ah h;refine Ab 9 (rsT 3 (zc (.bool y3) [] [.agg [ai u5,ai u6,ai u7,ai u8,.tree T5 u9],ai ua,.agg [ai u0,ai u1,ai u2,ai u3,ai u4]] (Fm h3) (rsT 2 (Av (tn_ (wr_ (Ag ?_)))))));obtain rfl:=zj h;exact A2 [.bool (!y3)] (Ar rfl zl As)
def Bd:AC :=
 (.seq (rg [xs1 9 8 7])
 (.seq (.cond (tm 9)
  .skip
  (.exit 0))
 (.seq (.block 1 (.seq (rg [xm 10 8,xm 5 10])
 (.seq (rg [xm 11 1,xm 12 0,xm 13 5,xx 14 5 12 13,xo 15 (.i (.ld false 5 (tm 14))),xo 16 (.call (tm 11) [tm 15] [[none,none,none,none,none]])])
 (.cond (tm 16)
  (.seq (rg [xm 17 5,xm 4 17])
  .ret)
  .skip))))
 (rg [xa 18 8,xm 8 18]))))
def Bp:AC :=
 (.seq (rg [xo 4 (qm (ci 0))])
 (.seq (.seq (rg [xm 6 0,xn1 7 6,xo 8 (qm (ci 0))])
 (.block 0 (.loop Bd)))
 (.seq (rg [xo 4 (qm (ci (-1)))])
 .ret)))
def C7:List Res:=[.tmp 4]
theorem C5:Aw Tryd.prog Tryd.f75=some (Bp,C7):=by kernel_rfl
def Ai (a0:List (Int×Int×Int×Int×Int)) (u1 u2:Int) (u3 u4:Int) (u5:List (Int×Int×Int×Int×Int)) (u6:Int) (u0:Nat):Option (Ctl Nat (Ctl Unit Int)) :=
 cond (decide ((u0:Int)<(a0.length:Int)))
 ((a0[u0]?).bind fun x11 =>
 (Cv x11.1 x11.2.1 x11.2.2.1 x11.2.2.2.1 x11.2.2.2.2 u1 u2 u3 u4 u5 u6).bind fun y12 =>
 cond y12
  (some (Ctl.out (Ctl.out (u0:Int))))
  (og (u0+1<4611686018427387904) <|
  some (Ctl.next (u0+1))))
 (some (Ctl.out (Ctl.next ())))
def An (a0:List (Int×Int×Int×Int×Int)) (u0 u1:Int) (u2 u3:Int) (u4:List (Int×Int×Int×Int×Int)) (u5:Int):Option Int :=
 Q2 (Bs (fun s_:Nat=>Ai a0 u0 u1 u2 u3 u4 u5 s_) 4611686018427387904 0) fun _ =>
some (-1)
def Bg (r:Int):RV:=⟨false,[(false,[.sc (.int .i64 r)])]⟩
theorem Bh {a0:List (Int×Int×Int×Int×Int)} {u0 u1:Int} {u2 u3:Int} {u4:List (Int×Int×Int×Int×Int)} {u5 r:Int} (h:An a0 u0 u1 u2 u3 u4 u5=some r):Az Tryd.prog Tab 75 [.tree T5 a0,.fn 59 [.ref [ai u0,ai u1,ai u2,ai u3,.tree T5 u4],.ref [ai u5]]] (Bg r):=by
 refine Ay (by kernel_rfl) Tryd.func75 C5 (n:=19) (by kernel_rfl) (by simp) rfl ?_;unfold Bp;unfold An at h;refine Al (G8 h (fun (_:Unit) S_=>S_=⟨Ao [],Aq (A5 []),2⟩) ?_ ?_)
 ·intro v_ h hk2;refine Al (Ax (C2 h (fun (u6:Nat) S_=>S_=⟨Ao [(0,.tree T5 a0),(1,.fn 59 [.ref [ai u0,ai u1,ai u2,ai u3,.tree T5 u4],.ref [ai u5]]),(7,an a0.length),(8,an u6)],Aq (A5 []),2⟩) ⟨_,Ad [],rfl⟩ ?_));rintro n_ u6 _ c_ rfl h hn4
  (try dsimp only at h);unfold Ai at h;unfold Bd;refine Al (Ac ?_);rcases Aa h with ⟨q7,h⟩ | ⟨q7,h⟩
  ·have q7_:=of_decide_eq_true q7;refine Ae q7 (Ak (tn_ (wr_ (Ac (Ax (Al (Ac ?_)))))));obtain ⟨x11,e11,h⟩:=Ah h;obtain ⟨y12,h12,h⟩:=Ah h;refine Ab 11 (rsT 3 (zI T5 e11 (rsT 1 (Cr (.bool y12) [] [.agg [ai x11.1,ai x11.2.1,ai x11.2.2.1,ai x11.2.2.2.1,ai x11.2.2.2.2],.ref [ai u0,ai u1,ai u2,ai u3,.tree T5 u4],.ref [ai u5]] _ (caps:=[.ref [ai u0,ai u1,ai u2,ai u3,.tree T5 u4],.ref [ai u5]]) (args0:=[.agg [ai x11.1,ai x11.2.1,ai x11.2.2.1,ai x11.2.2.2.1,ai x11.2.2.2.2],.ref [ai u0,ai u1,ai u2,ai u3,.tree T5 u4],.ref [ai u5]]) trivial (by kernel_rfl) (Hs h12) Hv (Av (tn_ (wr_ ?_)))))));rcases Aa h with ⟨q13,h⟩ | ⟨q13,h⟩
   ·refine Ae q13 (Al (Ag (br_ (tr_ (tr_ (br_ (tr_ ?_)))))));obtain rfl:=zj h;have h:=hn4
    (try dsimp only at h);obtain rfl:=zj h;have h:=hk2
    (try dsimp only at h);obtain rfl:=zj h;exact A2 [an u6] (Ar rfl zl As)
   refine Af q13 (Ak (bn_ (tn_ (wr_ ?_))));obtain ⟨g15,h⟩:=Bk h;refine Ab 13 (zA g15 (rsT 1 (Av (tn_ ?_))));obtain rfl:=zj h;exact ⟨u6+1,_,Ad [],rfl,hn4⟩
  have q7_:=of_decide_eq_false q7;refine Af q7 (C3 (te_ (te_ (be_ (tn_ ?_)))));obtain rfl:=zj h;have h:=hn4
  (try dsimp only at h);obtain rfl:=zj h;exact ⟨(),_,rfl,Ad [],rfl⟩
 rintro _ _ rfl h
 (try dsimp only at h);refine Al (Ag ?_);obtain rfl:=zj h;exact A2 [ai (-1)] (Ar rfl zl As)
def Be:AC :=
 (.seq (rg [xo 4 (qm (cb false))])
 (.seq (rg [xm 5 0,xm 6 1,⟨some 7,none,qc 75 [tm 5,tm 6] [[some T5],[]]⟩,xo 8 (qb .geq (tm 7) (ci 0)),xm 4 8])
 .ret))
def Cp:List Res:=[.tmp 4]
theorem Cq:Aw Tryd.prog Tryd.f58=some (Be,Cp):=by kernel_rfl
theorem Ch:Ba Tryd.prog 58=true:=by kernel_rfl
def Aj (a0:List (Int×Int×Int×Int×Int)) (u0 u1:Int) (u2 u3:Int) (u4:List (Int×Int×Int×Int×Int)) (u5:Int):Option Bool :=
 (An a0 u0 u1 u2 u3 u4 u5).bind fun y3 =>
some (decide (0<=y3))
def Bc (r:Bool):RV:=⟨false,[(false,[.sc (.bool r)])]⟩
theorem Bb {a0:List (Int×Int×Int×Int×Int)} {u0 u1:Int} {u2 u3:Int} {u4:List (Int×Int×Int×Int×Int)} {u5:Int} {r:Bool} (h:Aj a0 u0 u1 u2 u3 u4 u5=some r):Az Tryd.prog Tab 58 [.tree T5 a0,.fn 59 [.ref [ai u0,ai u1,ai u2,ai u3,.tree T5 u4],.ref [ai u5]]] (Bc r):=by
 refine Ay (by kernel_rfl) Tryd.func58 Cq (n:=9) (by kernel_rfl) (by simp) rfl ?_;unfold Be;unfold Aj at h;refine Al (Ac ?_);obtain ⟨y3,h3,h⟩:=Ah h;refine Ab 7 (rsT 2 (zc (ai y3) [] [.tree T5 a0,.fn 59 [.ref [ai u0,ai u1,ai u2,ai u3,.tree T5 u4],.ref [ai u5]]] (Bh h3) (rsT 2 (Av (tn_ (wr_ (Ag ?_)))))));obtain rfl:=zj h;exact A2 [.bool (decide (0<=y3))] (Ar rfl zl As)
def Fs:AC :=
 (.seq (rg [xo 2 (.i (.box 3 (tm 0))),xo 3 (.i (.box 42 (tm 1))),xo 4 (qm (cb false))])
 (.seq (.seq (rg [xl 5 2,xo 6 (qc 57 [tm 5] [[]]),xo 7 (.i (.not (tm 6))),xm 8 7,⟨some 9,some (8,false),qf 0 (tm 3)⟩,⟨some 10,some (8,false),ql (tm 9)⟩,⟨some 11,some (8,false),qc 42 [tm 10,ci 0,ci 8] [[],[],[]]⟩,⟨some 12,some (8,false),.i (.not (tm 11))⟩,xo 13 (.i (.pick (tm 8) (cb true) (tm 12))),xm 14 13,⟨some 15,some (14,false),qf 1 (tm 3)⟩,⟨some 16,some (14,false),ql (tm 15)⟩,⟨some 17,some (14,false),qc 42 [tm 16,ci 0,ci 8] [[],[],[]]⟩,⟨some 18,some (14,false),.i (.not (tm 17))⟩,xo 19 (.i (.pick (tm 14) (cb true) (tm 18))),xm 20 19,⟨some 21,some (20,false),qf 2 (tm 3)⟩,⟨some 22,some (20,false),ql (tm 21)⟩,⟨some 23,some (20,false),qc 42 [tm 22,ci 0,ci 40] [[],[],[]]⟩,⟨some 24,some (20,false),.i (.not (tm 23))⟩,xo 25 (.i (.pick (tm 20) (cb true) (tm 24))),xm 26 25,⟨some 27,some (26,false),qf 3 (tm 3)⟩,⟨some 28,some (26,false),ql (tm 27)⟩,⟨some 29,some (26,false),qc 42 [tm 28,ci 0,ci 16] [[],[],[]]⟩,⟨some 30,some (26,false),.i (.not (tm 29))⟩,xo 31 (.i (.pick (tm 26) (cb true) (tm 30))),xm 32 31,⟨some 33,some (32,false),qf 4 (tm 3)⟩,⟨some 34,some (32,false),ql (tm 33)⟩,⟨some 35,some (32,false),.i (.len (tm 34))⟩,⟨some 36,some (32,false),qb .gtr (tm 35) (ci 120)⟩,xo 37 (.i (.pick (tm 32) (cb true) (tm 36)))])
 (.cond (tm 37)
  (.seq (rg [xo 4 (qm (cb false))])
  .ret)
  .skip))
 (.seq (rg [xf 38 4 3,xl 39 38,xo 40 (.i (.mkfn 59 [tm 3,tm 2])),⟨some 41,none,qc 58 [tm 39,tm 40] [[some T5],[]]⟩,xo 42 (.i (.not (tm 41))),xm 4 42])
 .ret)))
def Kc:List Res:=[.tmp 4]
theorem K0:Aw Tryd.prog Tryd.f29=some (Fs,Kc):=by kernel_rfl
def Cm (a0 u1:Int) (u2 u3 u4:Int) (u0:List (Int×Int×Int×Int×Int)):Option Bool :=
 ((E7 a0).bind fun y4 =>
 cond (!y4)
  (some true)
  ((A3 u1 0 8).bind fun y6 =>
  cond (!y6)
   (some true)
   ((A3 u2 0 8).bind fun y8 =>
   cond (!y8)
    (some true)
    ((A3 u3 0 40).bind fun y10 =>
    cond (!y10)
     (some true)
     ((A3 u4 0 16).bind fun y12 =>
     cond (!y12)
      (some true)
      (some (decide (120<(u0.length:Int))))))))).bind fun u5 =>
cond u5
 (some false)
 ((Aj u0 u1 u2 u3 u4 u0 a0).bind fun y17 =>
 some (!y17))
def Jz (r:Bool):RV:=⟨false,[(false,[.sc (.bool r)])]⟩
theorem Ja {a0 u0:Int} {u1 u2 u3:Int} {u4:List (Int×Int×Int×Int×Int)} {r:Bool} (h:Cm a0 u0 u1 u2 u3 u4=some r):Az Tryd.prog Tab 29 [ai a0,.agg [ai u0,ai u1,ai u2,ai u3,.tree T5 u4]] (Jz r):=by
 refine Ay (by kernel_rfl) Tryd.func29 K0 (n:=43) (by kernel_rfl) (by simp) rfl ?_;unfold Fs;unfold Cm at h;refine Al (Ac (A1 h (fun (u5:Bool) S_=>S_=⟨Ao [(2,.box (oi 0 1) 0),(3,.box (oi 1 1) 0),(37,.bool u5)],Aq (A5 [(oi 0 1,.cells 3 [ai a0]),(oi 1 1,.cells 42 [ai u0,ai u1,ai u2,ai u3,.tree T5 u4])]),2⟩) ?_ ?_))
 ·intro v_ h;obtain ⟨y4,h4,h⟩:=Ah h;refine Ab 37 (rsT 1 (zc (.bool y4) [] [ai a0] (Ly h4) (rsT 2 ?_)));rcases Aa h with ⟨q5,h⟩ | ⟨q5,h⟩
  ·refine rq 8 q5 (rsT 29 (Av (tn_ ?_)));obtain rfl:=zj h;exact ⟨_,Ad [(oi 0 1,oi 2 1),(oi 1 1,oi 3 2)],rfl⟩
  obtain ⟨y6,h6,h⟩:=Ah h;refine rq 8 q5 (rsT 2 (Cr (.bool y6) [] [ai u0,ai 0,ai 8] _ (caps:=[]) (args0:=[ai u0,ai 0,ai 8]) (C4 (by kernel_rfl)) (by kernel_rfl) (Bj h6) B5 (rsT 3 ?_)));rcases Aa h with ⟨q7,h⟩ | ⟨q7,h⟩
  ·refine rq 14 q7 (rsT 23 (Av (tn_ ?_)));obtain rfl:=zj h;exact ⟨_,Ad [(oi 0 1,oi 2 1),(oi 1 1,oi 3 2)],rfl⟩
  obtain ⟨y8,h8,h⟩:=Ah h;refine rq 14 q7 (rsT 2 (Cr (.bool y8) [] [ai u1,ai 0,ai 8] _ (caps:=[]) (args0:=[ai u1,ai 0,ai 8]) (C4 (by kernel_rfl)) (by kernel_rfl) (Bj h8) B5 (rsT 3 ?_)));rcases Aa h with ⟨q9,h⟩ | ⟨q9,h⟩
  ·refine rq 20 q9 (rsT 17 (Av (tn_ ?_)));obtain rfl:=zj h;exact ⟨_,Ad [(oi 0 1,oi 2 1),(oi 1 1,oi 3 2)],rfl⟩
  obtain ⟨y10,h10,h⟩:=Ah h;refine rq 20 q9 (rsT 2 (Cr (.bool y10) [] [ai u2,ai 0,ai 40] _ (caps:=[]) (args0:=[ai u2,ai 0,ai 40]) (C4 (by kernel_rfl)) (by kernel_rfl) (Bj h10) B5 (rsT 3 ?_)));rcases Aa h with ⟨q11,h⟩ | ⟨q11,h⟩
  ·refine rq 26 q11 (rsT 11 (Av (tn_ ?_)));obtain rfl:=zj h;exact ⟨_,Ad [(oi 0 1,oi 2 1),(oi 1 1,oi 3 2)],rfl⟩
  obtain ⟨y12,h12,h⟩:=Ah h;refine rq 26 q11 (rsT 2 (Cr (.bool y12) [] [ai u3,ai 0,ai 16] _ (caps:=[]) (args0:=[ai u3,ai 0,ai 16]) (C4 (by kernel_rfl)) (by kernel_rfl) (Bj h12) B5 (rsT 3 ?_)));rcases Aa h with ⟨q13,h⟩ | ⟨q13,h⟩
  ·refine rq 32 q13 (rsT 5 (Av (tn_ ?_)));obtain rfl:=zj h;exact ⟨_,Ad [(oi 0 1,oi 2 1),(oi 1 1,oi 3 2)],rfl⟩
  refine rq 32 q13 (rsT 5 (Av (tn_ ?_)));obtain rfl:=zj h;exact ⟨_,Ad [(oi 0 1,oi 2 1),(oi 1 1,oi 3 2)],rfl⟩
 rintro u5 _ rfl h
 (try dsimp only at h);rcases Aa h with ⟨q14,h⟩ | ⟨q14,h⟩
 ·refine Ae q14 (Al (Ag (tr_ ?_)));obtain rfl:=zj h;exact A2 [.bool false] (Ar rfl zl As)
 refine Af q14 (Ak (tn_ (wr_ (Ac ?_))));obtain ⟨y17,h17,h⟩:=Ah h;refine Ab 8 (rsT 3 (Cr (.bool y17) [] [.tree T5 u4,.fn 59 [.box (oi 1 1) 0,.box (oi 0 1) 0]] _ (caps:=[]) (args0:=[.tree T5 u4,.fn 59 [.ref [ai u0,ai u1,ai u2,ai u3,.tree T5 u4],.ref [ai a0]]]) trivial (by kernel_rfl) (Bb h17) Ch (rsT 2 (Av (tn_ (wr_ (Ag ?_)))))));obtain rfl:=zj h;exact A2 [.bool (!y17)] (Ar rfl zl As)
end

section
open Go.RowKit Go.Deep
set_option maxRecDepth 4000
def J4:AC :=
 (.seq (rg [⟨some 2,none,.i (.mov (.cst (.str ⟨#[]⟩)))⟩])
 (.seq (.seq (rg [xm 3 0,xo 4 (qb .lss (tm 3) (ci 10))])
 (.cond (tm 4)
  (.seq (rg [xm 5 0,xo 6 (qb .add (ci 48) (tm 5)),xo 7 (.i (.conv .u8 (tm 6))),xo 8 (.mkV 5 .int 1 [tm 7]),xo 9 (.i (.b2s (tm 8))),xm 2 9])
  .ret)
  .skip))
 (.seq (.region [xm 10 0,xo 11 (qb .quo (tm 10) (ci 10)),xo 12 (qc 37 [tm 11] [[]]),xm 13 0,xo 14 (qb .rem (tm 13) (ci 10)),xo 15 (qb .add (ci 48) (tm 14)),xo 16 (.i (.conv .u8 (tm 15))),xo 17 (.mkV 5 .int 1 [tm 16]),xo 18 (.i (.b2s (tm 17))),xo 19 (qb .add (tm 12) (tm 18)),xm 2 19] true [(2,7),(2,8)])
 .ret)))
def P6:List Res:=[.tmp 2]
theorem Qj:Aw Tryd.prog Tryd.f37=some (J4,P6):=by kernel_rfl
theorem H7:Ba Tryd.prog 37=true:=by kernel_rfl
def Dd (rec_:Int->Option ByteArray) (a0:Int):Option ByteArray :=
 cond (decide (a0<10))
 (some (strOfNums [IntKind.u8.wrap (wI (48+a0))]))
 ((rec_ (wI (Int.tdiv a0 10))).bind fun y7 =>
 og (y7.size+(strOfNums [IntKind.u8.wrap (wI (48+Int.tmod a0 10))]).size<=9223372036854775807) <|
 some (y7++(strOfNums [IntKind.u8.wrap (wI (48+Int.tmod a0 10))])))
def Ct:Nat->Int->Option ByteArray
 | 0=>fun _=>none
 | n_+1=>Dd (Ct n_)
def Fg (r:ByteArray):RV:=⟨false,[(false,[.sc (.str r)])]⟩
theorem Nq {rec_:Int->Option ByteArray} (ih_:∀ {a0:Int} {r:ByteArray} (h:rec_ a0=some r),Az Tryd.prog Tab 37 [ai a0] (Fg r)) {a0:Int} {r:ByteArray} (h:Dd rec_ a0=some r):Az Tryd.prog Tab 37 [ai a0] (Fg r):=by
 refine Ay (by kernel_rfl) Tryd.func37 Qj (n:=20) (by kernel_rfl) (by simp) rfl ?_;unfold J4;unfold Dd at h;refine Al (Ac (Al ?_));rcases Aa h with ⟨q4,h⟩ | ⟨q4,h⟩
 ·have q4_:=of_decide_eq_true q4;refine Ae q4 (Ac (Ab 10 (rsT 3 (Yv (oI 8 7 1) (oi 8 7) (.vec 5 1 1 [.int .u8 (IntKind.u8.wrap (wI (48+a0)))]) trivial (Xs (by kernel_rfl)) (rsT 2 (Av (tn_ (wr_ (Ag (tr_ ?_))))))))));obtain rfl:=zj h;exact A2 [.str (strOfNums [IntKind.u8.wrap (wI (48+a0))])] (Ar rfl zl As)
 have q4_:=of_decide_eq_false q4;refine Af q4 (Ak (tn_ (wr_ (Ac ?_))));obtain ⟨y7,h7,h⟩:=Ah h;obtain ⟨g8,h⟩:=Bk h;refine Cu 15 (dz0 (ai a0) (ds0 (ai (wI (Int.tdiv a0 10))) (Yl (k:=.i64) (a:=a0) (b:=10) (by kernel_rfl) (by kernel_rfl) (by decide)) (Pb (.str y7) [] [ai (wI (Int.tdiv a0 10))] _ (caps:=[]) (args0:=[ai (wI (Int.tdiv a0 10))]) trivial (by kernel_rfl) (ih_ h7) H7 (dz0 (ai a0) (ds0 (ai (Int.tmod a0 10)) (Xj (k:=.i64) (a:=a0) (b:=10) (by kernel_rfl) (by kernel_rfl) (by decide)) (dz0 (ai (wI (48+Int.tmod a0 10))) (dz0 (.int .u8 (IntKind.u8.wrap (wI (48+Int.tmod a0 10)))) (Yx (oI 17 11 1) (oi 17 11) (.vec 5 1 1 [.int .u8 (IntKind.u8.wrap (wI (48+Int.tmod a0 10)))]) trivial (Xs (by kernel_rfl)) (dzl (.str (strOfNums [IntKind.u8.wrap (wI (48+Int.tmod a0 10))])) (ds0 (.str (y7++(strOfNums [IntKind.u8.wrap (wI (48+Int.tmod a0 10))]))) (Gj (a:=y7) (b:=strOfNums [IntKind.u8.wrap (wI (48+Int.tmod a0 10))]) (by kernel_rfl) (by kernel_rfl) g8) (dz0 (.str (y7++(strOfNums [IntKind.u8.wrap (wI (48+Int.tmod a0 10))]))) (Qo (Dh (by kernel_rfl)) (tn_ (wr_ (Ag ?_)))))))))))))));obtain rfl:=zj h;exact A2 [.str (y7++(strOfNums [IntKind.u8.wrap (wI (48+Int.tmod a0 10))]))] (Ar rfl zl As)
theorem Od:∀ (n_:Nat) {a0:Int} {r:ByteArray} (h:Ct n_ a0=some r),Az Tryd.prog Tab 37 [ai a0] (Fg r):=by
 intro n_
 induction n_ with
 | zero=>intros; rename_i h; cases h
 | succ n_ ih_=>intros; exact Nq ih_ (by assumption)
def Fz:AC :=
 (.seq (rg [xs1 10 9 8])
 (.seq (.cond (tm 10)
  .skip
  (.exit 0))
 (.seq (.block 1 (.seq (rg [xx 11 1 7 9,xl 12 11,xm 6 12])
 (rg [xm 13 0,xm 14 6,xo 15 (qc 37 [tm 14] [[]]),⟨some 16,none,.i (.bin .add (.cst (.str ⟨#[32]⟩)) (tm 15))⟩,xo 17 (qb .add (tm 13) (tm 16)),xm 0 17])))
 (rg [xa 18 9,xm 9 18]))))
def H5:AC :=
 (.seq (rg [⟨some 4,none,.i (.mov (.cst (.str ⟨#[]⟩)))⟩])
 (.seq (.seq (rg [xm 7 1,xn1 8 7,xo 9 (qm (ci 0))])
 (.block 0 (.loop Fz)))
 (.seq (rg [xm 19 0,⟨some 20,none,.i (.bin .add (tm 19) (.cst (.str ⟨#[10]⟩)))⟩,xm 4 20])
 .ret)))
def Oo:List Res:=[.tmp 4]
theorem Om:Aw Tryd.prog Tryd.f53=some (H5,Oo):=by kernel_rfl
theorem Gw:Ba Tryd.prog 53=true:=by kernel_rfl
def Cl (a1:List Int) (u1:ByteArray) (u0:Nat):Option (Ctl (ByteArray×Nat) ByteArray) :=
 cond (decide ((u0:Int)<(a1.length:Int)))
 ((a1[u0]?).bind fun x10 =>
 (Ct 4096 x10).bind fun y11 =>
 og ((⟨#[32]⟩:ByteArray).size+y11.size<=9223372036854775807) <|
 og (u1.size+((⟨#[32]⟩:ByteArray)++y11).size<=9223372036854775807) <|
 og (u0+1<4611686018427387904) <|
 some (Ctl.next (u1++((⟨#[32]⟩:ByteArray)++y11),u0+1)))
 (some (Ctl.out u1))
def Bx (a0:ByteArray) (a1:List Int):Option ByteArray :=
 (Bs (fun s_:ByteArray×Nat=>Cl a1 s_.1 s_.2) 4611686018427387904 (a0,0)).bind fun u0 =>
og (u0.size+(⟨#[10]⟩:ByteArray).size<=9223372036854775807) <|
some (u0++(⟨#[10]⟩:ByteArray))
def Ns (r:ByteArray):RV:=⟨false,[(false,[.sc (.str r)])]⟩
theorem Hd {a0:ByteArray} {a1:List Int} {r:ByteArray} (h:Bx a0 a1=some r):Az Tryd.prog Tab 53 [.str a0,tI a1] (Ns r):=by
 refine Ay (by kernel_rfl) Tryd.func53 Om (n:=21) (by kernel_rfl) (by simp) rfl ?_;unfold H5;unfold Bx at h;refine Al (A1 h (fun (u1:ByteArray) S_=>S_=⟨Ao [(0,.str u1)],Aq (A5 []),2⟩) ?_ ?_)
 ·intro v_ h;refine Al (Ax (C2 h (fun t_ S_=>∃ (u0:ByteArray),∃ (u2:Nat),t_=(u0,u2)∧S_=⟨Ao [(0,.str u0),(7,tI a1),(8,an a1.length),(9,an u2)],Aq (A5 []),2⟩) ⟨_,Ad [],⟨a0,0,rfl,rfl⟩⟩ ?_));rintro n_ _ _ c_ ⟨u0,u2,rfl,rfl⟩ h hn4
  (try dsimp only at h);unfold Cl at h;unfold Fz;refine Al (Ac ?_);rcases Aa h with ⟨q7,h⟩ | ⟨q7,h⟩
  ·have q7_:=of_decide_eq_true q7;refine Ae q7 (Ak (tn_ (wr_ (Ac (Ax (Ac ?_))))));obtain ⟨x10,e10,h⟩:=Ah h;refine Ab 6 (zI .int e10 (rsT 2 (Av (tn_ (wr_ ?_)))));obtain ⟨y11,h11,h⟩:=Ah h;obtain ⟨g12,h⟩:=Bk h;obtain ⟨g13,h⟩:=Bk h;refine Ab 12 (rsT 2 (Cr (.str y11) [] [ai x10] _ (caps:=[]) (args0:=[ai x10]) trivial (by kernel_rfl) (Od 4096 h11) H7 (rs0 (.str ((⟨#[32]⟩:ByteArray)++y11)) (Gj (a:=(⟨#[32]⟩:ByteArray)) (b:=y11) (by kernel_rfl) (by kernel_rfl) g12) (rs0 (.str (u0++((⟨#[32]⟩:ByteArray)++y11))) (Gj (a:=u0) (b:=(⟨#[32]⟩:ByteArray)++y11) (by kernel_rfl) (by kernel_rfl) g13) (rsT 1 (Av (bn_ (tn_ (wr_ ?_)))))))));obtain ⟨g14,h⟩:=Bk h;refine Ab 14 (zA g14 (rsT 1 (Av (tn_ ?_))));obtain rfl:=zj h;exact ⟨(u0++((⟨#[32]⟩:ByteArray)++y11),u2+1),_,Ad [],⟨u0++((⟨#[32]⟩:ByteArray)++y11),u2+1,rfl,rfl⟩,hn4⟩
  have q7_:=of_decide_eq_false q7;refine Af q7 (C3 (te_ (te_ (be_ (tn_ ?_)))));obtain rfl:=zj h;have h:=hn4
  (try dsimp only at h);obtain rfl:=zj h;exact ⟨_,Ad [],rfl⟩
 rintro u1 _ rfl h
 (try dsimp only at h);refine Ac ?_;obtain ⟨g16,h⟩:=Bk h;refine Ab 5 (rsT 1 (rs0 (.str (u1++(⟨#[10]⟩:ByteArray))) (Gj (a:=u1) (b:=(⟨#[10]⟩:ByteArray)) (by kernel_rfl) (by kernel_rfl) g16) (rsT 1 (Av (tn_ (wr_ (Ag ?_)))))));obtain rfl:=zj h;exact A2 [.str (u1++(⟨#[10]⟩:ByteArray))] (Ar rfl zl As)
def Ha:AC :=
 (.seq (rg [xo 0 (qm (.cst .nils))])
 (.seq (rg [⟨some 1,none,.mkS 9 .str [.cst (.str ⟨#[]⟩),.cst (.str ⟨#[105,110]⟩),.cst (.str ⟨#[122,101,114,111]⟩),.cst (.str ⟨#[97,100,100]⟩),.cst (.str ⟨#[115,99,97,108,101]⟩),.cst (.str ⟨#[108,111,97,100]⟩),.cst (.str ⟨#[115,116,111,114,101]⟩),.cst (.str ⟨#[111,117,116]⟩)]⟩,xm 0 1])
 .ret))
def Mr:List Res:=[.tmp 0]
theorem N3:Aw Tryd.prog Tryd.f54=some (Ha,Mr):=by kernel_rfl
def Cg  : Option (List ByteArray) :=
 some ([(⟨#[]⟩:ByteArray),(⟨#[105,110]⟩:ByteArray),(⟨#[122,101,114,111]⟩:ByteArray),(⟨#[97,100,100]⟩:ByteArray),(⟨#[115,99,97,108,101]⟩:ByteArray),(⟨#[108,111,97,100]⟩:ByteArray),(⟨#[115,116,111,114,101]⟩:ByteArray),(⟨#[111,117,116]⟩:ByteArray)])
def Lk (r:List ByteArray):RV:=⟨false,[(false,[.new 9 .str r])]⟩
theorem Ll {r:List ByteArray} (h:Cg=some r):Az Tryd.prog Tab 54 [] (Lk r):=by
 refine Ay (by kernel_rfl) Tryd.func54 N3 (n:=2) (by kernel_rfl) (by simp) rfl ?_;unfold Ha;unfold Cg at h;refine Al (Al (Ag ?_));obtain rfl:=zj h;exact A2 [.own (oi 1 2) .str 0 8] (Ar rfl (Gx (by kernel_rfl) rfl) As)
def Fn:AC :=
 (.seq (rg [xo 1 (.i (.box 82 (tm 0))),xo 2 (qm (.cst .nils))])
 (.seq (.seq (rg [xf 3 0 1,xl 4 3])
 (.block 0 (.seq (.seq (rg [xo 6 (qb .eql (tm 4) (ci 1)),xm 5 6])
 (.cond (tm 5)
  .skip
  (rg [xo 7 (qb .eql (tm 4) (ci 5)),xm 5 7])))
 (.cond (tm 5)
  (.seq (rg [xf 8 1 1,xl 9 8,xf 10 2 1,xl 11 10,xo 12 (.mkS 3 .int [tm 9,tm 11]),xm 2 12])
  .ret)
  (.seq (rg [xo 14 (qb .eql (tm 4) (ci 2)),xm 13 14])
  (.cond (tm 13)
   (.seq (rg [xf 15 1 1,xl 16 15,xo 17 (.mkS 3 .int [tm 16]),xm 2 17])
   .ret)
   (.seq (rg [xo 19 (qb .eql (tm 4) (ci 3)),xm 18 19])
   (.cond (tm 18)
    (.seq (rg [xf 20 1 1,xl 21 20,xf 22 2 1,xl 23 22,xf 24 3 1,xl 25 24,xo 26 (.mkS 3 .int [tm 21,tm 23,tm 25]),xm 2 26])
    .ret)
    (.seq (rg [xo 28 (qb .eql (tm 4) (ci 4)),xm 27 28])
    (.cond (tm 27)
     (.seq (rg [xf 29 1 1,xl 30 29,xf 31 2 1,xl 32 31,xf 33 4 1,xl 34 33,xo 35 (.mkS 3 .int [tm 30,tm 32,tm 34]),xm 2 35])
     .ret)
     .skip))))))))))
 (.seq (rg [xf 36 2 1,xl 37 36,xf 38 1 1,xl 39 38,xo 40 (.mkS 3 .int [tm 37,tm 39]),xm 2 40])
 .ret)))
def Kv:List Res:=[.tmp 2]
theorem Kw:Aw Tryd.prog Tryd.f55=some (Fn,Kv):=by kernel_rfl
def Bz (u0 u1:Int) (u2 u3 u4:Int):Option (List Int) :=
 (cond (u0==1)
  (some (u0==1))
  (some (u0==5))).bind fun u5 =>
cond u5
 (some ([u1,u2]))
 (cond (u0==2)
  (some ([u1]))
  (cond (u0==3)
   (some ([u1,u2,u3]))
   (cond (u0==4)
    (some ([u1,u2,u4]))
    (some ([u2,u1])))))
def Jf (r:List Int):RV:=⟨false,[(false,[.new 3 .int r])]⟩
theorem I5 {u0 u1:Int} {u2 u3 u4:Int} {r:List Int} (h:Bz u0 u1 u2 u3 u4=some r):Az Tryd.prog Tab 55 [.agg [ai u0,ai u1,ai u2,ai u3,ai u4]] (Jf r):=by
 refine Ay (by kernel_rfl) Tryd.func55 Kw (n:=41) (by kernel_rfl) (by simp) rfl ?_;unfold Fn;unfold Bz at h;refine Al (Ac (Al (Ax (A1 h (fun (u5:Bool) S_=>S_=⟨Ao [(1,.box (oi 0 1) 0),(4,ai u0),(5,.bool u5)],Aq (A5 [(oi 0 1,.cells 82 [ai u0,ai u1,ai u2,ai u3,ai u4])]),2⟩) ?_ ?_))))
 ·intro v_ h;refine Al ?_;rcases Aa h with ⟨q6,h⟩ | ⟨q6,h⟩
  ·refine Ae q6 (Ak (tn_ ?_));obtain rfl:=zj h;exact ⟨_,Ad [(oi 0 1,oi 1 1)],rfl⟩
  refine Af q6 (Ab 9 (rsT 2 (Av (tn_ ?_))));obtain rfl:=zj h;exact ⟨_,Ad [(oi 0 1,oi 1 1)],rfl⟩
 rintro u5 _ rfl h
 (try dsimp only at h);rcases Aa h with ⟨q7,h⟩ | ⟨q7,h⟩
 ·refine Ae q7 (Al (Ag (br_ (tr_ ?_))));obtain rfl:=zj h;exact A2 [oI 12 6 2] (Ar rfl (Gx (by kernel_rfl) rfl) As)
 refine Af q7 (Al ?_);rcases Aa h with ⟨q10,h⟩ | ⟨q10,h⟩
 ·refine Ae q10 (Al (Ag (br_ (tr_ ?_))));obtain rfl:=zj h;exact A2 [oI 17 6 1] (Ar rfl (Gx (by kernel_rfl) rfl) As)
 refine Af q10 (Al ?_);rcases Aa h with ⟨q13,h⟩ | ⟨q13,h⟩
 ·refine Ae q13 (Al (Ag (br_ (tr_ ?_))));obtain rfl:=zj h;exact A2 [oI 26 12 3] (Ar rfl (Gx (by kernel_rfl) rfl) As)
 refine Af q13 (Al ?_);rcases Aa h with ⟨q16,h⟩ | ⟨q16,h⟩
 ·refine Ae q16 (Al (Ag (br_ (tr_ ?_))));obtain rfl:=zj h;exact A2 [oI 35 14 3] (Ar rfl (Gx (by kernel_rfl) rfl) As)
 refine Af q16 (Ak (bn_ (tn_ (wr_ (Al (Ag ?_))))));obtain rfl:=zj h;exact A2 [oI 40 12 2] (Ar rfl (Gx (by kernel_rfl) rfl) As)
def Fp:AC :=
 (.seq (rg [xs1 20 19 18])
 (.seq (.cond (tm 20)
  .skip
  (.exit 0))
 (.seq (.block 1 (.seq (rg [xx 21 5 17 19,xo 22 (.i (.ld false 5 (tm 21))),xo 5 (.i (.alloc 82 [.int .i64 0,.int .i64 0,.int .i64 0,.int .i64 0,.int .i64 0])),xn (.st false 5 (tm 5) (tm 22))])
 (.region [xm 23 3,xo 24 (qc 54 [] []),xf 25 0 5,xl 26 25,xx 27 1 24 26,xl 28 27,xo 29 (.i (.ld false 5 (tm 5))),xo 30 (qc 55 [tm 29] [[none,none,none,none,none]]),xo 31 (qc 53 [tm 28,tm 30] [[],[some .int]]),xo 32 (qb .add (tm 23) (tm 31)),xm 3 32] true [(1,3),(1,6),(3,7),(5,7)])))
 (rg [xa 33 19,xm 19 33]))))
def H4:AC :=
 (.seq (rg [xo 1 (.i (.box 42 (tm 0))),⟨some 2,none,.i (.mov (.cst (.str ⟨#[]⟩)))⟩])
 (.seq (rg [xf 6 0 1,xl 7 6,xf 8 1 1,xl 9 8,xf 10 2 1,xl 11 10,xf 12 3 1,xl 13 12,xo 14 (.mkS 3 .int [tm 7,tm 9,tm 11,tm 13]),⟨some 15,none,qc 53 [.cst (.str ⟨#[112,114,111,103,114,97,109]⟩),tm 14] [[],[some .int]]⟩,xm 3 15])
 (.seq (.seq (rg [xf 16 4 1,xl 17 16,xn1 18 17,xo 19 (qm (ci 0))])
 (.block 0 (.loop Fp)))
 (.seq (rg [xm 34 3,xm 2 34])
 .ret))))
def Oi:List Res:=[.tmp 2]
theorem Oh:Aw Tryd.prog Tryd.f27=some (H4,Oi):=by kernel_rfl
def Cf (u2:List (Int×Int×Int×Int×Int)) (u1:ByteArray) (u0:Nat):Option (Ctl (ByteArray×Nat) ByteArray) :=
 cond (decide ((u0:Int)<(u2.length:Int)))
 ((u2[u0]?).bind fun x12 =>
 (Cg).bind fun y13 =>
 (Qw y13 x12.1).bind fun x14 =>
 (Bz x12.1 x12.2.1 x12.2.2.1 x12.2.2.2.1 x12.2.2.2.2).bind fun y15 =>
 (Bx x14 y15).bind fun y16 =>
 og (u1.size+y16.size<=9223372036854775807) <|
 og (u0+1<4611686018427387904) <|
 some (Ctl.next (u1++y16,u0+1)))
 (some (Ctl.out u1))
def Dq (u0 u1:Int) (u2 u3:Int) (u4:List (Int×Int×Int×Int×Int)):Option ByteArray :=
 (Bx (⟨#[112,114,111,103,114,97,109]⟩:ByteArray) ([u0,u1,u2,u3])).bind fun y3 =>
(Bs (fun s_:ByteArray×Nat=>Cf u4 s_.1 s_.2) 4611686018427387904 (y3,0)).bind fun u5 =>
some u5
def Ng (r:ByteArray):RV:=⟨false,[(false,[.sc (.str r)])]⟩
theorem Mv {u3 u4:Int} {u5 u6:Int} {u2:List (Int×Int×Int×Int×Int)} {r:ByteArray} (h:Dq u3 u4 u5 u6 u2=some r):Az Tryd.prog Tab 27 [.agg [ai u3,ai u4,ai u5,ai u6,.tree T5 u2]] (Ng r):=by
 refine Ay (by kernel_rfl) Tryd.func27 Oh (n:=35) (by kernel_rfl) (by simp) rfl ?_;unfold H4;unfold Dq at h;refine Al (Ac ?_);obtain ⟨y3,h3,h⟩:=Ah h;refine Ab 14 (rsB 9 (Cr (.str y3) [] [.str (⟨#[112,114,111,103,114,97,109]⟩:ByteArray),oI 14 11 4] _ (caps:=[]) (args0:=[.str (⟨#[112,114,111,103,114,97,109]⟩:ByteArray),tI ([u3,u4,u5,u6])]) trivial (A0 (by kernel_rfl) (A0 (Fh (e:=3) (by kernel_rfl) rfl) D4)) (Hd h3) Gw (rsT 1 (Av (tn_ (wr_ (A1 h (fun (u7:ByteArray) S_=>S_=⟨Ao [(3,.str u7)],Aq (A5 []),2⟩) ?_ ?_)))))))
 ·intro v_ h;refine Al (Ax (C2 h (fun t_ S_=>∃ (u0:ByteArray),∃ (u1:Nat),t_=(u0,u1)∧S_=⟨Ao [(3,.str u0),(17,.tree T5 u2),(18,an u2.length),(19,an u1)],Aq (A5 []),2⟩) ⟨_,Ad [],⟨y3,0,rfl,rfl⟩⟩ ?_));rintro n_ _ _ c_ ⟨u0,u1,rfl,rfl⟩ h hn6
  (try dsimp only at h);unfold Cf at h;unfold Fp;refine Al (Ac ?_);rcases Aa h with ⟨q9,h⟩ | ⟨q9,h⟩
  ·have q9_:=of_decide_eq_true q9;refine Ae q9 (Ak (tn_ (wr_ (Ac (Ax (Ac ?_))))));obtain ⟨x12,e12,h⟩:=Ah h;refine Ab 7 (zI T5 e12 (rsB 3 (Av (tn_ (wr_ ?_)))));obtain ⟨y13,h13,h⟩:=Ah h;obtain ⟨x14,f14,h⟩:=Ah h;obtain ⟨p14,b14,e14⟩:=Kh f14;obtain ⟨y15,h15,h⟩:=Ah h;obtain ⟨y16,h16,h⟩:=Ah h;obtain ⟨g17,h⟩:=Bk h;refine Cu 18 (dz0 (.str u0) (dzc (.own (oi 384 8) .str 0 y13.length) [(oi 384 8,some (.arr 9 .str y13))] [] (Ll h13) (dz0 (.box (oi 5 5) 0) (dzl (ai x12.1) (ds0 (.elt (oi 384 8) x12.1.toNat 0) (zo (t:=.str) (o:=oi 384 8) (len:=y13.length) (k:=.i64) (m:=x12.1) p14 (Ej e14)) (dsl (.str x14) (Xm (i:=oi 384 8) (j:=x12.1.toNat) (k:=0) (e:=9) (t:=.str) (xs:=y13) (by kernel_rfl) (by kernel_rfl) e14 (by kernel_rfl)) (dzl (.agg [ai x12.1,ai x12.2.1,ai x12.2.2.1,ai x12.2.2.2.1,ai x12.2.2.2.2]) (dzc (oI 480 14 y15.length) [nI 480 14 y15] [.agg [ai x12.1,ai x12.2.1,ai x12.2.2.1,ai x12.2.2.2.1,ai x12.2.2.2.2]] (I5 h15) (Pb (.str y16) [] [.str x14,oI 480 14 y15.length] _ (caps:=[]) (args0:=[.str x14,tI y15]) trivial (A0 (by kernel_rfl) (A0 (Fh (e:=3) (by kernel_rfl) rfl) D4)) (Hd h16) Gw (ds0 (.str (u0++y16)) (Gj (a:=u0) (b:=y16) (by kernel_rfl) (by kernel_rfl) g17) (dz0 (.str (u0++y16)) (Qo (Dh (by kernel_rfl)) (bn_ (tn_ (wr_ ?_)))))))))))))));obtain ⟨g18,h⟩:=Bk h;refine Ab 20 (zA g18 (rsT 1 (Av (tn_ ?_))));obtain rfl:=zj h;exact ⟨(u0++y16,u1+1),_,Ad [],⟨u0++y16,u1+1,rfl,rfl⟩,hn6⟩
  have q9_:=of_decide_eq_false q9;refine Af q9 (C3 (te_ (te_ (be_ (tn_ ?_)))));obtain rfl:=zj h;have h:=hn6
  (try dsimp only at h);obtain rfl:=zj h;exact ⟨_,Ad [],rfl⟩
 rintro u7 _ rfl h
 (try dsimp only at h);refine Al (Ag ?_);obtain rfl:=zj h;exact A2 [.str u7] (Ar rfl zl As)
def Ey:AC :=
 (.seq (rg [xo 3 (.i (.box 42 (tm 1))),⟨some 4,none,.i (.mov (.cst (.str ⟨#[]⟩)))⟩,xo 5 (qm (cb false))])
 (.seq (.seq (rg [xm 6 0,xo 7 (.i (.ld false 5 (tm 3))),⟨some 8,none,qc 26 [tm 6,tm 7] [[],[none,none,none,none,some T5]]⟩,xo 9 (.i (.not (tm 8)))])
 (.cond (tm 9)
  (.seq (rg [⟨some 4,none,.i (.mov (.cst (.str ⟨#[]⟩)))⟩,xo 5 (qm (cb false))])
  .ret)
  .skip))
 (.seq (rg [xo 10 (.i (.ld false 5 (tm 3))),⟨some 11,none,qc 27 [tm 10] [[none,none,none,none,some T5]]⟩,xm 4 11,xo 5 (qm (cb true))])
 .ret)))
def Ii:List Res:=[.tmp 4,.tmp 5]
theorem Io:Aw Tryd.prog Tryd.f11=some (Ey,Ii):=by kernel_rfl
theorem Hw:Ba Tryd.prog 11=true:=by kernel_rfl
def B1 (a0 u0:Int) (u1 u2 u3:Int) (u4:List (Int×Int×Int×Int×Int)):Option (ByteArray×Bool) :=
 (Do a0 u0 u1 u2 u3 u4).bind fun y4 =>
cond (!y4)
 (some ((⟨#[]⟩:ByteArray),false))
 ((Dq u0 u1 u2 u3 u4).bind fun y8 =>
 some (y8,true))
def H0 (r:ByteArray×Bool):RV:=⟨true,[(false,[.sc (.str r.1)]),(false,[.sc (.bool r.2)])]⟩
theorem Hr {a0 u0:Int} {u1 u2 u3:Int} {u4:List (Int×Int×Int×Int×Int)} {r:ByteArray×Bool} (h:B1 a0 u0 u1 u2 u3 u4=some r):Az Tryd.prog Tab 11 [ai a0,.agg [ai u0,ai u1,ai u2,ai u3,.tree T5 u4]] (H0 r):=by
 refine Ay (by kernel_rfl) Tryd.func11 Io (n:=12) (by kernel_rfl) (by simp) rfl ?_;unfold Ey;unfold B1 at h;refine Al (Ac (Ac ?_));obtain ⟨y4,h4,h⟩:=Ah h;refine Ab 8 (rsT 2 (zc (.bool y4) [] [ai a0,.agg [ai u0,ai u1,ai u2,ai u3,.tree T5 u4]] (Mf h4) (rsT 1 (Av (tn_ (wr_ ?_))))));rcases Aa h with ⟨q5,h⟩ | ⟨q5,h⟩
 ·refine Ae q5 (Al (Ag (tr_ ?_)));obtain rfl:=zj h;exact A2 [.str (⟨#[]⟩:ByteArray),.bool false] (Ar rfl zl (Ar rfl zl As))
 refine Af q5 (Ak (tn_ (wr_ (Ac ?_))));obtain ⟨y8,h8,h⟩:=Ah h;refine Ab 12 (rsT 1 (zc (.str y8) [] [.agg [ai u0,ai u1,ai u2,ai u3,.tree T5 u4]] (Mv h8) (rsT 2 (Av (tn_ (wr_ (Ag ?_)))))));obtain rfl:=zj h;exact A2 [.str y8,.bool true] (Ar rfl zl (Ar rfl zl As))
def Fx:AC :=
 (.seq (rg [xs1 10 9 8])
 (.seq (.cond (tm 10)
  .skip
  (.exit 0))
 (.seq (.block 1 (.seq (rg [xx 11 1 7 9,xl 12 11,xm 5 12])
 (rg [xm 13 3,xm 14 5,xo 15 (qc 46 [tm 14] [[]]),xo 16 (.mkS 9 .str [tm 15]),xo 17 (.append 9 .str 16 (tm 13) (tm 16)),xm 3 17])))
 (rg [xa 18 9,xm 9 18]))))
def H6:AC :=
 (.seq (rg [⟨some 2,none,.i (.mov (.cst (.str ⟨#[]⟩)))⟩])
 (.seq (rg [xo 6 (.mkS 9 .str []),xm 3 6])
 (.seq (.seq (rg [xm 7 0,xn1 8 7,xo 9 (qm (ci 0))])
 (.block 0 (.loop Fx)))
 (.seq (rg [xm 19 3,⟨some 20,none,qc 49 [tm 19,.cst (.str ⟨#[44]⟩)] [[some .str],[]]⟩,xm 2 20])
 .ret))))
def Oe:List Res:=[.tmp 2]
theorem Og:Aw Tryd.prog Tryd.f47=some (H6,Oe):=by kernel_rfl
theorem M9:Ba Tryd.prog 47=true:=by kernel_rfl
def B0 (a0:List Int) (u0:Nat) (u1:List ByteArray):Option (Ctl (Nat×List ByteArray) (List ByteArray)) :=
 cond (decide ((u0:Int)<(a0.length:Int)))
 ((a0[u0]?).bind fun x11 =>
 (Dx x11).bind fun y12 =>
 og (u1.length+1<=1073741824∧(u1.length+1)*16<=140737488355328) <|
 og (u0+1<4611686018427387904) <|
 some (Ctl.next (u0+1,u1++([y12]))))
 (some (Ctl.out u1))
def Cd (a0:List Int):Option ByteArray :=
 (Bs (fun s_:Nat×List ByteArray=>B0 a0 s_.1 s_.2) 4611686018427387904 (0,[])).bind fun u0 =>
(Ck u0 (⟨#[44]⟩:ByteArray)).bind fun y16 =>
some y16
def Mz (r:ByteArray):RV:=⟨false,[(false,[.sc (.str r)])]⟩
theorem Gy {a0:List Int} {r:ByteArray} (h:Cd a0=some r):Az Tryd.prog Tab 47 [tI a0] (Mz r):=by
 refine Ay (by kernel_rfl) Tryd.func47 Og (n:=21) (by kernel_rfl) (by simp) rfl ?_;unfold H6;unfold Cd at h;refine Al (Al (A1 h (fun (u1:List ByteArray) S_=>S_=⟨Ao [(3,.own (oi 0 1) .str 0 u1.length)],Aq (A5 [(oi 0 1,.arr 9 .str u1)]),2⟩) ?_ ?_))
 ·intro v_ h;refine Al (Ax (C2 h (fun t_ S_=>∃ (u2:Nat),∃ (u0:List ByteArray),t_=(u2,u0)∧S_=⟨Ao [(3,.own (oi 0 1) .str 0 u0.length),(7,tI a0),(8,an a0.length),(9,an u2)],Aq (A5 [(oi 0 1,.arr 9 .str u0)]),2⟩) ⟨_,Ad [(oi 0 1,oi 6 2)],⟨0,[],rfl,rfl⟩⟩ ?_));rintro n_ _ _ c_ ⟨u2,u0,rfl,rfl⟩ h hn5
  (try dsimp only at h);unfold B0 at h;unfold Fx;refine Al (Ac ?_);rcases Aa h with ⟨q8,h⟩ | ⟨q8,h⟩
  ·have q8_:=of_decide_eq_true q8;refine Ae q8 (Ak (tn_ (wr_ (Ac (Ax (Ac ?_))))));obtain ⟨x11,e11,h⟩:=Ah h;refine Ab 6 (zI .int e11 (rsT 2 (Av (tn_ (wr_ ?_)))));obtain ⟨y12,h12,h⟩:=Ah h;obtain ⟨g13,h⟩:=Bk h;refine Ab 12 (rsT 2 (zc (.str y12) [] [ai x11] (Lm h12) (rsB 1 (rs2 (.own (oi 0 10) .str 0 ((u0++([y12])).length)) (oi 0 1) (oi 0 10) (.arr 9 .str (u0++([y12]))) (V4 (t:=.str) (t':=.str) (xs:=u0) (ys:=[y12]) (zs:=u0++([y12])) (j:=oi 0 1) (len:=u0.length) (c:=.own (oi 16 9) .str 0 1) (by kernel_rfl) (by kernel_rfl) rfl (by kernel_rfl) (Ga (e:=9) (by kernel_rfl) rfl) rfl g13) (rsT 1 (Av (bn_ (tn_ (wr_ ?_)))))))));obtain ⟨g14,h⟩:=Bk h;refine Ab 14 (zA g14 (rsT 1 (Av (tn_ ?_))));obtain rfl:=zj h;exact ⟨(u2+1,u0++([y12])),_,Ad [(oi 0 1,oi 0 10)],⟨u2+1,u0++([y12]),rfl,rfl⟩,hn5⟩
  have q8_:=of_decide_eq_false q8;refine Af q8 (C3 (te_ (te_ (be_ (tn_ ?_)))));obtain rfl:=zj h;have h:=hn5
  (try dsimp only at h);obtain rfl:=zj h;exact ⟨_,Ad [],rfl⟩
 rintro u1 _ rfl h
 (try dsimp only at h);refine Ac ?_;obtain ⟨y16,h16,h⟩:=Ah h;refine Ab 5 (rsT 1 (Cr (.str y16) [] [.own (oi 0 1) .str 0 u1.length,.str (⟨#[44]⟩:ByteArray)] _ (caps:=[]) (args0:=[.tree .str u1,.str (⟨#[44]⟩:ByteArray)]) trivial (A0 (Fh (e:=9) (by kernel_rfl) rfl) (A0 (by kernel_rfl) D4)) (Gn h16) Gq (rsT 1 (Av (tn_ (wr_ (Ag ?_)))))));obtain rfl:=zj h;exact A2 [.str y16] (Ar rfl zl As)
def Fe:AC :=
 (.seq (rg [xo 1 (.i (.box 82 (tm 0))),⟨some 2,none,.i (.mov (.cst (.str ⟨#[]⟩)))⟩])
 (.seq (rg [⟨some 5,none,.mkS 9 .str [.cst (.str ⟨#[]⟩),.cst (.str ⟨#[105,110]⟩),.cst (.str ⟨#[122,101,114,111]⟩),.cst (.str ⟨#[97,100,100]⟩),.cst (.str ⟨#[115,99,97,108,101]⟩),.cst (.str ⟨#[108,111,97,100]⟩),.cst (.str ⟨#[115,116,111,114,101]⟩),.cst (.str ⟨#[111,117,116]⟩)]⟩,xm 3 5])
 (.seq (rg [xf 6 1 1,xl 7 6,xf 8 2 1,xl 9 8,xo 10 (.mkS 3 .int [tm 7,tm 9]),xf 11 1 1,xl 12 11,xo 13 (.mkS 3 .int [tm 12]),xf 14 1 1,xl 15 14,xf 16 2 1,xl 17 16,xf 18 3 1,xl 19 18,xo 20 (.mkS 3 .int [tm 15,tm 17,tm 19]),xf 21 1 1,xl 22 21,xf 23 2 1,xl 24 23,xf 25 4 1,xl 26 25,xo 27 (.mkS 3 .int [tm 22,tm 24,tm 26]),xf 28 1 1,xl 29 28,xf 30 2 1,xl 31 30,xo 32 (.mkS 3 .int [tm 29,tm 31]),xf 33 2 1,xl 34 33,xf 35 1 1,xl 36 35,xo 37 (.mkS 3 .int [tm 34,tm 36]),xf 38 2 1,xl 39 38,xf 40 1 1,xl 41 40,xo 42 (.mkS 3 .int [tm 39,tm 41]),xo 43 (.mkV 23 sI 1 [.cst .nils,tm 10,tm 13,tm 20,tm 27,tm 32,tm 37,tm 42]),xm 4 43])
 (.seq (.region [xm 44 3,xf 45 0 1,xl 46 45,xx 47 1 44 46,xl 48 47,⟨some 49,none,.i (.bin .add (tm 48) (.cst (.str ⟨#[32]⟩)))⟩,xm 50 4,xf 51 0 1,xl 52 51,xx 53 1 50 52,xl 54 53,xo 55 (qc 47 [tm 54] [[some .int]]),⟨some 56,none,qc 61 [tm 55,.cst (.str ⟨#[44]⟩),.cst (.str ⟨#[32]⟩)] [[],[],[]]⟩,xo 57 (qb .add (tm 49) (tm 56)),xm 2 57] true [(2,11),(4,11),(2,12),(4,12)])
 .ret))))
def Jw:List Res:=[.tmp 2]
theorem Jt:Aw Tryd.prog Tryd.f62=some (Fe,Jw):=by kernel_rfl
def Cb (u2 u0:Int) (u1 u3 u4:Int):Option ByteArray :=
 (Qw ([(⟨#[]⟩:ByteArray),(⟨#[105,110]⟩:ByteArray),(⟨#[122,101,114,111]⟩:ByteArray),(⟨#[97,100,100]⟩:ByteArray),(⟨#[115,99,97,108,101]⟩:ByteArray),(⟨#[108,111,97,100]⟩:ByteArray),(⟨#[115,116,111,114,101]⟩:ByteArray),(⟨#[111,117,116]⟩:ByteArray)]) u2).bind fun x5 =>
og (x5.size+(⟨#[32]⟩:ByteArray).size<=9223372036854775807) <|
(Qw ([[],[u0,u1],[u0],[u0,u1,u3],[u0,u1,u4],[u0,u1],[u1,u0],[u1,u0]]) u2).bind fun x7 =>
(Cd x7).bind fun y8 =>
(A6 y8 (⟨#[44]⟩:ByteArray) (⟨#[32]⟩:ByteArray)).bind fun y9 =>
og ((x5++(⟨#[32]⟩:ByteArray)).size+y9.size<=9223372036854775807) <|
some ((x5++(⟨#[32]⟩:ByteArray))++y9)
def I3 (r:ByteArray):RV:=⟨false,[(false,[.sc (.str r)])]⟩
theorem Ih {u2 u0:Int} {u1 u3 u4:Int} {r:ByteArray} (h:Cb u2 u0 u1 u3 u4=some r):Az Tryd.prog Tab 62 [.agg [ai u2,ai u0,ai u1,ai u3,ai u4]] (I3 r):=by
 refine Ay (by kernel_rfl) Tryd.func62 Jt (n:=58) (by kernel_rfl) (by simp) rfl ?_;unfold Fe;unfold Cb at h;refine Al (Al (Ac (Ab 44 (rsB 37 (rsU (tS ([[],[u0,u1],[u0],[u0,u1,u3],[u0,u1,u4],[u0,u1],[u1,u0],[u1,u0]])) [(oi 10 9,none),(oi 13 12,none),(oi 20 19,none),(oi 27 26,none),(oi 32 31,none),(oi 37 36,none),(oi 42 41,none)] (Yi (t:=.int) (yss:=[[],[u0,u1],[u0],[u0,u1,u3],[u0,u1,u4],[u0,u1],[u1,u0],[u1,u0]]) (D9 (t:=.int) (c:=.nils) (ys:=[]) (by kernel_rfl) rfl (D9 (t:=.int) (c:=oI 10 9 2) (ys:=[u0,u1]) (by kernel_rfl) (Ga (e:=3) (by kernel_rfl) rfl) (D9 (t:=.int) (c:=oI 13 12 1) (ys:=[u0]) (by kernel_rfl) (Ga (e:=3) (by kernel_rfl) rfl) (D9 (t:=.int) (c:=oI 20 19 3) (ys:=[u0,u1,u3]) (by kernel_rfl) (Ga (e:=3) (by kernel_rfl) rfl) (D9 (t:=.int) (c:=oI 27 26 3) (ys:=[u0,u1,u4]) (by kernel_rfl) (Ga (e:=3) (by kernel_rfl) rfl) (D9 (t:=.int) (c:=oI 32 31 2) (ys:=[u0,u1]) (by kernel_rfl) (Ga (e:=3) (by kernel_rfl) rfl) (D9 (t:=.int) (c:=oI 37 36 2) (ys:=[u1,u0]) (by kernel_rfl) (Ga (e:=3) (by kernel_rfl) rfl) (D9 (t:=.int) (c:=oI 42 41 2) (ys:=[u1,u0]) (by kernel_rfl) (Ga (e:=3) (by kernel_rfl) rfl) Wn)))))))) (by kernel_rfl)) (rsT 1 (Av (tn_ (wr_ (Ac ?_))))))))));obtain ⟨x5,f5,h⟩:=Ah h;obtain ⟨p5,b5,e5⟩:=Kh f5;obtain ⟨g6,h⟩:=Bk h;obtain ⟨x7,f7,h⟩:=Ah h;obtain ⟨p7,b7,e7⟩:=Kh f7;obtain ⟨y8,h8,h⟩:=Ah h;obtain ⟨y9,h9,h⟩:=Ah h;obtain ⟨g10,h⟩:=Bk h;refine Cu 59 (dz0 (.own (oi 5 3) .str 0 8) (dz0 (.box (oi 1 1) 0) (dzl (ai u2) (ds0 (.elt (oi 5 3) u2.toNat 0) (zo (t:=.str) (o:=oi 5 3) (len:=8) (k:=.i64) (m:=u2) p5 (Ej e5)) (dsl (.str x5) (Xm (i:=oi 5 3) (j:=u2.toNat) (k:=0) (e:=9) (t:=.str) (xs:=[(⟨#[]⟩:ByteArray),(⟨#[105,110]⟩:ByteArray),(⟨#[122,101,114,111]⟩:ByteArray),(⟨#[97,100,100]⟩:ByteArray),(⟨#[115,99,97,108,101]⟩:ByteArray),(⟨#[108,111,97,100]⟩:ByteArray),(⟨#[115,116,111,114,101]⟩:ByteArray),(⟨#[111,117,116]⟩:ByteArray)]) (by kernel_rfl) (by kernel_rfl) e5 (by kernel_rfl)) (ds0 (.str (x5++(⟨#[32]⟩:ByteArray))) (Gj (a:=x5) (b:=(⟨#[32]⟩:ByteArray)) (by kernel_rfl) (by kernel_rfl) g6) (dz0 (tS ([[],[u0,u1],[u0],[u0,u1,u3],[u0,u1,u4],[u0,u1],[u1,u0],[u1,u0]])) (dz0 (.box (oi 1 1) 0) (dzl (ai u2) (ds0 (.telt none sI x7 0) (zi (t:=sI) (xs:=[[],[u0,u1],[u0],[u0,u1,u3],[u0,u1,u4],[u0,u1],[u1,u0],[u1,u0]]) (k:=.i64) (m:=u2) p7 e7) (dz0 (tI x7) (dzc (.str y8) [] [tI x7] (Gy h8) (dzc (.str y9) [] [.str y8,.str (⟨#[44]⟩:ByteArray),.str (⟨#[32]⟩:ByteArray)] (D2 h9) (ds0 (.str ((x5++(⟨#[32]⟩:ByteArray))++y9)) (Gj (a:=x5++(⟨#[32]⟩:ByteArray)) (b:=y9) (by kernel_rfl) (by kernel_rfl) g10) (dz0 (.str ((x5++(⟨#[32]⟩:ByteArray))++y9)) (Qo (Dh (by kernel_rfl)) (tn_ (wr_ (Ag ?_)))))))))))))))))));obtain rfl:=zj h;exact A2 [.str ((x5++(⟨#[32]⟩:ByteArray))++y9)] (Ar rfl zl As)
def Dz:AC :=
 (.seq (rg [xs1 25 24 23])
 (.seq (.cond (tm 25)
  .skip
  (.exit 0))
 (.seq (.block 1 (.seq (rg [xx 26 5 22 24,xo 27 (.i (.ld false 5 (tm 26))),xo 6 (.i (.alloc 82 [.int .i64 0,.int .i64 0,.int .i64 0,.int .i64 0,.int .i64 0])),xn (.st false 5 (tm 6) (tm 27))])
 (rg [xm 28 4,xo 29 (.i (.ld false 5 (tm 6))),xo 30 (qc 62 [tm 29] [[none,none,none,none,none]]),xo 31 (.mkS 9 .str [tm 30]),xo 32 (.append 9 .str 16 (tm 28) (tm 31)),xm 4 32])))
 (rg [xa 33 24,xm 24 33]))))
def Eh:AC :=
 (.seq (rg [xo 1 (.i (.box 42 (tm 0))),⟨some 2,none,.i (.mov (.cst (.str ⟨#[]⟩)))⟩])
 (.seq (rg [xf 7 0 1,xl 8 7,xf 9 1 1,xl 10 9,xf 11 2 1,xl 12 11,xf 13 3 1,xl 14 13,xo 15 (.mkS 3 .int [tm 8,tm 10,tm 12,tm 14]),xo 16 (qc 47 [tm 15] [[some .int]]),xm 3 16])
 (.seq (rg [xm 17 3,⟨some 18,none,qc 61 [tm 17,.cst (.str ⟨#[44]⟩),.cst (.str ⟨#[32]⟩)] [[],[],[]]⟩,⟨some 19,none,.i (.bin .add (.cst (.str ⟨#[112,114,111,103,114,97,109,32]⟩)) (tm 18))⟩,xo 20 (.mkS 9 .str [tm 19]),xm 4 20])
 (.seq (.seq (rg [xf 21 4 1,xl 22 21,xn1 23 22,xo 24 (qm (ci 0))])
 (.block 0 (.loop Dz)))
 (.seq (rg [xm 34 4,⟨some 35,none,qc 49 [tm 34,.cst (.str ⟨#[10]⟩)] [[some .str],[]]⟩,⟨some 36,none,.i (.bin .add (tm 35) (.cst (.str ⟨#[10]⟩)))⟩,xm 2 36])
 .ret)))))
def Hx:List Res:=[.tmp 2]
theorem Hy:Aw Tryd.prog Tryd.f30=some (Eh,Hx):=by kernel_rfl
def Bm (u2:List (Int×Int×Int×Int×Int)) (u0:Nat) (u1:List ByteArray):Option (Ctl (Nat×List ByteArray) (List ByteArray)) :=
 cond (decide ((u0:Int)<(u2.length:Int)))
 ((u2[u0]?).bind fun x15 =>
 (Cb x15.1 x15.2.1 x15.2.2.1 x15.2.2.2.1 x15.2.2.2.2).bind fun y16 =>
 og (u1.length+1<=1073741824∧(u1.length+1)*16<=140737488355328) <|
 og (u0+1<4611686018427387904) <|
 some (Ctl.next (u0+1,u1++([y16]))))
 (some (Ctl.out u1))
def Bv (u0 u1:Int) (u2 u3:Int) (u4:List (Int×Int×Int×Int×Int)):Option ByteArray :=
 (Cd ([u0,u1,u2,u3])).bind fun y3 =>
(A6 y3 (⟨#[44]⟩:ByteArray) (⟨#[32]⟩:ByteArray)).bind fun y5 =>
og ((⟨#[112,114,111,103,114,97,109,32]⟩:ByteArray).size+y5.size<=9223372036854775807) <|
(Bs (fun s_:Nat×List ByteArray=>Bm u4 s_.1 s_.2) 4611686018427387904 (0,[(⟨#[112,114,111,103,114,97,109,32]⟩:ByteArray)++y5])).bind fun u5 =>
(Ck u5 (⟨#[10]⟩:ByteArray)).bind fun y20 =>
og (y20.size+(⟨#[10]⟩:ByteArray).size<=9223372036854775807) <|
some (y20++(⟨#[10]⟩:ByteArray))
def Hc (r:ByteArray):RV:=⟨false,[(false,[.sc (.str r)])]⟩
theorem Gz {u4 u5:Int} {u6 u7:Int} {u3:List (Int×Int×Int×Int×Int)} {r:ByteArray} (h:Bv u4 u5 u6 u7 u3=some r):Az Tryd.prog Tab 30 [.agg [ai u4,ai u5,ai u6,ai u7,.tree T5 u3]] (Hc r):=by
 refine Ay (by kernel_rfl) Tryd.func30 Hy (n:=37) (by kernel_rfl) (by simp) rfl ?_;unfold Eh;unfold Bv at h;refine Al (Ac ?_);obtain ⟨y3,h3,h⟩:=Ah h;refine Ab 14 (rsB 9 (Cr (.str y3) [] [oI 15 11 4] _ (caps:=[]) (args0:=[tI ([u4,u5,u6,u7])]) trivial (A0 (Fh (e:=3) (by kernel_rfl) rfl) D4) (Gy h3) M9 (rsT 1 (Av (tn_ (wr_ (Ac ?_)))))));obtain ⟨y5,h5,h⟩:=Ah h;obtain ⟨g6,h⟩:=Bk h;refine Ab 19 (rsT 1 (zc (.str y5) [] [.str y3,.str (⟨#[44]⟩:ByteArray),.str (⟨#[32]⟩:ByteArray)] (D2 h5) (rs0 (.str ((⟨#[112,114,111,103,114,97,109,32]⟩:ByteArray)++y5)) (Gj (a:=(⟨#[112,114,111,103,114,97,109,32]⟩:ByteArray)) (b:=y5) (by kernel_rfl) (by kernel_rfl) g6) (rsB 2 (Av (tn_ (wr_ (A1 h (fun (u1:List ByteArray) S_=>S_=⟨Ao [(4,.own (oi 0 1) .str 0 u1.length)],Aq (A5 [(oi 0 1,.arr 9 .str u1)]),2⟩) ?_ ?_))))))))
 ·intro v_ h;refine Al (Ax (C2 h (fun t_ S_=>∃ (u2:Nat),∃ (u0:List ByteArray),t_=(u2,u0)∧S_=⟨Ao [(4,.own (oi 0 1) .str 0 u0.length),(22,.tree T5 u3),(23,an u3.length),(24,an u2)],Aq (A5 [(oi 0 1,.arr 9 .str u0)]),2⟩) ⟨_,Ad [(oi 0 1,oi 20 17)],⟨0,[(⟨#[112,114,111,103,114,97,109,32]⟩:ByteArray)++y5],rfl,rfl⟩⟩ ?_));rintro n_ _ _ c_ ⟨u2,u0,rfl,rfl⟩ h hn9
  (try dsimp only at h);unfold Bm at h;unfold Dz;refine Al (Ac ?_);rcases Aa h with ⟨q12,h⟩ | ⟨q12,h⟩
  ·have q12_:=of_decide_eq_true q12;refine Ae q12 (Ak (tn_ (wr_ (Ac (Ax (Ac ?_))))));obtain ⟨x15,e15,h⟩:=Ah h;refine Ab 7 (zI T5 e15 (rsB 3 (Av (tn_ (wr_ ?_)))));obtain ⟨y16,h16,h⟩:=Ah h;obtain ⟨g17,h⟩:=Bk h;refine Ab 13 (rsT 2 (zc (.str y16) [] [.agg [ai x15.1,ai x15.2.1,ai x15.2.2.1,ai x15.2.2.2.1,ai x15.2.2.2.2]] (Ih h16) (rsB 1 (rs2 (.own (oi 0 11) .str 0 ((u0++([y16])).length)) (oi 0 1) (oi 0 11) (.arr 9 .str (u0++([y16]))) (V4 (t:=.str) (t':=.str) (xs:=u0) (ys:=[y16]) (zs:=u0++([y16])) (j:=oi 0 1) (len:=u0.length) (c:=.own (oi 31 10) .str 0 1) (by kernel_rfl) (by kernel_rfl) rfl (by kernel_rfl) (Ga (e:=9) (by kernel_rfl) rfl) rfl g17) (rsT 1 (Av (bn_ (tn_ (wr_ ?_)))))))));obtain ⟨g18,h⟩:=Bk h;refine Ab 15 (zA g18 (rsT 1 (Av (tn_ ?_))));obtain rfl:=zj h;exact ⟨(u2+1,u0++([y16])),_,Ad [(oi 0 1,oi 0 11)],⟨u2+1,u0++([y16]),rfl,rfl⟩,hn9⟩
  have q12_:=of_decide_eq_false q12;refine Af q12 (C3 (te_ (te_ (be_ (tn_ ?_)))));obtain rfl:=zj h;have h:=hn9
  (try dsimp only at h);obtain rfl:=zj h;exact ⟨_,Ad [],rfl⟩
 rintro u1 _ rfl h
 (try dsimp only at h);refine Ac ?_;obtain ⟨y20,h20,h⟩:=Ah h;obtain ⟨g21,h⟩:=Bk h;refine Ab 6 (rsT 1 (Cr (.str y20) [] [.own (oi 0 1) .str 0 u1.length,.str (⟨#[10]⟩:ByteArray)] _ (caps:=[]) (args0:=[.tree .str u1,.str (⟨#[10]⟩:ByteArray)]) trivial (A0 (Fh (e:=9) (by kernel_rfl) rfl) (A0 (by kernel_rfl) D4)) (Gn h20) Gq (rs0 (.str (y20++(⟨#[10]⟩:ByteArray))) (Gj (a:=y20) (b:=(⟨#[10]⟩:ByteArray)) (by kernel_rfl) (by kernel_rfl) g21) (rsT 1 (Av (tn_ (wr_ (Ag ?_))))))));obtain rfl:=zj h;exact A2 [.str (y20++(⟨#[10]⟩:ByteArray))] (Ar rfl zl As)
def E4:AC :=
 (.seq (rg [xo 3 (.i (.box 42 (tm 1))),⟨some 4,none,.i (.mov (.cst (.str ⟨#[]⟩)))⟩,xo 5 (qm (cb false))])
 (.seq (.seq (rg [xm 6 0,xo 7 (.i (.ld false 5 (tm 3))),⟨some 8,none,qc 29 [tm 6,tm 7] [[],[none,none,none,none,some T5]]⟩,xo 9 (.i (.not (tm 8)))])
 (.cond (tm 9)
  (.seq (rg [⟨some 4,none,.i (.mov (.cst (.str ⟨#[]⟩)))⟩,xo 5 (qm (cb false))])
  .ret)
  .skip))
 (.seq (rg [xo 10 (.i (.ld false 5 (tm 3))),⟨some 11,none,qc 30 [tm 10] [[none,none,none,none,some T5]]⟩,xm 4 11,xo 5 (qm (cb true))])
 .ret)))
def I2:List Res:=[.tmp 4,.tmp 5]
theorem I0:Aw Tryd.prog Tryd.f13=some (E4,I2):=by kernel_rfl
theorem Hq:Ba Tryd.prog 13=true:=by kernel_rfl
def B4 (a0 u0:Int) (u1 u2 u3:Int) (u4:List (Int×Int×Int×Int×Int)):Option (ByteArray×Bool) :=
 (Cm a0 u0 u1 u2 u3 u4).bind fun y4 =>
cond (!y4)
 (some ((⟨#[]⟩:ByteArray),false))
 ((Bv u0 u1 u2 u3 u4).bind fun y8 =>
 some (y8,true))
def Ho (r:ByteArray×Bool):RV:=⟨true,[(false,[.sc (.str r.1)]),(false,[.sc (.bool r.2)])]⟩
theorem Hp {a0 u0:Int} {u1 u2 u3:Int} {u4:List (Int×Int×Int×Int×Int)} {r:ByteArray×Bool} (h:B4 a0 u0 u1 u2 u3 u4=some r):Az Tryd.prog Tab 13 [ai a0,.agg [ai u0,ai u1,ai u2,ai u3,.tree T5 u4]] (Ho r):=by
 refine Ay (by kernel_rfl) Tryd.func13 I0 (n:=12) (by kernel_rfl) (by simp) rfl ?_;unfold E4;unfold B4 at h;refine Al (Ac (Ac ?_));obtain ⟨y4,h4,h⟩:=Ah h;refine Ab 8 (rsT 2 (zc (.bool y4) [] [ai a0,.agg [ai u0,ai u1,ai u2,ai u3,.tree T5 u4]] (Ja h4) (rsT 1 (Av (tn_ (wr_ ?_))))));rcases Aa h with ⟨q5,h⟩ | ⟨q5,h⟩
 ·refine Ae q5 (Al (Ag (tr_ ?_)));obtain rfl:=zj h;exact A2 [.str (⟨#[]⟩:ByteArray),.bool false] (Ar rfl zl (Ar rfl zl As))
 refine Af q5 (Ak (tn_ (wr_ (Ac ?_))));obtain ⟨y8,h8,h⟩:=Ah h;refine Ab 12 (rsT 1 (zc (.str y8) [] [.agg [ai u0,ai u1,ai u2,ai u3,.tree T5 u4]] (Gz h8) (rsT 2 (Av (tn_ (wr_ (Ag ?_)))))));obtain rfl:=zj h;exact A2 [.str y8,.bool true] (Ar rfl zl (Ar rfl zl As))
def Dk:AC :=
 (.seq (rg [xo 3 (.i (.box 37 (tm 1))),xo 4 (qm (cb false))])
 (.seq (rg [xo 5 (qm (ci 1048576))])
 (.seq (rg [xo 11 (.i (.ld false 5 (tm 3))),xm 12 5,⟨some 13,none,qc 10 [tm 11,tm 12] [[none,none,none,none,some T5],[]]⟩,xm 5 13])
 (.seq (.seq (rg [xm 14 5,xo 15 (qb .lss (tm 14) (ci 0))])
 (.cond (tm 15)
  (.seq (rg [xo 4 (qm (cb true))])
  .ret)
  .skip))
 (.seq (rg [xm 17 0,xo 18 (.i (.ld false 5 (tm 3))),⟨some 19,none,qc 12 [tm 18] [[none,none,none,none,some T5]]⟩,⟨some 20,none,qc 11 [tm 17,tm 19] [[],[none,none,none,none,some T5]]⟩,xm 16 20,xo 21 (.i (.extr 0 (tm 16))),xo 22 (.i (.extr 1 (tm 16))),xm 6 21,xm 7 22])
 (.seq (rg [xo 23 (.i (.ld false 5 (tm 3))),⟨some 24,none,qc 12 [tm 23] [[none,none,none,none,some T5]]⟩,xo 8 (.i (.alloc 42 [.int .i64 0,.int .i64 0,.int .i64 0,.int .i64 0,.nils])),xn (.st false 5 (tm 8) (tm 24))])
 (.seq (rg [xm 26 0,xo 27 (.i (.ld false 5 (tm 8))),⟨some 28,none,qc 13 [tm 26,tm 27] [[],[none,none,none,none,some T5]]⟩,xm 25 28,xo 29 (.i (.extr 0 (tm 25))),xo 30 (.i (.extr 1 (tm 25))),xm 9 29,xm 10 30])
 (.seq (.seq (rg [xm 31 9,xm 32 6,xo 33 (qb .neq (tm 31) (tm 32)),xm 34 33,⟨some 35,some (34,false),qm (tm 10)⟩,⟨some 36,some (34,false),qm (tm 7)⟩,⟨some 37,some (34,false),.i (.cmp true 0 (tm 35) (tm 36))⟩,xo 38 (.i (.pick (tm 34) (cb true) (tm 37)))])
 (.cond (tm 38)
  (.seq (rg [xo 4 (qm (cb false))])
  .ret)
  .skip))
 (.seq (.seq (.region [xo 39 (.i (.ld false 5 (tm 8))),xo 40 (.i (.ld false 5 (tm 3))),⟨some 41,none,qc 12 [tm 40] [[none,none,none,none,some T5]]⟩,⟨some 42,none,qc 14 [tm 39,tm 41] [[none,none,none,none,some T5],[none,none,none,none,some T5]]⟩,xo 43 (.i (.not (tm 42)))] true [(0,2)])
 (.cond (tm 43)
  (.seq (rg [xo 4 (qm (cb false))])
  .ret)
  .skip))
 (.seq (rg [xo 4 (qm (cb true))])
 .ret))))))))))
def Fa:List Res:=[.tmp 4]
theorem E8:Aw Tryd.prog Tryd.f4=some (Dk,Fa):=by kernel_rfl
def A8 (a0 u0:Int) (u1 u2 u3:Int) (u4:List (Int×Int×Int×Int×Int)):Option Bool :=
 (Ce u0 u1 u2 u3 u4 1048576).bind fun y4 =>
cond (decide (y4<0))
 (some true)
 ((Br u0 u1 u2 u3 u4).bind fun y10 =>
 (B1 a0 y10.1 y10.2.1 y10.2.2.1 y10.2.2.2.1 y10.2.2.2.2).bind fun y11 =>
 (Br u0 u1 u2 u3 u4).bind fun y13 =>
 (B4 a0 y13.1 y13.2.1 y13.2.2.1 y13.2.2.2.1 y13.2.2.2.2).bind fun y15 =>
 (cond (!(y15.1.toList==y11.1.toList))
   (some true)
   (some (y15.2 !=y11.2))).bind fun u5 =>
 cond u5
  (some false)
  ((Br u0 u1 u2 u3 u4).bind fun y23 =>
  (Ci y13.1 y13.2.1 y13.2.2.1 y13.2.2.2.1 y13.2.2.2.2 y23.1 y23.2.1 y23.2.2.1 y23.2.2.2.1 y23.2.2.2.2).bind fun y24 =>
  cond (!y24)
   (some false)
   (some true)))
def Et (r:Bool):RV:=⟨false,[(false,[.sc (.bool r)])]⟩
theorem Ez {a0 u0:Int} {u1 u2 u3:Int} {u4:List (Int×Int×Int×Int×Int)} {r:Bool} (h:A8 a0 u0 u1 u2 u3 u4=some r):Az Tryd.prog Tab 4 [ai a0,.agg [ai u0,ai u1,ai u2,ai u3,.tree T5 u4]] (Et r):=by
 refine Ay (by kernel_rfl) Tryd.func4 E8 (n:=44) (by kernel_rfl) (by simp) rfl ?_;unfold Dk;unfold A8 at h;refine Al (Al (Ac ?_));obtain ⟨y4,h4,h⟩:=Ah h;refine Ab 8 (rsT 2 (zc (ai y4) [] [.agg [ai u0,ai u1,ai u2,ai u3,.tree T5 u4],ai 1048576] (Jl h4) (rsT 1 (Av (tn_ (wr_ (Ac (Al ?_))))))));rcases Aa h with ⟨q7,h⟩ | ⟨q7,h⟩
 ·have q7_:=of_decide_eq_true q7;refine Ae q7 (Al (Ag (tr_ ?_)));obtain rfl:=zj h;exact A2 [.bool true] (Ar rfl zl As)
 have q7_:=of_decide_eq_false q7;refine Af q7 (Ak (tn_ (wr_ (Ac ?_))));obtain ⟨y10,h10,h⟩:=Ah h;obtain ⟨y11,h11,h⟩:=Ah h;refine Ab 19 (rsT 2 (zc (.agg [ai y10.1,ai y10.2.1,ai y10.2.2.1,ai y10.2.2.2.1,.own (oi 304 12) T5 0 y10.2.2.2.2.length]) [(oi 304 12,some (.arr 82 T5 y10.2.2.2.2))] [.agg [ai u0,ai u1,ai u2,ai u3,.tree T5 u4]] (Dy h10) (Cr (.tup [.str y11.1,.bool y11.2]) [] [ai a0,.agg [ai y10.1,ai y10.2.1,ai y10.2.2.1,ai y10.2.2.2.1,.own (oi 304 12) T5 0 y10.2.2.2.2.length]] _ (caps:=[]) (args0:=[ai a0,.agg [ai y10.1,ai y10.2.1,ai y10.2.2.1,ai y10.2.2.2.1,.tree T5 y10.2.2.2.2]]) trivial (A0 (by kernel_rfl) (A0 (Pk (A0 (by kernel_rfl) (A0 (by kernel_rfl) (A0 (by kernel_rfl) (A0 (by kernel_rfl) (A0 (Fh (e:=82) (by kernel_rfl) rfl) D4)))))) D4)) (Hr h11) Hw (rsT 5 (Av (tn_ (wr_ (Ac ?_))))))));obtain ⟨y13,h13,h⟩:=Ah h;refine Ab 23 (rsT 1 (zc (.agg [ai y13.1,ai y13.2.1,ai y13.2.2.1,ai y13.2.2.2.1,.own (oi 384 20) T5 0 y13.2.2.2.2.length]) [(oi 384 20,some (.arr 82 T5 y13.2.2.2.2))] [.agg [ai u0,ai u1,ai u2,ai u3,.tree T5 u4]] (Dy h13) (rsB 2 (Av (tn_ (wr_ (Ac ?_)))))));obtain ⟨y15,h15,h⟩:=Ah h;refine Ab 31 (rsT 2 (Cr (.tup [.str y15.1,.bool y15.2]) [] [ai a0,.agg [ai y13.1,ai y13.2.1,ai y13.2.2.1,ai y13.2.2.2.1,.own (oi 384 20) T5 0 y13.2.2.2.2.length]] _ (caps:=[]) (args0:=[ai a0,.agg [ai y13.1,ai y13.2.1,ai y13.2.2.1,ai y13.2.2.2.1,.tree T5 y13.2.2.2.2]]) trivial (A0 (by kernel_rfl) (A0 (Pk (A0 (by kernel_rfl) (A0 (by kernel_rfl) (A0 (by kernel_rfl) (A0 (by kernel_rfl) (A0 (Fh (e:=82) (by kernel_rfl) rfl) D4)))))) D4)) (Hp h15) Hq (rsT 5 (Av (tn_ (wr_ (Ac (A1 h (fun (u5:Bool) S_=>S_=⟨Ao [(3,.box (oi 0 1) 0),(8,.box (oi 1 1) 0),(38,.bool u5)],Aq (A5 [(oi 0 1,.cells 37 [ai u0,ai u1,ai u2,ai u3,.tree T5 u4]),(oi 1 1,.cells 42 [ai y13.1,ai y13.2.1,ai y13.2.2.1,ai y13.2.2.2.1,.own (oi 2 1) T5 0 y13.2.2.2.2.length]),(oi 2 1,.arr 82 T5 y13.2.2.2.2)]),2⟩) ?_ ?_))))))))
 ·intro v_ h;refine Ab 39 (rsT 4 ?_);rcases Aa h with ⟨q18,h⟩ | ⟨q18,h⟩
  ·refine rq 34 q18 (rsT 4 (Av (tn_ ?_)));obtain rfl:=zj h;exact ⟨_,Ad [(oi 0 1,oi 3 1),(oi 1 1,oi 8 21),(oi 2 1,oi 384 20)],rfl⟩
  refine rq 34 q18 (rsT 4 (Av (tn_ ?_)));obtain rfl:=zj h;exact ⟨_,Ad [(oi 0 1,oi 3 1),(oi 1 1,oi 8 21),(oi 2 1,oi 384 20)],rfl⟩
 rintro u5 _ rfl h
 (try dsimp only at h);rcases Aa h with ⟨q19,h⟩ | ⟨q19,h⟩
 ·refine Ae q19 (Al (Ag (tr_ ?_)));obtain rfl:=zj h;exact A2 [.bool false] (Ar rfl zl As)
 refine Af q19 (Ak (tn_ (wr_ (Ac (Ac ?_)))));obtain ⟨y23,h23,h⟩:=Ah h;obtain ⟨y24,h24,h⟩:=Ah h;refine Cu 7 (dzl (.agg [ai y13.1,ai y13.2.1,ai y13.2.2.1,ai y13.2.2.2.1,.own (oi 2 1) T5 0 y13.2.2.2.2.length]) (dzl (.agg [ai u0,ai u1,ai u2,ai u3,.tree T5 u4]) (dzc (.agg [ai y23.1,ai y23.2.1,ai y23.2.2.1,ai y23.2.2.2.1,.own (oi 656 4) T5 0 y23.2.2.2.2.length]) [(oi 656 4,some (.arr 82 T5 y23.2.2.2.2))] [.agg [ai u0,ai u1,ai u2,ai u3,.tree T5 u4]] (Dy h23) (Pb (.bool y24) [] [.agg [ai y13.1,ai y13.2.1,ai y13.2.2.1,ai y13.2.2.2.1,.own (oi 2 1) T5 0 y13.2.2.2.2.length],.agg [ai y23.1,ai y23.2.1,ai y23.2.2.1,ai y23.2.2.2.1,.own (oi 656 4) T5 0 y23.2.2.2.2.length]] _ (caps:=[]) (args0:=[.agg [ai y13.1,ai y13.2.1,ai y13.2.2.1,ai y13.2.2.2.1,.tree T5 y13.2.2.2.2],.agg [ai y23.1,ai y23.2.1,ai y23.2.2.1,ai y23.2.2.2.1,.tree T5 y23.2.2.2.2]]) trivial (A0 (Pk (A0 (by kernel_rfl) (A0 (by kernel_rfl) (A0 (by kernel_rfl) (A0 (by kernel_rfl) (A0 (Fh (e:=82) (by kernel_rfl) rfl) D4)))))) (A0 (Pk (A0 (by kernel_rfl) (A0 (by kernel_rfl) (A0 (by kernel_rfl) (A0 (by kernel_rfl) (A0 (Fh (e:=82) (by kernel_rfl) rfl) D4)))))) D4)) (Ji h24) Jr (dz0 (.bool (!y24)) (Qo (Dh (by kernel_rfl)) (tn_ (wr_ ?_))))))));rcases Aa h with ⟨q25,h⟩ | ⟨q25,h⟩
 ·refine Ae q25 (Al (Ag (tr_ ?_)));obtain rfl:=zj h;exact A2 [.bool false] (Ar rfl zl As)
 refine Af q25 (Ak (tn_ (wr_ (Al (Ag ?_)))));obtain rfl:=zj h;exact A2 [.bool true] (Ar rfl zl As)
end

section
section
variable {α β σ ρ:Type}
theorem Ox {body:σ->Option (Ctl σ ρ)} {Post:ρ->Prop} (n:Nat) (I:Nat->σ->Prop)
  (hs:∀ i s,i<n->I i s->(∃ s',body s=some (.next s')∧I (i+1) s')∨∃ r,body s=some (.out r)∧Post r) (he:∀ s,I n s->∃ r,body s=some (.out r)∧Post r) :
  ∀ (F k:Nat) (s:σ),k<=n->n - k<F->I k s->∃ r,Bs body F s=some r∧Post r
 | 0,_,_,_,h,_=>by omega
 | F+1,k,s,hk,h,hi=>by
  have key:(∃ r,body s=some (.out r)∧Post r)->∃ r,Bs body (F+1) s=some r∧Post r:=by
   rintro ⟨r,h1,h2⟩;exact ⟨r,by simp only [Bs,h1,obs,Ctl.then],h2⟩
  rcases Nat.lt_or_ge k n with hlt | hge
  ·rcases hs k s hlt hi with ⟨s',h1,h2⟩ | h
   ·obtain ⟨r,h3,h4⟩:=Ox n I hs he F (k+1) s' hlt (by omega) h2;exact ⟨r,by simp only [Bs,h1,obs,Ctl.then]; exact h3,h4⟩
   ·exact key h
  ·obtain rfl:k=n:=by omega
   exact key (he s hi)
theorem Nh {body:σ->Option (Ctl σ ρ)} {Post:ρ->Prop} (n:Nat) (I:Nat->σ->Prop) {F:Nat} (hn:n<F) {s0:σ} (h0:I 0 s0)
  (hs:∀ i s,i<n->I i s->(∃ s',body s=some (.next s')∧I (i+1) s')∨∃ r,body s=some (.out r)∧Post r) (he:∀ s,I n s->∃ r,body s=some (.out r)∧Post r):∃ r,Bs body F s0=some r∧Post r :=
 Ox n I hs he F 0 s0 (Nat.zero_le _) (by omega) h0
theorem N2 {body:σ->Option (Ctl σ ρ)} (n:Nat) (I:Nat->σ->Prop) {F:Nat} (hn:n<F) {s0:σ} (r:ρ) (h0:I 0 s0)
  (hs:∀ i s,i<n->I i s->(∃ s',body s=some (.next s')∧I (i+1) s')∨body s=some (.out r)) (he:∀ s,I n s->body s=some (.out r)):Bs body F s0=some r:=by
 obtain ⟨r',h1,rfl⟩:=Nh (Post:=fun r'=>r'=r) n I hn h0 (fun i s hi hI=>(hs i s hi hI).imp id fun h=>⟨r,h,rfl⟩) (fun s h=>⟨r,he s h,rfl⟩);exact h1
theorem Ft {body:σ->Option (Ctl σ ρ)} (n:Nat) (S:Nat->σ) {F:Nat} (hn:n<F) {s0:σ} (r:ρ) (h0:s0=S 0) (hs:∀ i,i<n->body (S i)=some (.next (S (i+1)))) (he:body (S n)=some (.out r)):Bs body F s0=some r:=by
 subst h0;refine N2 n (fun i s=>s=S i) hn r rfl (fun i s hi e=>.inl ?_) (fun s e=>by subst e; exact he);subst e;exact ⟨_,hs i hi,rfl⟩
theorem Oy {body:Nat->Option (Ctl Nat ρ)} (xs:List α) (q:α->Bool) (good bad:ρ) {F:Nat} (hn:xs.length<F) (hs:∀ i x,xs[i]? =some x->body i=some (if q x then .next (i+1) else .out bad)) (he:body xs.length=some (.out good)):Bs body F 0=some (if xs.all q then good else bad):=by
 refine N2 xs.length (fun i s=>s=i∧(xs.take i).all q=true) hn _ ⟨rfl,by simp⟩ ?_ ?_
 ·rintro i s hi ⟨hsi,hq⟩;subst s;have hx:=gEg hi;rw [hs i _ hx];cases hc:q xs[i]
  ·refine .inr ?_
   have:xs.all q=false:=by
    rw [Bool.eq_false_iff];intro ha;rw [List.all_eq_true] at ha;rw [ha _ (List.getElem_mem hi)] at hc;cases hc
   rw [this]; rfl
  ·refine .inl ⟨i+1,rfl,rfl,?_⟩;rw [List.take_add_one,List.all_append,hq,hx];simp [hc]
 ·rintro s ⟨rfl,hq⟩;rw [List.take_length] at hq;rw [he,hq]; rfl
theorem T4 {body:Nat->Option (Ctl Nat ρ)} (xs:List α) (q:α->Bool) (none_:ρ) (g:Nat->ρ) {F:Nat} (hn:xs.length<F) (hs:∀ i x,xs[i]? =some x->body i=some (if q x then .out (g i) else .next (i+1))) (he:body xs.length=some (.out none_)) :
  (xs.any q=true∧∃ i,i<xs.length∧Bs body F 0=some (g i))∨(xs.any q=false∧Bs body F 0=some none_):=by
 have key:∃ r,Bs body F 0=some r∧((xs.any q=true∧∃ i,i<xs.length∧r=g i)∨(xs.any q=false∧r=none_)):=by
  refine Nh xs.length (fun i s=>s=i∧(xs.take i).any q=false) hn ⟨rfl,by simp⟩ ?_ ?_
  ·rintro i s hi ⟨hsi,hq⟩;subst s;have hx:=gEg hi;rw [hs i _ hx];cases hc:q xs[i]
   ·refine .inl ⟨i+1,rfl,rfl,?_⟩;rw [List.take_add_one,List.any_append,hq,hx];simp [hc]
   ·exact .inr ⟨_,rfl,.inl ⟨List.any_eq_true.2 ⟨_,List.getElem_mem hi,hc⟩,i,hi,rfl⟩⟩
  ·rintro s ⟨hsi,hq⟩;subst hsi;rw [List.take_length] at hq;exact ⟨_,he,.inr ⟨hq,rfl⟩⟩
 obtain ⟨r,h,⟨h1,i,hi,rfl⟩ | ⟨h1,rfl⟩⟩:=key
 ·exact .inl ⟨h1,i,hi,h⟩
 ·exact .inr ⟨h1,h⟩
theorem Pe {body:Nat×List β->Option (Ctl (Nat×List β) ρ)} (xs:List α) (f:α->β) (ys:List β) {F:Nat} (hn:xs.length<F) (r:ρ) (hs:∀ i x,xs[i]? =some x->body (i,ys++(xs.take i).map f)=some (.next (i+1,(ys++(xs.take i).map f)++[f x]))) (he:body (xs.length,ys++xs.map f)=some (.out r)):Bs body F (0,ys)=some r:=by
 refine Ft xs.length (fun i=>(i,ys++(xs.take i).map f)) hn r (by simp) (fun i hi=>?_) (by rw [List.take_length]; exact he);have hx:=gEg hi;rw [hs i _ hx,List.take_add_one,hx];simp only [List.map_append,Option.toList,List.map_cons,List.map_nil,List.append_assoc]
theorem Um {xs:List α} {d:α} {i:Nat} (h:i<xs.length):(xs.take i++List.replicate (xs.length - i) d)[i]? =some d:=by
 have h1:(xs.take i).length=i:=by rw [List.length_take]; omega
 rw [List.getElem?_append_right (by omega),h1,Nat.sub_self,List.getElem?_replicate,if_pos (by omega)]
theorem Uv {xs:List α} {d x:α} {i:Nat} (h:xs[i]? =some x):(xs.take i++List.replicate (xs.length - i) d).set i x=xs.take (i+1)++List.replicate (xs.length - (i+1)) d:=by
 have hi:=(gSi.1 h).1;have e:xs.length - i=(xs.length - (i+1))+1:=by omega
 rw [List.take_add_one,h,e,List.replicate_succ,List.set_append,if_neg (by simp; omega)];simp [Nat.min_eq_left (Nat.le_of_lt hi)]
end
theorem Dr {n:Int} (h1: -9223372036854775808<=n) (h2:n<9223372036854775808):wI n=n:=Go.IntWalk.i64_in _ (by omega)
theorem D3 {p:Prop} [Decidable p] (h:p):decide p=true:=decide_eq_true h
theorem Dv {p:Prop} [Decidable p] (h:¬ p):decide p=false:=decide_eq_false h
end
section
def ba (l:List UInt8):ByteArray:=⟨l.toArray⟩
theorem Gi (a b:List UInt8):ba a++ba b=ba (a++b):=by
 apply ByteArray.ext; simp [ba]
theorem Bu (a:List UInt8):(ba a).size=a.length:=by simp [ba,ByteArray.size]
theorem Qk (a:List UInt8):(ba a).data.toList=a:=by simp [ba]
def dg (n:Int):List UInt8:=Lib.decDigits n.toNat
theorem T0:∀ n,(Lib.decDigits n).length<=n+1:=by
 intro n
 induction n using Nat.strongRecOn with
 | _ n ih =>
  rw [Lib.decDigits];split
  ·simp
  ·rw [List.length_append,List.length_singleton];have:=ih (n / 10) (by omega);omega
theorem Wk:∀ n,∀ c∈Lib.decDigits n,48<=c.toNat∧c.toNat<=57:=by
 intro n
 induction n using Nat.strongRecOn with
 | _ n ih =>
  intro c hc;rw [Lib.decDigits] at hc;split at hc
  ·obtain rfl:=List.mem_singleton.1 hc;have e:(UInt8.ofNat (48+n)).toNat=(48+n) % 256:=UInt8.toNat_ofNat';omega
  ·rcases List.mem_append.1 hc with h | h
   ·exact ih (n / 10) (by omega) c h
   ·obtain rfl:=List.mem_singleton.1 h;have e:(UInt8.ofNat (48+n % 10)).toNat=(48+n % 10) % 256:=UInt8.toNat_ofNat';omega
theorem Xf:∀ (k n m:Nat),n<10 ^ (k+1)->n<=1000000->Ct (k+1+m) (n:Int)=some (ba (Lib.decDigits n)):=by
 intro k;have hw:∀ d:Fin 10,IntKind.u8.wrap (48+(d.val:Int))=((48+d.val:Nat):Int):=by decide
 have hb:∀ d:Nat,d<10->strOfNums [IntKind.u8.wrap (wI (48+(d:Int)))]=ba [UInt8.ofNat (48+d)]:=fun d hd=>by
  rw [Dr (by omega) (by omega),hw ⟨d,hd⟩];rfl
 induction k with
 | zero =>
  intro n m h _;rw [show 0+1+m=m+1 by omega];unfold Ct Dd;rw [D3 (show (n:Int)<10 by omega),cond_true,hb n (by omega),Lib.decDigits,dif_pos (by omega)]
 | succ k ih =>
  intro n m h hm;rw [show k+1+1+m=(k+1+m)+1 by omega];unfold Ct Dd;by_cases h10:n<10
  ·rw [D3 (show (n:Int)<10 by omega),cond_true,hb n (by omega),Lib.decDigits,dif_pos (by omega)]
  ·have hq:Int.tdiv (n:Int) 10=((n / 10:Nat):Int):=by rw [Int.tdiv_eq_ediv_of_nonneg (by omega)]; rfl
   have hr:Int.tmod (n:Int) 10=((n % 10:Nat):Int):=by rw [Int.tmod_eq_emod_of_nonneg (by omega)]; rfl
   have hl:=T0 (n / 10);rw [Dv (show ¬ (n:Int)<10 by omega),cond_false,hq,hr,Dr (n:=((n / 10:Nat):Int)) (by omega) (by omega),ih (n / 10) m (by rw [Nat.pow_succ] at h; omega) (by omega),obs,hb (n % 10) (by omega),A7 (by rw [Bu,Bu]; simp; omega),Gi];congr 2
   conv=>rhs; rw [Lib.decDigits,dif_neg h10]
theorem Yq {n:Int} (h:0<=n∧n<=1000):Ct 4096 n=some (ba (dg n)):=by
 obtain ⟨k,rfl⟩:=Int.eq_ofNat_of_zero_le h.1;exact Xf 3 k 4092 (by omega) (by omega)
theorem Hl {α:Type} (f:α->List UInt8) (c:Nat):∀ (xs:List α),(∀ x∈xs,(f x).length<=c)->(xs.flatMap f).length<=c*xs.length
 | [],_=>by simp
 | x :: xs,h=>by
  rw [List.flatMap_cons,List.length_append,List.length_cons,Nat.mul_succ];have:=h x (by simp);have:=Hl f c xs fun y hy=>h y (by simp [hy])
  omega
def spc (n:Int):List UInt8:=32 :: dg n
theorem Ku {n:Int} (h:0<=n∧n<=100):(dg n).length<=101:=by
 have:=T0 n.toNat;unfold dg; omega
theorem Oc {a b c:UInt8} (h:c≠a):∀ (n:Nat) (l:List UInt8),Lib.replaceK [a] [b] n (c :: l)=c :: Lib.replaceK [a] [b] n l
 | 0,l=>rfl
 | n+1,l=>by
  have hp:([a]:List UInt8).isPrefixOf (c :: l)=false:=by simp [List.isPrefixOf,Ne.symm h]
  have hge:=Lib.index_ge l [a];unfold Lib.replaceK;rw [show Lib.index (c :: l) [a]=if Lib.index l [a]== -1 then -1 else Lib.index l [a]+1 from by (conv=>lhs; unfold Lib.index; rw [hp]); rw [if_neg Bool.false_ne_true]];by_cases hi:Lib.index l [a]= -1
  ·rw [hi]; rfl
  ·have h1:(Lib.index l [a]== -1)=false:=beq_eq_false_iff_ne.2 hi;have h2:(Lib.index l [a]+1== -1)=false:=beq_eq_false_iff_ne.2 (by omega);rw [h1];simp only [Bool.false_eq_true,if_false,h2];rw [show (Lib.index l [a]+1).toNat=(Lib.index l [a]).toNat+1 by omega,List.take_succ_cons,show (Lib.index l [a]).toNat+1+([a]:List UInt8).length=((Lib.index l [a]).toNat+([a]:List UInt8).length)+1 by simp,List.drop_succ_cons];rfl
theorem Gc {a b:UInt8}:∀ (s:List UInt8),Lib.replaceK [a] [b] (s.count a) s=s.map fun c=>if c=a then b else c
 | []=>rfl
 | c :: l=>by
  by_cases h:c=a
  ·subst h;have hp:([c]:List UInt8).isPrefixOf (c :: l)=true:=by simp [List.isPrefixOf]
   have hi:Lib.index (c :: l) [c]=(0:Nat):=by unfold Lib.index; rw [hp]; rfl
   rw [List.count_cons_self,Lib.replaceK_hit [c] [b] _ (c :: l) 0 hi];simp only [List.take_zero,List.nil_append,List.length_singleton,Nat.zero_add,List.drop_succ_cons,List.drop_zero,List.map_cons,if_true];rw [Gc l]; rfl
  ·rw [List.count_cons_of_ne h,Oc h,Gc l,List.map_cons,if_neg h]
theorem Mh {a b:UInt8} (hab:a≠b) (s:List UInt8):Lib.replaceAll s [a] [b]=s.map fun c=>if c=a then b else c:=by
 unfold Lib.replaceAll Lib.replace;rw [if_neg (by simpa using hab)];unfold Lib.replaceNum;rw [if_pos (.inl (by decide)),Lib.count_one,Gc]
theorem Te (n:Int):(dg n).map (fun c=>if c=(44:UInt8) then (32:UInt8) else c)=dg n:=by
 conv=>rhs; rw [← List.map_id (dg n)]
 refine List.map_congr_left fun c hc=>?_
 have:=Wk _ c hc;rw [if_neg]; rfl;rintro rfl;have e:(44:UInt8).toNat=44:=rfl;omega
theorem Wa (r:List Int):(Lib.joinTail [44] (r.map dg)).map (fun c=>if c=(44:UInt8) then (32:UInt8) else c)=r.flatMap spc:=by
 induction r with
 | nil=>rfl
 | cons n r ih =>
  simp only [Lib.joinTail,List.map_cons,List.flatten_cons,List.map_append,List.flatMap_cons] at ih ⊢;rw [ih,Te];rfl
theorem We (n:Int) (r:List Int):(32:UInt8) :: Lib.replaceAll (Lib.join ((n :: r).map dg) [44]) [44] [32]=(n :: r).flatMap spc:=by
 rw [Mh (by decide),List.map_cons,Lib.join_cons,List.map_append,Te,Wa];rfl
theorem Mi (xs:List (List UInt8)) (sep:List UInt8) (c:Nat) (h:∀ x∈xs,x.length<=c):(Lib.join xs sep).length<=(c+sep.length)*xs.length:=by
 cases xs with
 | nil=>simp [Lib.join_nil]
 | cons x r =>
  rw [Lib.join_cons,List.length_append];have h1:=h x (by simp)
  have h2:(Lib.joinTail sep r).length<=(sep.length+c)*r.length:=by
   unfold Lib.joinTail;have:=Hl (fun y=>sep++y) (sep.length+c) r (fun y hy=>by rw [List.length_append]; have:=h y (by simp [hy]); omega)
   rwa [List.flatMap_def] at this
  rw [List.length_cons,Nat.mul_succ,Nat.add_comm c];omega
theorem W6 (xs:List (List UInt8)) (h:xs≠[]):Lib.join xs [10]++[10]=xs.flatMap fun x=>x++[10]:=by
 cases xs with
 | nil=>exact absurd rfl h
 | cons x r =>
  clear h
  rw [Lib.join_cons]
  have key:∀ (r:List (List UInt8)),[10]++r.flatMap (fun x=>x++[(10:UInt8)])=Lib.joinTail [10] r++[10]:=by
   intro r
   induction r with
   | nil=>rfl
   | cons y r ih =>
    simp only [Lib.joinTail,List.map_cons,List.flatten_cons,List.flatMap_cons] at ih ⊢;rw [List.append_assoc,List.append_assoc,List.append_assoc,← ih]
  rw [List.flatMap_cons,List.append_assoc,List.append_assoc,key]
theorem V9 (xs:List (List UInt8)) (sep:List UInt8):Ux (xs.map ba) (ba sep)=ba (Lib.join xs sep):=by
 unfold Ux;rw [List.map_map,Qk];congr 3
 conv=>rhs; rw [← List.map_id xs]
 exact List.map_congr_left fun x _=>Qk x
def Nc (xs:List Int):Prop:=∀ n∈xs,0<=n∧n<100
theorem Qp {xs:List Int} (h:Nc xs) (hl:xs.length<=100):Cd xs=some (ba (Lib.join (xs.map dg) [44])):=by
 unfold Cd;have hloop:=Pe (body:=fun s_:Nat×List ByteArray=>B0 xs s_.1 s_.2) xs (fun n=>ba (dg n)) [] (F:=4611686018427387904) (by omega) (xs.map fun n=>ba (dg n)) (fun i x hx=>?_) ?_
 ·have hjl:(Lib.join (xs.map dg) [44]).length<=(101+1)*xs.length:=by
   have:=Mi (xs.map dg) [44] 101 (fun x hx=>by obtain ⟨n,hn,rfl⟩:=List.mem_map.1 hx; have:=h n hn; exact Ku (by omega))
   simpa using this
  have e:=V9 (xs.map dg) [44];rw [List.map_map] at e;rw [show Bs (fun s_:Nat×List ByteArray=>B0 xs s_.1 s_.2) 4611686018427387904 (0,[])=some (xs.map fun n=>ba (dg n)) by simpa using hloop,obs];unfold Ck;rw [show (⟨#[44]⟩:ByteArray)=ba [44] from rfl,show xs.map (fun n=>ba (dg n))=xs.map (ba∘dg) from rfl,e,A7 (by rw [Bu,List.length_map]; omega),obs]
 ·have:=Ej hx;have hn:=h x (List.mem_of_getElem? hx)
  try dsimp only
  unfold B0 Dx;rw [D3 (by omega),cond_true,hx,obs,A7 hn,obs,A7 (by simp; omega),A7 (by omega)];rfl
 ·try dsimp only
  unfold B0;rw [Dv (by omega),cond_false,List.nil_append]
theorem Xg {n:Int} {r:List Int} (h:Nc (n :: r)) (hl:(n :: r).length<=100):∃ l,A6 (ba (Lib.join ((n :: r).map dg) [44])) (⟨#[44]⟩:ByteArray) (⟨#[32]⟩:ByteArray)=some (ba l)∧(32:UInt8) :: l=(n :: r).flatMap spc:=by
 have hjl:(Lib.join ((n :: r).map dg) [44]).length<=(101+1)*(n :: r).length:=by
  have:=Mi ((n :: r).map dg) [44] 101 (fun x hx=>by obtain ⟨n,hn,rfl⟩:=List.mem_map.1 hx; have:=h n hn; exact Ku (by omega))
  simpa using this
 refine ⟨Lib.replaceAll (Lib.join ((n :: r).map dg) [44]) [44] [32],?_,We n r⟩;unfold A6 Yr;rw [A7 ⟨by rw [Bu]; omega,by decide,by decide⟩,Qk];rfl
theorem Rs {w:List UInt8} {xs:List Int} (h:Nc xs) (hl:xs.length<=100) (hw:w.length<=1000):Bx (ba w) xs=some (ba ((w++xs.flatMap spc)++[10])):=by
 unfold Bx
 have hfl:∀ i,((xs.take i).flatMap spc).length<=102*100:=fun i=>by
  have:=Hl spc 102 (xs.take i) (fun x hx=>by have:=h x (List.mem_of_mem_take hx); have:=Ku (n:=x) (by omega); unfold spc; rw [List.length_cons]; omega);have h2:(xs.take i).length<=100:=by rw [List.length_take]; omega
  omega
 have hloop:Bs (fun s_:ByteArray×Nat=>Cl xs s_.1 s_.2) 4611686018427387904 (ba w,0)=some (ba (w++xs.flatMap spc)):=by
  refine Ft xs.length (fun i=>(ba (w++(xs.take i).flatMap spc),i)) (by omega) _ (by simp) (fun i hi=>?_) ?_
  ·have hx:=gEg hi;have hn:=h _ (List.getElem_mem hi);have h1:=hfl i;have h2:=Ku (n:=xs[i]) (by omega)
   try dsimp only
   unfold Cl
   rw [D3 (by omega),cond_true,hx,obs,Yq (by omega),obs,show (⟨#[32]⟩:ByteArray)=ba [32] from rfl,A7 (by rw [Bu,Bu]; simp; omega),Gi,A7 (by rw [Bu,Bu,List.length_append,List.length_append,List.length_singleton]; omega),A7 (by omega),Gi,
    List.take_add_one,hx,Option.toList,List.flatMap_append,List.append_assoc]
   simp only [List.flatMap_cons,List.flatMap_nil,List.append_nil];rfl
  ·try dsimp only
   unfold Cl;rw [Dv (by omega),cond_false,List.take_length]
 have h1:=hfl xs.length;rw [List.take_length] at h1;rw [hloop,obs,show (⟨#[10]⟩:ByteArray)=ba [10] from rfl,A7 (by rw [Bu,Bu,List.length_append,List.length_singleton]; omega),Gi]
end
section
theorem Vb {α:Type} (q:α->Bool) (l:List α):(!l.any fun x=> !q x)=l.all q:=by
 induction l with
 | nil=>rfl
 | cons x l ih=>simp only [List.any_cons,List.all_cons,Bool.not_or,Bool.not_not,ih]
theorem Pn (b:Bool):Q2 (some (if b then Ctl.next () else Ctl.out false)) (fun _:Unit=>some true)=some b:=by cases b <;> rfl
theorem R6 (x lo hi:Int):A4 x lo hi=some (inR x lo hi):=by
 unfold A4 inR;by_cases h:lo<=x <;> simp [h]
theorem Mq (x lo hi:Int):A3 x lo hi=some (inR x lo hi):=by
 unfold A3 inR;by_cases h:lo<=x <;> simp [h]
theorem Sh (xs:List Int) (n:Int) (hn: -1000000000<=n∧n<=1000000000) (hx:xs.length<=1099511627776):B8 xs n=some (xs.all fun x=>inR x 0 (n - 1)):=by
 unfold B8;rw [Oy xs (fun x=>inR x 0 (n - 1)) (.next ()) (.out false) (by omega) (fun i x h=>?_) ?_,Pn]
 ·unfold Cw;rw [Dv (by omega),cond_false]
 ·have:=Ej h;unfold Cw;rw [D3 (by omega),cond_true,h,obs,Dr (by omega) (by omega),Mq,obs,A7 (by omega)];cases inR x 0 (n - 1) <;> rfl
theorem W8 {p:Int} (h:inR p 2 97=false):isF p=false:=by rcases Uu.1 h with h | h <;> simp [isF] <;> omega
theorem V8 (p:Int):Dp p=some (isF p):=by
 unfold Dp;rw [R6,obs];cases hr:inR p 2 97
 ·rw [W8 hr]; rfl
 rw [Bool.not_true,cond_false];obtain ⟨h1,h2⟩:=Co.1 hr;obtain ⟨n,rfl⟩:=Int.eq_ofNat_of_zero_le (show 0<=p by omega)
 have h:Bs (fun s_:Nat=>Cj n s_) 4611686018427387904 2=some (if isF n then .next () else .out false):=by
  refine N2 8 (fun i s=>s=i+2∧O3 n s=true) (by omega) _ ⟨rfl,by simp [O3,List.range_succ]⟩ ?_ ?_
  ·rintro i s hi ⟨hs,hd⟩;unfold Cj;have hm:((s:Int)*(s:Int))=((s*s:Nat):Int):=by simp
   have hss:s*s<=9*9:=Nat.mul_le_mul (by omega) (by omega);rw [hm,Dr (by omega) (by omega)];by_cases hle:s*s<=n
   ·rw [D3 (by omega),cond_true,A7 (by omega),show Int.tmod (n:Int) (s:Int)=((n % s:Nat):Int) from by rw [Int.tmod_eq_emod_of_nonneg (by omega)]; rfl];by_cases h0:n % s=0
    ·refine .inr ?_;rw [h0,Wo n (by omega) s (by omega) (by omega) hle h0]; rfl
    ·refine .inl ⟨s+1,?_,by omega,Sf hd h0⟩;rw [show (((n % s:Nat):Int)==0)=false from by rw [beq_eq_false_iff_ne]; omega,cond_false,A7 (by omega)]
   ·refine .inr ?_;rw [Dv (by omega),cond_false,O7 n (by omega) (by omega) s (by omega) hd (by omega)]; rfl
  ·rintro s ⟨hs,hd⟩;obtain rfl:s=10:=by omega
   unfold Cj;rw [show wI (((10:Nat):Int)*((10:Nat):Int))=100 from Dr (by omega) (by omega),Dv (by omega),cond_false,O7 n (by omega) (by omega) 10 (by omega) hd (by omega)]; rfl
 rw [h,Pn]
theorem Rp (p x:Int):Cn p x=some (inR x 0 (p - 1)):=by
 unfold Cn inR;by_cases h:0<=x
 ·simp [h,show (x<p↔x<=p - 1) by omega]
 ·simp [h]
end
section
def G4 (p i o c g:Int) (e:Int×Int×Int×Int×Int):Bool :=
 inR e.2.1 0 (g - 1) &&
 (if e.1=1 then inR e.2.2.1 0 (i - 1)&&(e.2.2.2.1==0&&e.2.2.2.2==0) else
  if e.1=2 then e.2.2.1==0&&(e.2.2.2.1==0&&e.2.2.2.2==0) else
  if e.1=3 then inR e.2.2.1 0 (g - 1)&&(inR e.2.2.2.1 0 (g - 1)&&e.2.2.2.2==0) else
  if e.1=4 then inR e.2.2.1 0 (g - 1)&&(e.2.2.2.1==0&&inR e.2.2.2.2 0 (p - 1)) else
  if e.1=5∨e.1=6 then inR e.2.2.1 0 (c - 1)&&(e.2.2.2.1==0&&e.2.2.2.2==0) else
  if e.1=7 then inR e.2.2.1 0 (o - 1)&&(e.2.2.2.1==0&&e.2.2.2.2==0) else false)
section
variable {p i o c g:Int} {code:List (Int×Int×Int×Int×Int)}
theorem Uo (hp:2<=p∧p<=97) (hi:0<=i∧i<=8) (ho:0<=o∧o<=8) (hc:0<=c∧c<=40) (hg:0<=g∧g<=16) (e1 e2 e3 e4 e5:Int):C8 p i o c g code e1 e2 e3 e4 e5=some (G4 p i o c g (e1,e2,e3,e4,e5)):=by
 unfold C8 G4;rw [Dr (n:=g - 1) (by omega) (by omega),Dr (n:=i - 1) (by omega) (by omega),Dr (n:=o - 1) (by omega) (by omega),Dr (n:=c - 1) (by omega) (by omega),Dr (n:=p - 1) (by omega) (by omega)];simp only [R6,obs];by_cases h1:e1=1
 ·subst h1; cases inR e2 0 (g - 1) <;> cases inR e3 0 (i - 1) <;> cases e4==0 <;> rfl
 by_cases h2:e1=2
 ·subst h2; cases inR e2 0 (g - 1) <;> cases e3==0 <;> cases e4==0 <;> rfl
 by_cases h3:e1=3
 ·subst h3; cases inR e2 0 (g - 1) <;> cases inR e3 0 (g - 1) <;> cases inR e4 0 (g - 1) <;> rfl
 by_cases h4:e1=4
 ·subst h4; cases inR e2 0 (g - 1) <;> cases inR e3 0 (g - 1) <;> cases e4==0 <;> rfl
 by_cases h5:e1=5
 ·subst h5; cases inR e2 0 (g - 1) <;> cases inR e3 0 (c - 1) <;> cases e4==0 <;> rfl
 by_cases h6:e1=6
 ·subst h6; cases inR e2 0 (g - 1) <;> cases inR e3 0 (c - 1) <;> cases e4==0 <;> rfl
 by_cases h7:e1=7
 ·subst h7; cases inR e2 0 (g - 1) <;> cases inR e3 0 (o - 1) <;> cases e4==0 <;> rfl
 have b1:=beq_eq_false_iff_ne.2 h1;have b2:=beq_eq_false_iff_ne.2 h2;have b3:=beq_eq_false_iff_ne.2 h3;have b4:=beq_eq_false_iff_ne.2 h4;have b5:=beq_eq_false_iff_ne.2 h5;have b6:=beq_eq_false_iff_ne.2 h6;have b7:=beq_eq_false_iff_ne.2 h7;simp [h1,h2,h3,h4,h5,h6,h7,b1,b2,b3,b4,b5,b6,b7]
theorem T9 (hp:2<=p∧p<=97) (hi:0<=i∧i<=8) (ho:0<=o∧o<=8) (hc:0<=c∧c<=40) (hg:0<=g∧g<=16) (e1 e2 e3 e4 e5:Int):Bi i o c g code p e1 e2 e3 e4 e5=some (G4 p i o c g (e1,e2,e3,e4,e5)):=by
 unfold Bi G4 Cx;rw [Dr (n:=g - 1) (by omega) (by omega),Dr (n:=i - 1) (by omega) (by omega),Dr (n:=o - 1) (by omega) (by omega),Dr (n:=c - 1) (by omega) (by omega)];have hb:∀ xs:List Int,xs.length<=2->B8 xs g=some (xs.all fun x=>inR x 0 (g - 1)):=fun xs h=>Sh xs g (by omega) (by omega)
 simp only [Mq,Rp,obs];by_cases h1:e1=1
 ·subst h1; cases inR e2 0 (g - 1) <;> cases inR e3 0 (i - 1) <;> cases e4==0 <;> simp [hb] <;> (cases e5==0 <;> rfl)
 by_cases h2:e1=2
 ·subst h2; cases inR e2 0 (g - 1) <;> cases e3==0 <;> cases e4==0 <;> simp [hb] <;> (cases e5==0 <;> rfl)
 by_cases h3:e1=3
 ·subst h3; cases inR e2 0 (g - 1) <;> cases h:inR e3 0 (g - 1) <;> cases h':inR e4 0 (g - 1) <;> simp [hb,h,h'] <;> cases e4==0 <;> simp
 by_cases h4:e1=4
 ·subst h4; cases inR e2 0 (g - 1) <;> cases h:inR e3 0 (g - 1) <;> cases e4==0 <;> simp [hb,h] <;> (cases e5==0 <;> rfl)
 by_cases h5:e1=5
 ·subst h5; cases inR e2 0 (g - 1) <;> cases inR e3 0 (c - 1) <;> cases e4==0 <;> simp [hb] <;> (cases e5==0 <;> rfl)
 by_cases h6:e1=6
 ·subst h6; cases h:inR e2 0 (g - 1) <;> cases inR e3 0 (c - 1) <;> cases e4==0 <;> simp [hb,h] <;> (cases e5==0 <;> rfl)
 by_cases h7:e1=7
 ·subst h7; cases h:inR e2 0 (g - 1) <;> cases inR e3 0 (o - 1) <;> cases e4==0 <;> simp [hb,h] <;> (cases e5==0 <;> rfl)
 have b1:=beq_eq_false_iff_ne.2 h1;have b2:=beq_eq_false_iff_ne.2 h2;have b3:=beq_eq_false_iff_ne.2 h3;have b4:=beq_eq_false_iff_ne.2 h4;have b5:=beq_eq_false_iff_ne.2 h5;have b6:=beq_eq_false_iff_ne.2 h6;have b7:=beq_eq_false_iff_ne.2 h7;cases inR e2 0 (g - 1) <;> cases e4==0 <;> simp [hb,b1,b2,b3,b4,b5,b6,b7,h1,h2,h3,h4,h5,h6,h7]
def Sq (p i o c g:Int) (code:List (Int×Int×Int×Int×Int)):Bool :=
 isF p&&(inR i 0 8&&(inR o 0 8&&(inR c 0 40&&(inR g 0 16&&(decide (code.length<=120)&&code.all (G4 p i o c g))))))
structure Jc (p i o c g:Int) (code:List (Int×Int×Int×Int×Int)):Prop where
 fp:isF p=true
 hp:2<=p∧p<=97
 hi:0<=i∧i<=8
 ho:0<=o∧o<=8
 hc:0<=c∧c<=40
 hg:0<=g∧g<=16
 hl:code.length<=120
 all:∀ e∈code,G4 p i o c g e=true
theorem U4:Sq p i o c g code=true↔Jc p i o c g code:=by
 simp only [Sq,Bool.and_eq_true,decide_eq_true_eq,List.all_eq_true,Co];constructor
 ·rintro ⟨h1,h2,h3,h4,h5,h6,h7⟩;exact ⟨h1,R2 h1,h2,h3,h4,h5,h6,h7⟩
 ·rintro ⟨h1,_,h2,h3,h4,h5,h6,h7⟩;exact ⟨h1,h2,h3,h4,h5,h6,h7⟩
theorem V7 (hl:code.length<=1099511627776):Do p i o c g code=some (Sq p i o c g code):=by
 unfold Do Sq;simp only [V8,R6,obs];cases hp:isF p
 ·rfl
 cases hi:inR i 0 8
 ·rfl
 cases ho:inR o 0 8
 ·rfl
 cases hc:inR c 0 40
 ·rfl
 cases hg:inR g 0 16
 ·rfl
 by_cases hn:120<code.length
 ·simp only [Bool.not_true,cond_false,obs,D3 (show (120:Int)<((code.length:Nat):Int) by omega),cond_true,Dv (show ¬ code.length<=120 by omega),Bool.and_false,Bool.false_and]
 simp only [Bool.not_true,cond_false,obs,Dv (show ¬ (120:Int)<((code.length:Nat):Int) by omega),D3 (show code.length<=120 by omega),Bool.true_and];rw [Oy code (G4 p i o c g) (.next ()) (.out false) (by omega) (fun i x h=>?_) ?_,Pn]
 ·unfold Df;rw [Dv (by omega),cond_false]
 ·have:=Ej h;unfold Df;rw [D3 (by omega),cond_true,h,obs,Uo (R2 hp) (Co.1 hi) (Co.1 ho) (Co.1 hc) (Co.1 hg),obs,A7 (by omega)];cases G4 p _ o c g x <;> rfl
theorem Q3 (hl:code.length<=1099511627776):Cm p i o c g code=some (Sq p i o c g code):=by
 unfold Cm Sq E7;simp only [Mq,obs];cases hp:isF p
 ·rfl
 cases hi:inR i 0 8
 ·rfl
 cases ho:inR o 0 8
 ·rfl
 cases hc:inR c 0 40
 ·rfl
 cases hg:inR g 0 16
 ·rfl
 by_cases hn:120<code.length
 ·simp only [Bool.not_true,cond_false,obs,D3 (show (120:Int)<((code.length:Nat):Int) by omega),cond_true,Dv (show ¬ code.length<=120 by omega),Bool.and_false,Bool.false_and]
 simp only [Bool.not_true,cond_false,obs,Dv (show ¬ (120:Int)<((code.length:Nat):Int) by omega),D3 (show code.length<=120 by omega),Bool.true_and]
 have key:Aj code i o c g code p=some (code.any fun e=> !G4 p i o c g e):=by
  unfold Aj An
  have:=T4 (body:=fun s_:Nat=>Ai code i o c g code p s_) code (fun e=> !G4 p i o c g e) (.next ()) (fun i=>.out (i:Int)) (F:=4611686018427387904) (by omega) (fun j x h=>by
   have:=Ej h;unfold Ai Cv;rw [D3 (by omega),cond_true,h,obs,T9 (R2 hp) (Co.1 hi) (Co.1 ho) (Co.1 hc) (Co.1 hg),obs,obs,A7 (by omega)];cases G4 p i o c g x <;> rfl) (by
   unfold Ai;rw [Dv (by omega),cond_false])
  rcases this with ⟨h1,i,hi,h2⟩ | ⟨h1,h2⟩
  ·rw [h2,h1];show some (decide (0<=(i:Int)))=_;rw [D3 (by omega)]
  ·rw [h2,h1]; rfl
 rw [key,obs,Vb]
end
end
section
def szV (v:Int) (n:Nat):Int:=if v<n then -1 else v - n
theorem R4 (xs:List (Int×Int×Int×Int×Int)) {v:Int} (hv:0<=v∧v<=1048576) (hx:xs.length<=9223372036854775807):Cz xs v=some (szV v xs.length):=by
 unfold Cz szV;rw [Dr (by omega) (by omega)];by_cases h:v<xs.length
 ·rw [D3 (by omega),if_pos h]; rfl
 ·rw [Dv (by omega),if_neg h]; rfl
theorem Tb (xs:List (Int×Int×Int×Int×Int)) (hx:xs.length<=1073741824):Cy xs=some xs:=by
 unfold Cy;rw [A7 (by omega)]
 have h:Bs (fun s_:Nat×List (Int×Int×Int×Int×Int)=>B2 xs s_.1 s_.2) 4611686018427387904 (0,List.replicate xs.length ((0,0,0,0,0):Int×Int×Int×Int×Int))=some xs:=by
  refine Ft xs.length (fun i=>(i,xs.take i++List.replicate (xs.length - i) (0,0,0,0,0))) (by omega) xs (by simp) (fun i hi=>?_) ?_
  ·have hx:=gEg hi
   try dsimp only
   unfold B2 D0;rw [D3 (by omega),cond_true,hx,obs,obs,Um hi,obs,A7 (by omega),Uv hx]
  ·try dsimp only
   unfold B2;rw [Dv (by omega),cond_false];simp
 rw [h]; rfl
theorem Se (xs:List (Int×Int×Int×Int×Int)) (hx:xs.length<=1073741824):C0 xs xs=some true:=by
 unfold C0
 have h:Bs (fun s_:Nat=>B7 xs xs s_) 4611686018427387904 0=some (.next ()):=by
  refine Ft xs.length (fun i=>i) (by omega) _ rfl (fun i hi=>?_) ?_
  ·have hx:=gEg hi
   try dsimp only
   unfold B7 Du;rw [D3 (by omega),cond_true,hx,obs,obs];simp only [bne_self_eq_false,cond_false,obs,Bool.not_true];rw [A7 (by omega)]
  ·try dsimp only
   unfold B7;rw [Dv (by omega),cond_false]
 rw [h,bne_self_eq_false,cond_false]; rfl
theorem Rb (n0:Int) (n1:Int) (n2:Int) (n3:Int) (s4:List (Int×Int×Int×Int×Int)) {v:Int} (hv:0<=v∧v<=1048576) (hs4:s4.length<=9223372036854775807):Ce n0 n1 n2 n3 s4 v=some (szV v (s4.length)):=by
 unfold Ce;rw [R4 s4 (by omega) hs4,obs];by_cases h0:v<s4.length
 ·rw [show szV v s4.length= -1 from if_pos h0]; rfl
 rw [show szV v s4.length=v - s4.length from if_neg h0,Dv (by omega),cond_false]
theorem Qq (n0:Int) (n1:Int) (n2:Int) (n3:Int) (s4:List (Int×Int×Int×Int×Int)) (hs4:s4.length<=1073741824):Br n0 n1 n2 n3 s4=some (n0,n1,n2,n3,s4):=by
 unfold Br;rw [Tb s4 hs4]; rfl
theorem Q8 (n0:Int) (n1:Int) (n2:Int) (n3:Int) (s4:List (Int×Int×Int×Int×Int)) (hs4:s4.length<=1073741824):Ci n0 n1 n2 n3 s4 n0 n1 n2 n3 s4=some true:=by
 unfold Ci;simp only [Se s4 hs4,bne_self_eq_false,cond_false,obs,Bool.not_true]
end
section
abbrev Rr:=Int×Int×Int×Int×Int
def Jx (e:Rr):List UInt8 :=
 if e.1=1 then [105,110] else if e.1=2 then [122,101,114,111] else if e.1=3 then [97,100,100] else if e.1=4 then [115,99,97,108,101] else if e.1=5 then [108,111,97,100] else if e.1=6 then [115,116,111,114,101] else [111,117,116]
def H3 (e:Rr):List Int :=
 if e.1=1 then [e.2.1,e.2.2.1] else if e.1=2 then [e.2.1] else if e.1=3 then [e.2.1,e.2.2.1,e.2.2.2.1] else if e.1=4 then [e.2.1,e.2.2.1,e.2.2.2.2] else if e.1=5 then [e.2.1,e.2.2.1] else [e.2.2.1,e.2.1]
def F3 (e:Rr):List UInt8:=Jx e++(H3 e).flatMap spc
section
variable {p i o c g:Int} {e:Rr}
theorem R5 (h:G4 p i o c g e=true):e.1=1∨e.1=2∨e.1=3∨e.1=4∨e.1=5∨e.1=6∨e.1=7:=by
 unfold G4 at h;by_cases h1:e.1=1
 ·omega
 by_cases h2:e.1=2
 ·omega
 by_cases h3:e.1=3
 ·omega
 by_cases h4:e.1=4
 ·omega
 by_cases h5:e.1=5∨e.1=6
 ·omega
 by_cases h7:e.1=7
 ·omega
 rw [if_neg h1,if_neg h2,if_neg h3,if_neg h4,if_neg h5,if_neg h7,Bool.and_false] at h;cases h
theorem Ny (hp:2<=p∧p<=97) (hi:0<=i∧i<=8) (ho:0<=o∧o<=8) (hc:0<=c∧c<=40) (hg:0<=g∧g<=16) (h:G4 p i o c g e=true):Nc (H3 e)∧∃ n r,H3 e=n :: r∧(n :: r).length<=3:=by
 have hop:=R5 h;unfold G4 at h;unfold H3;rcases hop with h1 | h1 | h1 | h1 | h1 | h1 | h1
 all_goals
  simp only [h1,Int.reduceEq,if_true,if_false,Bool.and_eq_true,Co,beq_iff_eq,or_true,true_or,or_false,false_or,or_self] at h ⊢;refine ⟨?_,_,_,rfl,by simp⟩;intro n hn;simp only [List.mem_cons,List.not_mem_nil,or_false] at hn;omega
theorem Ts (h1:Nc (H3 e)) (h2:∃ n r,H3 e=n :: r∧(n :: r).length<=3):(F3 e).length<=400:=by
 obtain ⟨n,r,h3,h4⟩:=h2;have h5:=Hl spc 102 (H3 e) (fun x hx=>by have:=h1 x hx; have:=Ku (n:=x) (by omega); unfold spc; rw [List.length_cons]; omega);rw [h3] at h5
 have h6:(Jx e).length<=5:=by unfold Jx; (repeat' split) <;> simp
 unfold F3;rw [List.length_append,h3];omega
theorem Ua (hp:2<=p∧p<=97) (hi:0<=i∧i<=8) (ho:0<=o∧o<=8) (hc:0<=c∧c<=40) (hg:0<=g∧g<=16) (h:G4 p i o c g e=true):Cb e.1 e.2.1 e.2.2.1 e.2.2.2.1 e.2.2.2.2=some (ba (F3 e)):=by
 obtain ⟨h1,h2⟩:=Ny hp hi ho hc hg h;have hl:=Ts h1 h2;obtain ⟨n,r,h3,h4⟩:=h2;rw [h3] at h1;obtain ⟨l,hr,hs⟩:=Xg h1 (by omega);have hcm:=Qp h1 (by omega)
 have hgo:∀ (w:List UInt8) (xs:List Int),w=Jx e->xs=H3 e->(og ((ba w).size+(⟨#[32]⟩:ByteArray).size<=9223372036854775807)<|Option.bind (Cd xs) fun y8=>Option.bind (A6 y8 (⟨#[44]⟩:ByteArray) (⟨#[32]⟩:ByteArray)) fun y9=>og ((ba w++(⟨#[32]⟩:ByteArray)).size+y9.size<=9223372036854775807)<|some ((ba w++(⟨#[32]⟩:ByteArray))++y9))=some (ba (F3 e)):=by
  intro w xs hw hx;have hil:F3 e=(w++[32])++l:=by unfold F3; rw [h3,← hs,← hw]; simp
  have hsz:w.length+l.length+1<=400:=by rw [hil] at hl; simp only [List.length_append,List.length_singleton] at hl; omega
  rw [show (⟨#[32]⟩:ByteArray)=ba [32] from rfl,A7 (by rw [Bu,Bu,List.length_singleton]; omega),hx,h3,hcm,obs];rw [show (ba [32]:ByteArray)=(⟨#[32]⟩:ByteArray) from rfl,hr,obs,show (⟨#[32]⟩:ByteArray)=ba [32] from rfl,Gi,A7 (by rw [Bu,Bu,List.length_append,List.length_singleton]; omega),Gi,hil]
 have hop:=R5 h;unfold Cb;rcases hop with h1 | h1 | h1 | h1 | h1 | h1 | h1
 all_goals
  rw [h1,M4 (by decide),M4 (by decide)];refine hgo _ _ ?_ ?_
  ·unfold Jx; rw [h1]; rfl
  ·unfold H3; rw [h1]; rfl
theorem Ue (hp:2<=p∧p<=97) (hi:0<=i∧i<=8) (ho:0<=o∧o<=8) (hc:0<=c∧c<=40) (hg:0<=g∧g<=16) (h:G4 p i o c g e=true) :
  (Option.bind (Cg) fun y13=>Option.bind (Qw y13 e.1) fun x14=>Option.bind (Bz e.1 e.2.1 e.2.2.1 e.2.2.2.1 e.2.2.2.2) fun y15=>Bx x14 y15)=some (ba (F3 e++[10])):=by
 obtain ⟨h1,h2⟩:=Ny hp hi ho hc hg h;obtain ⟨n,r,h3,h4⟩:=h2
 have hw:(Jx e).length<=5:=by unfold Jx; (repeat' split) <;> simp
 have key:=Rs h1 (by rw [h3]; omega) (show (Jx e).length<=1000 by omega);have hop:=R5 h;unfold Cg Bz F3;rw [obs,← key];rcases hop with h1 | h1 | h1 | h1 | h1 | h1 | h1
 all_goals
  rw [h1,M4 (by decide)];unfold Jx H3;rw [h1];rfl
end
section
variable {p i o c g:Int} {code:List Rr}
def Gp (i o c g:Int):List UInt8:=[112,114,111,103,114,97,109]++[i,o,c,g].flatMap spc
def Vm (i o c g:Int) (code:List Rr):List UInt8:=(Gp i o c g++[10])++code.flatMap fun e=>F3 e++[10]
theorem Tz (G:Jc p i o c g code):Nc [i,o,c,g]∧(Gp i o c g).length<=500:=by
 have h1:=G.hi;have h2:=G.ho;have h3:=G.hc;have h4:=G.hg
 have h:Nc [i,o,c,g]:=fun n hn=>by
  simp only [List.mem_cons,List.not_mem_nil,or_false] at hn;omega
 refine ⟨h,?_⟩;have h5:=Hl spc 102 [i,o,c,g] (fun x hx=>by have:=h x hx; have:=Ku (n:=x) (by omega); unfold spc; rw [List.length_cons]; omega);unfold Gp;rw [List.length_append];simp only [List.length_cons,List.length_nil] at h5 ⊢;omega
theorem Po (G:Jc p i o c g code) {e:Rr} (he:e∈code):(F3 e).length<=400:=by
 obtain ⟨h1,h2⟩:=Ny G.hp G.hi G.ho G.hc G.hg (G.all e he);exact Ts h1 h2
theorem Ta (G:Jc p i o c g code):Dq i o c g code=some (ba (Vm i o c g code)):=by
 obtain ⟨h1,h2⟩:=Tz G;have hl:=G.hl;unfold Dq;rw [show (⟨#[112,114,111,103,114,97,109]⟩:ByteArray)=ba [112,114,111,103,114,97,109] from rfl,Rs h1 (by simp) (by simp),obs]
 have hfl:∀ k,((code.take k).flatMap fun e=>F3 e++[10]).length<=401*120:=fun k=>by
  have:=Hl (fun e=>F3 e++[10]) 401 (code.take k) (fun x hx=>by have:=Po G (List.mem_of_mem_take hx); rw [List.length_append,List.length_singleton]; omega);have h2:(code.take k).length<=120:=by rw [List.length_take]; omega
  omega
 have hloop:Bs (fun s_:ByteArray×Nat=>Cf code s_.1 s_.2) 4611686018427387904 (ba (([112,114,111,103,114,97,109]++[i,o,c,g].flatMap spc)++[10]),0)=some (ba (Vm i o c g code)):=by
  refine Ft code.length (fun k=>(ba ((Gp i o c g++[10])++(code.take k).flatMap fun e=>F3 e++[10]),k)) (by omega) _ (by simp [Gp]) (fun k hk=>?_) ?_
  ·have hx:=gEg hk;have h3:=hfl k;have h4:=Po G (List.getElem_mem hk);have key:=Ue G.hp G.hi G.ho G.hc G.hg (G.all _ (List.getElem_mem hk))
   try dsimp only
   unfold Cf;rw [D3 (by omega),cond_true,hx,obs]
   have e1:∀ K:ByteArray->Option (Ctl (ByteArray×Nat) ByteArray),(Option.bind (Cg) fun y13=>Option.bind (Qw y13 code[k].1) fun x14=>Option.bind (Bz code[k].1 code[k].2.1 code[k].2.2.1 code[k].2.2.2.1 code[k].2.2.2.2) fun y15=>Option.bind (Bx x14 y15) K)=K (ba (F3 code[k]++[10])):=fun K=>by
    rw [← obs (f:=K),← key];simp only [Option.bind_assoc]
   rw [e1];rw [A7 (by rw [Bu,Bu,List.length_append,List.length_append,List.length_append,List.length_singleton]; omega),A7 (by omega),Gi,List.take_add_one,hx,Option.toList,List.flatMap_append];simp only [List.flatMap_cons,List.flatMap_nil,List.append_nil,List.append_assoc]
  ·try dsimp only
   unfold Cf;rw [Dv (by omega),cond_false,List.take_length];rfl
 rw [hloop,obs]
theorem R1 (G:Jc p i o c g code):Bv i o c g code=some (ba (Vm i o c g code)):=by
 obtain ⟨h1,h2⟩:=Tz G;have hl:=G.hl;obtain ⟨l,hr,hs⟩:=Xg h1 (by simp);have hhead:Gp i o c g=[112,114,111,103,114,97,109,32]++l:=by unfold Gp; rw [← hs]; rfl
 have hll:l.length<=500:=by rw [hhead,List.length_append] at h2; simp only [List.length_cons,List.length_nil] at h2; omega
 unfold Bv;rw [Qp h1 (by simp),obs,hr,obs,show (⟨#[112,114,111,103,114,97,109,32]⟩:ByteArray)=ba [112,114,111,103,114,97,109,32] from rfl,A7 (by rw [Bu,Bu]; simp only [List.length_cons,List.length_nil]; omega),Gi,← hhead];have hloop:=Pe (body:=fun s_:Nat×List ByteArray=>Bm code s_.1 s_.2) code (fun e=>ba (F3 e)) [ba (Gp i o c g)] (F:=4611686018427387904) (by omega) ([ba (Gp i o c g)]++code.map fun e=>ba (F3 e)) (fun k x hx=>?_) ?_
 ·have e2:[ba (Gp i o c g)]++code.map (fun e=>ba (F3 e))=(Gp i o c g :: code.map F3).map ba:=by simp
  have hjl:=Mi (Gp i o c g :: code.map F3) [10] 500 (fun x hx=>by
   rcases List.mem_cons.1 hx with rfl | hx
   ·exact h2
   ·obtain ⟨e,he,rfl⟩:=List.mem_map.1 hx;have:=Po G he;omega)
  simp only [List.length_cons,List.length_map,List.length_nil] at hjl;rw [hloop,obs];unfold Ck;rw [show (⟨#[10]⟩:ByteArray)=ba [10] from rfl,e2,V9,A7 (by rw [Bu]; simp only [List.length_map,List.length_cons]; omega),obs,A7 (by rw [Bu,Bu,List.length_singleton]; omega),Gi,W6 _ (by simp),List.flatMap_cons,List.flatMap_map];rfl
 ·have:=Ej hx;have hm:=List.mem_of_getElem? hx
  try dsimp only
  unfold Bm;rw [D3 (by omega),cond_true,hx,obs,Ua G.hp G.hi G.ho G.hc G.hg (G.all _ hm),obs,A7 (by simp; omega),A7 (by omega)]
 ·try dsimp only
  unfold Bm;rw [Dv (by omega),cond_false]
end
theorem J6 {p i o c g:Int} {code:List Rr} (h1:code.length<=9223372036854775807):A8 p i o c g code=some true:=by
 unfold A8;rw [Rb i o c g code (by omega) h1,obs];by_cases e0:(1048576:Int)<((code.length:Nat):Int)
 ·rw [show szV 1048576 code.length= -1 from if_pos e0]; rfl
 rw [show szV 1048576 code.length=1048576 - ((code.length:Nat):Int) from if_neg e0,Dv (by omega),cond_false];have h1:code.length<=1073741824:=by omega
 have hs:∃ t b,B1 p i o c g code=some (t,b)∧B4 p i o c g code=some (t,b):=by
  unfold B1 B4;rw [V7 (by omega),Q3 (by omega),obs,obs];cases hg:Sq p i o c g code
  ·exact ⟨_,_,rfl,rfl⟩
  ·have G:=U4.1 hg;rw [Bool.not_true,cond_false,cond_false,Ta G,R1 G];exact ⟨_,_,rfl,rfl⟩
 obtain ⟨t,b,hs,hi⟩:=hs;simp only [Qq i o c g code h1,hs,hi,Q8 i o c g code h1,obs,bne_self_eq_false,beq_self_eq_true,Bool.not_true,cond_false]
end
section
open Go.RowKit Go.Deep
theorem programText_walk (p:Int) (xInputs:Int) (xOutputs:Int) (xCells:Int) (xRegisters:Int) (xCode:List (Int×Int×Int×Int×Int)) (A_xCode:Option Addr) (c_xCode:Nat) (l_xCode:List Addr) (w:World) (_i_p: -9223372036854775808<=p∧p<=9223372036854775807) (_i_xInputs: -9223372036854775808<=xInputs∧xInputs<=9223372036854775807) (_i_xOutputs: -9223372036854775808<=xOutputs∧xOutputs<=9223372036854775807) (_i_xCells: -9223372036854775808<=xCells∧xCells<=9223372036854775807) (_i_xRegisters: -9223372036854775808<=xRegisters∧xRegisters<=9223372036854775807) (s_xCode:Sl (fun _=>True) w (.pair .int (.pair .int (.pair .int (.pair .int .int)))) A_xCode c_xCode xCode l_xCode) (_i_xCode:Ty.In (.slice (.pair .int (.pair .int (.pair .int (.pair .int .int))))) xCode) (tab:Tab w) :
  Calls Tryd.prog 4 #[.int .i64 p,.agg #[.int .i64 xInputs,.int .i64 xOutputs,.int .i64 xCells,.int .i64 xRegisters,.slice A_xCode xCode.length c_xCode]] w fun e w'=>e=.returned (.bool true)∧Below w.heap.size w w':=by
 have hl:A8 p xInputs xOutputs xCells xRegisters xCode=some true:=J6 (Ye s_xCode).2;refine (Ez hl w (fun _=>True) [.int .i64 p,.agg #[.int .i64 xInputs,.int .i64 xOutputs,.int .i64 xCells,.int .i64 xRegisters,.slice A_xCode xCode.length c_xCode]] (fun w' hb=>tab.below hb) ⟨_,_,rfl,rfl,⟨_,_,rfl,⟨_,rfl,⟨_,_,rfl,rfl,⟨_,_,rfl,rfl,⟨_,_,rfl,rfl,⟨_,_,rfl,rfl,⟨_,_,rfl,⟨A_xCode,c_xCode,l_xCode,rfl,s_xCode⟩,rfl⟩⟩⟩⟩⟩⟩,rfl⟩⟩).mono ?_;rintro e w' ⟨u,rfl,hb,us,ls,h1,_,rfl⟩;obtain ⟨u1,us1,rfl,h2,_,rfl,rfl⟩:=h1;obtain rfl:u1=.bool true:=h2;exact ⟨rfl,hb⟩
end
end Go.Proofs.YtgljmpiofhlkjaaDoor
