/- Lemmas on the program and on partial functions that stand in place of its code (part 5); no condition beyond those that each one states. -/
import Derived.Test.YtehocbbnjfmgaaaDoorZ4
import Derived.KernelRfl
namespace Go.Proofs.YtehocbbnjfmgaaaDoor
open Go.RowKit Go.Deep
set_option maxRecDepth 4000
def Hn:AC :=
 (.seq (.seq (rg [xo 12 (qm (tm 5)),xo 13 (qm (tm 0)),xo 14 (.i (.len (tm 13))),xo 15 (qb .lss (tm 12) (tm 14))])
 (.cond (tm 15)
  .skip
  (.exit 0)))
 (.seq (.block 1 (.seq (rg [xo 18 (qm (tm 0)),xo 19 (qm (tm 5)),xo 20 (qx 1 (tm 18) (tm 19)),xo 21 (ql (tm 20)),xo 22 (qm (tm 1)),xo 23 (qc 33 [tm 21,tm 22] [[some .int],[]]),xo 1 (qm (tm 23))])
 (.seq (rg [xo 24 (qm (tm 1)),xo 25 (qb .lss (tm 24) (ci 0))])
 (.cond (tm 25)
  (.seq (rg [xo 4 (qm (ci (-1)))])
  .ret)
  .skip))))
 (rg [xo 16 (qm (tm 5)),xo 17 (qb .add (tm 16) (ci 1)),xo 5 (qm (tm 17))])))
def Jq:AC :=
 (.seq (rg [xo 4 (qm (ci 0))])
 (.seq (rg [xo 6 (qm (tm 1)),xo 7 (qm (tm 0)),xo 8 (.i (.len (tm 7))),xo 9 (qb .sub (tm 6) (tm 8)),xo 1 (qm (tm 9))])
 (.seq (.seq (rg [xo 10 (qm (tm 1)),xo 11 (qb .lss (tm 10) (ci 0))])
 (.cond (tm 11)
  (.seq (rg [xo 4 (qm (ci (-1)))])
  .ret)
  .skip))
 (.seq (.seq (rg [xo 5 (qm (ci 0))])
 (.block 0 (.loop Hn)))
 (.seq (rg [xo 26 (qm (tm 1)),xo 4 (qm (tm 26))])
 .ret)))))
def Sa:List Res:=[.tmp 4]
theorem Rv:Ap Tryd.prog Tryd.f14=some (Jq,Sa):=by kernel_rfl
def C3 (a0:List (List Int)) (l9_m1:Int) (l9_m5:Nat):Option (Ctl (Int×Nat) (Ctl Int Int)) :=
 cond (decide (((l9_m5:Nat):Int)<((a0.length:Nat):Int)))
 (Option.bind (a0[l9_m5]?) fun x15 =>
 Option.bind (E6 x15 l9_m1) fun y16 =>
 cond (decide (y16<0))
  (some (Ctl.out (Ctl.out (-1))))
  (og (l9_m5+1<4611686018427387904) <|
  some (Ctl.next (y16,l9_m5+1))))
 (some (Ctl.out (Ctl.next l9_m1)))
def Ee (a0:List (List Int)) (a1:Int):Option Int :=
 cond (decide (wI (a1 - ((a0.length:Nat):Int))<0))
 (some (-1))
 (Lg (A6 (fun s_:Int×Nat=>C3 a0 s_.1 s_.2) 4611686018427387904 (wI (a1 - ((a0.length:Nat):Int)),0)) fun l7_m1 =>
 some l7_m1)
def Pa (r:Int):RV:=⟨false,[(false,[.sc (.int .i64 r)])]⟩
theorem Pe {a0:List (List Int)} {a1:Int} {r:Int} (h:Ee a0 a1=some r):A9 Tryd.prog Tab 14 [.tree (.slice .int) a0,ai a1] (Pa r):=by
 refine A0 (by kernel_rfl) Tryd.func14 Rv (n:=27) (by kernel_rfl) (by simp) (tl:=[(0,.tree (.slice .int) a0),(1,ai a1)]) rfl ?_;unfold Jq;unfold Ee at h;refine Al ?_;refine Al ?_;refine Ab ?_;refine Al ?_;rcases Ae h with ⟨q5,h⟩ | ⟨q5,h⟩
 ·have q5_:=of_decide_eq_true q5;refine Ag q5 ?_;refine Al ?_;refine Ai (tr_ ?_);obtain rfl:=zj h;exact Bh [ai (-1)] (A1 rfl zl A2)
 have q5_:=of_decide_eq_false q5;refine Ah q5 ?_;refine Aj (tn_ ?_);refine wr_ ?_;refine Du h (fun (l7_m1:Int) S_=>S_=⟨Am [(1,ai l7_m1)],Ad (Ar []),2⟩) ?_ ?_
 ·intro v_ h hk7;refine Al ?_;refine Ak ?_;refine A5 h (fun t_ S_=>∃ (l9_m1:Int),∃ (l9_m5:Nat),t_=(l9_m1,l9_m5)∧S_=⟨Am [(0,.tree (.slice .int) a0),(1,ai l9_m1),(5,ai ((l9_m5:Nat):Int))],Ad (Ar []),2⟩) ⟨_,Ac [],⟨wI (a1 - ((a0.length:Nat):Int)),0,rfl,rfl⟩⟩ ?_;rintro n_ _ _ c_ ⟨l9_m1,l9_m5,rfl,rfl⟩ h hn9
  (try dsimp only at h);unfold C3 at h;unfold Hn;refine Ab ?_;refine Al ?_;rcases Ae h with ⟨q12,h⟩ | ⟨q12,h⟩
  ·have q12_:=of_decide_eq_true q12;refine Ag q12 ?_;refine Aj (tn_ ?_);refine wr_ ?_;refine Ab ?_;refine Ak ?_;refine Ab ?_;obtain ⟨x15,e15,h⟩:=Af h;obtain ⟨y16,h16,h⟩:=Af h;refine Aa 13 ?_;refine rz0 (.tree (.slice .int) a0) ?_;refine rz0 (ai ((l9_m5:Nat):Int)) ?_;refine rs0 (.telt none (.slice .int) x15 0) (zi (t:=.slice .int) (xs:=a0) (k:=.i64) (m:=((l9_m5:Nat):Int)) (Bi _) e15) ?_;refine rz0 (.tree .int x15) ?_;refine rz0 (ai l9_m1) ?_;refine zc (ai y16) [] [.tree .int x15,ai l9_m1] (Ra h16) ?_;refine rsB 1 ?_;refine Ay (tn_ ?_);refine wr_ ?_;refine Al ?_;rcases Ae h with ⟨q18,h⟩ | ⟨q18,h⟩
   ·have q18_:=of_decide_eq_true q18;refine Ag q18 ?_;refine Al ?_;refine Ai (br_ (tr_ (tr_ (br_ (tr_ ?_)))));obtain rfl:=zj h;have h:=hn9
    (try dsimp only at h);obtain rfl:=zj h;have h:=hk7
    (try dsimp only at h);obtain rfl:=zj h;exact Bh [ai (-1)] (A1 rfl zl A2)
   have q18_:=of_decide_eq_false q18;refine Ah q18 ?_;refine Aj (bn_ (tn_ ?_));refine wr_ ?_;obtain ⟨g20,h⟩:=Ax h;refine Aa 18 ?_;refine rz0 (ai ((l9_m5:Nat):Int)) ?_;refine rs0 (ai ((l9_m5+1:Nat):Int)) (za g20) ?_;refine rsB 1 ?_;refine Ay (tn_ ?_);obtain rfl:=zj h;exact ⟨(y16,l9_m5+1),_,Ac [],⟨y16,l9_m5+1,rfl,rfl⟩,hn9⟩
  have q12_:=of_decide_eq_false q12;refine Ah q12 ?_;refine A3 (te_ (te_ (be_ (tn_ ?_))));obtain rfl:=zj h;have h:=hn9
  (try dsimp only at h);obtain rfl:=zj h;exact ⟨l9_m1,_,rfl,Ac [],rfl⟩
 rintro l7_m1 _ rfl h
 (try dsimp only at h);refine Al ?_;refine Ai ?_;obtain rfl:=zj h;exact Bh [ai l7_m1] (A1 rfl zl A2)
def Hl:AC :=
 (.seq (.seq (rg [xo 8 (qm (tm 4)),xo 9 (qm (tm 0)),xo 10 (.i (.len (tm 9))),xo 11 (qb .lss (tm 8) (tm 10))])
 (.cond (tm 11)
  .skip
  (.exit 0)))
 (.seq (.block 1 (rg [xo 14 (qm (tm 3)),xo 15 (qm (tm 4)),xo 16 (qm (tm 0)),xo 17 (qm (tm 4)),xo 18 (qx 1 (tm 16) (tm 17)),xo 19 (ql (tm 18)),xo 20 (qc 38 [tm 19] [[some .int]]),xo 21 (qx 1 (tm 14) (tm 15)),xn (qs (tm 21) (tm 20))]))
 (rg [xo 12 (qm (tm 4)),xo 13 (qb .add (tm 12) (ci 1)),xo 4 (qm (tm 13))])))
def J7:AC :=
 (.seq (rg [xo 2 (qm (.cst .nils))])
 (.seq (rg [xo 5 (qm (tm 0)),xo 6 (.i (.len (tm 5))),xo 7 (.makeV 39 (.slice .int) 24 [.nils] (tm 6) (tm 6)),xo 3 (qm (tm 7))])
 (.seq (.seq (rg [xo 4 (qm (ci 0))])
 (.block 0 (.loop Hl)))
 (.seq (rg [xo 22 (qm (tm 3)),xo 2 (qm (tm 22))])
 .ret))))
def Qh:List Res:=[.tmp 2]
theorem Qd:Ap Tryd.prog Tryd.f17=some (J7,Qh):=by kernel_rfl
theorem Pu:Az Tryd.prog 17=true:=by kernel_rfl
def Cy (a0:List (List Int)) (l7_m4:Nat) (l7_m3:List (List Int)):Option (Ctl (Nat×List (List Int)) (List (List Int))) :=
 cond (decide (((l7_m4:Nat):Int)<((a0.length:Nat):Int)))
 (Option.bind (a0[l7_m4]?) fun x12 =>
 Option.bind (E3 x12) fun y13 =>
 Option.bind (l7_m3[l7_m4]?) fun x14 =>
 og (l7_m4+1<4611686018427387904) <|
 some (Ctl.next (l7_m4+1,l7_m3.set l7_m4 y13)))
 (some (Ctl.out l7_m3))
def Ed (a0:List (List Int)):Option (List (List Int)) :=
 og (0<=((a0.length:Nat):Int)∧((a0.length:Nat):Int)<=((a0.length:Nat):Int)∧((a0.length:Nat):Int)<=1073741824∧(24:Int)*((a0.length:Nat):Int)<=140737488355328) <|
Option.bind (A6 (fun s_:Nat×List (List Int)=>Cy a0 s_.1 s_.2) 4611686018427387904 (0,List.replicate a0.length ([]:List Int))) fun l5_m3 =>
some l5_m3
theorem Pf {a0:List (List Int)} {r:List (List Int)} (h:Ed a0=some r):Ea Tryd.prog Tab 17 [.tree (.slice .int) a0] [] (.own (oi 0 1) (.slice .int) 0 r.length) [(oi 0 1,.mat 39 (oi 1 1) .int r),(oi 1 1,.pool 3 .int r)]:=by
 refine B6 (by kernel_rfl) Tryd.func17 Qd (n:=23) (by kernel_rfl) (by simp) (tl:=[(0,.tree (.slice .int) a0)]) rfl (by kernel_rfl) trivial ⟨⟨3,.tail _ (.head _)⟩,⟨trivial,trivial⟩⟩ ?_;unfold J7;unfold Ed at h;refine Al ?_;refine Ab ?_;obtain ⟨g4,h⟩:=Ax h;refine Aa 6 ?_;refine rz0 (.tree (.slice .int) a0) ?_;refine rz0 (ai ((a0.length:Nat):Int)) ?_;refine Acx (.own (oi 112 4) (.slice .int) 0 a0.length) (oi 112 4) 39 3 .int (List.replicate a0.length ([]:List Int)) trivial (Y9 (j:=a0.length) (k:=.i64) (k':=.i64) (m:=((a0.length:Nat):Int)) (c:=((a0.length:Nat):Int)) 3 (by kernel_rfl) (by kernel_rfl) g4 (by kernel_rfl) rfl) (by kernel_rfl) (by rw [List.length_replicate]) (by kernel_rfl) ?_;refine rsB 1 ?_;refine Ay (tn_ ?_);refine wr_ ?_;refine Ba h (fun (l5_m3:List (List Int)) S_=>S_=⟨Am [(3,.own (oi 0 1) (.slice .int) 0 l5_m3.length)],Ad (Ar [(oi 0 1,.mat 39 (oi 1 1) .int l5_m3),(oi 1 1,.pool 3 .int l5_m3)]),2⟩) ?_ ?_
 ·intro v_ h;refine Al ?_;refine Ak ?_;refine A5 h (fun t_ S_=>∃ (l7_m4:Nat),∃ (l7_m3:List (List Int)),t_=(l7_m4,l7_m3)∧S_=⟨Am [(0,.tree (.slice .int) a0),(3,.own (oi 0 1) (.slice .int) 0 l7_m3.length),(4,ai ((l7_m4:Nat):Int))],Ad (Ar [(oi 0 1,.mat 39 (oi 1 1) .int l7_m3),(oi 1 1,.pool 3 .int l7_m3)]),2⟩) ⟨_,(B4 3 (.own (oi 112 4) (.slice .int) 0 a0.length) (.own (oi 112 4) (.slice .int) 0 ((List.replicate a0.length ([]:List Int)).length)) (by kernel_rfl) (congrArg (fun z_=>((.own (oi 112 4) (.slice .int) 0 z_):AV)) (List.length_replicate.symm:a0.length=(List.replicate a0.length ([]:List Int)).length))).trans (Ac [(oi 0 1,oi 112 4),(oi 1 1,oi 112 4)]),⟨0,List.replicate a0.length ([]:List Int),rfl,rfl⟩⟩ ?_;rintro n_ _ _ c_ ⟨l7_m4,l7_m3,rfl,rfl⟩ h hn7
  (try dsimp only at h);unfold Cy at h;unfold Hl;refine Ab ?_;refine Al ?_;rcases Ae h with ⟨q10,h⟩ | ⟨q10,h⟩
  ·have q10_:=of_decide_eq_true q10;refine Ag q10 ?_;refine Aj (tn_ ?_);refine wr_ ?_;refine Ab ?_;refine Ak ?_;obtain ⟨x12,e12,h⟩:=Af h;obtain ⟨y13,h13,h⟩:=Af h;obtain ⟨x14,e14,h⟩:=Af h;refine Aa 15 ?_;refine rz0 (.own (oi 0 1) (.slice .int) 0 l7_m3.length) ?_;refine rz0 (ai ((l7_m4:Nat):Int)) ?_;refine rz0 (.tree (.slice .int) a0) ?_;refine rz0 (ai ((l7_m4:Nat):Int)) ?_;refine rs0 (.telt none (.slice .int) x12 0) (zi (t:=.slice .int) (xs:=a0) (k:=.i64) (m:=((l7_m4:Nat):Int)) (Bi _) e12) ?_;refine rz0 (.tree .int x12) ?_;refine zc (.own (oi 320 12) .int 0 y13.length) [(oi 320 12,some (.arr 3 .int y13))] [.tree .int x12] (Q2 h13) ?_;refine rs0 (.elt (oi 0 1) l7_m4 0) (zo (t:=.slice .int) (o:=oi 0 1) (len:=l7_m3.length) (k:=.i64) (m:=((l7_m4:Nat):Int)) (Bi _) (Be e14)) ?_;refine Aek (oi 0 1) (oi 0 1) (.vec 39 1 l7_m3.length ((hdL (oi 1 1) .int l7_m3).set l7_m4 (.own (oi 320 12) .int 0 y13.length))) (Aem (o:=oi 0 1) (e1:=39) (m:=l7_m3.length) (cs:=hdL (oi 1 1) .int l7_m3) (v:=.own (oi 320 12) .int 0 y13.length) (j:=l7_m4) (by kernel_rfl) (by kernel_rfl) (by kernel_rfl) rfl (by rw [Ek]; exact Be e14)) ?_;refine Ay (bn_ (tn_ ?_));refine ⟨_,Aav (e1:=39) (e:=3) (u:=.int) (n:=l7_m3.length) (len:=y13.length) (row:=y13) (ys:=y13) (xss:=l7_m3) (j:=l7_m4) 9000 (oi 0 1) (oi 1 1) (oi 320 12) (by kernel_rfl) (by kernel_rfl) rfl (by kernel_rfl) (by kernel_rfl) (Z8 rfl) (Z4 rfl) (by kernel_rfl) (by kernel_rfl) (by kernel_rfl),?_⟩;obtain ⟨g15,h⟩:=Ax h;refine Aa 19 ?_;refine rz0 (ai ((l7_m4:Nat):Int)) ?_;refine rs0 (ai ((l7_m4+1:Nat):Int)) (za g15) ?_;refine rsB 1 ?_;refine Ay (tn_ ?_);obtain rfl:=zj h;exact ⟨(l7_m4+1,l7_m3.set l7_m4 y13),_,(B4 3 (.own (oi 0 1) (.slice .int) 0 l7_m3.length) (.own (oi 0 1) (.slice .int) 0 ((l7_m3.set l7_m4 y13).length)) (by kernel_rfl) (congrArg (fun z_=>((.own (oi 0 1) (.slice .int) 0 z_):AV)) ((Eq.trans (b:=l7_m3.length) rfl List.length_set.symm):l7_m3.length=(l7_m3.set l7_m4 y13).length))).trans (Ac [(oi 1 1,oi 9000 15)]),⟨l7_m4+1,l7_m3.set l7_m4 y13,rfl,rfl⟩,hn7⟩
  have q10_:=of_decide_eq_false q10;refine Ah q10 ?_;refine A3 (te_ (te_ (be_ (tn_ ?_))));obtain rfl:=zj h;have h:=hn7
  (try dsimp only at h);obtain rfl:=zj h;exact ⟨_,Ac [],rfl⟩
 rintro l5_m3 _ rfl h
 (try dsimp only at h);refine Al ?_;refine Ai ?_;obtain rfl:=zj h;exact Gg [.own (oi 0 1) (.slice .int) 0 l5_m3.length] (Ac (tl:=[(2,.own (oi 0 1) (.slice .int) 0 l5_m3.length)]) (g:=2) [])
def Ht:AC :=
 (.seq (.seq (rg [xo 11 (qm (tm 5)),xo 12 (qm (tm 0)),xo 13 (.i (.len (tm 12))),xo 14 (qb .lss (tm 11) (tm 13))])
 (.cond (tm 14)
  .skip
  (.exit 0)))
 (.seq (.block 1 (.seq (.region [xo 17 (qm (tm 0)),xo 18 (qm (tm 5)),xo 19 (qx 1 (tm 17) (tm 18)),xo 20 (ql (tm 19)),xo 21 (qm (tm 1)),xo 22 (qm (tm 5)),xo 23 (qx 1 (tm 21) (tm 22)),xo 24 (ql (tm 23)),xo 25 (qc 46 [tm 20,tm 24] [[some .int],[some .int]]),xo 26 (.i (.not (tm 25)))] true [])
 (.cond (tm 26)
  (.seq (rg [xo 4 (qm (cb false))])
  .ret)
  .skip)))
 (rg [xo 15 (qm (tm 5)),xo 16 (qb .add (tm 15) (ci 1)),xo 5 (qm (tm 16))])))
def J4:AC :=
 (.seq (rg [xo 4 (qm (cb false))])
 (.seq (.seq (rg [xo 6 (qm (tm 0)),xo 7 (.i (.len (tm 6))),xo 8 (qm (tm 1)),xo 9 (.i (.len (tm 8))),xo 10 (qb .neq (tm 7) (tm 9))])
 (.cond (tm 10)
  (.seq (rg [xo 4 (qm (cb false))])
  .ret)
  .skip))
 (.seq (.seq (rg [xo 5 (qm (ci 0))])
 (.block 0 (.loop Ht)))
 (.seq (rg [xo 4 (qm (cb true))])
 .ret))))
def Q0:List Res:=[.tmp 4]
theorem Re:Ap Tryd.prog Tryd.f21=some (J4,Q0):=by kernel_rfl
def C0 (a0:List (List Int)) (a1:List (List Int)) (l8_m5:Nat):Option (Ctl Nat (Ctl Unit Bool)) :=
 cond (decide (((l8_m5:Nat):Int)<((a0.length:Nat):Int)))
 (Option.bind (a0[l8_m5]?) fun x14 =>
 Option.bind (a1[l8_m5]?) fun x15 =>
 Option.bind (E0 x14 x15) fun y16 =>
 cond (!y16)
  (some (Ctl.out (Ctl.out false)))
  (og (l8_m5+1<4611686018427387904) <|
  some (Ctl.next (l8_m5+1))))
 (some (Ctl.out (Ctl.next ())))
def D9 (a0:List (List Int)) (a1:List (List Int)):Option Bool :=
 cond (((a0.length:Nat):Int) !=((a1.length:Nat):Int))
 (some false)
 (Lg (A6 (fun s_:Nat=>C0 a0 a1 s_) 4611686018427387904 0) fun _ =>
 some true)
def O4 (r:Bool):RV:=⟨false,[(false,[.sc (.bool r)])]⟩
theorem Pv {a0:List (List Int)} {a1:List (List Int)} {r:Bool} (h:D9 a0 a1=some r):A9 Tryd.prog Tab 21 [.tree (.slice .int) a0,.tree (.slice .int) a1] (O4 r):=by
 refine A0 (by kernel_rfl) Tryd.func21 Re (n:=27) (by kernel_rfl) (by simp) (tl:=[(0,.tree (.slice .int) a0),(1,.tree (.slice .int) a1)]) rfl ?_;unfold J4;unfold D9 at h;refine Al ?_;refine Ab ?_;refine Al ?_;rcases Ae h with ⟨q4,h⟩ | ⟨q4,h⟩
 ·refine Ag q4 ?_;refine Al ?_;refine Ai (tr_ ?_);obtain rfl:=zj h;exact Bh [.bool false] (A1 rfl zl A2)
 refine Ah q4 ?_;refine Aj (tn_ ?_);refine wr_ ?_;refine Du h (fun (_:Unit) S_=>S_=⟨Am [],Ad (Ar []),2⟩) ?_ ?_
 ·intro v_ h hk6;refine Al ?_;refine Ak ?_;refine A5 h (fun (l8_m5:Nat) S_=>S_=⟨Am [(0,.tree (.slice .int) a0),(1,.tree (.slice .int) a1),(5,ai ((l8_m5:Nat):Int))],Ad (Ar []),2⟩) ⟨_,Ac [],rfl⟩ ?_;rintro n_ l8_m5 _ c_ rfl h hn8
  (try dsimp only at h);unfold C0 at h;unfold Ht;refine Ab ?_;refine Al ?_;rcases Ae h with ⟨q11,h⟩ | ⟨q11,h⟩
  ·have q11_:=of_decide_eq_true q11;refine Ag q11 ?_;refine Aj (tn_ ?_);refine wr_ ?_;refine Ab ?_;refine Ak ?_;refine Ab ?_;obtain ⟨x14,e14,h⟩:=Af h;obtain ⟨x15,e15,h⟩:=Af h;obtain ⟨y16,h16,h⟩:=Af h;refine Bc 16 ?_;refine dz0 (.tree (.slice .int) a0) ?_;refine dz0 (ai ((l8_m5:Nat):Int)) ?_;refine ds0 (.telt none (.slice .int) x14 0) (zi (t:=.slice .int) (xs:=a0) (k:=.i64) (m:=((l8_m5:Nat):Int)) (Bi _) e14) ?_;refine dz0 (.tree .int x14) ?_;refine dz0 (.tree (.slice .int) a1) ?_;refine dz0 (ai ((l8_m5:Nat):Int)) ?_;refine ds0 (.telt none (.slice .int) x15 0) (zi (t:=.slice .int) (xs:=a1) (k:=.i64) (m:=((l8_m5:Nat):Int)) (Bi _) e15) ?_;refine dz0 (.tree .int x15) ?_;refine Ev (.bool y16) [] [.tree .int x14,.tree .int x15] _ (caps:=[]) (args0:=[.tree .int x14,.tree .int x15]) trivial (by kernel_rfl) (R9 h16) Qx ?_;refine dz0 (.bool (!y16)) ?_;refine Lo (B8 (by kernel_rfl)) (tn_ ?_);refine wr_ ?_;rcases Ae h with ⟨q17,h⟩ | ⟨q17,h⟩
   ·refine Ag q17 ?_;refine Al ?_;refine Ai (br_ (tr_ (tr_ (br_ (tr_ ?_)))));obtain rfl:=zj h;have h:=hn8
    (try dsimp only at h);obtain rfl:=zj h;have h:=hk6
    (try dsimp only at h);obtain rfl:=zj h;exact Bh [.bool false] (A1 rfl zl A2)
   refine Ah q17 ?_;refine Aj (bn_ (tn_ ?_));refine wr_ ?_;obtain ⟨g19,h⟩:=Ax h;refine Aa 19 ?_;refine rz0 (ai ((l8_m5:Nat):Int)) ?_;refine rs0 (ai ((l8_m5+1:Nat):Int)) (za g19) ?_;refine rsB 1 ?_;refine Ay (tn_ ?_);obtain rfl:=zj h;exact ⟨l8_m5+1,_,Ac [],rfl,hn8⟩
  have q11_:=of_decide_eq_false q11;refine Ah q11 ?_;refine A3 (te_ (te_ (be_ (tn_ ?_))));obtain rfl:=zj h;have h:=hn8
  (try dsimp only at h);obtain rfl:=zj h;exact ⟨(),_,rfl,Ac [],rfl⟩
 rintro _ _ rfl h
 (try dsimp only at h);refine Al ?_;refine Ai ?_;obtain rfl:=zj h;exact Bh [.bool true] (A1 rfl zl A2)
def Gc:AC :=
 (.seq (.seq (rg [xo 6 (qm (tm 5)),xo 7 (qm (tm 0)),xo 8 (.i (.len (tm 7))),xo 9 (qb .lss (tm 6) (tm 8))])
 (.cond (tm 9)
  .skip
  (.exit 0)))
 (.seq (.block 1 (rg [xo 12 (qm (tm 0)),xo 13 (qm (tm 5)),xo 14 (qx 1 (tm 12) (tm 13)),xo 15 (ql (tm 14)),xo 16 (qm (tm 1)),xo 17 (qc 47 [tm 15,tm 16] [[some .int],[]]),xo 1 (qm (tm 17))]))
 (rg [xo 10 (qm (tm 5)),xo 11 (qb .add (tm 10) (ci 1)),xo 5 (qm (tm 11))])))
def It:AC :=
 (.seq (rg [xo 4 (qm (ci 0))])
 (.seq (.seq (rg [xo 5 (qm (ci 0))])
 (.block 0 (.loop Gc)))
 (.seq (rg [xo 18 (qm (tm 1)),xo 4 (qm (tm 18))])
 .ret)))
def Om:List Res:=[.tmp 4]
theorem Nn:Ap Tryd.prog Tryd.f22=some (It,Om):=by kernel_rfl
theorem M2:Az Tryd.prog 22=true:=by kernel_rfl
def Cb  (l5_m1:Int) (l5_m5:Nat) (l5_m0:List (List Int)):Option (Ctl (Int×Nat×List (List Int)) (Int×List (List Int))) :=
 cond (decide (((l5_m5:Nat):Int)<((l5_m0.length:Nat):Int)))
 (Option.bind (l5_m0[l5_m5]?) fun x10 =>
 Option.bind (Dv x10 l5_m1) fun y11 =>
 og (y11.1.length=x10.length) <|
 og (l5_m5+1<4611686018427387904) <|
 some (Ctl.next (y11.2,l5_m5+1,l5_m0.set l5_m5 y11.1)))
 (some (Ctl.out (l5_m1,l5_m0)))
def C9 (a0:List (List Int)) (a1:Int):Option (List (List Int)×Int) :=
 Option.bind (A6 (fun s_:Int×Nat×List (List Int)=>Cb s_.1 s_.2.1 s_.2.2) 4611686018427387904 (a1,0,a0)) fun (l3_m1,l3_p0) =>
some (l3_p0,l3_m1)
theorem M0 {a0:List (List Int)} {a1:Int} {r:List (List Int)×Int} (h:C9 a0 a1=some r) {n_a0:Nat} (hn_a0:n_a0=a0.length):Ea Tryd.prog Tab 22 [.own (oi 0 0) (.slice .int) 0 n_a0,ai a1] [(oi 0 0,.mat 39 (oi 1 0) .int a0),(oi 1 0,.pool 3 .int a0)] (ai r.2) [(oi 0 0,.mat 39 (oi 0 1) .int r.1),(oi 0 1,.pool 3 .int r.1)]:=by
 refine B6 (by kernel_rfl) Tryd.func22 Nn (n:=19) (by kernel_rfl) (by simp) (tl:=[(0,.own (oi 0 0) (.slice .int) 0 n_a0),(1,ai a1)]) rfl (by kernel_rfl) ⟨⟨3,.tail _ (.head _)⟩,⟨trivial,trivial⟩⟩ ⟨⟨3,.tail _ (.head _)⟩,⟨trivial,trivial⟩⟩ ?_;unfold It;unfold C9 at h;refine Al ?_;refine Ba h (fun t_ S_=>∃ (l3_m1:Int),∃ (l3_p0:List (List Int)),t_=(l3_m1,l3_p0)∧S_=⟨Am [(1,ai l3_m1)],Ad (Ar [(oi 0 0,.mat 39 (oi 0 1) .int l3_p0),(oi 0 1,.pool 3 .int l3_p0)]),2⟩) ?_ ?_
 ·intro v_ h;refine Al ?_;refine Ak ?_;refine A5 h (fun t_ S_=>∃ (l5_m1:Int),∃ (l5_m5:Nat),∃ (l5_m0:List (List Int)),t_=(l5_m1,l5_m5,l5_m0)∧S_=⟨Am [(0,.own (oi 0 0) (.slice .int) 0 l5_m0.length),(1,ai l5_m1),(5,ai ((l5_m5:Nat):Int))],Ad (Ar [(oi 0 0,.mat 39 (oi 0 1) .int l5_m0),(oi 0 1,.pool 3 .int l5_m0)]),2⟩) ⟨_,(B4 0 (.own (oi 0 0) (.slice .int) 0 n_a0) (.own (oi 0 0) (.slice .int) 0 a0.length) (by kernel_rfl) (congrArg (fun z_=>((.own (oi 0 0) (.slice .int) 0 z_):AV)) (hn_a0:n_a0=a0.length))).trans (Ac [(oi 0 1,oi 1 0)]),⟨a1,0,a0,rfl,rfl⟩⟩ ?_;rintro n_ _ _ c_ ⟨l5_m1,l5_m5,l5_m0,rfl,rfl⟩ h hn5
  (try dsimp only at h);unfold Cb at h;unfold Gc;refine Ab ?_;refine Al ?_;rcases Ae h with ⟨q8,h⟩ | ⟨q8,h⟩
  ·have q8_:=of_decide_eq_true q8;refine Ag q8 ?_;refine Aj (tn_ ?_);refine wr_ ?_;refine Ab ?_;refine Ak ?_;obtain ⟨x10,e10,h⟩:=Af h;obtain ⟨y11,h11,h⟩:=Af h;obtain ⟨g12,h⟩:=Ax h;refine Aa 13 ?_;refine rz0 (.own (oi 0 0) (.slice .int) 0 l5_m0.length) ?_;refine rz0 (ai ((l5_m5:Nat):Int)) ?_;refine rs0 (.elt (oi 0 0) l5_m5 0) (zo (t:=.slice .int) (o:=oi 0 0) (len:=l5_m0.length) (k:=.i64) (m:=((l5_m5:Nat):Int)) (Bi _) (Be e10)) ?_;refine rsl (.own (kid (oi 0 1) l5_m5) .int 0 x10.length) (Tt (o:=oi 0 0) (p:=oi 0 1) (e1:=39) (u:=.int) (xss:=l5_m0) (row:=x10) (j:=l5_m5) (by kernel_rfl) (by kernel_rfl) e10) ?_;refine rz0 (ai l5_m1) ?_;refine D7 (ai y11.2) [(kid (oi 0 1) l5_m5,some (.arr 3 .int y11.1)),(kid (oi 0 1) l5_m5,none)] [(oi 0 0,kid (oi 0 1) l5_m5)] [.own (kid (oi 0 1) l5_m5) .int 0 x10.length,ai l5_m1] (caps:=[]) trivial (Nv h11 rfl) Nq ⟨Tn (by kernel_rfl) e10,trivial⟩ (.cons (.ren (by kernel_rfl)) (.cons (.ren (by kernel_rfl)) .nil)) (A8 (by kernel_rfl) (by kernel_rfl) ⟨.arg (by simp [AV.nmsL,AV.nms,A4]),trivial⟩) ?_;refine Af5 (Abt (o:=oi 0 0) (p:=oi 0 1) (e1:=39) (e:=3) (u:=.int) (xss:=l5_m0) (k:=l5_m5) (row:=x10) (row':=y11.1) (by kernel_rfl) rfl (by kernel_rfl) e10 g12) ?_;refine rsB 1 ?_;refine Ay (bn_ (tn_ ?_));refine wr_ ?_;obtain ⟨g13,h⟩:=Ax h;refine Aa 16 ?_;refine rz0 (ai ((l5_m5:Nat):Int)) ?_;refine rs0 (ai ((l5_m5+1:Nat):Int)) (za g13) ?_;refine rsB 1 ?_;refine Ay (tn_ ?_);obtain rfl:=zj h;exact ⟨(y11.2,l5_m5+1,l5_m0.set l5_m5 y11.1),_,(B4 0 (.own (oi 0 0) (.slice .int) 0 l5_m0.length) (.own (oi 0 0) (.slice .int) 0 ((l5_m0.set l5_m5 y11.1).length)) (by kernel_rfl) (congrArg (fun z_=>((.own (oi 0 0) (.slice .int) 0 z_):AV)) ((Eq.trans (b:=l5_m0.length) rfl List.length_set.symm):l5_m0.length=(l5_m0.set l5_m5 y11.1).length))).trans (Ac []),⟨y11.2,l5_m5+1,l5_m0.set l5_m5 y11.1,rfl,rfl⟩,hn5⟩
  have q8_:=of_decide_eq_false q8;refine Ah q8 ?_;refine A3 (te_ (te_ (be_ (tn_ ?_))));obtain rfl:=zj h;have h:=hn5
  (try dsimp only at h);obtain rfl:=zj h;exact ⟨_,Ac [],⟨l5_m1,l5_m0,rfl,rfl⟩⟩
 rintro _ _ ⟨l3_m1,l3_p0,rfl,rfl⟩ h
 (try dsimp only at h);refine Al ?_;refine Ai ?_;obtain rfl:=zj h;exact Gg [ai l3_m1] (Ac (tl:=[(4,ai l3_m1)]) (g:=2) [])
def Gb:AC :=
 (.seq (.seq (rg [xo 6 (qm (tm 5)),xo 7 (qm (tm 0)),xo 8 (.i (.len (tm 7))),xo 9 (qb .lss (tm 6) (tm 8))])
 (.cond (tm 9)
  .skip
  (.exit 0)))
 (.seq (.block 1 (.seq (rg [xo 12 (qm (tm 0)),xo 13 (qm (tm 5)),xo 14 (qx 1 (tm 12) (tm 13)),xo 15 (ql (tm 14)),xo 16 (qm (tm 1)),xo 17 (qc 48 [tm 15,tm 16] [[some .int],[]]),xo 1 (qm (tm 17))])
 (.seq (rg [xo 18 (qm (tm 1)),xo 19 (qb .lss (tm 18) (ci 0))])
 (.cond (tm 19)
  (.seq (rg [xo 4 (qm (ci (-1)))])
  .ret)
  .skip))))
 (rg [xo 10 (qm (tm 5)),xo 11 (qb .add (tm 10) (ci 1)),xo 5 (qm (tm 11))])))
def Ie:AC :=
 (.seq (rg [xo 4 (qm (ci 0))])
 (.seq (.seq (rg [xo 5 (qm (ci 0))])
 (.block 0 (.loop Gb)))
 (.seq (rg [xo 20 (qm (tm 1)),xo 4 (qm (tm 20))])
 .ret)))
def Nr:List Res:=[.tmp 4]
theorem N7:Ap Tryd.prog Tryd.f23=some (Ie,Nr):=by kernel_rfl
def Cc (a0:List (List Int)) (l4_m1:Int) (l4_m5:Nat):Option (Ctl (Int×Nat) (Ctl Int Int)) :=
 cond (decide (((l4_m5:Nat):Int)<((a0.length:Nat):Int)))
 (Option.bind (a0[l4_m5]?) fun x10 =>
 Option.bind (Dw x10 l4_m1) fun y11 =>
 cond (decide (y11<0))
  (some (Ctl.out (Ctl.out (-1))))
  (og (l4_m5+1<4611686018427387904) <|
  some (Ctl.next (y11,l4_m5+1))))
 (some (Ctl.out (Ctl.next l4_m1)))
def Db (a0:List (List Int)) (a1:Int):Option Int :=
 Lg (A6 (fun s_:Int×Nat=>Cc a0 s_.1 s_.2) 4611686018427387904 (a1,0)) fun l2_m1 =>
some l2_m1
def Mu (r:Int):RV:=⟨false,[(false,[.sc (.int .i64 r)])]⟩
theorem Md {a0:List (List Int)} {a1:Int} {r:Int} (h:Db a0 a1=some r):A9 Tryd.prog Tab 23 [.tree (.slice .int) a0,ai a1] (Mu r):=by
 refine A0 (by kernel_rfl) Tryd.func23 N7 (n:=21) (by kernel_rfl) (by simp) (tl:=[(0,.tree (.slice .int) a0),(1,ai a1)]) rfl ?_;unfold Ie;unfold Db at h;refine Al ?_;refine Du h (fun (l2_m1:Int) S_=>S_=⟨Am [(1,ai l2_m1)],Ad (Ar []),2⟩) ?_ ?_
 ·intro v_ h hk2;refine Al ?_;refine Ak ?_;refine A5 h (fun t_ S_=>∃ (l4_m1:Int),∃ (l4_m5:Nat),t_=(l4_m1,l4_m5)∧S_=⟨Am [(0,.tree (.slice .int) a0),(1,ai l4_m1),(5,ai ((l4_m5:Nat):Int))],Ad (Ar []),2⟩) ⟨_,Ac [],⟨a1,0,rfl,rfl⟩⟩ ?_;rintro n_ _ _ c_ ⟨l4_m1,l4_m5,rfl,rfl⟩ h hn4
  (try dsimp only at h);unfold Cc at h;unfold Gb;refine Ab ?_;refine Al ?_;rcases Ae h with ⟨q7,h⟩ | ⟨q7,h⟩
  ·have q7_:=of_decide_eq_true q7;refine Ag q7 ?_;refine Aj (tn_ ?_);refine wr_ ?_;refine Ab ?_;refine Ak ?_;refine Ab ?_;obtain ⟨x10,e10,h⟩:=Af h;obtain ⟨y11,h11,h⟩:=Af h;refine Aa 13 ?_;refine rz0 (.tree (.slice .int) a0) ?_;refine rz0 (ai ((l4_m5:Nat):Int)) ?_;refine rs0 (.telt none (.slice .int) x10 0) (zi (t:=.slice .int) (xs:=a0) (k:=.i64) (m:=((l4_m5:Nat):Int)) (Bi _) e10) ?_;refine rz0 (.tree .int x10) ?_;refine rz0 (ai l4_m1) ?_;refine zc (ai y11) [] [.tree .int x10,ai l4_m1] (Nh h11) ?_;refine rsB 1 ?_;refine Ay (tn_ ?_);refine wr_ ?_;refine Al ?_;rcases Ae h with ⟨q13,h⟩ | ⟨q13,h⟩
   ·have q13_:=of_decide_eq_true q13;refine Ag q13 ?_;refine Al ?_;refine Ai (br_ (tr_ (tr_ (br_ (tr_ ?_)))));obtain rfl:=zj h;have h:=hn4
    (try dsimp only at h);obtain rfl:=zj h;have h:=hk2
    (try dsimp only at h);obtain rfl:=zj h;exact Bh [ai (-1)] (A1 rfl zl A2)
   have q13_:=of_decide_eq_false q13;refine Ah q13 ?_;refine Aj (bn_ (tn_ ?_));refine wr_ ?_;obtain ⟨g15,h⟩:=Ax h;refine Aa 18 ?_;refine rz0 (ai ((l4_m5:Nat):Int)) ?_;refine rs0 (ai ((l4_m5+1:Nat):Int)) (za g15) ?_;refine rsB 1 ?_;refine Ay (tn_ ?_);obtain rfl:=zj h;exact ⟨(y11,l4_m5+1),_,Ac [],⟨y11,l4_m5+1,rfl,rfl⟩,hn4⟩
  have q7_:=of_decide_eq_false q7;refine Ah q7 ?_;refine A3 (te_ (te_ (be_ (tn_ ?_))));obtain rfl:=zj h;have h:=hn4
  (try dsimp only at h);obtain rfl:=zj h;exact ⟨l4_m1,_,rfl,Ac [],rfl⟩
 rintro l2_m1 _ rfl h
 (try dsimp only at h);refine Al ?_;refine Ai ?_;obtain rfl:=zj h;exact Bh [ai l2_m1] (A1 rfl zl A2)
def Jk:AC :=
 (.seq (rg [xo 2 (.i (.box 24 (tm 0))),xo 4 (qm (ci 0))])
 (.seq (rg [xo 5 (qf 2 (tm 2)),xo 6 (ql (tm 5)),xo 7 (qm (tm 1)),xo 8 (qc 14 [tm 6,tm 7] [[some (.slice .int)],[]]),xo 1 (qm (tm 8))])
 (.seq (.seq (rg [xo 9 (qm (tm 1)),xo 10 (qb .lss (tm 9) (ci 0))])
 (.cond (tm 10)
  (.seq (rg [xo 4 (qm (ci (-1)))])
  .ret)
  .skip))
 (.seq (rg [xo 11 (qm (tm 1)),xo 4 (qm (tm 11))])
 .ret))))
def Pc:List Res:=[.tmp 4]
theorem Pr:Ap Tryd.prog Tryd.f5=some (Jk,Pc):=by kernel_rfl
def Dp (a0_0:Int) (a0_1:Int) (a0_2:List (List Int)) (a1:Int):Option Int :=
 Option.bind (Ee a0_2 a1) fun y3 =>
cond (decide (y3<0))
 (some (-1))
 (some y3)
def Ny (r:Int):RV:=⟨false,[(false,[.sc (.int .i64 r)])]⟩
theorem Ne {a0_0:Int} {a0_1:Int} {a0_2:List (List Int)} {a1:Int} {r:Int} (h:Dp a0_0 a0_1 a0_2 a1=some r):A9 Tryd.prog Tab 5 [.agg [ai a0_0,ai a0_1,.tree (.slice .int) a0_2],ai a1] (Ny r):=by
 refine A0 (by kernel_rfl) Tryd.func5 Pr (n:=12) (by kernel_rfl) (by simp) (tl:=[(0,.agg [ai a0_0,ai a0_1,.tree (.slice .int) a0_2]),(1,ai a1)]) rfl ?_;unfold Jk;unfold Dp at h;refine Al ?_;refine Ab ?_;obtain ⟨y3,h3,h⟩:=Af h;refine Aa 8 ?_;refine rz0 (.box (oi 2 1) 2) ?_;refine rzl (.tree (.slice .int) a0_2) ?_;refine rz0 (ai a1) ?_;refine zc (ai y3) [] [.tree (.slice .int) a0_2,ai a1] (Pe h3) ?_;refine rsB 1 ?_;refine Ay (tn_ ?_);refine wr_ ?_;refine Ab ?_;refine Al ?_;rcases Ae h with ⟨q6,h⟩ | ⟨q6,h⟩
 ·have q6_:=of_decide_eq_true q6;refine Ag q6 ?_;refine Al ?_;refine Ai (tr_ ?_);obtain rfl:=zj h;exact Bh [ai (-1)] (A1 rfl zl A2)
 have q6_:=of_decide_eq_false q6;refine Ah q6 ?_;refine Aj (tn_ ?_);refine wr_ ?_;refine Al ?_;refine Ai ?_;obtain rfl:=zj h;exact Bh [ai y3] (A1 rfl zl A2)
def Jj:AC :=
 (.seq (rg [xo 1 (.i (.box 24 (tm 0))),xo 2 (.i (.alloc 26 [.int .i64 0,.int .i64 0,.nils]))])
 (.seq (rg [xo 3 (.i (.alloc 26 [.int .i64 0,.int .i64 0,.nils]))])
 (.seq (rg [xo 4 (qf 0 (tm 1)),xo 5 (ql (tm 4)),xo 6 (qf 0 (tm 3)),xn (qs (tm 6) (tm 5))])
 (.seq (rg [xo 7 (qf 1 (tm 1)),xo 8 (ql (tm 7)),xo 9 (qf 1 (tm 3)),xn (qs (tm 9) (tm 8))])
 (.seq (rg [xo 10 (qf 2 (tm 1)),xo 11 (ql (tm 10)),xo 12 (qc 17 [tm 11] [[some (.slice .int)]]),xo 13 (qf 2 (tm 3)),xn (qs (tm 13) (tm 12))])
 (.seq (rg [xo 14 (.i (.ld false 3 (tm 3))),xn (.st false 3 (tm 2) (tm 14))])
 .ret))))))
def Pk:List Res:=[.cell 2 false 3]
theorem Pt:Ap Tryd.prog Tryd.f7=some (Jj,Pk):=by kernel_rfl
theorem Er:Az Tryd.prog 7=true:=by kernel_rfl
def Br (a0_0:Int) (a0_1:Int) (a0_2:List (List Int)):Option (List (List Int)) :=
 Option.bind (Ed a0_2) fun y7 =>
some y7
theorem Ei {a0_0:Int} {a0_1:Int} {a0_2:List (List Int)} {r:List (List Int)} (h:Br a0_0 a0_1 a0_2=some r):Ea Tryd.prog Tab 7 [.agg [ai a0_0,ai a0_1,.tree (.slice .int) a0_2]] [] (.agg [ai a0_0,ai a0_1,.own (oi 1 1) (.slice .int) 0 r.length]) [(oi 0 1,.cells 26 [ai a0_0,ai a0_1,.own (oi 1 1) (.slice .int) 0 r.length]),(oi 1 1,.mat 39 (oi 2 1) .int r),(oi 2 1,.pool 3 .int r)]:=by
 refine B6 (by kernel_rfl) Tryd.func7 Pt (n:=15) (by kernel_rfl) (by simp) (tl:=[(0,.agg [ai a0_0,ai a0_1,.tree (.slice .int) a0_2])]) rfl (by kernel_rfl) trivial ⟨trivial,⟨⟨3,.tail _ (.tail _ (.head _))⟩,⟨trivial,trivial⟩⟩⟩ ?_;unfold Jj;unfold Br at h;refine Al ?_;refine Al ?_;refine Al ?_;refine Al ?_;refine Ab ?_;obtain ⟨y7,h7,h⟩:=Af h;refine Aa 17 ?_;refine rz0 (.box (oi 1 1) 2) ?_;refine rzl (.tree (.slice .int) a0_2) ?_;refine D7 (.own (oi 192 14) (.slice .int) 0 y7.length) [(oi 192 14,some (.mat 39 (oi 193 14) .int y7)),(oi 193 14,some (.pool 3 .int y7))] [] [.tree (.slice .int) a0_2] (caps:=[]) trivial (Pf h7) Pu trivial (.cons (.ren (by kernel_rfl)) .nil) (A8 (by kernel_rfl) (by kernel_rfl) trivial) ?_;refine rsB 2 ?_;refine Ay (tn_ ?_);refine wr_ ?_;refine Al ?_;refine Ai ?_;obtain rfl:=zj h;exact Gg [.agg [ai a0_0,ai a0_1,.own (oi 1 1) (.slice .int) 0 y7.length]] (Ac (tl:=[(2,.box (oi 0 1) 0)]) (g:=2) [(oi 0 1,oi 2 2),(oi 1 1,oi 192 14),(oi 2 1,oi 193 14)])
def Jh:AC :=
 (.seq (rg [xo 2 (.i (.box 26 (tm 0))),xo 3 (.i (.box 26 (tm 1))),xo 4 (qm (cb false))])
 (.seq (.seq (rg [xo 5 (qf 0 (tm 2)),xo 6 (ql (tm 5)),xo 7 (qf 0 (tm 3)),xo 8 (ql (tm 7)),xo 9 (qb .neq (tm 6) (tm 8))])
 (.cond (tm 9)
  (.seq (rg [xo 4 (qm (cb false))])
  .ret)
  .skip))
 (.seq (.seq (rg [xo 10 (qf 1 (tm 2)),xo 11 (ql (tm 10)),xo 12 (qf 1 (tm 3)),xo 13 (ql (tm 12)),xo 14 (qb .neq (tm 11) (tm 13))])
 (.cond (tm 14)
  (.seq (rg [xo 4 (qm (cb false))])
  .ret)
  .skip))
 (.seq (.seq (rg [xo 15 (qf 2 (tm 2)),xo 16 (ql (tm 15)),xo 17 (qf 2 (tm 3)),xo 18 (ql (tm 17)),xo 19 (qc 21 [tm 16,tm 18] [[some (.slice .int)],[some (.slice .int)]]),xo 20 (.i (.not (tm 19)))])
 (.cond (tm 20)
  (.seq (rg [xo 4 (qm (cb false))])
  .ret)
  .skip))
 (.seq (rg [xo 4 (qm (cb true))])
 .ret)))))
def Pb:List Res:=[.tmp 4]
theorem O3:Ap Tryd.prog Tryd.f9=some (Jh,Pb):=by kernel_rfl
theorem Bx:Az Tryd.prog 9=true:=by kernel_rfl
def Bs (a0_0:Int) (a0_1:Int) (a0_2:List (List Int)) (a1_0:Int) (a1_1:Int) (a1_2:List (List Int)):Option Bool :=
 cond (a0_0 !=a1_0)
 (some false)
 (cond (a0_1 !=a1_1)
  (some false)
  (Option.bind (D9 a0_2 a1_2) fun y12 =>
  cond (!y12)
   (some false)
   (some true)))
def Og (r:Bool):RV:=⟨false,[(false,[.sc (.bool r)])]⟩
theorem Bv {a0_0:Int} {a0_1:Int} {a0_2:List (List Int)} {a1_0:Int} {a1_1:Int} {a1_2:List (List Int)} {r:Bool} (h:Bs a0_0 a0_1 a0_2 a1_0 a1_1 a1_2=some r):A9 Tryd.prog Tab 9 [.agg [ai a0_0,ai a0_1,.tree (.slice .int) a0_2],.agg [ai a1_0,ai a1_1,.tree (.slice .int) a1_2]] (Og r):=by
 refine A0 (by kernel_rfl) Tryd.func9 O3 (n:=21) (by kernel_rfl) (by simp) (tl:=[(0,.agg [ai a0_0,ai a0_1,.tree (.slice .int) a0_2]),(1,.agg [ai a1_0,ai a1_1,.tree (.slice .int) a1_2])]) rfl ?_;unfold Jh;unfold Bs at h;refine Al ?_;refine Ab ?_;refine Al ?_;rcases Ae h with ⟨q4,h⟩ | ⟨q4,h⟩
 ·refine Ag q4 ?_;refine Al ?_;refine Ai (tr_ ?_);obtain rfl:=zj h;exact Bh [.bool false] (A1 rfl zl A2)
 refine Ah q4 ?_;refine Aj (tn_ ?_);refine wr_ ?_;refine Ab ?_;refine Al ?_;rcases Ae h with ⟨q8,h⟩ | ⟨q8,h⟩
 ·refine Ag q8 ?_;refine Al ?_;refine Ai (tr_ ?_);obtain rfl:=zj h;exact Bh [.bool false] (A1 rfl zl A2)
 refine Ah q8 ?_;refine Aj (tn_ ?_);refine wr_ ?_;refine Ab ?_;refine Ab ?_;obtain ⟨y12,h12,h⟩:=Af h;refine Aa 20 ?_;refine rz0 (.box (oi 2 1) 2) ?_;refine rzl (.tree (.slice .int) a0_2) ?_;refine rz0 (.box (oi 3 2) 2) ?_;refine rzl (.tree (.slice .int) a1_2) ?_;refine zc (.bool y12) [] [.tree (.slice .int) a0_2,.tree (.slice .int) a1_2] (Pv h12) ?_;refine rsB 1 ?_;refine Ay (tn_ ?_);refine wr_ ?_;rcases Ae h with ⟨q13,h⟩ | ⟨q13,h⟩
 ·refine Ag q13 ?_;refine Al ?_;refine Ai (tr_ ?_);obtain rfl:=zj h;exact Bh [.bool false] (A1 rfl zl A2)
 refine Ah q13 ?_;refine Aj (tn_ ?_);refine wr_ ?_;refine Al ?_;refine Ai ?_;obtain rfl:=zj h;exact Bh [.bool true] (A1 rfl zl A2)
def Ho:AC :=
 (.seq (rg [xo 2 (.i (.box 26 (tm 0))),xo 4 (qm (ci 0))])
 (.seq (rg [xo 5 (qf 2 (tm 2)),xo 6 (ql (tm 5)),xo 7 (qm (tm 1)),xo 8 (qc 22 [tm 6,tm 7] [[some (.slice .int)],[]]),xo 1 (qm (tm 8))])
 (.seq (rg [xo 9 (qm (tm 1)),xo 4 (qm (tm 9))])
 .ret)))
def M9:List Res:=[.tmp 4]
theorem Mj:Ap Tryd.prog Tryd.f10=some (Ho,M9):=by kernel_rfl
theorem Hd:Az Tryd.prog 10=true:=by kernel_rfl
def Ca (a0_0:Int) (a0_1:Int) (a0_2:List (List Int)) (a1:Int):Option (List (List Int)×Int) :=
 Option.bind (C9 a0_2 a1) fun y4 =>
og (y4.1.length=(a0_2.length)) <|
some (y4.1,y4.2)
theorem Hf {a0_0:Int} {a0_1:Int} {a0_2:List (List Int)} {a1:Int} {r:List (List Int)×Int} (h:Ca a0_0 a0_1 a0_2 a1=some r) {n_a0_2:Nat} (hn_a0_2:n_a0_2=a0_2.length):Ea Tryd.prog Tab 10 [.agg [ai a0_0,ai a0_1,.own (oi 0 0) (.slice .int) 0 n_a0_2],ai a1] [(oi 0 0,.mat 39 (oi 1 0) .int a0_2),(oi 1 0,.pool 3 .int a0_2)] (ai r.2) [(oi 0 0,.mat 39 (oi 0 1) .int r.1),(oi 0 1,.pool 3 .int r.1)]:=by
 refine B6 (by kernel_rfl) Tryd.func10 Mj (n:=10) (by kernel_rfl) (by simp) (tl:=[(0,.agg [ai a0_0,ai a0_1,.own (oi 0 0) (.slice .int) 0 n_a0_2]),(1,ai a1)]) rfl (by kernel_rfl) ⟨⟨3,.tail _ (.head _)⟩,⟨trivial,trivial⟩⟩ ⟨⟨3,.tail _ (.head _)⟩,⟨trivial,trivial⟩⟩ ?_;unfold Ho;unfold Ca at h
 (try rw [← hn_a0_2] at h)
 refine Al ?_;refine Ab ?_;obtain ⟨y4,h4,h⟩:=Af h;obtain ⟨g5,h⟩:=Ax h;refine Aa 8 ?_;refine rz0 (.box (oi 2 1) 2) ?_;refine rzl (.own (oi 0 0) (.slice .int) 0 n_a0_2) ?_;refine rz0 (ai a1) ?_;refine D7 (ai y4.2) [(oi 0 0,some (.mat 39 (oi 128 6) .int y4.1)),(oi 128 6,some (.pool 3 .int y4.1)),(oi 0 0,none),(oi 1 0,some (.pool 3 .int []))] [] [.own (oi 0 0) (.slice .int) 0 n_a0_2,ai a1] (caps:=[]) trivial (M0 h4 hn_a0_2) M2 ⟨by kernel_rfl,⟨by kernel_rfl,trivial⟩⟩ (.cons (.ren (by kernel_rfl)) (.cons (.ren (by kernel_rfl)) .nil)) (A8 (by kernel_rfl) (by kernel_rfl) ⟨I1 (by kernel_rfl),⟨P3 (o:=oi 0 0) (p:=oi 1 0) (e1:=39) (m:=a0_2.length) (u:=.int) (xss:=a0_2) (I1 (by kernel_rfl)) (by kernel_rfl),trivial⟩⟩) ?_;refine rsB 1 ?_;refine Ay (tn_ ?_);refine wr_ ?_;refine Al ?_;refine Ai ?_;obtain rfl:=zj h;exact Gg [ai y4.2] (Ac (tl:=[(4,ai y4.2)]) (g:=2) [(oi 0 1,oi 128 6)])
def Hy:AC :=
 (.seq (rg [xo 2 (.i (.box 26 (tm 0))),xo 4 (qm (ci 0))])
 (.seq (rg [xo 5 (qf 2 (tm 2)),xo 6 (ql (tm 5)),xo 7 (qm (tm 1)),xo 8 (qc 23 [tm 6,tm 7] [[some (.slice .int)],[]]),xo 1 (qm (tm 8))])
 (.seq (.seq (rg [xo 9 (qm (tm 1)),xo 10 (qb .lss (tm 9) (ci 0))])
 (.cond (tm 10)
  (.seq (rg [xo 4 (qm (ci (-1)))])
  .ret)
  .skip))
 (.seq (rg [xo 11 (qm (tm 1)),xo 4 (qm (tm 11))])
 .ret))))
def Me:List Res:=[.tmp 4]
theorem Nd:Ap Tryd.prog Tryd.f11=some (Hy,Me):=by kernel_rfl
theorem G8:Az Tryd.prog 11=true:=by kernel_rfl
def B9 (a0_0:Int) (a0_1:Int) (a0_2:List (List Int)) (a1:Int):Option Int :=
 Option.bind (Db a0_2 a1) fun y3 =>
cond (decide (y3<0))
 (some (-1))
 (some y3)
def Li (r:Int):RV:=⟨false,[(false,[.sc (.int .i64 r)])]⟩
theorem Hh {a0_0:Int} {a0_1:Int} {a0_2:List (List Int)} {a1:Int} {r:Int} (h:B9 a0_0 a0_1 a0_2 a1=some r):A9 Tryd.prog Tab 11 [.agg [ai a0_0,ai a0_1,.tree (.slice .int) a0_2],ai a1] (Li r):=by
 refine A0 (by kernel_rfl) Tryd.func11 Nd (n:=12) (by kernel_rfl) (by simp) (tl:=[(0,.agg [ai a0_0,ai a0_1,.tree (.slice .int) a0_2]),(1,ai a1)]) rfl ?_;unfold Hy;unfold B9 at h;refine Al ?_;refine Ab ?_;obtain ⟨y3,h3,h⟩:=Af h;refine Aa 8 ?_;refine rz0 (.box (oi 2 1) 2) ?_;refine rzl (.tree (.slice .int) a0_2) ?_;refine rz0 (ai a1) ?_;refine zc (ai y3) [] [.tree (.slice .int) a0_2,ai a1] (Md h3) ?_;refine rsB 1 ?_;refine Ay (tn_ ?_);refine wr_ ?_;refine Ab ?_;refine Al ?_;rcases Ae h with ⟨q6,h⟩ | ⟨q6,h⟩
 ·have q6_:=of_decide_eq_true q6;refine Ag q6 ?_;refine Al ?_;refine Ai (tr_ ?_);obtain rfl:=zj h;exact Bh [ai (-1)] (A1 rfl zl A2)
 have q6_:=of_decide_eq_false q6;refine Ah q6 ?_;refine Aj (tn_ ?_);refine wr_ ?_;refine Al ?_;refine Ai ?_;obtain rfl:=zj h;exact Bh [ai y3] (A1 rfl zl A2)
def H5:AC :=
 (.seq (rg [xo 12 (qb .lss (tm 11) (tm 10))])
 (.seq (.cond (tm 12)
  .skip
  (.exit 0))
 (.seq (.block 1 (.seq (rg [xo 13 (qx 1 (tm 9) (tm 11)),xo 14 (ql (tm 13)),xo 8 (qm (tm 14))])
 (.seq (rg [xo 15 (qm (tm 8)),xo 16 (.i (.len (tm 15))),xo 17 (qm (tm 1)),xo 18 (qb .neq (tm 16) (tm 17)),xo 19 (qm (tm 18)),⟨some 20,some (19,false),qm (tm 0)⟩,⟨some 21,some (19,false),qm (tm 8)⟩,⟨some 22,some (19,false),qc 59 [tm 20,tm 21] [[],[some .int]]⟩,⟨some 23,some (19,false),.i (.not (tm 22))⟩,xo 24 (.i (.pick (tm 19) (cb true) (tm 23)))])
 (.cond (tm 24)
  (.seq (rg [xo 6 (qm (cb false))])
  .ret)
  .skip))))
 (rg [xo 25 (qb .add (tm 11) (ci 1)),xo 11 (qm (tm 25))]))))
def K6:AC :=
 (.seq (rg [xo 6 (qm (cb false))])
 (.seq (.seq (rg [xo 9 (qm (tm 2)),xo 10 (.i (.len (tm 9))),xo 11 (qm (ci 0))])
 (.block 0 (.loop H5)))
 (.seq (rg [xo 6 (qm (cb true))])
 .ret)))
def Su:List Res:=[.tmp 6]
theorem Sw:Ap Tryd.prog Tryd.f36=some (K6,Su):=by kernel_rfl
theorem R8:Az Tryd.prog 36=true:=by kernel_rfl
def Eo (a2:List (List Int)) (a1:Int) (a0:Int) (l4_m11:Nat):Option (Ctl Nat (Ctl Unit Bool)) :=
 cond (decide (((l4_m11:Nat):Int)<((a2.length:Nat):Int)))
 (Option.bind (a2[l4_m11]?) fun x10 =>
 Option.bind (cond (((x10.length:Nat):Int) !=a1)
   (some true)
   (Option.bind (Fw a0 x10) fun y13 =>
   some (!y13))) fun l11_m24 =>
 cond l11_m24
  (some (Ctl.out (Ctl.out false)))
  (og (l4_m11+1<4611686018427387904) <|
  some (Ctl.next (l4_m11+1))))
 (some (Ctl.out (Ctl.next ())))
def Ey (a0:Int) (a1:Int) (a2:List (List Int)):Option Bool :=
 Lg (A6 (fun s_:Nat=>Eo a2 a1 a0 s_) 4611686018427387904 0) fun _ =>
some true
def Rg (r:Bool):RV:=⟨false,[(false,[.sc (.bool r)])]⟩
theorem Ry {a0:Int} {a1:Int} {a2:List (List Int)} {r:Bool} (h:Ey a0 a1 a2=some r):A9 Tryd.prog Tab 36 [ai a0,ai a1,.tree (.slice .int) a2] (Rg r):=by
 refine A0 (by kernel_rfl) Tryd.func36 Sw (n:=26) (by kernel_rfl) (by simp) (tl:=[(0,ai a0),(1,ai a1),(2,.tree (.slice .int) a2)]) rfl ?_;unfold K6;unfold Ey at h;refine Al ?_;refine Du h (fun (_:Unit) S_=>S_=⟨Am [],Ad (Ar []),2⟩) ?_ ?_
 ·intro v_ h hk2;refine Al ?_;refine Ak ?_;refine A5 h (fun (l4_m11:Nat) S_=>S_=⟨Am [(0,ai a0),(1,ai a1),(9,.tree (.slice .int) a2),(10,ai ((a2.length:Nat):Int)),(11,ai ((l4_m11:Nat):Int))],Ad (Ar []),2⟩) ⟨_,Ac [],rfl⟩ ?_;rintro n_ l4_m11 _ c_ rfl h hn4
  (try dsimp only at h);unfold Eo at h;unfold H5;refine Al ?_;refine Ab ?_;rcases Ae h with ⟨q7,h⟩ | ⟨q7,h⟩
  ·have q7_:=of_decide_eq_true q7;refine Ag q7 ?_;refine Aj (tn_ ?_);refine wr_ ?_;refine Ab ?_;refine Ak ?_;refine Ab ?_;obtain ⟨x10,e10,h⟩:=Af h;refine Aa 6 ?_;refine rs0 (.telt none (.slice .int) x10 0) (zi (t:=.slice .int) (xs:=a2) (k:=.i64) (m:=((l4_m11:Nat):Int)) (Bi _) e10) ?_;refine rsB 2 ?_;refine Ay (tn_ ?_);refine wr_ ?_;refine Ba h (fun (l11_m24:Bool) S_=>S_=⟨Am [(0,ai a0),(1,ai a1),(9,.tree (.slice .int) a2),(10,ai ((a2.length:Nat):Int)),(11,ai ((l4_m11:Nat):Int)),(24,.bool l11_m24)],Ad (Ar []),2⟩) ?_ ?_
   ·intro v_ h;rcases Ae h with ⟨q12,h⟩ | ⟨q12,h⟩
    ·refine Aa 16 ?_;refine rz0 (.tree .int x10) ?_;refine rz0 (ai ((x10.length:Nat):Int)) ?_;refine rz0 (ai a1) ?_;refine rz0 (.bool (((x10.length:Nat):Int) !=a1)) ?_;refine rz0 (.bool (((x10.length:Nat):Int) !=a1)) ?_;refine zs q12 ?_;refine zs q12 ?_;refine zs q12 ?_;refine zs q12 ?_;refine rs0 (.bool true) (zT q12) ?_;refine Ay (tn_ ?_);obtain rfl:=zj h;exact ⟨_,Ac [],rfl⟩
    obtain ⟨y13,h13,h⟩:=Af h;refine Aa 16 ?_;refine rz0 (.tree .int x10) ?_;refine rz0 (ai ((x10.length:Nat):Int)) ?_;refine rz0 (ai a1) ?_;refine rz0 (.bool (((x10.length:Nat):Int) !=a1)) ?_;refine rz0 (.bool (((x10.length:Nat):Int) !=a1)) ?_;refine rs0 (ai a0) (zg q12) ?_;refine rs0 (.tree .int x10) (zg q12) ?_;refine Fe (.bool y13) [] [ai a0,.tree .int x10] _ (caps:=[]) (args0:=[ai a0,.tree .int x10]) (Dc (by kernel_rfl) q12) (by kernel_rfl) (Va h13) U0 ?_;refine rs0 (.bool (!y13)) (zg q12) ?_;refine rs0 (.bool (!y13)) (zF q12) ?_;refine Ay (tn_ ?_);obtain rfl:=zj h;exact ⟨_,Ac [],rfl⟩
   rintro l11_m24 _ rfl h
   (try dsimp only at h);rcases Ae h with ⟨q14,h⟩ | ⟨q14,h⟩
   ·refine Ag q14 ?_;refine Al ?_;refine Ai (br_ (tr_ (tr_ (br_ (tr_ ?_)))));obtain rfl:=zj h;have h:=hn4
    (try dsimp only at h);obtain rfl:=zj h;have h:=hk2
    (try dsimp only at h);obtain rfl:=zj h;exact Bh [.bool false] (A1 rfl zl A2)
   refine Ah q14 ?_;refine Aj (bn_ (tn_ ?_));refine wr_ ?_;obtain ⟨g16,h⟩:=Ax h;refine Aa 4 ?_;refine rs0 (ai ((l4_m11+1:Nat):Int)) (za g16) ?_;refine rsB 1 ?_;refine Ay (tn_ ?_);obtain rfl:=zj h;exact ⟨l4_m11+1,_,Ac [],rfl,hn4⟩
  have q7_:=of_decide_eq_false q7;refine Ah q7 ?_;refine A3 (te_ (te_ (be_ (tn_ ?_))));obtain rfl:=zj h;have h:=hn4
  (try dsimp only at h);obtain rfl:=zj h;exact ⟨(),_,rfl,Ac [],rfl⟩
 rintro _ _ rfl h
 (try dsimp only at h);refine Al ?_;refine Ai ?_;obtain rfl:=zj h;exact Bh [.bool true] (A1 rfl zl A2)
def Kx:AC :=
 (.seq (rg [xo 3 (.i (.box 26 (tm 1))),xo 4 (qm (cb false))])
 (.seq (rg [xo 5 (qm (tm 0)),xo 6 (qc 34 [tm 5] [[]]),xo 7 (qm (tm 6)),⟨some 8,some (7,true),qf 0 (tm 3)⟩,⟨some 9,some (7,true),ql (tm 8)⟩,⟨some 10,some (7,true),qc 35 [tm 9,ci 0,ci 24] [[],[],[]]⟩,xo 11 (.i (.pick (tm 7) (tm 10) (cb false))),xo 12 (qm (tm 11)),⟨some 13,some (12,true),qf 1 (tm 3)⟩,⟨some 14,some (12,true),ql (tm 13)⟩,⟨some 15,some (12,true),qc 35 [tm 14,ci 0,ci 100] [[],[],[]]⟩,xo 16 (.i (.pick (tm 12) (tm 15) (cb false))),xo 17 (qm (tm 16)),⟨some 18,some (17,true),qf 2 (tm 3)⟩,⟨some 19,some (17,true),ql (tm 18)⟩,⟨some 20,some (17,true),.i (.len (tm 19))⟩,⟨some 21,some (17,true),qb .leq (tm 20) (ci 160)⟩,xo 22 (.i (.pick (tm 17) (tm 21) (cb false))),xo 23 (qm (tm 22)),⟨some 24,some (23,true),qm (tm 0)⟩,⟨some 25,some (23,true),qf 0 (tm 3)⟩,⟨some 26,some (23,true),ql (tm 25)⟩,⟨some 27,some (23,true),qf 1 (tm 3)⟩,⟨some 28,some (23,true),ql (tm 27)⟩,⟨some 29,some (23,true),qb .add (tm 26) (tm 28)⟩,⟨some 30,some (23,true),qf 2 (tm 3)⟩,⟨some 31,some (23,true),ql (tm 30)⟩,⟨some 32,some (23,true),qc 36 [tm 24,tm 29,tm 31] [[],[],[some (.slice .int)]]⟩,xo 33 (.i (.pick (tm 23) (tm 32) (cb false))),xo 4 (qm (tm 33))])
 .ret))
def Tj:List Res:=[.tmp 4]
theorem S9:Ap Tryd.prog Tryd.f15=some (Kx,Tj):=by kernel_rfl
def E5 (a0:Int) (a1_0:Int) (a1_1:Int) (a1_2:List (List Int)):Option Bool :=
 Option.bind (Option.bind (E7 a0) fun y3 =>
 cond y3
  (Option.bind (Di a1_0 0 24) fun y5 =>
  cond y5
   (Option.bind (Di a1_1 0 100) fun y7 =>
   cond y7
    (cond (decide (((a1_2.length:Nat):Int)<=160))
     (Option.bind (Ey a0 (wI (a1_0+a1_1)) a1_2) fun y10 =>
     some y10)
     (some false))
    (some false))
   (some false))
  (some false)) fun l2_m4 =>
some l2_m4
def R4 (r:Bool):RV:=⟨false,[(false,[.sc (.bool r)])]⟩
theorem Q7 {a0:Int} {a1_0:Int} {a1_1:Int} {a1_2:List (List Int)} {r:Bool} (h:E5 a0 a1_0 a1_1 a1_2=some r):A9 Tryd.prog Tab 15 [ai a0,.agg [ai a1_0,ai a1_1,.tree (.slice .int) a1_2]] (R4 r):=by
 refine A0 (by kernel_rfl) Tryd.func15 S9 (n:=34) (by kernel_rfl) (by simp) (tl:=[(0,ai a0),(1,.agg [ai a1_0,ai a1_1,.tree (.slice .int) a1_2])]) rfl ?_;unfold Kx;unfold E5 at h;refine Al ?_;refine Ba h (fun (l2_m4:Bool) S_=>S_=⟨Am [(4,.bool l2_m4)],Ad (Ar []),2⟩) ?_ ?_
 ·intro v_ h;obtain ⟨y3,h3,h⟩:=Af h;rcases Ae h with ⟨q4,h⟩ | ⟨q4,h⟩
  ·obtain ⟨y5,h5,h⟩:=Af h;rcases Ae h with ⟨q6,h⟩ | ⟨q6,h⟩
   ·obtain ⟨y7,h7,h⟩:=Af h;rcases Ae h with ⟨q8,h⟩ | ⟨q8,h⟩
    ·rcases Ae h with ⟨q9,h⟩ | ⟨q9,h⟩
     ·have q9_:=of_decide_eq_true q9;obtain ⟨y10,h10,h⟩:=Af h;refine Aa 33 ?_;refine rz0 (ai a0) ?_;refine zc (.bool y3) [] [ai a0] (D5 h3) ?_;refine rz0 (.bool y3) ?_;refine rs0 (.box (oi 3 1) 0) (zg q4) ?_;refine rsl (ai a1_0) (zg q4) ?_;refine Fe (.bool y5) [] [ai a1_0,ai 0,ai 24] _ (caps:=[]) (args0:=[ai a1_0,ai 0,ai 24]) (Dc (by kernel_rfl) q4) (by kernel_rfl) (Ch h5) Dl ?_;refine rs0 (.bool y5) (zT q4) ?_;refine rz0 (.bool y5) ?_;refine rs0 (.box (oi 3 1) 1) (zg q6) ?_;refine rsl (ai a1_1) (zg q6) ?_;refine Fe (.bool y7) [] [ai a1_1,ai 0,ai 100] _ (caps:=[]) (args0:=[ai a1_1,ai 0,ai 100]) (Dc (by kernel_rfl) q6) (by kernel_rfl) (Ch h7) Dl ?_;refine rs0 (.bool y7) (zT q6) ?_;refine rz0 (.bool y7) ?_;refine rs0 (.box (oi 3 1) 2) (zg q8) ?_;refine rsl (.tree (.slice .int) a1_2) (zg q8) ?_;refine rs0 (ai ((a1_2.length:Nat):Int)) (zg q8) ?_;refine rs0 (.bool (decide (((a1_2.length:Nat):Int)<=160))) (zg q8) ?_;refine rs0 (.bool (decide (((a1_2.length:Nat):Int)<=160))) (zT q8) ?_;refine rz0 (.bool (decide (((a1_2.length:Nat):Int)<=160))) ?_;refine rs0 (ai a0) (zg q9) ?_;refine rs0 (.box (oi 3 1) 0) (zg q9) ?_;refine rsl (ai a1_0) (zg q9) ?_;refine rs0 (.box (oi 3 1) 1) (zg q9) ?_;refine rsl (ai a1_1) (zg q9) ?_;refine rs0 (ai (wI (a1_0+a1_1))) (zg q9) ?_;refine rs0 (.box (oi 3 1) 2) (zg q9) ?_;refine rsl (.tree (.slice .int) a1_2) (zg q9) ?_;refine Fe (.bool y10) [] [ai a0,ai (wI (a1_0+a1_1)),.tree (.slice .int) a1_2] _ (caps:=[]) (args0:=[ai a0,ai (wI (a1_0+a1_1)),.tree (.slice .int) a1_2]) (Dc (by kernel_rfl) q9) (by kernel_rfl) (Ry h10) R8 ?_;refine rs0 (.bool y10) (zT q9) ?_;refine rsB 1 ?_;refine Ay (tn_ ?_);obtain rfl:=zj h;exact ⟨_,Ac [],rfl⟩
     have q9_:=of_decide_eq_false q9;refine Aa 33 ?_;refine rz0 (ai a0) ?_;refine zc (.bool y3) [] [ai a0] (D5 h3) ?_;refine rz0 (.bool y3) ?_;refine rs0 (.box (oi 3 1) 0) (zg q4) ?_;refine rsl (ai a1_0) (zg q4) ?_;refine Fe (.bool y5) [] [ai a1_0,ai 0,ai 24] _ (caps:=[]) (args0:=[ai a1_0,ai 0,ai 24]) (Dc (by kernel_rfl) q4) (by kernel_rfl) (Ch h5) Dl ?_;refine rs0 (.bool y5) (zT q4) ?_;refine rz0 (.bool y5) ?_;refine rs0 (.box (oi 3 1) 1) (zg q6) ?_;refine rsl (ai a1_1) (zg q6) ?_;refine Fe (.bool y7) [] [ai a1_1,ai 0,ai 100] _ (caps:=[]) (args0:=[ai a1_1,ai 0,ai 100]) (Dc (by kernel_rfl) q6) (by kernel_rfl) (Ch h7) Dl ?_;refine rs0 (.bool y7) (zT q6) ?_;refine rz0 (.bool y7) ?_;refine rs0 (.box (oi 3 1) 2) (zg q8) ?_;refine rsl (.tree (.slice .int) a1_2) (zg q8) ?_;refine rs0 (ai ((a1_2.length:Nat):Int)) (zg q8) ?_;refine rs0 (.bool (decide (((a1_2.length:Nat):Int)<=160))) (zg q8) ?_;refine rs0 (.bool (decide (((a1_2.length:Nat):Int)<=160))) (zT q8) ?_;refine rz0 (.bool (decide (((a1_2.length:Nat):Int)<=160))) ?_;refine zs q9 ?_;refine zs q9 ?_;refine zs q9 ?_;refine zs q9 ?_;refine zs q9 ?_;refine zs q9 ?_;refine zs q9 ?_;refine zs q9 ?_;refine zs q9 ?_;refine rs0 (.bool false) (zF q9) ?_;refine rsB 1 ?_;refine Ay (tn_ ?_);obtain rfl:=zj h;exact ⟨_,Ac [],rfl⟩
    refine Aa 33 ?_;refine rz0 (ai a0) ?_;refine zc (.bool y3) [] [ai a0] (D5 h3) ?_;refine rz0 (.bool y3) ?_;refine rs0 (.box (oi 3 1) 0) (zg q4) ?_;refine rsl (ai a1_0) (zg q4) ?_;refine Fe (.bool y5) [] [ai a1_0,ai 0,ai 24] _ (caps:=[]) (args0:=[ai a1_0,ai 0,ai 24]) (Dc (by kernel_rfl) q4) (by kernel_rfl) (Ch h5) Dl ?_;refine rs0 (.bool y5) (zT q4) ?_;refine rz0 (.bool y5) ?_;refine rs0 (.box (oi 3 1) 1) (zg q6) ?_;refine rsl (ai a1_1) (zg q6) ?_;refine Fe (.bool y7) [] [ai a1_1,ai 0,ai 100] _ (caps:=[]) (args0:=[ai a1_1,ai 0,ai 100]) (Dc (by kernel_rfl) q6) (by kernel_rfl) (Ch h7) Dl ?_;refine rs0 (.bool y7) (zT q6) ?_;refine rz0 (.bool y7) ?_;refine zs q8 ?_;refine zs q8 ?_;refine zs q8 ?_;refine zs q8 ?_;refine rs0 (.bool false) (zF q8) ?_;refine rsB 12 ?_;refine Ay (tn_ ?_);obtain rfl:=zj h;exact ⟨_,Ac [],rfl⟩
   refine Aa 33 ?_;refine rz0 (ai a0) ?_;refine zc (.bool y3) [] [ai a0] (D5 h3) ?_;refine rz0 (.bool y3) ?_;refine rs0 (.box (oi 3 1) 0) (zg q4) ?_;refine rsl (ai a1_0) (zg q4) ?_;refine Fe (.bool y5) [] [ai a1_0,ai 0,ai 24] _ (caps:=[]) (args0:=[ai a1_0,ai 0,ai 24]) (Dc (by kernel_rfl) q4) (by kernel_rfl) (Ch h5) Dl ?_;refine rs0 (.bool y5) (zT q4) ?_;refine rz0 (.bool y5) ?_;refine zs q6 ?_;refine zs q6 ?_;refine zs q6 ?_;refine rs0 (.bool false) (zF q6) ?_;refine rsB 18 ?_;refine Ay (tn_ ?_);obtain rfl:=zj h;exact ⟨_,Ac [],rfl⟩
  refine Aa 33 ?_;refine rz0 (ai a0) ?_;refine zc (.bool y3) [] [ai a0] (D5 h3) ?_;refine rz0 (.bool y3) ?_;refine zs q4 ?_;refine zs q4 ?_;refine zs q4 ?_;refine rs0 (.bool false) (zF q4) ?_;refine rsB 23 ?_;refine Ay (tn_ ?_);obtain rfl:=zj h;exact ⟨_,Ac [],rfl⟩
 rintro l2_m4 _ rfl h
 (try dsimp only at h);refine Ai ?_;obtain rfl:=zj h;exact Bh [.bool l2_m4] (A1 rfl zl A2)
def F0:AC :=
 (.seq (rg [xo 12 (qb .lss (tm 11) (tm 10))])
 (.seq (.cond (tm 12)
  .skip
  (.exit 0))
 (.seq (.block 1 (.seq (rg [xo 13 (qx 1 (tm 9) (tm 11)),xo 14 (ql (tm 13)),xo 8 (qm (tm 14))])
 (.seq (rg [xo 15 (qm (tm 0)),xo 16 (qm (tm 8)),xo 17 (qm (tm 2)),xo 18 (qc 61 [tm 15,tm 16,tm 17] [[],[some .int],[]]),xo 19 (.i (.not (tm 18)))])
 (.cond (tm 19)
  (.seq (rg [xo 6 (qm (cb false))])
  .ret)
  .skip))))
 (rg [xo 20 (qb .add (tm 11) (ci 1)),xo 11 (qm (tm 20))]))))
def Hv:AC :=
 (.seq (rg [xo 6 (qm (cb false))])
 (.seq (.seq (rg [xo 9 (qm (tm 1)),xo 10 (.i (.len (tm 9))),xo 11 (qm (ci 0))])
 (.block 0 (.loop F0)))
 (.seq (rg [xo 6 (qm (cb true))])
 .ret)))
def M7:List Res:=[.tmp 6]
theorem Mc:Ap Tryd.prog Tryd.f41=some (Hv,M7):=by kernel_rfl
theorem Ls:Az Tryd.prog 41=true:=by kernel_rfl
def Cx (a1:List (List Int)) (a0:Int) (a2:Int) (l4_m11:Nat):Option (Ctl Nat (Ctl Unit Bool)) :=
 cond (decide (((l4_m11:Nat):Int)<((a1.length:Nat):Int)))
 (Option.bind (a1[l4_m11]?) fun x10 =>
 Option.bind (Dt a0 x10 a2) fun y12 =>
 cond (!y12)
  (some (Ctl.out (Ctl.out false)))
  (og (l4_m11+1<4611686018427387904) <|
  some (Ctl.next (l4_m11+1))))
 (some (Ctl.out (Ctl.next ())))
def C5 (a0:Int) (a1:List (List Int)) (a2:Int):Option Bool :=
 Lg (A6 (fun s_:Nat=>Cx a1 a0 a2 s_) 4611686018427387904 0) fun _ =>
some true
def Ly (r:Bool):RV:=⟨false,[(false,[.sc (.bool r)])]⟩
theorem Lh {a0:Int} {a1:List (List Int)} {a2:Int} {r:Bool} (h:C5 a0 a1 a2=some r):A9 Tryd.prog Tab 41 [ai a0,.tree (.slice .int) a1,ai a2] (Ly r):=by
 refine A0 (by kernel_rfl) Tryd.func41 Mc (n:=21) (by kernel_rfl) (by simp) (tl:=[(0,ai a0),(1,.tree (.slice .int) a1),(2,ai a2)]) rfl ?_;unfold Hv;unfold C5 at h;refine Al ?_;refine Du h (fun (_:Unit) S_=>S_=⟨Am [],Ad (Ar []),2⟩) ?_ ?_
 ·intro v_ h hk2;refine Al ?_;refine Ak ?_;refine A5 h (fun (l4_m11:Nat) S_=>S_=⟨Am [(0,ai a0),(2,ai a2),(9,.tree (.slice .int) a1),(10,ai ((a1.length:Nat):Int)),(11,ai ((l4_m11:Nat):Int))],Ad (Ar []),2⟩) ⟨_,Ac [],rfl⟩ ?_;rintro n_ l4_m11 _ c_ rfl h hn4
  (try dsimp only at h);unfold Cx at h;unfold F0;refine Al ?_;refine Ab ?_;rcases Ae h with ⟨q7,h⟩ | ⟨q7,h⟩
  ·have q7_:=of_decide_eq_true q7;refine Ag q7 ?_;refine Aj (tn_ ?_);refine wr_ ?_;refine Ab ?_;refine Ak ?_;refine Ab ?_;obtain ⟨x10,e10,h⟩:=Af h;refine Aa 6 ?_;refine rs0 (.telt none (.slice .int) x10 0) (zi (t:=.slice .int) (xs:=a1) (k:=.i64) (m:=((l4_m11:Nat):Int)) (Bi _) e10) ?_;refine rsB 2 ?_;refine Ay (tn_ ?_);refine wr_ ?_;refine Ab ?_;obtain ⟨y12,h12,h⟩:=Af h;refine Aa 11 ?_;refine rz0 (ai a0) ?_;refine rz0 (.tree .int x10) ?_;refine rz0 (ai a2) ?_;refine zc (.bool y12) [] [ai a0,.tree .int x10,ai a2] (Ol h12) ?_;refine rsB 1 ?_;refine Ay (tn_ ?_);refine wr_ ?_;rcases Ae h with ⟨q13,h⟩ | ⟨q13,h⟩
   ·refine Ag q13 ?_;refine Al ?_;refine Ai (br_ (tr_ (tr_ (br_ (tr_ ?_)))));obtain rfl:=zj h;have h:=hn4
    (try dsimp only at h);obtain rfl:=zj h;have h:=hk2
    (try dsimp only at h);obtain rfl:=zj h;exact Bh [.bool false] (A1 rfl zl A2)
   refine Ah q13 ?_;refine Aj (bn_ (tn_ ?_));refine wr_ ?_;obtain ⟨g15,h⟩:=Ax h;refine Aa 13 ?_;refine rs0 (ai ((l4_m11+1:Nat):Int)) (za g15) ?_;refine rsB 1 ?_;refine Ay (tn_ ?_);obtain rfl:=zj h;exact ⟨l4_m11+1,_,Ac [],rfl,hn4⟩
  have q7_:=of_decide_eq_false q7;refine Ah q7 ?_;refine A3 (te_ (te_ (be_ (tn_ ?_))));obtain rfl:=zj h;have h:=hn4
  (try dsimp only at h);obtain rfl:=zj h;exact ⟨(),_,rfl,Ac [],rfl⟩
 rintro _ _ rfl h
 (try dsimp only at h);refine Al ?_;refine Ai ?_;obtain rfl:=zj h;exact Bh [.bool true] (A1 rfl zl A2)
def Gw:AC :=
 (.seq (rg [xo 1 (.i (.box 26 (tm 0))),xo 2 (qm (ci 0))])
 (.seq (rg [xo 3 (qf 0 (tm 1)),xo 4 (ql (tm 3)),xo 5 (qf 1 (tm 1)),xo 6 (ql (tm 5)),xo 7 (qb .add (tm 4) (tm 6)),xo 2 (qm (tm 7))])
 .ret))
def Lm:List Res:=[.tmp 2]
theorem Ln:Ap Tryd.prog Tryd.f32=some (Gw,Lm):=by kernel_rfl
theorem Ko:Az Tryd.prog 32=true:=by kernel_rfl
def Bw (a0_0:Int) (a0_1:Int) (a0_2:List (List Int)):Option Int :=
 some (wI (a0_0+a0_1))
def Kp (r:Int):RV:=⟨false,[(false,[.sc (.int .i64 r)])]⟩
theorem Gf {a0_0:Int} {a0_1:Int} {a0_2:List (List Int)} {r:Int} (h:Bw a0_0 a0_1 a0_2=some r):A9 Tryd.prog Tab 32 [.agg [ai a0_0,ai a0_1,.tree (.slice .int) a0_2]] (Kp r):=by
 refine A0 (by kernel_rfl) Tryd.func32 Ln (n:=8) (by kernel_rfl) (by simp) (tl:=[(0,.agg [ai a0_0,ai a0_1,.tree (.slice .int) a0_2])]) rfl ?_;unfold Gw;unfold Bw at h;refine Al ?_;refine Al ?_;refine Ai ?_;obtain rfl:=zj h;exact Bh [ai (wI (a0_0+a0_1))] (A1 rfl zl A2)
def Jf:AC :=
 (.seq (rg [xo 3 (.i (.box 26 (tm 1))),xo 4 (qm (cb false))])
 (.seq (.region [xo 5 (qm (tm 0)),xo 6 (qc 39 [tm 5] [[]]),xo 7 (qm (tm 6)),⟨some 8,some (7,true),qf 0 (tm 3)⟩,⟨some 9,some (7,true),ql (tm 8)⟩,⟨some 10,some (7,true),qc 40 [tm 9,ci 0,ci 24] [[],[],[]]⟩,xo 11 (.i (.pick (tm 7) (tm 10) (cb false))),xo 12 (qm (tm 11)),⟨some 13,some (12,true),qf 1 (tm 3)⟩,⟨some 14,some (12,true),ql (tm 13)⟩,⟨some 15,some (12,true),qc 40 [tm 14,ci 0,ci 100] [[],[],[]]⟩,xo 16 (.i (.pick (tm 12) (tm 15) (cb false))),xo 17 (qm (tm 16)),⟨some 18,some (17,true),qf 2 (tm 3)⟩,⟨some 19,some (17,true),ql (tm 18)⟩,⟨some 20,some (17,true),.i (.len (tm 19))⟩,⟨some 21,some (17,true),qb .leq (tm 20) (ci 160)⟩,xo 22 (.i (.pick (tm 17) (tm 21) (cb false))),xo 23 (qm (tm 22)),⟨some 24,some (23,true),qm (tm 0)⟩,⟨some 25,some (23,true),qf 2 (tm 3)⟩,⟨some 26,some (23,true),ql (tm 25)⟩,⟨some 27,some (23,true),.i (.ld false 3 (tm 3))⟩,⟨some 28,some (23,true),qc 32 [tm 27] [[none,none,some (.slice .int)]]⟩,⟨some 29,some (23,true),qc 41 [tm 24,tm 26,tm 28] [[],[some (.slice .int)],[]]⟩,xo 30 (.i (.pick (tm 23) (tm 29) (cb false))),xo 4 (qm (tm 30))] true [(21,23)])
 .ret))
def O7:List Res:=[.tmp 4]
theorem Pg:Ap Tryd.prog Tryd.f18=some (Jf,O7):=by kernel_rfl
def Dq (a0:Int) (a1_0:Int) (a1_1:Int) (a1_2:List (List Int)):Option Bool :=
 Option.bind (Option.bind (Hc a0) fun y3 =>
 cond y3
  (Option.bind (D0 a1_0 0 24) fun y5 =>
  cond y5
   (Option.bind (D0 a1_1 0 100) fun y7 =>
   cond y7
    (cond (decide (((a1_2.length:Nat):Int)<=160))
     (Option.bind (Bw a1_0 a1_1 a1_2) fun y10 =>
     Option.bind (C5 a0 a1_2 y10) fun y11 =>
     some y11)
     (some false))
    (some false))
   (some false))
  (some false)) fun l2_m4 =>
some l2_m4
def N9 (r:Bool):RV:=⟨false,[(false,[.sc (.bool r)])]⟩
theorem Ns {a0:Int} {a1_0:Int} {a1_1:Int} {a1_2:List (List Int)} {r:Bool} (h:Dq a0 a1_0 a1_1 a1_2=some r):A9 Tryd.prog Tab 18 [ai a0,.agg [ai a1_0,ai a1_1,.tree (.slice .int) a1_2]] (N9 r):=by
 refine A0 (by kernel_rfl) Tryd.func18 Pg (n:=31) (by kernel_rfl) (by simp) (tl:=[(0,ai a0),(1,.agg [ai a1_0,ai a1_1,.tree (.slice .int) a1_2])]) rfl ?_;unfold Jf;unfold Dq at h;refine Al ?_;refine Ba h (fun (l2_m4:Bool) S_=>S_=⟨Am [(4,.bool l2_m4)],Ad (Ar []),2⟩) ?_ ?_
 ·intro v_ h;obtain ⟨y3,h3,h⟩:=Af h;rcases Ae h with ⟨q4,h⟩ | ⟨q4,h⟩
  ·obtain ⟨y5,h5,h⟩:=Af h;rcases Ae h with ⟨q6,h⟩ | ⟨q6,h⟩
   ·obtain ⟨y7,h7,h⟩:=Af h;rcases Ae h with ⟨q8,h⟩ | ⟨q8,h⟩
    ·rcases Ae h with ⟨q9,h⟩ | ⟨q9,h⟩
     ·have q9_:=of_decide_eq_true q9;obtain ⟨y10,h10,h⟩:=Af h;obtain ⟨y11,h11,h⟩:=Af h;refine Bc 30 ?_;refine dz0 (ai a0) ?_;refine Ev (.bool y3) [] [ai a0] _ (caps:=[]) (args0:=[ai a0]) trivial (by kernel_rfl) (Dx h3) Ds ?_;refine dz0 (.bool y3) ?_;refine ds0 (.box (oi 3 1) 0) (zg q4) ?_;refine dsl (ai a1_0) (zg q4) ?_;refine Ev (.bool y5) [] [ai a1_0,ai 0,ai 24] _ (caps:=[]) (args0:=[ai a1_0,ai 0,ai 24]) (Dc (by kernel_rfl) q4) (by kernel_rfl) (Cl h5) Co ?_;refine ds0 (.bool y5) (zT q4) ?_;refine dz0 (.bool y5) ?_;refine ds0 (.box (oi 3 1) 1) (zg q6) ?_;refine dsl (ai a1_1) (zg q6) ?_;refine Ev (.bool y7) [] [ai a1_1,ai 0,ai 100] _ (caps:=[]) (args0:=[ai a1_1,ai 0,ai 100]) (Dc (by kernel_rfl) q6) (by kernel_rfl) (Cl h7) Co ?_;refine ds0 (.bool y7) (zT q6) ?_;refine dz0 (.bool y7) ?_;refine ds0 (.box (oi 3 1) 2) (zg q8) ?_;refine dsl (.tree (.slice .int) a1_2) (zg q8) ?_;refine ds0 (ai ((a1_2.length:Nat):Int)) (zg q8) ?_;refine ds0 (.bool (decide (((a1_2.length:Nat):Int)<=160))) (zg q8) ?_;refine ds0 (.bool (decide (((a1_2.length:Nat):Int)<=160))) (zT q8) ?_;refine dz0 (.bool (decide (((a1_2.length:Nat):Int)<=160))) ?_;refine ds0 (ai a0) (zg q9) ?_;refine ds0 (.box (oi 3 1) 2) (zg q9) ?_;refine dsl (.tree (.slice .int) a1_2) (zg q9) ?_;refine dsl (.agg [ai a1_0,ai a1_1,.tree (.slice .int) a1_2]) (zg q9) ?_;refine Ev (ai y10) [] [.agg [ai a1_0,ai a1_1,.tree (.slice .int) a1_2]] _ (caps:=[]) (args0:=[.agg [ai a1_0,ai a1_1,.tree (.slice .int) a1_2]]) (Dc (by kernel_rfl) q9) (by kernel_rfl) (Gf h10) Ko ?_;refine Ev (.bool y11) [] [ai a0,.tree (.slice .int) a1_2,ai y10] _ (caps:=[]) (args0:=[ai a0,.tree (.slice .int) a1_2,ai y10]) (Dc (by kernel_rfl) q9) (by kernel_rfl) (Lh h11) Ls ?_;refine ds0 (.bool y11) (zT q9) ?_;refine dz0 (.bool y11) ?_;refine Lo (B8 (by kernel_rfl)) (tn_ ?_);obtain rfl:=zj h;exact ⟨_,Ac [],rfl⟩
     have q9_:=of_decide_eq_false q9;refine Bc 30 ?_;refine dz0 (ai a0) ?_;refine Ev (.bool y3) [] [ai a0] _ (caps:=[]) (args0:=[ai a0]) trivial (by kernel_rfl) (Dx h3) Ds ?_;refine dz0 (.bool y3) ?_;refine ds0 (.box (oi 3 1) 0) (zg q4) ?_;refine dsl (ai a1_0) (zg q4) ?_;refine Ev (.bool y5) [] [ai a1_0,ai 0,ai 24] _ (caps:=[]) (args0:=[ai a1_0,ai 0,ai 24]) (Dc (by kernel_rfl) q4) (by kernel_rfl) (Cl h5) Co ?_;refine ds0 (.bool y5) (zT q4) ?_;refine dz0 (.bool y5) ?_;refine ds0 (.box (oi 3 1) 1) (zg q6) ?_;refine dsl (ai a1_1) (zg q6) ?_;refine Ev (.bool y7) [] [ai a1_1,ai 0,ai 100] _ (caps:=[]) (args0:=[ai a1_1,ai 0,ai 100]) (Dc (by kernel_rfl) q6) (by kernel_rfl) (Cl h7) Co ?_;refine ds0 (.bool y7) (zT q6) ?_;refine dz0 (.bool y7) ?_;refine ds0 (.box (oi 3 1) 2) (zg q8) ?_;refine dsl (.tree (.slice .int) a1_2) (zg q8) ?_;refine ds0 (ai ((a1_2.length:Nat):Int)) (zg q8) ?_;refine ds0 (.bool (decide (((a1_2.length:Nat):Int)<=160))) (zg q8) ?_;refine ds0 (.bool (decide (((a1_2.length:Nat):Int)<=160))) (zT q8) ?_;refine dz0 (.bool (decide (((a1_2.length:Nat):Int)<=160))) ?_;refine ds0 (.tup []) (Ef (by kernel_rfl) q9) ?_;refine ds0 (.tup []) (Ef (by kernel_rfl) q9) ?_;refine ds0 (.tup []) (Ef (by kernel_rfl) q9) ?_;refine ds0 (.tup []) (Ef (by kernel_rfl) q9) ?_;refine ds0 (.tup []) (Ef (by kernel_rfl) q9) ?_;refine ds0 (.tup []) (Ef (by kernel_rfl) q9) ?_;refine ds0 (.bool false) (zF q9) ?_;refine dz0 (.bool false) ?_;refine Lo (B8 (by kernel_rfl)) (tn_ ?_);obtain rfl:=zj h;exact ⟨_,Ac [],rfl⟩
    refine Bc 30 ?_;refine dz0 (ai a0) ?_;refine Ev (.bool y3) [] [ai a0] _ (caps:=[]) (args0:=[ai a0]) trivial (by kernel_rfl) (Dx h3) Ds ?_;refine dz0 (.bool y3) ?_;refine ds0 (.box (oi 3 1) 0) (zg q4) ?_;refine dsl (ai a1_0) (zg q4) ?_;refine Ev (.bool y5) [] [ai a1_0,ai 0,ai 24] _ (caps:=[]) (args0:=[ai a1_0,ai 0,ai 24]) (Dc (by kernel_rfl) q4) (by kernel_rfl) (Cl h5) Co ?_;refine ds0 (.bool y5) (zT q4) ?_;refine dz0 (.bool y5) ?_;refine ds0 (.box (oi 3 1) 1) (zg q6) ?_;refine dsl (ai a1_1) (zg q6) ?_;refine Ev (.bool y7) [] [ai a1_1,ai 0,ai 100] _ (caps:=[]) (args0:=[ai a1_1,ai 0,ai 100]) (Dc (by kernel_rfl) q6) (by kernel_rfl) (Cl h7) Co ?_;refine ds0 (.bool y7) (zT q6) ?_;refine dz0 (.bool y7) ?_;refine ds0 (.tup []) (Ef (by kernel_rfl) q8) ?_;refine ds0 (.tup []) (Ef (by kernel_rfl) q8) ?_;refine ds0 (.tup []) (Ef (by kernel_rfl) q8) ?_;refine ds0 (.tup []) (Ef (by kernel_rfl) q8) ?_;refine ds0 (.bool false) (zF q8) ?_;refine dz0 (.bool false) ?_;refine dz0 (.tup []) ?_;refine dz0 (.tup []) ?_;refine dz0 (.tup []) ?_;refine dz0 (.tup []) ?_;refine dz0 (.tup []) ?_;refine dz0 (.tup []) ?_;refine dz0 (.bool false) ?_;refine dz0 (.bool false) ?_;refine Lo (B8 (by kernel_rfl)) (tn_ ?_);obtain rfl:=zj h;exact ⟨_,Ac [],rfl⟩
   refine Bc 30 ?_;refine dz0 (ai a0) ?_;refine Ev (.bool y3) [] [ai a0] _ (caps:=[]) (args0:=[ai a0]) trivial (by kernel_rfl) (Dx h3) Ds ?_;refine dz0 (.bool y3) ?_;refine ds0 (.box (oi 3 1) 0) (zg q4) ?_;refine dsl (ai a1_0) (zg q4) ?_;refine Ev (.bool y5) [] [ai a1_0,ai 0,ai 24] _ (caps:=[]) (args0:=[ai a1_0,ai 0,ai 24]) (Dc (by kernel_rfl) q4) (by kernel_rfl) (Cl h5) Co ?_;refine ds0 (.bool y5) (zT q4) ?_;refine dz0 (.bool y5) ?_;refine ds0 (.tup []) (Ef (by kernel_rfl) q6) ?_;refine ds0 (.tup []) (Ef (by kernel_rfl) q6) ?_;refine ds0 (.tup []) (Ef (by kernel_rfl) q6) ?_;refine ds0 (.bool false) (zF q6) ?_;refine dz0 (.bool false) ?_;refine dz0 (.tup []) ?_;refine dz0 (.tup []) ?_;refine dz0 (.tup []) ?_;refine dz0 (.tup []) ?_;refine dz0 (.bool false) ?_;refine dz0 (.bool false) ?_;refine dz0 (.tup []) ?_;refine dz0 (.tup []) ?_;refine dz0 (.tup []) ?_;refine dz0 (.tup []) ?_;refine dz0 (.tup []) ?_;refine dz0 (.tup []) ?_;refine dz0 (.bool false) ?_;refine dz0 (.bool false) ?_;refine Lo (B8 (by kernel_rfl)) (tn_ ?_);obtain rfl:=zj h;exact ⟨_,Ac [],rfl⟩
  refine Bc 30 ?_;refine dz0 (ai a0) ?_;refine Ev (.bool y3) [] [ai a0] _ (caps:=[]) (args0:=[ai a0]) trivial (by kernel_rfl) (Dx h3) Ds ?_;refine dz0 (.bool y3) ?_;refine ds0 (.tup []) (Ef (by kernel_rfl) q4) ?_;refine ds0 (.tup []) (Ef (by kernel_rfl) q4) ?_;refine ds0 (.tup []) (Ef (by kernel_rfl) q4) ?_;refine ds0 (.bool false) (zF q4) ?_;refine dz0 (.bool false) ?_;refine dz0 (.tup []) ?_;refine dz0 (.tup []) ?_;refine dz0 (.tup []) ?_;refine dz0 (.bool false) ?_;refine dz0 (.bool false) ?_;refine dz0 (.tup []) ?_;refine dz0 (.tup []) ?_;refine dz0 (.tup []) ?_;refine dz0 (.tup []) ?_;refine dz0 (.bool false) ?_;refine dz0 (.bool false) ?_;refine dz0 (.tup []) ?_;refine dz0 (.tup []) ?_;refine dz0 (.tup []) ?_;refine dz0 (.tup []) ?_;refine dz0 (.tup []) ?_;refine dz0 (.tup []) ?_;refine dz0 (.bool false) ?_;refine dz0 (.bool false) ?_;refine Lo (B8 (by kernel_rfl)) (tn_ ?_);obtain rfl:=zj h;exact ⟨_,Ac [],rfl⟩
 rintro l2_m4 _ rfl h
 (try dsimp only at h);refine Ai ?_;obtain rfl:=zj h;exact Bh [.bool l2_m4] (A1 rfl zl A2)
def G1:AC :=
 (.seq (rg [xo 1 (.i (.box 26 (tm 0))),xo 2 (.i (.alloc 26 [.int .i64 0,.int .i64 0,.nils]))])
 (.seq (.region [xo 3 (qf 0 (tm 1)),xo 4 (ql (tm 3)),xo 5 (qf 1 (tm 1)),xo 6 (ql (tm 5)),xo 7 (qf 2 (tm 1)),xo 8 (ql (tm 7)),xo 9 (qc 29 [tm 8] [[some (.slice .int)]]),xo 10 (.build [.int .i64 0,.int .i64 0,.nils] [(0,1,tm 4),(1,1,tm 6),(2,1,tm 9)]),xn (.st false 3 (tm 2) (tm 10))] true [(1,6),(3,6)])
 .ret))
def Lt:List Res:=[.cell 2 false 3]
theorem Lx:Ap Tryd.prog Tryd.f19=some (G1,Lt):=by kernel_rfl
theorem Ks:Az Tryd.prog 19=true:=by kernel_rfl
def Do (a0_0:Int) (a0_1:Int) (a0_2:List (List Int)):Option (List (List Int)) :=
 Option.bind (Dz a0_2) fun y4 =>
some y4
theorem Kr {a0_0:Int} {a0_1:Int} {a0_2:List (List Int)} {r:List (List Int)} (h:Do a0_0 a0_1 a0_2=some r):Ea Tryd.prog Tab 19 [.agg [ai a0_0,ai a0_1,.tree (.slice .int) a0_2]] [] (.agg [ai a0_0,ai a0_1,.own (oi 1 1) (.slice .int) 0 r.length]) [(oi 0 1,.cells 26 [ai a0_0,ai a0_1,.own (oi 1 1) (.slice .int) 0 r.length]),(oi 1 1,.mat 39 (oi 2 1) .int r),(oi 2 1,.pool 3 .int r)]:=by
 refine B6 (by kernel_rfl) Tryd.func19 Lx (n:=11) (by kernel_rfl) (by simp) (tl:=[(0,.agg [ai a0_0,ai a0_1,.tree (.slice .int) a0_2])]) rfl (by kernel_rfl) trivial ⟨trivial,⟨⟨3,.tail _ (.tail _ (.head _))⟩,⟨trivial,trivial⟩⟩⟩ ?_;unfold G1;unfold Do at h;refine Al ?_;refine Ab ?_;obtain ⟨y4,h4,h⟩:=Af h;refine Bc 12 ?_;refine dz0 (.box (oi 1 1) 0) ?_;refine dzl (ai a0_0) ?_;refine dz0 (.box (oi 1 1) 1) ?_;refine dzl (ai a0_1) ?_;refine dz0 (.box (oi 1 1) 2) ?_;refine dzl (.tree (.slice .int) a0_2) ?_;refine Vg (.own (oi 144 9) (.slice .int) 0 y4.length) [(oi 144 9,some (.mat 39 (oi 145 9) .int y4)),(oi 145 9,some (.pool 3 .int y4))] [] [.tree (.slice .int) a0_2] (caps:=[]) trivial (Jz h4) Jx trivial (.cons (.ren (by kernel_rfl)) .nil) (A8 (by kernel_rfl) (by kernel_rfl) trivial) (Yc (by kernel_rfl)) ?_;refine dz0 (.agg [ai a0_0,ai a0_1,.own (oi 144 9) (.slice .int) 0 y4.length]) ?_;refine Abb (oi 2 2) (oi 2 2) (.cells 26 [ai a0_0,ai a0_1,.own (oi 144 9) (.slice .int) 0 y4.length]) (by kernel_rfl) ?_;refine Lo ⟨Yy (by kernel_rfl),⟨Yy (by kernel_rfl),trivial⟩⟩ (tn_ ?_);refine wr_ ?_;refine Ai ?_;obtain rfl:=zj h;exact Gg [.agg [ai a0_0,ai a0_1,.own (oi 1 1) (.slice .int) 0 y4.length]] (Ac (tl:=[(2,.box (oi 0 1) 0)]) (g:=2) [(oi 0 1,oi 2 2),(oi 1 1,oi 144 9),(oi 2 1,oi 145 9)])
end Go.Proofs.YtehocbbnjfmgaaaDoor
namespace Go.Proofs.YtehocbbnjfmgaaaDoor
open Go.RowKit Go.Deep
set_option maxRecDepth 4000
def Ir:AC :=
 (.seq (rg [xo 26 (qb .lss (tm 25) (tm 24))])
 (.seq (.cond (tm 26)
  .skip
  (.exit 0))
 (.seq (.block 1 (.seq (rg [xo 27 (qx 1 (tm 23) (tm 25)),xo 28 (ql (tm 27)),xo 9 (qm (tm 28))])
 (.seq (rg [xo 29 (qm (tm 9)),xo 30 (qc 24 [tm 29] [[some .int]]),xo 9 (qm (tm 30))])
 (.seq (.seq (rg [xo 31 (qm (tm 9)),xo 32 (qm (tm 5)),xo 33 (qx 1 (tm 31) (tm 32)),xo 34 (ql (tm 33)),xo 35 (qb .neq (tm 34) (ci 0)),xo 36 (qm (tm 35)),⟨some 37,some (36,true),qm (tm 7)⟩,⟨some 38,some (36,true),.i (.len (tm 37))⟩,⟨some 39,some (36,true),qb .eql (tm 38) (ci 0)⟩,xo 40 (.i (.pick (tm 36) (tm 39) (cb false)))])
 (.cond (tm 40)
  (.seq (rg [xo 41 (qm (tm 9)),xo 7 (qm (tm 41))])
  (.exit 1))
  .skip))
 (.seq (.seq (rg [xo 42 (qm (tm 9)),xo 43 (qm (tm 5)),xo 44 (qx 1 (tm 42) (tm 43)),xo 45 (ql (tm 44)),xo 46 (qb .neq (tm 45) (ci 0))])
 (.cond (tm 46)
  (.region [xo 47 (qm (tm 0)),xo 48 (qm (tm 9)),xo 49 (qm (tm 7)),xo 50 (qm (tm 0)),xo 51 (qm (tm 9)),xo 52 (qm (tm 5)),xo 53 (qx 1 (tm 51) (tm 52)),xo 54 (ql (tm 53)),xo 55 (qm (tm 0)),xo 56 (qm (tm 7)),xo 57 (qm (tm 5)),xo 58 (qx 1 (tm 56) (tm 57)),xo 59 (ql (tm 58)),xo 60 (qc 52 [tm 55,tm 59] [[],[]]),xo 61 (qc 53 [tm 50,tm 54,tm 60] [[],[],[]]),xo 62 (qc 60 [tm 47,tm 48,tm 49,tm 61] [[],[some .int],[some .int],[]])] true [(7,13)])
  .skip))
 (.region [xo 63 (qf 2 (tm 6)),xo 64 (ql (tm 63)),xo 65 (qm (tm 9)),xo 66 (qm (tm 5)),xo 67 (.slice 1 (tm 65) none (some (tm 66)) none),xo 68 (.mkV 39 (.slice .int) 1 [tm 67]),xo 69 (.appV 39 (.slice .int) 24 (tm 64) (tm 68)),xo 70 (qf 2 (tm 6)),xn (qs (tm 70) (tm 69))] true [(1,5)]))))))
 (rg [xo 71 (qb .add (tm 25) (ci 1)),xo 25 (qm (tm 71))]))))
def K5:AC :=
 (.seq (rg [xo 3 (.i (.box 26 (tm 1))),xo 4 (.i (.alloc 26 [.int .i64 0,.int .i64 0,.nils]))])
 (.seq (rg [xo 10 (qf 0 (tm 3)),xo 11 (ql (tm 10)),xo 12 (qf 1 (tm 3)),xo 13 (ql (tm 12)),xo 14 (qb .add (tm 11) (tm 13)),xo 15 (qb .sub (tm 14) (ci 1)),xo 5 (qm (tm 15))])
 (.seq (rg [xo 16 (qf 0 (tm 3)),xo 17 (ql (tm 16)),xo 18 (qf 1 (tm 3)),xo 19 (ql (tm 18)),xo 20 (qb .sub (tm 19) (ci 1)),xo 21 (.build [.int .i64 0,.int .i64 0,.nils] [(0,1,tm 17),(1,1,tm 20)]),xo 6 (.i (.alloc 26 [.int .i64 0,.int .i64 0,.nils])),xn (.st false 3 (tm 6) (tm 21))])
 (.seq (rg [xo 7 (qm (.cst .nils))])
 (.seq (.seq (rg [xo 22 (qf 2 (tm 3)),xo 23 (ql (tm 22)),xo 24 (.i (.len (tm 23))),xo 25 (qm (ci 0))])
 (.block 0 (.loop Ir)))
 (.seq (rg [xo 72 (.i (.ld false 3 (tm 6))),xn (.st false 3 (tm 4) (tm 72))])
 .ret))))))
def S8:List Res:=[.cell 4 false 3]
theorem Th:Ap Tryd.prog Tryd.f37=some (K5,S8):=by kernel_rfl
theorem Rf:Az Tryd.prog 37=true:=by kernel_rfl
def De (a1_2:List (List Int)) (a1_0:Int) (a1_1:Int) (a0:Int) (l8_m25:Nat) (l8_m7:List Int) (l8_m6_2:List (List Int)):Option (Ctl (Nat×List Int×List (List Int)) (List (List Int))) :=
 cond (decide (((l8_m25:Nat):Int)<((a1_2.length:Nat):Int)))
 (Option.bind (Option.bind (a1_2[l8_m25]?) fun x14 =>
  Option.bind (Et x14) fun y16 =>
  Option.bind (Option.bind (L0 y16 (wI ((wI (a1_0+a1_1)) - 1))) fun x19 =>
   Option.bind (L0 y16 (wI ((wI (a1_0+a1_1)) - 1))) fun x20 =>
   cond (x20 !=0)
    (some (((l8_m7.length:Nat):Int)==0))
    (some false)) fun l18_m40 =>
  cond l18_m40
   (some (y16,l8_m6_2))
   (Option.bind (Option.bind (L0 y16 (wI ((wI (a1_0+a1_1)) - 1))) fun x26 =>
    Option.bind (L0 y16 (wI ((wI (a1_0+a1_1)) - 1))) fun x27 =>
    cond (x27 !=0)
     (Option.bind (L0 l8_m7 (wI ((wI (a1_0+a1_1)) - 1))) fun x29 =>
     Option.bind (L0 l8_m7 (wI ((wI (a1_0+a1_1)) - 1))) fun x30 =>
     Option.bind (Fq a0 x30) fun y31 =>
     Option.bind (Em a0 x27 y31) fun y32 =>
     Option.bind (E2 a0 y16 l8_m7 y32) fun y33 =>
     og (y33.length=y16.length) <|
     some y33)
     (some y16)) fun l24_m9 =>
   og ((0:Int)<=0∧0<=wI ((wI (a1_0+a1_1)) - 1)∧wI ((wI (a1_0+a1_1)) - 1)<=((l24_m9.length:Nat):Int)) <|
   og (l8_m6_2.length+1<=1073741824∧(l8_m6_2.length+1)*24<=140737488355328) <|
   some (l8_m7,l8_m6_2++[l24_m9.take ((wI ((wI (a1_0+a1_1)) - 1)).toNat)]))) fun (l12_m7,l12_m6_2) =>
 og (l8_m25+1<4611686018427387904) <|
 some (Ctl.next (l8_m25+1,l12_m7,l12_m6_2)))
 (some (Ctl.out l8_m6_2))
def Ez (a0:Int) (a1_0:Int) (a1_1:Int) (a1_2:List (List Int)):Option (List (List Int)) :=
 Option.bind (A6 (fun s_:Nat×List Int×List (List Int)=>De a1_2 a1_0 a1_1 a0 s_.1 s_.2.1 s_.2.2) 4611686018427387904 (0,[],([]:List (List Int)))) fun l6_m6_2 =>
some l6_m6_2
theorem Rl {a0:Int} {a1_0:Int} {a1_1:Int} {a1_2:List (List Int)} {r:List (List Int)} (h:Ez a0 a1_0 a1_1 a1_2=some r):Ea Tryd.prog Tab 37 [ai a0,.agg [ai a1_0,ai a1_1,.tree (.slice .int) a1_2]] [] (.agg [ai a1_0,ai (wI (a1_1 - 1)),.own (oi 1 1) (.slice .int) 0 r.length]) [(oi 0 1,.cells 26 [ai a1_0,ai (wI (a1_1 - 1)),.own (oi 1 1) (.slice .int) 0 r.length]),(oi 1 1,.mat 39 (oi 2 1) .int r),(oi 2 1,.pool 3 .int r)]:=by
 refine B6 (by kernel_rfl) Tryd.func37 Th (n:=73) (by kernel_rfl) (by simp) (tl:=[(0,ai a0),(1,.agg [ai a1_0,ai a1_1,.tree (.slice .int) a1_2])]) rfl (by kernel_rfl) trivial ⟨trivial,⟨⟨3,.tail _ (.tail _ (.head _))⟩,⟨trivial,trivial⟩⟩⟩ ?_;unfold K5;unfold Ez at h;refine Al ?_;refine Al ?_;refine Al ?_;refine Al ?_;refine Ba h (fun (l6_m6_2:List (List Int)) S_=>S_=⟨Am [(4,.box (oi 0 1) 0),(6,.box (oi 1 1) 0)],Ad (Ar [(oi 0 1,.cells 26 [ai 0,ai 0,.nils]),(oi 1 1,.cells 26 [ai a1_0,ai (wI (a1_1 - 1)),.own (oi 2 1) (.slice .int) 0 l6_m6_2.length]),(oi 2 1,.mat 39 (oi 3 1) .int l6_m6_2),(oi 3 1,.pool 3 .int l6_m6_2)]),2⟩) ?_ ?_
 ·intro v_ h;refine Al ?_;refine Ak ?_;refine A5 h (fun t_ S_=>∃ (l8_m25:Nat),∃ (l8_m7:List Int),∃ (l8_m6_2:List (List Int)),t_=(l8_m25,l8_m7,l8_m6_2)∧S_=⟨Am [(0,ai a0),(4,.box (oi 0 1) 0),(5,ai (wI ((wI (a1_0+a1_1)) - 1))),(6,.box (oi 1 1) 0),(7,.own (oi 2 1) .int 0 l8_m7.length),(23,.tree (.slice .int) a1_2),(24,ai ((a1_2.length:Nat):Int)),(25,ai ((l8_m25:Nat):Int))],Ad (Ar [(oi 0 1,.cells 26 [ai 0,ai 0,.nils]),(oi 1 1,.cells 26 [ai a1_0,ai (wI (a1_1 - 1)),.own (oi 3 1) (.slice .int) 0 l8_m6_2.length]),(oi 2 1,.arr 3 .int l8_m7),(oi 3 1,.mat 39 (oi 4 1) .int l8_m6_2),(oi 4 1,.pool 3 .int l8_m6_2)]),2⟩) ⟨_,(E8 9000 (oi 6 16) 2 26 [ai a1_0,ai (wI (a1_1 - 1)),.nils] [ai a1_0,ai (wI (a1_1 - 1)),.own (oi 9000 23) (.slice .int) 0 0] 39 (.slice .int) (by kernel_rfl) (by kernel_rfl) (by kernel_rfl)).trans ((Iu (e1:=39) (n:=0) 9000 (oi 9000 23) 3 .int (by kernel_rfl) (by kernel_rfl) rfl (by kernel_rfl) (by kernel_rfl)).trans ((Aa3 7 3 .int rfl (by kernel_rfl)).trans (Ac [(oi 0 1,oi 4 2),(oi 1 1,oi 6 16),(oi 3 1,oi 9000 23),(oi 4 1,oi 9000 24),(oi 2 1,oi 7 25)]))),⟨0,[],([]:List (List Int)),rfl,rfl⟩⟩ ?_;rintro n_ _ _ c_ ⟨l8_m25,l8_m7,l8_m6_2,rfl,rfl⟩ h hn8
  (try dsimp only at h);unfold De at h;unfold Ir;refine Al ?_;refine Ab ?_;rcases Ae h with ⟨q11,h⟩ | ⟨q11,h⟩
  ·have q11_:=of_decide_eq_true q11;refine Ag q11 ?_;refine Aj (tn_ ?_);refine wr_ ?_;refine Ba h (fun t_ S_=>∃ (l12_m7:List Int),∃ (l12_m6_2:List (List Int)),t_=(l12_m7,l12_m6_2)∧S_=⟨Am [(0,ai a0),(4,.box (oi 0 1) 0),(5,ai (wI ((wI (a1_0+a1_1)) - 1))),(6,.box (oi 1 1) 0),(7,.own (oi 2 1) .int 0 l12_m7.length),(23,.tree (.slice .int) a1_2),(24,ai ((a1_2.length:Nat):Int)),(25,ai ((l8_m25:Nat):Int))],Ad (Ar [(oi 0 1,.cells 26 [ai 0,ai 0,.nils]),(oi 1 1,.cells 26 [ai a1_0,ai (wI (a1_1 - 1)),.own (oi 3 1) (.slice .int) 0 l12_m6_2.length]),(oi 2 1,.arr 3 .int l12_m7),(oi 3 1,.mat 39 (oi 4 1) .int l12_m6_2),(oi 4 1,.pool 3 .int l12_m6_2)]),2⟩) ?_ ?_
   ·intro v_ h;refine Ak ?_;refine Ab ?_;obtain ⟨x14,e14,h⟩:=Af h;refine Aa 6 ?_;refine rs0 (.telt none (.slice .int) x14 0) (zi (t:=.slice .int) (xs:=a1_2) (k:=.i64) (m:=((l8_m25:Nat):Int)) (Bi _) e14) ?_;refine rsB 2 ?_;refine Ay (tn_ ?_);refine wr_ ?_;refine Ab ?_;obtain ⟨y16,h16,h⟩:=Af h;refine Aa 9 ?_;refine rz0 (.tree .int x14) ?_;refine zc (.own (oi 480 7) .int 0 y16.length) [(oi 480 7,some (.arr 3 .int y16))] [.tree .int x14] (K9 h16) ?_;refine rsB 1 ?_;refine Ay (tn_ ?_);refine wr_ ?_;refine Ab ?_;refine Ba h (fun (l18_m40:Bool) S_=>S_=⟨Am [(0,ai a0),(4,.box (oi 0 1) 0),(5,ai (wI ((wI (a1_0+a1_1)) - 1))),(6,.box (oi 1 1) 0),(7,.own (oi 2 1) .int 0 l8_m7.length),(9,.own (oi 3 1) .int 0 y16.length),(23,.tree (.slice .int) a1_2),(24,ai ((a1_2.length:Nat):Int)),(25,ai ((l8_m25:Nat):Int)),(40,.bool l18_m40)],Ad (Ar [(oi 0 1,.cells 26 [ai 0,ai 0,.nils]),(oi 1 1,.cells 26 [ai a1_0,ai (wI (a1_1 - 1)),.own (oi 4 1) (.slice .int) 0 l8_m6_2.length]),(oi 2 1,.arr 3 .int l8_m7),(oi 3 1,.arr 3 .int y16),(oi 4 1,.mat 39 (oi 5 1) .int l8_m6_2),(oi 5 1,.pool 3 .int l8_m6_2)]),2⟩) ?_ ?_
    ·intro v_ h;obtain ⟨x19,f19,h⟩:=Af h;obtain ⟨p19,b19,e19⟩:=Cv f19;obtain ⟨x20,f20,h⟩:=Af h;obtain ⟨p20,b20,e20⟩:=Cv f20;rcases Ae h with ⟨q21,h⟩ | ⟨q21,h⟩
     ·refine Aa 19 ?_;refine rz0 (.own (oi 480 7) .int 0 y16.length) ?_;refine rz0 (ai (wI ((wI (a1_0+a1_1)) - 1))) ?_;refine rs0 (.elt (oi 480 7) ((wI ((wI (a1_0+a1_1)) - 1)).toNat) 0) (zo (t:=.int) (o:=oi 480 7) (len:=y16.length) (k:=.i64) (m:=wI ((wI (a1_0+a1_1)) - 1)) p19 (Be e19)) ?_;refine rsl (ai x20) (Mh (i:=oi 480 7) (j:=(wI ((wI (a1_0+a1_1)) - 1)).toNat) (k:=0) (e:=3) (t:=.int) (xs:=y16) (by kernel_rfl) (by kernel_rfl) e20 (by kernel_rfl)) ?_;refine rz0 (.bool (x20 !=0)) ?_;refine rz0 (.bool (x20 !=0)) ?_;refine rs0 (.own (oi 2 1) .int 0 l8_m7.length) (zg q21) ?_;refine rs0 (ai ((l8_m7.length:Nat):Int)) (zg q21) ?_;refine rs0 (.bool (((l8_m7.length:Nat):Int)==0)) (zg q21) ?_;refine rs0 (.bool (((l8_m7.length:Nat):Int)==0)) (zT q21) ?_;refine Ay (tn_ ?_);obtain rfl:=zj h;exact ⟨_,Ac [(oi 4 1,oi 3 1),(oi 5 1,oi 4 1),(oi 3 1,oi 480 7)],rfl⟩
     refine Aa 19 ?_;refine rz0 (.own (oi 480 7) .int 0 y16.length) ?_;refine rz0 (ai (wI ((wI (a1_0+a1_1)) - 1))) ?_;refine rs0 (.elt (oi 480 7) ((wI ((wI (a1_0+a1_1)) - 1)).toNat) 0) (zo (t:=.int) (o:=oi 480 7) (len:=y16.length) (k:=.i64) (m:=wI ((wI (a1_0+a1_1)) - 1)) p19 (Be e19)) ?_;refine rsl (ai x20) (Mh (i:=oi 480 7) (j:=(wI ((wI (a1_0+a1_1)) - 1)).toNat) (k:=0) (e:=3) (t:=.int) (xs:=y16) (by kernel_rfl) (by kernel_rfl) e20 (by kernel_rfl)) ?_;refine rz0 (.bool (x20 !=0)) ?_;refine rz0 (.bool (x20 !=0)) ?_;refine zs q21 ?_;refine zs q21 ?_;refine zs q21 ?_;refine rs0 (.bool false) (zF q21) ?_;refine Ay (tn_ ?_);obtain rfl:=zj h;exact ⟨_,Ac [(oi 4 1,oi 3 1),(oi 5 1,oi 4 1),(oi 3 1,oi 480 7)],rfl⟩
    rintro l18_m40 _ rfl h
    (try dsimp only at h);rcases Ae h with ⟨q22,h⟩ | ⟨q22,h⟩
    ·refine Ag q22 ?_;refine Al ?_;refine A3 (te_ (be_ (tn_ ?_)));obtain rfl:=zj h;exact ⟨_,Ac [(oi 3 1,oi 4 1),(oi 4 1,oi 5 1),(oi 2 1,oi 3 1)],⟨y16,l8_m6_2,rfl,rfl⟩⟩
    refine Ah q22 ?_;refine Aj (tn_ ?_);refine wr_ ?_;refine Ba h (fun (l24_m9:List Int) S_=>S_=⟨Am [(0,ai a0),(4,.box (oi 0 1) 0),(5,ai (wI ((wI (a1_0+a1_1)) - 1))),(6,.box (oi 1 1) 0),(7,.own (oi 2 1) .int 0 l8_m7.length),(9,.own (oi 3 1) .int 0 l24_m9.length),(23,.tree (.slice .int) a1_2),(24,ai ((a1_2.length:Nat):Int)),(25,ai ((l8_m25:Nat):Int))],Ad (Ar [(oi 0 1,.cells 26 [ai 0,ai 0,.nils]),(oi 1 1,.cells 26 [ai a1_0,ai (wI (a1_1 - 1)),.own (oi 4 1) (.slice .int) 0 l8_m6_2.length]),(oi 2 1,.arr 3 .int l8_m7),(oi 3 1,.arr 3 .int l24_m9),(oi 4 1,.mat 39 (oi 5 1) .int l8_m6_2),(oi 5 1,.pool 3 .int l8_m6_2)]),2⟩) ?_ ?_
    ·intro v_ h;refine Ab ?_;obtain ⟨x26,f26,h⟩:=Af h;obtain ⟨p26,b26,e26⟩:=Cv f26;obtain ⟨x27,f27,h⟩:=Af h;obtain ⟨p27,b27,e27⟩:=Cv f27;refine Aa 7 ?_;refine rz0 (.own (oi 3 1) .int 0 y16.length) ?_;refine rz0 (ai (wI ((wI (a1_0+a1_1)) - 1))) ?_;refine rs0 (.elt (oi 3 1) ((wI ((wI (a1_0+a1_1)) - 1)).toNat) 0) (zo (t:=.int) (o:=oi 3 1) (len:=y16.length) (k:=.i64) (m:=wI ((wI (a1_0+a1_1)) - 1)) p26 (Be e26)) ?_;refine rsl (ai x27) (Mh (i:=oi 3 1) (j:=(wI ((wI (a1_0+a1_1)) - 1)).toNat) (k:=0) (e:=3) (t:=.int) (xs:=y16) (by kernel_rfl) (by kernel_rfl) e27 (by kernel_rfl)) ?_;refine rsB 1 ?_;refine Ay (tn_ ?_);refine wr_ ?_;rcases Ae h with ⟨q28,h⟩ | ⟨q28,h⟩
     ·refine Ag q28 ?_;obtain ⟨x29,f29,h⟩:=Af h;obtain ⟨p29,b29,e29⟩:=Cv f29;obtain ⟨x30,f30,h⟩:=Af h;obtain ⟨p30,b30,e30⟩:=Cv f30;obtain ⟨y31,h31,h⟩:=Af h;obtain ⟨y32,h32,h⟩:=Af h;obtain ⟨y33,h33,h⟩:=Af h;obtain ⟨g34,h⟩:=Ax h;refine Bc 23 ?_;refine dz0 (ai a0) ?_;refine dz0 (.own (oi 3 1) .int 0 y16.length) ?_;refine dz0 (.own (oi 2 1) .int 0 l8_m7.length) ?_;refine dz0 (ai a0) ?_;refine dz0 (.own (oi 3 1) .int 0 y16.length) ?_;refine dz0 (ai (wI ((wI (a1_0+a1_1)) - 1))) ?_;refine ds0 (.elt (oi 3 1) ((wI ((wI (a1_0+a1_1)) - 1)).toNat) 0) (zo (t:=.int) (o:=oi 3 1) (len:=y16.length) (k:=.i64) (m:=wI ((wI (a1_0+a1_1)) - 1)) p26 (Be e26)) ?_;refine dsl (ai x27) (Mh (i:=oi 3 1) (j:=(wI ((wI (a1_0+a1_1)) - 1)).toNat) (k:=0) (e:=3) (t:=.int) (xs:=y16) (by kernel_rfl) (by kernel_rfl) e27 (by kernel_rfl)) ?_;refine dz0 (ai a0) ?_;refine dz0 (.own (oi 2 1) .int 0 l8_m7.length) ?_;refine dz0 (ai (wI ((wI (a1_0+a1_1)) - 1))) ?_;refine ds0 (.elt (oi 2 1) ((wI ((wI (a1_0+a1_1)) - 1)).toNat) 0) (zo (t:=.int) (o:=oi 2 1) (len:=l8_m7.length) (k:=.i64) (m:=wI ((wI (a1_0+a1_1)) - 1)) p29 (Be e29)) ?_;refine dsl (ai x30) (Mh (i:=oi 2 1) (j:=(wI ((wI (a1_0+a1_1)) - 1)).toNat) (k:=0) (e:=3) (t:=.int) (xs:=l8_m7) (by kernel_rfl) (by kernel_rfl) e30 (by kernel_rfl)) ?_;refine Ev (ai y31) [] [ai a0,ai x30] _ (caps:=[]) (args0:=[ai a0,ai x30]) trivial (by kernel_rfl) (Sy h31) Sp ?_;refine Ev (ai y32) [] [ai a0,ai x27,ai y31] _ (caps:=[]) (args0:=[ai a0,ai x27,ai y31]) trivial (by kernel_rfl) (Le h32) Kz ?_;refine Vg (.tup []) [(oi 3 1,some (.arr 3 .int y33)),(oi 3 1,none)] [(oi 0 0,oi 3 1)] [ai a0,.own (oi 3 1) .int 0 y16.length,.own (oi 2 1) .int 0 l8_m7.length,ai y32] (caps:=[]) trivial (Rn h33 rfl) R3 ⟨by kernel_rfl,trivial⟩ (.cons (.ren (by kernel_rfl)) (.cons (.ren (by kernel_rfl)) (.cons (.gnd (by kernel_rfl) (Ac5 (e:=3) ((Hm (by kernel_rfl) (by kernel_rfl) (by kernel_rfl)).trans (by kernel_rfl)) rfl)) (.cons (.ren (by kernel_rfl)) .nil)))) (A8 (by kernel_rfl) (by kernel_rfl) ⟨I1 (by kernel_rfl),trivial⟩) (Yc (by kernel_rfl)) ?_;refine Lo (B8 (by kernel_rfl)) (tn_ ?_);obtain rfl:=zj h;exact ⟨_,(B4 9 (.own (oi 3 1) .int 0 y16.length) (.own (oi 3 1) .int 0 y33.length) (by kernel_rfl) (congrArg (fun z_=>((.own (oi 3 1) .int 0 z_):AV)) (g34.symm:y16.length=y33.length))).trans (Ac []),rfl⟩
     refine Ah q28 ?_;refine Aj (tn_ ?_);obtain rfl:=zj h;exact ⟨_,Ac [],rfl⟩
    rintro l24_m9 _ rfl h
    (try dsimp only at h);obtain ⟨g35,h⟩:=Ax h;obtain ⟨g36,h⟩:=Ax h;refine Bc 11 ?_;refine dz0 (.box (oi 1 1) 2) ?_;refine dzl (.own (oi 4 1) (.slice .int) 0 l8_m6_2.length) ?_;refine dz0 (.own (oi 3 1) .int 0 l24_m9.length) ?_;refine dz0 (ai (wI ((wI (a1_0+a1_1)) - 1))) ?_;refine ds0 (.own (oi 3 1) .int 0 ((wI ((wI (a1_0+a1_1)) - 1)).toNat)) (Ac2 (t:=.int) (i:=oi 3 1) (off:=0) (len:=l24_m9.length) (l:=0) (h:=wI ((wI (a1_0+a1_1)) - 1)) (by kernel_rfl) (by kernel_rfl) (by kernel_rfl) rfl g35 rfl (by omega)) ?_;refine Af3 (.own (oi 68 7) (.slice .int) 0 1) (oi 68 7) (.vec 39 1 1 ([.own (oi 3 1) .int 0 ((wI ((wI (a1_0+a1_1)) - 1)).toNat)])) trivial (Ac4 (by kernel_rfl)) ?_;refine ds2 (.own (oi 4 8) (.slice .int) 0 (l8_m6_2.length+1)) (oi 4 1) (oi 4 8) (.vec 39 1 (l8_m6_2.length+1) (hdL (oi 5 1) .int l8_m6_2++[.own (oi 3 1) .int 0 ((wI ((wI (a1_0+a1_1)) - 1)).toNat)])) (Uj (u:=.int) (t':=.slice .int) (t2:=.slice .int) (o:=oi 4 1) (q:=oi 68 7) (e2:=39) (p:=oi 5 1) (xss:=l8_m6_2) (cs:=[.own (oi 3 1) .int 0 ((wI ((wI (a1_0+a1_1)) - 1)).toNat)]) (len:=l8_m6_2.length) (by kernel_rfl) (by kernel_rfl) rfl (by kernel_rfl) (by kernel_rfl) rfl g36) ?_;refine dz0 (.box (oi 1 1) 2) ?_;refine Abb (oi 1 1) (oi 1 1) (.cells 26 [ai a1_0,ai (wI (a1_1 - 1)),.own (oi 4 8) (.slice .int) 0 (l8_m6_2.length+1)]) (by kernel_rfl) ?_;refine Lo (B8 (by kernel_rfl)) (bn_ (tn_ ?_));obtain rfl:=zj h;exact ⟨_,(N3 (e1:=39) (e:=3) (u:=.int) (n:=l8_m6_2.length+1) (len:=(wI ((wI (a1_0+a1_1)) - 1)).toNat) (row:=l24_m9.take ((wI ((wI (a1_0+a1_1)) - 1)).toNat)) (ys:=l24_m9) (xss:=l8_m6_2) 9000 (oi 4 8) (oi 5 1) (oi 3 1) (by kernel_rfl) (by kernel_rfl) rfl (by kernel_rfl) (by kernel_rfl) (by omega) rfl (by kernel_rfl) (by kernel_rfl) (by kernel_rfl)).trans ((Mp (oi 1 1) (.cells 26 [ai a1_0,ai (wI (a1_1 - 1)),.own (oi 4 8) (.slice .int) 0 (l8_m6_2.length+1)]) (.cells 26 [ai a1_0,ai (wI (a1_1 - 1)),.own (oi 4 8) (.slice .int) 0 ((l8_m6_2++[l24_m9.take ((wI ((wI (a1_0+a1_1)) - 1)).toNat)]).length)]) (by kernel_rfl) (congrArg (fun z_=>(.cells 26 [ai a1_0,ai (wI (a1_1 - 1)),.own (oi 4 8) (.slice .int) 0 z_]:Ob)) ((by simp):l8_m6_2.length+1=(l8_m6_2++[l24_m9.take ((wI ((wI (a1_0+a1_1)) - 1)).toNat)]).length))).trans (Ac [(oi 3 1,oi 4 8),(oi 4 1,oi 9000 11)])),⟨l8_m7,l8_m6_2++[l24_m9.take ((wI ((wI (a1_0+a1_1)) - 1)).toNat)],rfl,rfl⟩⟩
   rintro _ _ ⟨l12_m7,l12_m6_2,rfl,rfl⟩ h
   (try dsimp only at h);obtain ⟨g37,h⟩:=Ax h;refine Aa 4 ?_;refine rs0 (ai ((l8_m25+1:Nat):Int)) (za g37) ?_;refine rsB 1 ?_;refine Ay (tn_ ?_);obtain rfl:=zj h;exact ⟨(l8_m25+1,l12_m7,l12_m6_2),_,Ac [],⟨l8_m25+1,l12_m7,l12_m6_2,rfl,rfl⟩,hn8⟩
  have q11_:=of_decide_eq_false q11;refine Ah q11 ?_;refine A3 (te_ (te_ (be_ (tn_ ?_))));obtain rfl:=zj h;have h:=hn8
  (try dsimp only at h);obtain rfl:=zj h;exact ⟨_,Ac [(oi 2 1,oi 3 1),(oi 3 1,oi 4 1)],rfl⟩
 rintro l6_m6_2 _ rfl h
 (try dsimp only at h);refine Al ?_;refine Ai ?_;obtain rfl:=zj h;exact Gg [.agg [ai a1_0,ai (wI (a1_1 - 1)),.own (oi 1 1) (.slice .int) 0 l6_m6_2.length]] (Ac (tl:=[(4,.box (oi 0 1) 0)]) (g:=2) [(oi 1 1,oi 2 1),(oi 2 1,oi 3 1)])
def Hp:AC :=
 (.seq (.seq (rg [xo 28 (qf 1 (tm 5)),xo 29 (ql (tm 28)),xo 30 (qb .gtr (tm 29) (ci 0))])
 (.cond (tm 30)
  .skip
  (.exit 2)))
 (.block 3 (rg [xo 31 (qm (tm 0)),xo 32 (.i (.ld false 3 (tm 5))),xo 33 (qc 37 [tm 31,tm 32] [[],[none,none,some (.slice .int)]]),xn (.st false 3 (tm 5) (tm 33))])))
def Hq:AC :=
 (.seq (rg [xo 17 (qb .lss (tm 16) (tm 15))])
 (.seq (.cond (tm 17)
  .skip
  (.exit 0))
 (.seq (.block 1 (.seq (rg [xo 18 (qx 1 (tm 14) (tm 16)),xo 19 (ql (tm 18)),xo 7 (qm (tm 19))])
 (.region [xo 20 (qf 2 (tm 5)),xo 21 (ql (tm 20)),xo 22 (qm (tm 7)),xo 23 (qc 24 [tm 22] [[some .int]]),xo 24 (.mkV 39 (.slice .int) 1 [tm 23]),xo 25 (.appV 39 (.slice .int) 24 (tm 21) (tm 24)),xo 26 (qf 2 (tm 5)),xn (qs (tm 26) (tm 25))] true [(1,3),(1,4)])))
 (rg [xo 27 (qb .add (tm 16) (ci 1)),xo 16 (qm (tm 27))]))))
def Jr:AC :=
 (.seq (rg [xo 3 (.i (.box 26 (tm 1))),xo 4 (.i (.alloc 26 [.int .i64 0,.int .i64 0,.nils]))])
 (.seq (rg [xo 8 (qf 0 (tm 3)),xo 9 (ql (tm 8)),xo 10 (qf 1 (tm 3)),xo 11 (ql (tm 10)),xo 12 (.build [.int .i64 0,.int .i64 0,.nils] [(0,1,tm 9),(1,1,tm 11)]),xo 5 (.i (.alloc 26 [.int .i64 0,.int .i64 0,.nils])),xn (.st false 3 (tm 5) (tm 12))])
 (.seq (.seq (rg [xo 13 (qf 2 (tm 3)),xo 14 (ql (tm 13)),xo 15 (.i (.len (tm 14))),xo 16 (qm (ci 0))])
 (.block 0 (.loop Hq)))
 (.seq (.block 2 (.loop Hp))
 (.seq (rg [xo 34 (.i (.ld false 3 (tm 5))),xn (.st false 3 (tm 4) (tm 34))])
 .ret)))))
def Qe:List Res:=[.cell 4 false 3]
theorem Ql:Ap Tryd.prog Tryd.f16=some (Jr,Qe):=by kernel_rfl
theorem Pp:Az Tryd.prog 16=true:=by kernel_rfl
def C1 (a1_2:List (List Int)) (l6_m16:Nat) (l6_m5_2:List (List Int)):Option (Ctl (Nat×List (List Int)) (List (List Int))) :=
 cond (decide (((l6_m16:Nat):Int)<((a1_2.length:Nat):Int)))
 (Option.bind (a1_2[l6_m16]?) fun x12 =>
 Option.bind (Et x12) fun y13 =>
 og (l6_m5_2.length+1<=1073741824∧(l6_m5_2.length+1)*24<=140737488355328) <|
 og (l6_m16+1<4611686018427387904) <|
 some (Ctl.next (l6_m16+1,l6_m5_2++[y13])))
 (some (Ctl.out l6_m5_2))
def C4 (a0:Int) (a1_0:Int) (l17_m5_1:Int) (l17_m5_2:List (List Int)):Option (Ctl (Int×List (List Int)) (Int×List (List Int))) :=
 cond (decide (0<l17_m5_1))
 (Option.bind (Ez a0 a1_0 l17_m5_1 l17_m5_2) fun y21 =>
 some (Ctl.next (wI (l17_m5_1 - 1),y21)))
 (some (Ctl.out (l17_m5_1,l17_m5_2)))
def Fh (a0:Int) (a1_0:Int) (a1_1:Int) (a1_2:List (List Int)):Option (Int×List (List Int)) :=
 Option.bind (A6 (fun s_:Nat×List (List Int)=>C1 a1_2 s_.1 s_.2) 4611686018427387904 (0,([]:List (List Int)))) fun l4_m5_2 =>
Option.bind (A6 (fun s_:Int×List (List Int)=>C4 a0 a1_0 s_.1 s_.2) 4611686018427387904 (a1_1,l4_m5_2)) fun (l16_m5_1,l16_m5_2) =>
some (l16_m5_1,l16_m5_2)
theorem O6 {a0:Int} {a1_0:Int} {a1_1:Int} {a1_2:List (List Int)} {r:Int×List (List Int)} (h:Fh a0 a1_0 a1_1 a1_2=some r):Ea Tryd.prog Tab 16 [ai a0,.agg [ai a1_0,ai a1_1,.tree (.slice .int) a1_2]] [] (.agg [ai a1_0,ai r.1,.own (oi 1 1) (.slice .int) 0 r.2.length]) [(oi 0 1,.cells 26 [ai a1_0,ai r.1,.own (oi 1 1) (.slice .int) 0 r.2.length]),(oi 1 1,.mat 39 (oi 2 1) .int r.2),(oi 2 1,.pool 3 .int r.2)]:=by
 refine B6 (by kernel_rfl) Tryd.func16 Ql (n:=35) (by kernel_rfl) (by simp) (tl:=[(0,ai a0),(1,.agg [ai a1_0,ai a1_1,.tree (.slice .int) a1_2])]) rfl (by kernel_rfl) trivial ⟨trivial,⟨⟨3,.tail _ (.tail _ (.head _))⟩,⟨trivial,trivial⟩⟩⟩ ?_;unfold Jr;unfold Fh at h;refine Al ?_;refine Al ?_;refine Ba h (fun (l4_m5_2:List (List Int)) S_=>S_=⟨Am [(0,ai a0),(4,.box (oi 0 1) 0),(5,.box (oi 1 1) 0)],Ad (Ar [(oi 0 1,.cells 26 [ai 0,ai 0,.nils]),(oi 1 1,.cells 26 [ai a1_0,ai a1_1,.own (oi 2 1) (.slice .int) 0 l4_m5_2.length]),(oi 2 1,.mat 39 (oi 3 1) .int l4_m5_2),(oi 3 1,.pool 3 .int l4_m5_2)]),2⟩) ?_ ?_
 ·intro v_ h;refine Al ?_;refine Ak ?_;refine A5 h (fun t_ S_=>∃ (l6_m16:Nat),∃ (l6_m5_2:List (List Int)),t_=(l6_m16,l6_m5_2)∧S_=⟨Am [(0,ai a0),(4,.box (oi 0 1) 0),(5,.box (oi 1 1) 0),(14,.tree (.slice .int) a1_2),(15,ai ((a1_2.length:Nat):Int)),(16,ai ((l6_m16:Nat):Int))],Ad (Ar [(oi 0 1,.cells 26 [ai 0,ai 0,.nils]),(oi 1 1,.cells 26 [ai a1_0,ai a1_1,.own (oi 2 1) (.slice .int) 0 l6_m5_2.length]),(oi 2 1,.mat 39 (oi 3 1) .int l6_m5_2),(oi 3 1,.pool 3 .int l6_m5_2)]),2⟩) ⟨_,(E8 9000 (oi 5 8) 2 26 [ai a1_0,ai a1_1,.nils] [ai a1_0,ai a1_1,.own (oi 9000 14) (.slice .int) 0 0] 39 (.slice .int) (by kernel_rfl) (by kernel_rfl) (by kernel_rfl)).trans ((Iu (e1:=39) (n:=0) 9000 (oi 9000 14) 3 .int (by kernel_rfl) (by kernel_rfl) rfl (by kernel_rfl) (by kernel_rfl)).trans (Ac [(oi 0 1,oi 4 2),(oi 1 1,oi 5 8),(oi 2 1,oi 9000 14),(oi 3 1,oi 9000 15)])),⟨0,([]:List (List Int)),rfl,rfl⟩⟩ ?_;rintro n_ _ _ c_ ⟨l6_m16,l6_m5_2,rfl,rfl⟩ h hn6
  (try dsimp only at h);unfold C1 at h;unfold Hq;refine Al ?_;refine Ab ?_;rcases Ae h with ⟨q9,h⟩ | ⟨q9,h⟩
  ·have q9_:=of_decide_eq_true q9;refine Ag q9 ?_;refine Aj (tn_ ?_);refine wr_ ?_;refine Ab ?_;refine Ak ?_;refine Ab ?_;obtain ⟨x12,e12,h⟩:=Af h;refine Aa 6 ?_;refine rs0 (.telt none (.slice .int) x12 0) (zi (t:=.slice .int) (xs:=a1_2) (k:=.i64) (m:=((l6_m16:Nat):Int)) (Bi _) e12) ?_;refine rsB 2 ?_;refine Ay (tn_ ?_);refine wr_ ?_;obtain ⟨y13,h13,h⟩:=Af h;obtain ⟨g14,h⟩:=Ax h;refine Bc 14 ?_;refine dz0 (.box (oi 1 1) 2) ?_;refine dzl (.own (oi 2 1) (.slice .int) 0 l6_m5_2.length) ?_;refine dz0 (.tree .int x12) ?_;refine Ev (.own (oi 368 9) .int 0 y13.length) [(oi 368 9,some (.arr 3 .int y13))] [.tree .int x12] _ (caps:=[]) (args0:=[.tree .int x12]) trivial (by kernel_rfl) (K9 h13) Ti ?_;refine Af3 (.own (oi 24 10) (.slice .int) 0 1) (oi 24 10) (.vec 39 1 1 ([.own (oi 368 9) .int 0 y13.length])) trivial (Ac4 (by kernel_rfl)) ?_;refine ds2 (.own (oi 2 11) (.slice .int) 0 (l6_m5_2.length+1)) (oi 2 1) (oi 2 11) (.vec 39 1 (l6_m5_2.length+1) (hdL (oi 3 1) .int l6_m5_2++[.own (oi 368 9) .int 0 y13.length])) (Uj (u:=.int) (t':=.slice .int) (t2:=.slice .int) (o:=oi 2 1) (q:=oi 24 10) (e2:=39) (p:=oi 3 1) (xss:=l6_m5_2) (cs:=[.own (oi 368 9) .int 0 y13.length]) (len:=l6_m5_2.length) (by kernel_rfl) (by kernel_rfl) rfl (by kernel_rfl) (by kernel_rfl) rfl g14) ?_;refine dz0 (.box (oi 1 1) 2) ?_;refine Abb (oi 1 1) (oi 1 1) (.cells 26 [ai a1_0,ai a1_1,.own (oi 2 11) (.slice .int) 0 (l6_m5_2.length+1)]) (by kernel_rfl) ?_;refine Lo (B8 (by kernel_rfl)) (bn_ (tn_ ?_));refine ⟨_,N3 (e1:=39) (e:=3) (u:=.int) (n:=l6_m5_2.length+1) (len:=y13.length) (row:=y13) (ys:=y13) (xss:=l6_m5_2) 9000 (oi 2 11) (oi 3 1) (oi 368 9) (by kernel_rfl) (by kernel_rfl) rfl (by kernel_rfl) (by kernel_rfl) (Z8 rfl) (Z4 rfl) (by kernel_rfl) (by kernel_rfl) (by kernel_rfl),?_⟩;obtain ⟨g15,h⟩:=Ax h;refine Aa 17 ?_;refine rs0 (ai ((l6_m16+1:Nat):Int)) (za g15) ?_;refine rsB 1 ?_;refine Ay (tn_ ?_);obtain rfl:=zj h;exact ⟨(l6_m16+1,l6_m5_2++[y13]),_,(Mp (oi 1 1) (.cells 26 [ai a1_0,ai a1_1,.own (oi 2 11) (.slice .int) 0 (l6_m5_2.length+1)]) (.cells 26 [ai a1_0,ai a1_1,.own (oi 2 11) (.slice .int) 0 ((l6_m5_2++[y13]).length)]) (by kernel_rfl) (congrArg (fun z_=>(.cells 26 [ai a1_0,ai a1_1,.own (oi 2 11) (.slice .int) 0 z_]:Ob)) ((by simp):l6_m5_2.length+1=(l6_m5_2++[y13]).length))).trans (Ac [(oi 2 1,oi 2 11),(oi 3 1,oi 9000 14)]),⟨l6_m16+1,l6_m5_2++[y13],rfl,rfl⟩,hn6⟩
  have q9_:=of_decide_eq_false q9;refine Ah q9 ?_;refine A3 (te_ (te_ (be_ (tn_ ?_))));obtain rfl:=zj h;have h:=hn6
  (try dsimp only at h);obtain rfl:=zj h;exact ⟨_,Ac [],rfl⟩
 rintro l4_m5_2 _ rfl h
 (try dsimp only at h);refine Ba h (fun t_ S_=>∃ (l16_m5_1:Int),∃ (l16_m5_2:List (List Int)),t_=(l16_m5_1,l16_m5_2)∧S_=⟨Am [(4,.box (oi 0 1) 0),(5,.box (oi 1 1) 0)],Ad (Ar [(oi 0 1,.cells 26 [ai 0,ai 0,.nils]),(oi 1 1,.cells 26 [ai a1_0,ai l16_m5_1,.own (oi 2 1) (.slice .int) 0 l16_m5_2.length]),(oi 2 1,.mat 39 (oi 3 1) .int l16_m5_2),(oi 3 1,.pool 3 .int l16_m5_2)]),2⟩) ?_ ?_
 ·intro v_ h;refine Ak ?_;refine A5 h (fun t_ S_=>∃ (l17_m5_1:Int),∃ (l17_m5_2:List (List Int)),t_=(l17_m5_1,l17_m5_2)∧S_=⟨Am [(0,ai a0),(4,.box (oi 0 1) 0),(5,.box (oi 1 1) 0)],Ad (Ar [(oi 0 1,.cells 26 [ai 0,ai 0,.nils]),(oi 1 1,.cells 26 [ai a1_0,ai l17_m5_1,.own (oi 2 1) (.slice .int) 0 l17_m5_2.length]),(oi 2 1,.mat 39 (oi 3 1) .int l17_m5_2),(oi 3 1,.pool 3 .int l17_m5_2)]),2⟩) ⟨_,Ac [],⟨a1_1,l4_m5_2,rfl,rfl⟩⟩ ?_;rintro n_ _ _ c_ ⟨l17_m5_1,l17_m5_2,rfl,rfl⟩ h hn17
  (try dsimp only at h);unfold C4 at h;unfold Hp;refine Ab ?_;refine Al ?_;rcases Ae h with ⟨q20,h⟩ | ⟨q20,h⟩
  ·have q20_:=of_decide_eq_true q20;refine Ag q20 ?_;refine Aj (tn_ ?_);refine wr_ ?_;refine Ak ?_;obtain ⟨y21,h21,h⟩:=Af h;refine Aa 9 ?_;refine rz0 (ai a0) ?_;refine rzl (.agg [ai a1_0,ai l17_m5_1,.own (oi 2 1) (.slice .int) 0 l17_m5_2.length]) ?_;refine D7 (.agg [ai a1_0,ai (wI (l17_m5_1 - 1)),.own (oi 529 7) (.slice .int) 0 y21.length]) [(oi 528 7,some (.cells 26 [ai a1_0,ai (wI (l17_m5_1 - 1)),.own (oi 529 7) (.slice .int) 0 y21.length])),(oi 529 7,some (.mat 39 (oi 530 7) .int y21)),(oi 530 7,some (.pool 3 .int y21))] [] [ai a0,.agg [ai a1_0,ai l17_m5_1,.own (oi 2 1) (.slice .int) 0 l17_m5_2.length]] (caps:=[]) trivial (Rl h21) Rf trivial (.cons (.ren (by kernel_rfl)) (.cons (.agg (.cons (.ren (by kernel_rfl)) (.cons (.ren (by kernel_rfl)) (.cons (.gnd (by kernel_rfl) (Ct (p:=oi 3 1) (e1:=39) (e:=3) (u:=.int) (xss:=l17_m5_2) ((Hm (by kernel_rfl) (by kernel_rfl) (by kernel_rfl)).trans (by kernel_rfl)) (H2 (by kernel_rfl) (by kernel_rfl) (Bb (by kernel_rfl)) (by kernel_rfl)) rfl)) .nil)))) .nil)) (A8 (by kernel_rfl) (by kernel_rfl) trivial) ?_;refine rsB 1 ?_;refine Ay (bn_ (tn_ ?_));obtain rfl:=zj h;exact ⟨(wI (l17_m5_1 - 1),y21),_,Ac [(oi 2 1,oi 529 7),(oi 3 1,oi 530 7)],⟨wI (l17_m5_1 - 1),y21,rfl,rfl⟩,hn17⟩
  have q20_:=of_decide_eq_false q20;refine Ah q20 ?_;refine A3 (te_ (te_ (be_ (tn_ ?_))));obtain rfl:=zj h;have h:=hn17
  (try dsimp only at h);obtain rfl:=zj h;exact ⟨_,Ac [],⟨l17_m5_1,l17_m5_2,rfl,rfl⟩⟩
 rintro _ _ ⟨l16_m5_1,l16_m5_2,rfl,rfl⟩ h
 (try dsimp only at h);refine Al ?_;refine Ai ?_;obtain rfl:=zj h;exact Gg [.agg [ai a1_0,ai l16_m5_1,.own (oi 1 1) (.slice .int) 0 l16_m5_2.length]] (Ac (tl:=[(4,.box (oi 0 1) 0)]) (g:=2) [(oi 1 1,oi 2 1),(oi 2 1,oi 3 1)])
def F9:AC :=
 (.seq (rg [xo 3 (.i (.box 26 (tm 1))),xo 4 (.i (.alloc 26 [.int .i64 0,.int .i64 0,.nils])),xo 5 (qm (cb false))])
 (.seq (.seq (rg [xo 6 (qm (tm 0)),xo 7 (.i (.ld false 3 (tm 3))),xo 8 (qc 15 [tm 6,tm 7] [[],[none,none,some (.slice .int)]]),xo 9 (.i (.not (tm 8)))])
 (.cond (tm 9)
  (.seq (rg [xo 10 (.build [.int .i64 0,.int .i64 0,.nils] []),xn (.st false 3 (tm 4) (tm 10)),xo 5 (qm (cb false))])
  .ret)
  .skip))
 (.seq (rg [xo 11 (qm (tm 0)),xo 12 (.i (.ld false 3 (tm 3))),xo 13 (qc 16 [tm 11,tm 12] [[],[none,none,some (.slice .int)]]),xn (.st false 3 (tm 4) (tm 13)),xo 5 (qm (cb true))])
 .ret)))
def Kt:List Res:=[.cell 4 false 3,.tmp 5]
theorem Ku:Ap Tryd.prog Tryd.f6=some (F9,Kt):=by kernel_rfl
theorem Jp:Az Tryd.prog 6=true:=by kernel_rfl
def Cd (a0:Int) (a1_0:Int) (a1_1:Int) (a1_2:List (List Int)):Option (Bool×Int×Int×List (List Int)) :=
 Option.bind (E5 a0 a1_0 a1_1 a1_2) fun y5 =>
cond (!y5)
 (some (false,0,0,([]:List (List Int))))
 (Option.bind (Fh a0 a1_0 a1_1 a1_2) fun y9 =>
 some (true,a1_0,y9.1,y9.2))
theorem Jo {a0:Int} {a1_0:Int} {a1_1:Int} {a1_2:List (List Int)} {r:Bool×Int×Int×List (List Int)} (h:Cd a0 a1_0 a1_1 a1_2=some r):Ea Tryd.prog Tab 6 [ai a0,.agg [ai a1_0,ai a1_1,.tree (.slice .int) a1_2]] [] (.tup [.agg [ai r.2.1,ai r.2.2.1,.own (oi 1 1) (.slice .int) 0 r.2.2.2.length],.bool r.1]) [(oi 0 1,.cells 26 [ai r.2.1,ai r.2.2.1,.own (oi 1 1) (.slice .int) 0 r.2.2.2.length]),(oi 1 1,.mat 39 (oi 2 1) .int r.2.2.2),(oi 2 1,.pool 3 .int r.2.2.2)]:=by
 refine B6 (by kernel_rfl) Tryd.func6 Ku (n:=14) (by kernel_rfl) (by simp) (tl:=[(0,ai a0),(1,.agg [ai a1_0,ai a1_1,.tree (.slice .int) a1_2])]) rfl (by kernel_rfl) trivial ⟨trivial,⟨⟨3,.tail _ (.tail _ (.head _))⟩,⟨trivial,trivial⟩⟩⟩ ?_;unfold F9;unfold Cd at h;refine Al ?_;refine Ab ?_;refine Ab ?_;obtain ⟨y5,h5,h⟩:=Af h;refine Aa 8 ?_;refine rz0 (ai a0) ?_;refine rzl (.agg [ai a1_0,ai a1_1,.tree (.slice .int) a1_2]) ?_;refine zc (.bool y5) [] [ai a0,.agg [ai a1_0,ai a1_1,.tree (.slice .int) a1_2]] (Q7 h5) ?_;refine rsB 1 ?_;refine Ay (tn_ ?_);refine wr_ ?_;rcases Ae h with ⟨q6,h⟩ | ⟨q6,h⟩
 ·refine Ag q6 ?_;refine Al ?_;refine Ai (tr_ ?_);obtain rfl:=zj h;exact Gg [.agg [ai 0,ai 0,.own (oi 1 1) (.slice .int) 0 ((([]:List (List Int))).length)],.bool false] ((E8 9000 (oi 4 2) 2 26 [ai 0,ai 0,.nils] [ai 0,ai 0,.own (oi 9000 11) (.slice .int) 0 0] 39 (.slice .int) (by kernel_rfl) (by kernel_rfl) (by kernel_rfl)).trans ((Iu (e1:=39) (n:=0) 9000 (oi 9000 11) 3 .int (by kernel_rfl) (by kernel_rfl) rfl (by kernel_rfl) (by kernel_rfl)).trans (Ac (tl:=[(4,.box (oi 0 1) 0),(5,.bool false)]) (g:=2) [(oi 0 1,oi 4 2),(oi 1 1,oi 9000 11),(oi 2 1,oi 9000 12)])))
 refine Ah q6 ?_;refine Aj (tn_ ?_);refine wr_ ?_;refine Ab ?_;obtain ⟨y9,h9,h⟩:=Af h;refine Aa 13 ?_;refine rz0 (ai a0) ?_;refine rzl (.agg [ai a1_0,ai a1_1,.tree (.slice .int) a1_2]) ?_;refine D7 (.agg [ai a1_0,ai y9.1,.own (oi 209 10) (.slice .int) 0 y9.2.length]) [(oi 208 10,some (.cells 26 [ai a1_0,ai y9.1,.own (oi 209 10) (.slice .int) 0 y9.2.length])),(oi 209 10,some (.mat 39 (oi 210 10) .int y9.2)),(oi 210 10,some (.pool 3 .int y9.2))] [] [ai a0,.agg [ai a1_0,ai a1_1,.tree (.slice .int) a1_2]] (caps:=[]) trivial (O6 h9) Pp trivial (.cons (.ren (by kernel_rfl)) (.cons (.ren (by kernel_rfl)) .nil)) (A8 (by kernel_rfl) (by kernel_rfl) trivial) ?_;refine rsB 2 ?_;refine Ay (tn_ ?_);refine wr_ ?_;refine Ai ?_;obtain rfl:=zj h;exact Gg [.agg [ai a1_0,ai y9.1,.own (oi 1 1) (.slice .int) 0 y9.2.length],.bool true] (Ac (tl:=[(4,.box (oi 0 1) 0),(5,.bool true)]) (g:=2) [(oi 0 1,oi 4 2),(oi 1 1,oi 209 10),(oi 2 1,oi 210 10)])
end Go.Proofs.YtehocbbnjfmgaaaDoor
namespace Go.Proofs.YtehocbbnjfmgaaaDoor
open Go.RowKit Go.Deep

/-- The rows under a name, and which of them are gone. -/
def La:List (Oid×Option Ob)->Oid->List Oid->Option (Ob×List Oid)
  | [],_,_=>none
  | (j,o) :: r,p,L=>match o with
    | some (.pool e u xss)=>if p.1.1=j.1.1∧p.2=j.2 then some (.pool e u xss,L) else La r p L
    | none=>if p.1.1=j.1.1∧p.2=j.2∧j.1.2≠0 then La r p (j :: L) else La r p L
    | some _=>if p.1.1=j.1.1∧p.2=j.2∧j.1.2≠0 then none else La r p L
theorem Ig {e:TypeId} {u:Ty} {xss:List (List u.D)} {p:Oid} {L':List Oid}:∀ {ol:List (Oid×Option Ob)} {L:List Oid},La ol p L=some (.pool e u xss,L')->(∀ x∈L,x∈L')∧∀ k,kid p k∉L'->Eu ol (kid p k)=(xss[k]?).map (.arr e u)
  | [],_,h=>by cases h
  | (j,o) :: r,L,h=>by
    have hk:∀ k,¬ (p.1.1=j.1.1∧p.2=j.2∧j.1.2≠0)->kid p k≠j:=fun k hn ej=>hn (by subst ej; exact ⟨rfl,rfl,by simp [kid]⟩)
    cases o with
    | none =>
      simp only [La] at h;split at h
      · obtain ⟨i1,i2⟩:=Ig h;refine ⟨fun x hx=>i1 x (List.mem_cons_of_mem _ hx),fun k hkn=>?_⟩;simp only [Eu];rw [if_neg (fun e=>hkn (by rw [e]; exact i1 _ List.mem_cons_self))];exact i2 k hkn
      · rename_i hn;obtain ⟨i1,i2⟩:=Ig h;refine ⟨i1,fun k hkn=>?_⟩;simp only [Eu];rw [if_neg (hk k hn)];exact i2 k hkn
    | some o =>
      cases o with
      | pool e' u' xss' =>
        simp only [La] at h;split at h
        · rename_i hc;obtain ⟨h1,rfl⟩:=Prod.mk.inj (osj h);obtain ⟨rfl,rfl,he⟩:=Ob.pool.inj h1;obtain rfl:=eq_of_heq he;refine ⟨fun _ hx=>hx,fun k _=>?_⟩;simp only [Eu];rw [if_pos ⟨by simpa [kid] using hc.1,by simpa [kid] using hc.2,by simp [kid]⟩];simp [kid]
        · rename_i hc;obtain ⟨i1,i2⟩:=Ig h;refine ⟨i1,fun k hkn=>?_⟩;simp only [Eu];rw [if_neg (fun h'=>hc ⟨h'.1,h'.2.1⟩)];exact i2 k hkn
      | _ =>
        simp only [La] at h;split at h
        · cases h
        · rename_i hn;obtain ⟨i1,i2⟩:=Ig h;refine ⟨i1,fun k hkn=>?_⟩;simp only [Eu];rw [if_neg (hk k hn)];exact i2 k hkn
theorem Ac3 {e:TypeId} {u:Ty} {xss:List (List u.D)} {p:Oid} {L:List Oid} {ol:List (Oid×Option Ob)} (h:La ol p []=some (.pool e u xss,L)) {k:Nat} {row:List u.D} (hk:kid p k∉L) (hx:xss[k]? =some row):Ad ol (kid p k)=some (.arr e u row):=by
  rw [F5,(Ig h).2 k hk,hx]; rfl
/-- A row has been cut: what it became stands under a name of its own. -/
theorem X2 {tl:List (Nat×AV)} {ol:List (Oid×Option Ob)} {g:Nat} (s:Nat) (o p q:Oid) {e1 e:TypeId} {u:Ty} {xss:List (List u.D)} {j n len:Nat} {row ys:List u.D} (hfl:u.flat=true) (ho:Ad ol o=some (.vec e1 1 n ((hdL p u xss).set j (.own q u 0 len)))) (hn:n=xss.length) (hp:La ol p []=some (.pool e u xss,[kid p j])) (hq:Eu ol q=some (.arr e u ys)) (hl:len<=ys.length) (hr:row=ys.take len)
    (hqp:(q.1.1==p.1.1&&q.2==p.2&&q.1.2 !=0)=false) (hog:(o.2==g)=false) (hfr:Jv g ((q,none) :: (p,some (.pool e u [])) :: ol)=true) :
    Weak ⟨Am tl,Ad ol,g⟩ ⟨Am tl,Ad ((o,some (.mat e1 ((s,0),g) u (xss.set j row))) :: (((s,0),g),some (.pool e u (xss.set j row))) :: (q,none) :: (p,some (.pool e u [])) :: ol),g+1⟩:=by
  obtain ⟨r1,r2,r3⟩:=Rj hl hr;have hqk:∀ k,q≠kid p k:=fun k e=>by rw [e] at hqp; simp [kid] at hqp
  have hq':Ad ol q=some (.arr e u ys):=by rw [F5,hq]; rfl
  refine Iv s o (fun k=>if k=j then q else kid p k) [(q,none),(p,some (.pool e u []))] hfl ho (by rw [List.length_set]; exact hn) (fun k row' hk=>?_) (fun a b ha hb hab=>?_) hog hfr (fun i _=>?_)
  · rw [List.getElem?_set] at hk ⊢;by_cases h:j=k
    · subst h;rw [if_pos rfl] at hk ⊢;split at hk
      · rename_i hlt;obtain rfl:=osj hk;rw [Ek,if_pos hlt,if_pos rfl,r1];exact ⟨rfl,ys,hq',hl,hr⟩
      · cases hk
    · rw [if_neg h] at hk ⊢;rw [Cz,hk,if_neg (fun e=>h e.symm)];exact ⟨rfl,row',Ac3 hp (fun hm=>h (D4 (List.mem_singleton.1 hm)).symm) hk,Nat.le_refl _,(List.take_length).symm⟩
  · by_cases h1:a=j <;> by_cases h2:b=j
    · rw [h1,h2]
    · rw [if_pos h1,if_neg h2] at hab; exact absurd hab (hqk b)
    · rw [if_neg h1,if_pos h2] at hab; exact absurd hab.symm (hqk a)
    · rw [if_neg h1,if_neg h2] at hab; exact D4 hab
  · simp only [List.cons_append,List.nil_append,Ij];by_cases h1:i=q
    · rw [if_pos h1]; exact .inl rfl
    · rw [if_neg h1,Kj];split
      · exact .inl rfl
      · rename_i h2;refine .inr ⟨rfl,fun k _=>?_⟩;split
        · exact h1
        · intro e;exact h2 (by rw [e]; exact ⟨rfl,rfl,by simp [kid]⟩)
end Go.Proofs.YtehocbbnjfmgaaaDoor

namespace Go.Proofs.YtehocbbnjfmgaaaDoor
open Go.RowKit Go.Deep
set_option maxRecDepth 4000
def Fn:AC :=
 (.seq (rg [xo 3 (qm (cb false))])
 (.seq (rg [xo 4 (qm (tm 0)),xo 5 (ql (tm 1)),xo 6 (qx 1 (tm 4) (tm 5)),xo 7 (ql (tm 6)),xo 8 (qb .neq (tm 7) (ci 0)),xo 3 (qm (tm 8))])
 .ret))
def I4:List Res:=[.tmp 3]
theorem I0:Ap Tryd.prog Tryd.f43=some (Fn,I4):=by kernel_rfl
theorem Ih:Az Tryd.prog 43=true:=by kernel_rfl
def Bn (a0:List Int) (c0_0:Int):Option Bool :=
 Option.bind (L0 a0 c0_0) fun x3 =>
some (x3 !=0)
def H7 (r:Bool):RV:=⟨false,[(false,[.sc (.bool r)])]⟩
theorem Iq {a0:List Int} {c0_0:Int} {r:Bool} (h:Bn a0 c0_0=some r):A9 Tryd.prog Tab 43 [.tree .int a0,.ref [ai c0_0]] (H7 r):=by
 refine A0 (by kernel_rfl) Tryd.func43 I0 (n:=9) (by kernel_rfl) (by simp) (tl:=[(0,.tree .int a0),(1,.ref [ai c0_0])]) rfl ?_;unfold Fn;unfold Bn at h;refine Al ?_;refine Ab ?_;obtain ⟨x3,f3,h⟩:=Af h;obtain ⟨p3,b3,e3⟩:=Cv f3;refine Aa 8 ?_;refine rz0 (.tree .int a0) ?_;refine rz0 (ai c0_0) ?_;refine rs0 (.telt none .int x3 0) (zi (t:=.int) (xs:=a0) (k:=.i64) (m:=c0_0) p3 e3) ?_;refine rsB 3 ?_;refine Ay (tn_ ?_);refine wr_ ?_;refine Ai ?_;obtain rfl:=zj h;exact Bh [.bool (x3 !=0)] (A1 rfl zl A2)
def Dj:AC :=
 (.seq (rg [xo 9 (qb .lss (tm 8) (tm 7))])
 (.seq (.cond (tm 9)
  .skip
  (.exit 0))
 (.seq (.block 1 (.seq (rg [xo 10 (qm (tm 8)),xo 5 (qm (tm 10))])
 (.seq (rg [xo 11 (qm (tm 1)),xo 12 (qm (tm 0)),xo 13 (qm (tm 5)),xo 14 (qx 1 (tm 12) (tm 13)),xo 15 (ql (tm 14)),xo 16 (.call (tm 11) [tm 15] [[some .int]])])
 (.cond (tm 16)
  (.seq (rg [xo 17 (qm (tm 5)),xo 4 (qm (tm 17))])
  .ret)
  .skip))))
 (rg [xo 18 (qb .add (tm 8) (ci 1)),xo 8 (qm (tm 18))]))))
def D8:AC :=
 (.seq (rg [xo 4 (qm (ci 0))])
 (.seq (.seq (rg [xo 6 (qm (tm 0)),xo 7 (.i (.len (tm 6))),xo 8 (qm (ci 0))])
 (.block 0 (.loop Dj)))
 (.seq (rg [xo 4 (qm (ci (-1)))])
 .ret)))
def Hb:List Res:=[.tmp 4]
theorem Hk:Ap Tryd.prog Tryd.f42=some (D8,Hb):=by kernel_rfl
theorem Gj:Az Tryd.prog 42=true:=by kernel_rfl
def Aq (a0:List (List Int)) (a1_0_0:Int) (l4_m8:Nat):Option (Ctl Nat (Ctl Unit Int)) :=
 cond (decide (((l4_m8:Nat):Int)<((a0.length:Nat):Int)))
 (Option.bind (a0[l4_m8]?) fun x11 =>
 Option.bind (Bn x11 a1_0_0) fun y12 =>
 cond y12
  (some (Ctl.out (Ctl.out ((l4_m8:Nat):Int))))
  (og (l4_m8+1<4611686018427387904) <|
  some (Ctl.next (l4_m8+1))))
 (some (Ctl.out (Ctl.next ())))
def At (a0:List (List Int)) (a1_0_0:Int):Option Int :=
 Lg (A6 (fun s_:Nat=>Aq a0 a1_0_0 s_) 4611686018427387904 0) fun _ =>
some (-1)
def Ce (r:Int):RV:=⟨false,[(false,[.sc (.int .i64 r)])]⟩
theorem Cf {a0:List (List Int)} {a1_0_0:Int} {r:Int} (h:At a0 a1_0_0=some r):A9 Tryd.prog Tab 42 [.tree (.slice .int) a0,.fn 43 [.ref [ai a1_0_0]]] (Ce r):=by
 refine A0 (by kernel_rfl) Tryd.func42 Hk (n:=19) (by kernel_rfl) (by simp) (tl:=[(0,.tree (.slice .int) a0),(1,.fn 43 [.ref [ai a1_0_0]])]) rfl ?_;unfold D8;unfold At at h;refine Al ?_;refine Du h (fun (_:Unit) S_=>S_=⟨Am [],Ad (Ar []),2⟩) ?_ ?_
 ·intro v_ h hk2;refine Al ?_;refine Ak ?_;refine A5 h (fun (l4_m8:Nat) S_=>S_=⟨Am [(0,.tree (.slice .int) a0),(1,.fn 43 [.ref [ai a1_0_0]]),(7,ai ((a0.length:Nat):Int)),(8,ai ((l4_m8:Nat):Int))],Ad (Ar []),2⟩) ⟨_,Ac [],rfl⟩ ?_;rintro n_ l4_m8 _ c_ rfl h hn4
  (try dsimp only at h);unfold Aq at h;unfold Dj;refine Al ?_;refine Ab ?_;rcases Ae h with ⟨q7,h⟩ | ⟨q7,h⟩
  ·have q7_:=of_decide_eq_true q7;refine Ag q7 ?_;refine Aj (tn_ ?_);refine wr_ ?_;refine Ab ?_;refine Ak ?_;refine Al ?_;refine Ab ?_;obtain ⟨x11,e11,h⟩:=Af h;obtain ⟨y12,h12,h⟩:=Af h;refine Aa 11 ?_;refine rz0 (.fn 43 [.ref [ai a1_0_0]]) ?_;refine rz0 (.tree (.slice .int) a0) ?_;refine rz0 (ai ((l4_m8:Nat):Int)) ?_;refine rs0 (.telt none (.slice .int) x11 0) (zi (t:=.slice .int) (xs:=a0) (k:=.i64) (m:=((l4_m8:Nat):Int)) (Bi _) e11) ?_;refine rz0 (.tree .int x11) ?_;refine Fe (.bool y12) [] [.tree .int x11,.ref [ai a1_0_0]] _ (caps:=[.ref [ai a1_0_0]]) (args0:=[.tree .int x11,.ref [ai a1_0_0]]) trivial (by kernel_rfl) (Iq h12) Ih ?_;refine Ay (tn_ ?_);refine wr_ ?_;rcases Ae h with ⟨q13,h⟩ | ⟨q13,h⟩
   ·refine Ag q13 ?_;refine Al ?_;refine Ai (br_ (tr_ (tr_ (br_ (tr_ ?_)))));obtain rfl:=zj h;have h:=hn4
    (try dsimp only at h);obtain rfl:=zj h;have h:=hk2
    (try dsimp only at h);obtain rfl:=zj h;exact Bh [ai ((l4_m8:Nat):Int)] (A1 rfl zl A2)
   refine Ah q13 ?_;refine Aj (bn_ (tn_ ?_));refine wr_ ?_;obtain ⟨g15,h⟩:=Ax h;refine Aa 13 ?_;refine rs0 (ai ((l4_m8+1:Nat):Int)) (za g15) ?_;refine rsB 1 ?_;refine Ay (tn_ ?_);obtain rfl:=zj h;exact ⟨l4_m8+1,_,Ac [],rfl,hn4⟩
  have q7_:=of_decide_eq_false q7;refine Ah q7 ?_;refine A3 (te_ (te_ (be_ (tn_ ?_))));obtain rfl:=zj h;have h:=hn4
  (try dsimp only at h);obtain rfl:=zj h;exact ⟨(),_,rfl,Ac [],rfl⟩
 rintro _ _ rfl h
 (try dsimp only at h);refine Al ?_;refine Ai ?_;obtain rfl:=zj h;exact Bh [ai (-1)] (A1 rfl zl A2)
def Ff:AC :=
 (.seq (rg [xo 66 (qb .lss (tm 65) (tm 64))])
 (.seq (.cond (tm 66)
  .skip
  (.exit 2))
 (.seq (.block 3 (.seq (rg [xo 67 (qm (tm 65)),xo 9 (qm (tm 67))])
 (.region [xo 68 (qm (tm 6)),xo 69 (qm (tm 9)),xo 70 (qm (tm 6)),xo 71 (qm (tm 9)),xo 72 (qx 1 (tm 70) (tm 71)),xo 73 (ql (tm 72)),xo 74 (ql (tm 5)),xo 75 (ql (tm 5)),xo 76 (.slice 1 (tm 73) none (some (tm 74)) (some (tm 75))),xo 77 (qx 1 (tm 68) (tm 69)),xn (qs (tm 77) (tm 76))] true [])))
 (rg [xo 78 (qb .add (tm 65) (ci 1)),xo 65 (qm (tm 78))]))))
def Fd:AC :=
 (.seq (rg [xo 24 (qb .lss (tm 23) (tm 22))])
  (.seq (.cond (tm 24)
   .skip
   (.exit 0))
  (.seq (.block 1 (.seq (rg [xo 25 (qm (tm 23)),xo 8 (qm (tm 25))])
  (.seq (rg [xo 26 (qm (tm 8)),xo 27 (qm (tm 7)),xo 28 (qb .neq (tm 26) (tm 27))])
  (.cond (tm 28)
   (.region [xo 29 (qm (tm 0)),xo 30 (qm (tm 6)),xo 31 (qm (tm 8)),xo 32 (qx 1 (tm 30) (tm 31)),xo 33 (ql (tm 32)),xo 34 (qm (tm 6)),xo 35 (qm (tm 8)),xo 36 (qx 1 (tm 34) (tm 35)),xo 37 (ql (tm 36)),xo 38 (ql (tm 5)),xo 39 (qx 1 (tm 37) (tm 38)),xo 40 (ql (tm 39)),xo 41 (.i (.neg (tm 40))),xo 42 (qm (tm 0)),xo 43 (qm (tm 6)),xo 44 (qm (tm 7)),xo 45 (qx 1 (tm 43) (tm 44)),xo 46 (ql (tm 45)),xo 47 (ql (tm 5)),xo 48 (qx 1 (tm 46) (tm 47)),xo 49 (ql (tm 48)),xo 50 (qc 45 [tm 42,tm 49] [[],[]]),xo 51 (qb .mul (tm 41) (tm 50)),xo 52 (qm (tm 6)),xo 53 (qm (tm 7)),xo 54 (qx 1 (tm 52) (tm 53)),xo 55 (ql (tm 54)),xo 56 (qc 44 [tm 29,tm 33,tm 51,tm 55] [[],[some .int],[],[some .int]])] true [(4,21),(8,21),(9,21),(11,21),(21,26)])
   .skip))))
  (rg [xo 57 (qb .add (tm 23) (ci 1)),xo 23 (qm (tm 57))]))))
def F6:AC :=
 (.seq (rg [xo 3 (.i (.box 26 (tm 1))),xo 4 (.i (.alloc 26 [.int .i64 0,.int .i64 0,.nils]))])
 (.seq (rg [xo 10 (.i (.ld false 3 (tm 3))),xo 11 (qc 32 [tm 10] [[none,none,some (.slice .int)]]),xo 12 (qb .sub (tm 11) (ci 1)),xo 5 (.i (.alloc 3 [.int .i64 0])),xn (qs (tm 5) (tm 12))])
 (.seq (rg [xo 13 (qf 2 (tm 3)),xo 14 (ql (tm 13)),xo 15 (qc 29 [tm 14] [[some (.slice .int)]]),xo 6 (qm (tm 15))])
 (.seq (rg [xo 16 (qm (tm 6)),xo 17 (.i (.mkfn 43 [tm 5])),xo 18 (qc 42 [tm 16,tm 17] [[some (.slice .int)],[]]),xo 7 (qm (tm 18))])
 (.seq (.seq (rg [xo 19 (qm (tm 7)),xo 20 (qb .geq (tm 19) (ci 0))])
 (.cond (tm 20)
  (.seq (.seq (rg [xo 21 (qm (tm 6)),xo 22 (.i (.len (tm 21))),xo 23 (qm (ci 0))])
  (.block 0 (.loop Fd)))
  (rg [xo 58 (qm (tm 6)),xo 59 (qm (tm 7)),xo 60 (qm (tm 7)),xo 61 (qb .add (tm 60) (ci 1)),xo 62 (qc 28 [tm 58,tm 59,tm 61] [[some (.slice .int)],[],[]]),xo 6 (qm (tm 62))]))
  .skip))
 (.seq (.seq (rg [xo 63 (qm (tm 6)),xo 64 (.i (.len (tm 63))),xo 65 (qm (ci 0))])
 (.block 2 (.loop Ff)))
 (.seq (rg [xo 79 (qf 0 (tm 3)),xo 80 (ql (tm 79)),xo 81 (qf 1 (tm 3)),xo 82 (ql (tm 81)),xo 83 (qb .sub (tm 82) (ci 1)),xo 84 (qm (tm 6)),xo 85 (.build [.int .i64 0,.int .i64 0,.nils] [(0,1,tm 80),(1,1,tm 83),(2,1,tm 84)]),xn (.st false 3 (tm 4) (tm 85))])
 .ret)))))))
def Ka:List Res:=[.cell 4 false 3]
theorem J8:Ap Tryd.prog Tryd.f20=some (F6,Ka):=by kernel_rfl
theorem Jl:Az Tryd.prog 20=true:=by kernel_rfl
def Bj (y6:List (List Int)) (y8:Int) (y4:Int) (a0:Int) (l14_m23:Nat) (l14_m6:List (List Int)):Option (Ctl (Nat×List (List Int)) (List (List Int))) :=
 cond (decide (((l14_m23:Nat):Int)<((y6.length:Nat):Int)))
 (Option.bind (cond (((l14_m23:Nat):Int) !=y8)
   (Option.bind (l14_m6[l14_m23]?) fun x22 =>
   Option.bind (L0 x22 (wI (y4 - 1))) fun x23 =>
   Option.bind (L0 x22 (wI (y4 - 1))) fun x24 =>
   Option.bind (L0 l14_m6 y8) fun x25 =>
   Option.bind (L0 x25 (wI (y4 - 1))) fun x26 =>
   Option.bind (L0 x25 (wI (y4 - 1))) fun x27 =>
   Option.bind (Eg a0 x27) fun y28 =>
   og (l14_m23≠y8.toNat) <|
   Option.bind (Cw a0 x22 (wI ((wI (0 - x24))*y28)) x25) fun y30 =>
   og (y30.length=x22.length) <|
   some (l14_m6.set l14_m23 y30))
   (some l14_m6)) fun l18_m6 =>
 og (l14_m23+1<4611686018427387904) <|
 some (Ctl.next (l14_m23+1,l18_m6)))
 (some (Ctl.out l14_m6))
def Bk (l9_m6:List (List Int)) (y4:Int) (l36_m65:Nat) (l36_m6:List (List Int)):Option (Ctl (Nat×List (List Int)) (List (List Int))) :=
 cond (decide (((l36_m65:Nat):Int)<((l9_m6.length:Nat):Int)))
 (Option.bind (l36_m6[l36_m65]?) fun x42 =>
 og ((0:Int)<=wI (y4 - 1)∧wI (y4 - 1)<=wI (y4 - 1)∧wI (y4 - 1)<=((x42.length:Nat):Int)) <|
 og (l36_m65+1<4611686018427387904) <|
 some (Ctl.next (l36_m65+1,l36_m6.set l36_m65 (x42.take ((wI (y4 - 1)).toNat)))))
 (some (Ctl.out l36_m6))
def B3 (a0:Int) (a1_0:Int) (a1_1:Int) (a1_2:List (List Int)):Option (List (List Int)) :=
 Option.bind (Bw a1_0 a1_1 a1_2) fun y4 =>
Option.bind (Dz a1_2) fun y6 =>
Option.bind (At y6 (wI (y4 - 1))) fun y8 =>
Option.bind (cond (decide (0<=y8))
  (Option.bind (A6 (fun s_:Nat×List (List Int)=>Bj y6 y8 y4 a0 s_.1 s_.2) 4611686018427387904 (0,y6)) fun l12_m6 =>
  Option.bind (Cu l12_m6 y8 (wI (y8+1))) fun y33 =>
  some y33)
  (some y6)) fun l9_m6 =>
Option.bind (A6 (fun s_:Nat×List (List Int)=>Bk l9_m6 y4 s_.1 s_.2) 4611686018427387904 (0,l9_m6)) fun l34_m6 =>
some l34_m6
theorem Jn {a0:Int} {a1_0:Int} {a1_1:Int} {a1_2:List (List Int)} {r:List (List Int)} (h:B3 a0 a1_0 a1_1 a1_2=some r):Ea Tryd.prog Tab 20 [ai a0,.agg [ai a1_0,ai a1_1,.tree (.slice .int) a1_2]] [] (.agg [ai a1_0,ai (wI (a1_1 - 1)),.own (oi 1 1) (.slice .int) 0 r.length]) [(oi 0 1,.cells 26 [ai a1_0,ai (wI (a1_1 - 1)),.own (oi 1 1) (.slice .int) 0 r.length]),(oi 1 1,.mat 39 (oi 2 1) .int r),(oi 2 1,.pool 3 .int r)]:=by
 refine B6 (by kernel_rfl) Tryd.func20 J8 (n:=86) (by kernel_rfl) (by simp) (tl:=[(0,ai a0),(1,.agg [ai a1_0,ai a1_1,.tree (.slice .int) a1_2])]) rfl (by kernel_rfl) trivial ⟨trivial,⟨⟨3,.tail _ (.tail _ (.head _))⟩,⟨trivial,trivial⟩⟩⟩ ?_;unfold F6;unfold B3 at h;refine Al ?_;refine Ab ?_;obtain ⟨y4,h4,h⟩:=Af h;refine Aa 8 ?_;refine rzl (.agg [ai a1_0,ai a1_1,.tree (.slice .int) a1_2]) ?_;refine zc (ai y4) [] [.agg [ai a1_0,ai a1_1,.tree (.slice .int) a1_2]] (Gf h4) ?_;refine rsB 3 ?_;refine Ay (tn_ ?_);refine wr_ ?_;refine Ab ?_;obtain ⟨y6,h6,h⟩:=Af h;refine Aa 12 ?_;refine rz0 (.box (oi 3 1) 2) ?_;refine rzl (.tree (.slice .int) a1_2) ?_;refine D7 (.own (oi 240 10) (.slice .int) 0 y6.length) [(oi 240 10,some (.mat 39 (oi 241 10) .int y6)),(oi 241 10,some (.pool 3 .int y6))] [] [.tree (.slice .int) a1_2] (caps:=[]) trivial (Jz h6) Jx trivial (.cons (.ren (by kernel_rfl)) .nil) (A8 (by kernel_rfl) (by kernel_rfl) trivial) ?_;refine rsB 1 ?_;refine Ay (tn_ ?_);refine wr_ ?_;refine Ab ?_;obtain ⟨y8,h8,h⟩:=Af h;refine Aa 16 ?_;refine rz0 (.own (oi 240 10) (.slice .int) 0 y6.length) ?_;refine rz0 (.fn 43 [.box (oi 5 6) 0]) ?_;refine Fe (ai y8) [] [.own (oi 240 10) (.slice .int) 0 y6.length,.fn 43 [.box (oi 5 6) 0]] _ (caps:=[]) (args0:=[.tree (.slice .int) y6,.fn 43 [.ref [ai (wI (y4 - 1))]]]) trivial (Ao (Ct (p:=oi 241 10) (e1:=39) (e:=3) (u:=.int) (xss:=y6) (by kernel_rfl) (Bb (by kernel_rfl)) rfl) (Ao (by kernel_rfl) B2)) (Cf h8) Gj ?_;refine rsB 1 ?_;refine Ay (tn_ ?_);refine wr_ ?_;refine Ba h (fun (l9_m6:List (List Int)) S_=>S_=⟨Am [(3,.box (oi 0 1) 0),(4,.box (oi 1 1) 0),(5,.box (oi 2 1) 0),(6,.own (oi 3 1) (.slice .int) 0 l9_m6.length)],Ad (Ar [(oi 0 1,.cells 26 [ai a1_0,ai a1_1,.tree (.slice .int) a1_2]),(oi 1 1,.cells 26 [ai 0,ai 0,.nils]),(oi 2 1,.cells 3 [ai (wI (y4 - 1))]),(oi 3 1,.mat 39 (oi 4 1) .int l9_m6),(oi 4 1,.pool 3 .int l9_m6)]),2⟩) ?_ ?_
 ·intro v_ h;refine Al ?_;rcases Ae h with ⟨q11,h⟩ | ⟨q11,h⟩
  ·have q11_:=of_decide_eq_true q11;refine Ag q11 ?_;refine Ba h (fun (l12_m6:List (List Int)) S_=>S_=⟨Am [(3,.box (oi 0 1) 0),(4,.box (oi 1 1) 0),(5,.box (oi 2 1) 0),(6,.own (oi 3 1) (.slice .int) 0 l12_m6.length),(7,ai y8)],Ad (Ar [(oi 0 1,.cells 26 [ai a1_0,ai a1_1,.tree (.slice .int) a1_2]),(oi 1 1,.cells 26 [ai 0,ai 0,.nils]),(oi 2 1,.cells 3 [ai (wI (y4 - 1))]),(oi 3 1,.mat 39 (oi 4 1) .int l12_m6),(oi 4 1,.pool 3 .int l12_m6)]),2⟩) ?_ ?_
   ·intro v_ h;refine Al ?_;refine Ak ?_;refine A5 h (fun t_ S_=>∃ (l14_m23:Nat),∃ (l14_m6:List (List Int)),t_=(l14_m23,l14_m6)∧S_=⟨Am [(0,ai a0),(3,.box (oi 0 1) 0),(4,.box (oi 1 1) 0),(5,.box (oi 2 1) 0),(6,.own (oi 3 1) (.slice .int) 0 l14_m6.length),(7,ai y8),(22,ai ((y6.length:Nat):Int)),(23,ai ((l14_m23:Nat):Int))],Ad (Ar [(oi 0 1,.cells 26 [ai a1_0,ai a1_1,.tree (.slice .int) a1_2]),(oi 1 1,.cells 26 [ai 0,ai 0,.nils]),(oi 2 1,.cells 3 [ai (wI (y4 - 1))]),(oi 3 1,.mat 39 (oi 4 1) .int l14_m6),(oi 4 1,.pool 3 .int l14_m6)]),2⟩) ⟨_,Ac [(oi 0 1,oi 3 1),(oi 1 1,oi 4 2),(oi 2 1,oi 5 6),(oi 3 1,oi 240 10),(oi 4 1,oi 241 10)],⟨0,y6,rfl,rfl⟩⟩ ?_;rintro n_ _ _ c_ ⟨l14_m23,l14_m6,rfl,rfl⟩ h hn14
    (try dsimp only at h);unfold Bj at h;unfold Fd;refine Al ?_;refine Ab ?_;rcases Ae h with ⟨q17,h⟩ | ⟨q17,h⟩
    ·have q17_:=of_decide_eq_true q17;refine Ag q17 ?_;refine Aj (tn_ ?_);refine wr_ ?_;refine Ba h (fun (l18_m6:List (List Int)) S_=>S_=⟨Am [(0,ai a0),(3,.box (oi 0 1) 0),(4,.box (oi 1 1) 0),(5,.box (oi 2 1) 0),(6,.own (oi 3 1) (.slice .int) 0 l18_m6.length),(7,ai y8),(22,ai ((y6.length:Nat):Int)),(23,ai ((l14_m23:Nat):Int))],Ad (Ar [(oi 0 1,.cells 26 [ai a1_0,ai a1_1,.tree (.slice .int) a1_2]),(oi 1 1,.cells 26 [ai 0,ai 0,.nils]),(oi 2 1,.cells 3 [ai (wI (y4 - 1))]),(oi 3 1,.mat 39 (oi 4 1) .int l18_m6),(oi 4 1,.pool 3 .int l18_m6)]),2⟩) ?_ ?_
     ·intro v_ h;refine Ak ?_;refine Al ?_;refine Al ?_;rcases Ae h with ⟨q21,h⟩ | ⟨q21,h⟩
      ·refine Ag q21 ?_;obtain ⟨x22,e22,h⟩:=Af h;obtain ⟨x23,f23,h⟩:=Af h;obtain ⟨p23,b23,e23⟩:=Cv f23;obtain ⟨x24,f24,h⟩:=Af h;obtain ⟨p24,b24,e24⟩:=Cv f24;obtain ⟨x25,f25,h⟩:=Af h;obtain ⟨p25,b25,e25⟩:=Cv f25;obtain ⟨x26,f26,h⟩:=Af h;obtain ⟨p26,b26,e26⟩:=Cv f26;obtain ⟨x27,f27,h⟩:=Af h;obtain ⟨p27,b27,e27⟩:=Cv f27;obtain ⟨y28,h28,h⟩:=Af h;obtain ⟨g29,h⟩:=Ax h;obtain ⟨y30,h30,h⟩:=Af h;obtain ⟨g31,h⟩:=Ax h;refine Bc 36 ?_;refine dz0 (ai a0) ?_;refine dz0 (.own (oi 3 1) (.slice .int) 0 l14_m6.length) ?_;refine dz0 (ai ((l14_m23:Nat):Int)) ?_;refine ds0 (.elt (oi 3 1) l14_m23 0) (zo (t:=.slice .int) (o:=oi 3 1) (len:=l14_m6.length) (k:=.i64) (m:=((l14_m23:Nat):Int)) (Bi _) (Be e22)) ?_;refine dsl (.own (kid (oi 4 1) l14_m23) .int 0 x22.length) (Tt (o:=oi 3 1) (p:=oi 4 1) (e1:=39) (u:=.int) (xss:=l14_m6) (row:=x22) (j:=l14_m23) (by kernel_rfl) (by kernel_rfl) e22) ?_;refine dz0 (.own (oi 3 1) (.slice .int) 0 l14_m6.length) ?_;refine dz0 (ai ((l14_m23:Nat):Int)) ?_;refine ds0 (.elt (oi 3 1) l14_m23 0) (zo (t:=.slice .int) (o:=oi 3 1) (len:=l14_m6.length) (k:=.i64) (m:=((l14_m23:Nat):Int)) (Bi _) (Be e22)) ?_;refine dsl (.own (kid (oi 4 1) l14_m23) .int 0 x22.length) (Tt (o:=oi 3 1) (p:=oi 4 1) (e1:=39) (u:=.int) (xss:=l14_m6) (row:=x22) (j:=l14_m23) (by kernel_rfl) (by kernel_rfl) e22) ?_;refine dzl (ai (wI (y4 - 1))) ?_;refine ds0 (.elt (kid (oi 4 1) l14_m23) ((wI (y4 - 1)).toNat) 0) (zo (t:=.int) (o:=kid (oi 4 1) l14_m23) (len:=x22.length) (k:=.i64) (m:=wI (y4 - 1)) p23 (Be e23)) ?_;refine dsl (ai x24) (Mh (i:=kid (oi 4 1) l14_m23) (j:=(wI (y4 - 1)).toNat) (k:=0) (e:=3) (t:=.int) (xs:=x22) (by kernel_rfl) (Aa4.trans (F4 (by kernel_rfl) e22)) e24 (by kernel_rfl)) ?_;refine dz0 (ai (wI (0 - x24))) ?_;refine dz0 (ai a0) ?_;refine dz0 (.own (oi 3 1) (.slice .int) 0 l14_m6.length) ?_;refine dz0 (ai y8) ?_;refine ds0 (.elt (oi 3 1) y8.toNat 0) (zo (t:=.slice .int) (o:=oi 3 1) (len:=l14_m6.length) (k:=.i64) (m:=y8) p25 (Be e25)) ?_;refine dsl (.own (kid (oi 4 1) y8.toNat) .int 0 x25.length) (Tt (o:=oi 3 1) (p:=oi 4 1) (e1:=39) (u:=.int) (xss:=l14_m6) (row:=x25) (j:=y8.toNat) (by kernel_rfl) (by kernel_rfl) e25) ?_;refine dzl (ai (wI (y4 - 1))) ?_;refine ds0 (.elt (kid (oi 4 1) y8.toNat) ((wI (y4 - 1)).toNat) 0) (zo (t:=.int) (o:=kid (oi 4 1) y8.toNat) (len:=x25.length) (k:=.i64) (m:=wI (y4 - 1)) p26 (Be e26)) ?_;refine dsl (ai x27) (Mh (i:=kid (oi 4 1) y8.toNat) (j:=(wI (y4 - 1)).toNat) (k:=0) (e:=3) (t:=.int) (xs:=x25) (by kernel_rfl) (Aa4.trans (F4 (by kernel_rfl) e25)) e27 (by kernel_rfl)) ?_;refine Ev (ai y28) [] [ai a0,ai x27] _ (caps:=[]) (args0:=[ai a0,ai x27]) trivial (by kernel_rfl) (O2 h28) Pd ?_;refine dz0 (ai (wI ((wI (0 - x24))*y28))) ?_;refine dz0 (.own (oi 3 1) (.slice .int) 0 l14_m6.length) ?_;refine dz0 (ai y8) ?_;refine ds0 (.elt (oi 3 1) y8.toNat 0) (zo (t:=.slice .int) (o:=oi 3 1) (len:=l14_m6.length) (k:=.i64) (m:=y8) p25 (Be e25)) ?_;refine dsl (.own (kid (oi 4 1) y8.toNat) .int 0 x25.length) (Tt (o:=oi 3 1) (p:=oi 4 1) (e1:=39) (u:=.int) (xss:=l14_m6) (row:=x25) (j:=y8.toNat) (by kernel_rfl) (by kernel_rfl) e25) ?_;refine Vg (.tup []) [(kid (oi 4 1) l14_m23,some (.arr 3 .int y30)),(kid (oi 4 1) l14_m23,none)] [(oi 0 0,kid (oi 4 1) l14_m23)] [ai a0,.own (kid (oi 4 1) l14_m23) .int 0 x22.length,ai (wI ((wI (0 - x24))*y28)),.own (kid (oi 4 1) y8.toNat) .int 0 x25.length] (caps:=[]) trivial (Nt h30 rfl) Of ⟨Tn (by kernel_rfl) e22,trivial⟩ (.cons (.ren (by kernel_rfl)) (.cons (.ren (by kernel_rfl)) (.cons (.ren (by kernel_rfl)) (.cons (.gnd (by kernel_rfl) (Ac5 (e:=3) (u:=.int) (xs:=x25) ((Ady (L:=[kid (oi 4 1) l14_m23]) (by kernel_rfl) ⟨Ae7 g29,trivial⟩).trans ((P2 (Acn (t:=.int) (off:=0) (len:=x25.length) 3 rfl (by kernel_rfl))).trans (F4 (by kernel_rfl) e25))) rfl)) .nil)))) (A8 (by kernel_rfl) (by kernel_rfl) ⟨.arg (by simp [AV.nmsL,AV.nms,A4]),trivial⟩) (Ae2 (Acn (t:=.int) (off:=0) (len:=x22.length) 1 rfl (by kernel_rfl)) Afu) ?_;refine Af7 (Abt (o:=oi 3 1) (p:=oi 4 1) (e1:=39) (e:=3) (u:=.int) (xss:=l14_m6) (k:=l14_m23) (row:=x22) (row':=y30) (by kernel_rfl) rfl (by kernel_rfl) e22 g31) ?_;refine Lo (B8 (by kernel_rfl)) (bn_ (tn_ ?_));obtain rfl:=zj h;exact ⟨_,(B4 6 (.own (oi 3 1) (.slice .int) 0 l14_m6.length) (.own (oi 3 1) (.slice .int) 0 ((l14_m6.set l14_m23 y30).length)) (by kernel_rfl) (congrArg (fun z_=>((.own (oi 3 1) (.slice .int) 0 z_):AV)) ((Eq.trans (b:=l14_m6.length) rfl List.length_set.symm):l14_m6.length=(l14_m6.set l14_m23 y30).length))).trans (Ac []),rfl⟩
      refine Ah q21 ?_;refine Aj (bn_ (tn_ ?_));obtain rfl:=zj h;exact ⟨_,Ac [],rfl⟩
     rintro l18_m6 _ rfl h
     (try dsimp only at h);obtain ⟨g32,h⟩:=Ax h;refine Aa 4 ?_;refine rs0 (ai ((l14_m23+1:Nat):Int)) (za g32) ?_;refine rsB 1 ?_;refine Ay (tn_ ?_);obtain rfl:=zj h;exact ⟨(l14_m23+1,l18_m6),_,Ac [],⟨l14_m23+1,l18_m6,rfl,rfl⟩,hn14⟩
    have q17_:=of_decide_eq_false q17;refine Ah q17 ?_;refine A3 (te_ (te_ (be_ (tn_ ?_))));obtain rfl:=zj h;have h:=hn14
    (try dsimp only at h);obtain rfl:=zj h;exact ⟨_,Ac [],rfl⟩
   rintro l12_m6 _ rfl h
   (try dsimp only at h);obtain ⟨y33,h33,h⟩:=Af h;refine Aa 8 ?_;refine rz0 (.own (oi 3 1) (.slice .int) 0 l12_m6.length) ?_;refine rz0 (ai y8) ?_;refine rz0 (ai y8) ?_;refine rz0 (ai (wI (y8+1))) ?_;refine D7 (.own (oi 3 1) (.slice .int) 0 y33.length) [(oi 3 1,some (.mat 39 (oi 992 6) .int y33)),(oi 992 6,some (.pool 3 .int y33)),(oi 3 1,none),(oi 4 1,some (.pool 3 .int []))] [(oi 0 0,oi 3 1),(oi 1 0,oi 4 1)] [.own (oi 3 1) (.slice .int) 0 l12_m6.length,ai y8,ai (wI (y8+1))] (caps:=[]) trivial (Oh h33 rfl) Nm ⟨by kernel_rfl,⟨by kernel_rfl,trivial⟩⟩ (.cons (.ren (by kernel_rfl)) (.cons (.ren (by kernel_rfl)) (.cons (.ren (by kernel_rfl)) .nil))) (A8 (by kernel_rfl) (by kernel_rfl) ⟨I1 (by kernel_rfl),⟨P3 (o:=oi 3 1) (p:=oi 4 1) (e1:=39) (m:=l12_m6.length) (u:=.int) (xss:=l12_m6) (I1 (by kernel_rfl)) (by kernel_rfl),trivial⟩⟩) ?_;refine rsB 1 ?_;refine Ay (tn_ ?_);obtain rfl:=zj h;exact ⟨_,Ac [(oi 4 1,oi 992 6)],rfl⟩
  have q11_:=of_decide_eq_false q11;refine Ah q11 ?_;refine Aj (tn_ ?_);obtain rfl:=zj h;exact ⟨_,Ac [(oi 0 1,oi 3 1),(oi 1 1,oi 4 2),(oi 2 1,oi 5 6),(oi 3 1,oi 240 10),(oi 4 1,oi 241 10)],rfl⟩
 rintro l9_m6 _ rfl h
 (try dsimp only at h);refine Ba h (fun (l34_m6:List (List Int)) S_=>S_=⟨Am [(3,.box (oi 0 1) 0),(4,.box (oi 1 1) 0),(6,.own (oi 2 1) (.slice .int) 0 l34_m6.length)],Ad (Ar [(oi 0 1,.cells 26 [ai a1_0,ai a1_1,.tree (.slice .int) a1_2]),(oi 1 1,.cells 26 [ai 0,ai 0,.nils]),(oi 2 1,.mat 39 (oi 3 1) .int l34_m6),(oi 3 1,.pool 3 .int l34_m6)]),2⟩) ?_ ?_
 ·intro v_ h;refine Al ?_;refine Ak ?_;refine A5 h (fun t_ S_=>∃ (l36_m65:Nat),∃ (l36_m6:List (List Int)),t_=(l36_m65,l36_m6)∧S_=⟨Am [(3,.box (oi 0 1) 0),(4,.box (oi 1 1) 0),(5,.box (oi 2 1) 0),(6,.own (oi 3 1) (.slice .int) 0 l36_m6.length),(64,ai ((l9_m6.length:Nat):Int)),(65,ai ((l36_m65:Nat):Int))],Ad (Ar [(oi 0 1,.cells 26 [ai a1_0,ai a1_1,.tree (.slice .int) a1_2]),(oi 1 1,.cells 26 [ai 0,ai 0,.nils]),(oi 2 1,.cells 3 [ai (wI (y4 - 1))]),(oi 3 1,.mat 39 (oi 4 1) .int l36_m6),(oi 4 1,.pool 3 .int l36_m6)]),2⟩) ⟨_,Ac [],⟨0,l9_m6,rfl,rfl⟩⟩ ?_;rintro n_ _ _ c_ ⟨l36_m65,l36_m6,rfl,rfl⟩ h hn36
  (try dsimp only at h);unfold Bk at h;unfold Ff;refine Al ?_;refine Ab ?_;rcases Ae h with ⟨q39,h⟩ | ⟨q39,h⟩
  ·have q39_:=of_decide_eq_true q39;refine Ag q39 ?_;refine Aj (tn_ ?_);refine wr_ ?_;refine Ab ?_;refine Ak ?_;refine Al ?_;obtain ⟨x42,e42,h⟩:=Af h;obtain ⟨g43,h⟩:=Ax h;refine Bc 16 ?_;refine dz0 (.own (oi 3 1) (.slice .int) 0 l36_m6.length) ?_;refine dz0 (ai ((l36_m65:Nat):Int)) ?_;refine dz0 (.own (oi 3 1) (.slice .int) 0 l36_m6.length) ?_;refine dz0 (ai ((l36_m65:Nat):Int)) ?_;refine ds0 (.elt (oi 3 1) l36_m65 0) (zo (t:=.slice .int) (o:=oi 3 1) (len:=l36_m6.length) (k:=.i64) (m:=((l36_m65:Nat):Int)) (Bi _) (Be e42)) ?_;refine dsl (.own (kid (oi 4 1) l36_m65) .int 0 x42.length) (Tt (o:=oi 3 1) (p:=oi 4 1) (e1:=39) (u:=.int) (xss:=l36_m6) (row:=x42) (j:=l36_m65) (by kernel_rfl) (by kernel_rfl) e42) ?_;refine dzl (ai (wI (y4 - 1))) ?_;refine dzl (ai (wI (y4 - 1))) ?_;refine ds2 (.own (oi 76 13) .int 0 ((wI (y4 - 1)).toNat)) (kid (oi 4 1) l36_m65) (oi 76 13) (.arr 3 .int (x42.take ((wI (y4 - 1)).toNat))) (Aa2 (t:=.int) (len:=x42.length) (kh:=.i64) (km:=.i64) (h:=wI (y4 - 1)) (m:=wI (y4 - 1)) (j:=(wI (y4 - 1)).toNat) (i:=kid (oi 4 1) l36_m65) (e:=3) (u:=.int) (xs:=x42) (by kernel_rfl) (Aa4.trans (F4 (by kernel_rfl) e42)) (by kernel_rfl) (by kernel_rfl) rfl g43 rfl (by omega)) ?_;refine ds0 (.elt (oi 3 1) l36_m65 0) (zo (t:=.slice .int) (o:=oi 3 1) (len:=l36_m6.length) (k:=.i64) (m:=((l36_m65:Nat):Int)) (Bi _) (Be e42)) ?_;refine Abb (oi 3 1) (oi 3 1) (.vec 39 1 l36_m6.length ((hdL (oi 4 1) .int l36_m6).set l36_m65 (.own (oi 76 13) .int 0 ((wI (y4 - 1)).toNat)))) (Aem (o:=oi 3 1) (e1:=39) (m:=l36_m6.length) (cs:=hdL (oi 4 1) .int l36_m6) (v:=.own (oi 76 13) .int 0 ((wI (y4 - 1)).toNat)) (j:=l36_m65) (by kernel_rfl) (by kernel_rfl) (by kernel_rfl) rfl (by rw [Ek]; exact Be e42)) ?_;refine Lo (B8 (by kernel_rfl)) (bn_ (tn_ ?_));refine ⟨_,X2 (e1:=39) (e:=3) (u:=.int) (n:=l36_m6.length) (len:=(wI (y4 - 1)).toNat) (row:=x42.take ((wI (y4 - 1)).toNat)) (ys:=x42.take ((wI (y4 - 1)).toNat)) (xss:=l36_m6) (j:=l36_m65) 9000 (oi 3 1) (oi 4 1) (oi 76 13) (by kernel_rfl) (by kernel_rfl) rfl (by kernel_rfl) (by kernel_rfl) (Z8 (Y6 (by omega))) (Z4 (Y6 (by omega))) (by kernel_rfl) (by kernel_rfl) (by kernel_rfl),?_⟩;obtain ⟨g44,h⟩:=Ax h;refine Aa 19 ?_;refine rs0 (ai ((l36_m65+1:Nat):Int)) (za g44) ?_;refine rsB 1 ?_;refine Ay (tn_ ?_);obtain rfl:=zj h;exact ⟨(l36_m65+1,l36_m6.set l36_m65 (x42.take ((wI (y4 - 1)).toNat))),_,(B4 6 (.own (oi 3 1) (.slice .int) 0 l36_m6.length) (.own (oi 3 1) (.slice .int) 0 ((l36_m6.set l36_m65 (x42.take ((wI (y4 - 1)).toNat))).length)) (by kernel_rfl) (congrArg (fun z_=>((.own (oi 3 1) (.slice .int) 0 z_):AV)) ((Eq.trans (b:=l36_m6.length) rfl List.length_set.symm):l36_m6.length=(l36_m6.set l36_m65 (x42.take ((wI (y4 - 1)).toNat))).length))).trans (Ac [(oi 4 1,oi 9000 16)]),⟨l36_m65+1,l36_m6.set l36_m65 (x42.take ((wI (y4 - 1)).toNat)),rfl,rfl⟩,hn36⟩
  have q39_:=of_decide_eq_false q39;refine Ah q39 ?_;refine A3 (te_ (te_ (be_ (tn_ ?_))));obtain rfl:=zj h;have h:=hn36
  (try dsimp only at h);obtain rfl:=zj h;exact ⟨_,Ac [(oi 2 1,oi 3 1),(oi 3 1,oi 4 1)],rfl⟩
 rintro l34_m6 _ rfl h
 (try dsimp only at h);refine Al ?_;refine Ai ?_;obtain rfl:=zj h;exact Gg [.agg [ai a1_0,ai (wI (a1_1 - 1)),.own (oi 1 1) (.slice .int) 0 l34_m6.length]] (Ac (tl:=[(4,.box (oi 0 1) 0)]) (g:=2) [(oi 0 1,oi 1 1),(oi 1 1,oi 2 1),(oi 2 1,oi 3 1)])
def Fg:AC :=
 (.seq (.seq (rg [xo 14 (qf 1 (tm 6)),xo 15 (ql (tm 14)),xo 16 (qb .gtr (tm 15) (ci 0))])
 (.cond (tm 16)
  .skip
  (.exit 0)))
 (.block 1 (rg [xo 17 (qm (tm 0)),xo 18 (.i (.ld false 3 (tm 6))),xo 19 (qc 20 [tm 17,tm 18] [[],[none,none,some (.slice .int)]]),xn (.st false 3 (tm 6) (tm 19))])))
def Ga:AC :=
 (.seq (rg [xo 3 (.i (.box 26 (tm 1))),xo 4 (.i (.alloc 26 [.int .i64 0,.int .i64 0,.nils])),xo 5 (qm (cb false))])
 (.seq (.seq (rg [xo 7 (qm (tm 0)),xo 8 (.i (.ld false 3 (tm 3))),xo 9 (qc 18 [tm 7,tm 8] [[],[none,none,some (.slice .int)]]),xo 10 (.i (.not (tm 9)))])
 (.cond (tm 10)
  (.seq (rg [xo 11 (.build [.int .i64 0,.int .i64 0,.nils] []),xn (.st false 3 (tm 4) (tm 11)),xo 5 (qm (cb false))])
  .ret)
  .skip))
 (.seq (rg [xo 12 (.i (.ld false 3 (tm 3))),xo 13 (qc 19 [tm 12] [[none,none,some (.slice .int)]]),xo 6 (.i (.alloc 26 [.int .i64 0,.int .i64 0,.nils])),xn (.st false 3 (tm 6) (tm 13))])
 (.seq (.block 0 (.loop Fg))
 (.seq (rg [xo 20 (.i (.ld false 3 (tm 6))),xn (.st false 3 (tm 4) (tm 20)),xo 5 (qm (cb true))])
 .ret)))))
def Kn:List Res:=[.cell 4 false 3,.tmp 5]
theorem Kq:Ap Tryd.prog Tryd.f8=some (Ga,Kn):=by kernel_rfl
theorem F2:Az Tryd.prog 8=true:=by kernel_rfl
def Bp (a0:Int) (a1_0:Int) (l11_m6_1:Int) (l11_m6_2:List (List Int)):Option (Ctl (Int×List (List Int)) (Int×List (List Int))) :=
 cond (decide (0<l11_m6_1))
 (Option.bind (B3 a0 a1_0 l11_m6_1 l11_m6_2) fun y15 =>
 some (Ctl.next (wI (l11_m6_1 - 1),y15)))
 (some (Ctl.out (l11_m6_1,l11_m6_2)))
def Bq (a0:Int) (a1_0:Int) (a1_1:Int) (a1_2:List (List Int)):Option (Bool×Int×Int×List (List Int)) :=
 Option.bind (Dq a0 a1_0 a1_1 a1_2) fun y5 =>
cond (!y5)
 (some (false,0,0,([]:List (List Int))))
 (Option.bind (Do a1_0 a1_1 a1_2) fun y9 =>
 Option.bind (A6 (fun s_:Int×List (List Int)=>Bp a0 a1_0 s_.1 s_.2) 4611686018427387904 (a1_1,y9)) fun (l10_m6_1,l10_m6_2) =>
 some (true,a1_0,l10_m6_1,l10_m6_2))
theorem Fx {a0:Int} {a1_0:Int} {a1_1:Int} {a1_2:List (List Int)} {r:Bool×Int×Int×List (List Int)} (h:Bq a0 a1_0 a1_1 a1_2=some r):Ea Tryd.prog Tab 8 [ai a0,.agg [ai a1_0,ai a1_1,.tree (.slice .int) a1_2]] [] (.tup [.agg [ai r.2.1,ai r.2.2.1,.own (oi 1 1) (.slice .int) 0 r.2.2.2.length],.bool r.1]) [(oi 0 1,.cells 26 [ai r.2.1,ai r.2.2.1,.own (oi 1 1) (.slice .int) 0 r.2.2.2.length]),(oi 1 1,.mat 39 (oi 2 1) .int r.2.2.2),(oi 2 1,.pool 3 .int r.2.2.2)]:=by
 refine B6 (by kernel_rfl) Tryd.func8 Kq (n:=21) (by kernel_rfl) (by simp) (tl:=[(0,ai a0),(1,.agg [ai a1_0,ai a1_1,.tree (.slice .int) a1_2])]) rfl (by kernel_rfl) trivial ⟨trivial,⟨⟨3,.tail _ (.tail _ (.head _))⟩,⟨trivial,trivial⟩⟩⟩ ?_;unfold Ga;unfold Bq at h;refine Al ?_;refine Ab ?_;refine Ab ?_;obtain ⟨y5,h5,h⟩:=Af h;refine Aa 8 ?_;refine rz0 (ai a0) ?_;refine rzl (.agg [ai a1_0,ai a1_1,.tree (.slice .int) a1_2]) ?_;refine zc (.bool y5) [] [ai a0,.agg [ai a1_0,ai a1_1,.tree (.slice .int) a1_2]] (Ns h5) ?_;refine rsB 1 ?_;refine Ay (tn_ ?_);refine wr_ ?_;rcases Ae h with ⟨q6,h⟩ | ⟨q6,h⟩
 ·refine Ag q6 ?_;refine Al ?_;refine Ai (tr_ ?_);obtain rfl:=zj h;exact Gg [.agg [ai 0,ai 0,.own (oi 1 1) (.slice .int) 0 ((([]:List (List Int))).length)],.bool false] ((E8 9000 (oi 4 2) 2 26 [ai 0,ai 0,.nils] [ai 0,ai 0,.own (oi 9000 11) (.slice .int) 0 0] 39 (.slice .int) (by kernel_rfl) (by kernel_rfl) (by kernel_rfl)).trans ((Iu (e1:=39) (n:=0) 9000 (oi 9000 11) 3 .int (by kernel_rfl) (by kernel_rfl) rfl (by kernel_rfl) (by kernel_rfl)).trans (Ac (tl:=[(4,.box (oi 0 1) 0),(5,.bool false)]) (g:=2) [(oi 0 1,oi 4 2),(oi 1 1,oi 9000 11),(oi 2 1,oi 9000 12)])))
 refine Ah q6 ?_;refine Aj (tn_ ?_);refine wr_ ?_;refine Ab ?_;obtain ⟨y9,h9,h⟩:=Af h;refine Aa 12 ?_;refine rzl (.agg [ai a1_0,ai a1_1,.tree (.slice .int) a1_2]) ?_;refine D7 (.agg [ai a1_0,ai a1_1,.own (oi 209 9) (.slice .int) 0 y9.length]) [(oi 208 9,some (.cells 26 [ai a1_0,ai a1_1,.own (oi 209 9) (.slice .int) 0 y9.length])),(oi 209 9,some (.mat 39 (oi 210 9) .int y9)),(oi 210 9,some (.pool 3 .int y9))] [] [.agg [ai a1_0,ai a1_1,.tree (.slice .int) a1_2]] (caps:=[]) trivial (Kr h9) Ks trivial (.cons (.ren (by kernel_rfl)) .nil) (A8 (by kernel_rfl) (by kernel_rfl) trivial) ?_;refine rsB 2 ?_;refine Ay (tn_ ?_);refine wr_ ?_;refine Ba h (fun t_ S_=>∃ (l10_m6_1:Int),∃ (l10_m6_2:List (List Int)),t_=(l10_m6_1,l10_m6_2)∧S_=⟨Am [(4,.box (oi 0 1) 0),(6,.box (oi 1 1) 0)],Ad (Ar [(oi 0 1,.cells 26 [ai 0,ai 0,.nils]),(oi 1 1,.cells 26 [ai a1_0,ai l10_m6_1,.own (oi 2 1) (.slice .int) 0 l10_m6_2.length]),(oi 2 1,.mat 39 (oi 3 1) .int l10_m6_2),(oi 3 1,.pool 3 .int l10_m6_2)]),2⟩) ?_ ?_
 ·intro v_ h;refine Ak ?_;refine A5 h (fun t_ S_=>∃ (l11_m6_1:Int),∃ (l11_m6_2:List (List Int)),t_=(l11_m6_1,l11_m6_2)∧S_=⟨Am [(0,ai a0),(4,.box (oi 0 1) 0),(6,.box (oi 1 1) 0)],Ad (Ar [(oi 0 1,.cells 26 [ai 0,ai 0,.nils]),(oi 1 1,.cells 26 [ai a1_0,ai l11_m6_1,.own (oi 2 1) (.slice .int) 0 l11_m6_2.length]),(oi 2 1,.mat 39 (oi 3 1) .int l11_m6_2),(oi 3 1,.pool 3 .int l11_m6_2)]),2⟩) ⟨_,Ac [(oi 0 1,oi 4 2),(oi 1 1,oi 6 10),(oi 2 1,oi 209 9),(oi 3 1,oi 210 9)],⟨a1_1,y9,rfl,rfl⟩⟩ ?_;rintro n_ _ _ c_ ⟨l11_m6_1,l11_m6_2,rfl,rfl⟩ h hn11
  (try dsimp only at h);unfold Bp at h;unfold Fg;refine Ab ?_;refine Al ?_;rcases Ae h with ⟨q14,h⟩ | ⟨q14,h⟩
  ·have q14_:=of_decide_eq_true q14;refine Ag q14 ?_;refine Aj (tn_ ?_);refine wr_ ?_;refine Ak ?_;obtain ⟨y15,h15,h⟩:=Af h;refine Aa 9 ?_;refine rz0 (ai a0) ?_;refine rzl (.agg [ai a1_0,ai l11_m6_1,.own (oi 2 1) (.slice .int) 0 l11_m6_2.length]) ?_;refine D7 (.agg [ai a1_0,ai (wI (l11_m6_1 - 1)),.own (oi 305 7) (.slice .int) 0 y15.length]) [(oi 304 7,some (.cells 26 [ai a1_0,ai (wI (l11_m6_1 - 1)),.own (oi 305 7) (.slice .int) 0 y15.length])),(oi 305 7,some (.mat 39 (oi 306 7) .int y15)),(oi 306 7,some (.pool 3 .int y15))] [] [ai a0,.agg [ai a1_0,ai l11_m6_1,.own (oi 2 1) (.slice .int) 0 l11_m6_2.length]] (caps:=[]) trivial (Jn h15) Jl trivial (.cons (.ren (by kernel_rfl)) (.cons (.agg (.cons (.ren (by kernel_rfl)) (.cons (.ren (by kernel_rfl)) (.cons (.gnd (by kernel_rfl) (Ct (p:=oi 3 1) (e1:=39) (e:=3) (u:=.int) (xss:=l11_m6_2) ((Hm (by kernel_rfl) (by kernel_rfl) (by kernel_rfl)).trans (by kernel_rfl)) (H2 (by kernel_rfl) (by kernel_rfl) (Bb (by kernel_rfl)) (by kernel_rfl)) rfl)) .nil)))) .nil)) (A8 (by kernel_rfl) (by kernel_rfl) trivial) ?_;refine rsB 1 ?_;refine Ay (bn_ (tn_ ?_));obtain rfl:=zj h;exact ⟨(wI (l11_m6_1 - 1),y15),_,Ac [(oi 2 1,oi 305 7),(oi 3 1,oi 306 7)],⟨wI (l11_m6_1 - 1),y15,rfl,rfl⟩,hn11⟩
  have q14_:=of_decide_eq_false q14;refine Ah q14 ?_;refine A3 (te_ (te_ (be_ (tn_ ?_))));obtain rfl:=zj h;have h:=hn11
  (try dsimp only at h);obtain rfl:=zj h;exact ⟨_,Ac [],⟨l11_m6_1,l11_m6_2,rfl,rfl⟩⟩
 rintro _ _ ⟨l10_m6_1,l10_m6_2,rfl,rfl⟩ h
 (try dsimp only at h);refine Al ?_;refine Ai ?_;obtain rfl:=zj h;exact Gg [.agg [ai a1_0,ai l10_m6_1,.own (oi 1 1) (.slice .int) 0 l10_m6_2.length],.bool true] (Ac (tl:=[(4,.box (oi 0 1) 0),(5,.bool true)]) (g:=2) [(oi 1 1,oi 2 1),(oi 2 1,oi 3 1)])
def Eh:AC :=
 (.seq (rg [xo 3 (.i (.box 24 (tm 1))),xo 4 (qm (cb false))])
 (.seq (rg [xo 5 (qm (ci 1048576))])
 (.seq (rg [xo 16 (.i (.ld false 3 (tm 3))),xo 17 (qm (tm 5)),xo 18 (qc 5 [tm 16,tm 17] [[none,none,some (.slice .int)],[]]),xo 5 (qm (tm 18))])
 (.seq (.seq (rg [xo 19 (qm (tm 5)),xo 20 (qb .lss (tm 19) (ci 0))])
 (.cond (tm 20)
  (.seq (rg [xo 4 (qm (cb true))])
  .ret)
  .skip))
 (.seq (rg [xo 22 (qm (tm 0)),xo 23 (.i (.ld false 3 (tm 3))),xo 24 (qc 7 [tm 23] [[none,none,some (.slice .int)]]),xo 25 (qc 6 [tm 22,tm 24] [[],[none,none,some (.slice .int)]]),xo 21 (qm (tm 25)),xo 26 (.i (.extr 0 (tm 21))),xo 27 (.i (.extr 1 (tm 21))),xo 6 (.i (.alloc 26 [.int .i64 0,.int .i64 0,.nils])),xn (.st false 3 (tm 6) (tm 26)),xo 7 (qm (tm 27))])
 (.seq (rg [xo 28 (.i (.ld false 3 (tm 3))),xo 29 (qc 7 [tm 28] [[none,none,some (.slice .int)]]),xo 8 (.i (.alloc 26 [.int .i64 0,.int .i64 0,.nils])),xn (.st false 3 (tm 8) (tm 29))])
 (.seq (rg [xo 31 (qm (tm 0)),xo 32 (.i (.ld false 3 (tm 8))),xo 33 (qc 8 [tm 31,tm 32] [[],[none,none,some (.slice .int)]]),xo 30 (qm (tm 33)),xo 34 (.i (.extr 0 (tm 30))),xo 35 (.i (.extr 1 (tm 30))),xo 9 (.i (.alloc 26 [.int .i64 0,.int .i64 0,.nils])),xn (.st false 3 (tm 9) (tm 34)),xo 10 (qm (tm 35))])
 (.seq (.seq (rg [xo 36 (.i (.ld false 3 (tm 9))),xo 37 (.i (.ld false 3 (tm 6))),xo 38 (qc 9 [tm 36,tm 37] [[none,none,some (.slice .int)],[none,none,some (.slice .int)]]),xo 39 (.i (.not (tm 38))),xo 40 (qm (tm 39)),⟨some 41,some (40,false),qm (tm 10)⟩,⟨some 42,some (40,false),qm (tm 7)⟩,⟨some 43,some (40,false),.i (.cmp true 0 (tm 41) (tm 42))⟩,xo 44 (.i (.pick (tm 40) (cb true) (tm 43)))])
 (.cond (tm 44)
  (.seq (rg [xo 4 (qm (cb false))])
  .ret)
  .skip))
 (.seq (.seq (.region [xo 45 (.i (.ld false 3 (tm 8))),xo 46 (.i (.ld false 3 (tm 3))),xo 47 (qc 7 [tm 46] [[none,none,some (.slice .int)]]),xo 48 (qc 9 [tm 45,tm 47] [[none,none,some (.slice .int)],[none,none,some (.slice .int)]]),xo 49 (.i (.not (tm 48)))] true [(0,2)])
 (.cond (tm 49)
  (.seq (rg [xo 4 (qm (cb false))])
  .ret)
  .skip))
 (.seq (rg [xo 11 (qm (ci 1))])
 (.seq (rg [xo 50 (.i (.ld false 3 (tm 8))),xo 51 (qm (tm 11)),xo 52 (qc 10 [tm 50,tm 51] [[none,none,some (.slice .int)],[]]),xo 11 (qm (tm 52))])
 (.seq (.seq (rg [xo 53 (qm (tm 11)),xo 54 (qb .lss (tm 53) (ci 0)),xo 55 (qm (tm 54)),⟨some 56,some (55,false),.i (.ld false 3 (tm 9))⟩,⟨some 57,some (55,false),.i (.ld false 3 (tm 6))⟩,⟨some 58,some (55,false),qc 9 [tm 56,tm 57] [[none,none,some (.slice .int)],[none,none,some (.slice .int)]]⟩,⟨some 59,some (55,false),.i (.not (tm 58))⟩,xo 60 (.i (.pick (tm 55) (cb true) (tm 59))),xo 61 (qm (tm 60)),⟨some 62,some (61,false),qm (tm 10)⟩,⟨some 63,some (61,false),qm (tm 7)⟩,⟨some 64,some (61,false),.i (.cmp true 0 (tm 62) (tm 63))⟩,xo 65 (.i (.pick (tm 61) (cb true) (tm 64)))])
 (.cond (tm 65)
  (.seq (rg [xo 4 (qm (cb false))])
  .ret)
  .skip))
 (.seq (rg [xo 12 (qm (ci 1))])
 (.seq (rg [xo 66 (.i (.ld false 3 (tm 9))),xo 67 (qm (tm 12)),xo 68 (qc 10 [tm 66,tm 67] [[none,none,some (.slice .int)],[]]),xo 12 (qm (tm 68))])
 (.seq (rg [xo 13 (qm (ci 1))])
 (.seq (rg [xo 69 (.i (.ld false 3 (tm 9))),xo 70 (qm (tm 13)),xo 71 (qc 11 [tm 69,tm 70] [[none,none,some (.slice .int)],[]]),xo 13 (qm (tm 71))])
 (.seq (.seq (rg [xo 72 (qm (tm 13)),xo 73 (qb .lss (tm 72) (ci 0))])
 (.cond (tm 73)
  (.seq (rg [xo 4 (qm (cb false))])
  .ret)
  .skip))
 (.seq (.seq (rg [xo 74 (qm (tm 13)),xo 75 (qm (tm 12)),xo 76 (qb .neq (tm 74) (tm 75))])
 (.cond (tm 76)
  (.seq (rg [xo 4 (qm (cb false))])
  .ret)
  .skip))
 (.seq (rg [xo 78 (qm (tm 0)),xo 79 (.i (.ld false 3 (tm 3))),xo 80 (qc 7 [tm 79] [[none,none,some (.slice .int)]]),xo 81 (qc 8 [tm 78,tm 80] [[],[none,none,some (.slice .int)]]),xo 77 (qm (tm 81)),xo 82 (.i (.extr 0 (tm 77))),xo 83 (.i (.extr 1 (tm 77))),xo 14 (.i (.alloc 26 [.int .i64 0,.int .i64 0,.nils])),xn (.st false 3 (tm 14) (tm 82)),xo 15 (qm (tm 83))])
 (.seq (.seq (rg [xo 84 (.i (.ld false 3 (tm 14))),xo 85 (.i (.ld false 3 (tm 6))),xo 86 (qc 9 [tm 84,tm 85] [[none,none,some (.slice .int)],[none,none,some (.slice .int)]]),xo 87 (.i (.not (tm 86))),xo 88 (qm (tm 87)),⟨some 89,some (88,false),qm (tm 15)⟩,⟨some 90,some (88,false),qm (tm 7)⟩,⟨some 91,some (88,false),.i (.cmp true 0 (tm 89) (tm 90))⟩,xo 92 (.i (.pick (tm 88) (cb true) (tm 91)))])
 (.cond (tm 92)
  (.seq (rg [xo 4 (qm (cb false))])
  .ret)
  .skip))
 (.seq (rg [xo 13 (qm (ci 1))])
 (.seq (rg [xo 93 (.i (.ld false 3 (tm 9))),xo 94 (qm (tm 13)),xo 95 (qc 11 [tm 93,tm 94] [[none,none,some (.slice .int)],[]]),xo 13 (qm (tm 95))])
 (.seq (.seq (rg [xo 96 (qm (tm 13)),xo 97 (qb .lss (tm 96) (ci 0))])
 (.cond (tm 97)
  (.seq (rg [xo 4 (qm (cb false))])
  .ret)
  .skip))
 (.seq (.seq (rg [xo 98 (qm (tm 13)),xo 99 (qm (tm 12)),xo 100 (qb .neq (tm 98) (tm 99))])
 (.cond (tm 100)
  (.seq (rg [xo 4 (qm (cb false))])
  .ret)
  .skip))
 (.seq (rg [xo 4 (qm (cb true))])
 .ret)))))))))))))))))))))))))
def G0:List Res:=[.tmp 4]
theorem G9:Ap Tryd.prog Tryd.f3=some (Eh,G0):=by kernel_rfl
def Bg (a0:Int) (a1_0:Int) (a1_1:Int) (a1_2:List (List Int)):Option Bool :=
 Option.bind (Dp a1_0 a1_1 a1_2 1048576) fun y4 =>
cond (decide (y4<0))
 (some true)
 (Option.bind (Br a1_0 a1_1 a1_2) fun y10 =>
 Option.bind (Cd a0 a1_0 a1_1 y10) fun y11 =>
 Option.bind (Br a1_0 a1_1 a1_2) fun y13 =>
 Option.bind (Bq a0 a1_0 a1_1 y13) fun y15 =>
 Option.bind (Option.bind (Bs y15.2.1 y15.2.2.1 y15.2.2.2 y11.2.1 y11.2.2.1 y11.2.2.2) fun y18 =>
  cond (!y18)
   (some true)
   (some (y15.1 !=y11.1))) fun l17_m44 =>
 cond l17_m44
  (some false)
  (Option.bind (Br a1_0 a1_1 a1_2) fun y24 =>
  Option.bind (Bs a1_0 a1_1 y13 a1_0 a1_1 y24) fun y25 =>
  cond (!y25)
   (some false)
   (Option.bind (Ca a1_0 a1_1 y13 1) fun y30 =>
   og (y30.1.length=y13.length) <|
   Option.bind (cond (decide (y30.2<0))
     (some true)
     (Option.bind (Bs y15.2.1 y15.2.2.1 y15.2.2.2 y11.2.1 y11.2.2.1 y11.2.2.2) fun y35 =>
     cond (!y35)
      (some true)
      (some (y15.1 !=y11.1)))) fun l33_m65 =>
   cond l33_m65
    (some false)
    (Option.bind (Ca y15.2.1 y15.2.2.1 y15.2.2.2 1) fun y41 =>
    og (y41.1.length=y15.2.2.2.length) <|
    Option.bind (B9 y15.2.1 y15.2.2.1 y41.1 1) fun y45 =>
    cond (decide (y45<0))
     (some false)
     (cond (y45 !=y41.2)
      (some false)
      (Option.bind (Br a1_0 a1_1 a1_2) fun y55 =>
      Option.bind (Bq a0 a1_0 a1_1 y55) fun y56 =>
      Option.bind (Option.bind (Bs y56.2.1 y56.2.2.1 y56.2.2.2 y11.2.1 y11.2.2.1 y11.2.2.2) fun y59 =>
       cond (!y59)
        (some true)
        (some (y56.1 !=y11.1))) fun l58_m92 =>
      cond l58_m92
       (some false)
       (Option.bind (B9 y15.2.1 y15.2.2.1 y41.1 1) fun y65 =>
       cond (decide (y65<0))
        (some false)
        (cond (y65 !=y41.2)
         (some false)
         (some true)))))))))
def Gl (r:Bool):RV:=⟨false,[(false,[.sc (.bool r)])]⟩
set_option maxHeartbeats 1600000 in
theorem Gn {a0:Int} {a1_0:Int} {a1_1:Int} {a1_2:List (List Int)} {r:Bool} (h:Bg a0 a1_0 a1_1 a1_2=some r):A9 Tryd.prog Tab 3 [ai a0,.agg [ai a1_0,ai a1_1,.tree (.slice .int) a1_2]] (Gl r):=by
 refine A0 (by kernel_rfl) Tryd.func3 G9 (n:=101) (by kernel_rfl) (by simp) (tl:=[(0,ai a0),(1,.agg [ai a1_0,ai a1_1,.tree (.slice .int) a1_2])]) rfl ?_;unfold Eh;unfold Bg at h;refine Al ?_;refine Al ?_;refine Ab ?_;obtain ⟨y4,h4,h⟩:=Af h;refine Aa 8 ?_;refine rzl (.agg [ai a1_0,ai a1_1,.tree (.slice .int) a1_2]) ?_;refine rz0 (ai 1048576) ?_;refine zc (ai y4) [] [.agg [ai a1_0,ai a1_1,.tree (.slice .int) a1_2],ai 1048576] (Ne h4) ?_;refine rsB 1 ?_;refine Ay (tn_ ?_);refine wr_ ?_;refine Ab ?_;refine Al ?_;rcases Ae h with ⟨q7,h⟩ | ⟨q7,h⟩
 ·have q7_:=of_decide_eq_true q7;refine Ag q7 ?_;refine Al ?_;refine Ai (tr_ ?_);obtain rfl:=zj h;exact Bh [.bool true] (A1 rfl zl A2)
 have q7_:=of_decide_eq_false q7;refine Ah q7 ?_;refine Aj (tn_ ?_);refine wr_ ?_;refine Ab ?_;obtain ⟨y10,h10,h⟩:=Af h;obtain ⟨y11,h11,h⟩:=Af h;refine Aa 20 ?_;refine rz0 (ai a0) ?_;refine rzl (.agg [ai a1_0,ai a1_1,.tree (.slice .int) a1_2]) ?_;refine D7 (.agg [ai a1_0,ai a1_1,.own (oi 385 12) (.slice .int) 0 y10.length]) [(oi 384 12,some (.cells 26 [ai a1_0,ai a1_1,.own (oi 385 12) (.slice .int) 0 y10.length])),(oi 385 12,some (.mat 39 (oi 386 12) .int y10)),(oi 386 12,some (.pool 3 .int y10))] [] [.agg [ai a1_0,ai a1_1,.tree (.slice .int) a1_2]] (caps:=[]) trivial (Ei h10) Er trivial (.cons (.ren (by kernel_rfl)) .nil) (A8 (by kernel_rfl) (by kernel_rfl) trivial) ?_;refine D7 (.tup [.agg [ai y11.2.1,ai y11.2.2.1,.own (oi 401 13) (.slice .int) 0 y11.2.2.2.length],.bool y11.1]) [(oi 400 13,some (.cells 26 [ai y11.2.1,ai y11.2.2.1,.own (oi 401 13) (.slice .int) 0 y11.2.2.2.length])),(oi 401 13,some (.mat 39 (oi 402 13) .int y11.2.2.2)),(oi 402 13,some (.pool 3 .int y11.2.2.2))] [] [ai a0,.agg [ai a1_0,ai a1_1,.own (oi 385 12) (.slice .int) 0 y10.length]] (caps:=[]) trivial (Jo h11) Jp trivial (.cons (.ren (by kernel_rfl)) (.cons (.agg (.cons (.ren (by kernel_rfl)) (.cons (.ren (by kernel_rfl)) (.cons (.gnd (by kernel_rfl) (Ct (p:=oi 386 12) (e1:=39) (e:=3) (u:=.int) (xss:=y10) ((Hm (by kernel_rfl) (by kernel_rfl) (by kernel_rfl)).trans (by kernel_rfl)) (H2 (by kernel_rfl) (by kernel_rfl) (Bb (by kernel_rfl)) (by kernel_rfl)) rfl)) .nil)))) .nil)) (A8 (by kernel_rfl) (by kernel_rfl) trivial) ?_;refine rsB 6 ?_;refine Ay (tn_ ?_);refine wr_ ?_;refine Ab ?_;obtain ⟨y13,h13,h⟩:=Af h;refine Aa 24 ?_;refine rzl (.agg [ai a1_0,ai a1_1,.tree (.slice .int) a1_2]) ?_;refine D7 (.agg [ai a1_0,ai a1_1,.own (oi 465 21) (.slice .int) 0 y13.length]) [(oi 464 21,some (.cells 26 [ai a1_0,ai a1_1,.own (oi 465 21) (.slice .int) 0 y13.length])),(oi 465 21,some (.mat 39 (oi 466 21) .int y13)),(oi 466 21,some (.pool 3 .int y13))] [] [.agg [ai a1_0,ai a1_1,.tree (.slice .int) a1_2]] (caps:=[]) trivial (Ei h13) Er trivial (.cons (.ren (by kernel_rfl)) .nil) (A8 (by kernel_rfl) (by kernel_rfl) trivial) ?_;refine rsB 2 ?_;refine Ay (tn_ ?_);refine wr_ ?_;refine Ab ?_;obtain ⟨y15,h15,h⟩:=Af h;refine Aa 33 ?_;refine rz0 (ai a0) ?_;refine rzl (.agg [ai a1_0,ai a1_1,.own (oi 465 21) (.slice .int) 0 y13.length]) ?_;refine D7 (.tup [.agg [ai y15.2.1,ai y15.2.2.1,.own (oi 529 26) (.slice .int) 0 y15.2.2.2.length],.bool y15.1]) [(oi 528 26,some (.cells 26 [ai y15.2.1,ai y15.2.2.1,.own (oi 529 26) (.slice .int) 0 y15.2.2.2.length])),(oi 529 26,some (.mat 39 (oi 530 26) .int y15.2.2.2)),(oi 530 26,some (.pool 3 .int y15.2.2.2))] [] [ai a0,.agg [ai a1_0,ai a1_1,.own (oi 465 21) (.slice .int) 0 y13.length]] (caps:=[]) trivial (Fx h15) F2 trivial (.cons (.ren (by kernel_rfl)) (.cons (.agg (.cons (.ren (by kernel_rfl)) (.cons (.ren (by kernel_rfl)) (.cons (.gnd (by kernel_rfl) (Ct (p:=oi 466 21) (e1:=39) (e:=3) (u:=.int) (xss:=y13) ((Hm (by kernel_rfl) (by kernel_rfl) (by kernel_rfl)).trans (by kernel_rfl)) (H2 (by kernel_rfl) (by kernel_rfl) (Bb (by kernel_rfl)) (by kernel_rfl)) rfl)) .nil)))) .nil)) (A8 (by kernel_rfl) (by kernel_rfl) trivial) ?_;refine rsB 6 ?_;refine Ay (tn_ ?_);refine wr_ ?_;refine Ab ?_;refine Ba h (fun (l17_m44:Bool) S_=>S_=⟨Am [(0,ai a0),(3,.box (oi 0 1) 0),(6,.box (oi 1 1) 0),(7,.bool y11.1),(8,.box (oi 2 1) 0),(9,.box (oi 3 1) 0),(10,.bool y15.1),(44,.bool l17_m44)],Ad (Ar [(oi 0 1,.cells 24 [ai a1_0,ai a1_1,.tree (.slice .int) a1_2]),(oi 1 1,.cells 26 [ai y11.2.1,ai y11.2.2.1,.own (oi 4 1) (.slice .int) 0 y11.2.2.2.length]),(oi 2 1,.cells 26 [ai a1_0,ai a1_1,.own (oi 6 1) (.slice .int) 0 y13.length]),(oi 3 1,.cells 26 [ai y15.2.1,ai y15.2.2.1,.own (oi 8 1) (.slice .int) 0 y15.2.2.2.length]),(oi 4 1,.mat 39 (oi 5 1) .int y11.2.2.2),(oi 5 1,.pool 3 .int y11.2.2.2),(oi 6 1,.mat 39 (oi 7 1) .int y13),(oi 7 1,.pool 3 .int y13),(oi 8 1,.mat 39 (oi 9 1) .int y15.2.2.2),(oi 9 1,.pool 3 .int y15.2.2.2)]),2⟩) ?_ ?_
 ·intro v_ h;obtain ⟨y18,h18,h⟩:=Af h;rcases Ae h with ⟨q19,h⟩ | ⟨q19,h⟩
  ·refine Aa 42 ?_;refine rzl (.agg [ai y15.2.1,ai y15.2.2.1,.own (oi 529 26) (.slice .int) 0 y15.2.2.2.length]) ?_;refine rzl (.agg [ai y11.2.1,ai y11.2.2.1,.own (oi 401 13) (.slice .int) 0 y11.2.2.2.length]) ?_;refine Fe (.bool y18) [] [.agg [ai y15.2.1,ai y15.2.2.1,.own (oi 529 26) (.slice .int) 0 y15.2.2.2.length],.agg [ai y11.2.1,ai y11.2.2.1,.own (oi 401 13) (.slice .int) 0 y11.2.2.2.length]] _ (caps:=[]) (args0:=[.agg [ai y15.2.1,ai y15.2.2.1,.tree (.slice .int) y15.2.2.2],.agg [ai y11.2.1,ai y11.2.2.1,.tree (.slice .int) y11.2.2.2]]) trivial (Ao (Ew (Ao (by kernel_rfl) (Ao (by kernel_rfl) (Ao (Ct (p:=oi 530 26) (e1:=39) (e:=3) (u:=.int) (xss:=y15.2.2.2) (by kernel_rfl) (Bb (by kernel_rfl)) rfl) B2)))) (Ao (Ew (Ao (by kernel_rfl) (Ao (by kernel_rfl) (Ao (Ct (p:=oi 402 13) (e1:=39) (e:=3) (u:=.int) (xss:=y11.2.2.2) (by kernel_rfl) (Bb (by kernel_rfl)) rfl) B2)))) B2)) (Bv h18) Bx ?_;refine rz0 (.bool (!y18)) ?_;refine rz0 (.bool (!y18)) ?_;refine zs q19 ?_;refine zs q19 ?_;refine zs q19 ?_;refine rs0 (.bool true) (zT q19) ?_;refine Ay (tn_ ?_);obtain rfl:=zj h;exact ⟨_,Ac [(oi 0 1,oi 3 1),(oi 1 1,oi 6 17),(oi 4 1,oi 401 13),(oi 5 1,oi 402 13),(oi 2 1,oi 8 22),(oi 6 1,oi 465 21),(oi 7 1,oi 466 21),(oi 3 1,oi 9 30),(oi 8 1,oi 529 26),(oi 9 1,oi 530 26)],rfl⟩
  refine Aa 42 ?_;refine rzl (.agg [ai y15.2.1,ai y15.2.2.1,.own (oi 529 26) (.slice .int) 0 y15.2.2.2.length]) ?_;refine rzl (.agg [ai y11.2.1,ai y11.2.2.1,.own (oi 401 13) (.slice .int) 0 y11.2.2.2.length]) ?_;refine Fe (.bool y18) [] [.agg [ai y15.2.1,ai y15.2.2.1,.own (oi 529 26) (.slice .int) 0 y15.2.2.2.length],.agg [ai y11.2.1,ai y11.2.2.1,.own (oi 401 13) (.slice .int) 0 y11.2.2.2.length]] _ (caps:=[]) (args0:=[.agg [ai y15.2.1,ai y15.2.2.1,.tree (.slice .int) y15.2.2.2],.agg [ai y11.2.1,ai y11.2.2.1,.tree (.slice .int) y11.2.2.2]]) trivial (Ao (Ew (Ao (by kernel_rfl) (Ao (by kernel_rfl) (Ao (Ct (p:=oi 530 26) (e1:=39) (e:=3) (u:=.int) (xss:=y15.2.2.2) (by kernel_rfl) (Bb (by kernel_rfl)) rfl) B2)))) (Ao (Ew (Ao (by kernel_rfl) (Ao (by kernel_rfl) (Ao (Ct (p:=oi 402 13) (e1:=39) (e:=3) (u:=.int) (xss:=y11.2.2.2) (by kernel_rfl) (Bb (by kernel_rfl)) rfl) B2)))) B2)) (Bv h18) Bx ?_;refine rz0 (.bool (!y18)) ?_;refine rz0 (.bool (!y18)) ?_;refine rs0 (.bool y15.1) (zg q19) ?_;refine rs0 (.bool y11.1) (zg q19) ?_;refine rs0 (.bool (y15.1 !=y11.1)) (zg q19) ?_;refine rs0 (.bool (y15.1 !=y11.1)) (zF q19) ?_;refine Ay (tn_ ?_);obtain rfl:=zj h;exact ⟨_,Ac [(oi 0 1,oi 3 1),(oi 1 1,oi 6 17),(oi 4 1,oi 401 13),(oi 5 1,oi 402 13),(oi 2 1,oi 8 22),(oi 6 1,oi 465 21),(oi 7 1,oi 466 21),(oi 3 1,oi 9 30),(oi 8 1,oi 529 26),(oi 9 1,oi 530 26)],rfl⟩
 rintro l17_m44 _ rfl h
 (try dsimp only at h);rcases Ae h with ⟨q20,h⟩ | ⟨q20,h⟩
 ·refine Ag q20 ?_;refine Al ?_;refine Ai (tr_ ?_);obtain rfl:=zj h;exact Bh [.bool false] (A1 rfl zl A2)
 refine Ah q20 ?_;refine Aj (tn_ ?_);refine wr_ ?_;refine Ab ?_;refine Ab ?_;obtain ⟨y24,h24,h⟩:=Af h;obtain ⟨y25,h25,h⟩:=Af h;refine Bc 7 ?_;refine dzl (.agg [ai a1_0,ai a1_1,.own (oi 6 1) (.slice .int) 0 y13.length]) ?_;refine dzl (.agg [ai a1_0,ai a1_1,.tree (.slice .int) a1_2]) ?_;refine Vg (.agg [ai a1_0,ai a1_1,.own (oi 753 4) (.slice .int) 0 y24.length]) [(oi 752 4,some (.cells 26 [ai a1_0,ai a1_1,.own (oi 753 4) (.slice .int) 0 y24.length])),(oi 753 4,some (.mat 39 (oi 754 4) .int y24)),(oi 754 4,some (.pool 3 .int y24))] [] [.agg [ai a1_0,ai a1_1,.tree (.slice .int) a1_2]] (caps:=[]) trivial (Ei h24) Er trivial (.cons (.ren (by kernel_rfl)) .nil) (A8 (by kernel_rfl) (by kernel_rfl) trivial) (Yc (by kernel_rfl)) ?_;refine Ev (.bool y25) [] [.agg [ai a1_0,ai a1_1,.own (oi 6 1) (.slice .int) 0 y13.length],.agg [ai a1_0,ai a1_1,.own (oi 753 4) (.slice .int) 0 y24.length]] _ (caps:=[]) (args0:=[.agg [ai a1_0,ai a1_1,.tree (.slice .int) y13],.agg [ai a1_0,ai a1_1,.tree (.slice .int) y24]]) trivial (Ao (Ew (Ao (by kernel_rfl) (Ao (by kernel_rfl) (Ao (Ct (p:=oi 7 1) (e1:=39) (e:=3) (u:=.int) (xss:=y13) ((P2 (Z6 [ai a1_0,ai a1_1,.own (oi 6 1) (.slice .int) 0 y13.length] (t:=.slice .int) (off:=0) (len:=y13.length) 0 2 rfl (by kernel_rfl) rfl)).trans (by kernel_rfl)) (Rk [ai a1_0,ai a1_1,.own (oi 6 1) (.slice .int) 0 y13.length] (t:=.slice .int) (off:=0) (len:=y13.length) (i:=oi 6 1) (e1:=39) (z:=1) (m:=y13.length) 0 2 rfl (by kernel_rfl) rfl (by kernel_rfl) (Bb (by kernel_rfl))) rfl) B2)))) (Ao (Ew (Ao (by kernel_rfl) (Ao (by kernel_rfl) (Ao (Ct (p:=oi 754 4) (e1:=39) (e:=3) (u:=.int) (xss:=y24) ((P2 (Z6 [ai a1_0,ai a1_1,.own (oi 753 4) (.slice .int) 0 y24.length] (t:=.slice .int) (off:=0) (len:=y24.length) 1 2 rfl (by kernel_rfl) rfl)).trans (by kernel_rfl)) (Rk [ai a1_0,ai a1_1,.own (oi 753 4) (.slice .int) 0 y24.length] (t:=.slice .int) (off:=0) (len:=y24.length) (i:=oi 753 4) (e1:=39) (z:=1) (m:=y24.length) 1 2 rfl (by kernel_rfl) rfl (by kernel_rfl) (Bb (by kernel_rfl))) rfl) B2)))) B2)) (Bv h25) Bx ?_;refine dz0 (.bool (!y25)) ?_;refine Lo ⟨Yy (by kernel_rfl),trivial⟩ (tn_ ?_);refine wr_ ?_;rcases Ae h with ⟨q26,h⟩ | ⟨q26,h⟩
 ·refine Ag q26 ?_;refine Al ?_;refine Ai (tr_ ?_);obtain rfl:=zj h;exact Bh [.bool false] (A1 rfl zl A2)
 refine Ah q26 ?_;refine Aj (tn_ ?_);refine wr_ ?_;refine Al ?_;refine Ab ?_;obtain ⟨y30,h30,h⟩:=Af h;obtain ⟨g31,h⟩:=Ax h;refine Aa 12 ?_;refine rzl (.agg [ai a1_0,ai a1_1,.own (oi 6 1) (.slice .int) 0 y13.length]) ?_;refine rz0 (ai 1) ?_;refine D7 (ai y30.2) [(oi 6 1,some (.mat 39 (oi 832 10) .int y30.1)),(oi 832 10,some (.pool 3 .int y30.1)),(oi 6 1,none),(oi 7 1,some (.pool 3 .int []))] [(oi 0 0,oi 6 1),(oi 1 0,oi 7 1)] [.agg [ai a1_0,ai a1_1,.own (oi 6 1) (.slice .int) 0 y13.length],ai 1] (caps:=[]) trivial (Hf h30 rfl) Hd ⟨by kernel_rfl,⟨by kernel_rfl,trivial⟩⟩ (.cons (.agg (.cons (.ren (by kernel_rfl)) (.cons (.ren (by kernel_rfl)) (.cons (.ren (by kernel_rfl)) .nil)))) (.cons (.ren (by kernel_rfl)) .nil)) (A8 (by kernel_rfl) (by kernel_rfl) ⟨I1 (by kernel_rfl),⟨P3 (o:=oi 6 1) (p:=oi 7 1) (e1:=39) (m:=y13.length) (u:=.int) (xss:=y13) (I1 (by kernel_rfl)) (by kernel_rfl),trivial⟩⟩) ?_;refine rsB 1 ?_;refine Ay (tn_ ?_);refine wr_ ?_;refine Ab ?_;refine Ba h (fun (l33_m65:Bool) S_=>S_=⟨Am [(0,ai a0),(3,.box (oi 0 1) 0),(6,.box (oi 1 1) 0),(7,.bool y11.1),(9,.box (oi 2 1) 0),(65,.bool l33_m65)],Ad (Ar [(oi 0 1,.cells 24 [ai a1_0,ai a1_1,.tree (.slice .int) a1_2]),(oi 1 1,.cells 26 [ai y11.2.1,ai y11.2.2.1,.own (oi 3 1) (.slice .int) 0 y11.2.2.2.length]),(oi 2 1,.cells 26 [ai y15.2.1,ai y15.2.2.1,.own (oi 5 1) (.slice .int) 0 y15.2.2.2.length]),(oi 3 1,.mat 39 (oi 4 1) .int y11.2.2.2),(oi 4 1,.pool 3 .int y11.2.2.2),(oi 5 1,.mat 39 (oi 6 1) .int y15.2.2.2),(oi 6 1,.pool 3 .int y15.2.2.2)]),2⟩) ?_ ?_
 ·intro v_ h;rcases Ae h with ⟨q34,h⟩ | ⟨q34,h⟩
  ·have q34_:=of_decide_eq_true q34;refine Aa 25 ?_;refine rz0 (ai y30.2) ?_;refine rz0 (.bool (decide (y30.2<0))) ?_;refine rz0 (.bool (decide (y30.2<0))) ?_;refine zs q34 ?_;refine zs q34 ?_;refine zs q34 ?_;refine zs q34 ?_;refine rs0 (.bool true) (zT q34) ?_;refine rsB 5 ?_;refine Ay (tn_ ?_);obtain rfl:=zj h;exact ⟨_,Ac [(oi 3 1,oi 4 1),(oi 4 1,oi 5 1),(oi 2 1,oi 3 1),(oi 5 1,oi 8 1),(oi 6 1,oi 9 1)],rfl⟩
  have q34_:=of_decide_eq_false q34;obtain ⟨y35,h35,h⟩:=Af h;rcases Ae h with ⟨q36,h⟩ | ⟨q36,h⟩
  ·refine Aa 25 ?_;refine rz0 (ai y30.2) ?_;refine rz0 (.bool (decide (y30.2<0))) ?_;refine rz0 (.bool (decide (y30.2<0))) ?_;refine rsl (.agg [ai y15.2.1,ai y15.2.2.1,.own (oi 8 1) (.slice .int) 0 y15.2.2.2.length]) (zg q34) ?_;refine rsl (.agg [ai y11.2.1,ai y11.2.2.1,.own (oi 4 1) (.slice .int) 0 y11.2.2.2.length]) (zg q34) ?_;refine Fe (.bool y35) [] [.agg [ai y15.2.1,ai y15.2.2.1,.own (oi 8 1) (.slice .int) 0 y15.2.2.2.length],.agg [ai y11.2.1,ai y11.2.2.1,.own (oi 4 1) (.slice .int) 0 y11.2.2.2.length]] _ (caps:=[]) (args0:=[.agg [ai y15.2.1,ai y15.2.2.1,.tree (.slice .int) y15.2.2.2],.agg [ai y11.2.1,ai y11.2.2.1,.tree (.slice .int) y11.2.2.2]]) (Dc (by kernel_rfl) q34) (Ao (Ew (Ao (by kernel_rfl) (Ao (by kernel_rfl) (Ao (Ct (p:=oi 9 1) (e1:=39) (e:=3) (u:=.int) (xss:=y15.2.2.2) (by kernel_rfl) (Bb (by kernel_rfl)) rfl) B2)))) (Ao (Ew (Ao (by kernel_rfl) (Ao (by kernel_rfl) (Ao (Ct (p:=oi 5 1) (e1:=39) (e:=3) (u:=.int) (xss:=y11.2.2.2) (by kernel_rfl) (Bb (by kernel_rfl)) rfl) B2)))) B2)) (Bv h35) Bx ?_;refine rs0 (.bool (!y35)) (zg q34) ?_;refine rs0 (.bool (!y35)) (zF q34) ?_;refine rz0 (.bool (!y35)) ?_;refine zs q36 ?_;refine zs q36 ?_;refine zs q36 ?_;refine rs0 (.bool true) (zT q36) ?_;refine Ay (tn_ ?_);obtain rfl:=zj h;exact ⟨_,Ac [(oi 3 1,oi 4 1),(oi 4 1,oi 5 1),(oi 2 1,oi 3 1),(oi 5 1,oi 8 1),(oi 6 1,oi 9 1)],rfl⟩
  refine Aa 25 ?_;refine rz0 (ai y30.2) ?_;refine rz0 (.bool (decide (y30.2<0))) ?_;refine rz0 (.bool (decide (y30.2<0))) ?_;refine rsl (.agg [ai y15.2.1,ai y15.2.2.1,.own (oi 8 1) (.slice .int) 0 y15.2.2.2.length]) (zg q34) ?_;refine rsl (.agg [ai y11.2.1,ai y11.2.2.1,.own (oi 4 1) (.slice .int) 0 y11.2.2.2.length]) (zg q34) ?_;refine Fe (.bool y35) [] [.agg [ai y15.2.1,ai y15.2.2.1,.own (oi 8 1) (.slice .int) 0 y15.2.2.2.length],.agg [ai y11.2.1,ai y11.2.2.1,.own (oi 4 1) (.slice .int) 0 y11.2.2.2.length]] _ (caps:=[]) (args0:=[.agg [ai y15.2.1,ai y15.2.2.1,.tree (.slice .int) y15.2.2.2],.agg [ai y11.2.1,ai y11.2.2.1,.tree (.slice .int) y11.2.2.2]]) (Dc (by kernel_rfl) q34) (Ao (Ew (Ao (by kernel_rfl) (Ao (by kernel_rfl) (Ao (Ct (p:=oi 9 1) (e1:=39) (e:=3) (u:=.int) (xss:=y15.2.2.2) (by kernel_rfl) (Bb (by kernel_rfl)) rfl) B2)))) (Ao (Ew (Ao (by kernel_rfl) (Ao (by kernel_rfl) (Ao (Ct (p:=oi 5 1) (e1:=39) (e:=3) (u:=.int) (xss:=y11.2.2.2) (by kernel_rfl) (Bb (by kernel_rfl)) rfl) B2)))) B2)) (Bv h35) Bx ?_;refine rs0 (.bool (!y35)) (zg q34) ?_;refine rs0 (.bool (!y35)) (zF q34) ?_;refine rz0 (.bool (!y35)) ?_;refine rs0 (.bool y15.1) (zg q36) ?_;refine rs0 (.bool y11.1) (zg q36) ?_;refine rs0 (.bool (y15.1 !=y11.1)) (zg q36) ?_;refine rs0 (.bool (y15.1 !=y11.1)) (zF q36) ?_;refine Ay (tn_ ?_);obtain rfl:=zj h;exact ⟨_,Ac [(oi 3 1,oi 4 1),(oi 4 1,oi 5 1),(oi 2 1,oi 3 1),(oi 5 1,oi 8 1),(oi 6 1,oi 9 1)],rfl⟩
 rintro l33_m65 _ rfl h
 (try dsimp only at h);rcases Ae h with ⟨q37,h⟩ | ⟨q37,h⟩
 ·refine Ag q37 ?_;refine Al ?_;refine Ai (tr_ ?_);obtain rfl:=zj h;exact Bh [.bool false] (A1 rfl zl A2)
 refine Ah q37 ?_;refine Aj (tn_ ?_);refine wr_ ?_;refine Al ?_;refine Ab ?_;obtain ⟨y41,h41,h⟩:=Af h;obtain ⟨g42,h⟩:=Ax h;refine Aa 7 ?_;refine rzl (.agg [ai y15.2.1,ai y15.2.2.1,.own (oi 5 1) (.slice .int) 0 y15.2.2.2.length]) ?_;refine rz0 (ai 1) ?_;refine D7 (ai y41.2) [(oi 5 1,some (.mat 39 (oi 1088 5) .int y41.1)),(oi 1088 5,some (.pool 3 .int y41.1)),(oi 5 1,none),(oi 6 1,some (.pool 3 .int []))] [(oi 0 0,oi 5 1),(oi 1 0,oi 6 1)] [.agg [ai y15.2.1,ai y15.2.2.1,.own (oi 5 1) (.slice .int) 0 y15.2.2.2.length],ai 1] (caps:=[]) trivial (Hf h41 rfl) Hd ⟨by kernel_rfl,⟨by kernel_rfl,trivial⟩⟩ (.cons (.agg (.cons (.ren (by kernel_rfl)) (.cons (.ren (by kernel_rfl)) (.cons (.ren (by kernel_rfl)) .nil)))) (.cons (.ren (by kernel_rfl)) .nil)) (A8 (by kernel_rfl) (by kernel_rfl) ⟨I1 (by kernel_rfl),⟨P3 (o:=oi 5 1) (p:=oi 6 1) (e1:=39) (m:=y15.2.2.2.length) (u:=.int) (xss:=y15.2.2.2) (I1 (by kernel_rfl)) (by kernel_rfl),trivial⟩⟩) ?_;refine rsB 1 ?_;refine Ay (tn_ ?_);refine wr_ ?_;refine Al ?_;refine Ab ?_;obtain ⟨y45,h45,h⟩:=Af h;refine Aa 12 ?_;refine rzl (.agg [ai y15.2.1,ai y15.2.2.1,.own (oi 5 1) (.slice .int) 0 y15.2.2.2.length]) ?_;refine rz0 (ai 1) ?_;refine Fe (ai y45) [] [.agg [ai y15.2.1,ai y15.2.2.1,.own (oi 5 1) (.slice .int) 0 y15.2.2.2.length],ai 1] _ (caps:=[]) (args0:=[.agg [ai y15.2.1,ai y15.2.2.1,.tree (.slice .int) y41.1],ai 1]) trivial (Ao (Ew (Ao (by kernel_rfl) (Ao (by kernel_rfl) (Ao (Ct (p:=oi 1088 5) (e1:=39) (e:=3) (u:=.int) (xss:=y41.1) (by kernel_rfl) (Bb (by kernel_rfl)) g42.symm) B2)))) (Ao (by kernel_rfl) B2)) (Hh h45) G8 ?_;refine rsB 1 ?_;refine Ay (tn_ ?_);refine wr_ ?_;refine Ab ?_;refine Al ?_;rcases Ae h with ⟨q48,h⟩ | ⟨q48,h⟩
 ·have q48_:=of_decide_eq_true q48;refine Ag q48 ?_;refine Al ?_;refine Ai (tr_ ?_);obtain rfl:=zj h;exact Bh [.bool false] (A1 rfl zl A2)
 have q48_:=of_decide_eq_false q48;refine Ah q48 ?_;refine Aj (tn_ ?_);refine wr_ ?_;refine Ab ?_;refine Al ?_;rcases Ae h with ⟨q52,h⟩ | ⟨q52,h⟩
 ·refine Ag q52 ?_;refine Al ?_;refine Ai (tr_ ?_);obtain rfl:=zj h;exact Bh [.bool false] (A1 rfl zl A2)
 refine Ah q52 ?_;refine Aj (tn_ ?_);refine wr_ ?_;refine Ab ?_;obtain ⟨y55,h55,h⟩:=Af h;obtain ⟨y56,h56,h⟩:=Af h;refine Aa 27 ?_;refine rz0 (ai a0) ?_;refine rzl (.agg [ai a1_0,ai a1_1,.tree (.slice .int) a1_2]) ?_;refine D7 (.agg [ai a1_0,ai a1_1,.own (oi 1281 19) (.slice .int) 0 y55.length]) [(oi 1280 19,some (.cells 26 [ai a1_0,ai a1_1,.own (oi 1281 19) (.slice .int) 0 y55.length])),(oi 1281 19,some (.mat 39 (oi 1282 19) .int y55)),(oi 1282 19,some (.pool 3 .int y55))] [] [.agg [ai a1_0,ai a1_1,.tree (.slice .int) a1_2]] (caps:=[]) trivial (Ei h55) Er trivial (.cons (.ren (by kernel_rfl)) .nil) (A8 (by kernel_rfl) (by kernel_rfl) trivial) ?_;refine D7 (.tup [.agg [ai y56.2.1,ai y56.2.2.1,.own (oi 1297 20) (.slice .int) 0 y56.2.2.2.length],.bool y56.1]) [(oi 1296 20,some (.cells 26 [ai y56.2.1,ai y56.2.2.1,.own (oi 1297 20) (.slice .int) 0 y56.2.2.2.length])),(oi 1297 20,some (.mat 39 (oi 1298 20) .int y56.2.2.2)),(oi 1298 20,some (.pool 3 .int y56.2.2.2))] [] [ai a0,.agg [ai a1_0,ai a1_1,.own (oi 1281 19) (.slice .int) 0 y55.length]] (caps:=[]) trivial (Fx h56) F2 trivial (.cons (.ren (by kernel_rfl)) (.cons (.agg (.cons (.ren (by kernel_rfl)) (.cons (.ren (by kernel_rfl)) (.cons (.gnd (by kernel_rfl) (Ct (p:=oi 1282 19) (e1:=39) (e:=3) (u:=.int) (xss:=y55) ((Hm (by kernel_rfl) (by kernel_rfl) (by kernel_rfl)).trans (by kernel_rfl)) (H2 (by kernel_rfl) (by kernel_rfl) (Bb (by kernel_rfl)) (by kernel_rfl)) rfl)) .nil)))) .nil)) (A8 (by kernel_rfl) (by kernel_rfl) trivial) ?_;refine rsB 6 ?_;refine Ay (tn_ ?_);refine wr_ ?_;refine Ab ?_;refine Ba h (fun (l58_m92:Bool) S_=>S_=⟨Am [(9,.box (oi 0 1) 0),(12,ai y41.2),(92,.bool l58_m92)],Ad (Ar [(oi 0 1,.cells 26 [ai y15.2.1,ai y15.2.2.1,.own (oi 1 1) (.slice .int) 0 y41.1.length]),(oi 1 1,.mat 39 (oi 2 1) .int y41.1),(oi 2 1,.pool 3 .int y41.1)]),2⟩) ?_ ?_
 ·intro v_ h;obtain ⟨y59,h59,h⟩:=Af h;rcases Ae h with ⟨q60,h⟩ | ⟨q60,h⟩
  ·refine Aa 36 ?_;refine rzl (.agg [ai y56.2.1,ai y56.2.2.1,.own (oi 1297 20) (.slice .int) 0 y56.2.2.2.length]) ?_;refine rzl (.agg [ai y11.2.1,ai y11.2.2.1,.own (oi 3 1) (.slice .int) 0 y11.2.2.2.length]) ?_;refine Fe (.bool y59) [] [.agg [ai y56.2.1,ai y56.2.2.1,.own (oi 1297 20) (.slice .int) 0 y56.2.2.2.length],.agg [ai y11.2.1,ai y11.2.2.1,.own (oi 3 1) (.slice .int) 0 y11.2.2.2.length]] _ (caps:=[]) (args0:=[.agg [ai y56.2.1,ai y56.2.2.1,.tree (.slice .int) y56.2.2.2],.agg [ai y11.2.1,ai y11.2.2.1,.tree (.slice .int) y11.2.2.2]]) trivial (Ao (Ew (Ao (by kernel_rfl) (Ao (by kernel_rfl) (Ao (Ct (p:=oi 1298 20) (e1:=39) (e:=3) (u:=.int) (xss:=y56.2.2.2) (by kernel_rfl) (Bb (by kernel_rfl)) rfl) B2)))) (Ao (Ew (Ao (by kernel_rfl) (Ao (by kernel_rfl) (Ao (Ct (p:=oi 4 1) (e1:=39) (e:=3) (u:=.int) (xss:=y11.2.2.2) (by kernel_rfl) (Bb (by kernel_rfl)) rfl) B2)))) B2)) (Bv h59) Bx ?_;refine rz0 (.bool (!y59)) ?_;refine rz0 (.bool (!y59)) ?_;refine zs q60 ?_;refine zs q60 ?_;refine zs q60 ?_;refine rs0 (.bool true) (zT q60) ?_;refine Ay (tn_ ?_);obtain rfl:=zj h;exact ⟨_,(Mp (oi 2 1) (.cells 26 [ai y15.2.1,ai y15.2.2.1,.own (oi 5 1) (.slice .int) 0 y15.2.2.2.length]) (.cells 26 [ai y15.2.1,ai y15.2.2.1,.own (oi 5 1) (.slice .int) 0 y41.1.length]) (by kernel_rfl) (congrArg (fun z_=>(.cells 26 [ai y15.2.1,ai y15.2.2.1,.own (oi 5 1) (.slice .int) 0 z_]:Ob)) (g42.symm:y15.2.2.2.length=y41.1.length))).trans (Ac [(oi 0 1,oi 2 1),(oi 1 1,oi 5 1),(oi 2 1,oi 1088 5)]),rfl⟩
  refine Aa 36 ?_;refine rzl (.agg [ai y56.2.1,ai y56.2.2.1,.own (oi 1297 20) (.slice .int) 0 y56.2.2.2.length]) ?_;refine rzl (.agg [ai y11.2.1,ai y11.2.2.1,.own (oi 3 1) (.slice .int) 0 y11.2.2.2.length]) ?_;refine Fe (.bool y59) [] [.agg [ai y56.2.1,ai y56.2.2.1,.own (oi 1297 20) (.slice .int) 0 y56.2.2.2.length],.agg [ai y11.2.1,ai y11.2.2.1,.own (oi 3 1) (.slice .int) 0 y11.2.2.2.length]] _ (caps:=[]) (args0:=[.agg [ai y56.2.1,ai y56.2.2.1,.tree (.slice .int) y56.2.2.2],.agg [ai y11.2.1,ai y11.2.2.1,.tree (.slice .int) y11.2.2.2]]) trivial (Ao (Ew (Ao (by kernel_rfl) (Ao (by kernel_rfl) (Ao (Ct (p:=oi 1298 20) (e1:=39) (e:=3) (u:=.int) (xss:=y56.2.2.2) (by kernel_rfl) (Bb (by kernel_rfl)) rfl) B2)))) (Ao (Ew (Ao (by kernel_rfl) (Ao (by kernel_rfl) (Ao (Ct (p:=oi 4 1) (e1:=39) (e:=3) (u:=.int) (xss:=y11.2.2.2) (by kernel_rfl) (Bb (by kernel_rfl)) rfl) B2)))) B2)) (Bv h59) Bx ?_;refine rz0 (.bool (!y59)) ?_;refine rz0 (.bool (!y59)) ?_;refine rs0 (.bool y56.1) (zg q60) ?_;refine rs0 (.bool y11.1) (zg q60) ?_;refine rs0 (.bool (y56.1 !=y11.1)) (zg q60) ?_;refine rs0 (.bool (y56.1 !=y11.1)) (zF q60) ?_;refine Ay (tn_ ?_);obtain rfl:=zj h;exact ⟨_,(Mp (oi 2 1) (.cells 26 [ai y15.2.1,ai y15.2.2.1,.own (oi 5 1) (.slice .int) 0 y15.2.2.2.length]) (.cells 26 [ai y15.2.1,ai y15.2.2.1,.own (oi 5 1) (.slice .int) 0 y41.1.length]) (by kernel_rfl) (congrArg (fun z_=>(.cells 26 [ai y15.2.1,ai y15.2.2.1,.own (oi 5 1) (.slice .int) 0 z_]:Ob)) (g42.symm:y15.2.2.2.length=y41.1.length))).trans (Ac [(oi 0 1,oi 2 1),(oi 1 1,oi 5 1),(oi 2 1,oi 1088 5)]),rfl⟩
 rintro l58_m92 _ rfl h
 (try dsimp only at h);rcases Ae h with ⟨q61,h⟩ | ⟨q61,h⟩
 ·refine Ag q61 ?_;refine Al ?_;refine Ai (tr_ ?_);obtain rfl:=zj h;exact Bh [.bool false] (A1 rfl zl A2)
 refine Ah q61 ?_;refine Aj (tn_ ?_);refine wr_ ?_;refine Al ?_;refine Ab ?_;obtain ⟨y65,h65,h⟩:=Af h;refine Aa 7 ?_;refine rzl (.agg [ai y15.2.1,ai y15.2.2.1,.own (oi 1 1) (.slice .int) 0 y41.1.length]) ?_;refine rz0 (ai 1) ?_;refine Fe (ai y65) [] [.agg [ai y15.2.1,ai y15.2.2.1,.own (oi 1 1) (.slice .int) 0 y41.1.length],ai 1] _ (caps:=[]) (args0:=[.agg [ai y15.2.1,ai y15.2.2.1,.tree (.slice .int) y41.1],ai 1]) trivial (Ao (Ew (Ao (by kernel_rfl) (Ao (by kernel_rfl) (Ao (Ct (p:=oi 2 1) (e1:=39) (e:=3) (u:=.int) (xss:=y41.1) (by kernel_rfl) (Bb (by kernel_rfl)) rfl) B2)))) (Ao (by kernel_rfl) B2)) (Hh h65) G8 ?_;refine rsB 1 ?_;refine Ay (tn_ ?_);refine wr_ ?_;refine Ab ?_;refine Al ?_;rcases Ae h with ⟨q68,h⟩ | ⟨q68,h⟩
 ·have q68_:=of_decide_eq_true q68;refine Ag q68 ?_;refine Al ?_;refine Ai (tr_ ?_);obtain rfl:=zj h;exact Bh [.bool false] (A1 rfl zl A2)
 have q68_:=of_decide_eq_false q68;refine Ah q68 ?_;refine Aj (tn_ ?_);refine wr_ ?_;refine Ab ?_;refine Al ?_;rcases Ae h with ⟨q72,h⟩ | ⟨q72,h⟩
 ·refine Ag q72 ?_;refine Al ?_;refine Ai (tr_ ?_);obtain rfl:=zj h;exact Bh [.bool false] (A1 rfl zl A2)
 refine Ah q72 ?_;refine Aj (tn_ ?_);refine wr_ ?_;refine Al ?_;refine Ai ?_;obtain rfl:=zj h;exact Bh [.bool true] (A1 rfl zl A2)
end Go.Proofs.YtehocbbnjfmgaaaDoor
namespace Go.Proofs.YtehocbbnjfmgaaaDoor
section
variable {α β σ ρ:Type}
theorem Uf {body:σ->Option (Ctl σ ρ)} {Post:ρ->Prop} (n:Nat) (I:Nat->σ->Prop)
  (hs:∀ i s,i<n->I i s->(∃ s',body s=some (.next s')∧I (i+1) s')∨∃ r,body s=some (.out r)∧Post r) (he:∀ s,I n s->∃ r,body s=some (.out r)∧Post r) :
  ∀ (F k:Nat) (s:σ),k<=n->n - k<F->I k s->∃ r,A6 body F s=some r∧Post r
 | 0,_,_,_,h,_=>by omega
 | F+1,k,s,hk,h,hi=>by
  have key:(∃ r,body s=some (.out r)∧Post r)->∃ r,A6 body (F+1) s=some r∧Post r:=by
   rintro ⟨r,h1,h2⟩;exact ⟨r,by simp only [A6,h1,obs,Ctl.then],h2⟩
  rcases Nat.lt_or_ge k n with hlt | hge
  ·rcases hs k s hlt hi with ⟨s',h1,h2⟩ | h
   ·obtain ⟨r,h3,h4⟩:=Uf n I hs he F (k+1) s' hlt (by omega) h2;exact ⟨r,by simp only [A6,h1,obs,Ctl.then]; exact h3,h4⟩
   ·exact key h
  ·obtain rfl:k=n:=by omega
   exact key (he s hi)
theorem Xy {body:σ->Option (Ctl σ ρ)} {Post:ρ->Prop} (n:Nat) (I:Nat->σ->Prop) {F:Nat} (hn:n<F) {s0:σ} (h0:I 0 s0)
  (hs:∀ i s,i<n->I i s->(∃ s',body s=some (.next s')∧I (i+1) s')∨∃ r,body s=some (.out r)∧Post r) (he:∀ s,I n s->∃ r,body s=some (.out r)∧Post r):∃ r,A6 body F s0=some r∧Post r :=
 Uf n I hs he F 0 s0 (Nat.zero_le _) (by omega) h0
theorem Mt {body:σ->Option (Ctl σ ρ)} (n:Nat) (I:Nat->σ->Prop) {F:Nat} (hn:n<F) {s0:σ} (r:ρ) (h0:I 0 s0)
  (hs:∀ i s,i<n->I i s->(∃ s',body s=some (.next s')∧I (i+1) s')∨body s=some (.out r)) (he:∀ s,I n s->body s=some (.out r)):A6 body F s0=some r:=by
 obtain ⟨r',h1,rfl⟩:=Xy (Post:=fun r'=>r'=r) n I hn h0 (fun i s hi hI=>(hs i s hi hI).imp id fun h=>⟨r,h,rfl⟩) (fun s h=>⟨r,he s h,rfl⟩);exact h1
theorem Bl {body:σ->Option (Ctl σ ρ)} (n:Nat) (S:Nat->σ) {F:Nat} (hn:n<F) {s0:σ} (r:ρ) (h0:s0=S 0) (hs:∀ i,i<n->body (S i)=some (.next (S (i+1)))) (he:body (S n)=some (.out r)):A6 body F s0=some r:=by
 subst h0;refine Mt n (fun i s=>s=S i) hn r rfl (fun i s hi e=>.inl ?_) (fun s e=>by subst e; exact he);subst e;exact ⟨_,hs i hi,rfl⟩
theorem Kl {body:Nat->Option (Ctl Nat ρ)} (xs:List α) (q:α->Bool) (good bad:ρ) {F:Nat} (hn:xs.length<F) (hs:∀ i x,xs[i]? =some x->body i=some (if q x then .next (i+1) else .out bad)) (he:body xs.length=some (.out good)):A6 body F 0=some (if xs.all q then good else bad):=by
 refine Mt xs.length (fun i s=>s=i∧(xs.take i).all q=true) hn _ ⟨rfl,by simp⟩ ?_ ?_
 ·rintro i s hi ⟨hsi,hq⟩;subst s;have hx:=gEg hi;rw [hs i _ hx];cases hc:q xs[i]
  ·refine .inr ?_
   have:xs.all q=false:=by
    rw [Bool.eq_false_iff];intro ha;rw [List.all_eq_true] at ha;rw [ha _ (List.getElem_mem hi)] at hc;cases hc
   rw [this]; rfl
  ·refine .inl ⟨i+1,rfl,rfl,?_⟩;rw [List.take_add_one,List.all_append,hq,hx];simp [hc]
 ·rintro s ⟨rfl,hq⟩;rw [List.take_length] at hq;rw [he,hq]; rfl
theorem Aaz {body:Nat×List β->Option (Ctl (Nat×List β) ρ)} (xs:List α) (f:α->β) (ys:List β) {F:Nat} (hn:xs.length<F) (r:ρ) (hs:∀ i x,xs[i]? =some x->body (i,ys++(xs.take i).map f)=some (.next (i+1,(ys++(xs.take i).map f)++[f x]))) (he:body (xs.length,ys++xs.map f)=some (.out r)):A6 body F (0,ys)=some r:=by
 refine Bl xs.length (fun i=>(i,ys++(xs.take i).map f)) hn r (by simp) (fun i hi=>?_) (by rw [List.take_length]; exact he);have hx:=gEg hi;rw [hs i _ hx,List.take_add_one,hx];simp only [List.map_append,Option.toList,List.map_cons,List.map_nil,List.append_assoc]
theorem T3 {xs:List α} {d:α} {i:Nat} (h:i<xs.length):(xs.take i++List.replicate (xs.length - i) d)[i]? =some d:=by
 have h1:(xs.take i).length=i:=by rw [List.length_take]; omega
 rw [List.getElem?_append_right (by omega),h1,Nat.sub_self,List.getElem?_replicate,if_pos (by omega)]
theorem Ua {xs:List α} {d x:α} {i:Nat} (h:xs[i]? =some x):(xs.take i++List.replicate (xs.length - i) d).set i x=xs.take (i+1)++List.replicate (xs.length - (i+1)) d:=by
 have hi:=(gSi.1 h).1;have e:xs.length - i=(xs.length - (i+1))+1:=by omega
 rw [List.take_add_one,h,e,List.replicate_succ,List.set_append,if_neg (by simp; omega)];simp [Nat.min_eq_left (Nat.le_of_lt hi)]
theorem Oc {xs ys:List α} {i:Nat} (h:i<xs.length) (hl:ys.length=i):(ys++xs.drop i)[i]? =some xs[i]:=by
 rw [List.getElem?_append_right (by omega),hl];simp [List.getElem?_drop,h]
theorem Oa {xs ys:List α} {y:α} {i:Nat} (h:i<xs.length) (hl:ys.length=i):(ys++xs.drop i).set i y=(ys++[y])++xs.drop (i+1):=by
 rw [List.set_append,if_neg (by omega),hl,Nat.sub_self,List.drop_eq_getElem_cons h,List.append_assoc];rfl
end
theorem Cs {n:Int} (h1: -9223372036854775808<=n) (h2:n<9223372036854775808):wI n=n:=Go.IntWalk.i64_in _ (by omega)
theorem Cr {p:Prop} [Decidable p] (h:p):decide p=true:=decide_eq_true h
theorem B0 {p:Prop} [Decidable p] (h:¬ p):decide p=false:=decide_eq_false h
end Go.Proofs.YtehocbbnjfmgaaaDoor
namespace Go.Proofs.YtehocbbnjfmgaaaDoor
def szV (v:Int) (n:Nat):Int:=if v<n then -1 else v - n
theorem Adb (xs:List Int) {v:Int} (hv:0<=v∧v<=1048576) (hx:xs.length<=9223372036854775807):E6 xs v=some (szV v xs.length):=by
  unfold E6 szV;rw [Cs (by omega) (by omega)];by_cases h:v<xs.length
  · rw [Cr (by omega),if_pos h]; rfl
  · rw [B0 (by omega),if_neg h]; rfl
theorem Ab0 (xs:List Int) (hx:xs.length<=1073741824):E3 xs=some xs:=by
  unfold E3;rw [Aw (by omega)]
  have h:A6 (fun s_:Nat×List Int=>C8 xs s_.1 s_.2) 4611686018427387904 (0,List.replicate xs.length (0:Int))=some xs:=by
    refine Bl xs.length (fun i=>(i,xs.take i++List.replicate (xs.length - i) 0)) (by omega) xs (by simp) (fun i hi=>?_) ?_
    · have hx:=gEg hi
      try dsimp only
      unfold C8;rw [Cr (by omega),cond_true,hx,obs,T3 hi,obs,Aw (by omega),Ua hx]
    · try dsimp only
      unfold C8;rw [B0 (by omega),cond_false];simp
  rw [h]; rfl
theorem Aco (xs:List Int) (hx:xs.length<=1073741824):E0 xs xs=some true:=by
  unfold E0
  have h:A6 (fun s_:Nat=>Df xs xs s_) 4611686018427387904 0=some (.next ()):=by
    refine Bl xs.length (fun i=>i) (by omega) _ rfl (fun i hi=>?_) ?_
    · have hx:=gEg hi
      try dsimp only
      unfold Df;rw [Cr (by omega),cond_true,hx,obs,obs,bne_self_eq_false,cond_false,Aw (by omega)]
    · try dsimp only
      unfold Df;rw [B0 (by omega),cond_false]
  rw [h,bne_self_eq_false,cond_false]; rfl
end Go.Proofs.YtehocbbnjfmgaaaDoor

namespace Go.Proofs.YtehocbbnjfmgaaaDoor

section
variable {σ ρ:Type}
end

def mkL (v:Int) (n:Nat):List Int:=(List.range n).map fun j:Nat=>v+(j:Int)
theorem Wq (xs:List Int) {v:Int} (hv:0<=v∧v<=1152921504606846976) (hx:xs.length<=1073741824):Dv xs v=some (mkL v xs.length,v+xs.length):=by
  unfold Dv
  have h:A6 (fun s_:Int×Nat×List Int=>Cn s_.1 s_.2.1 s_.2.2) 4611686018427387904 (v,0,xs)=some (v+xs.length,mkL v xs.length):=by
    refine Bl xs.length (fun i=>(v+i,i,mkL v i++xs.drop i)) (by omega) _ (by simp [mkL]) (fun i hi=>?_) ?_
    · have hl:(mkL v i).length=i:=by simp [mkL]
      try dsimp only
      unfold Cn;rw [Cr (by rw [List.length_append,hl,List.length_drop]; omega),cond_true,Oc hi hl,obs,Aw (by omega),Oa hi hl,Cs (by omega) (by omega)];unfold mkL;rw [List.range_succ,List.map_append];simp [Int.add_assoc]
    · try dsimp only
      unfold Cn;rw [B0 (by simp [mkL]),cond_false];simp [mkL]
  rw [h]; rfl
theorem Xb (n:Nat) {v:Int} (hv:0<=v∧v<=1152921504606846976) (hx:n<=1073741824):Dw (mkL v n) v=some (v+n):=by
  unfold Dw
  have h:A6 (fun s_:Int×Nat=>Cp (mkL v n) s_.1 s_.2) 4611686018427387904 (v,0)=some (.next (v+n)):=by
    refine Bl n (fun i=>(v+i,i)) (by omega) _ (by simp) (fun i hi=>?_) ?_
    · have hg:(mkL v n)[i]? =some (v+i):=by simp [mkL,hi]
      try dsimp only
      unfold Cp;rw [Cr (by simp [mkL]; omega),cond_true,hg,obs,bne_self_eq_false,cond_false,Aw (by omega),Cs (by omega) (by omega)];simp [Int.add_assoc]
    · try dsimp only
      unfold Cp;rw [B0 (by simp [mkL]),cond_false]
  rw [h]; rfl
/-- Rows that are not too long. -/
def Gd (b:Nat) (xss:List (List Int)):Prop:=∀ x∈xss,x.length<=b
def C6 (xss:List (List Int)):Nat:=(xss.map List.length).sum
def marked (v:Int):List (List Int)->List (List Int)
  | []=>[]
  | x :: r=>mkL v x.length :: marked (v+x.length) r
theorem Fb:∀ (v:Int) (xss:List (List Int)),(marked v xss).length=xss.length
  | _,[]=>rfl
  | v,x :: r=>by simp [marked,Fb]
theorem Lv:∀ (v:Int) (xss:List (List Int)) (i:Nat) (h:i<xss.length),(marked v xss)[i]? =some (mkL (v+C6 (xss.take i)) xss[i].length)
  | v,x :: r,0,h=>by simp [marked,C6]
  | v,x :: r,i+1,h=>by
    have:=Lv (v+x.length) r i (by simpa using h);simp only [marked,List.getElem?_cons_succ,this,List.take_succ_cons,List.getElem_cons_succ,C6,List.map_cons,List.sum_cons];congr 2;simp [Int.add_assoc]
theorem N1 {xss:List (List Int)} {i:Nat} (h:i<xss.length):C6 (xss.take (i+1))=C6 (xss.take i)+xss[i].length:=by
  unfold C6;rw [List.take_add_one,gEg h];simp only [Option.toList,List.map_append,List.map_cons,List.map_nil,List.sum_append,List.sum_cons,List.sum_nil,Nat.add_zero]
theorem Vh {b:Nat}:∀ {xss:List (List Int)},Gd b xss->C6 xss<=xss.length*b
  | [],_=>by simp [C6]
  | x :: r,h=>by
    have h1:=h x (by simp);have h2:=Vh (xss:=r) fun y hy=>h y (by simp [hy])
    simp only [C6,List.map_cons,List.sum_cons,List.length_cons,Nat.succ_mul] at h2 ⊢;omega
theorem Aam {b:Nat} {xss:List (List Int)} (h:Gd b xss) (i:Nat):C6 (xss.take i)<=xss.length*b:=by
  refine Nat.le_trans (Vh fun x hx=>h x (List.mem_of_mem_take hx)) (Nat.mul_le_mul_right _ ?_);rw [List.length_take]; omega
theorem Aaw (xss:List (List Int)) (hn:xss.length<=1048576) (hb:Gd 1048576 xss):D9 xss xss=some true:=by
  unfold D9
  have h:A6 (fun s_:Nat=>C0 xss xss s_) 4611686018427387904 0=some (.next ()):=by
    refine Bl xss.length (fun i=>i) (by omega) _ rfl (fun i hi=>?_) ?_
    · have hx:=gEg hi;have:=hb _ (List.getElem_mem hi)
      try dsimp only
      unfold C0;rw [Cr (by omega),cond_true,hx,obs,obs,Aco _ (by omega),obs,Bool.not_true,cond_false,Aw (by omega)]
    · try dsimp only
      unfold C0;rw [B0 (by omega),cond_false]
  rw [h,bne_self_eq_false,cond_false]; rfl
theorem Xf (xss:List (List Int)) {v:Int} (hv:0<=v∧v<=576460752303423488) (hn:xss.length<=1048576) (hb:Gd 1048576 xss) :
    ∃ yss,∃ u:Int,v<=u∧u<=v+1099511627776∧C9 xss v=some (yss,u)∧yss.length=xss.length∧Db yss v=some u:=by
  have hm:xss.length*1048576<=1048576*1048576:=Nat.mul_le_mul_right _ hn;have ht:=fun i=>Aam hb i
  have htt:C6 xss<=xss.length*1048576:=Vh hb;refine ⟨marked v xss,v+C6 xss,by omega,by omega,?_,Fb _ _,?_⟩
  · unfold C9
    have h:A6 (fun s_:Int×Nat×List (List Int)=>Cb s_.1 s_.2.1 s_.2.2) 4611686018427387904 (v,0,xss)=some (v+C6 xss,marked v xss):=by
      refine Bl xss.length (fun i=>(v+C6 (xss.take i),i,(marked v xss).take i++xss.drop i)) (by omega) _ (by simp [C6]) (fun i hi=>?_) ?_
      · have hl:((marked v xss).take i).length=i:=by rw [List.length_take,Fb]; omega
        have h1:=hb _ (List.getElem_mem hi);have h2:=ht i;have hg:=Lv v xss i hi
        try dsimp only
        unfold Cb;rw [Cr (by rw [List.length_append,hl,List.length_drop]; omega),cond_true,Oc hi hl,obs,Wq _ (by omega) (by omega),obs,Aw (by simp [mkL]),Aw (by omega),Oa hi hl,N1 hi,List.take_add_one,hg];simp [Int.add_assoc]
      · try dsimp only
        unfold Cb;have hl:((marked v xss).take xss.length).length=xss.length:=by rw [List.length_take,Fb]; omega
        rw [B0 (by rw [List.length_append,hl]; simp),cond_false];simp [List.take_of_length_le,Fb]
    rw [h]; rfl
  · unfold Db
    have h:A6 (fun s_:Int×Nat=>Cc (marked v xss) s_.1 s_.2) 4611686018427387904 (v,0)=some (.next (v+C6 xss)):=by
      refine Bl xss.length (fun i=>(v+C6 (xss.take i),i)) (by omega) _ (by simp [C6]) (fun i hi=>?_) ?_
      · have h1:=hb _ (List.getElem_mem hi);have h2:=ht i
        try dsimp only
        unfold Cc;rw [Cr (by rw [Fb]; omega),cond_true,Lv v xss i hi,obs,Xb _ (by omega) (by omega),obs,B0 (by omega),cond_false,Aw (by omega),N1 hi];simp [Int.add_assoc]
      · try dsimp only
        unfold Cc;rw [B0 (by rw [Fb]; omega),cond_false,List.take_length]
    rw [h]; rfl
/-- What is left of a count when the rows are taken off. -/
def szW (v:Int) (xss:List (List Int)):Int:=if v<xss.length+C6 xss then -1 else v - (xss.length+C6 xss)
theorem Aey {v:Int} {xss:List (List Int)} (hv:v<=1048576) (h:¬ szW v xss<0):xss.length+C6 xss<=1048576∧Gd 1048576 xss∧szW v xss=v - (xss.length+C6 xss):=by
  unfold szW at h ⊢;split at h
  · omega
  rename_i h1;have h2:xss.length+C6 xss<=1048576:=by omega
  refine ⟨h2,fun x hx=>?_,if_neg h1⟩
  have:∀ {l:List (List Int)},x∈l->x.length<=C6 l:=by
    intro l
    induction l with
    | nil=>intro h; cases h
    | cons y r ih =>
      intro h;simp only [C6,List.map_cons,List.sum_cons] at ih ⊢;rcases List.mem_cons.1 h with rfl | h
      · omega
      · have:=ih h; omega
  have:=this hx;omega
theorem Z9 (xss:List (List Int)) {v:Int} (hv:0<=v∧v<=1048576) (hn:xss.length<=9223372036854775807) (hb:Gd 9223372036854775807 xss):Ee xss v=some (szW v xss):=by
  unfold Ee;rw [Cs (by omega) (by omega)];by_cases h0:v<xss.length
  · rw [Cr (by omega),szW,if_pos (by omega)]; rfl
  rw [B0 (by omega),cond_false]
  have h:A6 (fun s_:Int×Nat=>C3 xss s_.1 s_.2) 4611686018427387904 (v - xss.length,0)=some (if v<xss.length+C6 xss then .out (-1) else .next (v - (xss.length+C6 xss))):=by
    have hm:∀ i,C6 (xss.take i)<=C6 xss:=fun i=>by
      have:C6 xss=C6 (xss.take i)+C6 (xss.drop i):=by
        conv=>lhs; rw [← List.take_append_drop i xss]
        rw [C6,List.map_append,List.sum_append]; rfl
      omega
    refine Mt xss.length (fun i s=>s=(v - xss.length - C6 (xss.take i),i)∧(xss.length:Int)+C6 (xss.take i)<=v) (by omega) _ ⟨by simp [C6],by simp [C6]; omega⟩ ?_ ?_
    · rintro i s hi ⟨rfl,h1⟩;have hx:=gEg hi;have hr:=hb _ (List.getElem_mem hi);have hs:=N1 hi;have hm1:=hm (i+1)
      try dsimp only
      unfold C3;rw [Cr (by omega),cond_true,hx,obs,Adb _ (by omega) hr,obs,szV];by_cases h2:v - xss.length - C6 (xss.take i)<xss[i].length
      · refine .inr ?_;rw [if_pos h2,if_pos (by omega)]; rfl
      · refine .inl ⟨(v - xss.length - C6 (xss.take (i+1)),i+1),?_,rfl,by omega⟩;rw [if_neg h2,B0 (by omega),cond_false,Aw (by omega),hs,show v - ↑xss.length - ↑(C6 (List.take i xss)) - ↑xss[i].length=v - ↑xss.length - ↑(C6 (List.take i xss)+xss[i].length) by omega]
    · rintro s ⟨rfl,h1⟩;rw [List.take_length] at h1 ⊢
      try dsimp only
      unfold C3;rw [B0 (by omega),cond_false,if_neg (by omega)];simp [Int.sub_sub]
  rw [h,szW];split <;> rfl
theorem Aag (xss:List (List Int)) (hn:xss.length<=1048576) (hb:Gd 1048576 xss):Ed xss=some xss:=by
  unfold Ed;rw [Aw (by omega)]
  have h:A6 (fun s_:Nat×List (List Int)=>Cy xss s_.1 s_.2) 4611686018427387904 (0,List.replicate xss.length ([]:List Int))=some xss:=by
    refine Bl xss.length (fun i=>(i,xss.take i++List.replicate (xss.length - i) [])) (by omega) xss (by simp) (fun i hi=>?_) ?_
    · have hx:=gEg hi;have hr:=hb _ (List.getElem_mem hi)
      try dsimp only
      unfold Cy;rw [Cr (by omega),cond_true,hx,obs,Ab0 _ (by omega),obs,T3 hi,obs,Aw (by omega),Ua hx]
    · try dsimp only
      unfold Cy;rw [B0 (by omega),cond_false];simp
  rw [h]; rfl
theorem Ado {R:Nat->Prop} {w:World} {t:Ty} {A:Option Addr} {c:Nat} {xss:List (List t.D)} {l:List Addr} (h:Sl R w (.slice t) A c xss l):∀ x∈xss,x.length<=9223372036854775807:=by
  obtain ⟨_,_,f,_,h4⟩:=h;intro x hx;obtain ⟨i,hi,rfl⟩:=List.getElem_of_mem hx;obtain ⟨_,_,_,h5⟩:=h4 (by omega);obtain ⟨A',c',_,h6⟩:=h5 i hi;exact (Abm (xs:=xss[i]) h6).2
end Go.Proofs.YtehocbbnjfmgaaaDoor

namespace Go.Proofs.YtehocbbnjfmgaaaDoor

def inV (p:Int) (x:List Int):Prop:=∀ a,a∈x->0<=a∧a<p
def VecW (p:Int) (w:Nat) (x:List Int):Prop:=x.length=w∧inV p x
def MatW (p:Int) (w:Nat) (m:List (List Int)):Prop:=∀ x,x∈m->VecW p w x
def G3 (p f:Int) (x v:List Int):List Int:=List.zipWith (fun a b=>(a - f*b) % p) x v
def U3 (p a:Int):Int:=(((List.range p.toNat).find? fun (x:Nat)=>a*(x:Int) % p==1).getD 0:Nat)
theorem Ye {p x:Int} (hp:2<=p):0<=x % p∧x % p<p:=⟨Int.emod_nonneg x (by omega),Int.emod_lt_of_pos x (by omega)⟩
theorem Abj {α β γ:Type} {f:α->β->γ}:∀ {x:List α} {v:List β} {c:γ},c∈List.zipWith f x v->∃ a b,c=f a b
  | [],_,_,h=>by simp at h
  | _ :: _,[],_,h=>by simp at h
  | a :: x,b :: v,c,h=>by
    rw [List.zipWith_cons_cons,List.mem_cons] at h;rcases h with h | h
    · exact ⟨a,b,h⟩
    · exact Abj h
theorem Mf {p f:Int} {w:Nat} {x v:List Int} (hp:2<=p) (hx:x.length=w) (hv:v.length=w):VecW p w (G3 p f x v) :=
  ⟨by simp [G3,hx,hv],fun a ha=>by obtain ⟨b,c,rfl⟩:=Abj ha; exact Ye hp⟩
theorem Ml {α:Type} {m:List α} {i:Nat} {d x:α} (h:m[i]? =some x):m.getD i d=x:=by rw [gDg,h]; rfl
end Go.Proofs.YtehocbbnjfmgaaaDoor

namespace Go.Proofs.YtehocbbnjfmgaaaDoor
def Afs (p a:Int):Bool:=match Fq p a with
  | some v=>(v==U3 p a)&&((Eg p a==some v)&&((decide (0<=v)&&decide (v<p))&&(a*v % p==1)))
  | none=>false
def ivB:Bool:=(List.range 98).all fun p=> !(isF p)||(List.range p).all fun a=>a==0||Afs (p:Int) (a:Int)
theorem Abu:ivB=true:=by kernel_rfl
theorem Abk {p a:Int} (hp:isF p=true) (ha:1<=a∧a<p):Fq p a=some (U3 p a)∧Eg p a=some (U3 p a)∧0<=U3 p a∧U3 p a<p∧a*U3 p a % p=1:=by
  have hb:=Nk hp;obtain ⟨q,rfl⟩:=Int.eq_ofNat_of_zero_le (show 0<=p by omega);obtain ⟨b,rfl⟩:=Int.eq_ofNat_of_zero_le (show 0<=a by omega);have h1:=List.all_eq_true.1 Abu q (List.mem_range.2 (by omega));rw [hp,Bool.not_true,Bool.false_or] at h1;have h2:=List.all_eq_true.1 h1 b (List.mem_range.2 (by omega))
  have h3:Afs (q:Int) (b:Int)=true:=by
    rcases (Bool.or_eq_true _ _).mp h2 with h | h
    · have:b=0:=by simpa using h
      omega
    · exact h
  unfold Afs at h3;split at h3
  · rename_i v hv;simp only [Bool.and_eq_true,beq_iff_eq,decide_eq_true_eq] at h3;obtain ⟨h4,h5,⟨h6,h7⟩,h8⟩:=h3;subst h4;exact ⟨hv,h5,h6,h7,h8⟩
  · cases h3
end Go.Proofs.YtehocbbnjfmgaaaDoor

namespace Go.Proofs.YtehocbbnjfmgaaaDoor

theorem Mg (b:Bool):Lg (some (if b then Ctl.next () else Ctl.out false)) (fun _:Unit=>some true)=some b:=by cases b <;> rfl
theorem Uz (x lo hi:Int):Di x lo hi=some (inR x lo hi):=by
  unfold Di inR;by_cases h:lo<=x <;> simp [h]
theorem We (x lo hi:Int):D0 x lo hi=some (inR x lo hi):=by
  unfold D0 inR;by_cases h:lo<=x <;> simp [h]
theorem Adu (xs:List Int) (lo hi:Int) (hx:xs.length<=1099511627776):Fj xs lo hi=some (xs.all fun x=>inR x lo hi):=by
  unfold Fj;rw [Kl xs (fun x=>inR x lo hi) (.next ()) (.out false) (by omega) (fun i x h=>?_) ?_,Mg]
  · unfold E9;rw [B0 (by omega),cond_false]
  · have:=Be h;unfold E9;rw [Cr (by omega),cond_true,h,obs,Uz,obs,Aw (by omega)];cases inR x lo hi <;> rfl
theorem Ael {p:Int} (h:inR p 2 97=false):isF p=false:=by rcases Aay.1 h with h | h <;> simp [isF] <;> omega
theorem Ac6 (p:Int):E7 p=some (isF p):=by
  unfold E7;rw [Uz,obs];cases hr:inR p 2 97
  · rw [Ael hr]; rfl
  rw [Bool.not_true,cond_false];obtain ⟨h1,h2⟩:=Q8.1 hr;obtain ⟨n,rfl⟩:=Int.eq_ofNat_of_zero_le (show 0<=p by omega)
  have h:A6 (fun s_:Nat=>C7 n s_) 4611686018427387904 2=some (if isF n then .next () else .out false):=by
    refine Mt 8 (fun i s=>s=i+2∧Tp n s=true) (by omega) _ ⟨rfl,by simp [Tp,List.range_succ]⟩ ?_ ?_
    · rintro i s hi ⟨hs,hd⟩;unfold C7;have hm:((s:Int)*(s:Int))=((s*s:Nat):Int):=by simp
      have hss:s*s<=9*9:=Nat.mul_le_mul (by omega) (by omega);rw [hm,Cs (by omega) (by omega)];by_cases hle:s*s<=n
      · rw [Cr (by omega),cond_true,Aw (by omega),show Int.tmod (n:Int) (s:Int)=((n % s:Nat):Int) from by rw [Int.tmod_eq_emod_of_nonneg (by omega)]; rfl];by_cases h0:n % s=0
        · refine .inr ?_;rw [h0,Ad6 n (by omega) s (by omega) (by omega) hle h0]; rfl
        · refine .inl ⟨s+1,?_,by omega,Xn hd h0⟩;rw [show (((n % s:Nat):Int)==0)=false from by rw [beq_eq_false_iff_ne]; omega,cond_false,Aw (by omega)]
      · refine .inr ?_;rw [B0 (by omega),cond_false,Tv n (by omega) (by omega) s (by omega) hd (by omega)]; rfl
    · rintro s ⟨hs,hd⟩;obtain rfl:s=10:=by omega
      unfold C7;rw [show wI (((10:Nat):Int)*((10:Nat):Int))=100 from Cs (by omega) (by omega),B0 (by omega),cond_false,Tv n (by omega) (by omega) 10 (by omega) hd (by omega)]; rfl
  rw [h,Mg]
theorem Wd (p x:Int):Da p x=some (inR x 0 (p - 1)):=by
  unfold Da inR;by_cases h:0<=x
  · simp [h,show (x<p↔x<=p - 1) by omega]
  · simp [h]
theorem Aex (p:Int) (xs:List Int) (hp:2<=p∧p<=97) (hx:xs.length<=1099511627776):Fw p xs=some (xs.all fun x=>inR x 0 (p - 1)):=by
  unfold Fw;rw [Cs (by omega) (by omega),Adu _ _ _ hx]; rfl
theorem Yz (p:Int) (xs:List Int) (n:Int) (hx:xs.length<=1099511627776):Dt p xs n=some (((xs.length:Nat):Int)==n&&xs.all fun x=>inR x 0 (p - 1)):=by
  unfold Dt;cases hn:((xs.length:Nat):Int)==n
  · rw [show (((xs.length:Nat):Int) !=n)=true by simp only [bne,hn,Bool.not_false]]; rfl
  rw [show (((xs.length:Nat):Int) !=n)=false by simp only [bne,hn,Bool.not_true],cond_false];rw [Kl xs (fun x=>inR x 0 (p - 1)) (.next ()) (.out false) (by omega) (fun i x h=>?_) ?_,Mg,Bool.true_and]
  · unfold Dn;rw [B0 (by omega),cond_false]
  · have:=Be h;unfold Dn;rw [Cr (by omega),cond_true,h,obs,Wd,obs,Aw (by omega)];cases inR x 0 (p - 1) <;> rfl
theorem Afy {p x:Int} (hp:2<=p∧p<=97):Ha p x=some (x % p):=by
  unfold Ha;rw [Aw (by omega)]
  have e1:x.tmod p=if 0<=x∨x % p=0 then x % p else x % p - p:=by
    simp only [Int.tmod_eq_emod,Int.dvd_iff_emod_eq_zero];split <;> simp <;> omega
  have h1:=Int.emod_nonneg x (show p≠0 by omega);have h2:=Int.emod_lt_of_pos x (show 0<p by omega);by_cases h:x.tmod p<0
  · rw [Cr h,cond_true,obs,Cs (by omega) (by omega)];congr 1;split at e1 <;> omega
  · rw [B0 h,cond_false,obs];congr 1;split at e1 <;> omega
theorem Adi (xs:List Int) (h:xs.length<=1000000):Fo xs=some xs:=by
  unfold Fo;rw [Aw (by omega)]
theorem Zi (xs:List Int) (h:xs.length<=1000000):Et xs=some xs:=by
  unfold Et;rw [Aw (by omega)]
theorem Acw {p x y:Int} (hp:2<=p∧p<=97) (hx:0<=x∧x<p) (hy:0<=y∧y<p):0<=x*y∧x*y<=10000:=by
  refine ⟨Int.mul_nonneg hx.1 hy.1,?_⟩;have h1:x*y<=97*y:=Int.mul_le_mul_of_nonneg_right (by omega) hy.1;omega
theorem Zs {p x y:Int} (hp:2<=p∧p<=97) (hx:0<=x∧x<p) (hy:0<=y∧y<p):Em p x y=some ((x*y) % p):=by
  have:=Acw hp hx hy;unfold Em;rw [Aw (by omega),Cs (by omega) (by omega),Int.tmod_eq_emod_of_nonneg (by omega)]
end Go.Proofs.YtehocbbnjfmgaaaDoor

namespace Go.Proofs.YtehocbbnjfmgaaaDoor

theorem Aec {p x y:Int} (hp:2<=p∧p<=97) (hx:0<=x∧x<p) (hy:0<=y∧y<p):Fk p x y=some ((x - y) % p):=by
  unfold Fk;rw [Aw (by omega),Cs (n:=x+p) (by omega) (by omega),Cs (by omega) (by omega),Int.tmod_eq_emod_of_nonneg (by omega),show x+p - y=x - y+p by omega,Int.add_emod_right]
/-- A loop that writes a row anew. -/
theorem Z1 {ρ:Type} {body:Nat×List Int->Option (Ctl (Nat×List Int) ρ)} {x y:List Int} {o:ρ} (hl:y.length=x.length) (hb:x.length<4611686018427387904)
    (hs:∀ j (h:j<x.length) (z:List Int),z[j]? =some x[j]->body (j,z)=some (.next (j+1,z.set j (y[j]'(by omega))))) (he:body (x.length,y)=some (.out o)) :
    A6 body 4611686018427387904 (0,x)=some o:=by
  refine Bl x.length (fun j=>(j,y.take j++x.drop j)) hb _ rfl (fun j hj=>?_) ?_
  · have h1:(y.take j).length=j:=by rw [List.length_take]; omega
    rw [hs j hj _ (Oc hj h1),Oa hj h1,List.take_add_one,gEg (by omega)]; rfl
  · rw [List.drop_length,List.append_nil,← hl,List.take_length,hl]; exact he
theorem Ro {p f:Int} {x v:List Int} {j:Nat} (h:j<(G3 p f x v).length):(G3 p f x v)[j]=(x[j]'(by simp [G3] at h; omega) - f*v[j]'(by simp [G3] at h; omega)) % p:=by simp [G3]
theorem Rx {p:Int} {w j:Nat} {x:List Int} (hx:VecW p w x) (hj:j<x.length):0<=x[j]∧x[j]<p:=hx.2 _ (List.getElem_mem hj)
theorem My {p:Int} {w j:Nat} {x:List Int} (hx:VecW p w x) (hj:j<w):0<=x.getD j 0∧x.getD j 0<p∧x[j]? =some (x.getD j 0):=by
  have h:j<x.length:=by rw [hx.1]; exact hj
  have e:x[j]? =some x[j]:=gEg h;rw [Ml e];exact ⟨(Rx hx h).1,(Rx hx h).2,e⟩
theorem Adv {p f a b:Int}:(a - f*b % p) % p=(a - f*b) % p:=by rw [Int.sub_emod_emod]
section
variable {p:Int} {w:Nat} {m:List (List Int)}
end
end Go.Proofs.YtehocbbnjfmgaaaDoor

namespace Go.Proofs.YtehocbbnjfmgaaaDoor

theorem VecW.tk {p:Int} {w u:Nat} {x:List Int} (h:VecW p w x) (hu:u<=w):VecW p u (x.take u):=⟨by rw [List.length_take,h.1]; omega,fun a ha=>h.2 a (List.mem_of_mem_take ha)⟩
theorem MatW.tk {p:Int} {w u:Nat} {m:List (List Int)} (h:MatW p w m) (hu:u<=w):MatW p u (m.map (·.take u)):=fun x hx=>by
  obtain ⟨y,hy,rfl⟩:=List.mem_map.1 hx;exact (h y hy).tk hu
section
variable {p:Int} {w:Nat} {m:List (List Int)}
theorem Wc (hm:MatW p w m) (hw:w<=100000) (hl:m.length<=100000):Dz m=some m:=by
  unfold Dz;have h:=Aaz (body:=fun s_:Nat×List (List Int)=>Ci m s_.1 s_.2) m id [] (F:=4611686018427387904) (by omega) m (fun i x h=>?_) ?_
  · rw [Aw (by omega),show List.replicate 0 ([]:List Int)=[] from rfl,show A6 (fun s_:Nat×List (List Int)=>Ci m s_.1 s_.2) 4611686018427387904 (0,[])=some m by simpa using h]; rfl
  · have:=Be h;have hx:=(hm x (List.mem_of_getElem? h)).1
    try dsimp only
    unfold Ci;rw [Cr (by omega),cond_true,h,obs,Adi _ (by omega),obs,Aw (by simp; omega),Aw (by omega)]; rfl
  · try dsimp only
    unfold Ci;rw [B0 (by omega),cond_false,List.map_id,List.nil_append]
end
end Go.Proofs.YtehocbbnjfmgaaaDoor

namespace Go.Proofs.YtehocbbnjfmgaaaDoor

def Y1 (p n:Int) (b:List (List Int)):Bool:=b.all fun x=>((x.length:Nat):Int)==n&&x.all fun a=>inR a 0 (p - 1)
theorem Kd {a lo hi:Int}:inR a lo hi=true↔lo<=a∧a<=hi:=by simp [inR]
theorem Aah {p:Int} {n:Nat} {b:List (List Int)} (h:Y1 p n b=true):MatW p n b:=by
  intro x hx;have h1:=List.all_eq_true.1 h x hx;simp only [Bool.and_eq_true,beq_iff_eq,List.all_eq_true,Kd] at h1;exact ⟨by omega,fun a ha=>by have:=h1.2 a ha; omega⟩
theorem Acf (p n:Int) (b:List (List Int)) (hp:2<=p∧p<=97) (hb:b.length<=1048576) (hr:Gd 1048576 b):Ey p n b=some (Y1 p n b):=by
  unfold Ey;rw [Kl b (fun x=>((x.length:Nat):Int)==n&&x.all fun a=>inR a 0 (p - 1)) (.next ()) (.out false) (by omega) (fun i x h=>?_) ?_,Mg]; rfl
  · unfold Eo;rw [B0 (by omega),cond_false]
  · have:=Be h;have hx:=hr x (List.mem_of_getElem? h);unfold Eo;rw [Cr (by omega),cond_true,h,obs];cases hc:((x.length:Nat):Int)==n
    · rw [show (((x.length:Nat):Int) !=n)=true by simp only [bne,hc,Bool.not_false],cond_true,obs,cond_true,Bool.false_and]; rfl
    · rw [show (((x.length:Nat):Int) !=n)=false by simp only [bne,hc,Bool.not_true],cond_false,Aex p x hp (by omega),obs,obs,Bool.true_and,Aw (by omega)];cases x.all fun a=>inR a 0 (p - 1) <;> rfl
theorem V3 (p n:Int) (b:List (List Int)) (hb:b.length<=1048576) (hr:Gd 1048576 b):C5 p b n=some (Y1 p n b):=by
  unfold C5;rw [Kl b (fun x=>((x.length:Nat):Int)==n&&x.all fun a=>inR a 0 (p - 1)) (.next ()) (.out false) (by omega) (fun i x h=>?_) ?_,Mg]; rfl
  · unfold Cx;rw [B0 (by omega),cond_false]
  · have:=Be h;have hx:=hr x (List.mem_of_getElem? h);unfold Cx;rw [Cr (by omega),cond_true,h,obs,Yz p x n (by omega),obs,Aw (by omega)];cases ((x.length:Nat):Int)==n&&x.all fun a=>inR a 0 (p - 1) <;> rfl
end Go.Proofs.YtehocbbnjfmgaaaDoor

