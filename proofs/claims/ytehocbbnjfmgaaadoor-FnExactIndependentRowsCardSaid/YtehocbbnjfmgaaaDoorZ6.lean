/- Lemmas on the program and on partial functions that stand in place of its code (part 6); no condition beyond those that each one states. -/
import Derived.Test.YtehocbbnjfmgaaaDoorZ5
import Derived.KernelRfl
namespace Go.Proofs.YtehocbbnjfmgaaaDoor
open Go.RowKit Go.Deep
set_option maxRecDepth 4000
def Js:AC :=
 (.seq (.seq (rg [xo 12 (qm (tm 5)),xo 13 (qm (tm 0)),xo 14 (.i (.len (tm 13))),xo 15 (qb .lss (tm 12) (tm 14))])
 (.cond (tm 15)
  .skip
  (.exit 0)))
 (.seq (.block 1 (.seq (rg [xo 18 (qm (tm 0)),xo 19 (qm (tm 5)),xo 20 (qx 1 (tm 18) (tm 19)),xo 21 (ql (tm 20)),xo 22 (qm (tm 1)),xo 23 (qc 33 [tm 21,tm 22] [[some .int],[]]),xo 1 (qm (tm 23))])
 (.seq (rg [xo 24 (qm (tm 1)),xo 25 (qb .lss (tm 24) (ci 0))])
 (.cond (tm 25)
  (.seq (rg [xo 4 (qm (ci (-1)))])
  .ret)
  .skip))))
 (rg [xo 16 (qm (tm 5)),xo 17 (qb .add (tm 16) (ci 1)),xo 5 (qm (tm 17))])))
def Ma:AC :=
 (.seq (rg [xo 4 (qm (ci 0))])
 (.seq (rg [xo 6 (qm (tm 1)),xo 7 (qm (tm 0)),xo 8 (.i (.len (tm 7))),xo 9 (qb .sub (tm 6) (tm 8)),xo 1 (qm (tm 9))])
 (.seq (.seq (rg [xo 10 (qm (tm 1)),xo 11 (qb .lss (tm 10) (ci 0))])
 (.cond (tm 11)
  (.seq (rg [xo 4 (qm (ci (-1)))])
  .ret)
  .skip))
 (.seq (.seq (rg [xo 5 (qm (ci 0))])
 (.block 0 (.loop Js)))
 (.seq (rg [xo 26 (qm (tm 1)),xo 4 (qm (tm 26))])
 .ret)))))
def Tx:List Res:=[.tmp 4]
theorem Vd:Ap Tryd.prog Tryd.f14=some (Ma,Tx):=by kernel_rfl
def Di (a0:List (List Int)) (l9_m1:Int) (l9_m5:Nat):Option (Ctl (Int×Nat) (Ctl Int Int)) :=
 cond (decide (((l9_m5:Nat):Int)<((a0.length:Nat):Int)))
 (Option.bind (a0[l9_m5]?) fun x15 =>
 Option.bind (Ga x15 l9_m1) fun y16 =>
 cond (decide (y16<0))
  (some (Ctl.out (Ctl.out (-1))))
  (og (l9_m5+1<4611686018427387904) <|
  some (Ctl.next (y16,l9_m5+1))))
 (some (Ctl.out (Ctl.next l9_m1)))
def E7 (a0:List (List Int)) (a1:Int):Option Int :=
 cond (decide (wI (a1 - ((a0.length:Nat):Int))<0))
 (some (-1))
 (M9 (A1 (fun s_:Int×Nat=>Di a0 s_.1 s_.2) 4611686018427387904 (wI (a1 - ((a0.length:Nat):Int)),0)) fun l7_m1 =>
 some l7_m1)
def Rt (r:Int):RV:=⟨false,[(false,[.sc (.int .i64 r)])]⟩
theorem Rw {a0:List (List Int)} {a1:Int} {r:Int} (h:E7 a0 a1=some r):A6 Tryd.prog Tab 14 [.tree (.slice .int) a0,ai a1] (Rt r):=by
 refine A5 (by kernel_rfl) Tryd.func14 Vd (n:=27) (by kernel_rfl) (by simp) (tl:=[(0,.tree (.slice .int) a0),(1,ai a1)]) rfl ?_;unfold Ma;unfold E7 at h;refine Am ?_;refine Am ?_;refine Ab ?_;refine Am ?_;rcases Ad h with ⟨q5,h⟩ | ⟨q5,h⟩
 ·have q5_:=of_decide_eq_true q5;refine Ag q5 ?_;refine Am ?_;refine Ak (tr_ ?_);obtain rfl:=zj h;exact Bl [ai (-1)] (A7 rfl zl A8)
 have q5_:=of_decide_eq_false q5;refine Ah q5 ?_;refine Aj (tn_ ?_);refine wr_ ?_;refine Ds h (fun (l7_m1:Int) S_=>S_=⟨Al [(1,ai l7_m1)],Af (Ao []),2⟩) ?_ ?_
 ·intro v_ h hk7;refine Am ?_;refine Ai ?_;refine Az h (fun t_ S_=>∃ (l9_m1:Int),∃ (l9_m5:Nat),t_=(l9_m1,l9_m5)∧S_=⟨Al [(0,.tree (.slice .int) a0),(1,ai l9_m1),(5,ai ((l9_m5:Nat):Int))],Af (Ao []),2⟩) ⟨_,Ac [],⟨wI (a1 - ((a0.length:Nat):Int)),0,rfl,rfl⟩⟩ ?_;rintro n_ _ _ c_ ⟨l9_m1,l9_m5,rfl,rfl⟩ h hn9
  (try dsimp only at h);unfold Di at h;unfold Js;refine Ab ?_;refine Am ?_;rcases Ad h with ⟨q12,h⟩ | ⟨q12,h⟩
  ·have q12_:=of_decide_eq_true q12;refine Ag q12 ?_;refine Aj (tn_ ?_);refine wr_ ?_;refine Ab ?_;refine Ai ?_;refine Ab ?_;obtain ⟨x15,e15,h⟩:=Ae h;obtain ⟨y16,h16,h⟩:=Ae h;refine Aa 13 ?_;refine rz0 (.tree (.slice .int) a0) ?_;refine rz0 (ai ((l9_m5:Nat):Int)) ?_;refine rs0 (.telt none (.slice .int) x15 0) (zi (t:=.slice .int) (xs:=a0) (k:=.i64) (m:=((l9_m5:Nat):Int)) (A0 _) e15) ?_;refine rz0 (.tree .int x15) ?_;refine rz0 (ai l9_m1) ?_;refine zc (ai y16) [] [.tree .int x15,ai l9_m1] (Tz h16) ?_;refine rsB 1 ?_;refine As (tn_ ?_);refine wr_ ?_;refine Am ?_;rcases Ad h with ⟨q18,h⟩ | ⟨q18,h⟩
   ·have q18_:=of_decide_eq_true q18;refine Ag q18 ?_;refine Am ?_;refine Ak (br_ (tr_ (tr_ (br_ (tr_ ?_)))));obtain rfl:=zj h;have h:=hn9
    (try dsimp only at h);obtain rfl:=zj h;have h:=hk7
    (try dsimp only at h);obtain rfl:=zj h;exact Bl [ai (-1)] (A7 rfl zl A8)
   have q18_:=of_decide_eq_false q18;refine Ah q18 ?_;refine Aj (bn_ (tn_ ?_));refine wr_ ?_;obtain ⟨g20,h⟩:=Aq h;refine Aa 18 ?_;refine rz0 (ai ((l9_m5:Nat):Int)) ?_;refine rs0 (ai ((l9_m5+1:Nat):Int)) (za g20) ?_;refine rsB 1 ?_;refine As (tn_ ?_);obtain rfl:=zj h;exact ⟨(y16,l9_m5+1),_,Ac [],⟨y16,l9_m5+1,rfl,rfl⟩,hn9⟩
  have q12_:=of_decide_eq_false q12;refine Ah q12 ?_;refine Ax (te_ (te_ (be_ (tn_ ?_))));obtain rfl:=zj h;have h:=hn9
  (try dsimp only at h);obtain rfl:=zj h;exact ⟨l9_m1,_,rfl,Ac [],rfl⟩
 rintro l7_m1 _ rfl h
 (try dsimp only at h);refine Am ?_;refine Ak ?_;obtain rfl:=zj h;exact Bl [ai l7_m1] (A7 rfl zl A8)
def Jk:AC :=
 (.seq (.seq (rg [xo 8 (qm (tm 4)),xo 9 (qm (tm 0)),xo 10 (.i (.len (tm 9))),xo 11 (qb .lss (tm 8) (tm 10))])
 (.cond (tm 11)
  .skip
  (.exit 0)))
 (.seq (.block 1 (rg [xo 14 (qm (tm 3)),xo 15 (qm (tm 4)),xo 16 (qm (tm 0)),xo 17 (qm (tm 4)),xo 18 (qx 1 (tm 16) (tm 17)),xo 19 (ql (tm 18)),xo 20 (qc 38 [tm 19] [[some .int]]),xo 21 (qx 1 (tm 14) (tm 15)),xn (qs (tm 21) (tm 20))]))
 (rg [xo 12 (qm (tm 4)),xo 13 (qb .add (tm 12) (ci 1)),xo 4 (qm (tm 13))])))
def L9:AC :=
 (.seq (rg [xo 2 (qm (.cst .nils))])
 (.seq (rg [xo 5 (qm (tm 0)),xo 6 (.i (.len (tm 5))),xo 7 (.makeV 39 (.slice .int) 24 [.nils] (tm 6) (tm 6)),xo 3 (qm (tm 7))])
 (.seq (.seq (rg [xo 4 (qm (ci 0))])
 (.block 0 (.loop Jk)))
 (.seq (rg [xo 22 (qm (tm 3)),xo 2 (qm (tm 22))])
 .ret))))
def Tb:List Res:=[.tmp 2]
theorem Ug:Ap Tryd.prog Tryd.f17=some (L9,Tb):=by kernel_rfl
theorem Sn:A2 Tryd.prog 17=true:=by kernel_rfl
def Dl (a0:List (List Int)) (l7_m4:Nat) (l7_m3:List (List Int)):Option (Ctl (Nat×List (List Int)) (List (List Int))) :=
 cond (decide (((l7_m4:Nat):Int)<((a0.length:Nat):Int)))
 (Option.bind (a0[l7_m4]?) fun x12 =>
 Option.bind (F8 x12) fun y13 =>
 Option.bind (l7_m3[l7_m4]?) fun x14 =>
 og (l7_m4+1<4611686018427387904) <|
 some (Ctl.next (l7_m4+1,l7_m3.set l7_m4 y13)))
 (some (Ctl.out l7_m3))
def E4 (a0:List (List Int)):Option (List (List Int)) :=
 og (0<=((a0.length:Nat):Int)∧((a0.length:Nat):Int)<=((a0.length:Nat):Int)∧((a0.length:Nat):Int)<=1073741824∧(24:Int)*((a0.length:Nat):Int)<=140737488355328) <|
Option.bind (A1 (fun s_:Nat×List (List Int)=>Dl a0 s_.1 s_.2) 4611686018427387904 (0,List.replicate a0.length ([]:List Int))) fun l5_m3 =>
some l5_m3
theorem R4 {a0:List (List Int)} {r:List (List Int)} (h:E4 a0=some r):Eg Tryd.prog Tab 17 [.tree (.slice .int) a0] [] (.own (oi 0 1) (.slice .int) 0 r.length) [(oi 0 1,.mat 39 (oi 1 1) .int r),(oi 1 1,.pool 3 .int r)]:=by
 refine Cn (by kernel_rfl) Tryd.func17 Ug (n:=23) (by kernel_rfl) (by simp) (tl:=[(0,.tree (.slice .int) a0)]) rfl (by kernel_rfl) trivial ⟨⟨3,.tail _ (.head _)⟩,⟨trivial,trivial⟩⟩ ?_;unfold L9;unfold E4 at h;refine Am ?_;refine Ab ?_;obtain ⟨g4,h⟩:=Aq h;refine Aa 6 ?_;refine rz0 (.tree (.slice .int) a0) ?_;refine rz0 (ai ((a0.length:Nat):Int)) ?_;refine Acw (.own (oi 112 4) (.slice .int) 0 a0.length) (oi 112 4) 39 3 .int (List.replicate a0.length ([]:List Int)) trivial (Ya (j:=a0.length) (k:=.i64) (k':=.i64) (m:=((a0.length:Nat):Int)) (c:=((a0.length:Nat):Int)) 3 (by kernel_rfl) (by kernel_rfl) g4 (by kernel_rfl) rfl) (by kernel_rfl) (by rw [List.length_replicate]) (by kernel_rfl) ?_;refine rsB 1 ?_;refine As (tn_ ?_);refine wr_ ?_;refine Ay h (fun (l5_m3:List (List Int)) S_=>S_=⟨Al [(3,.own (oi 0 1) (.slice .int) 0 l5_m3.length)],Af (Ao [(oi 0 1,.mat 39 (oi 1 1) .int l5_m3),(oi 1 1,.pool 3 .int l5_m3)]),2⟩) ?_ ?_
 ·intro v_ h;refine Am ?_;refine Ai ?_;refine Az h (fun t_ S_=>∃ (l7_m4:Nat),∃ (l7_m3:List (List Int)),t_=(l7_m4,l7_m3)∧S_=⟨Al [(0,.tree (.slice .int) a0),(3,.own (oi 0 1) (.slice .int) 0 l7_m3.length),(4,ai ((l7_m4:Nat):Int))],Af (Ao [(oi 0 1,.mat 39 (oi 1 1) .int l7_m3),(oi 1 1,.pool 3 .int l7_m3)]),2⟩) ⟨_,(Bn 3 (.own (oi 112 4) (.slice .int) 0 a0.length) (.own (oi 112 4) (.slice .int) 0 ((List.replicate a0.length ([]:List Int)).length)) (by kernel_rfl) (congrArg (fun z_=>((.own (oi 112 4) (.slice .int) 0 z_):AV)) (List.length_replicate.symm:a0.length=(List.replicate a0.length ([]:List Int)).length))).trans (Ac [(oi 0 1,oi 112 4),(oi 1 1,oi 112 4)]),⟨0,List.replicate a0.length ([]:List Int),rfl,rfl⟩⟩ ?_;rintro n_ _ _ c_ ⟨l7_m4,l7_m3,rfl,rfl⟩ h hn7
  (try dsimp only at h);unfold Dl at h;unfold Jk;refine Ab ?_;refine Am ?_;rcases Ad h with ⟨q10,h⟩ | ⟨q10,h⟩
  ·have q10_:=of_decide_eq_true q10;refine Ag q10 ?_;refine Aj (tn_ ?_);refine wr_ ?_;refine Ab ?_;refine Ai ?_;obtain ⟨x12,e12,h⟩:=Ae h;obtain ⟨y13,h13,h⟩:=Ae h;obtain ⟨x14,e14,h⟩:=Ae h;refine Aa 15 ?_;refine rz0 (.own (oi 0 1) (.slice .int) 0 l7_m3.length) ?_;refine rz0 (ai ((l7_m4:Nat):Int)) ?_;refine rz0 (.tree (.slice .int) a0) ?_;refine rz0 (ai ((l7_m4:Nat):Int)) ?_;refine rs0 (.telt none (.slice .int) x12 0) (zi (t:=.slice .int) (xs:=a0) (k:=.i64) (m:=((l7_m4:Nat):Int)) (A0 _) e12) ?_;refine rz0 (.tree .int x12) ?_;refine zc (.own (oi 320 12) .int 0 y13.length) [(oi 320 12,some (.arr 3 .int y13))] [.tree .int x12] (Un h13) ?_;refine rs0 (.elt (oi 0 1) l7_m4 0) (zo (t:=.slice .int) (o:=oi 0 1) (len:=l7_m3.length) (k:=.i64) (m:=((l7_m4:Nat):Int)) (A0 _) (At e14)) ?_;refine Afl (oi 0 1) (oi 0 1) (.vec 39 1 l7_m3.length ((hdL (oi 1 1) .int l7_m3).set l7_m4 (.own (oi 320 12) .int 0 y13.length))) (Aaj (o:=oi 0 1) (e1:=39) (m:=l7_m3.length) (cs:=hdL (oi 1 1) .int l7_m3) (v:=.own (oi 320 12) .int 0 y13.length) (j:=l7_m4) (by kernel_rfl) (by kernel_rfl) (by kernel_rfl) rfl (by rw [Dj]; exact At e14)) ?_;refine As (bn_ (tn_ ?_));refine ⟨_,Afr (e1:=39) (e:=3) (u:=.int) (n:=l7_m3.length) (len:=y13.length) (row:=y13) (ys:=y13) (xss:=l7_m3) (j:=l7_m4) 9000 (oi 0 1) (oi 1 1) (oi 320 12) (by kernel_rfl) (by kernel_rfl) rfl (by kernel_rfl) (by kernel_rfl) (Ad7 rfl) (Aep rfl) (by kernel_rfl) (by kernel_rfl) (by kernel_rfl),?_⟩;obtain ⟨g15,h⟩:=Aq h;refine Aa 19 ?_;refine rz0 (ai ((l7_m4:Nat):Int)) ?_;refine rs0 (ai ((l7_m4+1:Nat):Int)) (za g15) ?_;refine rsB 1 ?_;refine As (tn_ ?_);obtain rfl:=zj h;exact ⟨(l7_m4+1,l7_m3.set l7_m4 y13),_,(Bn 3 (.own (oi 0 1) (.slice .int) 0 l7_m3.length) (.own (oi 0 1) (.slice .int) 0 ((l7_m3.set l7_m4 y13).length)) (by kernel_rfl) (congrArg (fun z_=>((.own (oi 0 1) (.slice .int) 0 z_):AV)) ((Eq.trans (b:=l7_m3.length) rfl List.length_set.symm):l7_m3.length=(l7_m3.set l7_m4 y13).length))).trans (Ac [(oi 1 1,oi 9000 15)]),⟨l7_m4+1,l7_m3.set l7_m4 y13,rfl,rfl⟩,hn7⟩
  have q10_:=of_decide_eq_false q10;refine Ah q10 ?_;refine Ax (te_ (te_ (be_ (tn_ ?_))));obtain rfl:=zj h;have h:=hn7
  (try dsimp only at h);obtain rfl:=zj h;exact ⟨_,Ac [],rfl⟩
 rintro l5_m3 _ rfl h
 (try dsimp only at h);refine Am ?_;refine Ak ?_;obtain rfl:=zj h;exact Gq [.own (oi 0 1) (.slice .int) 0 l5_m3.length] (Ac (tl:=[(2,.own (oi 0 1) (.slice .int) 0 l5_m3.length)]) (g:=2) [])
def Jn:AC :=
 (.seq (.seq (rg [xo 11 (qm (tm 5)),xo 12 (qm (tm 0)),xo 13 (.i (.len (tm 12))),xo 14 (qb .lss (tm 11) (tm 13))])
 (.cond (tm 14)
  .skip
  (.exit 0)))
 (.seq (.block 1 (.seq (.region [xo 17 (qm (tm 0)),xo 18 (qm (tm 5)),xo 19 (qx 1 (tm 17) (tm 18)),xo 20 (ql (tm 19)),xo 21 (qm (tm 1)),xo 22 (qm (tm 5)),xo 23 (qx 1 (tm 21) (tm 22)),xo 24 (ql (tm 23)),xo 25 (qc 46 [tm 20,tm 24] [[some .int],[some .int]]),xo 26 (.i (.not (tm 25)))] true [])
 (.cond (tm 26)
  (.seq (rg [xo 4 (qm (cb false))])
  .ret)
  .skip)))
 (rg [xo 15 (qm (tm 5)),xo 16 (qb .add (tm 15) (ci 1)),xo 5 (qm (tm 16))])))
def Mj:AC :=
 (.seq (rg [xo 4 (qm (cb false))])
 (.seq (.seq (rg [xo 6 (qm (tm 0)),xo 7 (.i (.len (tm 6))),xo 8 (qm (tm 1)),xo 9 (.i (.len (tm 8))),xo 10 (qb .neq (tm 7) (tm 9))])
 (.cond (tm 10)
  (.seq (rg [xo 4 (qm (cb false))])
  .ret)
  .skip))
 (.seq (.seq (rg [xo 5 (qm (ci 0))])
 (.block 0 (.loop Jn)))
 (.seq (rg [xo 4 (qm (cb true))])
 .ret))))
def T0:List Res:=[.tmp 4]
theorem Ta:Ap Tryd.prog Tryd.f21=some (Mj,T0):=by kernel_rfl
def Dk (a0:List (List Int)) (a1:List (List Int)) (l8_m5:Nat):Option (Ctl Nat (Ctl Unit Bool)) :=
 cond (decide (((l8_m5:Nat):Int)<((a0.length:Nat):Int)))
 (Option.bind (a0[l8_m5]?) fun x14 =>
 Option.bind (a1[l8_m5]?) fun x15 =>
 Option.bind (F6 x14 x15) fun y16 =>
 cond (!y16)
  (some (Ctl.out (Ctl.out false)))
  (og (l8_m5+1<4611686018427387904) <|
  some (Ctl.next (l8_m5+1))))
 (some (Ctl.out (Ctl.next ())))
def Fd (a0:List (List Int)) (a1:List (List Int)):Option Bool :=
 cond (((a0.length:Nat):Int) !=((a1.length:Nat):Int))
 (some false)
 (M9 (A1 (fun s_:Nat=>Dk a0 a1 s_) 4611686018427387904 0) fun _ =>
 some true)
def Si (r:Bool):RV:=⟨false,[(false,[.sc (.bool r)])]⟩
theorem Rx {a0:List (List Int)} {a1:List (List Int)} {r:Bool} (h:Fd a0 a1=some r):A6 Tryd.prog Tab 21 [.tree (.slice .int) a0,.tree (.slice .int) a1] (Si r):=by
 refine A5 (by kernel_rfl) Tryd.func21 Ta (n:=27) (by kernel_rfl) (by simp) (tl:=[(0,.tree (.slice .int) a0),(1,.tree (.slice .int) a1)]) rfl ?_;unfold Mj;unfold Fd at h;refine Am ?_;refine Ab ?_;refine Am ?_;rcases Ad h with ⟨q4,h⟩ | ⟨q4,h⟩
 ·refine Ag q4 ?_;refine Am ?_;refine Ak (tr_ ?_);obtain rfl:=zj h;exact Bl [.bool false] (A7 rfl zl A8)
 refine Ah q4 ?_;refine Aj (tn_ ?_);refine wr_ ?_;refine Ds h (fun (_:Unit) S_=>S_=⟨Al [],Af (Ao []),2⟩) ?_ ?_
 ·intro v_ h hk6;refine Am ?_;refine Ai ?_;refine Az h (fun (l8_m5:Nat) S_=>S_=⟨Al [(0,.tree (.slice .int) a0),(1,.tree (.slice .int) a1),(5,ai ((l8_m5:Nat):Int))],Af (Ao []),2⟩) ⟨_,Ac [],rfl⟩ ?_;rintro n_ l8_m5 _ c_ rfl h hn8
  (try dsimp only at h);unfold Dk at h;unfold Jn;refine Ab ?_;refine Am ?_;rcases Ad h with ⟨q11,h⟩ | ⟨q11,h⟩
  ·have q11_:=of_decide_eq_true q11;refine Ag q11 ?_;refine Aj (tn_ ?_);refine wr_ ?_;refine Ab ?_;refine Ai ?_;refine Ab ?_;obtain ⟨x14,e14,h⟩:=Ae h;obtain ⟨x15,e15,h⟩:=Ae h;obtain ⟨y16,h16,h⟩:=Ae h;refine Bb 16 ?_;refine dz0 (.tree (.slice .int) a0) ?_;refine dz0 (ai ((l8_m5:Nat):Int)) ?_;refine ds0 (.telt none (.slice .int) x14 0) (zi (t:=.slice .int) (xs:=a0) (k:=.i64) (m:=((l8_m5:Nat):Int)) (A0 _) e14) ?_;refine dz0 (.tree .int x14) ?_;refine dz0 (.tree (.slice .int) a1) ?_;refine dz0 (ai ((l8_m5:Nat):Int)) ?_;refine ds0 (.telt none (.slice .int) x15 0) (zi (t:=.slice .int) (xs:=a1) (k:=.i64) (m:=((l8_m5:Nat):Int)) (A0 _) e15) ?_;refine dz0 (.tree .int x15) ?_;refine Fw (.bool y16) [] [.tree .int x14,.tree .int x15] _ (caps:=[]) (args0:=[.tree .int x14,.tree .int x15]) trivial (by kernel_rfl) (To h16) Tq ?_;refine dz0 (.bool (!y16)) ?_;refine Ky (Bx (by kernel_rfl)) (tn_ ?_);refine wr_ ?_;rcases Ad h with ⟨q17,h⟩ | ⟨q17,h⟩
   ·refine Ag q17 ?_;refine Am ?_;refine Ak (br_ (tr_ (tr_ (br_ (tr_ ?_)))));obtain rfl:=zj h;have h:=hn8
    (try dsimp only at h);obtain rfl:=zj h;have h:=hk6
    (try dsimp only at h);obtain rfl:=zj h;exact Bl [.bool false] (A7 rfl zl A8)
   refine Ah q17 ?_;refine Aj (bn_ (tn_ ?_));refine wr_ ?_;obtain ⟨g19,h⟩:=Aq h;refine Aa 19 ?_;refine rz0 (ai ((l8_m5:Nat):Int)) ?_;refine rs0 (ai ((l8_m5+1:Nat):Int)) (za g19) ?_;refine rsB 1 ?_;refine As (tn_ ?_);obtain rfl:=zj h;exact ⟨l8_m5+1,_,Ac [],rfl,hn8⟩
  have q11_:=of_decide_eq_false q11;refine Ah q11 ?_;refine Ax (te_ (te_ (be_ (tn_ ?_))));obtain rfl:=zj h;have h:=hn8
  (try dsimp only at h);obtain rfl:=zj h;exact ⟨(),_,rfl,Ac [],rfl⟩
 rintro _ _ rfl h
 (try dsimp only at h);refine Am ?_;refine Ak ?_;obtain rfl:=zj h;exact Bl [.bool true] (A7 rfl zl A8)
def Hz:AC :=
 (.seq (.seq (rg [xo 6 (qm (tm 5)),xo 7 (qm (tm 0)),xo 8 (.i (.len (tm 7))),xo 9 (qb .lss (tm 6) (tm 8))])
 (.cond (tm 9)
  .skip
  (.exit 0)))
 (.seq (.block 1 (rg [xo 12 (qm (tm 0)),xo 13 (qm (tm 5)),xo 14 (qx 1 (tm 12) (tm 13)),xo 15 (ql (tm 14)),xo 16 (qm (tm 1)),xo 17 (qc 47 [tm 15,tm 16] [[some .int],[]]),xo 1 (qm (tm 17))]))
 (rg [xo 10 (qm (tm 5)),xo 11 (qb .add (tm 10) (ci 1)),xo 5 (qm (tm 11))])))
def Kn:AC :=
 (.seq (rg [xo 4 (qm (ci 0))])
 (.seq (.seq (rg [xo 5 (qm (ci 0))])
 (.block 0 (.loop Hz)))
 (.seq (rg [xo 18 (qm (tm 1)),xo 4 (qm (tm 18))])
 .ret)))
def Qt:List Res:=[.tmp 4]
theorem Qc:Ap Tryd.prog Tryd.f22=some (Kn,Qt):=by kernel_rfl
theorem Po:A2 Tryd.prog 22=true:=by kernel_rfl
def Cr  (l5_m1:Int) (l5_m5:Nat) (l5_m0:List (List Int)):Option (Ctl (Int×Nat×List (List Int)) (Int×List (List Int))) :=
 cond (decide (((l5_m5:Nat):Int)<((l5_m0.length:Nat):Int)))
 (Option.bind (l5_m0[l5_m5]?) fun x10 =>
 Option.bind (Eu x10 l5_m1) fun y11 =>
 og (y11.1.length=x10.length) <|
 og (l5_m5+1<4611686018427387904) <|
 some (Ctl.next (y11.2,l5_m5+1,l5_m0.set l5_m5 y11.1)))
 (some (Ctl.out (l5_m1,l5_m0)))
def Dx (a0:List (List Int)) (a1:Int):Option (List (List Int)×Int) :=
 Option.bind (A1 (fun s_:Int×Nat×List (List Int)=>Cr s_.1 s_.2.1 s_.2.2) 4611686018427387904 (a1,0,a0)) fun (l3_m1,l3_p0) =>
some (l3_p0,l3_m1)
theorem Pq {a0:List (List Int)} {a1:Int} {r:List (List Int)×Int} (h:Dx a0 a1=some r) {n_a0:Nat} (hn_a0:n_a0=a0.length):Eg Tryd.prog Tab 22 [.own (oi 0 0) (.slice .int) 0 n_a0,ai a1] [(oi 0 0,.mat 39 (oi 1 0) .int a0),(oi 1 0,.pool 3 .int a0)] (ai r.2) [(oi 0 0,.mat 39 (oi 0 1) .int r.1),(oi 0 1,.pool 3 .int r.1)]:=by
 refine Cn (by kernel_rfl) Tryd.func22 Qc (n:=19) (by kernel_rfl) (by simp) (tl:=[(0,.own (oi 0 0) (.slice .int) 0 n_a0),(1,ai a1)]) rfl (by kernel_rfl) ⟨⟨3,.tail _ (.head _)⟩,⟨trivial,trivial⟩⟩ ⟨⟨3,.tail _ (.head _)⟩,⟨trivial,trivial⟩⟩ ?_;unfold Kn;unfold Dx at h;refine Am ?_;refine Ay h (fun t_ S_=>∃ (l3_m1:Int),∃ (l3_p0:List (List Int)),t_=(l3_m1,l3_p0)∧S_=⟨Al [(1,ai l3_m1)],Af (Ao [(oi 0 0,.mat 39 (oi 0 1) .int l3_p0),(oi 0 1,.pool 3 .int l3_p0)]),2⟩) ?_ ?_
 ·intro v_ h;refine Am ?_;refine Ai ?_;refine Az h (fun t_ S_=>∃ (l5_m1:Int),∃ (l5_m5:Nat),∃ (l5_m0:List (List Int)),t_=(l5_m1,l5_m5,l5_m0)∧S_=⟨Al [(0,.own (oi 0 0) (.slice .int) 0 l5_m0.length),(1,ai l5_m1),(5,ai ((l5_m5:Nat):Int))],Af (Ao [(oi 0 0,.mat 39 (oi 0 1) .int l5_m0),(oi 0 1,.pool 3 .int l5_m0)]),2⟩) ⟨_,(Bn 0 (.own (oi 0 0) (.slice .int) 0 n_a0) (.own (oi 0 0) (.slice .int) 0 a0.length) (by kernel_rfl) (congrArg (fun z_=>((.own (oi 0 0) (.slice .int) 0 z_):AV)) (hn_a0:n_a0=a0.length))).trans (Ac [(oi 0 1,oi 1 0)]),⟨a1,0,a0,rfl,rfl⟩⟩ ?_;rintro n_ _ _ c_ ⟨l5_m1,l5_m5,l5_m0,rfl,rfl⟩ h hn5
  (try dsimp only at h);unfold Cr at h;unfold Hz;refine Ab ?_;refine Am ?_;rcases Ad h with ⟨q8,h⟩ | ⟨q8,h⟩
  ·have q8_:=of_decide_eq_true q8;refine Ag q8 ?_;refine Aj (tn_ ?_);refine wr_ ?_;refine Ab ?_;refine Ai ?_;obtain ⟨x10,e10,h⟩:=Ae h;obtain ⟨y11,h11,h⟩:=Ae h;obtain ⟨g12,h⟩:=Aq h;refine Aa 13 ?_;refine rz0 (.own (oi 0 0) (.slice .int) 0 l5_m0.length) ?_;refine rz0 (ai ((l5_m5:Nat):Int)) ?_;refine rs0 (.elt (oi 0 0) l5_m5 0) (zo (t:=.slice .int) (o:=oi 0 0) (len:=l5_m0.length) (k:=.i64) (m:=((l5_m5:Nat):Int)) (A0 _) (At e10)) ?_;refine rsl (.own (kid (oi 0 1) l5_m5) .int 0 x10.length) (Eo (o:=oi 0 0) (p:=oi 0 1) (e1:=39) (u:=.int) (xss:=l5_m0) (row:=x10) (j:=l5_m5) (by kernel_rfl) (by kernel_rfl) e10) ?_;refine rz0 (ai l5_m1) ?_;refine Dn (ai y11.2) [(kid (oi 0 1) l5_m5,some (.arr 3 .int y11.1)),(kid (oi 0 1) l5_m5,none)] [(oi 0 0,kid (oi 0 1) l5_m5)] [.own (kid (oi 0 1) l5_m5) .int 0 x10.length,ai l5_m1] (caps:=[]) trivial (Rd h11 rfl) Qo ⟨Xa (by kernel_rfl) e10,trivial⟩ (.cons (.ren (by kernel_rfl)) (.cons (.ren (by kernel_rfl)) .nil)) (A9 (by kernel_rfl) (by kernel_rfl) ⟨.arg (by simp [AV.nmsL,AV.nms,Bc]),trivial⟩) ?_;refine Amw (Vg (o:=oi 0 0) (p:=oi 0 1) (e1:=39) (e:=3) (u:=.int) (xss:=l5_m0) (k:=l5_m5) (row:=x10) (row':=y11.1) (by kernel_rfl) rfl (by kernel_rfl) e10 g12) ?_;refine rsB 1 ?_;refine As (bn_ (tn_ ?_));refine wr_ ?_;obtain ⟨g13,h⟩:=Aq h;refine Aa 16 ?_;refine rz0 (ai ((l5_m5:Nat):Int)) ?_;refine rs0 (ai ((l5_m5+1:Nat):Int)) (za g13) ?_;refine rsB 1 ?_;refine As (tn_ ?_);obtain rfl:=zj h;exact ⟨(y11.2,l5_m5+1,l5_m0.set l5_m5 y11.1),_,(Bn 0 (.own (oi 0 0) (.slice .int) 0 l5_m0.length) (.own (oi 0 0) (.slice .int) 0 ((l5_m0.set l5_m5 y11.1).length)) (by kernel_rfl) (congrArg (fun z_=>((.own (oi 0 0) (.slice .int) 0 z_):AV)) ((Eq.trans (b:=l5_m0.length) rfl List.length_set.symm):l5_m0.length=(l5_m0.set l5_m5 y11.1).length))).trans (Ac []),⟨y11.2,l5_m5+1,l5_m0.set l5_m5 y11.1,rfl,rfl⟩,hn5⟩
  have q8_:=of_decide_eq_false q8;refine Ah q8 ?_;refine Ax (te_ (te_ (be_ (tn_ ?_))));obtain rfl:=zj h;have h:=hn5
  (try dsimp only at h);obtain rfl:=zj h;exact ⟨_,Ac [],⟨l5_m1,l5_m0,rfl,rfl⟩⟩
 rintro _ _ ⟨l3_m1,l3_p0,rfl,rfl⟩ h
 (try dsimp only at h);refine Am ?_;refine Ak ?_;obtain rfl:=zj h;exact Gq [ai l3_m1] (Ac (tl:=[(4,ai l3_m1)]) (g:=2) [])
def Hs:AC :=
 (.seq (.seq (rg [xo 6 (qm (tm 5)),xo 7 (qm (tm 0)),xo 8 (.i (.len (tm 7))),xo 9 (qb .lss (tm 6) (tm 8))])
 (.cond (tm 9)
  .skip
  (.exit 0)))
 (.seq (.block 1 (.seq (rg [xo 12 (qm (tm 0)),xo 13 (qm (tm 5)),xo 14 (qx 1 (tm 12) (tm 13)),xo 15 (ql (tm 14)),xo 16 (qm (tm 1)),xo 17 (qc 48 [tm 15,tm 16] [[some .int],[]]),xo 1 (qm (tm 17))])
 (.seq (rg [xo 18 (qm (tm 1)),xo 19 (qb .lss (tm 18) (ci 0))])
 (.cond (tm 19)
  (.seq (rg [xo 4 (qm (ci (-1)))])
  .ret)
  .skip))))
 (rg [xo 10 (qm (tm 5)),xo 11 (qb .add (tm 10) (ci 1)),xo 5 (qm (tm 11))])))
def Ki:AC :=
 (.seq (rg [xo 4 (qm (ci 0))])
 (.seq (.seq (rg [xo 5 (qm (ci 0))])
 (.block 0 (.loop Hs)))
 (.seq (rg [xo 20 (qm (tm 1)),xo 4 (qm (tm 20))])
 .ret)))
def Qq:List Res:=[.tmp 4]
theorem Qm:Ap Tryd.prog Tryd.f23=some (Ki,Qq):=by kernel_rfl
def Cs (a0:List (List Int)) (l4_m1:Int) (l4_m5:Nat):Option (Ctl (Int×Nat) (Ctl Int Int)) :=
 cond (decide (((l4_m5:Nat):Int)<((a0.length:Nat):Int)))
 (Option.bind (a0[l4_m5]?) fun x10 =>
 Option.bind (Ef x10 l4_m1) fun y11 =>
 cond (decide (y11<0))
  (some (Ctl.out (Ctl.out (-1))))
  (og (l4_m5+1<4611686018427387904) <|
  some (Ctl.next (y11,l4_m5+1))))
 (some (Ctl.out (Ctl.next l4_m1)))
def Dy (a0:List (List Int)) (a1:Int):Option Int :=
 M9 (A1 (fun s_:Int×Nat=>Cs a0 s_.1 s_.2) 4611686018427387904 (a1,0)) fun l2_m1 =>
some l2_m1
def Pt (r:Int):RV:=⟨false,[(false,[.sc (.int .i64 r)])]⟩
theorem O3 {a0:List (List Int)} {a1:Int} {r:Int} (h:Dy a0 a1=some r):A6 Tryd.prog Tab 23 [.tree (.slice .int) a0,ai a1] (Pt r):=by
 refine A5 (by kernel_rfl) Tryd.func23 Qm (n:=21) (by kernel_rfl) (by simp) (tl:=[(0,.tree (.slice .int) a0),(1,ai a1)]) rfl ?_;unfold Ki;unfold Dy at h;refine Am ?_;refine Ds h (fun (l2_m1:Int) S_=>S_=⟨Al [(1,ai l2_m1)],Af (Ao []),2⟩) ?_ ?_
 ·intro v_ h hk2;refine Am ?_;refine Ai ?_;refine Az h (fun t_ S_=>∃ (l4_m1:Int),∃ (l4_m5:Nat),t_=(l4_m1,l4_m5)∧S_=⟨Al [(0,.tree (.slice .int) a0),(1,ai l4_m1),(5,ai ((l4_m5:Nat):Int))],Af (Ao []),2⟩) ⟨_,Ac [],⟨a1,0,rfl,rfl⟩⟩ ?_;rintro n_ _ _ c_ ⟨l4_m1,l4_m5,rfl,rfl⟩ h hn4
  (try dsimp only at h);unfold Cs at h;unfold Hs;refine Ab ?_;refine Am ?_;rcases Ad h with ⟨q7,h⟩ | ⟨q7,h⟩
  ·have q7_:=of_decide_eq_true q7;refine Ag q7 ?_;refine Aj (tn_ ?_);refine wr_ ?_;refine Ab ?_;refine Ai ?_;refine Ab ?_;obtain ⟨x10,e10,h⟩:=Ae h;obtain ⟨y11,h11,h⟩:=Ae h;refine Aa 13 ?_;refine rz0 (.tree (.slice .int) a0) ?_;refine rz0 (ai ((l4_m5:Nat):Int)) ?_;refine rs0 (.telt none (.slice .int) x10 0) (zi (t:=.slice .int) (xs:=a0) (k:=.i64) (m:=((l4_m5:Nat):Int)) (A0 _) e10) ?_;refine rz0 (.tree .int x10) ?_;refine rz0 (ai l4_m1) ?_;refine zc (ai y11) [] [.tree .int x10,ai l4_m1] (Q5 h11) ?_;refine rsB 1 ?_;refine As (tn_ ?_);refine wr_ ?_;refine Am ?_;rcases Ad h with ⟨q13,h⟩ | ⟨q13,h⟩
   ·have q13_:=of_decide_eq_true q13;refine Ag q13 ?_;refine Am ?_;refine Ak (br_ (tr_ (tr_ (br_ (tr_ ?_)))));obtain rfl:=zj h;have h:=hn4
    (try dsimp only at h);obtain rfl:=zj h;have h:=hk2
    (try dsimp only at h);obtain rfl:=zj h;exact Bl [ai (-1)] (A7 rfl zl A8)
   have q13_:=of_decide_eq_false q13;refine Ah q13 ?_;refine Aj (bn_ (tn_ ?_));refine wr_ ?_;obtain ⟨g15,h⟩:=Aq h;refine Aa 18 ?_;refine rz0 (ai ((l4_m5:Nat):Int)) ?_;refine rs0 (ai ((l4_m5+1:Nat):Int)) (za g15) ?_;refine rsB 1 ?_;refine As (tn_ ?_);obtain rfl:=zj h;exact ⟨(y11,l4_m5+1),_,Ac [],⟨y11,l4_m5+1,rfl,rfl⟩,hn4⟩
  have q7_:=of_decide_eq_false q7;refine Ah q7 ?_;refine Ax (te_ (te_ (be_ (tn_ ?_))));obtain rfl:=zj h;have h:=hn4
  (try dsimp only at h);obtain rfl:=zj h;exact ⟨l4_m1,_,rfl,Ac [],rfl⟩
 rintro l2_m1 _ rfl h
 (try dsimp only at h);refine Am ?_;refine Ak ?_;obtain rfl:=zj h;exact Bl [ai l2_m1] (A7 rfl zl A8)
def Lj:AC :=
 (.seq (rg [xo 2 (.i (.box 24 (tm 0))),xo 4 (qm (ci 0))])
 (.seq (rg [xo 5 (qf 2 (tm 2)),xo 6 (ql (tm 5)),xo 7 (qm (tm 1)),xo 8 (qc 14 [tm 6,tm 7] [[some (.slice .int)],[]]),xo 1 (qm (tm 8))])
 (.seq (.seq (rg [xo 9 (qm (tm 1)),xo 10 (qb .lss (tm 9) (ci 0))])
 (.cond (tm 10)
  (.seq (rg [xo 4 (qm (ci (-1)))])
  .ret)
  .skip))
 (.seq (rg [xo 11 (qm (tm 1)),xo 4 (qm (tm 11))])
 .ret))))
def Sm:List Res:=[.tmp 4]
theorem Rz:Ap Tryd.prog Tryd.f5=some (Lj,Sm):=by kernel_rfl
def Es (a0_0:Int) (a0_1:Int) (a0_2:List (List Int)) (a1:Int):Option Int :=
 Option.bind (E7 a0_2 a1) fun y3 =>
cond (decide (y3<0))
 (some (-1))
 (some y3)
def Qz (r:Int):RV:=⟨false,[(false,[.sc (.int .i64 r)])]⟩
theorem Qj {a0_0:Int} {a0_1:Int} {a0_2:List (List Int)} {a1:Int} {r:Int} (h:Es a0_0 a0_1 a0_2 a1=some r):A6 Tryd.prog Tab 5 [.agg [ai a0_0,ai a0_1,.tree (.slice .int) a0_2],ai a1] (Qz r):=by
 refine A5 (by kernel_rfl) Tryd.func5 Rz (n:=12) (by kernel_rfl) (by simp) (tl:=[(0,.agg [ai a0_0,ai a0_1,.tree (.slice .int) a0_2]),(1,ai a1)]) rfl ?_;unfold Lj;unfold Es at h;refine Am ?_;refine Ab ?_;obtain ⟨y3,h3,h⟩:=Ae h;refine Aa 8 ?_;refine rz0 (.box (oi 2 1) 2) ?_;refine rzl (.tree (.slice .int) a0_2) ?_;refine rz0 (ai a1) ?_;refine zc (ai y3) [] [.tree (.slice .int) a0_2,ai a1] (Rw h3) ?_;refine rsB 1 ?_;refine As (tn_ ?_);refine wr_ ?_;refine Ab ?_;refine Am ?_;rcases Ad h with ⟨q6,h⟩ | ⟨q6,h⟩
 ·have q6_:=of_decide_eq_true q6;refine Ag q6 ?_;refine Am ?_;refine Ak (tr_ ?_);obtain rfl:=zj h;exact Bl [ai (-1)] (A7 rfl zl A8)
 have q6_:=of_decide_eq_false q6;refine Ah q6 ?_;refine Aj (tn_ ?_);refine wr_ ?_;refine Am ?_;refine Ak ?_;obtain rfl:=zj h;exact Bl [ai y3] (A7 rfl zl A8)
def Lg:AC :=
 (.seq (rg [xo 1 (.i (.box 24 (tm 0))),xo 2 (.i (.alloc 26 [.int .i64 0,.int .i64 0,.nils]))])
 (.seq (rg [xo 3 (.i (.alloc 26 [.int .i64 0,.int .i64 0,.nils]))])
 (.seq (rg [xo 4 (qf 0 (tm 1)),xo 5 (ql (tm 4)),xo 6 (qf 0 (tm 3)),xn (qs (tm 6) (tm 5))])
 (.seq (rg [xo 7 (qf 1 (tm 1)),xo 8 (ql (tm 7)),xo 9 (qf 1 (tm 3)),xn (qs (tm 9) (tm 8))])
 (.seq (rg [xo 10 (qf 2 (tm 1)),xo 11 (ql (tm 10)),xo 12 (qc 17 [tm 11] [[some (.slice .int)]]),xo 13 (qf 2 (tm 3)),xn (qs (tm 13) (tm 12))])
 (.seq (rg [xo 14 (.i (.ld false 3 (tm 3))),xn (.st false 3 (tm 2) (tm 14))])
 .ret))))))
def Rr:List Res:=[.cell 2 false 3]
theorem Sc:Ap Tryd.prog Tryd.f7=some (Lg,Rr):=by kernel_rfl
theorem Fs:A2 Tryd.prog 7=true:=by kernel_rfl
def B4 (a0_0:Int) (a0_1:Int) (a0_2:List (List Int)):Option (List (List Int)) :=
 Option.bind (E4 a0_2) fun y7 =>
some y7
theorem Fj {a0_0:Int} {a0_1:Int} {a0_2:List (List Int)} {r:List (List Int)} (h:B4 a0_0 a0_1 a0_2=some r):Eg Tryd.prog Tab 7 [.agg [ai a0_0,ai a0_1,.tree (.slice .int) a0_2]] [] (.agg [ai a0_0,ai a0_1,.own (oi 1 1) (.slice .int) 0 r.length]) [(oi 0 1,.cells 26 [ai a0_0,ai a0_1,.own (oi 1 1) (.slice .int) 0 r.length]),(oi 1 1,.mat 39 (oi 2 1) .int r),(oi 2 1,.pool 3 .int r)]:=by
 refine Cn (by kernel_rfl) Tryd.func7 Sc (n:=15) (by kernel_rfl) (by simp) (tl:=[(0,.agg [ai a0_0,ai a0_1,.tree (.slice .int) a0_2])]) rfl (by kernel_rfl) trivial ⟨trivial,⟨⟨3,.tail _ (.tail _ (.head _))⟩,⟨trivial,trivial⟩⟩⟩ ?_;unfold Lg;unfold B4 at h;refine Am ?_;refine Am ?_;refine Am ?_;refine Am ?_;refine Ab ?_;obtain ⟨y7,h7,h⟩:=Ae h;refine Aa 17 ?_;refine rz0 (.box (oi 1 1) 2) ?_;refine rzl (.tree (.slice .int) a0_2) ?_;refine Dn (.own (oi 192 14) (.slice .int) 0 y7.length) [(oi 192 14,some (.mat 39 (oi 193 14) .int y7)),(oi 193 14,some (.pool 3 .int y7))] [] [.tree (.slice .int) a0_2] (caps:=[]) trivial (R4 h7) Sn trivial (.cons (.ren (by kernel_rfl)) .nil) (A9 (by kernel_rfl) (by kernel_rfl) trivial) ?_;refine rsB 2 ?_;refine As (tn_ ?_);refine wr_ ?_;refine Am ?_;refine Ak ?_;obtain rfl:=zj h;exact Gq [.agg [ai a0_0,ai a0_1,.own (oi 1 1) (.slice .int) 0 y7.length]] (Ac (tl:=[(2,.box (oi 0 1) 0)]) (g:=2) [(oi 0 1,oi 2 2),(oi 1 1,oi 192 14),(oi 2 1,oi 193 14)])
def La:AC :=
 (.seq (rg [xo 2 (.i (.box 26 (tm 0))),xo 3 (.i (.box 26 (tm 1))),xo 4 (qm (cb false))])
 (.seq (.seq (rg [xo 5 (qf 0 (tm 2)),xo 6 (ql (tm 5)),xo 7 (qf 0 (tm 3)),xo 8 (ql (tm 7)),xo 9 (qb .neq (tm 6) (tm 8))])
 (.cond (tm 9)
  (.seq (rg [xo 4 (qm (cb false))])
  .ret)
  .skip))
 (.seq (.seq (rg [xo 10 (qf 1 (tm 2)),xo 11 (ql (tm 10)),xo 12 (qf 1 (tm 3)),xo 13 (ql (tm 12)),xo 14 (qb .neq (tm 11) (tm 13))])
 (.cond (tm 14)
  (.seq (rg [xo 4 (qm (cb false))])
  .ret)
  .skip))
 (.seq (.seq (rg [xo 15 (qf 2 (tm 2)),xo 16 (ql (tm 15)),xo 17 (qf 2 (tm 3)),xo 18 (ql (tm 17)),xo 19 (qc 21 [tm 16,tm 18] [[some (.slice .int)],[some (.slice .int)]]),xo 20 (.i (.not (tm 19)))])
 (.cond (tm 20)
  (.seq (rg [xo 4 (qm (cb false))])
  .ret)
  .skip))
 (.seq (rg [xo 4 (qm (cb true))])
 .ret)))))
def R8:List Res:=[.tmp 4]
theorem Sh:Ap Tryd.prog Tryd.f9=some (La,R8):=by kernel_rfl
theorem Cb:A2 Tryd.prog 9=true:=by kernel_rfl
def B5 (a0_0:Int) (a0_1:Int) (a0_2:List (List Int)) (a1_0:Int) (a1_1:Int) (a1_2:List (List Int)):Option Bool :=
 cond (a0_0 !=a1_0)
 (some false)
 (cond (a0_1 !=a1_1)
  (some false)
  (Option.bind (Fd a0_2 a1_2) fun y12 =>
  cond (!y12)
   (some false)
   (some true)))
def Qs (r:Bool):RV:=⟨false,[(false,[.sc (.bool r)])]⟩
theorem Cd {a0_0:Int} {a0_1:Int} {a0_2:List (List Int)} {a1_0:Int} {a1_1:Int} {a1_2:List (List Int)} {r:Bool} (h:B5 a0_0 a0_1 a0_2 a1_0 a1_1 a1_2=some r):A6 Tryd.prog Tab 9 [.agg [ai a0_0,ai a0_1,.tree (.slice .int) a0_2],.agg [ai a1_0,ai a1_1,.tree (.slice .int) a1_2]] (Qs r):=by
 refine A5 (by kernel_rfl) Tryd.func9 Sh (n:=21) (by kernel_rfl) (by simp) (tl:=[(0,.agg [ai a0_0,ai a0_1,.tree (.slice .int) a0_2]),(1,.agg [ai a1_0,ai a1_1,.tree (.slice .int) a1_2])]) rfl ?_;unfold La;unfold B5 at h;refine Am ?_;refine Ab ?_;refine Am ?_;rcases Ad h with ⟨q4,h⟩ | ⟨q4,h⟩
 ·refine Ag q4 ?_;refine Am ?_;refine Ak (tr_ ?_);obtain rfl:=zj h;exact Bl [.bool false] (A7 rfl zl A8)
 refine Ah q4 ?_;refine Aj (tn_ ?_);refine wr_ ?_;refine Ab ?_;refine Am ?_;rcases Ad h with ⟨q8,h⟩ | ⟨q8,h⟩
 ·refine Ag q8 ?_;refine Am ?_;refine Ak (tr_ ?_);obtain rfl:=zj h;exact Bl [.bool false] (A7 rfl zl A8)
 refine Ah q8 ?_;refine Aj (tn_ ?_);refine wr_ ?_;refine Ab ?_;refine Ab ?_;obtain ⟨y12,h12,h⟩:=Ae h;refine Aa 20 ?_;refine rz0 (.box (oi 2 1) 2) ?_;refine rzl (.tree (.slice .int) a0_2) ?_;refine rz0 (.box (oi 3 2) 2) ?_;refine rzl (.tree (.slice .int) a1_2) ?_;refine zc (.bool y12) [] [.tree (.slice .int) a0_2,.tree (.slice .int) a1_2] (Rx h12) ?_;refine rsB 1 ?_;refine As (tn_ ?_);refine wr_ ?_;rcases Ad h with ⟨q13,h⟩ | ⟨q13,h⟩
 ·refine Ag q13 ?_;refine Am ?_;refine Ak (tr_ ?_);obtain rfl:=zj h;exact Bl [.bool false] (A7 rfl zl A8)
 refine Ah q13 ?_;refine Aj (tn_ ?_);refine wr_ ?_;refine Am ?_;refine Ak ?_;obtain rfl:=zj h;exact Bl [.bool true] (A7 rfl zl A8)
def Jp:AC :=
 (.seq (rg [xo 2 (.i (.box 26 (tm 0))),xo 4 (qm (ci 0))])
 (.seq (rg [xo 5 (qf 2 (tm 2)),xo 6 (ql (tm 5)),xo 7 (qm (tm 1)),xo 8 (qc 22 [tm 6,tm 7] [[some (.slice .int)],[]]),xo 1 (qm (tm 8))])
 (.seq (rg [xo 9 (qm (tm 1)),xo 4 (qm (tm 9))])
 .ret)))
def O6:List Res:=[.tmp 4]
theorem O4:Ap Tryd.prog Tryd.f10=some (Jp,O6):=by kernel_rfl
theorem Ib:A2 Tryd.prog 10=true:=by kernel_rfl
def Co (a0_0:Int) (a0_1:Int) (a0_2:List (List Int)) (a1:Int):Option (List (List Int)×Int) :=
 Option.bind (Dx a0_2 a1) fun y4 =>
og (y4.1.length=(a0_2.length)) <|
some (y4.1,y4.2)
theorem Ja {a0_0:Int} {a0_1:Int} {a0_2:List (List Int)} {a1:Int} {r:List (List Int)×Int} (h:Co a0_0 a0_1 a0_2 a1=some r) {n_a0_2:Nat} (hn_a0_2:n_a0_2=a0_2.length):Eg Tryd.prog Tab 10 [.agg [ai a0_0,ai a0_1,.own (oi 0 0) (.slice .int) 0 n_a0_2],ai a1] [(oi 0 0,.mat 39 (oi 1 0) .int a0_2),(oi 1 0,.pool 3 .int a0_2)] (ai r.2) [(oi 0 0,.mat 39 (oi 0 1) .int r.1),(oi 0 1,.pool 3 .int r.1)]:=by
 refine Cn (by kernel_rfl) Tryd.func10 O4 (n:=10) (by kernel_rfl) (by simp) (tl:=[(0,.agg [ai a0_0,ai a0_1,.own (oi 0 0) (.slice .int) 0 n_a0_2]),(1,ai a1)]) rfl (by kernel_rfl) ⟨⟨3,.tail _ (.head _)⟩,⟨trivial,trivial⟩⟩ ⟨⟨3,.tail _ (.head _)⟩,⟨trivial,trivial⟩⟩ ?_;unfold Jp;unfold Co at h
 (try rw [← hn_a0_2] at h)
 refine Am ?_;refine Ab ?_;obtain ⟨y4,h4,h⟩:=Ae h;obtain ⟨g5,h⟩:=Aq h;refine Aa 8 ?_;refine rz0 (.box (oi 2 1) 2) ?_;refine rzl (.own (oi 0 0) (.slice .int) 0 n_a0_2) ?_;refine rz0 (ai a1) ?_;refine Dn (ai y4.2) [(oi 0 0,some (.mat 39 (oi 128 6) .int y4.1)),(oi 128 6,some (.pool 3 .int y4.1)),(oi 0 0,none),(oi 1 0,some (.pool 3 .int []))] [] [.own (oi 0 0) (.slice .int) 0 n_a0_2,ai a1] (caps:=[]) trivial (Pq h4 hn_a0_2) Po ⟨by kernel_rfl,⟨by kernel_rfl,trivial⟩⟩ (.cons (.ren (by kernel_rfl)) (.cons (.ren (by kernel_rfl)) .nil)) (A9 (by kernel_rfl) (by kernel_rfl) ⟨Bj (by kernel_rfl),⟨E0 (o:=oi 0 0) (p:=oi 1 0) (e1:=39) (m:=a0_2.length) (u:=.int) (xss:=a0_2) (Bj (by kernel_rfl)) (by kernel_rfl),trivial⟩⟩) ?_;refine rsB 1 ?_;refine As (tn_ ?_);refine wr_ ?_;refine Am ?_;refine Ak ?_;obtain rfl:=zj h;exact Gq [ai y4.2] (Ac (tl:=[(4,ai y4.2)]) (g:=2) [(oi 0 1,oi 128 6)])
def Ju:AC :=
 (.seq (rg [xo 2 (.i (.box 26 (tm 0))),xo 4 (qm (ci 0))])
 (.seq (rg [xo 5 (qf 2 (tm 2)),xo 6 (ql (tm 5)),xo 7 (qm (tm 1)),xo 8 (qc 23 [tm 6,tm 7] [[some (.slice .int)],[]]),xo 1 (qm (tm 8))])
 (.seq (.seq (rg [xo 9 (qm (tm 1)),xo 10 (qb .lss (tm 9) (ci 0))])
 (.cond (tm 10)
  (.seq (rg [xo 4 (qm (ci (-1)))])
  .ret)
  .skip))
 (.seq (rg [xo 11 (qm (tm 1)),xo 4 (qm (tm 11))])
 .ret))))
def Pb:List Res:=[.tmp 4]
theorem P0:Ap Tryd.prog Tryd.f11=some (Ju,Pb):=by kernel_rfl
theorem I5:A2 Tryd.prog 11=true:=by kernel_rfl
def Cp (a0_0:Int) (a0_1:Int) (a0_2:List (List Int)) (a1:Int):Option Int :=
 Option.bind (Dy a0_2 a1) fun y3 =>
cond (decide (y3<0))
 (some (-1))
 (some y3)
def Nz (r:Int):RV:=⟨false,[(false,[.sc (.int .i64 r)])]⟩
theorem Ix {a0_0:Int} {a0_1:Int} {a0_2:List (List Int)} {a1:Int} {r:Int} (h:Cp a0_0 a0_1 a0_2 a1=some r):A6 Tryd.prog Tab 11 [.agg [ai a0_0,ai a0_1,.tree (.slice .int) a0_2],ai a1] (Nz r):=by
 refine A5 (by kernel_rfl) Tryd.func11 P0 (n:=12) (by kernel_rfl) (by simp) (tl:=[(0,.agg [ai a0_0,ai a0_1,.tree (.slice .int) a0_2]),(1,ai a1)]) rfl ?_;unfold Ju;unfold Cp at h;refine Am ?_;refine Ab ?_;obtain ⟨y3,h3,h⟩:=Ae h;refine Aa 8 ?_;refine rz0 (.box (oi 2 1) 2) ?_;refine rzl (.tree (.slice .int) a0_2) ?_;refine rz0 (ai a1) ?_;refine zc (ai y3) [] [.tree (.slice .int) a0_2,ai a1] (O3 h3) ?_;refine rsB 1 ?_;refine As (tn_ ?_);refine wr_ ?_;refine Ab ?_;refine Am ?_;rcases Ad h with ⟨q6,h⟩ | ⟨q6,h⟩
 ·have q6_:=of_decide_eq_true q6;refine Ag q6 ?_;refine Am ?_;refine Ak (tr_ ?_);obtain rfl:=zj h;exact Bl [ai (-1)] (A7 rfl zl A8)
 have q6_:=of_decide_eq_false q6;refine Ah q6 ?_;refine Aj (tn_ ?_);refine wr_ ?_;refine Am ?_;refine Ak ?_;obtain rfl:=zj h;exact Bl [ai y3] (A7 rfl zl A8)
def J9:AC :=
 (.seq (rg [xo 12 (qb .lss (tm 11) (tm 10))])
 (.seq (.cond (tm 12)
  .skip
  (.exit 0))
 (.seq (.block 1 (.seq (rg [xo 13 (qx 1 (tm 9) (tm 11)),xo 14 (ql (tm 13)),xo 8 (qm (tm 14))])
 (.seq (rg [xo 15 (qm (tm 8)),xo 16 (.i (.len (tm 15))),xo 17 (qm (tm 1)),xo 18 (qb .neq (tm 16) (tm 17)),xo 19 (qm (tm 18)),⟨some 20,some (19,false),qm (tm 0)⟩,⟨some 21,some (19,false),qm (tm 8)⟩,⟨some 22,some (19,false),qc 59 [tm 20,tm 21] [[],[some .int]]⟩,⟨some 23,some (19,false),.i (.not (tm 22))⟩,xo 24 (.i (.pick (tm 19) (cb true) (tm 23)))])
 (.cond (tm 24)
  (.seq (rg [xo 6 (qm (cb false))])
  .ret)
  .skip))))
 (rg [xo 25 (qb .add (tm 11) (ci 1)),xo 11 (qm (tm 25))]))))
def Nd:AC :=
 (.seq (rg [xo 6 (qm (cb false))])
 (.seq (.seq (rg [xo 9 (qm (tm 2)),xo 10 (.i (.len (tm 9))),xo 11 (qm (ci 0))])
 (.block 0 (.loop J9)))
 (.seq (rg [xo 6 (qm (cb true))])
 .ret)))
def Wk:List Res:=[.tmp 6]
theorem V9:Ap Tryd.prog Tryd.f36=some (Nd,Wk):=by kernel_rfl
theorem U4:A2 Tryd.prog 36=true:=by kernel_rfl
def Fn (a2:List (List Int)) (a1:Int) (a0:Int) (l4_m11:Nat):Option (Ctl Nat (Ctl Unit Bool)) :=
 cond (decide (((l4_m11:Nat):Int)<((a2.length:Nat):Int)))
 (Option.bind (a2[l4_m11]?) fun x10 =>
 Option.bind (cond (((x10.length:Nat):Int) !=a1)
   (some true)
   (Option.bind (He a0 x10) fun y13 =>
   some (!y13))) fun l11_m24 =>
 cond l11_m24
  (some (Ctl.out (Ctl.out false)))
  (og (l4_m11+1<4611686018427387904) <|
  some (Ctl.next (l4_m11+1))))
 (some (Ctl.out (Ctl.next ())))
def F7 (a0:Int) (a1:Int) (a2:List (List Int)):Option Bool :=
 M9 (A1 (fun s_:Nat=>Fn a2 a1 a0 s_) 4611686018427387904 0) fun _ =>
some true
def Uo (r:Bool):RV:=⟨false,[(false,[.sc (.bool r)])]⟩
theorem S9 {a0:Int} {a1:Int} {a2:List (List Int)} {r:Bool} (h:F7 a0 a1 a2=some r):A6 Tryd.prog Tab 36 [ai a0,ai a1,.tree (.slice .int) a2] (Uo r):=by
 refine A5 (by kernel_rfl) Tryd.func36 V9 (n:=26) (by kernel_rfl) (by simp) (tl:=[(0,ai a0),(1,ai a1),(2,.tree (.slice .int) a2)]) rfl ?_;unfold Nd;unfold F7 at h;refine Am ?_;refine Ds h (fun (_:Unit) S_=>S_=⟨Al [],Af (Ao []),2⟩) ?_ ?_
 ·intro v_ h hk2;refine Am ?_;refine Ai ?_;refine Az h (fun (l4_m11:Nat) S_=>S_=⟨Al [(0,ai a0),(1,ai a1),(9,.tree (.slice .int) a2),(10,ai ((a2.length:Nat):Int)),(11,ai ((l4_m11:Nat):Int))],Af (Ao []),2⟩) ⟨_,Ac [],rfl⟩ ?_;rintro n_ l4_m11 _ c_ rfl h hn4
  (try dsimp only at h);unfold Fn at h;unfold J9;refine Am ?_;refine Ab ?_;rcases Ad h with ⟨q7,h⟩ | ⟨q7,h⟩
  ·have q7_:=of_decide_eq_true q7;refine Ag q7 ?_;refine Aj (tn_ ?_);refine wr_ ?_;refine Ab ?_;refine Ai ?_;refine Ab ?_;obtain ⟨x10,e10,h⟩:=Ae h;refine Aa 6 ?_;refine rs0 (.telt none (.slice .int) x10 0) (zi (t:=.slice .int) (xs:=a2) (k:=.i64) (m:=((l4_m11:Nat):Int)) (A0 _) e10) ?_;refine rsB 2 ?_;refine As (tn_ ?_);refine wr_ ?_;refine Ay h (fun (l11_m24:Bool) S_=>S_=⟨Al [(0,ai a0),(1,ai a1),(9,.tree (.slice .int) a2),(10,ai ((a2.length:Nat):Int)),(11,ai ((l4_m11:Nat):Int)),(24,.bool l11_m24)],Af (Ao []),2⟩) ?_ ?_
   ·intro v_ h;rcases Ad h with ⟨q12,h⟩ | ⟨q12,h⟩
    ·refine Aa 16 ?_;refine rz0 (.tree .int x10) ?_;refine rz0 (ai ((x10.length:Nat):Int)) ?_;refine rz0 (ai a1) ?_;refine rz0 (.bool (((x10.length:Nat):Int) !=a1)) ?_;refine rz0 (.bool (((x10.length:Nat):Int) !=a1)) ?_;refine zs q12 ?_;refine zs q12 ?_;refine zs q12 ?_;refine zs q12 ?_;refine rs0 (.bool true) (zT q12) ?_;refine As (tn_ ?_);obtain rfl:=zj h;exact ⟨_,Ac [],rfl⟩
    obtain ⟨y13,h13,h⟩:=Ae h;refine Aa 16 ?_;refine rz0 (.tree .int x10) ?_;refine rz0 (ai ((x10.length:Nat):Int)) ?_;refine rz0 (ai a1) ?_;refine rz0 (.bool (((x10.length:Nat):Int) !=a1)) ?_;refine rz0 (.bool (((x10.length:Nat):Int) !=a1)) ?_;refine rs0 (ai a0) (zg q12) ?_;refine rs0 (.tree .int x10) (zg q12) ?_;refine E3 (.bool y13) [] [ai a0,.tree .int x10] _ (caps:=[]) (args0:=[ai a0,.tree .int x10]) (Du (by kernel_rfl) q12) (by kernel_rfl) (Zb h13) Yt ?_;refine rs0 (.bool (!y13)) (zg q12) ?_;refine rs0 (.bool (!y13)) (zF q12) ?_;refine As (tn_ ?_);obtain rfl:=zj h;exact ⟨_,Ac [],rfl⟩
   rintro l11_m24 _ rfl h
   (try dsimp only at h);rcases Ad h with ⟨q14,h⟩ | ⟨q14,h⟩
   ·refine Ag q14 ?_;refine Am ?_;refine Ak (br_ (tr_ (tr_ (br_ (tr_ ?_)))));obtain rfl:=zj h;have h:=hn4
    (try dsimp only at h);obtain rfl:=zj h;have h:=hk2
    (try dsimp only at h);obtain rfl:=zj h;exact Bl [.bool false] (A7 rfl zl A8)
   refine Ah q14 ?_;refine Aj (bn_ (tn_ ?_));refine wr_ ?_;obtain ⟨g16,h⟩:=Aq h;refine Aa 4 ?_;refine rs0 (ai ((l4_m11+1:Nat):Int)) (za g16) ?_;refine rsB 1 ?_;refine As (tn_ ?_);obtain rfl:=zj h;exact ⟨l4_m11+1,_,Ac [],rfl,hn4⟩
  have q7_:=of_decide_eq_false q7;refine Ah q7 ?_;refine Ax (te_ (te_ (be_ (tn_ ?_))));obtain rfl:=zj h;have h:=hn4
  (try dsimp only at h);obtain rfl:=zj h;exact ⟨(),_,rfl,Ac [],rfl⟩
 rintro _ _ rfl h
 (try dsimp only at h);refine Am ?_;refine Ak ?_;obtain rfl:=zj h;exact Bl [.bool true] (A7 rfl zl A8)
def Ns:AC :=
 (.seq (rg [xo 3 (.i (.box 26 (tm 1))),xo 4 (qm (cb false))])
 (.seq (rg [xo 5 (qm (tm 0)),xo 6 (qc 34 [tm 5] [[]]),xo 7 (qm (tm 6)),⟨some 8,some (7,true),qf 0 (tm 3)⟩,⟨some 9,some (7,true),ql (tm 8)⟩,⟨some 10,some (7,true),qc 35 [tm 9,ci 0,ci 24] [[],[],[]]⟩,xo 11 (.i (.pick (tm 7) (tm 10) (cb false))),xo 12 (qm (tm 11)),⟨some 13,some (12,true),qf 1 (tm 3)⟩,⟨some 14,some (12,true),ql (tm 13)⟩,⟨some 15,some (12,true),qc 35 [tm 14,ci 0,ci 100] [[],[],[]]⟩,xo 16 (.i (.pick (tm 12) (tm 15) (cb false))),xo 17 (qm (tm 16)),⟨some 18,some (17,true),qf 2 (tm 3)⟩,⟨some 19,some (17,true),ql (tm 18)⟩,⟨some 20,some (17,true),.i (.len (tm 19))⟩,⟨some 21,some (17,true),qb .leq (tm 20) (ci 160)⟩,xo 22 (.i (.pick (tm 17) (tm 21) (cb false))),xo 23 (qm (tm 22)),⟨some 24,some (23,true),qm (tm 0)⟩,⟨some 25,some (23,true),qf 0 (tm 3)⟩,⟨some 26,some (23,true),ql (tm 25)⟩,⟨some 27,some (23,true),qf 1 (tm 3)⟩,⟨some 28,some (23,true),ql (tm 27)⟩,⟨some 29,some (23,true),qb .add (tm 26) (tm 28)⟩,⟨some 30,some (23,true),qf 2 (tm 3)⟩,⟨some 31,some (23,true),ql (tm 30)⟩,⟨some 32,some (23,true),qc 36 [tm 24,tm 29,tm 31] [[],[],[some (.slice .int)]]⟩,xo 33 (.i (.pick (tm 23) (tm 32) (cb false))),xo 4 (qm (tm 33))])
 .ret))
def Ww:List Res:=[.tmp 4]
theorem W5:Ap Tryd.prog Tryd.f15=some (Ns,Ww):=by kernel_rfl
theorem Td:A2 Tryd.prog 15=true:=by kernel_rfl
def F3 (a0:Int) (a1_0:Int) (a1_1:Int) (a1_2:List (List Int)):Option Bool :=
 Option.bind (Option.bind (F4 a0) fun y3 =>
 cond y3
  (Option.bind (D5 a1_0 0 24) fun y5 =>
  cond y5
   (Option.bind (D5 a1_1 0 100) fun y7 =>
   cond y7
    (cond (decide (((a1_2.length:Nat):Int)<=160))
     (Option.bind (F7 a0 (wI (a1_0+a1_1)) a1_2) fun y10 =>
     some y10)
     (some false))
    (some false))
   (some false))
  (some false)) fun l2_m4 =>
some l2_m4
def Ve (r:Bool):RV:=⟨false,[(false,[.sc (.bool r)])]⟩
theorem Uz {a0:Int} {a1_0:Int} {a1_1:Int} {a1_2:List (List Int)} {r:Bool} (h:F3 a0 a1_0 a1_1 a1_2=some r):A6 Tryd.prog Tab 15 [ai a0,.agg [ai a1_0,ai a1_1,.tree (.slice .int) a1_2]] (Ve r):=by
 refine A5 (by kernel_rfl) Tryd.func15 W5 (n:=34) (by kernel_rfl) (by simp) (tl:=[(0,ai a0),(1,.agg [ai a1_0,ai a1_1,.tree (.slice .int) a1_2])]) rfl ?_;unfold Ns;unfold F3 at h;refine Am ?_;refine Ay h (fun (l2_m4:Bool) S_=>S_=⟨Al [(4,.bool l2_m4)],Af (Ao []),2⟩) ?_ ?_
 ·intro v_ h;obtain ⟨y3,h3,h⟩:=Ae h;rcases Ad h with ⟨q4,h⟩ | ⟨q4,h⟩
  ·obtain ⟨y5,h5,h⟩:=Ae h;rcases Ad h with ⟨q6,h⟩ | ⟨q6,h⟩
   ·obtain ⟨y7,h7,h⟩:=Ae h;rcases Ad h with ⟨q8,h⟩ | ⟨q8,h⟩
    ·rcases Ad h with ⟨q9,h⟩ | ⟨q9,h⟩
     ·have q9_:=of_decide_eq_true q9;obtain ⟨y10,h10,h⟩:=Ae h;refine Aa 33 ?_;refine rz0 (ai a0) ?_;refine zc (.bool y3) [] [ai a0] (Fc h3) ?_;refine rz0 (.bool y3) ?_;refine rs0 (.box (oi 3 1) 0) (zg q4) ?_;refine rsl (ai a1_0) (zg q4) ?_;refine E3 (.bool y5) [] [ai a1_0,ai 0,ai 24] _ (caps:=[]) (args0:=[ai a1_0,ai 0,ai 24]) (Du (by kernel_rfl) q4) (by kernel_rfl) (Cv h5) D8 ?_;refine rs0 (.bool y5) (zT q4) ?_;refine rz0 (.bool y5) ?_;refine rs0 (.box (oi 3 1) 1) (zg q6) ?_;refine rsl (ai a1_1) (zg q6) ?_;refine E3 (.bool y7) [] [ai a1_1,ai 0,ai 100] _ (caps:=[]) (args0:=[ai a1_1,ai 0,ai 100]) (Du (by kernel_rfl) q6) (by kernel_rfl) (Cv h7) D8 ?_;refine rs0 (.bool y7) (zT q6) ?_;refine rz0 (.bool y7) ?_;refine rs0 (.box (oi 3 1) 2) (zg q8) ?_;refine rsl (.tree (.slice .int) a1_2) (zg q8) ?_;refine rs0 (ai ((a1_2.length:Nat):Int)) (zg q8) ?_;refine rs0 (.bool (decide (((a1_2.length:Nat):Int)<=160))) (zg q8) ?_;refine rs0 (.bool (decide (((a1_2.length:Nat):Int)<=160))) (zT q8) ?_;refine rz0 (.bool (decide (((a1_2.length:Nat):Int)<=160))) ?_;refine rs0 (ai a0) (zg q9) ?_;refine rs0 (.box (oi 3 1) 0) (zg q9) ?_;refine rsl (ai a1_0) (zg q9) ?_;refine rs0 (.box (oi 3 1) 1) (zg q9) ?_;refine rsl (ai a1_1) (zg q9) ?_;refine rs0 (ai (wI (a1_0+a1_1))) (zg q9) ?_;refine rs0 (.box (oi 3 1) 2) (zg q9) ?_;refine rsl (.tree (.slice .int) a1_2) (zg q9) ?_;refine E3 (.bool y10) [] [ai a0,ai (wI (a1_0+a1_1)),.tree (.slice .int) a1_2] _ (caps:=[]) (args0:=[ai a0,ai (wI (a1_0+a1_1)),.tree (.slice .int) a1_2]) (Du (by kernel_rfl) q9) (by kernel_rfl) (S9 h10) U4 ?_;refine rs0 (.bool y10) (zT q9) ?_;refine rsB 1 ?_;refine As (tn_ ?_);obtain rfl:=zj h;exact ⟨_,Ac [],rfl⟩
     have q9_:=of_decide_eq_false q9;refine Aa 33 ?_;refine rz0 (ai a0) ?_;refine zc (.bool y3) [] [ai a0] (Fc h3) ?_;refine rz0 (.bool y3) ?_;refine rs0 (.box (oi 3 1) 0) (zg q4) ?_;refine rsl (ai a1_0) (zg q4) ?_;refine E3 (.bool y5) [] [ai a1_0,ai 0,ai 24] _ (caps:=[]) (args0:=[ai a1_0,ai 0,ai 24]) (Du (by kernel_rfl) q4) (by kernel_rfl) (Cv h5) D8 ?_;refine rs0 (.bool y5) (zT q4) ?_;refine rz0 (.bool y5) ?_;refine rs0 (.box (oi 3 1) 1) (zg q6) ?_;refine rsl (ai a1_1) (zg q6) ?_;refine E3 (.bool y7) [] [ai a1_1,ai 0,ai 100] _ (caps:=[]) (args0:=[ai a1_1,ai 0,ai 100]) (Du (by kernel_rfl) q6) (by kernel_rfl) (Cv h7) D8 ?_;refine rs0 (.bool y7) (zT q6) ?_;refine rz0 (.bool y7) ?_;refine rs0 (.box (oi 3 1) 2) (zg q8) ?_;refine rsl (.tree (.slice .int) a1_2) (zg q8) ?_;refine rs0 (ai ((a1_2.length:Nat):Int)) (zg q8) ?_;refine rs0 (.bool (decide (((a1_2.length:Nat):Int)<=160))) (zg q8) ?_;refine rs0 (.bool (decide (((a1_2.length:Nat):Int)<=160))) (zT q8) ?_;refine rz0 (.bool (decide (((a1_2.length:Nat):Int)<=160))) ?_;refine zs q9 ?_;refine zs q9 ?_;refine zs q9 ?_;refine zs q9 ?_;refine zs q9 ?_;refine zs q9 ?_;refine zs q9 ?_;refine zs q9 ?_;refine zs q9 ?_;refine rs0 (.bool false) (zF q9) ?_;refine rsB 1 ?_;refine As (tn_ ?_);obtain rfl:=zj h;exact ⟨_,Ac [],rfl⟩
    refine Aa 33 ?_;refine rz0 (ai a0) ?_;refine zc (.bool y3) [] [ai a0] (Fc h3) ?_;refine rz0 (.bool y3) ?_;refine rs0 (.box (oi 3 1) 0) (zg q4) ?_;refine rsl (ai a1_0) (zg q4) ?_;refine E3 (.bool y5) [] [ai a1_0,ai 0,ai 24] _ (caps:=[]) (args0:=[ai a1_0,ai 0,ai 24]) (Du (by kernel_rfl) q4) (by kernel_rfl) (Cv h5) D8 ?_;refine rs0 (.bool y5) (zT q4) ?_;refine rz0 (.bool y5) ?_;refine rs0 (.box (oi 3 1) 1) (zg q6) ?_;refine rsl (ai a1_1) (zg q6) ?_;refine E3 (.bool y7) [] [ai a1_1,ai 0,ai 100] _ (caps:=[]) (args0:=[ai a1_1,ai 0,ai 100]) (Du (by kernel_rfl) q6) (by kernel_rfl) (Cv h7) D8 ?_;refine rs0 (.bool y7) (zT q6) ?_;refine rz0 (.bool y7) ?_;refine zs q8 ?_;refine zs q8 ?_;refine zs q8 ?_;refine zs q8 ?_;refine rs0 (.bool false) (zF q8) ?_;refine rsB 12 ?_;refine As (tn_ ?_);obtain rfl:=zj h;exact ⟨_,Ac [],rfl⟩
   refine Aa 33 ?_;refine rz0 (ai a0) ?_;refine zc (.bool y3) [] [ai a0] (Fc h3) ?_;refine rz0 (.bool y3) ?_;refine rs0 (.box (oi 3 1) 0) (zg q4) ?_;refine rsl (ai a1_0) (zg q4) ?_;refine E3 (.bool y5) [] [ai a1_0,ai 0,ai 24] _ (caps:=[]) (args0:=[ai a1_0,ai 0,ai 24]) (Du (by kernel_rfl) q4) (by kernel_rfl) (Cv h5) D8 ?_;refine rs0 (.bool y5) (zT q4) ?_;refine rz0 (.bool y5) ?_;refine zs q6 ?_;refine zs q6 ?_;refine zs q6 ?_;refine rs0 (.bool false) (zF q6) ?_;refine rsB 18 ?_;refine As (tn_ ?_);obtain rfl:=zj h;exact ⟨_,Ac [],rfl⟩
  refine Aa 33 ?_;refine rz0 (ai a0) ?_;refine zc (.bool y3) [] [ai a0] (Fc h3) ?_;refine rz0 (.bool y3) ?_;refine zs q4 ?_;refine zs q4 ?_;refine zs q4 ?_;refine rs0 (.bool false) (zF q4) ?_;refine rsB 23 ?_;refine As (tn_ ?_);obtain rfl:=zj h;exact ⟨_,Ac [],rfl⟩
 rintro l2_m4 _ rfl h
 (try dsimp only at h);refine Ak ?_;obtain rfl:=zj h;exact Bl [.bool l2_m4] (A7 rfl zl A8)
def Hm:AC :=
 (.seq (rg [xo 12 (qb .lss (tm 11) (tm 10))])
 (.seq (.cond (tm 12)
  .skip
  (.exit 0))
 (.seq (.block 1 (.seq (rg [xo 13 (qx 1 (tm 9) (tm 11)),xo 14 (ql (tm 13)),xo 8 (qm (tm 14))])
 (.seq (rg [xo 15 (qm (tm 0)),xo 16 (qm (tm 8)),xo 17 (qm (tm 2)),xo 18 (qc 61 [tm 15,tm 16,tm 17] [[],[some .int],[]]),xo 19 (.i (.not (tm 18)))])
 (.cond (tm 19)
  (.seq (rg [xo 6 (qm (cb false))])
  .ret)
  .skip))))
 (rg [xo 20 (qb .add (tm 11) (ci 1)),xo 11 (qm (tm 20))]))))
def Jt:AC :=
 (.seq (rg [xo 6 (qm (cb false))])
 (.seq (.seq (rg [xo 9 (qm (tm 1)),xo 10 (.i (.len (tm 9))),xo 11 (qm (ci 0))])
 (.block 0 (.loop Hm)))
 (.seq (rg [xo 6 (qm (cb true))])
 .ret)))
def Ps:List Res:=[.tmp 6]
theorem Pk:Ap Tryd.prog Tryd.f41=some (Jt,Ps):=by kernel_rfl
theorem Oo:A2 Tryd.prog 41=true:=by kernel_rfl
def Df (a1:List (List Int)) (a0:Int) (a2:Int) (l4_m11:Nat):Option (Ctl Nat (Ctl Unit Bool)) :=
 cond (decide (((l4_m11:Nat):Int)<((a1.length:Nat):Int)))
 (Option.bind (a1[l4_m11]?) fun x10 =>
 Option.bind (Ep a0 x10 a2) fun y12 =>
 cond (!y12)
  (some (Ctl.out (Ctl.out false)))
  (og (l4_m11+1<4611686018427387904) <|
  some (Ctl.next (l4_m11+1))))
 (some (Ctl.out (Ctl.next ())))
def Dh (a0:Int) (a1:List (List Int)) (a2:Int):Option Bool :=
 M9 (A1 (fun s_:Nat=>Df a1 a0 a2 s_) 4611686018427387904 0) fun _ =>
some true
def Om (r:Bool):RV:=⟨false,[(false,[.sc (.bool r)])]⟩
theorem Oi {a0:Int} {a1:List (List Int)} {a2:Int} {r:Bool} (h:Dh a0 a1 a2=some r):A6 Tryd.prog Tab 41 [ai a0,.tree (.slice .int) a1,ai a2] (Om r):=by
 refine A5 (by kernel_rfl) Tryd.func41 Pk (n:=21) (by kernel_rfl) (by simp) (tl:=[(0,ai a0),(1,.tree (.slice .int) a1),(2,ai a2)]) rfl ?_;unfold Jt;unfold Dh at h;refine Am ?_;refine Ds h (fun (_:Unit) S_=>S_=⟨Al [],Af (Ao []),2⟩) ?_ ?_
 ·intro v_ h hk2;refine Am ?_;refine Ai ?_;refine Az h (fun (l4_m11:Nat) S_=>S_=⟨Al [(0,ai a0),(2,ai a2),(9,.tree (.slice .int) a1),(10,ai ((a1.length:Nat):Int)),(11,ai ((l4_m11:Nat):Int))],Af (Ao []),2⟩) ⟨_,Ac [],rfl⟩ ?_;rintro n_ l4_m11 _ c_ rfl h hn4
  (try dsimp only at h);unfold Df at h;unfold Hm;refine Am ?_;refine Ab ?_;rcases Ad h with ⟨q7,h⟩ | ⟨q7,h⟩
  ·have q7_:=of_decide_eq_true q7;refine Ag q7 ?_;refine Aj (tn_ ?_);refine wr_ ?_;refine Ab ?_;refine Ai ?_;refine Ab ?_;obtain ⟨x10,e10,h⟩:=Ae h;refine Aa 6 ?_;refine rs0 (.telt none (.slice .int) x10 0) (zi (t:=.slice .int) (xs:=a1) (k:=.i64) (m:=((l4_m11:Nat):Int)) (A0 _) e10) ?_;refine rsB 2 ?_;refine As (tn_ ?_);refine wr_ ?_;refine Ab ?_;obtain ⟨y12,h12,h⟩:=Ae h;refine Aa 11 ?_;refine rz0 (ai a0) ?_;refine rz0 (.tree .int x10) ?_;refine rz0 (ai a2) ?_;refine zc (.bool y12) [] [ai a0,.tree .int x10,ai a2] (Qe h12) ?_;refine rsB 1 ?_;refine As (tn_ ?_);refine wr_ ?_;rcases Ad h with ⟨q13,h⟩ | ⟨q13,h⟩
   ·refine Ag q13 ?_;refine Am ?_;refine Ak (br_ (tr_ (tr_ (br_ (tr_ ?_)))));obtain rfl:=zj h;have h:=hn4
    (try dsimp only at h);obtain rfl:=zj h;have h:=hk2
    (try dsimp only at h);obtain rfl:=zj h;exact Bl [.bool false] (A7 rfl zl A8)
   refine Ah q13 ?_;refine Aj (bn_ (tn_ ?_));refine wr_ ?_;obtain ⟨g15,h⟩:=Aq h;refine Aa 13 ?_;refine rs0 (ai ((l4_m11+1:Nat):Int)) (za g15) ?_;refine rsB 1 ?_;refine As (tn_ ?_);obtain rfl:=zj h;exact ⟨l4_m11+1,_,Ac [],rfl,hn4⟩
  have q7_:=of_decide_eq_false q7;refine Ah q7 ?_;refine Ax (te_ (te_ (be_ (tn_ ?_))));obtain rfl:=zj h;have h:=hn4
  (try dsimp only at h);obtain rfl:=zj h;exact ⟨(),_,rfl,Ac [],rfl⟩
 rintro _ _ rfl h
 (try dsimp only at h);refine Am ?_;refine Ak ?_;obtain rfl:=zj h;exact Bl [.bool true] (A7 rfl zl A8)
def H8:AC :=
 (.seq (rg [xo 1 (.i (.box 26 (tm 0))),xo 2 (qm (ci 0))])
 (.seq (rg [xo 3 (qf 0 (tm 1)),xo 4 (ql (tm 3)),xo 5 (qf 1 (tm 1)),xo 6 (ql (tm 5)),xo 7 (qb .add (tm 4) (tm 6)),xo 2 (qm (tm 7))])
 .ret))
def Oa:List Res:=[.tmp 2]
theorem Od:Ap Tryd.prog Tryd.f32=some (H8,Oa):=by kernel_rfl
theorem Hy:A2 Tryd.prog 32=true:=by kernel_rfl
def Ce (a0_0:Int) (a0_1:Int) (a0_2:List (List Int)):Option Int :=
 some (wI (a0_0+a0_1))
def M3 (r:Int):RV:=⟨false,[(false,[.sc (.int .i64 r)])]⟩
theorem Hv {a0_0:Int} {a0_1:Int} {a0_2:List (List Int)} {r:Int} (h:Ce a0_0 a0_1 a0_2=some r):A6 Tryd.prog Tab 32 [.agg [ai a0_0,ai a0_1,.tree (.slice .int) a0_2]] (M3 r):=by
 refine A5 (by kernel_rfl) Tryd.func32 Od (n:=8) (by kernel_rfl) (by simp) (tl:=[(0,.agg [ai a0_0,ai a0_1,.tree (.slice .int) a0_2])]) rfl ?_;unfold H8;unfold Ce at h;refine Am ?_;refine Am ?_;refine Ak ?_;obtain rfl:=zj h;exact Bl [ai (wI (a0_0+a0_1))] (A7 rfl zl A8)
def K8:AC :=
 (.seq (rg [xo 3 (.i (.box 26 (tm 1))),xo 4 (qm (cb false))])
 (.seq (.region [xo 5 (qm (tm 0)),xo 6 (qc 39 [tm 5] [[]]),xo 7 (qm (tm 6)),⟨some 8,some (7,true),qf 0 (tm 3)⟩,⟨some 9,some (7,true),ql (tm 8)⟩,⟨some 10,some (7,true),qc 40 [tm 9,ci 0,ci 24] [[],[],[]]⟩,xo 11 (.i (.pick (tm 7) (tm 10) (cb false))),xo 12 (qm (tm 11)),⟨some 13,some (12,true),qf 1 (tm 3)⟩,⟨some 14,some (12,true),ql (tm 13)⟩,⟨some 15,some (12,true),qc 40 [tm 14,ci 0,ci 100] [[],[],[]]⟩,xo 16 (.i (.pick (tm 12) (tm 15) (cb false))),xo 17 (qm (tm 16)),⟨some 18,some (17,true),qf 2 (tm 3)⟩,⟨some 19,some (17,true),ql (tm 18)⟩,⟨some 20,some (17,true),.i (.len (tm 19))⟩,⟨some 21,some (17,true),qb .leq (tm 20) (ci 160)⟩,xo 22 (.i (.pick (tm 17) (tm 21) (cb false))),xo 23 (qm (tm 22)),⟨some 24,some (23,true),qm (tm 0)⟩,⟨some 25,some (23,true),qf 2 (tm 3)⟩,⟨some 26,some (23,true),ql (tm 25)⟩,⟨some 27,some (23,true),.i (.ld false 3 (tm 3))⟩,⟨some 28,some (23,true),qc 32 [tm 27] [[none,none,some (.slice .int)]]⟩,⟨some 29,some (23,true),qc 41 [tm 24,tm 26,tm 28] [[],[some (.slice .int)],[]]⟩,xo 30 (.i (.pick (tm 23) (tm 29) (cb false))),xo 4 (qm (tm 30))] true [(21,23)])
 .ret))
def Ru:List Res:=[.tmp 4]
theorem R6:Ap Tryd.prog Tryd.f18=some (K8,Ru):=by kernel_rfl
def Ee (a0:Int) (a1_0:Int) (a1_1:Int) (a1_2:List (List Int)):Option Bool :=
 Option.bind (Option.bind (Ir a0) fun y3 =>
 cond y3
  (Option.bind (Ev a1_0 0 24) fun y5 =>
  cond y5
   (Option.bind (Ev a1_1 0 100) fun y7 =>
   cond y7
    (cond (decide (((a1_2.length:Nat):Int)<=160))
     (Option.bind (Ce a1_0 a1_1 a1_2) fun y10 =>
     Option.bind (Dh a0 a1_2 y10) fun y11 =>
     some y11)
     (some false))
    (some false))
   (some false))
  (some false)) fun l2_m4 =>
some l2_m4
def Q9 (r:Bool):RV:=⟨false,[(false,[.sc (.bool r)])]⟩
theorem Q2 {a0:Int} {a1_0:Int} {a1_1:Int} {a1_2:List (List Int)} {r:Bool} (h:Ee a0 a1_0 a1_1 a1_2=some r):A6 Tryd.prog Tab 18 [ai a0,.agg [ai a1_0,ai a1_1,.tree (.slice .int) a1_2]] (Q9 r):=by
 refine A5 (by kernel_rfl) Tryd.func18 R6 (n:=31) (by kernel_rfl) (by simp) (tl:=[(0,ai a0),(1,.agg [ai a1_0,ai a1_1,.tree (.slice .int) a1_2])]) rfl ?_;unfold K8;unfold Ee at h;refine Am ?_;refine Ay h (fun (l2_m4:Bool) S_=>S_=⟨Al [(4,.bool l2_m4)],Af (Ao []),2⟩) ?_ ?_
 ·intro v_ h;obtain ⟨y3,h3,h⟩:=Ae h;rcases Ad h with ⟨q4,h⟩ | ⟨q4,h⟩
  ·obtain ⟨y5,h5,h⟩:=Ae h;rcases Ad h with ⟨q6,h⟩ | ⟨q6,h⟩
   ·obtain ⟨y7,h7,h⟩:=Ae h;rcases Ad h with ⟨q8,h⟩ | ⟨q8,h⟩
    ·rcases Ad h with ⟨q9,h⟩ | ⟨q9,h⟩
     ·have q9_:=of_decide_eq_true q9;obtain ⟨y10,h10,h⟩:=Ae h;obtain ⟨y11,h11,h⟩:=Ae h;refine Bb 30 ?_;refine dz0 (ai a0) ?_;refine Fw (.bool y3) [] [ai a0] _ (caps:=[]) (args0:=[ai a0]) trivial (by kernel_rfl) (Em h3) Er ?_;refine dz0 (.bool y3) ?_;refine ds0 (.box (oi 3 1) 0) (zg q4) ?_;refine dsl (ai a1_0) (zg q4) ?_;refine Fw (.bool y5) [] [ai a1_0,ai 0,ai 24] _ (caps:=[]) (args0:=[ai a1_0,ai 0,ai 24]) (Du (by kernel_rfl) q4) (by kernel_rfl) (Da h5) C2 ?_;refine ds0 (.bool y5) (zT q4) ?_;refine dz0 (.bool y5) ?_;refine ds0 (.box (oi 3 1) 1) (zg q6) ?_;refine dsl (ai a1_1) (zg q6) ?_;refine Fw (.bool y7) [] [ai a1_1,ai 0,ai 100] _ (caps:=[]) (args0:=[ai a1_1,ai 0,ai 100]) (Du (by kernel_rfl) q6) (by kernel_rfl) (Da h7) C2 ?_;refine ds0 (.bool y7) (zT q6) ?_;refine dz0 (.bool y7) ?_;refine ds0 (.box (oi 3 1) 2) (zg q8) ?_;refine dsl (.tree (.slice .int) a1_2) (zg q8) ?_;refine ds0 (ai ((a1_2.length:Nat):Int)) (zg q8) ?_;refine ds0 (.bool (decide (((a1_2.length:Nat):Int)<=160))) (zg q8) ?_;refine ds0 (.bool (decide (((a1_2.length:Nat):Int)<=160))) (zT q8) ?_;refine dz0 (.bool (decide (((a1_2.length:Nat):Int)<=160))) ?_;refine ds0 (ai a0) (zg q9) ?_;refine ds0 (.box (oi 3 1) 2) (zg q9) ?_;refine dsl (.tree (.slice .int) a1_2) (zg q9) ?_;refine dsl (.agg [ai a1_0,ai a1_1,.tree (.slice .int) a1_2]) (zg q9) ?_;refine Fw (ai y10) [] [.agg [ai a1_0,ai a1_1,.tree (.slice .int) a1_2]] _ (caps:=[]) (args0:=[.agg [ai a1_0,ai a1_1,.tree (.slice .int) a1_2]]) (Du (by kernel_rfl) q9) (by kernel_rfl) (Hv h10) Hy ?_;refine Fw (.bool y11) [] [ai a0,.tree (.slice .int) a1_2,ai y10] _ (caps:=[]) (args0:=[ai a0,.tree (.slice .int) a1_2,ai y10]) (Du (by kernel_rfl) q9) (by kernel_rfl) (Oi h11) Oo ?_;refine ds0 (.bool y11) (zT q9) ?_;refine dz0 (.bool y11) ?_;refine Ky (Bx (by kernel_rfl)) (tn_ ?_);obtain rfl:=zj h;exact ⟨_,Ac [],rfl⟩
     have q9_:=of_decide_eq_false q9;refine Bb 30 ?_;refine dz0 (ai a0) ?_;refine Fw (.bool y3) [] [ai a0] _ (caps:=[]) (args0:=[ai a0]) trivial (by kernel_rfl) (Em h3) Er ?_;refine dz0 (.bool y3) ?_;refine ds0 (.box (oi 3 1) 0) (zg q4) ?_;refine dsl (ai a1_0) (zg q4) ?_;refine Fw (.bool y5) [] [ai a1_0,ai 0,ai 24] _ (caps:=[]) (args0:=[ai a1_0,ai 0,ai 24]) (Du (by kernel_rfl) q4) (by kernel_rfl) (Da h5) C2 ?_;refine ds0 (.bool y5) (zT q4) ?_;refine dz0 (.bool y5) ?_;refine ds0 (.box (oi 3 1) 1) (zg q6) ?_;refine dsl (ai a1_1) (zg q6) ?_;refine Fw (.bool y7) [] [ai a1_1,ai 0,ai 100] _ (caps:=[]) (args0:=[ai a1_1,ai 0,ai 100]) (Du (by kernel_rfl) q6) (by kernel_rfl) (Da h7) C2 ?_;refine ds0 (.bool y7) (zT q6) ?_;refine dz0 (.bool y7) ?_;refine ds0 (.box (oi 3 1) 2) (zg q8) ?_;refine dsl (.tree (.slice .int) a1_2) (zg q8) ?_;refine ds0 (ai ((a1_2.length:Nat):Int)) (zg q8) ?_;refine ds0 (.bool (decide (((a1_2.length:Nat):Int)<=160))) (zg q8) ?_;refine ds0 (.bool (decide (((a1_2.length:Nat):Int)<=160))) (zT q8) ?_;refine dz0 (.bool (decide (((a1_2.length:Nat):Int)<=160))) ?_;refine ds0 (.tup []) (Fg (by kernel_rfl) q9) ?_;refine ds0 (.tup []) (Fg (by kernel_rfl) q9) ?_;refine ds0 (.tup []) (Fg (by kernel_rfl) q9) ?_;refine ds0 (.tup []) (Fg (by kernel_rfl) q9) ?_;refine ds0 (.tup []) (Fg (by kernel_rfl) q9) ?_;refine ds0 (.tup []) (Fg (by kernel_rfl) q9) ?_;refine ds0 (.bool false) (zF q9) ?_;refine dz0 (.bool false) ?_;refine Ky (Bx (by kernel_rfl)) (tn_ ?_);obtain rfl:=zj h;exact ⟨_,Ac [],rfl⟩
    refine Bb 30 ?_;refine dz0 (ai a0) ?_;refine Fw (.bool y3) [] [ai a0] _ (caps:=[]) (args0:=[ai a0]) trivial (by kernel_rfl) (Em h3) Er ?_;refine dz0 (.bool y3) ?_;refine ds0 (.box (oi 3 1) 0) (zg q4) ?_;refine dsl (ai a1_0) (zg q4) ?_;refine Fw (.bool y5) [] [ai a1_0,ai 0,ai 24] _ (caps:=[]) (args0:=[ai a1_0,ai 0,ai 24]) (Du (by kernel_rfl) q4) (by kernel_rfl) (Da h5) C2 ?_;refine ds0 (.bool y5) (zT q4) ?_;refine dz0 (.bool y5) ?_;refine ds0 (.box (oi 3 1) 1) (zg q6) ?_;refine dsl (ai a1_1) (zg q6) ?_;refine Fw (.bool y7) [] [ai a1_1,ai 0,ai 100] _ (caps:=[]) (args0:=[ai a1_1,ai 0,ai 100]) (Du (by kernel_rfl) q6) (by kernel_rfl) (Da h7) C2 ?_;refine ds0 (.bool y7) (zT q6) ?_;refine dz0 (.bool y7) ?_;refine ds0 (.tup []) (Fg (by kernel_rfl) q8) ?_;refine ds0 (.tup []) (Fg (by kernel_rfl) q8) ?_;refine ds0 (.tup []) (Fg (by kernel_rfl) q8) ?_;refine ds0 (.tup []) (Fg (by kernel_rfl) q8) ?_;refine ds0 (.bool false) (zF q8) ?_;refine dz0 (.bool false) ?_;refine dz0 (.tup []) ?_;refine dz0 (.tup []) ?_;refine dz0 (.tup []) ?_;refine dz0 (.tup []) ?_;refine dz0 (.tup []) ?_;refine dz0 (.tup []) ?_;refine dz0 (.bool false) ?_;refine dz0 (.bool false) ?_;refine Ky (Bx (by kernel_rfl)) (tn_ ?_);obtain rfl:=zj h;exact ⟨_,Ac [],rfl⟩
   refine Bb 30 ?_;refine dz0 (ai a0) ?_;refine Fw (.bool y3) [] [ai a0] _ (caps:=[]) (args0:=[ai a0]) trivial (by kernel_rfl) (Em h3) Er ?_;refine dz0 (.bool y3) ?_;refine ds0 (.box (oi 3 1) 0) (zg q4) ?_;refine dsl (ai a1_0) (zg q4) ?_;refine Fw (.bool y5) [] [ai a1_0,ai 0,ai 24] _ (caps:=[]) (args0:=[ai a1_0,ai 0,ai 24]) (Du (by kernel_rfl) q4) (by kernel_rfl) (Da h5) C2 ?_;refine ds0 (.bool y5) (zT q4) ?_;refine dz0 (.bool y5) ?_;refine ds0 (.tup []) (Fg (by kernel_rfl) q6) ?_;refine ds0 (.tup []) (Fg (by kernel_rfl) q6) ?_;refine ds0 (.tup []) (Fg (by kernel_rfl) q6) ?_;refine ds0 (.bool false) (zF q6) ?_;refine dz0 (.bool false) ?_;refine dz0 (.tup []) ?_;refine dz0 (.tup []) ?_;refine dz0 (.tup []) ?_;refine dz0 (.tup []) ?_;refine dz0 (.bool false) ?_;refine dz0 (.bool false) ?_;refine dz0 (.tup []) ?_;refine dz0 (.tup []) ?_;refine dz0 (.tup []) ?_;refine dz0 (.tup []) ?_;refine dz0 (.tup []) ?_;refine dz0 (.tup []) ?_;refine dz0 (.bool false) ?_;refine dz0 (.bool false) ?_;refine Ky (Bx (by kernel_rfl)) (tn_ ?_);obtain rfl:=zj h;exact ⟨_,Ac [],rfl⟩
  refine Bb 30 ?_;refine dz0 (ai a0) ?_;refine Fw (.bool y3) [] [ai a0] _ (caps:=[]) (args0:=[ai a0]) trivial (by kernel_rfl) (Em h3) Er ?_;refine dz0 (.bool y3) ?_;refine ds0 (.tup []) (Fg (by kernel_rfl) q4) ?_;refine ds0 (.tup []) (Fg (by kernel_rfl) q4) ?_;refine ds0 (.tup []) (Fg (by kernel_rfl) q4) ?_;refine ds0 (.bool false) (zF q4) ?_;refine dz0 (.bool false) ?_;refine dz0 (.tup []) ?_;refine dz0 (.tup []) ?_;refine dz0 (.tup []) ?_;refine dz0 (.bool false) ?_;refine dz0 (.bool false) ?_;refine dz0 (.tup []) ?_;refine dz0 (.tup []) ?_;refine dz0 (.tup []) ?_;refine dz0 (.tup []) ?_;refine dz0 (.bool false) ?_;refine dz0 (.bool false) ?_;refine dz0 (.tup []) ?_;refine dz0 (.tup []) ?_;refine dz0 (.tup []) ?_;refine dz0 (.tup []) ?_;refine dz0 (.tup []) ?_;refine dz0 (.tup []) ?_;refine dz0 (.bool false) ?_;refine dz0 (.bool false) ?_;refine Ky (Bx (by kernel_rfl)) (tn_ ?_);obtain rfl:=zj h;exact ⟨_,Ac [],rfl⟩
 rintro l2_m4 _ rfl h
 (try dsimp only at h);refine Ak ?_;obtain rfl:=zj h;exact Bl [.bool l2_m4] (A7 rfl zl A8)
def Is:AC :=
 (.seq (rg [xo 1 (.i (.box 26 (tm 0))),xo 2 (.i (.alloc 26 [.int .i64 0,.int .i64 0,.nils]))])
 (.seq (.region [xo 3 (qf 0 (tm 1)),xo 4 (ql (tm 3)),xo 5 (qf 1 (tm 1)),xo 6 (ql (tm 5)),xo 7 (qf 2 (tm 1)),xo 8 (ql (tm 7)),xo 9 (qc 29 [tm 8] [[some (.slice .int)]]),xo 10 (.build [.int .i64 0,.int .i64 0,.nils] [(0,1,tm 4),(1,1,tm 6),(2,1,tm 9)]),xn (.st false 3 (tm 2) (tm 10))] true [(1,6),(3,6)])
 .ret))
def N8:List Res:=[.cell 2 false 3]
theorem N5:Ap Tryd.prog Tryd.f19=some (Is,N8):=by kernel_rfl
theorem M5:A2 Tryd.prog 19=true:=by kernel_rfl
def Ea (a0_0:Int) (a0_1:Int) (a0_2:List (List Int)):Option (List (List Int)) :=
 Option.bind (Do a0_2) fun y4 =>
some y4
theorem M4 {a0_0:Int} {a0_1:Int} {a0_2:List (List Int)} {r:List (List Int)} (h:Ea a0_0 a0_1 a0_2=some r):Eg Tryd.prog Tab 19 [.agg [ai a0_0,ai a0_1,.tree (.slice .int) a0_2]] [] (.agg [ai a0_0,ai a0_1,.own (oi 1 1) (.slice .int) 0 r.length]) [(oi 0 1,.cells 26 [ai a0_0,ai a0_1,.own (oi 1 1) (.slice .int) 0 r.length]),(oi 1 1,.mat 39 (oi 2 1) .int r),(oi 2 1,.pool 3 .int r)]:=by
 refine Cn (by kernel_rfl) Tryd.func19 N5 (n:=11) (by kernel_rfl) (by simp) (tl:=[(0,.agg [ai a0_0,ai a0_1,.tree (.slice .int) a0_2])]) rfl (by kernel_rfl) trivial ⟨trivial,⟨⟨3,.tail _ (.tail _ (.head _))⟩,⟨trivial,trivial⟩⟩⟩ ?_;unfold Is;unfold Ea at h;refine Am ?_;refine Ab ?_;obtain ⟨y4,h4,h⟩:=Ae h;refine Bb 12 ?_;refine dz0 (.box (oi 1 1) 0) ?_;refine dzl (ai a0_0) ?_;refine dz0 (.box (oi 1 1) 1) ?_;refine dzl (ai a0_1) ?_;refine dz0 (.box (oi 1 1) 2) ?_;refine dzl (.tree (.slice .int) a0_2) ?_;refine S6 (.own (oi 144 9) (.slice .int) 0 y4.length) [(oi 144 9,some (.mat 39 (oi 145 9) .int y4)),(oi 145 9,some (.pool 3 .int y4))] [] [.tree (.slice .int) a0_2] (caps:=[]) trivial (Id h4) Ie trivial (.cons (.ren (by kernel_rfl)) .nil) (A9 (by kernel_rfl) (by kernel_rfl) trivial) (Yc (by kernel_rfl)) ?_;refine dz0 (.agg [ai a0_0,ai a0_1,.own (oi 144 9) (.slice .int) 0 y4.length]) ?_;refine Aca (oi 2 2) (oi 2 2) (.cells 26 [ai a0_0,ai a0_1,.own (oi 144 9) (.slice .int) 0 y4.length]) (by kernel_rfl) ?_;refine Ky ⟨Acq (by kernel_rfl),⟨Acq (by kernel_rfl),trivial⟩⟩ (tn_ ?_);refine wr_ ?_;refine Ak ?_;obtain rfl:=zj h;exact Gq [.agg [ai a0_0,ai a0_1,.own (oi 1 1) (.slice .int) 0 y4.length]] (Ac (tl:=[(2,.box (oi 0 1) 0)]) (g:=2) [(oi 0 1,oi 2 2),(oi 1 1,oi 144 9),(oi 2 1,oi 145 9)])
def Md:AC :=
 (.seq (rg [xo 6 (qm (.cst .nils))])
 (.seq (rg [xo 10 (qm (tm 1)),xo 11 (qc 29 [tm 10] [[some (.slice .int)]]),xo 7 (qm (tm 11))])
 (.seq (rg [xo 12 (qm (tm 7)),xo 13 (.i (.len (tm 12))),xo 14 (.makeV 39 (.slice .int) 24 [.nils] (tm 13) (tm 13)),xo 8 (qm (tm 14))])
 (.seq (rg [xo 15 (qm (tm 0)),xo 16 (qm (tm 7)),xo 17 (qm (tm 2)),xo 18 (qm (tm 8)),xo 19 (qc 58 [tm 15,tm 16,tm 17,tm 18] [[],[some (.slice .int)],[],[some (.slice .int)]]),xo 9 (qm (tm 19))])
 (.seq (rg [xo 20 (qm (tm 7)),xo 21 (qm (tm 9)),xo 22 (qm (tm 9)),xo 23 (.slice 1 (tm 20) none (some (tm 21)) (some (tm 22))),xo 6 (qm (tm 23))])
 .ret)))))
def Tf:List Res:=[.tmp 6]
theorem Uk:Ap Tryd.prog Tryd.f31=some (Md,Tf):=by kernel_rfl
theorem So:A2 Tryd.prog 31=true:=by kernel_rfl
def E9 (a0:Int) (a1:List (List Int)) (a2:Int):Option (List (List Int)) :=
 Option.bind (Do a1) fun y4 =>
og (0<=((y4.length:Nat):Int)∧((y4.length:Nat):Int)<=((y4.length:Nat):Int)∧((y4.length:Nat):Int)<=1073741824∧(24:Int)*((y4.length:Nat):Int)<=140737488355328) <|
Option.bind (Dt a0 y4 a2 (List.replicate y4.length ([]:List Int))) fun y8 =>
og (y8.1.length=y4.length) <|
og (y8.2.1.length=y4.length) <|
og ((0:Int)<=((y8.2.2:Nat):Int)∧((y8.2.2:Nat):Int)<=((y8.2.2:Nat):Int)∧((y8.2.2:Nat):Int)<=((y4.length:Nat):Int)) <|
some (y8.1.take y8.2.2)
theorem Sd {a0:Int} {a1:List (List Int)} {a2:Int} {r:List (List Int)} (h:E9 a0 a1 a2=some r):Eg Tryd.prog Tab 31 [ai a0,.tree (.slice .int) a1,ai a2] [] (.own (oi 0 1) (.slice .int) 0 r.length) [(oi 0 1,.mat 39 (oi 1 1) .int r),(oi 1 1,.pool 3 .int r)]:=by
 refine Cn (by kernel_rfl) Tryd.func31 Uk (n:=24) (by kernel_rfl) (by simp) (tl:=[(0,ai a0),(1,.tree (.slice .int) a1),(2,ai a2)]) rfl (by kernel_rfl) trivial ⟨⟨3,.tail _ (.head _)⟩,⟨trivial,trivial⟩⟩ ?_;unfold Md;unfold E9 at h;refine Am ?_;refine Ab ?_;obtain ⟨y4,h4,h⟩:=Ae h;refine Aa 5 ?_;refine rz0 (.tree (.slice .int) a1) ?_;refine Dn (.own (oi 176 3) (.slice .int) 0 y4.length) [(oi 176 3,some (.mat 39 (oi 177 3) .int y4)),(oi 177 3,some (.pool 3 .int y4))] [] [.tree (.slice .int) a1] (caps:=[]) trivial (Id h4) Ie trivial (.cons (.ren (by kernel_rfl)) .nil) (A9 (by kernel_rfl) (by kernel_rfl) trivial) ?_;refine rsB 1 ?_;refine As (tn_ ?_);refine wr_ ?_;refine Ab ?_;obtain ⟨g6,h⟩:=Aq h;refine Aa 9 ?_;refine rz0 (.own (oi 176 3) (.slice .int) 0 y4.length) ?_;refine rz0 (ai ((y4.length:Nat):Int)) ?_;refine Acw (.own (oi 224 7) (.slice .int) 0 y4.length) (oi 224 7) 39 3 .int (List.replicate y4.length ([]:List Int)) trivial (Ya (j:=y4.length) (k:=.i64) (k':=.i64) (m:=((y4.length:Nat):Int)) (c:=((y4.length:Nat):Int)) 3 (by kernel_rfl) (by kernel_rfl) g6 (by kernel_rfl) rfl) (by kernel_rfl) (by rw [List.length_replicate]) (by kernel_rfl) ?_;refine rsB 1 ?_;refine As (tn_ ?_);refine wr_ ?_;refine Ab ?_;obtain ⟨y8,h8,h⟩:=Ae h;obtain ⟨g9,h⟩:=Aq h;obtain ⟨g10,h⟩:=Aq h;refine Aa 15 ?_;refine rz0 (ai a0) ?_;refine rz0 (.own (oi 176 3) (.slice .int) 0 y4.length) ?_;refine rz0 (ai a2) ?_;refine rz0 (.own (oi 224 7) (.slice .int) 0 y4.length) ?_;refine Dn (ai ((y8.2.2:Nat):Int)) [(oi 176 3,some (.mat 39 (oi 304 13) .int y8.1)),(oi 304 13,some (.pool 3 .int y8.1)),(oi 224 7,some (.mat 39 (oi 305 13) .int y8.2.1)),(oi 305 13,some (.pool 3 .int y8.2.1)),(oi 176 3,none),(oi 177 3,some (.pool 3 .int [])),(oi 224 7,none),(oi 224 7,some (.pool 3 .int []))] [(oi 0 0,oi 176 3),(oi 1 0,oi 177 3),(oi 2 0,oi 224 7),(oi 3 0,oi 224 7)] [ai a0,.own (oi 176 3) (.slice .int) 0 y4.length,ai a2,.own (oi 224 7) (.slice .int) 0 y4.length] (caps:=[]) trivial (Ox h8 rfl List.length_replicate.symm) P3 ⟨by kernel_rfl,⟨by kernel_rfl,⟨by kernel_rfl,⟨by kernel_rfl,trivial⟩⟩⟩⟩ (.cons (.ren (by kernel_rfl)) (.cons (.ren (by kernel_rfl)) (.cons (.ren (by kernel_rfl)) (.cons (.ren (by kernel_rfl)) .nil)))) (A9 (by kernel_rfl) (by kernel_rfl) ⟨Bj (by kernel_rfl),⟨E0 (o:=oi 176 3) (p:=oi 177 3) (e1:=39) (m:=y4.length) (u:=.int) (xss:=y4) (Bj (by kernel_rfl)) (by kernel_rfl),⟨Bj (by kernel_rfl),⟨E0 (o:=oi 224 7) (p:=oi 224 7) (e1:=39) (m:=(List.replicate y4.length ([]:List Int)).length) (u:=.int) (xss:=List.replicate y4.length ([]:List Int)) (Bj (by kernel_rfl)) (by kernel_rfl),trivial⟩⟩⟩⟩) ?_;refine rsB 1 ?_;refine As (tn_ ?_);refine wr_ ?_;refine Ab ?_;obtain ⟨g12,h⟩:=Aq h;refine Aa 20 ?_;refine rz0 (.own (oi 176 3) (.slice .int) 0 y4.length) ?_;refine rz0 (ai ((y8.2.2:Nat):Int)) ?_;refine rz0 (ai ((y8.2.2:Nat):Int)) ?_;refine rs2 (.own (oi 23 18) (.slice .int) 0 y8.2.2) (oi 176 3) (oi 23 18) (.vec 39 1 y8.2.2 ((hdL (oi 304 13) .int y8.1).take y8.2.2)) (Afw (t:=.slice .int) (len:=y4.length) (kh:=.i64) (km:=.i64) (h:=((y8.2.2:Nat):Int)) (m:=((y8.2.2:Nat):Int)) (j:=y8.2.2) (i:=oi 176 3) (N:=y8.1.length) (e:=39) (cs:=hdL (oi 304 13) .int y8.1) (by kernel_rfl) (by kernel_rfl) (by kernel_rfl) (by kernel_rfl) rfl g12 rfl (by have z_:y4.length=y8.1.length:=g9.symm; omega)) ?_;refine rsB 1 ?_;refine As (tn_ ?_);refine ⟨_,Adn (e1:=39) (e:=3) (u:=.int) (xss:=y8.1) (k:=y8.2.2) 9000 (oi 23 18) (oi 304 13) (by kernel_rfl) (by kernel_rfl) (by kernel_rfl) (by have z_:y4.length=y8.1.length:=g9.symm; omega) (by kernel_rfl) (by kernel_rfl),?_⟩;refine Ak ?_;obtain rfl:=zj h;exact Gq [.own (oi 0 1) (.slice .int) 0 ((y8.1.take y8.2.2).length)] ((Bn 6 (.own (oi 23 18) (.slice .int) 0 y8.2.2) (.own (oi 23 18) (.slice .int) 0 ((y8.1.take y8.2.2).length)) (by kernel_rfl) (congrArg (fun z_=>((.own (oi 23 18) (.slice .int) 0 z_):AV)) ((Aee (by have z_:y4.length=y8.1.length:=g9.symm; omega)):y8.2.2=(y8.1.take y8.2.2).length))).trans (Ac (tl:=[(6,.own (oi 0 1) (.slice .int) 0 (y8.1.take y8.2.2).length)]) (g:=2) [(oi 0 1,oi 23 18),(oi 1 1,oi 9000 20)]))
end Go.Proofs.YtehocbbnjfmgaaaDoor
namespace Go.Proofs.YtehocbbnjfmgaaaDoor
open Go.RowKit Go.Deep
set_option maxRecDepth 4000
def J4:AC :=
 (.seq (.seq (rg [xo 4 (qm (tm 3)),xo 5 (qm (tm 0)),xo 6 (.i (.len (tm 5))),xo 7 (qb .lss (tm 4) (tm 6)),xo 8 (qm (tm 7)),⟨some 9,some (8,true),qm (tm 0)⟩,⟨some 10,some (8,true),qm (tm 3)⟩,⟨some 11,some (8,true),qx 1 (tm 9) (tm 10)⟩,⟨some 12,some (8,true),ql (tm 11)⟩,⟨some 13,some (8,true),qb .eql (tm 12) (ci 0)⟩,xo 14 (.i (.pick (tm 8) (tm 13) (cb false)))])
 (.cond (tm 14)
  .skip
  (.exit 0)))
 (.block 1 (rg [xo 15 (qm (tm 3)),xo 16 (qb .add (tm 15) (ci 1)),xo 3 (qm (tm 16))])))
def Nf:AC :=
 (.seq (rg [xo 2 (qm (ci 0))])
 (.seq (rg [xo 3 (qm (ci 0))])
 (.seq (.block 0 (.loop J4))
 (.seq (rg [xo 17 (qm (tm 3)),xo 2 (qm (tm 17))])
 .ret))))
def V1:List Res:=[.tmp 2]
theorem W2:Ap Tryd.prog Tryd.f65=some (Nf,V1):=by kernel_rfl
def Dq (a0:List Int) (l4_m3:Nat):Option (Ctl Nat Nat) :=
 Option.bind (cond (decide (((l4_m3:Nat):Int)<((a0.length:Nat):Int)))
  (Option.bind (a0[l4_m3]?) fun x8 =>
  some (x8==0))
  (some false)) fun l6_m14 =>
cond l6_m14
 (og (l4_m3+1<4611686018427387904) <|
 some (Ctl.next (l4_m3+1)))
 (some (Ctl.out l4_m3))
def F2 (a0:List Int):Option Int :=
 Option.bind (A1 (fun s_:Nat=>Dq a0 s_) 4611686018427387904 0) fun l3_m3 =>
some ((l3_m3:Nat):Int)
def Uf (r:Int):RV:=⟨false,[(false,[.sc (.int .i64 r)])]⟩
theorem Ud {a0:List Int} {r:Int} (h:F2 a0=some r):A6 Tryd.prog Tab 65 [.tree .int a0] (Uf r):=by
 refine A5 (by kernel_rfl) Tryd.func65 W2 (n:=18) (by kernel_rfl) (by simp) (tl:=[(0,.tree .int a0)]) rfl ?_;unfold Nf;unfold F2 at h;refine Am ?_;refine Am ?_;refine Ay h (fun (l3_m3:Nat) S_=>S_=⟨Al [(3,ai ((l3_m3:Nat):Int))],Af (Ao []),2⟩) ?_ ?_
 ·intro v_ h;refine Ai ?_;refine Az h (fun (l4_m3:Nat) S_=>S_=⟨Al [(0,.tree .int a0),(3,ai ((l4_m3:Nat):Int))],Af (Ao []),2⟩) ⟨_,Ac [],rfl⟩ ?_;rintro n_ l4_m3 _ c_ rfl h hn4
  (try dsimp only at h);unfold Dq at h;unfold J4;refine Ab ?_;refine Ay h (fun (l6_m14:Bool) S_=>S_=⟨Al [(0,.tree .int a0),(3,ai ((l4_m3:Nat):Int)),(14,.bool l6_m14)],Af (Ao []),2⟩) ?_ ?_
  ·intro v_ h;rcases Ad h with ⟨q7,h⟩ | ⟨q7,h⟩
   ·have q7_:=of_decide_eq_true q7;obtain ⟨x8,e8,h⟩:=Ae h;refine Aa 13 ?_;refine rz0 (ai ((l4_m3:Nat):Int)) ?_;refine rz0 (.tree .int a0) ?_;refine rz0 (ai ((a0.length:Nat):Int)) ?_;refine rz0 (.bool (decide (((l4_m3:Nat):Int)<((a0.length:Nat):Int)))) ?_;refine rz0 (.bool (decide (((l4_m3:Nat):Int)<((a0.length:Nat):Int)))) ?_;refine rs0 (.tree .int a0) (zg q7) ?_;refine rs0 (ai ((l4_m3:Nat):Int)) (zg q7) ?_;refine rs0 (.telt none .int x8 0) (Lp (by kernel_rfl) q7 (zi (t:=.int) (xs:=a0) (k:=.i64) (m:=((l4_m3:Nat):Int)) (A0 _) e8)) ?_;refine rs0 (ai x8) (zg q7) ?_;refine rs0 (.bool (x8==0)) (zg q7) ?_;refine rs0 (.bool (x8==0)) (zT q7) ?_;refine As (tn_ ?_);obtain rfl:=zj h;exact ⟨_,Ac [],rfl⟩
   have q7_:=of_decide_eq_false q7;refine Aa 13 ?_;refine rz0 (ai ((l4_m3:Nat):Int)) ?_;refine rz0 (.tree .int a0) ?_;refine rz0 (ai ((a0.length:Nat):Int)) ?_;refine rz0 (.bool (decide (((l4_m3:Nat):Int)<((a0.length:Nat):Int)))) ?_;refine rz0 (.bool (decide (((l4_m3:Nat):Int)<((a0.length:Nat):Int)))) ?_;refine zs q7 ?_;refine zs q7 ?_;refine zs q7 ?_;refine zs q7 ?_;refine zs q7 ?_;refine rs0 (.bool false) (zF q7) ?_;refine As (tn_ ?_);obtain rfl:=zj h;exact ⟨_,Ac [],rfl⟩
  rintro l6_m14 _ rfl h
  (try dsimp only at h);rcases Ad h with ⟨q9,h⟩ | ⟨q9,h⟩
  ·refine Ag q9 ?_;refine Aj (tn_ ?_);refine wr_ ?_;refine Ai ?_;obtain ⟨g10,h⟩:=Aq h;refine Aa 5 ?_;refine rz0 (ai ((l4_m3:Nat):Int)) ?_;refine rs0 (ai ((l4_m3+1:Nat):Int)) (za g10) ?_;refine rsB 1 ?_;refine As (bn_ (tn_ ?_));obtain rfl:=zj h;exact ⟨l4_m3+1,_,Ac [],rfl,hn4⟩
  refine Ah q9 ?_;refine Ax (te_ (te_ (be_ (tn_ ?_))));obtain rfl:=zj h;have h:=hn4
  (try dsimp only at h);obtain rfl:=zj h;exact ⟨_,Ac [],rfl⟩
 rintro l3_m3 _ rfl h
 (try dsimp only at h);refine Am ?_;refine Ak ?_;obtain rfl:=zj h;exact Bl [ai ((l3_m3:Nat):Int)] (A7 rfl zl A8)
def H7:AC :=
 (.seq (rg [xo 11 (qb .lss (tm 10) (tm 9))])
 (.seq (.cond (tm 11)
  .skip
  (.exit 0))
 (.seq (.block 1 (.seq (rg [xo 12 (qx 1 (tm 8) (tm 10)),xo 13 (ql (tm 12)),xo 7 (qm (tm 13))])
 (rg [xo 14 (qm (tm 5)),xo 15 (qm (tm 1)),xo 16 (qm (tm 7)),xo 17 (qc 65 [tm 16] [[some .int]]),xo 18 (qx 1 (tm 15) (tm 17)),xo 19 (ql (tm 18)),xo 20 (.mkS 3 .int [tm 19]),xo 21 (.append 3 .int 8 (tm 14) (tm 20)),xo 5 (qm (tm 21))])))
 (rg [xo 22 (qb .add (tm 10) (ci 1)),xo 10 (qm (tm 22))]))))
def Lh:AC :=
 (.seq (rg [xo 4 (qm (.cst .nils))])
 (.seq (rg [xo 5 (qm (.cst .nils))])
 (.seq (.seq (rg [xo 8 (qm (tm 0)),xo 9 (.i (.len (tm 8))),xo 10 (qm (ci 0))])
 (.block 0 (.loop H7)))
 (.seq (rg [xo 23 (qm (tm 5)),xo 4 (qm (tm 23))])
 .ret))))
def Ry:List Res:=[.tmp 4]
theorem R1:Ap Tryd.prog Tryd.f51=some (Lh,Ry):=by kernel_rfl
def C0 (a0:List (List Int)) (a1:List Int) (l5_m10:Nat) (l5_m5:List Int):Option (Ctl (Nat×List Int) (List Int)) :=
 cond (decide (((l5_m10:Nat):Int)<((a0.length:Nat):Int)))
 (Option.bind (a0[l5_m10]?) fun x11 =>
 Option.bind (F2 x11) fun y12 =>
 Option.bind (Q7 a1 y12) fun x13 =>
 og (l5_m5.length+1<=1073741824∧(l5_m5.length+1)*8<=140737488355328) <|
 og (l5_m10+1<4611686018427387904) <|
 some (Ctl.next (l5_m10+1,l5_m5++([x13]))))
 (some (Ctl.out l5_m5))
def Eh (a0:List (List Int)) (a1:List Int):Option (List Int) :=
 Option.bind (A1 (fun s_:Nat×List Int=>C0 a0 a1 s_.1 s_.2) 4611686018427387904 (0,[])) fun l3_m5 =>
some l3_m5
def Qv (r:List Int):RV:=⟨false,[(false,[.new 3 .int r])]⟩
theorem Qi {a0:List (List Int)} {a1:List Int} {r:List Int} (h:Eh a0 a1=some r):A6 Tryd.prog Tab 51 [.tree (.slice .int) a0,.tree .int a1] (Qv r):=by
 refine A5 (by kernel_rfl) Tryd.func51 R1 (n:=24) (by kernel_rfl) (by simp) (tl:=[(0,.tree (.slice .int) a0),(1,.tree .int a1)]) rfl ?_;unfold Lh;unfold Eh at h;refine Am ?_;refine Am ?_;refine Ay h (fun (l3_m5:List Int) S_=>S_=⟨Al [(5,.own (oi 0 1) .int 0 l3_m5.length)],Af (Ao [(oi 0 1,.arr 3 .int l3_m5)]),2⟩) ?_ ?_
 ·intro v_ h;refine Am ?_;refine Ai ?_;refine Az h (fun t_ S_=>∃ (l5_m10:Nat),∃ (l5_m5:List Int),t_=(l5_m10,l5_m5)∧S_=⟨Al [(1,.tree .int a1),(5,.own (oi 0 1) .int 0 l5_m5.length),(8,.tree (.slice .int) a0),(9,ai ((a0.length:Nat):Int)),(10,ai ((l5_m10:Nat):Int))],Af (Ao [(oi 0 1,.arr 3 .int l5_m5)]),2⟩) ⟨_,(Agb 5 3 .int rfl (by kernel_rfl)).trans (Ac [(oi 0 1,oi 5 6)]),⟨0,[],rfl,rfl⟩⟩ ?_;rintro n_ _ _ c_ ⟨l5_m10,l5_m5,rfl,rfl⟩ h hn5
  (try dsimp only at h);unfold C0 at h;unfold H7;refine Am ?_;refine Ab ?_;rcases Ad h with ⟨q8,h⟩ | ⟨q8,h⟩
  ·have q8_:=of_decide_eq_true q8;refine Ag q8 ?_;refine Aj (tn_ ?_);refine wr_ ?_;refine Ab ?_;refine Ai ?_;refine Ab ?_;obtain ⟨x11,e11,h⟩:=Ae h;refine Aa 6 ?_;refine rs0 (.telt none (.slice .int) x11 0) (zi (t:=.slice .int) (xs:=a0) (k:=.i64) (m:=((l5_m10:Nat):Int)) (A0 _) e11) ?_;refine rsB 2 ?_;refine As (tn_ ?_);refine wr_ ?_;obtain ⟨y12,h12,h⟩:=Ae h;obtain ⟨x13,f13,h⟩:=Ae h;obtain ⟨p13,b13,e13⟩:=Ew f13;obtain ⟨g14,h⟩:=Aq h;refine Aa 15 ?_;refine rz0 (.own (oi 0 1) .int 0 l5_m5.length) ?_;refine rz0 (.tree .int a1) ?_;refine rz0 (.tree .int x11) ?_;refine zc (ai y12) [] [.tree .int x11] (Ud h12) ?_;refine rs0 (.telt none .int x13 0) (zi (t:=.int) (xs:=a1) (k:=.i64) (m:=y12) p13 e13) ?_;refine rz0 (ai x13) ?_;refine rs1 (.own (oi 20 12) .int 0 1) (oi 20 12) (.arr 3 .int ([x13])) (by kernel_rfl) ?_;refine rs2 (.own (oi 0 13) .int 0 ((l5_m5++([x13])).length)) (oi 0 1) (oi 0 13) (.arr 3 .int (l5_m5++([x13]))) (Yz (t:=.int) (t':=.int) (xs:=l5_m5) (ys:=[x13]) (zs:=l5_m5++([x13])) (j:=oi 0 1) (len:=l5_m5.length) (c:=.own (oi 20 12) .int 0 1) (by kernel_rfl) (by kernel_rfl) rfl (by kernel_rfl) (Aih (e:=3) (by kernel_rfl) rfl) rfl g14) ?_;refine rsB 1 ?_;refine As (bn_ (tn_ ?_));refine wr_ ?_;obtain ⟨g15,h⟩:=Aq h;refine Aa 17 ?_;refine rs0 (ai ((l5_m10+1:Nat):Int)) (za g15) ?_;refine rsB 1 ?_;refine As (tn_ ?_);obtain rfl:=zj h;exact ⟨(l5_m10+1,l5_m5++([x13])),_,Ac [(oi 0 1,oi 0 13)],⟨l5_m10+1,l5_m5++([x13]),rfl,rfl⟩,hn5⟩
  have q8_:=of_decide_eq_false q8;refine Ah q8 ?_;refine Ax (te_ (te_ (be_ (tn_ ?_))));obtain rfl:=zj h;have h:=hn5
  (try dsimp only at h);obtain rfl:=zj h;exact ⟨_,Ac [],rfl⟩
 rintro l3_m5 _ rfl h
 (try dsimp only at h);refine Am ?_;refine Ak ?_;obtain rfl:=zj h;exact Bl [.own (oi 0 1) .int 0 l3_m5.length] (A7 rfl (Xz (by kernel_rfl) rfl) A8)
def K9:AC :=
 (.seq (rg [xo 26 (qb .lss (tm 25) (tm 24))])
 (.seq (.cond (tm 26)
  .skip
  (.exit 2))
 (.seq (.block 3 (.seq (rg [xo 27 (qm (tm 25)),xo 28 (qx 1 (tm 23) (tm 25)),xo 29 (ql (tm 28)),xo 12 (qm (tm 27)),xo 13 (qm (tm 29))])
 (.region [xo 30 (qm (tm 9)),xo 31 (qm (tm 12)),xo 32 (qm (tm 9)),xo 33 (qm (tm 12)),xo 34 (qx 1 (tm 32) (tm 33)),xo 35 (ql (tm 34)),xo 36 (qm (tm 3)),xo 37 (qm (tm 10)),xo 38 (qx 1 (tm 36) (tm 37)),xo 39 (ql (tm 38)),xo 40 (qm (tm 13)),xo 41 (qb .mul (tm 39) (tm 40)),xo 42 (qb .add (tm 35) (tm 41)),xo 43 (qm (tm 0)),xo 44 (qb .rem (tm 42) (tm 43)),xo 45 (qx 1 (tm 30) (tm 31)),xn (qs (tm 45) (tm 44))] true [])))
 (rg [xo 46 (qb .add (tm 25) (ci 1)),xo 25 (qm (tm 46))]))))
def Li:AC :=
 (.seq (rg [xo 19 (qb .lss (tm 18) (tm 17))])
 (.seq (.cond (tm 19)
  .skip
  (.exit 0))
 (.seq (.block 1 (.seq (rg [xo 20 (qm (tm 18)),xo 21 (qx 1 (tm 16) (tm 18)),xo 22 (ql (tm 21)),xo 10 (qm (tm 20)),xo 11 (qm (tm 22))])
 (.seq (rg [xo 23 (qm (tm 11)),xo 24 (.i (.len (tm 23))),xo 25 (qm (ci 0))])
 (.block 2 (.loop K9)))))
 (rg [xo 47 (qb .add (tm 18) (ci 1)),xo 18 (qm (tm 47))]))))
def Oy:AC :=
 (.seq (rg [xo 8 (qm (.cst .nils))])
 (.seq (rg [xo 14 (qm (tm 1)),xo 15 (.make 3 .int 8 (tm 14) (tm 14)),xo 9 (qm (tm 15))])
 (.seq (.seq (rg [xo 16 (qm (tm 2)),xo 17 (.i (.len (tm 16))),xo 18 (qm (ci 0))])
 (.block 0 (.loop Li)))
 (.seq (rg [xo 48 (qm (tm 9)),xo 8 (qm (tm 48))])
 .ret))))
def Zq:List Res:=[.tmp 8]
theorem Yg:Ap Tryd.prog Tryd.f50=some (Oy,Zq):=by kernel_rfl
theorem W3:A2 Tryd.prog 50=true:=by kernel_rfl
def El (x12:List Int) (a3:List Int) (l6_m18:Nat) (a0:Int) (l14_m25:Nat) (l14_m9:List Int):Option (Ctl (Nat×List Int) (List Int)) :=
 cond (decide (((l14_m25:Nat):Int)<((x12.length:Nat):Int)))
 (Option.bind (x12[l14_m25]?) fun x20 =>
 Option.bind (l14_m9[l14_m25]?) fun x21 =>
 Option.bind (a3[l6_m18]?) fun x22 =>
 og (a0≠0) <|
 og (l14_m25+1<4611686018427387904) <|
 some (Ctl.next (l14_m25+1,l14_m9.set l14_m25 (Int.tmod (wI (x21+wI (x22*x20))) a0))))
 (some (Ctl.out l14_m9))
def Ed (a2:List (List Int)) (a3:List Int) (a0:Int) (l6_m18:Nat) (l6_m9:List Int):Option (Ctl (Nat×List Int) (List Int)) :=
 cond (decide (((l6_m18:Nat):Int)<((a2.length:Nat):Int)))
 (Option.bind (Option.bind (a2[l6_m18]?) fun x12 =>
  A1 (fun s_:Nat×List Int=>El x12 a3 l6_m18 a0 s_.1 s_.2) 4611686018427387904 (0,l6_m9)) fun l10_m9 =>
 og (l6_m18+1<4611686018427387904) <|
 some (Ctl.next (l6_m18+1,l10_m9)))
 (some (Ctl.out l6_m9))
def Gs (a0:Int) (a1:Int) (a2:List (List Int)) (a3:List Int):Option (List Int) :=
 og (0<=a1∧a1<=a1∧a1<=1073741824∧(8:Int)*a1<=140737488355328) <|
Option.bind (A1 (fun s_:Nat×List Int=>Ed a2 a3 a0 s_.1 s_.2) 4611686018427387904 (0,List.replicate a1.toNat (0:Int))) fun l4_m9 =>
some l4_m9
def Wt (r:List Int):RV:=⟨false,[(false,[.new 3 .int r])]⟩
theorem Wc {a0:Int} {a1:Int} {a2:List (List Int)} {a3:List Int} {r:List Int} (h:Gs a0 a1 a2 a3=some r):A6 Tryd.prog Tab 50 [ai a0,ai a1,.tree (.slice .int) a2,.tree .int a3] (Wt r):=by
 refine A5 (by kernel_rfl) Tryd.func50 Yg (n:=49) (by kernel_rfl) (by simp) (tl:=[(0,ai a0),(1,ai a1),(2,.tree (.slice .int) a2),(3,.tree .int a3)]) rfl ?_;unfold Oy;unfold Gs at h;refine Am ?_;refine Ab ?_;obtain ⟨g3,h⟩:=Aq h;refine Aa 5 ?_;refine rz0 (ai a1) ?_;refine rs1 (.own (oi 15 3) .int 0 a1.toNat) (oi 15 3) (.arr 3 .int (List.replicate a1.toNat (0:Int))) (Ahi (t:=.int) (k:=.i64) (k':=.i64) (m:=a1) (m':=a1) (by kernel_rfl) (by kernel_rfl) g3 rfl) ?_;refine rsB 1 ?_;refine As (tn_ ?_);refine wr_ ?_;refine Ay h (fun (l4_m9:List Int) S_=>S_=⟨Al [(9,.own (oi 0 1) .int 0 l4_m9.length)],Af (Ao [(oi 0 1,.arr 3 .int l4_m9)]),2⟩) ?_ ?_
 ·intro v_ h;refine Am ?_;refine Ai ?_;refine Az h (fun t_ S_=>∃ (l6_m18:Nat),∃ (l6_m9:List Int),t_=(l6_m18,l6_m9)∧S_=⟨Al [(0,ai a0),(3,.tree .int a3),(9,.own (oi 0 1) .int 0 l6_m9.length),(16,.tree (.slice .int) a2),(17,ai ((a2.length:Nat):Int)),(18,ai ((l6_m18:Nat):Int))],Af (Ao [(oi 0 1,.arr 3 .int l6_m9)]),2⟩) ⟨_,(Bn 9 (.own (oi 15 3) .int 0 a1.toNat) (.own (oi 15 3) .int 0 ((List.replicate a1.toNat (0:Int)).length)) (by kernel_rfl) (congrArg (fun z_=>((.own (oi 15 3) .int 0 z_):AV)) (List.length_replicate.symm:a1.toNat=(List.replicate a1.toNat (0:Int)).length))).trans (Ac [(oi 0 1,oi 15 3)]),⟨0,List.replicate a1.toNat (0:Int),rfl,rfl⟩⟩ ?_;rintro n_ _ _ c_ ⟨l6_m18,l6_m9,rfl,rfl⟩ h hn6
  (try dsimp only at h);unfold Ed at h;unfold Li;refine Am ?_;refine Ab ?_;rcases Ad h with ⟨q9,h⟩ | ⟨q9,h⟩
  ·have q9_:=of_decide_eq_true q9;refine Ag q9 ?_;refine Aj (tn_ ?_);refine wr_ ?_;refine Ay h (fun (l10_m9:List Int) S_=>S_=⟨Al [(0,ai a0),(3,.tree .int a3),(9,.own (oi 0 1) .int 0 l10_m9.length),(16,.tree (.slice .int) a2),(17,ai ((a2.length:Nat):Int)),(18,ai ((l6_m18:Nat):Int))],Af (Ao [(oi 0 1,.arr 3 .int l10_m9)]),2⟩) ?_ ?_
   ·intro v_ h;refine Ai ?_;refine Ab ?_;obtain ⟨x12,e12,h⟩:=Ae h;refine Aa 8 ?_;refine rz0 (ai ((l6_m18:Nat):Int)) ?_;refine rs0 (.telt none (.slice .int) x12 0) (zi (t:=.slice .int) (xs:=a2) (k:=.i64) (m:=((l6_m18:Nat):Int)) (A0 _) e12) ?_;refine rsB 3 ?_;refine As (tn_ ?_);refine wr_ ?_;refine Am ?_;refine Ai ?_;refine Az h (fun t_ S_=>∃ (l14_m25:Nat),∃ (l14_m9:List Int),t_=(l14_m25,l14_m9)∧S_=⟨Al [(0,ai a0),(3,.tree .int a3),(9,.own (oi 0 1) .int 0 l14_m9.length),(10,ai ((l6_m18:Nat):Int)),(16,.tree (.slice .int) a2),(17,ai ((a2.length:Nat):Int)),(18,ai ((l6_m18:Nat):Int)),(23,.tree .int x12),(24,ai ((x12.length:Nat):Int)),(25,ai ((l14_m25:Nat):Int))],Af (Ao [(oi 0 1,.arr 3 .int l14_m9)]),2⟩) ⟨_,Ac [],⟨0,l6_m9,rfl,rfl⟩⟩ ?_;rintro n_ _ _ c_ ⟨l14_m25,l14_m9,rfl,rfl⟩ h hn14
    (try dsimp only at h);unfold El at h;unfold K9;refine Am ?_;refine Ab ?_;rcases Ad h with ⟨q17,h⟩ | ⟨q17,h⟩
    ·have q17_:=of_decide_eq_true q17;refine Ag q17 ?_;refine Aj (tn_ ?_);refine wr_ ?_;refine Ab ?_;refine Ai ?_;refine Ab ?_;obtain ⟨x20,e20,h⟩:=Ae h;refine Aa 8 ?_;refine rz0 (ai ((l14_m25:Nat):Int)) ?_;refine rs0 (.telt none .int x20 0) (zi (t:=.int) (xs:=x12) (k:=.i64) (m:=((l14_m25:Nat):Int)) (A0 _) e20) ?_;refine rsB 3 ?_;refine As (tn_ ?_);refine wr_ ?_;obtain ⟨x21,e21,h⟩:=Ae h;obtain ⟨x22,e22,h⟩:=Ae h;obtain ⟨g23,h⟩:=Aq h;refine Bb 25 ?_;refine dz0 (.own (oi 0 1) .int 0 l14_m9.length) ?_;refine dz0 (ai ((l14_m25:Nat):Int)) ?_;refine dz0 (.own (oi 0 1) .int 0 l14_m9.length) ?_;refine dz0 (ai ((l14_m25:Nat):Int)) ?_;refine ds0 (.elt (oi 0 1) l14_m25 0) (zo (t:=.int) (o:=oi 0 1) (len:=l14_m9.length) (k:=.i64) (m:=((l14_m25:Nat):Int)) (A0 _) (At e21)) ?_;refine dsl (ai x21) (Ip (i:=oi 0 1) (j:=l14_m25) (k:=0) (e:=3) (t:=.int) (xs:=l14_m9) (by kernel_rfl) (by kernel_rfl) e21 (by kernel_rfl)) ?_;refine dz0 (.tree .int a3) ?_;refine dz0 (ai ((l6_m18:Nat):Int)) ?_;refine ds0 (.telt none .int x22 0) (zi (t:=.int) (xs:=a3) (k:=.i64) (m:=((l6_m18:Nat):Int)) (A0 _) e22) ?_;refine dz0 (ai x22) ?_;refine dz0 (ai x20) ?_;refine dz0 (ai (wI (x22*x20))) ?_;refine dz0 (ai (wI (x21+wI (x22*x20)))) ?_;refine dz0 (ai a0) ?_;refine ds0 (ai (Int.tmod (wI (x21+wI (x22*x20))) a0)) (Lr (k:=.i64) (a:=wI (x21+wI (x22*x20))) (b:=a0) (by kernel_rfl) (by kernel_rfl) g23) ?_;refine ds0 (.elt (oi 0 1) l14_m25 0) (zo (t:=.int) (o:=oi 0 1) (len:=l14_m9.length) (k:=.i64) (m:=((l14_m25:Nat):Int)) (A0 _) (At e21)) ?_;refine Aca (oi 0 1) (oi 0 1) (.arr 3 .int (l14_m9.set l14_m25 (Int.tmod (wI (x21+wI (x22*x20))) a0))) (Tl (i:=oi 0 1) (j:=l14_m25) (k:=0) (e:=3) (t:=.int) (xs:=l14_m9) (cs:=[ai (Int.tmod (wI (x21+wI (x22*x20))) a0)]) (x1:=Int.tmod (wI (x21+wI (x22*x20))) a0) (by kernel_rfl) (by kernel_rfl) e21 (by kernel_rfl) (by kernel_rfl)) ?_;refine Ky (Bx (by kernel_rfl)) (bn_ (tn_ ?_));refine wr_ ?_;obtain ⟨g24,h⟩:=Aq h;refine Aa 27 ?_;refine rs0 (ai ((l14_m25+1:Nat):Int)) (za g24) ?_;refine rsB 1 ?_;refine As (tn_ ?_);obtain rfl:=zj h;exact ⟨(l14_m25+1,l14_m9.set l14_m25 (Int.tmod (wI (x21+wI (x22*x20))) a0)),_,(Bn 9 (.own (oi 0 1) .int 0 l14_m9.length) (.own (oi 0 1) .int 0 ((l14_m9.set l14_m25 (Int.tmod (wI (x21+wI (x22*x20))) a0)).length)) (by kernel_rfl) (congrArg (fun z_=>((.own (oi 0 1) .int 0 z_):AV)) (((rfl:l14_m9.length=l14_m9.length).trans List.length_set.symm):l14_m9.length=(l14_m9.set l14_m25 (Int.tmod (wI (x21+wI (x22*x20))) a0)).length))).trans (Ac []),⟨l14_m25+1,l14_m9.set l14_m25 (Int.tmod (wI (x21+wI (x22*x20))) a0),rfl,rfl⟩,hn14⟩
    have q17_:=of_decide_eq_false q17;refine Ah q17 ?_;refine Ax (te_ (te_ (be_ (bn_ (tn_ ?_)))));obtain rfl:=zj h;have h:=hn14
    (try dsimp only at h);obtain rfl:=zj h;exact ⟨_,Ac [],rfl⟩
   rintro l10_m9 _ rfl h
   (try dsimp only at h);obtain ⟨g25,h⟩:=Aq h;refine Aa 4 ?_;refine rs0 (ai ((l6_m18+1:Nat):Int)) (za g25) ?_;refine rsB 1 ?_;refine As (tn_ ?_);obtain rfl:=zj h;exact ⟨(l6_m18+1,l10_m9),_,Ac [],⟨l6_m18+1,l10_m9,rfl,rfl⟩,hn6⟩
  have q9_:=of_decide_eq_false q9;refine Ah q9 ?_;refine Ax (te_ (te_ (be_ (tn_ ?_))));obtain rfl:=zj h;have h:=hn6
  (try dsimp only at h);obtain rfl:=zj h;exact ⟨_,Ac [],rfl⟩
 rintro l4_m9 _ rfl h
 (try dsimp only at h);refine Am ?_;refine Ak ?_;obtain rfl:=zj h;exact Bl [.own (oi 0 1) .int 0 l4_m9.length] (A7 rfl (Xz (by kernel_rfl) rfl) A8)
def P4:AC :=
 (.seq (rg [xo 6 (qm (cb false))])
 (.seq (rg [xo 7 (qm (tm 0)),xo 8 (qm (tm 2)),xo 9 (.i (.len (tm 8))),xo 10 (qm (tm 1)),xo 11 (qm (tm 1)),xo 12 (qm (tm 2)),xo 13 (qc 51 [tm 11,tm 12] [[some (.slice .int)],[some .int]]),xo 14 (qc 50 [tm 7,tm 9,tm 10,tm 13] [[],[],[some (.slice .int)],[some .int]]),xo 15 (qm (tm 2)),xo 16 (qc 49 [tm 14,tm 15] [[some .int],[some .int]]),xo 6 (qm (tm 16))])
 .ret))
def Zr:List Res:=[.tmp 6]
theorem Yl:Ap Tryd.prog Tryd.f26=some (P4,Zr):=by kernel_rfl
theorem V7:A2 Tryd.prog 26=true:=by kernel_rfl
def Gr (a0:Int) (a1:List (List Int)) (a2:List Int):Option Bool :=
 Option.bind (Eh a1 a2) fun y3 =>
Option.bind (Gs a0 ((a2.length:Nat):Int) a1 y3) fun y4 =>
Option.bind (F9 y4 a2) fun y5 =>
some y5
def Wv (r:Bool):RV:=⟨false,[(false,[.sc (.bool r)])]⟩
theorem Wj {a0:Int} {a1:List (List Int)} {a2:List Int} {r:Bool} (h:Gr a0 a1 a2=some r):A6 Tryd.prog Tab 26 [ai a0,.tree (.slice .int) a1,.tree .int a2] (Wv r):=by
 refine A5 (by kernel_rfl) Tryd.func26 Yl (n:=17) (by kernel_rfl) (by simp) (tl:=[(0,ai a0),(1,.tree (.slice .int) a1),(2,.tree .int a2)]) rfl ?_;unfold P4;unfold Gr at h;refine Am ?_;refine Ab ?_;obtain ⟨y3,h3,h⟩:=Ae h;obtain ⟨y4,h4,h⟩:=Ae h;obtain ⟨y5,h5,h⟩:=Ae h;refine Aa 13 ?_;refine rz0 (ai a0) ?_;refine rz0 (.tree .int a2) ?_;refine rz0 (ai ((a2.length:Nat):Int)) ?_;refine rz0 (.tree (.slice .int) a1) ?_;refine rz0 (.tree (.slice .int) a1) ?_;refine rz0 (.tree .int a2) ?_;refine zc (.own (oi 208 8) .int 0 y3.length) [(oi 208 8,some (.arr 3 .int y3))] [.tree (.slice .int) a1,.tree .int a2] (Qi h3) ?_;refine E3 (.own (oi 224 9) .int 0 y4.length) [(oi 224 9,some (.arr 3 .int y4))] [ai a0,ai ((a2.length:Nat):Int),.tree (.slice .int) a1,.own (oi 208 8) .int 0 y3.length] _ (caps:=[]) (args0:=[ai a0,ai ((a2.length:Nat):Int),.tree (.slice .int) a1,.tree .int y3]) trivial (Au (by kernel_rfl) (Au (by kernel_rfl) (Au (by kernel_rfl) (Au (Qa (e:=3) (by kernel_rfl) rfl) Ck)))) (Wc h4) W3 ?_;refine rz0 (.tree .int a2) ?_;refine E3 (.bool y5) [] [.own (oi 224 9) .int 0 y4.length,.tree .int a2] _ (caps:=[]) (args0:=[.tree .int y4,.tree .int a2]) trivial (Au (Qa (e:=3) (by kernel_rfl) rfl) (Au (by kernel_rfl) Ck)) (U0 h5) T9 ?_;refine rsB 1 ?_;refine As (tn_ ?_);refine wr_ ?_;refine Ak ?_;obtain rfl:=zj h;exact Bl [.bool y5] (A7 rfl zl A8)
def Lu:AC :=
 (.seq (rg [xo 8 (qb .lss (tm 7) (tm 6))])
 (.seq (.cond (tm 8)
  .skip
  (.exit 0))
 (.seq (.block 1 (.seq (rg [xo 9 (qm (tm 7)),xo 10 (qx 1 (tm 5) (tm 7)),xo 11 (ql (tm 10)),xo 3 (qm (tm 9)),xo 4 (qm (tm 11))])
 (.seq (rg [xo 12 (qm (tm 4)),xo 13 (qb .neq (tm 12) (ci 0))])
 (.cond (tm 13)
  (.seq (rg [xo 14 (qm (tm 3)),xo 2 (qm (tm 14))])
  .ret)
  .skip))))
 (rg [xo 15 (qb .add (tm 7) (ci 1)),xo 7 (qm (tm 15))]))))
def Rj:AC :=
 (.seq (rg [xo 2 (qm (ci 0))])
 (.seq (.seq (rg [xo 5 (qm (tm 0)),xo 6 (.i (.len (tm 5))),xo 7 (qm (ci 0))])
 (.block 0 (.loop Lu)))
 (.seq (rg [xo 16 (qm (tm 0)),xo 17 (.i (.len (tm 16))),xo 2 (qm (tm 17))])
 .ret)))
def Aa8:List Res:=[.tmp 2]
theorem Aaf:Ap Tryd.prog Tryd.f56=some (Rj,Aa8):=by kernel_rfl
def Fa (a0:List Int) (l4_m7:Nat):Option (Ctl Nat (Ctl Unit Int)) :=
 cond (decide (((l4_m7:Nat):Int)<((a0.length:Nat):Int)))
 (Option.bind (a0[l4_m7]?) fun x10 =>
 cond (x10 !=0)
  (some (Ctl.out (Ctl.out ((l4_m7:Nat):Int))))
  (og (l4_m7+1<4611686018427387904) <|
  some (Ctl.next (l4_m7+1))))
 (some (Ctl.out (Ctl.next ())))
def Gh (a0:List Int):Option Int :=
 M9 (A1 (fun s_:Nat=>Fa a0 s_) 4611686018427387904 0) fun _ =>
some ((a0.length:Nat):Int)
def Yk (r:Int):RV:=⟨false,[(false,[.sc (.int .i64 r)])]⟩
theorem Pv {a0:List Int} {r:Int} (h:Gh a0=some r):A6 Tryd.prog Tab 56 [.tree .int a0] (Yk r):=by
 refine A5 (by kernel_rfl) Tryd.func56 Aaf (n:=18) (by kernel_rfl) (by simp) (tl:=[(0,.tree .int a0)]) rfl ?_;unfold Rj;unfold Gh at h;refine Am ?_;refine Ds h (fun (_:Unit) S_=>S_=⟨Al [(0,.tree .int a0)],Af (Ao []),2⟩) ?_ ?_
 ·intro v_ h hk2;refine Am ?_;refine Ai ?_;refine Az h (fun (l4_m7:Nat) S_=>S_=⟨Al [(0,.tree .int a0),(5,.tree .int a0),(6,ai ((a0.length:Nat):Int)),(7,ai ((l4_m7:Nat):Int))],Af (Ao []),2⟩) ⟨_,Ac [],rfl⟩ ?_;rintro n_ l4_m7 _ c_ rfl h hn4
  (try dsimp only at h);unfold Fa at h;unfold Lu;refine Am ?_;refine Ab ?_;rcases Ad h with ⟨q7,h⟩ | ⟨q7,h⟩
  ·have q7_:=of_decide_eq_true q7;refine Ag q7 ?_;refine Aj (tn_ ?_);refine wr_ ?_;refine Ab ?_;refine Ai ?_;refine Ab ?_;obtain ⟨x10,e10,h⟩:=Ae h;refine Aa 8 ?_;refine rz0 (ai ((l4_m7:Nat):Int)) ?_;refine rs0 (.telt none .int x10 0) (zi (t:=.int) (xs:=a0) (k:=.i64) (m:=((l4_m7:Nat):Int)) (A0 _) e10) ?_;refine rsB 3 ?_;refine As (tn_ ?_);refine wr_ ?_;refine Am ?_;rcases Ad h with ⟨q12,h⟩ | ⟨q12,h⟩
   ·refine Ag q12 ?_;refine Am ?_;refine Ak (br_ (tr_ (tr_ (br_ (tr_ ?_)))));obtain rfl:=zj h;have h:=hn4
    (try dsimp only at h);obtain rfl:=zj h;have h:=hk2
    (try dsimp only at h);obtain rfl:=zj h;exact Bl [ai ((l4_m7:Nat):Int)] (A7 rfl zl A8)
   refine Ah q12 ?_;refine Aj (bn_ (tn_ ?_));refine wr_ ?_;obtain ⟨g14,h⟩:=Aq h;refine Aa 12 ?_;refine rs0 (ai ((l4_m7+1:Nat):Int)) (za g14) ?_;refine rsB 1 ?_;refine As (tn_ ?_);obtain rfl:=zj h;exact ⟨l4_m7+1,_,Ac [],rfl,hn4⟩
  have q7_:=of_decide_eq_false q7;refine Ah q7 ?_;refine Ax (te_ (te_ (be_ (tn_ ?_))));obtain rfl:=zj h;have h:=hn4
  (try dsimp only at h);obtain rfl:=zj h;exact ⟨(),_,rfl,Ac [],rfl⟩
 rintro _ _ rfl h
 (try dsimp only at h);refine Am ?_;refine Ak ?_;obtain rfl:=zj h;exact Bl [ai ((a0.length:Nat):Int)] (A7 rfl zl A8)
def Nx:AC :=
 (.seq (rg [xo 2 (qm (cb false))])
 (.seq (rg [xo 3 (qm (tm 0)),xo 4 (qc 56 [tm 3] [[some .int]]),xo 5 (qm (tm 0)),xo 6 (.i (.len (tm 5))),xo 7 (qb .eql (tm 4) (tm 6)),xo 2 (qm (tm 7))])
 .ret))
def V3:List Res:=[.tmp 2]
theorem Vx:Ap Tryd.prog Tryd.f57=some (Nx,V3):=by kernel_rfl
theorem U2:A2 Tryd.prog 57=true:=by kernel_rfl
def Ha (a0:List Int):Option Bool :=
 Option.bind (Gh a0) fun y3 =>
some (y3==((a0.length:Nat):Int))
def Tk (r:Bool):RV:=⟨false,[(false,[.sc (.bool r)])]⟩
theorem Vj {a0:List Int} {r:Bool} (h:Ha a0=some r):A6 Tryd.prog Tab 57 [.tree .int a0] (Tk r):=by
 refine A5 (by kernel_rfl) Tryd.func57 Vx (n:=8) (by kernel_rfl) (by simp) (tl:=[(0,.tree .int a0)]) rfl ?_;unfold Nx;unfold Ha at h;refine Am ?_;refine Ab ?_;obtain ⟨y3,h3,h⟩:=Ae h;refine Aa 8 ?_;refine rz0 (.tree .int a0) ?_;refine zc (ai y3) [] [.tree .int a0] (Pv h3) ?_;refine rsB 4 ?_;refine As (tn_ ?_);refine wr_ ?_;refine Ak ?_;obtain rfl:=zj h;exact Bl [.bool (y3==((a0.length:Nat):Int))] (A7 rfl zl A8)
def G1:AC :=
 (.seq (rg [xo 19 (qb .lss (tm 18) (tm 17))])
 (.seq (.cond (tm 19)
  .skip
  (.exit 0))
 (.seq (.block 1 (.seq (rg [xo 20 (qx 1 (tm 16) (tm 18)),xo 21 (ql (tm 20)),xo 11 (qm (tm 21))])
 (.seq (rg [xo 22 (qm (tm 8)),xo 23 (qm (tm 11)),xo 24 (qc 56 [tm 23] [[some .int]]),xo 25 (qx 1 (tm 22) (tm 24)),xo 26 (ql (tm 25)),xo 12 (qm (tm 26))])
 (.seq (rg [xo 27 (qm (tm 9)),xo 28 (qm (tm 12)),xo 29 (.mkS 3 .int [tm 28]),xo 30 (.append 3 .int 8 (tm 27) (tm 29)),xo 9 (qm (tm 30))])
 (rg [xo 31 (qm (tm 0)),xo 32 (qm (tm 8)),xo 33 (qm (tm 12)),xo 34 (.i (.neg (tm 33))),xo 35 (qm (tm 11)),xo 36 (qc 44 [tm 31,tm 32,tm 34,tm 35] [[],[some .int],[],[some .int]])])))))
 (rg [xo 37 (qb .add (tm 18) (ci 1)),xo 18 (qm (tm 37))]))))
def I2:AC :=
 (.seq (rg [xo 6 (qm (.cst .nils)),xo 7 (qm (cb false))])
 (.seq (rg [xo 13 (qm (tm 2)),xo 14 (qc 55 [tm 13] [[some .int]]),xo 8 (qm (tm 14))])
 (.seq (rg [xo 15 (.mkS 3 .int []),xo 9 (qm (tm 15))])
 (.seq (.seq (rg [xo 16 (qm (tm 1)),xo 17 (.i (.len (tm 16))),xo 18 (qm (ci 0))])
 (.block 0 (.loop G1)))
 (.seq (rg [xo 38 (qm (tm 9)),xo 39 (qm (tm 8)),xo 40 (qc 57 [tm 39] [[some .int]]),xo 6 (qm (tm 38)),xo 7 (qm (tm 40))])
 .ret)))))
def Of:List Res:=[.tmp 6,.tmp 7]
theorem N9:Ap Tryd.prog Tryd.f30=some (I2,Of):=by kernel_rfl
theorem M6:A2 Tryd.prog 30=true:=by kernel_rfl
def B8 (a1:List (List Int)) (a0:Int) (l7_m18:Nat) (l7_m8:List Int) (l7_m9:List Int):Option (Ctl (Nat×List Int×List Int) (List Int×List Int)) :=
 cond (decide (((l7_m18:Nat):Int)<((a1.length:Nat):Int)))
 (Option.bind (a1[l7_m18]?) fun x13 =>
 Option.bind (Gh x13) fun y15 =>
 Option.bind (Q7 l7_m8 y15) fun x16 =>
 og (l7_m9.length+1<=1073741824∧(l7_m9.length+1)*8<=140737488355328) <|
 Option.bind (Dd a0 l7_m8 (wI (0 - x16)) x13) fun y19 =>
 og (y19.length=l7_m8.length) <|
 og (l7_m18+1<4611686018427387904) <|
 some (Ctl.next (l7_m18+1,y19,l7_m9++([x16]))))
 (some (Ctl.out (l7_m8,l7_m9)))
def C7 (a0:Int) (a1:List (List Int)) (a2:List Int):Option (List Int×Bool) :=
 Option.bind (Fm a2) fun y3 =>
Option.bind (A1 (fun s_:Nat×List Int×List Int=>B8 a1 a0 s_.1 s_.2.1 s_.2.2) 4611686018427387904 (0,y3,[])) fun (l5_m8,l5_m9) =>
Option.bind (Ha l5_m8) fun y23 =>
some (l5_m9,y23)
def Na (r:List Int×Bool):RV:=⟨true,[(false,[.new 3 .int r.1]),(false,[.sc (.bool r.2)])]⟩
theorem Nb {a0:Int} {a1:List (List Int)} {a2:List Int} {r:List Int×Bool} (h:C7 a0 a1 a2=some r):A6 Tryd.prog Tab 30 [ai a0,.tree (.slice .int) a1,.tree .int a2] (Na r):=by
 refine A5 (by kernel_rfl) Tryd.func30 N9 (n:=41) (by kernel_rfl) (by simp) (tl:=[(0,ai a0),(1,.tree (.slice .int) a1),(2,.tree .int a2)]) rfl ?_;unfold I2;unfold C7 at h;refine Am ?_;refine Ab ?_;obtain ⟨y3,h3,h⟩:=Ae h;refine Aa 6 ?_;refine rz0 (.tree .int a2) ?_;refine zc (.own (oi 224 4) .int 0 y3.length) [(oi 224 4,some (.arr 3 .int y3))] [.tree .int a2] (Np h3) ?_;refine rsB 1 ?_;refine As (tn_ ?_);refine wr_ ?_;refine Am ?_;refine Ay h (fun t_ S_=>∃ (l5_m8:List Int),∃ (l5_m9:List Int),t_=(l5_m8,l5_m9)∧S_=⟨Al [(8,.own (oi 0 1) .int 0 l5_m8.length),(9,.own (oi 1 1) .int 0 l5_m9.length)],Af (Ao [(oi 0 1,.arr 3 .int l5_m8),(oi 1 1,.arr 3 .int l5_m9)]),2⟩) ?_ ?_
 ·intro v_ h;refine Am ?_;refine Ai ?_;refine Az h (fun t_ S_=>∃ (l7_m18:Nat),∃ (l7_m8:List Int),∃ (l7_m9:List Int),t_=(l7_m18,l7_m8,l7_m9)∧S_=⟨Al [(0,ai a0),(8,.own (oi 0 1) .int 0 l7_m8.length),(9,.own (oi 1 1) .int 0 l7_m9.length),(16,.tree (.slice .int) a1),(17,ai ((a1.length:Nat):Int)),(18,ai ((l7_m18:Nat):Int))],Af (Ao [(oi 0 1,.arr 3 .int l7_m8),(oi 1 1,.arr 3 .int l7_m9)]),2⟩) ⟨_,Ac [(oi 0 1,oi 224 4),(oi 1 1,oi 15 6)],⟨0,y3,[],rfl,rfl⟩⟩ ?_;rintro n_ _ _ c_ ⟨l7_m18,l7_m8,l7_m9,rfl,rfl⟩ h hn7
  (try dsimp only at h);unfold B8 at h;unfold G1;refine Am ?_;refine Ab ?_;rcases Ad h with ⟨q10,h⟩ | ⟨q10,h⟩
  ·have q10_:=of_decide_eq_true q10;refine Ag q10 ?_;refine Aj (tn_ ?_);refine wr_ ?_;refine Ab ?_;refine Ai ?_;refine Ab ?_;obtain ⟨x13,e13,h⟩:=Ae h;refine Aa 6 ?_;refine rs0 (.telt none (.slice .int) x13 0) (zi (t:=.slice .int) (xs:=a1) (k:=.i64) (m:=((l7_m18:Nat):Int)) (A0 _) e13) ?_;refine rsB 2 ?_;refine As (tn_ ?_);refine wr_ ?_;refine Ab ?_;obtain ⟨y15,h15,h⟩:=Ae h;obtain ⟨x16,f16,h⟩:=Ae h;obtain ⟨p16,b16,e16⟩:=Ew f16;refine Aa 12 ?_;refine rz0 (.own (oi 0 1) .int 0 l7_m8.length) ?_;refine rz0 (.tree .int x13) ?_;refine zc (ai y15) [] [.tree .int x13] (Pv h15) ?_;refine rs0 (.elt (oi 0 1) y15.toNat 0) (zo (t:=.int) (o:=oi 0 1) (len:=l7_m8.length) (k:=.i64) (m:=y15) p16 (At e16)) ?_;refine rsl (ai x16) (Ip (i:=oi 0 1) (j:=y15.toNat) (k:=0) (e:=3) (t:=.int) (xs:=l7_m8) (by kernel_rfl) (by kernel_rfl) e16 (by kernel_rfl)) ?_;refine rsB 1 ?_;refine As (tn_ ?_);refine wr_ ?_;refine Ab ?_;obtain ⟨g18,h⟩:=Aq h;refine Aa 17 ?_;refine rz0 (.own (oi 1 1) .int 0 l7_m9.length) ?_;refine rz0 (ai x16) ?_;refine rs1 (.own (oi 29 14) .int 0 1) (oi 29 14) (.arr 3 .int ([x16])) (by kernel_rfl) ?_;refine rs2 (.own (oi 1 15) .int 0 ((l7_m9++([x16])).length)) (oi 1 1) (oi 1 15) (.arr 3 .int (l7_m9++([x16]))) (Yz (t:=.int) (t':=.int) (xs:=l7_m9) (ys:=[x16]) (zs:=l7_m9++([x16])) (j:=oi 1 1) (len:=l7_m9.length) (c:=.own (oi 29 14) .int 0 1) (by kernel_rfl) (by kernel_rfl) rfl (by kernel_rfl) (Aih (e:=3) (by kernel_rfl) rfl) rfl g18) ?_;refine rsB 1 ?_;refine As (tn_ ?_);refine wr_ ?_;obtain ⟨y19,h19,h⟩:=Ae h;obtain ⟨g20,h⟩:=Aq h;refine Aa 23 ?_;refine rz0 (ai a0) ?_;refine rz0 (.own (oi 0 1) .int 0 l7_m8.length) ?_;refine rz0 (ai x16) ?_;refine rz0 (ai (wI (0 - x16))) ?_;refine rz0 (.tree .int x13) ?_;refine Dn (.tup []) [(oi 0 1,some (.arr 3 .int y19)),(oi 0 1,none)] [(oi 0 0,oi 0 1)] [ai a0,.own (oi 0 1) .int 0 l7_m8.length,ai (wI (0 - x16)),.tree .int x13] (caps:=[]) trivial (Kk h19 rfl) Kg ⟨by kernel_rfl,trivial⟩ (.cons (.ren (by kernel_rfl)) (.cons (.ren (by kernel_rfl)) (.cons (.ren (by kernel_rfl)) (.cons (.ren (by kernel_rfl)) .nil)))) (A9 (by kernel_rfl) (by kernel_rfl) ⟨Bj (by kernel_rfl),trivial⟩) ?_;refine As (bn_ (tn_ ?_));refine wr_ ?_;obtain ⟨g21,h⟩:=Aq h;refine Aa 25 ?_;refine rs0 (ai ((l7_m18+1:Nat):Int)) (za g21) ?_;refine rsB 1 ?_;refine As (tn_ ?_);obtain rfl:=zj h;exact ⟨(l7_m18+1,y19,l7_m9++([x16])),_,(Bn 8 (.own (oi 0 1) .int 0 l7_m8.length) (.own (oi 0 1) .int 0 y19.length) (by kernel_rfl) (congrArg (fun z_=>((.own (oi 0 1) .int 0 z_):AV)) (g20.symm:l7_m8.length=y19.length))).trans (Ac [(oi 1 1,oi 1 15)]),⟨l7_m18+1,y19,l7_m9++([x16]),rfl,rfl⟩,hn7⟩
  have q10_:=of_decide_eq_false q10;refine Ah q10 ?_;refine Ax (te_ (te_ (be_ (tn_ ?_))));obtain rfl:=zj h;have h:=hn7
  (try dsimp only at h);obtain rfl:=zj h;exact ⟨_,Ac [],⟨l7_m8,l7_m9,rfl,rfl⟩⟩
 rintro _ _ ⟨l5_m8,l5_m9,rfl,rfl⟩ h
 (try dsimp only at h);refine Ab ?_;obtain ⟨y23,h23,h⟩:=Ae h;refine Aa 7 ?_;refine rz0 (.own (oi 1 1) .int 0 l5_m9.length) ?_;refine rz0 (.own (oi 0 1) .int 0 l5_m8.length) ?_;refine E3 (.bool y23) [] [.own (oi 0 1) .int 0 l5_m8.length] _ (caps:=[]) (args0:=[.tree .int l5_m8]) trivial (Au (Qa (e:=3) (by kernel_rfl) rfl) Ck) (Vj h23) U2 ?_;refine rsB 2 ?_;refine As (tn_ ?_);refine wr_ ?_;refine Ak ?_;obtain rfl:=zj h;exact Bl [.own (oi 1 1) .int 0 l5_m9.length,.bool y23] (A7 rfl (Xz (by kernel_rfl) rfl) (A7 rfl zl A8))
end Go.Proofs.YtehocbbnjfmgaaaDoor
namespace Go.Proofs.YtehocbbnjfmgaaaDoor
open Go.RowKit Go.Deep
theorem Acb {G:World->Prop} {n:Nat} {R:Nat->Prop} (hR:∀ b,n<=b->R b) {tl:List (Nat×AV)} {ol:List (Oid×Option Ob)} {g:Nat} (d:Nat) (o p:Oid) {e1 e:TypeId} {u:Ty} {xss:List (List u.D)} {len:Nat} (hd:Al tl d=.own o (.slice u) 0 len) (ho:Af ol o=some (.vec e1 1 xss.length (hdL p u xss))) (hp:Dm ol p=some (.pool e u xss)) (hl:len=xss.length) :
  WeakG (GN G n) ⟨Al tl,Af ol,g⟩ ⟨Al ((d,.ftr R (.slice u) xss) :: tl),Af ((o,none) :: (p,some (.pool e u [])) :: ol),g⟩:=by
 intro w0 B N a w hr;obtain ⟨σ,hm,hf,hB⟩:=hr.ex;have hn:n<=w0.heap.size:=(hm.inv w0 (Below.refl _ _)).2
 have h1:∀ i x,Af ((o,none) :: (p,some (.pool e u [])) :: ol) i=some x->Af ol i=some x:=fun i x hx=>by
  rw [H3,Gi] at hx;split at hx
  ·cases hx
  ·split at hx
   ·cases hx
   ·exact hx
 have h2:∀ i,(i=o∨(i.1.1=p.1.1∧i.2=p.2∧i.1.2≠0))->Af ((o,none) :: (p,some (.pool e u [])) :: ol) i=none:=fun i hc=>by
  rw [H3,Gi];rcases hc with h | h
  ·rw [if_pos h]
  ·rw [if_pos h,ite_self]
 generalize Af ((o,none) :: (p,some (.pool e u [])) :: ol)=ob' at h1 h2 ⊢;have him:∀ b,imm (Af ol) σ b->imm ob' σ b:=fun b hb i x c s hx=>hb i x c s (h1 i x hx)
 have hL:Later σ σ (imm (Af ol) σ) (imm ob' σ) w w:=⟨fun _ _ h=>h,fun b _ hb=>him b hb,fun _ _ _=>rfl,Nat.le_refl _⟩
 refine ⟨⟨σ,⟨hm.below,hm.inv,hm.gen,hm.lt,hm.cap,fun i j b c s c' s' x y hi hj=>hm.inj i j b c s c' s' x y (h1 i x hi) (h1 j y hj),fun i x l hi hl=>(hm.obs i x l (h1 i x hi) hl).later hL fun _ _ _ _=>rfl⟩,fun t=>?_,hB.trans hL⟩,hr.size,hr.defers,fun i hi=>?_⟩
 ·show AV.Rep σ (imm ob' σ) w (if t=d then _ else Al tl t) _;by_cases ht:t=d
  ·subst ht;rw [if_pos rfl];have hv:=hf t;rw [show (⟨Al tl,Af ol,g⟩:St).tm t=.own o (.slice u) 0 len from hd] at hv
   have key:AV.Rep (fun _=>none) (fun b=>imm ob' σ b∧R b) w (.tree (.slice u) xss) (a.tmps.getD t undef):=by
    refine Im (ob:=fun j=>if j=o then some (.vec e1 1 xss.length (hdL p u xss)) else if j.1.1=p.1.1∧j.2=p.2∧j.1.2≠0 then Af ol j else none) (σ:=σ) (im:=fun b=>imm ob' σ b∧R b) (lo:=w0.heap.size) (fun j q l hj hl=>?_) (fun _ hb=>hb) (fun j q b c s hj hs=>⟨fun j' q' c' s' hj' hs'=>?_,hR b (Nat.le_trans hn (hm.lt j b c s hs).1)⟩) 1 _ _ _ (D9 (p:=p) (e1:=e1) (e:=e) (if_pos rfl) (fun k row hk=>?_) hl) (U8 hv)
    ·split at hj
     ·rename_i e'; subst e';obtain rfl:=osj hj;obtain ⟨vs,g1,g2,g3⟩:=hm.obs j _ l ho hl;exact ⟨vs,g1,Aip g2,g3⟩
     ·split at hj
      ·rename_i hc;have hk:=Mt hp (j.1.2 - 1)
       have ej:kid p (j.1.2 - 1)=j:=by
        obtain ⟨⟨j1,j2⟩,j3⟩:=j;simp only [kid] at *;obtain ⟨c1,c2,c3⟩:=hc;subst c1 c2;rw [show j2 - 1+1=j2 by omega]
       rw [ej,hj] at hk;obtain ⟨row,_,rfl⟩:=oms.1 hk.symm;exact hm.obs j _ l hj hl
      ·cases hj
    ·have hd0:ob' j=none:=by
      split at hj
      ·rename_i e'; exact h2 j (.inl e')
      ·split at hj
       ·rename_i hc; exact h2 j (.inr hc)
       ·cases hj
     have hj0:∃ z,Af ol j=some z:=by
      split at hj
      ·rename_i e'; subst e'; exact ⟨_,ho⟩
      ·split at hj
       ·exact ⟨_,hj⟩
       ·cases hj
     obtain ⟨z,hz⟩:=hj0;have:=hm.inj j j' b c s c' s' z q' hz (h1 j' q' hj') hs hs';subst this;rw [hd0] at hj';cases hj'
    ·by_cases ho':kid p k=o
     ·rw [← ho'] at ho;have:=Be hp hk;rw [ho] at this;cases this
     ·rw [if_neg ho',if_pos ⟨rfl,rfl,by simp [kid]⟩];exact Be hp hk
   exact key
  ·rw [if_neg ht];exact AV.Rep.later hL _ _ (hf t)
 ·refine hr.obg i fun hn=>hi ?_
  cases hx:ob' i with
  | none=>exact hx
  | some x =>
   have:=h1 i x hx;rw [show (⟨Al tl,Af ol,g⟩:St).ob i=Af ol i from rfl,this] at hn;cases hn
section
variable {n:Nat} {d:Option Nat} {f:Nat->AV} {ob:Oid->Option Ob}
theorem Aid {y:Opd} {R:Nat->Prop} {t:Ty} {ys:List t.D} (h:y.ev f=.ftr R t ys):V2 ob t (y.ev f)=some (ys.length,tvC (some R) t ys):=by
 rw [h];simp only [V2,Ty.eq?_self,Cq]; rfl
theorem Xr {sz:Nat} {x:Opd} {lo hi mx:Option Opd} {R:Nat->Prop} {t:Ty} {xs zs:List t.D} {l h m:Int} (hx:x.ev f=.ftr R t xs) (hl:C8 f 0 lo=some l) (hh:C8 f xs.length hi=some h) (hm:C8 f xs.length mx=some m) (hs:t.size=sz) (hb:0<=l∧l<=h∧h<=m∧m<=xs.length) (hz:(xs.take h.toNat).drop l.toNat=zs) :
  Ba n ⟨d,none,.slice sz x lo hi mx⟩ f ob=some (0,.ftr R t zs,[]):=by
 subst hs hz;simp only [Ba,ev,My,hx,AV.un,AV.tag,trM,hl,hh,hm,true_and,hb.1,hb.2.1,hb.2.2.1,hb.2.2.2,and_self,if_true]
theorem Aek {x y:Opd} {o:Oid} {e1:TypeId} {t t':Ty} {b len N:Nat} {m:Option (Nat->Prop)} {xs ys:List t.D} (hx:x.ev f=.own o t' 0 len) (hob:ob o=some (.vec e1 t.size N (tvC m t xs))) (hl:len=xs.length) (hN:N=xs.length) (hy:V2 ob t (y.ev f)=some (ys.length,tvC m t ys)) (h:len+ys.length<=1073741824∧(len+ys.length)*b<=140737488355328) :
  Ba n ⟨d,none,.appV e1 t b x y⟩ f ob=some (2,.own (o.1,n) t 0 (len+ys.length),[(o,none),((o.1,n),some (.vec e1 t.size (len+ys.length) (tvC m t (xs++ys))))]):=by
 subst hl hN;have h1:List.take (xs.length*t.size) (tvC m t xs)=tvC m t xs:=List.take_of_length_le (by rw [Aez]; exact Nat.le_refl _);simp only [Ba,ev,Io,hx,hy,hob,true_and,Nat.le_refl,if_true,h1,h.1,h.2,and_self,Ajb]
end
end Go.Proofs.YtehocbbnjfmgaaaDoor
namespace Go.Proofs.YtehocbbnjfmgaaaDoor
open Go.RowKit Go.Deep
set_option maxRecDepth 4000
def Nh:AC :=
 (.seq (rg [xo 4 (qm (.cst .nils))])
 (.seq (rg [xo 5 (.mkV 39 (.slice .int) 1 []),xo 6 (qm (tm 0)),xo 7 (.appV 39 (.slice .int) 24 (tm 5) (tm 6)),xo 8 (qm (tm 1)),xo 9 (.appV 39 (.slice .int) 24 (tm 7) (tm 8)),xo 4 (qm (tm 9))])
 .ret))
def Ws:List Res:=[.tmp 4]
theorem Wr:Ap Tryd.prog Tryd.f25=some (Nh,Ws):=by kernel_rfl
theorem Vh:A2 Tryd.prog 25=true:=by kernel_rfl
def Gb (a0:List (List Int)) (a1:List (List Int)):Option (List (List Int)) :=
 og (0+a0.length<=1073741824∧(0+a0.length)*24<=140737488355328) <|
og (0+a0.length+a1.length<=1073741824∧(0+a0.length+a1.length)*24<=140737488355328) <|
some ((([]:List (List Int))++a0)++a1)
def Ti (r:List (List Int)):RV:=⟨false,[(false,[.imm (.tree (.slice .int) r)])]⟩
theorem Sz {a0:List (List Int)} {a1:List (List Int)} {r:List (List Int)} (h:Gb a0 a1=some r):A6 Tryd.prog Tab 25 [.tree (.slice .int) a0,.tree (.slice .int) a1] (Ti r):=by
 refine Agr (by kernel_rfl) Tryd.func25 Wr (fun nz_=>[.ftr nz_ (.slice .int) a0,.ftr nz_ (.slice .int) a1]) (n:=10) (by kernel_rfl) (fun _=>by simp) (fun _=>⟨_,_,rfl,rfl,⟨_,_,rfl,rfl,rfl⟩⟩) (tl:=fun nz_=>[(0,.ftr nz_ (.slice .int) a0),(1,.ftr nz_ (.slice .int) a1)]) (fun _=>rfl) fun zn_ nz_ hz_=>?_
 unfold Nh;unfold Gb at h;refine Am ?_;refine Ab ?_;obtain ⟨g3,h⟩:=Aq h;obtain ⟨g4,h⟩:=Aq h;refine Aa 8 ?_;refine Akk (.own (oi 5 2) (.slice .int) 0 0) (oi 5 2) (.vec 39 1 0 (tvC (some nz_) (.slice .int) ([]:List (List Int)))) trivial (Aer (by kernel_rfl)) ?_;refine rz0 (.ftr nz_ (.slice .int) a0) ?_;refine rs2 (.own (oi 5 4) (.slice .int) 0 (0+a0.length)) (oi 5 2) (oi 5 4) (.vec 39 1 (0+a0.length) (tvC (some nz_) (.slice .int) (([]:List (List Int))++a0))) (Aek (o:=oi 5 2) (t:=.slice .int) (t':=.slice .int) (len:=0) (N:=0) (m:=some nz_) (xs:=([]:List (List Int))) (ys:=a0) (by kernel_rfl) (by kernel_rfl) rfl rfl (Aid (by kernel_rfl)) g3) ?_;refine rz0 (.ftr nz_ (.slice .int) a1) ?_;refine rs2 (.own (oi 5 6) (.slice .int) 0 (0+a0.length+a1.length)) (oi 5 4) (oi 5 6) (.vec 39 1 (0+a0.length+a1.length) (tvC (some nz_) (.slice .int) ((([]:List (List Int))++a0)++a1))) (Aek (o:=oi 5 4) (t:=.slice .int) (t':=.slice .int) (len:=0+a0.length) (N:=0+a0.length) (m:=some nz_) (xs:=([]:List (List Int))++a0) (ys:=a1) (by kernel_rfl) (by kernel_rfl) (by simp) (by simp) (Aid (by kernel_rfl)) g4) ?_;refine rsB 1 ?_;refine As (tn_ ?_);refine ⟨_,Ah8 (N:=0+a0.length+a1.length) (oi 5 6) 39 (some nz_) (.slice .int) ((([]:List (List Int))++a0)++a1) (by kernel_rfl) (by simp),?_⟩;refine Ak ?_;obtain rfl:=zj h;exact Ahh [(false,[.own (oi 5 6) (.slice .int) 0 (0+a0.length+a1.length)])] (Acp (Ab9 (.tv (e:=39) (by kernel_rfl) (by simp))) Add)
def Ft:AC :=
 (.seq (.seq (rg [xo 38 (qm (tm 10)),xo 39 (qb .geq (tm 38) (ci 0))])
 (.cond (tm 39)
  .skip
  (.exit 2)))
 (.seq (.block 3 (.seq (.region [xo 42 (qm (tm 7)),xo 43 (qm (tm 10)),xo 44 (.slice 1 (tm 42) none (some (tm 43)) none),xo 45 (qm (tm 7)),xo 46 (qm (tm 10)),xo 47 (qb .add (tm 46) (ci 1)),xo 48 (.slice 1 (tm 45) (some (tm 47)) none none),xo 49 (qc 25 [tm 44,tm 48] [[some (.slice .int)],[some (.slice .int)]]),xo 11 (qm (tm 49))] true [])
 (.seq (.region [xo 50 (qm (tm 0)),xo 51 (qm (tm 0)),xo 52 (qm (tm 6)),xo 53 (qm (tm 11)),xo 54 (qc 27 [tm 51,tm 52,tm 53] [[],[],[some (.slice .int)]]),xo 55 (qm (tm 7)),xo 56 (qm (tm 10)),xo 57 (qx 1 (tm 55) (tm 56)),xo 58 (ql (tm 57)),xo 59 (qc 26 [tm 50,tm 54,tm 58] [[],[some (.slice .int)],[some .int]])] true [(4,8)])
 (.cond (tm 59)
  (rg [xo 60 (qm (tm 11)),xo 7 (qm (tm 60))])
  .skip))))
 (rg [xo 40 (qm (tm 10)),xo 41 (qb .sub (tm 40) (ci 1)),xo 10 (qm (tm 41))])))
def Fx:AC :=
 (.seq (rg [xo 26 (qb .lss (tm 25) (tm 24))])
 (.seq (.cond (tm 26)
  .skip
  (.exit 0))
 (.seq (.block 1 (.seq (rg [xo 27 (qx 1 (tm 23) (tm 25)),xo 28 (ql (tm 27)),xo 9 (qm (tm 28))])
 (rg [xo 29 (qm (tm 7)),xo 30 (qm (tm 9)),xo 31 (qc 24 [tm 30] [[some .int]]),xo 32 (.mkV 39 (.slice .int) 1 [tm 31]),xo 33 (.appV 39 (.slice .int) 24 (tm 29) (tm 32)),xo 7 (qm (tm 33))])))
 (rg [xo 34 (qb .add (tm 25) (ci 1)),xo 25 (qm (tm 34))]))))
def Gu:AC :=
 (.seq (rg [xo 3 (.i (.box 26 (tm 1))),xo 4 (.i (.alloc 26 [.int .i64 0,.int .i64 0,.nils])),xo 5 (qm (cb false))])
 (.seq (.seq (rg [xo 12 (qm (tm 0)),xo 13 (.i (.ld false 3 (tm 3))),xo 14 (qc 15 [tm 12,tm 13] [[],[none,none,some (.slice .int)]]),xo 15 (.i (.not (tm 14)))])
 (.cond (tm 15)
  (.seq (rg [xo 16 (.build [.int .i64 0,.int .i64 0,.nils] []),xn (.st false 3 (tm 4) (tm 16)),xo 5 (qm (cb false))])
  .ret)
  .skip))
 (.seq (rg [xo 17 (qf 0 (tm 3)),xo 18 (ql (tm 17)),xo 19 (qf 1 (tm 3)),xo 20 (ql (tm 19)),xo 21 (qb .add (tm 18) (tm 20)),xo 6 (qm (tm 21))])
 (.seq (rg [xo 7 (qm (.cst .nils))])
 (.seq (.seq (rg [xo 22 (qf 2 (tm 3)),xo 23 (ql (tm 22)),xo 24 (.i (.len (tm 23))),xo 25 (qm (ci 0))])
 (.block 0 (.loop Fx)))
 (.seq (.seq (rg [xo 35 (qm (tm 7)),xo 36 (.i (.len (tm 35))),xo 37 (qb .sub (tm 36) (ci 1)),xo 10 (qm (tm 37))])
 (.block 2 (.loop Ft)))
 (.seq (rg [xo 61 (qf 0 (tm 3)),xo 62 (ql (tm 61)),xo 63 (qf 1 (tm 3)),xo 64 (ql (tm 63)),xo 65 (qm (tm 7)),xo 66 (.build [.int .i64 0,.int .i64 0,.nils] [(0,1,tm 62),(1,1,tm 64),(2,1,tm 65)]),xn (.st false 3 (tm 4) (tm 66)),xo 5 (qm (cb true))])
 .ret)))))))
def K7:List Res:=[.cell 4 false 3,.tmp 5]
theorem Kx:Ap Tryd.prog Tryd.f12=some (Gu,K7):=by kernel_rfl
theorem Kd:A2 Tryd.prog 12=true:=by kernel_rfl
def Bq (a1_2:List (List Int)) (l11_m25:Nat) (l11_m7:List (List Int)):Option (Ctl (Nat×List (List Int)) (List (List Int))) :=
 cond (decide (((l11_m25:Nat):Int)<((a1_2.length:Nat):Int)))
 (Option.bind (a1_2[l11_m25]?) fun x17 =>
 Option.bind (Fl x17) fun y18 =>
 og (l11_m7.length+1<=1073741824∧(l11_m7.length+1)*24<=140737488355328) <|
 og (l11_m25+1<4611686018427387904) <|
 some (Ctl.next (l11_m25+1,l11_m7++[y18])))
 (some (Ctl.out l11_m7))
def Br (a0:Int) (a1_0:Int) (a1_1:Int) (l23_m7:List (List Int)) (l23_m10:Int):Option (Ctl (List (List Int)×Int) (List (List Int))) :=
 cond (decide (0<=l23_m10))
 (Option.bind (og ((0:Int)<=0∧0<=l23_m10∧l23_m10<=((l23_m7.length:Nat):Int)∧((l23_m7.length:Nat):Int)<=((l23_m7.length:Nat):Int)) <|
  og ((0:Int)<=wI (l23_m10+1)∧wI (l23_m10+1)<=((l23_m7.length:Nat):Int)∧((l23_m7.length:Nat):Int)<=((l23_m7.length:Nat):Int)∧((l23_m7.length:Nat):Int)<=((l23_m7.length:Nat):Int)) <|
  Option.bind (Gb (l23_m7.take l23_m10.toNat) (l23_m7.drop ((wI (l23_m10+1)).toNat))) fun y31 =>
  Option.bind (Ei a0 (wI (a1_0+a1_1)) y31) fun y33 =>
  Option.bind (Q7 l23_m7 l23_m10) fun x34 =>
  Option.bind (Gr a0 y33 x34) fun y35 =>
  cond y35
   (some y31)
   (some l23_m7)) fun l27_m7 =>
 some (Ctl.next (l27_m7,wI (l23_m10 - 1))))
 (some (Ctl.out l23_m7))
def B1 (a0:Int) (a1_0:Int) (a1_1:Int) (a1_2:List (List Int)):Option (Int×Int×List (List Int)×Bool) :=
 Option.bind (F3 a0 a1_0 a1_1 a1_2) fun y4 =>
cond (!y4)
 (some (0,0,[],false))
 (Option.bind (A1 (fun s_:Nat×List (List Int)=>Bq a1_2 s_.1 s_.2) 4611686018427387904 (0,([]:List (List Int)))) fun l9_m7 =>
 Option.bind (A1 (fun s_:List (List Int)×Int=>Br a0 a1_0 a1_1 s_.1 s_.2) 4611686018427387904 (l9_m7,wI (((l9_m7.length:Nat):Int) - 1))) fun l21_m7 =>
 some (a1_0,a1_1,l21_m7,true))
def Ko (r:Int×Int×List (List Int)×Bool):RV:=⟨true,[(true,[.sc (.int .i64 r.1),.sc (.int .i64 r.2.1),.frz (.tree (.slice .int) r.2.2.1)]),(false,[.sc (.bool r.2.2.2)])]⟩
theorem Kj {a0:Int} {a1_0:Int} {a1_1:Int} {a1_2:List (List Int)} {r:Int×Int×List (List Int)×Bool} (h:B1 a0 a1_0 a1_1 a1_2=some r):A6 Tryd.prog Tab 12 [ai a0,.agg [ai a1_0,ai a1_1,.tree (.slice .int) a1_2]] (Ko r):=by
 refine Ahf (by kernel_rfl) Tryd.func12 Kx (n:=67) (by kernel_rfl) (by simp) (tl:=[(0,ai a0),(1,.agg [ai a1_0,ai a1_1,.tree (.slice .int) a1_2])]) rfl fun zn_ nz_ hz_=>?_
 unfold Gu;unfold B1 at h;refine Am ?_;refine Ab ?_;refine Ab ?_;obtain ⟨y4,h4,h⟩:=Ae h;refine Aa 8 ?_;refine rz0 (ai a0) ?_;refine rzl (.agg [ai a1_0,ai a1_1,.tree (.slice .int) a1_2]) ?_;refine E3 (.bool y4) [] [ai a0,.agg [ai a1_0,ai a1_1,.tree (.slice .int) a1_2]] _ (caps:=[]) (args0:=[ai a0,.agg [ai a1_0,ai a1_1,.tree (.slice .int) a1_2]]) trivial (by kernel_rfl) (Ahj (Uz h4)) Td ?_;refine rsB 1 ?_;refine As (tn_ ?_);refine wr_ ?_;rcases Ad h with ⟨q5,h⟩ | ⟨q5,h⟩
 ·refine Ag q5 ?_;refine Am ?_;refine Ak (tr_ ?_);obtain rfl:=zj h;exact Ahh [(true,[ai 0,ai 0,.nils]),(false,[.bool false])] (Ah6 (Mk Xp (Mk Xp (Mk (Ab9 (t:=.slice .int) (xs:=[]) .nil) Agu))) (Acp Xp Add))
 refine Ah q5 ?_;refine Aj (tn_ ?_);refine wr_ ?_;refine Am ?_;refine Am ?_;refine Ay h (fun (l9_m7:List (List Int)) S_=>S_=⟨Al [(0,ai a0),(3,.box (oi 0 1) 0),(4,.box (oi 1 1) 0),(6,ai (wI (a1_0+a1_1))),(7,.own (oi 2 1) (.slice .int) 0 l9_m7.length)],Af (Ao [(oi 0 1,.cells 26 [ai a1_0,ai a1_1,.tree (.slice .int) a1_2]),(oi 1 1,.cells 26 [ai 0,ai 0,.nils]),(oi 2 1,.mat 39 (oi 3 1) .int l9_m7),(oi 3 1,.pool 3 .int l9_m7)]),2⟩) ?_ ?_
 ·intro v_ h;refine Am ?_;refine Ai ?_;refine Az h (fun t_ S_=>∃ (l11_m25:Nat),∃ (l11_m7:List (List Int)),t_=(l11_m25,l11_m7)∧S_=⟨Al [(0,ai a0),(3,.box (oi 0 1) 0),(4,.box (oi 1 1) 0),(6,ai (wI (a1_0+a1_1))),(7,.own (oi 2 1) (.slice .int) 0 l11_m7.length),(23,.tree (.slice .int) a1_2),(24,ai ((a1_2.length:Nat):Int)),(25,ai ((l11_m25:Nat):Int))],Af (Ao [(oi 0 1,.cells 26 [ai a1_0,ai a1_1,.tree (.slice .int) a1_2]),(oi 1 1,.cells 26 [ai 0,ai 0,.nils]),(oi 2 1,.mat 39 (oi 3 1) .int l11_m7),(oi 3 1,.pool 3 .int l11_m7)]),2⟩) ⟨_,(Te 7 39 (.slice .int) (by kernel_rfl)).trans ((Oe (e1:=39) (n:=0) 9000 (oi 7 19) 3 .int (by kernel_rfl) (by kernel_rfl) rfl (by kernel_rfl) (by kernel_rfl)).trans (Ac [(oi 0 1,oi 3 1),(oi 1 1,oi 4 2),(oi 2 1,oi 7 19),(oi 3 1,oi 9000 20)])),⟨0,([]:List (List Int)),rfl,rfl⟩⟩ ?_;rintro n_ _ _ c_ ⟨l11_m25,l11_m7,rfl,rfl⟩ h hn11
  (try dsimp only at h);unfold Bq at h;unfold Fx;refine Am ?_;refine Ab ?_;rcases Ad h with ⟨q14,h⟩ | ⟨q14,h⟩
  ·have q14_:=of_decide_eq_true q14;refine Ag q14 ?_;refine Aj (tn_ ?_);refine wr_ ?_;refine Ab ?_;refine Ai ?_;refine Ab ?_;obtain ⟨x17,e17,h⟩:=Ae h;refine Aa 6 ?_;refine rs0 (.telt none (.slice .int) x17 0) (zi (t:=.slice .int) (xs:=a1_2) (k:=.i64) (m:=((l11_m25:Nat):Int)) (A0 _) e17) ?_;refine rsB 2 ?_;refine As (tn_ ?_);refine wr_ ?_;obtain ⟨y18,h18,h⟩:=Ae h;obtain ⟨g19,h⟩:=Aq h;refine Aa 12 ?_;refine rz0 (.own (oi 2 1) (.slice .int) 0 l11_m7.length) ?_;refine rz0 (.tree .int x17) ?_;refine E3 (.own (oi 496 8) .int 0 y18.length) [(oi 496 8,some (.arr 3 .int y18))] [.tree .int x17] _ (caps:=[]) (args0:=[.tree .int x17]) trivial (by kernel_rfl) (Ahj (Nl h18)) Wp ?_;refine Akk (.own (oi 32 9) (.slice .int) 0 1) (oi 32 9) (.vec 39 1 1 ([.own (oi 496 8) .int 0 y18.length])) trivial (Aer (by kernel_rfl)) ?_;refine rs2 (.own (oi 2 10) (.slice .int) 0 (l11_m7.length+1)) (oi 2 1) (oi 2 10) (.vec 39 1 (l11_m7.length+1) (hdL (oi 3 1) .int l11_m7++[.own (oi 496 8) .int 0 y18.length])) (Y9 (u:=.int) (t':=.slice .int) (t2:=.slice .int) (o:=oi 2 1) (q:=oi 32 9) (e2:=39) (p:=oi 3 1) (xss:=l11_m7) (cs:=[.own (oi 496 8) .int 0 y18.length]) (len:=l11_m7.length) (by kernel_rfl) (by kernel_rfl) rfl (by kernel_rfl) (by kernel_rfl) rfl g19) ?_;refine rsB 1 ?_;refine As (bn_ (tn_ ?_));refine ⟨_,Q8 (e1:=39) (e:=3) (u:=.int) (n:=l11_m7.length+1) (len:=y18.length) (row:=y18) (ys:=y18) (xss:=l11_m7) 9000 (oi 2 10) (oi 3 1) (oi 496 8) (by kernel_rfl) (by kernel_rfl) rfl (by kernel_rfl) (by kernel_rfl) (Ad7 rfl) (Aep rfl) (by kernel_rfl) (by kernel_rfl) (by kernel_rfl),?_⟩;obtain ⟨g20,h⟩:=Aq h;refine Aa 15 ?_;refine rs0 (ai ((l11_m25+1:Nat):Int)) (za g20) ?_;refine rsB 1 ?_;refine As (tn_ ?_);obtain rfl:=zj h;exact ⟨(l11_m25+1,l11_m7++[y18]),_,(Bn 7 (.own (oi 2 10) (.slice .int) 0 (l11_m7.length+1)) (.own (oi 2 10) (.slice .int) 0 ((l11_m7++[y18]).length)) (by kernel_rfl) (congrArg (fun z_=>((.own (oi 2 10) (.slice .int) 0 z_):AV)) ((by simp):l11_m7.length+1=(l11_m7++[y18]).length))).trans (Ac [(oi 2 1,oi 2 10),(oi 3 1,oi 9000 12)]),⟨l11_m25+1,l11_m7++[y18],rfl,rfl⟩,hn11⟩
  have q14_:=of_decide_eq_false q14;refine Ah q14 ?_;refine Ax (te_ (te_ (be_ (tn_ ?_))));obtain rfl:=zj h;have h:=hn11
  (try dsimp only at h);obtain rfl:=zj h;exact ⟨_,Ac [],rfl⟩
 rintro l9_m7 _ rfl h
 (try dsimp only at h);refine Ay h (fun (l21_m7:List (List Int)) S_=>S_=⟨Al [(3,.box (oi 0 1) 0),(4,.box (oi 1 1) 0),(7,.ftr nz_ (.slice .int) l21_m7)],Af (Ao [(oi 0 1,.cells 26 [ai a1_0,ai a1_1,.tree (.slice .int) a1_2]),(oi 1 1,.cells 26 [ai 0,ai 0,.nils])]),2⟩) ?_ ?_
 ·intro v_ h;refine Ab ?_;refine Aa 6 ?_;refine rsB 4 ?_;refine As (tn_ ?_);refine ⟨_,Acb hz_ (e1:=39) (e:=3) (u:=.int) (xss:=l9_m7) (len:=l9_m7.length) 7 (oi 2 1) (oi 3 1) (by kernel_rfl) (by kernel_rfl) (by kernel_rfl) rfl,?_⟩;refine Ai ?_;refine Az h (fun t_ S_=>∃ (l23_m7:List (List Int)),∃ (l23_m10:Int),t_=(l23_m7,l23_m10)∧S_=⟨Al [(0,ai a0),(3,.box (oi 0 1) 0),(4,.box (oi 1 1) 0),(6,ai (wI (a1_0+a1_1))),(7,.ftr nz_ (.slice .int) l23_m7),(10,ai l23_m10)],Af (Ao [(oi 0 1,.cells 26 [ai a1_0,ai a1_1,.tree (.slice .int) a1_2]),(oi 1 1,.cells 26 [ai 0,ai 0,.nils])]),2⟩) ⟨_,Ac [],⟨l9_m7,wI (((l9_m7.length:Nat):Int) - 1),rfl,rfl⟩⟩ ?_;rintro n_ _ _ c_ ⟨l23_m7,l23_m10,rfl,rfl⟩ h hn23
  (try dsimp only at h);unfold Br at h;unfold Ft;refine Ab ?_;refine Am ?_;rcases Ad h with ⟨q26,h⟩ | ⟨q26,h⟩
  ·have q26_:=of_decide_eq_true q26;refine Ag q26 ?_;refine Aj (tn_ ?_);refine wr_ ?_;refine Ay h (fun (l27_m7:List (List Int)) S_=>S_=⟨Al [(0,ai a0),(3,.box (oi 0 1) 0),(4,.box (oi 1 1) 0),(6,ai (wI (a1_0+a1_1))),(7,.ftr nz_ (.slice .int) l27_m7),(10,ai l23_m10)],Af (Ao [(oi 0 1,.cells 26 [ai a1_0,ai a1_1,.tree (.slice .int) a1_2]),(oi 1 1,.cells 26 [ai 0,ai 0,.nils])]),2⟩) ?_ ?_
   ·intro v_ h;refine Ai ?_;refine Ab ?_;obtain ⟨g29,h⟩:=Aq h;obtain ⟨g30,h⟩:=Aq h;obtain ⟨y31,h31,h⟩:=Ae h;refine Bb 13 ?_;refine dz0 (.ftr nz_ (.slice .int) l23_m7) ?_;refine dz0 (ai l23_m10) ?_;refine ds0 (.ftr nz_ (.slice .int) (l23_m7.take l23_m10.toNat)) (Xr (R:=nz_) (t:=.slice .int) (xs:=l23_m7) (zs:=l23_m7.take l23_m10.toNat) (l:=0) (h:=l23_m10) (m:=((l23_m7.length:Nat):Int)) (by kernel_rfl) (by kernel_rfl) (by kernel_rfl) (by kernel_rfl) rfl g29 rfl) ?_;refine dz0 (.ftr nz_ (.slice .int) l23_m7) ?_;refine dz0 (ai l23_m10) ?_;refine dz0 (ai (wI (l23_m10+1))) ?_;refine ds0 (.ftr nz_ (.slice .int) (l23_m7.drop ((wI (l23_m10+1)).toNat))) (Xr (R:=nz_) (t:=.slice .int) (xs:=l23_m7) (zs:=l23_m7.drop ((wI (l23_m10+1)).toNat)) (l:=wI (l23_m10+1)) (h:=((l23_m7.length:Nat):Int)) (m:=((l23_m7.length:Nat):Int)) (by kernel_rfl) (by kernel_rfl) (by kernel_rfl) (by kernel_rfl) rfl g30 (by first | (rw [show ((l23_m7.length:Nat):Int).toNat=l23_m7.length from rfl,List.take_length]; done) | (rw [show ((l23_m7.length:Nat):Int).toNat=l23_m7.length from rfl,List.take_length]; rfl))) ?_;refine Alg (.ftr nz_ (.slice .int) y31) [] [.ftr nz_ (.slice .int) (l23_m7.take l23_m10.toNat),.ftr nz_ (.slice .int) (l23_m7.drop ((wI (l23_m10+1)).toNat))] [.ftr nz_ (.slice .int) (l23_m7.take l23_m10.toNat),.ftr nz_ (.slice .int) (l23_m7.drop ((wI (l23_m10+1)).toNat))] (caps:=[]) trivial (Ami (args:=[.tree (.slice .int) (l23_m7.take l23_m10.toNat),.tree (.slice .int) (l23_m7.drop ((wI (l23_m10+1)).toNat))]) hz_ ⟨_,_,rfl,rfl,⟨_,_,rfl,rfl,rfl⟩⟩ (Sz h31)) Vh ?_;refine dz0 (.ftr nz_ (.slice .int) y31) ?_;refine Ky (Bx (by kernel_rfl)) (tn_ ?_);refine wr_ ?_;refine Ab ?_;obtain ⟨y33,h33,h⟩:=Ae h;obtain ⟨x34,f34,h⟩:=Ae h;obtain ⟨p34,b34,e34⟩:=Ew f34;obtain ⟨y35,h35,h⟩:=Ae h;refine Bb 23 ?_;refine dz0 (ai a0) ?_;refine dz0 (ai a0) ?_;refine dz0 (ai (wI (a1_0+a1_1))) ?_;refine dz0 (.ftr nz_ (.slice .int) y31) ?_;refine S6 (.own (oi 864 17) (.slice .int) 0 y33.length) [(oi 864 17,some (.mat 39 (oi 865 17) .int y33)),(oi 865 17,some (.pool 3 .int y33))] [] [ai a0,ai (wI (a1_0+a1_1)),.ftr nz_ (.slice .int) y31] (caps:=[]) trivial (Amg (P9 h33)) P8 trivial (.cons (.ren (by kernel_rfl)) (.cons (.ren (by kernel_rfl)) (.cons (.gnd (by kernel_rfl) (by kernel_rfl)) .nil))) (A9 (by kernel_rfl) (by kernel_rfl) trivial) (Yc (by kernel_rfl)) ?_;refine dz0 (.ftr nz_ (.slice .int) l23_m7) ?_;refine dz0 (ai l23_m10) ?_;refine ds0 (.telt (some nz_) (.slice .int) x34 0) (zi (t:=.slice .int) (xs:=l23_m7) (k:=.i64) (m:=l23_m10) p34 e34) ?_;refine dz0 (.ftr nz_ .int x34) ?_;refine Fw (.bool y35) [] [ai a0,.own (oi 864 17) (.slice .int) 0 y33.length,.ftr nz_ .int x34] _ (caps:=[]) (args0:=[ai a0,.tree (.slice .int) y33,.tree .int x34]) trivial (Au (by kernel_rfl) (Au (D9 (p:=oi 865 17) (e1:=39) (e:=3) (u:=.int) (xss:=y33) (by kernel_rfl) (Ot (t:=.slice .int) (off:=0) (len:=y33.length) (i:=oi 864 17) (e1:=39) (z:=1) (m:=y33.length) 1 rfl (by kernel_rfl) (by kernel_rfl) (Bz (by kernel_rfl))) rfl) (Au (by kernel_rfl) Ck))) (Ahj (Wj h35)) V7 ?_;refine Ky ⟨Aci (by kernel_rfl),trivial⟩ (tn_ ?_);refine wr_ ?_;rcases Ad h with ⟨q36,h⟩ | ⟨q36,h⟩
    ·refine Ag q36 ?_;refine Aa 25 ?_;refine rsB 2 ?_;refine As (bn_ (tn_ ?_));obtain rfl:=zj h;exact ⟨_,Ac [],rfl⟩
    refine Ah q36 ?_;refine Aj (bn_ (tn_ ?_));obtain rfl:=zj h;exact ⟨_,Ac [],rfl⟩
   rintro l27_m7 _ rfl h
   (try dsimp only at h);refine Aa 5 ?_;refine rsB 3 ?_;refine As (tn_ ?_);obtain rfl:=zj h;exact ⟨(l27_m7,wI (l23_m10 - 1)),_,Ac [],⟨l27_m7,wI (l23_m10 - 1),rfl,rfl⟩,hn23⟩
  have q26_:=of_decide_eq_false q26;refine Ah q26 ?_;refine Ax (te_ (te_ (be_ (tn_ ?_))));obtain rfl:=zj h;have h:=hn23
  (try dsimp only at h);obtain rfl:=zj h;exact ⟨_,Ac [],rfl⟩
 rintro l21_m7 _ rfl h
 (try dsimp only at h);refine Am ?_;refine Ak ?_;obtain rfl:=zj h;exact Ahh [(true,[ai a1_0,ai a1_1,.ftr nz_ (.slice .int) l21_m7]),(false,[.bool true])] (Ah6 (Mk Xp (Mk Xp (Mk (Ab9 .ftr) Agu))) (Acp Xp Add))
end Go.Proofs.YtehocbbnjfmgaaaDoor
namespace Go.Proofs.YtehocbbnjfmgaaaDoor
open Go.RowKit Go.Deep
set_option maxRecDepth 4000
def Fu:AC :=
 (.seq (.seq (rg [xo 22 (qm (tm 7)),xo 23 (qb .geq (tm 22) (ci 0))])
 (.cond (tm 23)
  .skip
  (.exit 0)))
 (.seq (.block 1 (.seq (rg [xo 26 (qf 2 (tm 6)),xo 27 (ql (tm 26)),xo 28 (qc 29 [tm 27] [[some (.slice .int)]]),xo 29 (qm (tm 7)),xo 30 (qm (tm 7)),xo 31 (qb .add (tm 30) (ci 1)),xo 32 (qc 28 [tm 28,tm 29,tm 31] [[some (.slice .int)],[],[]]),xo 8 (qm (tm 32))])
 (.seq (.region [xo 34 (qm (tm 0)),xo 35 (qm (tm 0)),xo 36 (qm (tm 8)),xo 37 (.i (.ld false 3 (tm 3))),xo 38 (qc 32 [tm 37] [[none,none,some (.slice .int)]]),xo 39 (qc 31 [tm 35,tm 36,tm 38] [[],[some (.slice .int)],[]]),xo 40 (qf 2 (tm 6)),xo 41 (ql (tm 40)),xo 42 (qm (tm 7)),xo 43 (qx 1 (tm 41) (tm 42)),xo 44 (ql (tm 43)),xo 45 (qc 30 [tm 34,tm 39,tm 44] [[],[some (.slice .int)],[some .int]]),xo 33 (qm (tm 45)),xo 46 (.i (.extr 0 (tm 33))),xo 47 (.i (.extr 1 (tm 33))),xo 9 (qm (tm 46)),xo 10 (qm (tm 47))] true [(4,7),(5,7),(4,10),(5,10)])
 (.seq (rg [xo 48 (qm (tm 10))])
 (.cond (tm 48)
  (rg [xo 49 (qm (tm 8)),xo 50 (qf 2 (tm 6)),xn (qs (tm 50) (tm 49))])
  .skip)))))
 (rg [xo 24 (qm (tm 7)),xo 25 (qb .sub (tm 24) (ci 1)),xo 7 (qm (tm 25))])))
def Gm:AC :=
 (.seq (rg [xo 3 (.i (.box 26 (tm 1))),xo 4 (.i (.alloc 26 [.int .i64 0,.int .i64 0,.nils])),xo 5 (qm (cb false))])
 (.seq (.seq (rg [xo 11 (qm (tm 0)),xo 12 (.i (.ld false 3 (tm 3))),xo 13 (qc 18 [tm 11,tm 12] [[],[none,none,some (.slice .int)]]),xo 14 (.i (.not (tm 13)))])
 (.cond (tm 14)
  (.seq (rg [xo 15 (.build [.int .i64 0,.int .i64 0,.nils] []),xn (.st false 3 (tm 4) (tm 15)),xo 5 (qm (cb false))])
  .ret)
  .skip))
 (.seq (rg [xo 16 (.i (.ld false 3 (tm 3))),xo 17 (qc 19 [tm 16] [[none,none,some (.slice .int)]]),xo 6 (.i (.alloc 26 [.int .i64 0,.int .i64 0,.nils])),xn (.st false 3 (tm 6) (tm 17))])
 (.seq (.seq (rg [xo 18 (qf 2 (tm 6)),xo 19 (ql (tm 18)),xo 20 (.i (.len (tm 19))),xo 21 (qb .sub (tm 20) (ci 1)),xo 7 (qm (tm 21))])
 (.block 0 (.loop Fu)))
 (.seq (rg [xo 51 (.i (.ld false 3 (tm 6))),xn (.st false 3 (tm 4) (tm 51)),xo 5 (qm (cb true))])
 .ret)))))
def Ku:List Res:=[.cell 4 false 3,.tmp 5]
theorem Kr:Ap Tryd.prog Tryd.f13=some (Gm,Ku):=by kernel_rfl
theorem Gk:A2 Tryd.prog 13=true:=by kernel_rfl
def Bs (a1_0:Int) (a1_1:Int) (a1_2:List (List Int)) (a0:Int) (l12_m7:Int) (l12_m6_2:List (List Int)):Option (Ctl (Int×List (List Int)) (List (List Int))) :=
 cond (decide (0<=l12_m7))
 (Option.bind (Option.bind (Do l12_m6_2) fun y18 =>
  Option.bind (De y18 l12_m7 (wI (l12_m7+1))) fun y19 =>
  Option.bind (Ce a1_0 a1_1 a1_2) fun y21 =>
  Option.bind (E9 a0 y19 y21) fun y22 =>
  Option.bind (Q7 l12_m6_2 l12_m7) fun x23 =>
  Option.bind (C7 a0 y22 x23) fun y24 =>
  cond y24.2
   (some y19)
   (some l12_m6_2)) fun l16_m6_2 =>
 some (Ctl.next (wI (l12_m7 - 1),l16_m6_2)))
 (some (Ctl.out l12_m6_2))
def Bp (a0:Int) (a1_0:Int) (a1_1:Int) (a1_2:List (List Int)):Option (Bool×Int×Int×List (List Int)) :=
 Option.bind (Ee a0 a1_0 a1_1 a1_2) fun y5 =>
cond (!y5)
 (some (false,0,0,([]:List (List Int))))
 (Option.bind (Ea a1_0 a1_1 a1_2) fun y9 =>
 Option.bind (A1 (fun s_:Int×List (List Int)=>Bs a1_0 a1_1 a1_2 a0 s_.1 s_.2) 4611686018427387904 (wI (((y9.length:Nat):Int) - 1),y9)) fun l10_m6_2 =>
 some (true,a1_0,a1_1,l10_m6_2))
theorem Gj {a0:Int} {a1_0:Int} {a1_1:Int} {a1_2:List (List Int)} {r:Bool×Int×Int×List (List Int)} (h:Bp a0 a1_0 a1_1 a1_2=some r):Eg Tryd.prog Tab 13 [ai a0,.agg [ai a1_0,ai a1_1,.tree (.slice .int) a1_2]] [] (.tup [.agg [ai r.2.1,ai r.2.2.1,.own (oi 1 1) (.slice .int) 0 r.2.2.2.length],.bool r.1]) [(oi 0 1,.cells 26 [ai r.2.1,ai r.2.2.1,.own (oi 1 1) (.slice .int) 0 r.2.2.2.length]),(oi 1 1,.mat 39 (oi 2 1) .int r.2.2.2),(oi 2 1,.pool 3 .int r.2.2.2)]:=by
 refine Cn (by kernel_rfl) Tryd.func13 Kr (n:=52) (by kernel_rfl) (by simp) (tl:=[(0,ai a0),(1,.agg [ai a1_0,ai a1_1,.tree (.slice .int) a1_2])]) rfl (by kernel_rfl) trivial ⟨trivial,⟨⟨3,.tail _ (.tail _ (.head _))⟩,⟨trivial,trivial⟩⟩⟩ ?_;unfold Gm;unfold Bp at h;refine Am ?_;refine Ab ?_;refine Ab ?_;obtain ⟨y5,h5,h⟩:=Ae h;refine Aa 8 ?_;refine rz0 (ai a0) ?_;refine rzl (.agg [ai a1_0,ai a1_1,.tree (.slice .int) a1_2]) ?_;refine zc (.bool y5) [] [ai a0,.agg [ai a1_0,ai a1_1,.tree (.slice .int) a1_2]] (Q2 h5) ?_;refine rsB 1 ?_;refine As (tn_ ?_);refine wr_ ?_;rcases Ad h with ⟨q6,h⟩ | ⟨q6,h⟩
 ·refine Ag q6 ?_;refine Am ?_;refine Ak (tr_ ?_);obtain rfl:=zj h;exact Gq [.agg [ai 0,ai 0,.own (oi 1 1) (.slice .int) 0 ((([]:List (List Int))).length)],.bool false] ((Sj 9000 (oi 4 2) 2 26 [ai 0,ai 0,.nils] [ai 0,ai 0,.own (oi 9000 11) (.slice .int) 0 0] 39 (.slice .int) (by kernel_rfl) (by kernel_rfl) (by kernel_rfl)).trans ((Oe (e1:=39) (n:=0) 9000 (oi 9000 11) 3 .int (by kernel_rfl) (by kernel_rfl) rfl (by kernel_rfl) (by kernel_rfl)).trans (Ac (tl:=[(4,.box (oi 0 1) 0),(5,.bool false)]) (g:=2) [(oi 0 1,oi 4 2),(oi 1 1,oi 9000 11),(oi 2 1,oi 9000 12)])))
 refine Ah q6 ?_;refine Aj (tn_ ?_);refine wr_ ?_;refine Ab ?_;obtain ⟨y9,h9,h⟩:=Ae h;refine Aa 12 ?_;refine rzl (.agg [ai a1_0,ai a1_1,.tree (.slice .int) a1_2]) ?_;refine Dn (.agg [ai a1_0,ai a1_1,.own (oi 273 9) (.slice .int) 0 y9.length]) [(oi 272 9,some (.cells 26 [ai a1_0,ai a1_1,.own (oi 273 9) (.slice .int) 0 y9.length])),(oi 273 9,some (.mat 39 (oi 274 9) .int y9)),(oi 274 9,some (.pool 3 .int y9))] [] [.agg [ai a1_0,ai a1_1,.tree (.slice .int) a1_2]] (caps:=[]) trivial (M4 h9) M5 trivial (.cons (.ren (by kernel_rfl)) .nil) (A9 (by kernel_rfl) (by kernel_rfl) trivial) ?_;refine rsB 2 ?_;refine As (tn_ ?_);refine wr_ ?_;refine Ay h (fun (l10_m6_2:List (List Int)) S_=>S_=⟨Al [(4,.box (oi 0 1) 0),(6,.box (oi 1 1) 0)],Af (Ao [(oi 0 1,.cells 26 [ai 0,ai 0,.nils]),(oi 1 1,.cells 26 [ai a1_0,ai a1_1,.own (oi 2 1) (.slice .int) 0 l10_m6_2.length]),(oi 2 1,.mat 39 (oi 3 1) .int l10_m6_2),(oi 3 1,.pool 3 .int l10_m6_2)]),2⟩) ?_ ?_
 ·intro v_ h;refine Am ?_;refine Ai ?_;refine Az h (fun t_ S_=>∃ (l12_m7:Int),∃ (l12_m6_2:List (List Int)),t_=(l12_m7,l12_m6_2)∧S_=⟨Al [(0,ai a0),(3,.box (oi 0 1) 0),(4,.box (oi 1 1) 0),(6,.box (oi 2 1) 0),(7,ai l12_m7)],Af (Ao [(oi 0 1,.cells 26 [ai a1_0,ai a1_1,.tree (.slice .int) a1_2]),(oi 1 1,.cells 26 [ai 0,ai 0,.nils]),(oi 2 1,.cells 26 [ai a1_0,ai a1_1,.own (oi 3 1) (.slice .int) 0 l12_m6_2.length]),(oi 3 1,.mat 39 (oi 4 1) .int l12_m6_2),(oi 4 1,.pool 3 .int l12_m6_2)]),2⟩) ⟨_,Ac [(oi 0 1,oi 3 1),(oi 1 1,oi 4 2),(oi 2 1,oi 6 10),(oi 3 1,oi 273 9),(oi 4 1,oi 274 9)],⟨wI (((y9.length:Nat):Int) - 1),y9,rfl,rfl⟩⟩ ?_;rintro n_ _ _ c_ ⟨l12_m7,l12_m6_2,rfl,rfl⟩ h hn12
  (try dsimp only at h);unfold Bs at h;unfold Fu;refine Ab ?_;refine Am ?_;rcases Ad h with ⟨q15,h⟩ | ⟨q15,h⟩
  ·have q15_:=of_decide_eq_true q15;refine Ag q15 ?_;refine Aj (tn_ ?_);refine wr_ ?_;refine Ay h (fun (l16_m6_2:List (List Int)) S_=>S_=⟨Al [(0,ai a0),(3,.box (oi 0 1) 0),(4,.box (oi 1 1) 0),(6,.box (oi 2 1) 0),(7,ai l12_m7)],Af (Ao [(oi 0 1,.cells 26 [ai a1_0,ai a1_1,.tree (.slice .int) a1_2]),(oi 1 1,.cells 26 [ai 0,ai 0,.nils]),(oi 2 1,.cells 26 [ai a1_0,ai a1_1,.own (oi 3 1) (.slice .int) 0 l16_m6_2.length]),(oi 3 1,.mat 39 (oi 4 1) .int l16_m6_2),(oi 4 1,.pool 3 .int l16_m6_2)]),2⟩) ?_ ?_
   ·intro v_ h;refine Ai ?_;refine Ab ?_;obtain ⟨y18,h18,h⟩:=Ae h;obtain ⟨y19,h19,h⟩:=Ae h;refine Aa 12 ?_;refine rz0 (.box (oi 2 1) 2) ?_;refine rzl (.own (oi 3 1) (.slice .int) 0 l12_m6_2.length) ?_;refine Dn (.own (oi 448 6) (.slice .int) 0 y18.length) [(oi 448 6,some (.mat 39 (oi 449 6) .int y18)),(oi 449 6,some (.pool 3 .int y18))] [] [.own (oi 3 1) (.slice .int) 0 l12_m6_2.length] (caps:=[]) trivial (Id h18) Ie trivial (.cons (.gnd (by kernel_rfl) (D9 (p:=oi 4 1) (e1:=39) (e:=3) (u:=.int) (xss:=l12_m6_2) ((Mv (by kernel_rfl) (by kernel_rfl) (by kernel_rfl)).trans (by kernel_rfl)) (Mz (by kernel_rfl) (by kernel_rfl) (Bz (by kernel_rfl)) (by kernel_rfl)) rfl)) .nil) (A9 (by kernel_rfl) (by kernel_rfl) trivial) ?_;refine rz0 (ai l12_m7) ?_;refine rz0 (ai l12_m7) ?_;refine rz0 (ai (wI (l12_m7+1))) ?_;refine Dn (.own (oi 448 6) (.slice .int) 0 y19.length) [(oi 448 6,some (.mat 39 (oi 512 10) .int y19)),(oi 512 10,some (.pool 3 .int y19)),(oi 448 6,none),(oi 449 6,some (.pool 3 .int []))] [(oi 0 0,oi 448 6),(oi 1 0,oi 449 6)] [.own (oi 448 6) (.slice .int) 0 y18.length,ai l12_m7,ai (wI (l12_m7+1))] (caps:=[]) trivial (Q4 h19 rfl) Qy ⟨by kernel_rfl,⟨by kernel_rfl,trivial⟩⟩ (.cons (.ren (by kernel_rfl)) (.cons (.ren (by kernel_rfl)) (.cons (.ren (by kernel_rfl)) .nil))) (A9 (by kernel_rfl) (by kernel_rfl) ⟨Bj (by kernel_rfl),⟨E0 (o:=oi 448 6) (p:=oi 449 6) (e1:=39) (m:=y18.length) (u:=.int) (xss:=y18) (Bj (by kernel_rfl)) (by kernel_rfl),trivial⟩⟩) ?_;refine rsB 1 ?_;refine As (tn_ ?_);refine wr_ ?_;refine Ab ?_;obtain ⟨y21,h21,h⟩:=Ae h;obtain ⟨y22,h22,h⟩:=Ae h;obtain ⟨x23,f23,h⟩:=Ae h;obtain ⟨p23,b23,e23⟩:=Ew f23;obtain ⟨y24,h24,h⟩:=Ae h;refine Bb 29 ?_;refine dz0 (ai a0) ?_;refine dz0 (ai a0) ?_;refine dz0 (.own (oi 448 6) (.slice .int) 0 y19.length) ?_;refine dzl (.agg [ai a1_0,ai a1_1,.tree (.slice .int) a1_2]) ?_;refine Fw (ai y21) [] [.agg [ai a1_0,ai a1_1,.tree (.slice .int) a1_2]] _ (caps:=[]) (args0:=[.agg [ai a1_0,ai a1_1,.tree (.slice .int) a1_2]]) trivial (by kernel_rfl) (Hv h21) Hy ?_;refine S6 (.own (oi 624 17) (.slice .int) 0 y22.length) [(oi 624 17,some (.mat 39 (oi 625 17) .int y22)),(oi 625 17,some (.pool 3 .int y22))] [] [ai a0,.own (oi 448 6) (.slice .int) 0 y19.length,ai y21] (caps:=[]) trivial (Sd h22) So trivial (.cons (.ren (by kernel_rfl)) (.cons (.gnd (by kernel_rfl) (D9 (p:=oi 512 10) (e1:=39) (e:=3) (u:=.int) (xss:=y19) ((Mv (by kernel_rfl) (by kernel_rfl) (by kernel_rfl)).trans (by kernel_rfl)) (Mz (by kernel_rfl) (by kernel_rfl) (Ot (t:=.slice .int) (off:=0) (len:=y19.length) (i:=oi 448 6) (e1:=39) (z:=1) (m:=y19.length) 1 rfl (by kernel_rfl) (by kernel_rfl) (Bz (by kernel_rfl))) (by kernel_rfl)) rfl)) (.cons (.ren (by kernel_rfl)) .nil))) (A9 (by kernel_rfl) (by kernel_rfl) trivial) (Yc (by kernel_rfl)) ?_;refine dz0 (.box (oi 2 1) 2) ?_;refine dzl (.own (oi 3 1) (.slice .int) 0 l12_m6_2.length) ?_;refine dz0 (ai l12_m7) ?_;refine ds0 (.elt (oi 3 1) l12_m7.toNat 0) (zo (t:=.slice .int) (o:=oi 3 1) (len:=l12_m6_2.length) (k:=.i64) (m:=l12_m7) p23 (At e23)) ?_;refine dsl (.own (kid (oi 4 1) l12_m7.toNat) .int 0 x23.length) (Eo (o:=oi 3 1) (p:=oi 4 1) (e1:=39) (u:=.int) (xss:=l12_m6_2) (row:=x23) (j:=l12_m7.toNat) (by kernel_rfl) (by kernel_rfl) e23) ?_;refine Fw (.tup [.own (oi 720 23) .int 0 y24.1.length,.bool y24.2]) [(oi 720 23,some (.arr 3 .int y24.1))] [ai a0,.own (oi 624 17) (.slice .int) 0 y22.length,.own (kid (oi 4 1) l12_m7.toNat) .int 0 x23.length] _ (caps:=[]) (args0:=[ai a0,.tree (.slice .int) y22,.tree .int x23]) trivial (Au (by kernel_rfl) (Au (D9 (p:=oi 625 17) (e1:=39) (e:=3) (u:=.int) (xss:=y22) (by kernel_rfl) (Ot (t:=.slice .int) (off:=0) (len:=y22.length) (i:=oi 624 17) (e1:=39) (z:=1) (m:=y22.length) 1 rfl (by kernel_rfl) (by kernel_rfl) (Bz (by kernel_rfl))) rfl) (Au (Qa (e:=3) (u:=.int) (xs:=x23) ((Mw (Acg (t:=.int) (off:=0) (len:=x23.length) 2 rfl (by kernel_rfl))).trans (Be (by kernel_rfl) e23)) rfl) Ck))) (Nb h24) M6 ?_;refine dz0 (.tup [.own (oi 720 23) .int 0 y24.1.length,.bool y24.2]) ?_;refine dz0 (.own (oi 720 23) .int 0 y24.1.length) ?_;refine dz0 (.bool y24.2) ?_;refine dz0 (.own (oi 720 23) .int 0 y24.1.length) ?_;refine dz0 (.bool y24.2) ?_;refine Ky ⟨Ak4 (by kernel_rfl),⟨Aci (by kernel_rfl),⟨Ak4 (by kernel_rfl),⟨Aci (by kernel_rfl),trivial⟩⟩⟩⟩ (tn_ ?_);refine wr_ ?_;refine Am ?_;rcases Ad h with ⟨q26,h⟩ | ⟨q26,h⟩
    ·refine Ag q26 ?_;refine Aa 33 ?_;refine rsB 3 ?_;refine As (bn_ (tn_ ?_));obtain rfl:=zj h;exact ⟨_,Ac [(oi 3 1,oi 448 6),(oi 4 1,oi 512 10)],rfl⟩
    refine Ah q26 ?_;refine Aj (bn_ (tn_ ?_));obtain rfl:=zj h;exact ⟨_,Ac [],rfl⟩
   rintro l16_m6_2 _ rfl h
   (try dsimp only at h);refine Aa 5 ?_;refine rsB 3 ?_;refine As (tn_ ?_);obtain rfl:=zj h;exact ⟨(wI (l12_m7 - 1),l16_m6_2),_,Ac [],⟨wI (l12_m7 - 1),l16_m6_2,rfl,rfl⟩,hn12⟩
  have q15_:=of_decide_eq_false q15;refine Ah q15 ?_;refine Ax (te_ (te_ (be_ (tn_ ?_))));obtain rfl:=zj h;have h:=hn12
  (try dsimp only at h);obtain rfl:=zj h;exact ⟨_,Ac [(oi 0 1,oi 1 1),(oi 1 1,oi 2 1),(oi 2 1,oi 3 1),(oi 3 1,oi 4 1)],rfl⟩
 rintro l10_m6_2 _ rfl h
 (try dsimp only at h);refine Am ?_;refine Ak ?_;obtain rfl:=zj h;exact Gq [.agg [ai a1_0,ai a1_1,.own (oi 1 1) (.slice .int) 0 l10_m6_2.length],.bool true] (Ac (tl:=[(4,.box (oi 0 1) 0),(5,.bool true)]) (g:=2) [(oi 1 1,oi 2 1),(oi 2 1,oi 3 1)])
def D4:AC :=
 (.seq (rg [xo 3 (.i (.box 24 (tm 1))),xo 4 (qm (cb false))])
 (.seq (rg [xo 5 (qm (ci 1048576))])
 (.seq (rg [xo 16 (.i (.ld false 3 (tm 3))),xo 17 (qm (tm 5)),xo 18 (qc 5 [tm 16,tm 17] [[none,none,some (.slice .int)],[]]),xo 5 (qm (tm 18))])
 (.seq (.seq (rg [xo 19 (qm (tm 5)),xo 20 (qb .lss (tm 19) (ci 0))])
 (.cond (tm 20)
  (.seq (rg [xo 4 (qm (cb true))])
  .ret)
  .skip))
 (.seq (rg [xo 22 (qm (tm 0)),xo 23 (.i (.ld false 3 (tm 3))),xo 24 (qc 7 [tm 23] [[none,none,some (.slice .int)]]),xo 25 (qc 12 [tm 22,tm 24] [[],[none,none,some (.slice .int)]]),xo 21 (qm (tm 25)),xo 26 (.i (.extr 0 (tm 21))),xo 27 (.i (.extr 1 (tm 21))),xo 6 (.i (.alloc 26 [.int .i64 0,.int .i64 0,.nils])),xn (.st false 3 (tm 6) (tm 26)),xo 7 (qm (tm 27))])
 (.seq (rg [xo 28 (.i (.ld false 3 (tm 3))),xo 29 (qc 7 [tm 28] [[none,none,some (.slice .int)]]),xo 8 (.i (.alloc 26 [.int .i64 0,.int .i64 0,.nils])),xn (.st false 3 (tm 8) (tm 29))])
 (.seq (rg [xo 31 (qm (tm 0)),xo 32 (.i (.ld false 3 (tm 8))),xo 33 (qc 13 [tm 31,tm 32] [[],[none,none,some (.slice .int)]]),xo 30 (qm (tm 33)),xo 34 (.i (.extr 0 (tm 30))),xo 35 (.i (.extr 1 (tm 30))),xo 9 (.i (.alloc 26 [.int .i64 0,.int .i64 0,.nils])),xn (.st false 3 (tm 9) (tm 34)),xo 10 (qm (tm 35))])
 (.seq (.seq (rg [xo 36 (.i (.ld false 3 (tm 9))),xo 37 (.i (.ld false 3 (tm 6))),xo 38 (qc 9 [tm 36,tm 37] [[none,none,some (.slice .int)],[none,none,some (.slice .int)]]),xo 39 (.i (.not (tm 38))),xo 40 (qm (tm 39)),⟨some 41,some (40,false),qm (tm 10)⟩,⟨some 42,some (40,false),qm (tm 7)⟩,⟨some 43,some (40,false),.i (.cmp true 0 (tm 41) (tm 42))⟩,xo 44 (.i (.pick (tm 40) (cb true) (tm 43)))])
 (.cond (tm 44)
  (.seq (rg [xo 4 (qm (cb false))])
  .ret)
  .skip))
 (.seq (.seq (.region [xo 45 (.i (.ld false 3 (tm 8))),xo 46 (.i (.ld false 3 (tm 3))),xo 47 (qc 7 [tm 46] [[none,none,some (.slice .int)]]),xo 48 (qc 9 [tm 45,tm 47] [[none,none,some (.slice .int)],[none,none,some (.slice .int)]]),xo 49 (.i (.not (tm 48)))] true [(0,2)])
 (.cond (tm 49)
  (.seq (rg [xo 4 (qm (cb false))])
  .ret)
  .skip))
 (.seq (rg [xo 11 (qm (ci 1))])
 (.seq (rg [xo 50 (.i (.ld false 3 (tm 8))),xo 51 (qm (tm 11)),xo 52 (qc 10 [tm 50,tm 51] [[none,none,some (.slice .int)],[]]),xo 11 (qm (tm 52))])
 (.seq (.seq (rg [xo 53 (qm (tm 11)),xo 54 (qb .lss (tm 53) (ci 0)),xo 55 (qm (tm 54)),⟨some 56,some (55,false),.i (.ld false 3 (tm 9))⟩,⟨some 57,some (55,false),.i (.ld false 3 (tm 6))⟩,⟨some 58,some (55,false),qc 9 [tm 56,tm 57] [[none,none,some (.slice .int)],[none,none,some (.slice .int)]]⟩,⟨some 59,some (55,false),.i (.not (tm 58))⟩,xo 60 (.i (.pick (tm 55) (cb true) (tm 59))),xo 61 (qm (tm 60)),⟨some 62,some (61,false),qm (tm 10)⟩,⟨some 63,some (61,false),qm (tm 7)⟩,⟨some 64,some (61,false),.i (.cmp true 0 (tm 62) (tm 63))⟩,xo 65 (.i (.pick (tm 61) (cb true) (tm 64)))])
 (.cond (tm 65)
  (.seq (rg [xo 4 (qm (cb false))])
  .ret)
  .skip))
 (.seq (rg [xo 12 (qm (ci 1))])
 (.seq (rg [xo 66 (.i (.ld false 3 (tm 9))),xo 67 (qm (tm 12)),xo 68 (qc 10 [tm 66,tm 67] [[none,none,some (.slice .int)],[]]),xo 12 (qm (tm 68))])
 (.seq (rg [xo 13 (qm (ci 1))])
 (.seq (rg [xo 69 (.i (.ld false 3 (tm 9))),xo 70 (qm (tm 13)),xo 71 (qc 11 [tm 69,tm 70] [[none,none,some (.slice .int)],[]]),xo 13 (qm (tm 71))])
 (.seq (.seq (rg [xo 72 (qm (tm 13)),xo 73 (qb .lss (tm 72) (ci 0))])
 (.cond (tm 73)
  (.seq (rg [xo 4 (qm (cb false))])
  .ret)
  .skip))
 (.seq (.seq (rg [xo 74 (qm (tm 13)),xo 75 (qm (tm 12)),xo 76 (qb .neq (tm 74) (tm 75))])
 (.cond (tm 76)
  (.seq (rg [xo 4 (qm (cb false))])
  .ret)
  .skip))
 (.seq (rg [xo 78 (qm (tm 0)),xo 79 (.i (.ld false 3 (tm 3))),xo 80 (qc 7 [tm 79] [[none,none,some (.slice .int)]]),xo 81 (qc 13 [tm 78,tm 80] [[],[none,none,some (.slice .int)]]),xo 77 (qm (tm 81)),xo 82 (.i (.extr 0 (tm 77))),xo 83 (.i (.extr 1 (tm 77))),xo 14 (.i (.alloc 26 [.int .i64 0,.int .i64 0,.nils])),xn (.st false 3 (tm 14) (tm 82)),xo 15 (qm (tm 83))])
 (.seq (.seq (rg [xo 84 (.i (.ld false 3 (tm 14))),xo 85 (.i (.ld false 3 (tm 6))),xo 86 (qc 9 [tm 84,tm 85] [[none,none,some (.slice .int)],[none,none,some (.slice .int)]]),xo 87 (.i (.not (tm 86))),xo 88 (qm (tm 87)),⟨some 89,some (88,false),qm (tm 15)⟩,⟨some 90,some (88,false),qm (tm 7)⟩,⟨some 91,some (88,false),.i (.cmp true 0 (tm 89) (tm 90))⟩,xo 92 (.i (.pick (tm 88) (cb true) (tm 91)))])
 (.cond (tm 92)
  (.seq (rg [xo 4 (qm (cb false))])
  .ret)
  .skip))
 (.seq (rg [xo 13 (qm (ci 1))])
 (.seq (rg [xo 93 (.i (.ld false 3 (tm 9))),xo 94 (qm (tm 13)),xo 95 (qc 11 [tm 93,tm 94] [[none,none,some (.slice .int)],[]]),xo 13 (qm (tm 95))])
 (.seq (.seq (rg [xo 96 (qm (tm 13)),xo 97 (qb .lss (tm 96) (ci 0))])
 (.cond (tm 97)
  (.seq (rg [xo 4 (qm (cb false))])
  .ret)
  .skip))
 (.seq (.seq (rg [xo 98 (qm (tm 13)),xo 99 (qm (tm 12)),xo 100 (qb .neq (tm 98) (tm 99))])
 (.cond (tm 100)
  (.seq (rg [xo 4 (qm (cb false))])
  .ret)
  .skip))
 (.seq (rg [xo 4 (qm (cb true))])
 .ret)))))))))))))))))))))))))
def Hk:List Res:=[.tmp 4]
theorem Hh:Ap Tryd.prog Tryd.f4=some (D4,Hk):=by kernel_rfl
def Bh (a0:Int) (a1_0:Int) (a1_1:Int) (a1_2:List (List Int)):Option Bool :=
 Option.bind (Es a1_0 a1_1 a1_2 1048576) fun y4 =>
cond (decide (y4<0))
 (some true)
 (Option.bind (B4 a1_0 a1_1 a1_2) fun y10 =>
 Option.bind (B1 a0 a1_0 a1_1 y10) fun y11 =>
 Option.bind (B4 a1_0 a1_1 a1_2) fun y13 =>
 Option.bind (Bp a0 a1_0 a1_1 y13) fun y15 =>
 Option.bind (Option.bind (B5 y15.2.1 y15.2.2.1 y15.2.2.2 y11.1 y11.2.1 y11.2.2.1) fun y18 =>
  cond (!y18)
   (some true)
   (some (y15.1 !=y11.2.2.2))) fun l17_m44 =>
 cond l17_m44
  (some false)
  (Option.bind (B4 a1_0 a1_1 a1_2) fun y24 =>
  Option.bind (B5 a1_0 a1_1 y13 a1_0 a1_1 y24) fun y25 =>
  cond (!y25)
   (some false)
   (Option.bind (Co a1_0 a1_1 y13 1) fun y30 =>
   og (y30.1.length=y13.length) <|
   Option.bind (cond (decide (y30.2<0))
     (some true)
     (Option.bind (B5 y15.2.1 y15.2.2.1 y15.2.2.2 y11.1 y11.2.1 y11.2.2.1) fun y35 =>
     cond (!y35)
      (some true)
      (some (y15.1 !=y11.2.2.2)))) fun l33_m65 =>
   cond l33_m65
    (some false)
    (Option.bind (Co y15.2.1 y15.2.2.1 y15.2.2.2 1) fun y41 =>
    og (y41.1.length=y15.2.2.2.length) <|
    Option.bind (Cp y15.2.1 y15.2.2.1 y41.1 1) fun y45 =>
    cond (decide (y45<0))
     (some false)
     (cond (y45 !=y41.2)
      (some false)
      (Option.bind (B4 a1_0 a1_1 a1_2) fun y55 =>
      Option.bind (Bp a0 a1_0 a1_1 y55) fun y56 =>
      Option.bind (Option.bind (B5 y56.2.1 y56.2.2.1 y56.2.2.2 y11.1 y11.2.1 y11.2.2.1) fun y59 =>
       cond (!y59)
        (some true)
        (some (y56.1 !=y11.2.2.2))) fun l58_m92 =>
      cond l58_m92
       (some false)
       (Option.bind (Cp y15.2.1 y15.2.2.1 y41.1 1) fun y65 =>
       cond (decide (y65<0))
        (some false)
        (cond (y65 !=y41.2)
         (some false)
         (some true)))))))))
def G7 (r:Bool):RV:=⟨false,[(false,[.sc (.bool r)])]⟩
set_option maxHeartbeats 1600000 in
theorem G2 {a0:Int} {a1_0:Int} {a1_1:Int} {a1_2:List (List Int)} {r:Bool} (h:Bh a0 a1_0 a1_1 a1_2=some r):A6 Tryd.prog Tab 4 [ai a0,.agg [ai a1_0,ai a1_1,.tree (.slice .int) a1_2]] (G7 r):=by
 refine A5 (by kernel_rfl) Tryd.func4 Hh (n:=101) (by kernel_rfl) (by simp) (tl:=[(0,ai a0),(1,.agg [ai a1_0,ai a1_1,.tree (.slice .int) a1_2])]) rfl ?_;unfold D4;unfold Bh at h;refine Am ?_;refine Am ?_;refine Ab ?_;obtain ⟨y4,h4,h⟩:=Ae h;refine Aa 8 ?_;refine rzl (.agg [ai a1_0,ai a1_1,.tree (.slice .int) a1_2]) ?_;refine rz0 (ai 1048576) ?_;refine zc (ai y4) [] [.agg [ai a1_0,ai a1_1,.tree (.slice .int) a1_2],ai 1048576] (Qj h4) ?_;refine rsB 1 ?_;refine As (tn_ ?_);refine wr_ ?_;refine Ab ?_;refine Am ?_;rcases Ad h with ⟨q7,h⟩ | ⟨q7,h⟩
 ·have q7_:=of_decide_eq_true q7;refine Ag q7 ?_;refine Am ?_;refine Ak (tr_ ?_);obtain rfl:=zj h;exact Bl [.bool true] (A7 rfl zl A8)
 have q7_:=of_decide_eq_false q7;refine Ah q7 ?_;refine Aj (tn_ ?_);refine wr_ ?_;refine Ab ?_;obtain ⟨y10,h10,h⟩:=Ae h;obtain ⟨y11,h11,h⟩:=Ae h;refine Aa 20 ?_;refine rz0 (ai a0) ?_;refine rzl (.agg [ai a1_0,ai a1_1,.tree (.slice .int) a1_2]) ?_;refine Dn (.agg [ai a1_0,ai a1_1,.own (oi 385 12) (.slice .int) 0 y10.length]) [(oi 384 12,some (.cells 26 [ai a1_0,ai a1_1,.own (oi 385 12) (.slice .int) 0 y10.length])),(oi 385 12,some (.mat 39 (oi 386 12) .int y10)),(oi 386 12,some (.pool 3 .int y10))] [] [.agg [ai a1_0,ai a1_1,.tree (.slice .int) a1_2]] (caps:=[]) trivial (Fj h10) Fs trivial (.cons (.ren (by kernel_rfl)) .nil) (A9 (by kernel_rfl) (by kernel_rfl) trivial) ?_;refine E3 (.tup [.agg [ai y11.1,ai y11.2.1,.tree (.slice .int) y11.2.2.1],.bool y11.2.2.2]) [] [ai a0,.agg [ai a1_0,ai a1_1,.own (oi 385 12) (.slice .int) 0 y10.length]] _ (caps:=[]) (args0:=[ai a0,.agg [ai a1_0,ai a1_1,.tree (.slice .int) y10]]) trivial (Au (by kernel_rfl) (Au (H9 (Au (by kernel_rfl) (Au (by kernel_rfl) (Au (D9 (p:=oi 386 12) (e1:=39) (e:=3) (u:=.int) (xss:=y10) (by kernel_rfl) (Bz (by kernel_rfl)) rfl) Ck)))) Ck)) (Kj h11) Kd ?_;refine rsB 6 ?_;refine As (tn_ ?_);refine wr_ ?_;refine Ab ?_;obtain ⟨y13,h13,h⟩:=Ae h;refine Aa 24 ?_;refine rzl (.agg [ai a1_0,ai a1_1,.tree (.slice .int) a1_2]) ?_;refine Dn (.agg [ai a1_0,ai a1_1,.own (oi 465 21) (.slice .int) 0 y13.length]) [(oi 464 21,some (.cells 26 [ai a1_0,ai a1_1,.own (oi 465 21) (.slice .int) 0 y13.length])),(oi 465 21,some (.mat 39 (oi 466 21) .int y13)),(oi 466 21,some (.pool 3 .int y13))] [] [.agg [ai a1_0,ai a1_1,.tree (.slice .int) a1_2]] (caps:=[]) trivial (Fj h13) Fs trivial (.cons (.ren (by kernel_rfl)) .nil) (A9 (by kernel_rfl) (by kernel_rfl) trivial) ?_;refine rsB 2 ?_;refine As (tn_ ?_);refine wr_ ?_;refine Ab ?_;obtain ⟨y15,h15,h⟩:=Ae h;refine Aa 33 ?_;refine rz0 (ai a0) ?_;refine rzl (.agg [ai a1_0,ai a1_1,.own (oi 465 21) (.slice .int) 0 y13.length]) ?_;refine Dn (.tup [.agg [ai y15.2.1,ai y15.2.2.1,.own (oi 529 26) (.slice .int) 0 y15.2.2.2.length],.bool y15.1]) [(oi 528 26,some (.cells 26 [ai y15.2.1,ai y15.2.2.1,.own (oi 529 26) (.slice .int) 0 y15.2.2.2.length])),(oi 529 26,some (.mat 39 (oi 530 26) .int y15.2.2.2)),(oi 530 26,some (.pool 3 .int y15.2.2.2))] [] [ai a0,.agg [ai a1_0,ai a1_1,.own (oi 465 21) (.slice .int) 0 y13.length]] (caps:=[]) trivial (Gj h15) Gk trivial (.cons (.ren (by kernel_rfl)) (.cons (.agg (.cons (.ren (by kernel_rfl)) (.cons (.ren (by kernel_rfl)) (.cons (.gnd (by kernel_rfl) (D9 (p:=oi 466 21) (e1:=39) (e:=3) (u:=.int) (xss:=y13) ((Mv (by kernel_rfl) (by kernel_rfl) (by kernel_rfl)).trans (by kernel_rfl)) (Mz (by kernel_rfl) (by kernel_rfl) (Bz (by kernel_rfl)) (by kernel_rfl)) rfl)) .nil)))) .nil)) (A9 (by kernel_rfl) (by kernel_rfl) trivial) ?_;refine rsB 6 ?_;refine As (tn_ ?_);refine wr_ ?_;refine Ab ?_;refine Ay h (fun (l17_m44:Bool) S_=>S_=⟨Al [(0,ai a0),(3,.box (oi 0 1) 0),(6,.box (oi 1 1) 0),(7,.bool y11.2.2.2),(8,.box (oi 2 1) 0),(9,.box (oi 3 1) 0),(10,.bool y15.1),(44,.bool l17_m44)],Af (Ao [(oi 0 1,.cells 24 [ai a1_0,ai a1_1,.tree (.slice .int) a1_2]),(oi 1 1,.cells 26 [ai y11.1,ai y11.2.1,.tree (.slice .int) y11.2.2.1]),(oi 2 1,.cells 26 [ai a1_0,ai a1_1,.own (oi 4 1) (.slice .int) 0 y13.length]),(oi 3 1,.cells 26 [ai y15.2.1,ai y15.2.2.1,.own (oi 6 1) (.slice .int) 0 y15.2.2.2.length]),(oi 4 1,.mat 39 (oi 5 1) .int y13),(oi 5 1,.pool 3 .int y13),(oi 6 1,.mat 39 (oi 7 1) .int y15.2.2.2),(oi 7 1,.pool 3 .int y15.2.2.2)]),2⟩) ?_ ?_
 ·intro v_ h;obtain ⟨y18,h18,h⟩:=Ae h;rcases Ad h with ⟨q19,h⟩ | ⟨q19,h⟩
  ·refine Aa 42 ?_;refine rzl (.agg [ai y15.2.1,ai y15.2.2.1,.own (oi 529 26) (.slice .int) 0 y15.2.2.2.length]) ?_;refine rzl (.agg [ai y11.1,ai y11.2.1,.tree (.slice .int) y11.2.2.1]) ?_;refine E3 (.bool y18) [] [.agg [ai y15.2.1,ai y15.2.2.1,.own (oi 529 26) (.slice .int) 0 y15.2.2.2.length],.agg [ai y11.1,ai y11.2.1,.tree (.slice .int) y11.2.2.1]] _ (caps:=[]) (args0:=[.agg [ai y15.2.1,ai y15.2.2.1,.tree (.slice .int) y15.2.2.2],.agg [ai y11.1,ai y11.2.1,.tree (.slice .int) y11.2.2.1]]) trivial (Au (H9 (Au (by kernel_rfl) (Au (by kernel_rfl) (Au (D9 (p:=oi 530 26) (e1:=39) (e:=3) (u:=.int) (xss:=y15.2.2.2) (by kernel_rfl) (Bz (by kernel_rfl)) rfl) Ck)))) (Au (by kernel_rfl) Ck)) (Cd h18) Cb ?_;refine rz0 (.bool (!y18)) ?_;refine rz0 (.bool (!y18)) ?_;refine zs q19 ?_;refine zs q19 ?_;refine zs q19 ?_;refine rs0 (.bool true) (zT q19) ?_;refine As (tn_ ?_);obtain rfl:=zj h;exact ⟨_,Ac [(oi 0 1,oi 3 1),(oi 1 1,oi 6 17),(oi 2 1,oi 8 22),(oi 4 1,oi 465 21),(oi 5 1,oi 466 21),(oi 3 1,oi 9 30),(oi 6 1,oi 529 26),(oi 7 1,oi 530 26)],rfl⟩
  refine Aa 42 ?_;refine rzl (.agg [ai y15.2.1,ai y15.2.2.1,.own (oi 529 26) (.slice .int) 0 y15.2.2.2.length]) ?_;refine rzl (.agg [ai y11.1,ai y11.2.1,.tree (.slice .int) y11.2.2.1]) ?_;refine E3 (.bool y18) [] [.agg [ai y15.2.1,ai y15.2.2.1,.own (oi 529 26) (.slice .int) 0 y15.2.2.2.length],.agg [ai y11.1,ai y11.2.1,.tree (.slice .int) y11.2.2.1]] _ (caps:=[]) (args0:=[.agg [ai y15.2.1,ai y15.2.2.1,.tree (.slice .int) y15.2.2.2],.agg [ai y11.1,ai y11.2.1,.tree (.slice .int) y11.2.2.1]]) trivial (Au (H9 (Au (by kernel_rfl) (Au (by kernel_rfl) (Au (D9 (p:=oi 530 26) (e1:=39) (e:=3) (u:=.int) (xss:=y15.2.2.2) (by kernel_rfl) (Bz (by kernel_rfl)) rfl) Ck)))) (Au (by kernel_rfl) Ck)) (Cd h18) Cb ?_;refine rz0 (.bool (!y18)) ?_;refine rz0 (.bool (!y18)) ?_;refine rs0 (.bool y15.1) (zg q19) ?_;refine rs0 (.bool y11.2.2.2) (zg q19) ?_;refine rs0 (.bool (y15.1 !=y11.2.2.2)) (zg q19) ?_;refine rs0 (.bool (y15.1 !=y11.2.2.2)) (zF q19) ?_;refine As (tn_ ?_);obtain rfl:=zj h;exact ⟨_,Ac [(oi 0 1,oi 3 1),(oi 1 1,oi 6 17),(oi 2 1,oi 8 22),(oi 4 1,oi 465 21),(oi 5 1,oi 466 21),(oi 3 1,oi 9 30),(oi 6 1,oi 529 26),(oi 7 1,oi 530 26)],rfl⟩
 rintro l17_m44 _ rfl h
 (try dsimp only at h);rcases Ad h with ⟨q20,h⟩ | ⟨q20,h⟩
 ·refine Ag q20 ?_;refine Am ?_;refine Ak (tr_ ?_);obtain rfl:=zj h;exact Bl [.bool false] (A7 rfl zl A8)
 refine Ah q20 ?_;refine Aj (tn_ ?_);refine wr_ ?_;refine Ab ?_;refine Ab ?_;obtain ⟨y24,h24,h⟩:=Ae h;obtain ⟨y25,h25,h⟩:=Ae h;refine Bb 7 ?_;refine dzl (.agg [ai a1_0,ai a1_1,.own (oi 4 1) (.slice .int) 0 y13.length]) ?_;refine dzl (.agg [ai a1_0,ai a1_1,.tree (.slice .int) a1_2]) ?_;refine S6 (.agg [ai a1_0,ai a1_1,.own (oi 753 4) (.slice .int) 0 y24.length]) [(oi 752 4,some (.cells 26 [ai a1_0,ai a1_1,.own (oi 753 4) (.slice .int) 0 y24.length])),(oi 753 4,some (.mat 39 (oi 754 4) .int y24)),(oi 754 4,some (.pool 3 .int y24))] [] [.agg [ai a1_0,ai a1_1,.tree (.slice .int) a1_2]] (caps:=[]) trivial (Fj h24) Fs trivial (.cons (.ren (by kernel_rfl)) .nil) (A9 (by kernel_rfl) (by kernel_rfl) trivial) (Yc (by kernel_rfl)) ?_;refine Fw (.bool y25) [] [.agg [ai a1_0,ai a1_1,.own (oi 4 1) (.slice .int) 0 y13.length],.agg [ai a1_0,ai a1_1,.own (oi 753 4) (.slice .int) 0 y24.length]] _ (caps:=[]) (args0:=[.agg [ai a1_0,ai a1_1,.tree (.slice .int) y13],.agg [ai a1_0,ai a1_1,.tree (.slice .int) y24]]) trivial (Au (H9 (Au (by kernel_rfl) (Au (by kernel_rfl) (Au (D9 (p:=oi 5 1) (e1:=39) (e:=3) (u:=.int) (xss:=y13) ((Mw (Ad1 [ai a1_0,ai a1_1,.own (oi 4 1) (.slice .int) 0 y13.length] (t:=.slice .int) (off:=0) (len:=y13.length) 0 2 rfl (by kernel_rfl) rfl)).trans (by kernel_rfl)) (Tn [ai a1_0,ai a1_1,.own (oi 4 1) (.slice .int) 0 y13.length] (t:=.slice .int) (off:=0) (len:=y13.length) (i:=oi 4 1) (e1:=39) (z:=1) (m:=y13.length) 0 2 rfl (by kernel_rfl) rfl (by kernel_rfl) (Bz (by kernel_rfl))) rfl) Ck)))) (Au (H9 (Au (by kernel_rfl) (Au (by kernel_rfl) (Au (D9 (p:=oi 754 4) (e1:=39) (e:=3) (u:=.int) (xss:=y24) ((Mw (Ad1 [ai a1_0,ai a1_1,.own (oi 753 4) (.slice .int) 0 y24.length] (t:=.slice .int) (off:=0) (len:=y24.length) 1 2 rfl (by kernel_rfl) rfl)).trans (by kernel_rfl)) (Tn [ai a1_0,ai a1_1,.own (oi 753 4) (.slice .int) 0 y24.length] (t:=.slice .int) (off:=0) (len:=y24.length) (i:=oi 753 4) (e1:=39) (z:=1) (m:=y24.length) 1 2 rfl (by kernel_rfl) rfl (by kernel_rfl) (Bz (by kernel_rfl))) rfl) Ck)))) Ck)) (Cd h25) Cb ?_;refine dz0 (.bool (!y25)) ?_;refine Ky ⟨Acq (by kernel_rfl),trivial⟩ (tn_ ?_);refine wr_ ?_;rcases Ad h with ⟨q26,h⟩ | ⟨q26,h⟩
 ·refine Ag q26 ?_;refine Am ?_;refine Ak (tr_ ?_);obtain rfl:=zj h;exact Bl [.bool false] (A7 rfl zl A8)
 refine Ah q26 ?_;refine Aj (tn_ ?_);refine wr_ ?_;refine Am ?_;refine Ab ?_;obtain ⟨y30,h30,h⟩:=Ae h;obtain ⟨g31,h⟩:=Aq h;refine Aa 12 ?_;refine rzl (.agg [ai a1_0,ai a1_1,.own (oi 4 1) (.slice .int) 0 y13.length]) ?_;refine rz0 (ai 1) ?_;refine Dn (ai y30.2) [(oi 4 1,some (.mat 39 (oi 832 10) .int y30.1)),(oi 832 10,some (.pool 3 .int y30.1)),(oi 4 1,none),(oi 5 1,some (.pool 3 .int []))] [(oi 0 0,oi 4 1),(oi 1 0,oi 5 1)] [.agg [ai a1_0,ai a1_1,.own (oi 4 1) (.slice .int) 0 y13.length],ai 1] (caps:=[]) trivial (Ja h30 rfl) Ib ⟨by kernel_rfl,⟨by kernel_rfl,trivial⟩⟩ (.cons (.agg (.cons (.ren (by kernel_rfl)) (.cons (.ren (by kernel_rfl)) (.cons (.ren (by kernel_rfl)) .nil)))) (.cons (.ren (by kernel_rfl)) .nil)) (A9 (by kernel_rfl) (by kernel_rfl) ⟨Bj (by kernel_rfl),⟨E0 (o:=oi 4 1) (p:=oi 5 1) (e1:=39) (m:=y13.length) (u:=.int) (xss:=y13) (Bj (by kernel_rfl)) (by kernel_rfl),trivial⟩⟩) ?_;refine rsB 1 ?_;refine As (tn_ ?_);refine wr_ ?_;refine Ab ?_;refine Ay h (fun (l33_m65:Bool) S_=>S_=⟨Al [(0,ai a0),(3,.box (oi 0 1) 0),(6,.box (oi 1 1) 0),(7,.bool y11.2.2.2),(9,.box (oi 2 1) 0),(65,.bool l33_m65)],Af (Ao [(oi 0 1,.cells 24 [ai a1_0,ai a1_1,.tree (.slice .int) a1_2]),(oi 1 1,.cells 26 [ai y11.1,ai y11.2.1,.tree (.slice .int) y11.2.2.1]),(oi 2 1,.cells 26 [ai y15.2.1,ai y15.2.2.1,.own (oi 3 1) (.slice .int) 0 y15.2.2.2.length]),(oi 3 1,.mat 39 (oi 4 1) .int y15.2.2.2),(oi 4 1,.pool 3 .int y15.2.2.2)]),2⟩) ?_ ?_
 ·intro v_ h;rcases Ad h with ⟨q34,h⟩ | ⟨q34,h⟩
  ·have q34_:=of_decide_eq_true q34;refine Aa 25 ?_;refine rz0 (ai y30.2) ?_;refine rz0 (.bool (decide (y30.2<0))) ?_;refine rz0 (.bool (decide (y30.2<0))) ?_;refine zs q34 ?_;refine zs q34 ?_;refine zs q34 ?_;refine zs q34 ?_;refine rs0 (.bool true) (zT q34) ?_;refine rsB 5 ?_;refine As (tn_ ?_);obtain rfl:=zj h;exact ⟨_,Ac [(oi 2 1,oi 3 1),(oi 3 1,oi 6 1),(oi 4 1,oi 7 1)],rfl⟩
  have q34_:=of_decide_eq_false q34;obtain ⟨y35,h35,h⟩:=Ae h;rcases Ad h with ⟨q36,h⟩ | ⟨q36,h⟩
  ·refine Aa 25 ?_;refine rz0 (ai y30.2) ?_;refine rz0 (.bool (decide (y30.2<0))) ?_;refine rz0 (.bool (decide (y30.2<0))) ?_;refine rsl (.agg [ai y15.2.1,ai y15.2.2.1,.own (oi 6 1) (.slice .int) 0 y15.2.2.2.length]) (zg q34) ?_;refine rsl (.agg [ai y11.1,ai y11.2.1,.tree (.slice .int) y11.2.2.1]) (zg q34) ?_;refine E3 (.bool y35) [] [.agg [ai y15.2.1,ai y15.2.2.1,.own (oi 6 1) (.slice .int) 0 y15.2.2.2.length],.agg [ai y11.1,ai y11.2.1,.tree (.slice .int) y11.2.2.1]] _ (caps:=[]) (args0:=[.agg [ai y15.2.1,ai y15.2.2.1,.tree (.slice .int) y15.2.2.2],.agg [ai y11.1,ai y11.2.1,.tree (.slice .int) y11.2.2.1]]) (Du (by kernel_rfl) q34) (Au (H9 (Au (by kernel_rfl) (Au (by kernel_rfl) (Au (D9 (p:=oi 7 1) (e1:=39) (e:=3) (u:=.int) (xss:=y15.2.2.2) (by kernel_rfl) (Bz (by kernel_rfl)) rfl) Ck)))) (Au (by kernel_rfl) Ck)) (Cd h35) Cb ?_;refine rs0 (.bool (!y35)) (zg q34) ?_;refine rs0 (.bool (!y35)) (zF q34) ?_;refine rz0 (.bool (!y35)) ?_;refine zs q36 ?_;refine zs q36 ?_;refine zs q36 ?_;refine rs0 (.bool true) (zT q36) ?_;refine As (tn_ ?_);obtain rfl:=zj h;exact ⟨_,Ac [(oi 2 1,oi 3 1),(oi 3 1,oi 6 1),(oi 4 1,oi 7 1)],rfl⟩
  refine Aa 25 ?_;refine rz0 (ai y30.2) ?_;refine rz0 (.bool (decide (y30.2<0))) ?_;refine rz0 (.bool (decide (y30.2<0))) ?_;refine rsl (.agg [ai y15.2.1,ai y15.2.2.1,.own (oi 6 1) (.slice .int) 0 y15.2.2.2.length]) (zg q34) ?_;refine rsl (.agg [ai y11.1,ai y11.2.1,.tree (.slice .int) y11.2.2.1]) (zg q34) ?_;refine E3 (.bool y35) [] [.agg [ai y15.2.1,ai y15.2.2.1,.own (oi 6 1) (.slice .int) 0 y15.2.2.2.length],.agg [ai y11.1,ai y11.2.1,.tree (.slice .int) y11.2.2.1]] _ (caps:=[]) (args0:=[.agg [ai y15.2.1,ai y15.2.2.1,.tree (.slice .int) y15.2.2.2],.agg [ai y11.1,ai y11.2.1,.tree (.slice .int) y11.2.2.1]]) (Du (by kernel_rfl) q34) (Au (H9 (Au (by kernel_rfl) (Au (by kernel_rfl) (Au (D9 (p:=oi 7 1) (e1:=39) (e:=3) (u:=.int) (xss:=y15.2.2.2) (by kernel_rfl) (Bz (by kernel_rfl)) rfl) Ck)))) (Au (by kernel_rfl) Ck)) (Cd h35) Cb ?_;refine rs0 (.bool (!y35)) (zg q34) ?_;refine rs0 (.bool (!y35)) (zF q34) ?_;refine rz0 (.bool (!y35)) ?_;refine rs0 (.bool y15.1) (zg q36) ?_;refine rs0 (.bool y11.2.2.2) (zg q36) ?_;refine rs0 (.bool (y15.1 !=y11.2.2.2)) (zg q36) ?_;refine rs0 (.bool (y15.1 !=y11.2.2.2)) (zF q36) ?_;refine As (tn_ ?_);obtain rfl:=zj h;exact ⟨_,Ac [(oi 2 1,oi 3 1),(oi 3 1,oi 6 1),(oi 4 1,oi 7 1)],rfl⟩
 rintro l33_m65 _ rfl h
 (try dsimp only at h);rcases Ad h with ⟨q37,h⟩ | ⟨q37,h⟩
 ·refine Ag q37 ?_;refine Am ?_;refine Ak (tr_ ?_);obtain rfl:=zj h;exact Bl [.bool false] (A7 rfl zl A8)
 refine Ah q37 ?_;refine Aj (tn_ ?_);refine wr_ ?_;refine Am ?_;refine Ab ?_;obtain ⟨y41,h41,h⟩:=Ae h;obtain ⟨g42,h⟩:=Aq h;refine Aa 7 ?_;refine rzl (.agg [ai y15.2.1,ai y15.2.2.1,.own (oi 3 1) (.slice .int) 0 y15.2.2.2.length]) ?_;refine rz0 (ai 1) ?_;refine Dn (ai y41.2) [(oi 3 1,some (.mat 39 (oi 1088 5) .int y41.1)),(oi 1088 5,some (.pool 3 .int y41.1)),(oi 3 1,none),(oi 4 1,some (.pool 3 .int []))] [(oi 0 0,oi 3 1),(oi 1 0,oi 4 1)] [.agg [ai y15.2.1,ai y15.2.2.1,.own (oi 3 1) (.slice .int) 0 y15.2.2.2.length],ai 1] (caps:=[]) trivial (Ja h41 rfl) Ib ⟨by kernel_rfl,⟨by kernel_rfl,trivial⟩⟩ (.cons (.agg (.cons (.ren (by kernel_rfl)) (.cons (.ren (by kernel_rfl)) (.cons (.ren (by kernel_rfl)) .nil)))) (.cons (.ren (by kernel_rfl)) .nil)) (A9 (by kernel_rfl) (by kernel_rfl) ⟨Bj (by kernel_rfl),⟨E0 (o:=oi 3 1) (p:=oi 4 1) (e1:=39) (m:=y15.2.2.2.length) (u:=.int) (xss:=y15.2.2.2) (Bj (by kernel_rfl)) (by kernel_rfl),trivial⟩⟩) ?_;refine rsB 1 ?_;refine As (tn_ ?_);refine wr_ ?_;refine Am ?_;refine Ab ?_;obtain ⟨y45,h45,h⟩:=Ae h;refine Aa 12 ?_;refine rzl (.agg [ai y15.2.1,ai y15.2.2.1,.own (oi 3 1) (.slice .int) 0 y15.2.2.2.length]) ?_;refine rz0 (ai 1) ?_;refine E3 (ai y45) [] [.agg [ai y15.2.1,ai y15.2.2.1,.own (oi 3 1) (.slice .int) 0 y15.2.2.2.length],ai 1] _ (caps:=[]) (args0:=[.agg [ai y15.2.1,ai y15.2.2.1,.tree (.slice .int) y41.1],ai 1]) trivial (Au (H9 (Au (by kernel_rfl) (Au (by kernel_rfl) (Au (D9 (p:=oi 1088 5) (e1:=39) (e:=3) (u:=.int) (xss:=y41.1) (by kernel_rfl) (Bz (by kernel_rfl)) g42.symm) Ck)))) (Au (by kernel_rfl) Ck)) (Ix h45) I5 ?_;refine rsB 1 ?_;refine As (tn_ ?_);refine wr_ ?_;refine Ab ?_;refine Am ?_;rcases Ad h with ⟨q48,h⟩ | ⟨q48,h⟩
 ·have q48_:=of_decide_eq_true q48;refine Ag q48 ?_;refine Am ?_;refine Ak (tr_ ?_);obtain rfl:=zj h;exact Bl [.bool false] (A7 rfl zl A8)
 have q48_:=of_decide_eq_false q48;refine Ah q48 ?_;refine Aj (tn_ ?_);refine wr_ ?_;refine Ab ?_;refine Am ?_;rcases Ad h with ⟨q52,h⟩ | ⟨q52,h⟩
 ·refine Ag q52 ?_;refine Am ?_;refine Ak (tr_ ?_);obtain rfl:=zj h;exact Bl [.bool false] (A7 rfl zl A8)
 refine Ah q52 ?_;refine Aj (tn_ ?_);refine wr_ ?_;refine Ab ?_;obtain ⟨y55,h55,h⟩:=Ae h;obtain ⟨y56,h56,h⟩:=Ae h;refine Aa 27 ?_;refine rz0 (ai a0) ?_;refine rzl (.agg [ai a1_0,ai a1_1,.tree (.slice .int) a1_2]) ?_;refine Dn (.agg [ai a1_0,ai a1_1,.own (oi 1281 19) (.slice .int) 0 y55.length]) [(oi 1280 19,some (.cells 26 [ai a1_0,ai a1_1,.own (oi 1281 19) (.slice .int) 0 y55.length])),(oi 1281 19,some (.mat 39 (oi 1282 19) .int y55)),(oi 1282 19,some (.pool 3 .int y55))] [] [.agg [ai a1_0,ai a1_1,.tree (.slice .int) a1_2]] (caps:=[]) trivial (Fj h55) Fs trivial (.cons (.ren (by kernel_rfl)) .nil) (A9 (by kernel_rfl) (by kernel_rfl) trivial) ?_;refine Dn (.tup [.agg [ai y56.2.1,ai y56.2.2.1,.own (oi 1297 20) (.slice .int) 0 y56.2.2.2.length],.bool y56.1]) [(oi 1296 20,some (.cells 26 [ai y56.2.1,ai y56.2.2.1,.own (oi 1297 20) (.slice .int) 0 y56.2.2.2.length])),(oi 1297 20,some (.mat 39 (oi 1298 20) .int y56.2.2.2)),(oi 1298 20,some (.pool 3 .int y56.2.2.2))] [] [ai a0,.agg [ai a1_0,ai a1_1,.own (oi 1281 19) (.slice .int) 0 y55.length]] (caps:=[]) trivial (Gj h56) Gk trivial (.cons (.ren (by kernel_rfl)) (.cons (.agg (.cons (.ren (by kernel_rfl)) (.cons (.ren (by kernel_rfl)) (.cons (.gnd (by kernel_rfl) (D9 (p:=oi 1282 19) (e1:=39) (e:=3) (u:=.int) (xss:=y55) ((Mv (by kernel_rfl) (by kernel_rfl) (by kernel_rfl)).trans (by kernel_rfl)) (Mz (by kernel_rfl) (by kernel_rfl) (Bz (by kernel_rfl)) (by kernel_rfl)) rfl)) .nil)))) .nil)) (A9 (by kernel_rfl) (by kernel_rfl) trivial) ?_;refine rsB 6 ?_;refine As (tn_ ?_);refine wr_ ?_;refine Ab ?_;refine Ay h (fun (l58_m92:Bool) S_=>S_=⟨Al [(9,.box (oi 0 1) 0),(12,ai y41.2),(92,.bool l58_m92)],Af (Ao [(oi 0 1,.cells 26 [ai y15.2.1,ai y15.2.2.1,.own (oi 1 1) (.slice .int) 0 y41.1.length]),(oi 1 1,.mat 39 (oi 2 1) .int y41.1),(oi 2 1,.pool 3 .int y41.1)]),2⟩) ?_ ?_
 ·intro v_ h;obtain ⟨y59,h59,h⟩:=Ae h;rcases Ad h with ⟨q60,h⟩ | ⟨q60,h⟩
  ·refine Aa 36 ?_;refine rzl (.agg [ai y56.2.1,ai y56.2.2.1,.own (oi 1297 20) (.slice .int) 0 y56.2.2.2.length]) ?_;refine rzl (.agg [ai y11.1,ai y11.2.1,.tree (.slice .int) y11.2.2.1]) ?_;refine E3 (.bool y59) [] [.agg [ai y56.2.1,ai y56.2.2.1,.own (oi 1297 20) (.slice .int) 0 y56.2.2.2.length],.agg [ai y11.1,ai y11.2.1,.tree (.slice .int) y11.2.2.1]] _ (caps:=[]) (args0:=[.agg [ai y56.2.1,ai y56.2.2.1,.tree (.slice .int) y56.2.2.2],.agg [ai y11.1,ai y11.2.1,.tree (.slice .int) y11.2.2.1]]) trivial (Au (H9 (Au (by kernel_rfl) (Au (by kernel_rfl) (Au (D9 (p:=oi 1298 20) (e1:=39) (e:=3) (u:=.int) (xss:=y56.2.2.2) (by kernel_rfl) (Bz (by kernel_rfl)) rfl) Ck)))) (Au (by kernel_rfl) Ck)) (Cd h59) Cb ?_;refine rz0 (.bool (!y59)) ?_;refine rz0 (.bool (!y59)) ?_;refine zs q60 ?_;refine zs q60 ?_;refine zs q60 ?_;refine rs0 (.bool true) (zT q60) ?_;refine As (tn_ ?_);obtain rfl:=zj h;exact ⟨_,(Ke (oi 2 1) (.cells 26 [ai y15.2.1,ai y15.2.2.1,.own (oi 3 1) (.slice .int) 0 y15.2.2.2.length]) (.cells 26 [ai y15.2.1,ai y15.2.2.1,.own (oi 3 1) (.slice .int) 0 y41.1.length]) (by kernel_rfl) (congrArg (fun z_=>(.cells 26 [ai y15.2.1,ai y15.2.2.1,.own (oi 3 1) (.slice .int) 0 z_]:Ob)) (g42.symm:y15.2.2.2.length=y41.1.length))).trans (Ac [(oi 0 1,oi 2 1),(oi 1 1,oi 3 1),(oi 2 1,oi 1088 5)]),rfl⟩
  refine Aa 36 ?_;refine rzl (.agg [ai y56.2.1,ai y56.2.2.1,.own (oi 1297 20) (.slice .int) 0 y56.2.2.2.length]) ?_;refine rzl (.agg [ai y11.1,ai y11.2.1,.tree (.slice .int) y11.2.2.1]) ?_;refine E3 (.bool y59) [] [.agg [ai y56.2.1,ai y56.2.2.1,.own (oi 1297 20) (.slice .int) 0 y56.2.2.2.length],.agg [ai y11.1,ai y11.2.1,.tree (.slice .int) y11.2.2.1]] _ (caps:=[]) (args0:=[.agg [ai y56.2.1,ai y56.2.2.1,.tree (.slice .int) y56.2.2.2],.agg [ai y11.1,ai y11.2.1,.tree (.slice .int) y11.2.2.1]]) trivial (Au (H9 (Au (by kernel_rfl) (Au (by kernel_rfl) (Au (D9 (p:=oi 1298 20) (e1:=39) (e:=3) (u:=.int) (xss:=y56.2.2.2) (by kernel_rfl) (Bz (by kernel_rfl)) rfl) Ck)))) (Au (by kernel_rfl) Ck)) (Cd h59) Cb ?_;refine rz0 (.bool (!y59)) ?_;refine rz0 (.bool (!y59)) ?_;refine rs0 (.bool y56.1) (zg q60) ?_;refine rs0 (.bool y11.2.2.2) (zg q60) ?_;refine rs0 (.bool (y56.1 !=y11.2.2.2)) (zg q60) ?_;refine rs0 (.bool (y56.1 !=y11.2.2.2)) (zF q60) ?_;refine As (tn_ ?_);obtain rfl:=zj h;exact ⟨_,(Ke (oi 2 1) (.cells 26 [ai y15.2.1,ai y15.2.2.1,.own (oi 3 1) (.slice .int) 0 y15.2.2.2.length]) (.cells 26 [ai y15.2.1,ai y15.2.2.1,.own (oi 3 1) (.slice .int) 0 y41.1.length]) (by kernel_rfl) (congrArg (fun z_=>(.cells 26 [ai y15.2.1,ai y15.2.2.1,.own (oi 3 1) (.slice .int) 0 z_]:Ob)) (g42.symm:y15.2.2.2.length=y41.1.length))).trans (Ac [(oi 0 1,oi 2 1),(oi 1 1,oi 3 1),(oi 2 1,oi 1088 5)]),rfl⟩
 rintro l58_m92 _ rfl h
 (try dsimp only at h);rcases Ad h with ⟨q61,h⟩ | ⟨q61,h⟩
 ·refine Ag q61 ?_;refine Am ?_;refine Ak (tr_ ?_);obtain rfl:=zj h;exact Bl [.bool false] (A7 rfl zl A8)
 refine Ah q61 ?_;refine Aj (tn_ ?_);refine wr_ ?_;refine Am ?_;refine Ab ?_;obtain ⟨y65,h65,h⟩:=Ae h;refine Aa 7 ?_;refine rzl (.agg [ai y15.2.1,ai y15.2.2.1,.own (oi 1 1) (.slice .int) 0 y41.1.length]) ?_;refine rz0 (ai 1) ?_;refine E3 (ai y65) [] [.agg [ai y15.2.1,ai y15.2.2.1,.own (oi 1 1) (.slice .int) 0 y41.1.length],ai 1] _ (caps:=[]) (args0:=[.agg [ai y15.2.1,ai y15.2.2.1,.tree (.slice .int) y41.1],ai 1]) trivial (Au (H9 (Au (by kernel_rfl) (Au (by kernel_rfl) (Au (D9 (p:=oi 2 1) (e1:=39) (e:=3) (u:=.int) (xss:=y41.1) (by kernel_rfl) (Bz (by kernel_rfl)) rfl) Ck)))) (Au (by kernel_rfl) Ck)) (Ix h65) I5 ?_;refine rsB 1 ?_;refine As (tn_ ?_);refine wr_ ?_;refine Ab ?_;refine Am ?_;rcases Ad h with ⟨q68,h⟩ | ⟨q68,h⟩
 ·have q68_:=of_decide_eq_true q68;refine Ag q68 ?_;refine Am ?_;refine Ak (tr_ ?_);obtain rfl:=zj h;exact Bl [.bool false] (A7 rfl zl A8)
 have q68_:=of_decide_eq_false q68;refine Ah q68 ?_;refine Aj (tn_ ?_);refine wr_ ?_;refine Ab ?_;refine Am ?_;rcases Ad h with ⟨q72,h⟩ | ⟨q72,h⟩
 ·refine Ag q72 ?_;refine Am ?_;refine Ak (tr_ ?_);obtain rfl:=zj h;exact Bl [.bool false] (A7 rfl zl A8)
 refine Ah q72 ?_;refine Aj (tn_ ?_);refine wr_ ?_;refine Am ?_;refine Ak ?_;obtain rfl:=zj h;exact Bl [.bool true] (A7 rfl zl A8)
end Go.Proofs.YtehocbbnjfmgaaaDoor
namespace Go.Proofs.YtehocbbnjfmgaaaDoor
section
variable {α β σ ρ:Type}
theorem Xg {body:σ->Option (Ctl σ ρ)} {Post:ρ->Prop} (n:Nat) (I:Nat->σ->Prop)
  (hs:∀ i s,i<n->I i s->(∃ s',body s=some (.next s')∧I (i+1) s')∨∃ r,body s=some (.out r)∧Post r) (he:∀ s,I n s->∃ r,body s=some (.out r)∧Post r) :
  ∀ (F k:Nat) (s:σ),k<=n->n - k<F->I k s->∃ r,A1 body F s=some r∧Post r
 | 0,_,_,_,h,_=>by omega
 | F+1,k,s,hk,h,hi=>by
  have key:(∃ r,body s=some (.out r)∧Post r)->∃ r,A1 body (F+1) s=some r∧Post r:=by
   rintro ⟨r,h1,h2⟩;exact ⟨r,by simp only [A1,h1,obs,Ctl.then],h2⟩
  rcases Nat.lt_or_ge k n with hlt | hge
  ·rcases hs k s hlt hi with ⟨s',h1,h2⟩ | h
   ·obtain ⟨r,h3,h4⟩:=Xg n I hs he F (k+1) s' hlt (by omega) h2;exact ⟨r,by simp only [A1,h1,obs,Ctl.then]; exact h3,h4⟩
   ·exact key h
  ·obtain rfl:k=n:=by omega
   exact key (he s hi)
theorem Acx {body:σ->Option (Ctl σ ρ)} {Post:ρ->Prop} (n:Nat) (I:Nat->σ->Prop) {F:Nat} (hn:n<F) {s0:σ} (h0:I 0 s0)
  (hs:∀ i s,i<n->I i s->(∃ s',body s=some (.next s')∧I (i+1) s')∨∃ r,body s=some (.out r)∧Post r) (he:∀ s,I n s->∃ r,body s=some (.out r)∧Post r):∃ r,A1 body F s0=some r∧Post r :=
 Xg n I hs he F 0 s0 (Nat.zero_le _) (by omega) h0
theorem I3 {body:σ->Option (Ctl σ ρ)} (n:Nat) (I:Nat->σ->Prop) {F:Nat} (hn:n<F) {s0:σ} (r:ρ) (h0:I 0 s0)
  (hs:∀ i s,i<n->I i s->(∃ s',body s=some (.next s')∧I (i+1) s')∨body s=some (.out r)) (he:∀ s,I n s->body s=some (.out r)):A1 body F s0=some r:=by
 obtain ⟨r',h1,rfl⟩:=Acx (Post:=fun r'=>r'=r) n I hn h0 (fun i s hi hI=>(hs i s hi hI).imp id fun h=>⟨r,h,rfl⟩) (fun s h=>⟨r,he s h,rfl⟩);exact h1
theorem Bf {body:σ->Option (Ctl σ ρ)} (n:Nat) (S:Nat->σ) {F:Nat} (hn:n<F) {s0:σ} (r:ρ) (h0:s0=S 0) (hs:∀ i,i<n->body (S i)=some (.next (S (i+1)))) (he:body (S n)=some (.out r)):A1 body F s0=some r:=by
 subst h0;refine I3 n (fun i s=>s=S i) hn r rfl (fun i s hi e=>.inl ?_) (fun s e=>by subst e; exact he);subst e;exact ⟨_,hs i hi,rfl⟩
theorem Mr {body:Nat->Option (Ctl Nat ρ)} (xs:List α) (q:α->Bool) (good bad:ρ) {F:Nat} (hn:xs.length<F) (hs:∀ i x,xs[i]? =some x->body i=some (if q x then .next (i+1) else .out bad)) (he:body xs.length=some (.out good)):A1 body F 0=some (if xs.all q then good else bad):=by
 refine I3 xs.length (fun i s=>s=i∧(xs.take i).all q=true) hn _ ⟨rfl,by simp⟩ ?_ ?_
 ·rintro i s hi ⟨hsi,hq⟩;subst s;have hx:=gEg hi;rw [hs i _ hx];cases hc:q xs[i]
  ·refine .inr ?_
   have:xs.all q=false:=by
    rw [Bool.eq_false_iff];intro ha;rw [List.all_eq_true] at ha;rw [ha _ (List.getElem_mem hi)] at hc;cases hc
   rw [this]; rfl
  ·refine .inl ⟨i+1,rfl,rfl,?_⟩;rw [List.take_add_one,List.all_append,hq,hx];simp [hc]
 ·rintro s ⟨rfl,hq⟩;rw [List.take_length] at hq;rw [he,hq]; rfl
theorem X2 {body:Nat×List β->Option (Ctl (Nat×List β) ρ)} (xs:List α) (f:α->β) (ys:List β) {F:Nat} (hn:xs.length<F) (r:ρ) (hs:∀ i x,xs[i]? =some x->body (i,ys++(xs.take i).map f)=some (.next (i+1,(ys++(xs.take i).map f)++[f x]))) (he:body (xs.length,ys++xs.map f)=some (.out r)):A1 body F (0,ys)=some r:=by
 refine Bf xs.length (fun i=>(i,ys++(xs.take i).map f)) hn r (by simp) (fun i hi=>?_) (by rw [List.take_length]; exact he);have hx:=gEg hi;rw [hs i _ hx,List.take_add_one,hx];simp only [List.map_append,Option.toList,List.map_cons,List.map_nil,List.append_assoc]
theorem Xc {xs:List α} {d:α} {i:Nat} (h:i<xs.length):(xs.take i++List.replicate (xs.length - i) d)[i]? =some d:=by
 have h1:(xs.take i).length=i:=by rw [List.length_take]; omega
 rw [List.getElem?_append_right (by omega),h1,Nat.sub_self,List.getElem?_replicate,if_pos (by omega)]
theorem X4 {xs:List α} {d x:α} {i:Nat} (h:xs[i]? =some x):(xs.take i++List.replicate (xs.length - i) d).set i x=xs.take (i+1)++List.replicate (xs.length - (i+1)) d:=by
 have hi:=(gSi.1 h).1;have e:xs.length - i=(xs.length - (i+1))+1:=by omega
 rw [List.take_add_one,h,e,List.replicate_succ,List.set_append,if_neg (by simp; omega)];simp [Nat.min_eq_left (Nat.le_of_lt hi)]
theorem G3 {xs ys:List α} {i:Nat} (h:i<xs.length) (hl:ys.length=i):(ys++xs.drop i)[i]? =some xs[i]:=by
 rw [List.getElem?_append_right (by omega),hl];simp [List.getElem?_drop,h]
theorem G8 {xs ys:List α} {y:α} {i:Nat} (h:i<xs.length) (hl:ys.length=i):(ys++xs.drop i).set i y=(ys++[y])++xs.drop (i+1):=by
 rw [List.set_append,if_neg (by omega),hl,Nat.sub_self,List.drop_eq_getElem_cons h,List.append_assoc];rfl
end
theorem Cj {n:Int} (h1: -9223372036854775808<=n) (h2:n<9223372036854775808):wI n=n:=Go.IntWalk.i64_in _ (by omega)
theorem Bo {p:Prop} [Decidable p] (h:p):decide p=true:=decide_eq_true h
theorem Bm {p:Prop} [Decidable p] (h:¬ p):decide p=false:=decide_eq_false h
end Go.Proofs.YtehocbbnjfmgaaaDoor
namespace Go.Proofs.YtehocbbnjfmgaaaDoor
def szV (v:Int) (n:Nat):Int:=if v<n then -1 else v - n
theorem Ahx (xs:List Int) {v:Int} (hv:0<=v∧v<=1048576) (hx:xs.length<=9223372036854775807):Ga xs v=some (szV v xs.length):=by
  unfold Ga szV;rw [Cj (by omega) (by omega)];by_cases h:v<xs.length
  · rw [Bo (by omega),if_pos h]; rfl
  · rw [Bm (by omega),if_neg h]; rfl
theorem Ahp (xs:List Int) (hx:xs.length<=1073741824):F8 xs=some xs:=by
  unfold F8;rw [An (by omega)]
  have h:A1 (fun s_:Nat×List Int=>Dv xs s_.1 s_.2) 4611686018427387904 (0,List.replicate xs.length (0:Int))=some xs:=by
    refine Bf xs.length (fun i=>(i,xs.take i++List.replicate (xs.length - i) 0)) (by omega) xs (by simp) (fun i hi=>?_) ?_
    · have hx:=gEg hi
      try dsimp only
      unfold Dv;rw [Bo (by omega),cond_true,hx,obs,Xc hi,obs,An (by omega),X4 hx]
    · try dsimp only
      unfold Dv;rw [Bm (by omega),cond_false];simp
  rw [h]; rfl
theorem Agv (xs:List Int) (hx:xs.length<=1073741824):F6 xs xs=some true:=by
  unfold F6
  have h:A1 (fun s_:Nat=>Dw xs xs s_) 4611686018427387904 0=some (.next ()):=by
    refine Bf xs.length (fun i=>i) (by omega) _ rfl (fun i hi=>?_) ?_
    · have hx:=gEg hi
      try dsimp only
      unfold Dw;rw [Bo (by omega),cond_true,hx,obs,obs,bne_self_eq_false,cond_false,An (by omega)]
    · try dsimp only
      unfold Dw;rw [Bm (by omega),cond_false]
  rw [h,bne_self_eq_false,cond_false]; rfl
end Go.Proofs.YtehocbbnjfmgaaaDoor

namespace Go.Proofs.YtehocbbnjfmgaaaDoor

section
variable {σ ρ:Type}
end

def mkL (v:Int) (n:Nat):List Int:=(List.range n).map fun j:Nat=>v+(j:Int)
theorem Ab0 (xs:List Int) {v:Int} (hv:0<=v∧v<=1152921504606846976) (hx:xs.length<=1073741824):Eu xs v=some (mkL v xs.length,v+xs.length):=by
  unfold Eu
  have h:A1 (fun s_:Int×Nat×List Int=>C9 s_.1 s_.2.1 s_.2.2) 4611686018427387904 (v,0,xs)=some (v+xs.length,mkL v xs.length):=by
    refine Bf xs.length (fun i=>(v+i,i,mkL v i++xs.drop i)) (by omega) _ (by simp [mkL]) (fun i hi=>?_) ?_
    · have hl:(mkL v i).length=i:=by simp [mkL]
      try dsimp only
      unfold C9;rw [Bo (by rw [List.length_append,hl,List.length_drop]; omega),cond_true,G3 hi hl,obs,An (by omega),G8 hi hl,Cj (by omega) (by omega)];unfold mkL;rw [List.range_succ,List.map_append];simp [Int.add_assoc]
    · try dsimp only
      unfold C9;rw [Bm (by simp [mkL]),cond_false];simp [mkL]
  rw [h]; rfl
theorem Z6 (n:Nat) {v:Int} (hv:0<=v∧v<=1152921504606846976) (hx:n<=1073741824):Ef (mkL v n) v=some (v+n):=by
  unfold Ef
  have h:A1 (fun s_:Int×Nat=>C5 (mkL v n) s_.1 s_.2) 4611686018427387904 (v,0)=some (.next (v+n)):=by
    refine Bf n (fun i=>(v+i,i)) (by omega) _ (by simp) (fun i hi=>?_) ?_
    · have hg:(mkL v n)[i]? =some (v+i):=by simp [mkL,hi]
      try dsimp only
      unfold C5;rw [Bo (by simp [mkL]; omega),cond_true,hg,obs,bne_self_eq_false,cond_false,An (by omega),Cj (by omega) (by omega)];simp [Int.add_assoc]
    · try dsimp only
      unfold C5;rw [Bm (by simp [mkL]),cond_false]
  rw [h]; rfl
/-- Rows that are not too long. -/
def Hu (b:Nat) (xss:List (List Int)):Prop:=∀ x∈xss,x.length<=b
def D1 (xss:List (List Int)):Nat:=(xss.map List.length).sum
def marked (v:Int):List (List Int)->List (List Int)
  | []=>[]
  | x :: r=>mkL v x.length :: marked (v+x.length) r
theorem Gf:∀ (v:Int) (xss:List (List Int)),(marked v xss).length=xss.length
  | _,[]=>rfl
  | v,x :: r=>by simp [marked,Gf]
theorem N3:∀ (v:Int) (xss:List (List Int)) (i:Nat) (h:i<xss.length),(marked v xss)[i]? =some (mkL (v+D1 (xss.take i)) xss[i].length)
  | v,x :: r,0,h=>by simp [marked,D1]
  | v,x :: r,i+1,h=>by
    have:=N3 (v+x.length) r i (by simpa using h);simp only [marked,List.getElem?_cons_succ,this,List.take_succ_cons,List.getElem_cons_succ,D1,List.map_cons,List.sum_cons];congr 2;simp [Int.add_assoc]
theorem Rb {xss:List (List Int)} {i:Nat} (h:i<xss.length):D1 (xss.take (i+1))=D1 (xss.take i)+xss[i].length:=by
  unfold D1;rw [List.take_add_one,gEg h];simp only [Option.toList,List.map_append,List.map_cons,List.map_nil,List.sum_append,List.sum_cons,List.sum_nil,Nat.add_zero]
theorem Zs {b:Nat}:∀ {xss:List (List Int)},Hu b xss->D1 xss<=xss.length*b
  | [],_=>by simp [D1]
  | x :: r,h=>by
    have h1:=h x (by simp);have h2:=Zs (xss:=r) fun y hy=>h y (by simp [hy])
    simp only [D1,List.map_cons,List.sum_cons,List.length_cons,Nat.succ_mul] at h2 ⊢;omega
theorem Afj {b:Nat} {xss:List (List Int)} (h:Hu b xss) (i:Nat):D1 (xss.take i)<=xss.length*b:=by
  refine Nat.le_trans (Zs fun x hx=>h x (List.mem_of_mem_take hx)) (Nat.mul_le_mul_right _ ?_);rw [List.length_take]; omega
theorem Afo (xss:List (List Int)) (hn:xss.length<=1048576) (hb:Hu 1048576 xss):Fd xss xss=some true:=by
  unfold Fd
  have h:A1 (fun s_:Nat=>Dk xss xss s_) 4611686018427387904 0=some (.next ()):=by
    refine Bf xss.length (fun i=>i) (by omega) _ rfl (fun i hi=>?_) ?_
    · have hx:=gEg hi;have:=hb _ (List.getElem_mem hi)
      try dsimp only
      unfold Dk;rw [Bo (by omega),cond_true,hx,obs,obs,Agv _ (by omega),obs,Bool.not_true,cond_false,An (by omega)]
    · try dsimp only
      unfold Dk;rw [Bm (by omega),cond_false]
  rw [h,bne_self_eq_false,cond_false]; rfl
theorem Aas (xss:List (List Int)) {v:Int} (hv:0<=v∧v<=576460752303423488) (hn:xss.length<=1048576) (hb:Hu 1048576 xss) :
    ∃ yss,∃ u:Int,v<=u∧u<=v+1099511627776∧Dx xss v=some (yss,u)∧yss.length=xss.length∧Dy yss v=some u:=by
  have hm:xss.length*1048576<=1048576*1048576:=Nat.mul_le_mul_right _ hn;have ht:=fun i=>Afj hb i
  have htt:D1 xss<=xss.length*1048576:=Zs hb;refine ⟨marked v xss,v+D1 xss,by omega,by omega,?_,Gf _ _,?_⟩
  · unfold Dx
    have h:A1 (fun s_:Int×Nat×List (List Int)=>Cr s_.1 s_.2.1 s_.2.2) 4611686018427387904 (v,0,xss)=some (v+D1 xss,marked v xss):=by
      refine Bf xss.length (fun i=>(v+D1 (xss.take i),i,(marked v xss).take i++xss.drop i)) (by omega) _ (by simp [D1]) (fun i hi=>?_) ?_
      · have hl:((marked v xss).take i).length=i:=by rw [List.length_take,Gf]; omega
        have h1:=hb _ (List.getElem_mem hi);have h2:=ht i;have hg:=N3 v xss i hi
        try dsimp only
        unfold Cr;rw [Bo (by rw [List.length_append,hl,List.length_drop]; omega),cond_true,G3 hi hl,obs,Ab0 _ (by omega) (by omega),obs,An (by simp [mkL]),An (by omega),G8 hi hl,Rb hi,List.take_add_one,hg];simp [Int.add_assoc]
      · try dsimp only
        unfold Cr;have hl:((marked v xss).take xss.length).length=xss.length:=by rw [List.length_take,Gf]; omega
        rw [Bm (by rw [List.length_append,hl]; simp),cond_false];simp [List.take_of_length_le,Gf]
    rw [h]; rfl
  · unfold Dy
    have h:A1 (fun s_:Int×Nat=>Cs (marked v xss) s_.1 s_.2) 4611686018427387904 (v,0)=some (.next (v+D1 xss)):=by
      refine Bf xss.length (fun i=>(v+D1 (xss.take i),i)) (by omega) _ (by simp [D1]) (fun i hi=>?_) ?_
      · have h1:=hb _ (List.getElem_mem hi);have h2:=ht i
        try dsimp only
        unfold Cs;rw [Bo (by rw [Gf]; omega),cond_true,N3 v xss i hi,obs,Z6 _ (by omega) (by omega),obs,Bm (by omega),cond_false,An (by omega),Rb hi];simp [Int.add_assoc]
      · try dsimp only
        unfold Cs;rw [Bm (by rw [Gf]; omega),cond_false,List.take_length]
    rw [h]; rfl
/-- What is left of a count when the rows are taken off. -/
def szW (v:Int) (xss:List (List Int)):Int:=if v<xss.length+D1 xss then -1 else v - (xss.length+D1 xss)
theorem Amf {v:Int} {xss:List (List Int)} (hv:v<=1048576) (h:¬ szW v xss<0):xss.length+D1 xss<=1048576∧Hu 1048576 xss∧szW v xss=v - (xss.length+D1 xss):=by
  unfold szW at h ⊢;split at h
  · omega
  rename_i h1;have h2:xss.length+D1 xss<=1048576:=by omega
  refine ⟨h2,fun x hx=>?_,if_neg h1⟩
  have:∀ {l:List (List Int)},x∈l->x.length<=D1 l:=by
    intro l
    induction l with
    | nil=>intro h; cases h
    | cons y r ih =>
      intro h;simp only [D1,List.map_cons,List.sum_cons] at ih ⊢;rcases List.mem_cons.1 h with rfl | h
      · omega
      · have:=ih h; omega
  have:=this hx;omega
theorem Af4 (xss:List (List Int)) {v:Int} (hv:0<=v∧v<=1048576) (hn:xss.length<=9223372036854775807) (hb:Hu 9223372036854775807 xss):E7 xss v=some (szW v xss):=by
  unfold E7;rw [Cj (by omega) (by omega)];by_cases h0:v<xss.length
  · rw [Bo (by omega),szW,if_pos (by omega)]; rfl
  rw [Bm (by omega),cond_false]
  have h:A1 (fun s_:Int×Nat=>Di xss s_.1 s_.2) 4611686018427387904 (v - xss.length,0)=some (if v<xss.length+D1 xss then .out (-1) else .next (v - (xss.length+D1 xss))):=by
    have hm:∀ i,D1 (xss.take i)<=D1 xss:=fun i=>by
      have:D1 xss=D1 (xss.take i)+D1 (xss.drop i):=by
        conv=>lhs; rw [← List.take_append_drop i xss]
        rw [D1,List.map_append,List.sum_append]; rfl
      omega
    refine I3 xss.length (fun i s=>s=(v - xss.length - D1 (xss.take i),i)∧(xss.length:Int)+D1 (xss.take i)<=v) (by omega) _ ⟨by simp [D1],by simp [D1]; omega⟩ ?_ ?_
    · rintro i s hi ⟨rfl,h1⟩;have hx:=gEg hi;have hr:=hb _ (List.getElem_mem hi);have hs:=Rb hi;have hm1:=hm (i+1)
      try dsimp only
      unfold Di;rw [Bo (by omega),cond_true,hx,obs,Ahx _ (by omega) hr,obs,szV];by_cases h2:v - xss.length - D1 (xss.take i)<xss[i].length
      · refine .inr ?_;rw [if_pos h2,if_pos (by omega)]; rfl
      · refine .inl ⟨(v - xss.length - D1 (xss.take (i+1)),i+1),?_,rfl,by omega⟩;rw [if_neg h2,Bm (by omega),cond_false,An (by omega),hs,show v - ↑xss.length - ↑(D1 (List.take i xss)) - ↑xss[i].length=v - ↑xss.length - ↑(D1 (List.take i xss)+xss[i].length) by omega]
    · rintro s ⟨rfl,h1⟩;rw [List.take_length] at h1 ⊢
      try dsimp only
      unfold Di;rw [Bm (by omega),cond_false,if_neg (by omega)];simp [Int.sub_sub]
  rw [h,szW];split <;> rfl
theorem Age (xss:List (List Int)) (hn:xss.length<=1048576) (hb:Hu 1048576 xss):E4 xss=some xss:=by
  unfold E4;rw [An (by omega)]
  have h:A1 (fun s_:Nat×List (List Int)=>Dl xss s_.1 s_.2) 4611686018427387904 (0,List.replicate xss.length ([]:List Int))=some xss:=by
    refine Bf xss.length (fun i=>(i,xss.take i++List.replicate (xss.length - i) [])) (by omega) xss (by simp) (fun i hi=>?_) ?_
    · have hx:=gEg hi;have hr:=hb _ (List.getElem_mem hi)
      try dsimp only
      unfold Dl;rw [Bo (by omega),cond_true,hx,obs,Ahp _ (by omega),obs,Xc hi,obs,An (by omega),X4 hx]
    · try dsimp only
      unfold Dl;rw [Bm (by omega),cond_false];simp
  rw [h]; rfl
theorem Aki {R:Nat->Prop} {w:World} {t:Ty} {A:Option Addr} {c:Nat} {xss:List (List t.D)} {l:List Addr} (h:Sl R w (.slice t) A c xss l):∀ x∈xss,x.length<=9223372036854775807:=by
  obtain ⟨_,_,f,_,h4⟩:=h;intro x hx;obtain ⟨i,hi,rfl⟩:=List.getElem_of_mem hx;obtain ⟨_,_,_,h5⟩:=h4 (by omega);obtain ⟨A',c',_,h6⟩:=h5 i hi;exact (Ahu (xs:=xss[i]) h6).2
end Go.Proofs.YtehocbbnjfmgaaaDoor

namespace Go.Proofs.YtehocbbnjfmgaaaDoor

def inV (p:Int) (x:List Int):Prop:=∀ a,a∈x->0<=a∧a<p
def VecW (p:Int) (w:Nat) (x:List Int):Prop:=x.length=w∧inV p x
def MatW (p:Int) (w:Nat) (m:List (List Int)):Prop:=∀ x,x∈m->VecW p w x
def Cx (p k:Int) (v:List Int):List Int:=v.map fun a=>a*k % p
def B9 (p f:Int) (x v:List Int):List Int:=List.zipWith (fun a b=>(a - f*b) % p) x v
def Ci (m:List (List Int)) (c r:Nat):Nat:=r+(m.drop r).findIdx fun x=>x.getD c 0 !=0
def Gx (m:List (List Int)) (r k:Nat):List (List Int):=(m.set r (m.getD k [])).set k (m.getD r [])
def Ez (p:Int) (c r:Nat) (pr:List Int) (m:List (List Int)):List (List Int):=m.mapIdx fun i x=>if i=r then pr else B9 p (x.getD c 0) x pr
def I1 (p a:Int):Int:=(((List.range p.toNat).find? fun (x:Nat)=>a*(x:Int) % p==1).getD 0:Nat)
def prV (p:Int) (c:Nat) (x:List Int):List Int:=Cx p (I1 p (x.getD c 0)) x
def gjS (p:Int) (c:Nat) (s:Nat×List (List Int)):Nat×List (List Int) :=
  if s.1<s.2.length then
    if Ci s.2 c s.1=s.2.length then s
    else (s.1+1,Ez p c s.1 (prV p c (s.2.getD (Ci s.2 c s.1) [])) (Gx s.2 s.1 (Ci s.2 c s.1)))
  else s
def gjT (p:Int) (m:List (List Int)):Nat->Nat×List (List Int)
  | 0=>(0,m)
  | c+1=>gjS p c (gjT p m c)
def gj (p:Int) (n:Nat) (m:List (List Int)):List (List Int):=(gjT p m n).2.take (gjT p m n).1

theorem X9 {p x:Int} (hp:2<=p):0<=x % p∧x % p<p:=⟨Int.emod_nonneg x (by omega),Int.emod_lt_of_pos x (by omega)⟩
theorem Mi {p k:Int} {w:Nat} {x:List Int} (hp:2<=p) (h:x.length=w):VecW p w (Cx p k x) :=
  ⟨by simp [Cx,h],fun a ha=>by obtain ⟨b,_,rfl⟩:=List.mem_map.1 ha; exact X9 hp⟩
theorem Adc {α β γ:Type} {f:α->β->γ}:∀ {x:List α} {v:List β} {c:γ},c∈List.zipWith f x v->∃ a b,c=f a b
  | [],_,_,h=>by simp at h
  | _ :: _,[],_,h=>by simp at h
  | a :: x,b :: v,c,h=>by
    rw [List.zipWith_cons_cons,List.mem_cons] at h;rcases h with h | h
    · exact ⟨a,b,h⟩
    · exact Adc h
theorem Abn {p f:Int} {w:Nat} {x v:List Int} (hp:2<=p) (hx:x.length=w) (hv:v.length=w):VecW p w (B9 p f x v) :=
  ⟨by simp [B9,hx,hv],fun a ha=>by obtain ⟨b,c,rfl⟩:=Adc ha; exact X9 hp⟩
theorem Qp {p:Int} {x v:List Int} (hx:inV p x) (hl:x.length<=v.length):B9 p 0 x v=x:=by
  apply List.ext_getElem
  · simp [B9]; omega
  · intro i h1 h2;have:=hx x[i] (List.getElem_mem h2);simp only [B9,List.getElem_zipWith,Int.zero_mul,Int.sub_zero];exact Int.emod_eq_of_lt this.1 this.2
theorem Bg {α:Type} {m:List α} {i:Nat} {d x:α} (h:m[i]? =some x):m.getD i d=x:=by rw [gDg,h]; rfl
theorem Ho {α:Type} {m:List α} {i:Nat} (h:i<m.length):∃ x,m[i]? =some x:=⟨_,gEg h⟩
theorem Mc {m:List (List Int)} {c r:Nat} (h:r<=m.length):Ci m c r<=m.length:=by
  have:=List.findIdx_le_length (xs:=m.drop r) (p:=fun x=>x.getD c 0 !=0);rw [List.length_drop] at this;unfold Ci; omega
theorem Amh (m:List (List Int)) (c r:Nat):r<=Ci m c r:=by unfold Ci; omega
theorem Tg {m:List (List Int)} {c r i:Nat} (h1:r<=i) (h2:i<Ci m c r) (hr:r<=m.length):(m.getD i []).getD c 0=0:=by
  have hl:=Mc (c:=c) hr;have h3:i - r<(m.drop r).findIdx fun x=>x.getD c 0 !=0:=by unfold Ci at h2; omega
  have h4:i - r<(m.drop r).length:=by rw [List.length_drop]; omega
  have h5:=List.not_of_lt_findIdx h3;rw [List.getElem_drop] at h5
  have e:m[r+(i - r)]'(by rw [List.length_drop] at h4; omega)=m.getD i []:=by
    rw [gDg,gEg (by omega)];simp only [show r+(i - r)=i by omega,Option.getD_some]
  rw [e] at h5
  simpa using h5
theorem U1 {m:List (List Int)} {c r:Nat} (h:Ci m c r≠m.length) (hr:r<=m.length):(m.getD (Ci m c r) []).getD c 0≠0:=by
  have hl:=Mc (c:=c) hr;have h4:(m.drop r).findIdx (fun x=>x.getD c 0 !=0)<(m.drop r).length:=by rw [List.length_drop]; unfold Ci at h hl; omega
  have h5:=List.findIdx_getElem (w:=h4);rw [List.getElem_drop] at h5
  have e:m[r+(m.drop r).findIdx (fun x=>x.getD c 0 !=0)]'(by rw [List.length_drop] at h4; omega)=m.getD (Ci m c r) []:=by
    rw [gDg,gEg (by omega)]; rfl
  rw [e] at h5
  simpa using h5
theorem K2 (m:List (List Int)) (r k:Nat):(Gx m r k).length=m.length:=by simp [Gx]
theorem Jl (p:Int) (c r:Nat) (pr:List Int) (m:List (List Int)):(Ez p c r pr m).length=m.length:=by simp [Ez]
theorem Gc {m:List (List Int)} {i:Nat} (h:i<m.length):m.getD i []∈m:=by
  rw [gDg,gEg h]; exact List.getElem_mem h
theorem Su {p:Int} {w:Nat} {m:List (List Int)} {r k:Nat} (h:MatW p w m) (hr:r<m.length) (hk:k<m.length):MatW p w (Gx m r k):=by
  intro x hx;unfold Gx at hx;rcases List.mem_or_eq_of_mem_set hx with hx | rfl
  · rcases List.mem_or_eq_of_mem_set hx with hx | rfl
    · exact h x hx
    · exact h _ (Gc hk)
  · exact h _ (Gc hr)
theorem Aks {p:Int} {w c r:Nat} {m:List (List Int)} {pr:List Int} (hp:2<=p) (h:MatW p w m) (hpr:VecW p w pr):MatW p w (Ez p c r pr m):=by
  intro x hx;unfold Ez at hx;obtain ⟨i,hi,rfl⟩:=List.mem_mapIdx.1 hx;split
  · exact hpr
  · exact Abn hp (h _ (List.getElem_mem hi)).1 hpr.1
theorem Alh {p:Int} {w c:Nat} {s:Nat×List (List Int)} (hp:2<=p) (h:MatW p w s.2) (hr:s.1<=s.2.length):MatW p w (gjS p c s).2∧(gjS p c s).1<=(gjS p c s).2.length∧(gjS p c s).2.length=s.2.length:=by
  unfold gjS;split
  · rename_i h1;split
    · exact ⟨h,hr,rfl⟩
    · rename_i h2;have h3:=Mc (c:=c) hr;have hk:Ci s.2 c s.1<s.2.length:=by omega
      refine ⟨Aks hp (Su h h1 hk) (Mi hp (h _ (Gc hk)).1),?_,?_⟩
      · simp only [Jl,K2]; omega
      · simp only [Jl,K2]
  · exact ⟨h,hr,rfl⟩
theorem K0 {p:Int} {w:Nat} {m:List (List Int)} (hp:2<=p) (h:MatW p w m):∀ c,MatW p w (gjT p m c).2∧(gjT p m c).1<=(gjT p m c).2.length∧(gjT p m c).2.length=m.length
  | 0=>⟨h,Nat.zero_le _,rfl⟩
  | c+1=>by
    obtain ⟨h1,h2,h3⟩:=K0 hp h c;obtain ⟨k1,k2,k3⟩:=Alh (c:=c) hp h1 h2;exact ⟨k1,k2,k3.trans h3⟩
theorem Vu {p:Int} {m:List (List Int)} {c:Nat} (h:¬ (gjT p m c).1<(gjT p m c).2.length):∀ d,c<=d->gjT p m d=gjT p m c
  | 0, h0 => by obtain rfl : c = 0 := by omega
                rfl
  | d+1,h0=>by
    by_cases e:c=d+1
    · rw [e]
    · have ih:=Vu h d (by omega);show gjS p d (gjT p m d)=_;rw [ih];unfold gjS;rw [if_neg h]
theorem Agl {p:Int} {n w:Nat} {m:List (List Int)} (hp:2<=p) (h:MatW p w m):(gj p n m).length=(gjT p m n).1:=by
  obtain ⟨_,h2,_⟩:=K0 hp h n;unfold gj;rw [List.length_take]; omega
theorem Alk {p:Int} {n w:Nat} {m:List (List Int)} (hp:2<=p) (h:MatW p w m):MatW p w (gj p n m):=fun x hx=>(K0 hp h n).1 x (List.mem_of_mem_take hx)
end Go.Proofs.YtehocbbnjfmgaaaDoor

namespace Go.Proofs.YtehocbbnjfmgaaaDoor
def Alj (p a:Int):Bool:=match Gp p a with
  | some v=>(v==I1 p a)&&((Fi p a==some v)&&((decide (0<=v)&&decide (v<p))&&(a*v % p==1)))
  | none=>false
def ivB:Bool:=(List.range 98).all fun p=> !(isF p)||(List.range p).all fun a=>a==0||Alj (p:Int) (a:Int)
theorem Ahs:ivB=true:=by kernel_rfl
theorem Acy {p a:Int} (hp:isF p=true) (ha:1<=a∧a<p):Gp p a=some (I1 p a)∧Fi p a=some (I1 p a)∧0<=I1 p a∧I1 p a<p∧a*I1 p a % p=1:=by
  have hb:=K1 hp;obtain ⟨q,rfl⟩:=Int.eq_ofNat_of_zero_le (show 0<=p by omega);obtain ⟨b,rfl⟩:=Int.eq_ofNat_of_zero_le (show 0<=a by omega);have h1:=List.all_eq_true.1 Ahs q (List.mem_range.2 (by omega));rw [hp,Bool.not_true,Bool.false_or] at h1;have h2:=List.all_eq_true.1 h1 b (List.mem_range.2 (by omega))
  have h3:Alj (q:Int) (b:Int)=true:=by
    rcases (Bool.or_eq_true _ _).mp h2 with h | h
    · have:b=0:=by simpa using h
      omega
    · exact h
  unfold Alj at h3;split at h3
  · rename_i v hv;simp only [Bool.and_eq_true,beq_iff_eq,decide_eq_true_eq] at h3;obtain ⟨h4,h5,⟨h6,h7⟩,h8⟩:=h3;subst h4;exact ⟨hv,h5,h6,h7,h8⟩
  · cases h3
end Go.Proofs.YtehocbbnjfmgaaaDoor

namespace Go.Proofs.YtehocbbnjfmgaaaDoor

theorem O2 (b:Bool):M9 (some (if b then Ctl.next () else Ctl.out false)) (fun _:Unit=>some true)=some b:=by cases b <;> rfl
theorem Zt (x lo hi:Int):D5 x lo hi=some (inR x lo hi):=by
  unfold D5 inR;by_cases h:lo<=x <;> simp [h]
theorem Abk (x lo hi:Int):Ev x lo hi=some (inR x lo hi):=by
  unfold Ev inR;by_cases h:lo<=x <;> simp [h]
theorem Akp (xs:List Int) (lo hi:Int) (hx:xs.length<=1099511627776):Gn xs lo hi=some (xs.all fun x=>inR x lo hi):=by
  unfold Gn;rw [Mr xs (fun x=>inR x lo hi) (.next ()) (.out false) (by omega) (fun i x h=>?_) ?_,O2]
  · unfold Gd;rw [Bm (by omega),cond_false]
  · have:=At h;unfold Gd;rw [Bo (by omega),cond_true,h,obs,Zt,obs,An (by omega)];cases inR x lo hi <;> rfl
theorem Akj {p:Int} (h:inR p 2 97=false):isF p=false:=by rcases Af5.1 h with h | h <;> simp [isF] <;> omega
theorem Ag1 (p:Int):F4 p=some (isF p):=by
  unfold F4;rw [Zt,obs];cases hr:inR p 2 97
  · rw [Akj hr]; rfl
  rw [Bool.not_true,cond_false];obtain ⟨h1,h2⟩:=Vq.1 hr;obtain ⟨n,rfl⟩:=Int.eq_ofNat_of_zero_le (show 0<=p by omega)
  have h:A1 (fun s_:Nat=>Dr n s_) 4611686018427387904 2=some (if isF n then .next () else .out false):=by
    refine I3 8 (fun i s=>s=i+2∧Xq n s=true) (by omega) _ ⟨rfl,by simp [Xq,List.range_succ]⟩ ?_ ?_
    · rintro i s hi ⟨hs,hd⟩;unfold Dr;have hm:((s:Int)*(s:Int))=((s*s:Nat):Int):=by simp
      have hss:s*s<=9*9:=Nat.mul_le_mul (by omega) (by omega);rw [hm,Cj (by omega) (by omega)];by_cases hle:s*s<=n
      · rw [Bo (by omega),cond_true,An (by omega),show Int.tmod (n:Int) (s:Int)=((n % s:Nat):Int) from by rw [Int.tmod_eq_emod_of_nonneg (by omega)]; rfl];by_cases h0:n % s=0
        · refine .inr ?_;rw [h0,Ake n (by omega) s (by omega) (by omega) hle h0]; rfl
        · refine .inl ⟨s+1,?_,by omega,Adh hd h0⟩;rw [show (((n % s:Nat):Int)==0)=false from by rw [beq_eq_false_iff_ne]; omega,cond_false,An (by omega)]
      · refine .inr ?_;rw [Bm (by omega),cond_false,Xo n (by omega) (by omega) s (by omega) hd (by omega)]; rfl
    · rintro s ⟨hs,hd⟩;obtain rfl:s=10:=by omega
      unfold Dr;rw [show wI (((10:Nat):Int)*((10:Nat):Int))=100 from Cj (by omega) (by omega),Bm (by omega),cond_false,Xo n (by omega) (by omega) 10 (by omega) hd (by omega)]; rfl
  rw [h,O2]
theorem Aau (p x:Int):D2 p x=some (inR x 0 (p - 1)):=by
  unfold D2 inR;by_cases h:0<=x
  · simp [h,show (x<p↔x<=p - 1) by omega]
  · simp [h]
theorem Alu (p:Int) (xs:List Int) (hp:2<=p∧p<=97) (hx:xs.length<=1099511627776):He p xs=some (xs.all fun x=>inR x 0 (p - 1)):=by
  unfold He;rw [Cj (by omega) (by omega),Akp _ _ _ hx]; rfl
theorem Aco (p:Int) (xs:List Int) (n:Int) (hx:xs.length<=1099511627776):Ep p xs n=some (((xs.length:Nat):Int)==n&&xs.all fun x=>inR x 0 (p - 1)):=by
  unfold Ep;cases hn:((xs.length:Nat):Int)==n
  · rw [show (((xs.length:Nat):Int) !=n)=true by simp only [bne,hn,Bool.not_false]]; rfl
  rw [show (((xs.length:Nat):Int) !=n)=false by simp only [bne,hn,Bool.not_true],cond_false];rw [Mr xs (fun x=>inR x 0 (p - 1)) (.next ()) (.out false) (by omega) (fun i x h=>?_) ?_,O2,Bool.true_and]
  · unfold Eb;rw [Bm (by omega),cond_false]
  · have:=At h;unfold Eb;rw [Bo (by omega),cond_true,h,obs,Aau,obs,An (by omega)];cases inR x 0 (p - 1) <;> rfl
theorem Amt {p x:Int} (hp:2<=p∧p<=97):I4 p x=some (x % p):=by
  unfold I4;rw [An (by omega)]
  have e1:x.tmod p=if 0<=x∨x % p=0 then x % p else x % p - p:=by
    simp only [Int.tmod_eq_emod,Int.dvd_iff_emod_eq_zero];split <;> simp <;> omega
  have h1:=Int.emod_nonneg x (show p≠0 by omega);have h2:=Int.emod_lt_of_pos x (show 0<p by omega);by_cases h:x.tmod p<0
  · rw [Bo h,cond_true,obs,Cj (by omega) (by omega)];congr 1;split at e1 <;> omega
  · rw [Bm h,cond_false,obs];congr 1;split at e1 <;> omega
theorem Aew (xs:List Int) (h:xs.length<=1000000):Fm xs=some xs:=by
  unfold Fm;rw [An (by omega)]
theorem Ady (xs:List Int) (h:xs.length<=1000000):Fl xs=some xs:=by
  unfold Fl;rw [An (by omega)]
theorem Yv {p x y:Int} (hp:2<=p∧p<=97) (hx:0<=x∧x<p) (hy:0<=y∧y<p):0<=x*y∧x*y<=10000:=by
  refine ⟨Int.mul_nonneg hx.1 hy.1,?_⟩;have h1:x*y<=97*y:=Int.mul_le_mul_of_nonneg_right (by omega) hy.1;omega
theorem Aef {p x y:Int} (hp:2<=p∧p<=97) (hx:0<=x∧x<p) (hy:0<=y∧y<p):Fr p x y=some ((x*y) % p):=by
  have:=Yv hp hx hy;unfold Fr;rw [An (by omega),Cj (by omega) (by omega),Int.tmod_eq_emod_of_nonneg (by omega)]
end Go.Proofs.YtehocbbnjfmgaaaDoor

