/- Lemmas on the program and on partial functions that stand in place of its code (part 6); no condition beyond those that each one states. -/
import Derived.Test.YtmflebjoidoiiaaDoorZ5
namespace Go.Proofs.YtmflebjoidoiiaaDoor
section
open Go.RowKit Go.Deep
set_option maxRecDepth 4000
def Mw:AC :=
 (.seq (rg [xo 14 (qb .lss (tm 13) (tm 12))])
 (.seq (.cond (tm 14)
  .skip
  (.exit 0))
 (.seq (.block 1 (.seq (rg [xo 15 (qm (tm 13)),xo 5 (qm (tm 15))])
 (.seq (.region [xo 16 (qm (tm 0)),xo 17 (qm (tm 5)),xo 18 (qx 1 (tm 16) (tm 17)),xo 19 (ql (tm 18)),xo 20 (qm (tm 1)),xo 21 (qm (tm 5)),xo 22 (qx 1 (tm 20) (tm 21)),xo 23 (ql (tm 22)),xo 24 (qb .neq (tm 19) (tm 23))] true [])
 (.cond (tm 24)
  (.seq (rg [xo 4 (qm (cb false))])
  .ret)
  .skip))))
 (rg [xo 25 (qb .add (tm 13) (ci 1)),xo 13 (qm (tm 25))]))))
def Rw:AC :=
 (.seq (rg [xo 4 (qm (cb false))])
 (.seq (.seq (rg [xo 6 (qm (tm 0)),xo 7 (.i (.len (tm 6))),xo 8 (qm (tm 1)),xo 9 (.i (.len (tm 8))),xo 10 (qb .neq (tm 7) (tm 9))])
 (.cond (tm 10)
  (.seq (rg [xo 4 (qm (cb false))])
  .ret)
  .skip))
 (.seq (.seq (rg [xo 11 (qm (tm 0)),xo 12 (.i (.len (tm 11))),xo 13 (qm (ci 0))])
 (.block 0 (.loop Mw)))
 (.seq (rg [xo 4 (qm (cb true))])
 .ret))))
def Aby:List Res:=[.tmp 4]
theorem Aco:Aq Tryd.prog Tryd.f50=some (Rw,Aby):=by kernel_rfl
theorem Y5:Ba Tryd.prog 50=true:=by kernel_rfl
def Fl (a0:List Int) (a1:List Int) (l8_m13:Nat):Option (Ctl Nat (Ctl Unit Bool)) :=
 cond (decide (((l8_m13:Nat):Int)<((a0.length:Nat):Int)))
 (Option.bind (a0[l8_m13]?) fun x15 =>
 Option.bind (a1[l8_m13]?) fun x16 =>
 cond (x15 !=x16)
  (some (Ctl.out (Ctl.out false)))
  (og (l8_m13+1<4611686018427387904) <|
  some (Ctl.next (l8_m13+1))))
 (some (Ctl.out (Ctl.next ())))
def G9 (a0:List Int) (a1:List Int):Option Bool :=
 cond (((a0.length:Nat):Int) !=((a1.length:Nat):Int))
 (some false)
 (J4 (A3 (fun s_:Nat=>Fl a0 a1 s_) 4611686018427387904 0) fun _ =>
 some true)
def Zk (r:Bool):RV:=⟨false,[(false,[.sc (.bool r)])]⟩
theorem Yr {a0:List Int} {a1:List Int} {r:Bool} (h:G9 a0 a1=some r):A1 Tryd.prog Tab 50 [.tree .int a0,.tree .int a1] (Zk r):=by
 refine Av (by kernel_rfl) Tryd.func50 Aco (n:=26) (by kernel_rfl) (by simp) (tl:=[(0,.tree .int a0),(1,.tree .int a1)]) rfl ?_;unfold Rw;unfold G9 at h;refine Al ?_;refine Ab ?_;refine Al ?_;rcases Ad h with ⟨q4,h⟩ | ⟨q4,h⟩
 ·refine Ag q4 ?_;refine Al ?_;refine Ah (tr_ ?_);obtain rfl:=zj h;exact Bm [.bool false] (Aw rfl zl Ay)
 refine Af q4 ?_;refine Aj (tn_ ?_);refine wr_ ?_;refine Db h (fun (_:Unit) S_=>S_=⟨Am [],Ak (Ao []),2⟩) ?_ ?_
 ·intro v_ h hk6;refine Al ?_;refine Ai ?_;refine A4 h (fun (l8_m13:Nat) S_=>S_=⟨Am [(0,.tree .int a0),(1,.tree .int a1),(12,ai ((a0.length:Nat):Int)),(13,ai ((l8_m13:Nat):Int))],Ak (Ao []),2⟩) ⟨_,Ac [],rfl⟩ ?_;rintro n_ l8_m13 _ c_ rfl h hn8
  (try dsimp only at h);unfold Fl at h;unfold Mw;refine Al ?_;refine Ab ?_;rcases Ad h with ⟨q11,h⟩ | ⟨q11,h⟩
  ·have q11_:=of_decide_eq_true q11;refine Ag q11 ?_;refine Aj (tn_ ?_);refine wr_ ?_;refine Ab ?_;refine Ai ?_;refine Al ?_;refine Ab ?_;obtain ⟨x15,e15,h⟩:=Ae h;obtain ⟨x16,e16,h⟩:=Ae h;refine Az 14 ?_;refine dz0 (.tree .int a0) ?_;refine dz0 (ai ((l8_m13:Nat):Int)) ?_;refine ds0 (.telt .int x15 0) (zi (t:=.int) (xs:=a0) (k:=.i64) (m:=((l8_m13:Nat):Int)) (Bi _) e15) ?_;refine dz0 (ai x15) ?_;refine dz0 (.tree .int a1) ?_;refine dz0 (ai ((l8_m13:Nat):Int)) ?_;refine ds0 (.telt .int x16 0) (zi (t:=.int) (xs:=a1) (k:=.i64) (m:=((l8_m13:Nat):Int)) (Bi _) e16) ?_;refine dz0 (ai x16) ?_;refine dz0 (.bool (x15 !=x16)) ?_;refine Gg (Bg (by kernel_rfl)) (tn_ ?_);refine wr_ ?_;rcases Ad h with ⟨q17,h⟩ | ⟨q17,h⟩
   ·refine Ag q17 ?_;refine Al ?_;refine Ah (br_ (tr_ (tr_ (br_ (tr_ ?_)))));obtain rfl:=zj h;have h:=hn8
    (try dsimp only at h);obtain rfl:=zj h;have h:=hk6
    (try dsimp only at h);obtain rfl:=zj h;exact Bm [.bool false] (Aw rfl zl Ay)
   refine Af q17 ?_;refine Aj (bn_ (tn_ ?_));refine wr_ ?_;obtain ⟨g19,h⟩:=As h;refine Aa 16 ?_;refine rs0 (ai ((l8_m13+1:Nat):Int)) (za g19) ?_;refine rsB 1 ?_;refine Ap (tn_ ?_);obtain rfl:=zj h;exact ⟨l8_m13+1,_,Ac [],rfl,hn8⟩
  have q11_:=of_decide_eq_false q11;refine Af q11 ?_;refine A0 (te_ (te_ (be_ (tn_ ?_))));obtain rfl:=zj h;have h:=hn8
  (try dsimp only at h);obtain rfl:=zj h;exact ⟨(),_,rfl,Ac [],rfl⟩
 rintro _ _ rfl h
 (try dsimp only at h);refine Al ?_;refine Ah ?_;obtain rfl:=zj h;exact Bm [.bool true] (Aw rfl zl Ay)
def Nh:AC :=
 (.seq (rg [xo 14 (qb .lss (tm 13) (tm 12))])
 (.seq (.cond (tm 14)
  .skip
  (.exit 0))
 (.seq (.block 1 (.seq (rg [xo 15 (qm (tm 13)),xo 5 (qm (tm 15))])
 (.seq (.region [xo 16 (qm (tm 0)),xo 17 (qm (tm 5)),xo 18 (qx 1 (tm 16) (tm 17)),xo 19 (ql (tm 18)),xo 20 (qm (tm 1)),xo 21 (qm (tm 5)),xo 22 (qx 1 (tm 20) (tm 21)),xo 23 (ql (tm 22)),xo 24 (qc 50 [tm 19,tm 23] [[some .int],[some .int]]),xo 25 (.i (.not (tm 24)))] true [])
 (.cond (tm 25)
  (.seq (rg [xo 4 (qm (cb false))])
  .ret)
  .skip))))
 (rg [xo 26 (qb .add (tm 13) (ci 1)),xo 13 (qm (tm 26))]))))
def R4:AC :=
 (.seq (rg [xo 4 (qm (cb false))])
 (.seq (.seq (rg [xo 6 (qm (tm 0)),xo 7 (.i (.len (tm 6))),xo 8 (qm (tm 1)),xo 9 (.i (.len (tm 8))),xo 10 (qb .neq (tm 7) (tm 9))])
 (.cond (tm 10)
  (.seq (rg [xo 4 (qm (cb false))])
  .ret)
  .skip))
 (.seq (.seq (rg [xo 11 (qm (tm 0)),xo 12 (.i (.len (tm 11))),xo 13 (qm (ci 0))])
 (.block 0 (.loop Nh)))
 (.seq (rg [xo 4 (qm (cb true))])
 .ret))))
def Acz:List Res:=[.tmp 4]
theorem Abv:Aq Tryd.prog Tryd.f34=some (R4,Acz):=by kernel_rfl
theorem Yt:Ba Tryd.prog 34=true:=by kernel_rfl
def E8 (a0:List (List Int)) (a1:List (List Int)) (l8_m13:Nat):Option (Ctl Nat (Ctl Unit Bool)) :=
 cond (decide (((l8_m13:Nat):Int)<((a0.length:Nat):Int)))
 (Option.bind (a0[l8_m13]?) fun x15 =>
 Option.bind (a1[l8_m13]?) fun x16 =>
 Option.bind (G9 x15 x16) fun y17 =>
 cond (!y17)
  (some (Ctl.out (Ctl.out false)))
  (og (l8_m13+1<4611686018427387904) <|
  some (Ctl.next (l8_m13+1))))
 (some (Ctl.out (Ctl.next ())))
def Hd (a0:List (List Int)) (a1:List (List Int)):Option Bool :=
 cond (((a0.length:Nat):Int) !=((a1.length:Nat):Int))
 (some false)
 (J4 (A3 (fun s_:Nat=>E8 a0 a1 s_) 4611686018427387904 0) fun _ =>
 some true)
def Aar (r:Bool):RV:=⟨false,[(false,[.sc (.bool r)])]⟩
theorem Y0 {a0:List (List Int)} {a1:List (List Int)} {r:Bool} (h:Hd a0 a1=some r):A1 Tryd.prog Tab 34 [.tree (.slice .int) a0,.tree (.slice .int) a1] (Aar r):=by
 refine Av (by kernel_rfl) Tryd.func34 Abv (n:=27) (by kernel_rfl) (by simp) (tl:=[(0,.tree (.slice .int) a0),(1,.tree (.slice .int) a1)]) rfl ?_;unfold R4;unfold Hd at h;refine Al ?_;refine Ab ?_;refine Al ?_;rcases Ad h with ⟨q4,h⟩ | ⟨q4,h⟩
 ·refine Ag q4 ?_;refine Al ?_;refine Ah (tr_ ?_);obtain rfl:=zj h;exact Bm [.bool false] (Aw rfl zl Ay)
 refine Af q4 ?_;refine Aj (tn_ ?_);refine wr_ ?_;refine Db h (fun (_:Unit) S_=>S_=⟨Am [],Ak (Ao []),2⟩) ?_ ?_
 ·intro v_ h hk6;refine Al ?_;refine Ai ?_;refine A4 h (fun (l8_m13:Nat) S_=>S_=⟨Am [(0,.tree (.slice .int) a0),(1,.tree (.slice .int) a1),(12,ai ((a0.length:Nat):Int)),(13,ai ((l8_m13:Nat):Int))],Ak (Ao []),2⟩) ⟨_,Ac [],rfl⟩ ?_;rintro n_ l8_m13 _ c_ rfl h hn8
  (try dsimp only at h);unfold E8 at h;unfold Nh;refine Al ?_;refine Ab ?_;rcases Ad h with ⟨q11,h⟩ | ⟨q11,h⟩
  ·have q11_:=of_decide_eq_true q11;refine Ag q11 ?_;refine Aj (tn_ ?_);refine wr_ ?_;refine Ab ?_;refine Ai ?_;refine Al ?_;refine Ab ?_;obtain ⟨x15,e15,h⟩:=Ae h;obtain ⟨x16,e16,h⟩:=Ae h;obtain ⟨y17,h17,h⟩:=Ae h;refine Az 15 ?_;refine dz0 (.tree (.slice .int) a0) ?_;refine dz0 (ai ((l8_m13:Nat):Int)) ?_;refine ds0 (.telt (.slice .int) x15 0) (zi (t:=.slice .int) (xs:=a0) (k:=.i64) (m:=((l8_m13:Nat):Int)) (Bi _) e15) ?_;refine dz0 (.tree .int x15) ?_;refine dz0 (.tree (.slice .int) a1) ?_;refine dz0 (ai ((l8_m13:Nat):Int)) ?_;refine ds0 (.telt (.slice .int) x16 0) (zi (t:=.slice .int) (xs:=a1) (k:=.i64) (m:=((l8_m13:Nat):Int)) (Bi _) e16) ?_;refine dz0 (.tree .int x16) ?_;refine Cp (.bool y17) [] [.tree .int x15,.tree .int x16] _ (caps:=[]) (args0:=[.tree .int x15,.tree .int x16]) trivial (by kernel_rfl) (Yr h17) Y5 ?_;refine dz0 (.bool (!y17)) ?_;refine Gg (Bg (by kernel_rfl)) (tn_ ?_);refine wr_ ?_;rcases Ad h with ⟨q18,h⟩ | ⟨q18,h⟩
   ·refine Ag q18 ?_;refine Al ?_;refine Ah (br_ (tr_ (tr_ (br_ (tr_ ?_)))));obtain rfl:=zj h;have h:=hn8
    (try dsimp only at h);obtain rfl:=zj h;have h:=hk6
    (try dsimp only at h);obtain rfl:=zj h;exact Bm [.bool false] (Aw rfl zl Ay)
   refine Af q18 ?_;refine Aj (bn_ (tn_ ?_));refine wr_ ?_;obtain ⟨g20,h⟩:=As h;refine Aa 17 ?_;refine rs0 (ai ((l8_m13+1:Nat):Int)) (za g20) ?_;refine rsB 1 ?_;refine Ap (tn_ ?_);obtain rfl:=zj h;exact ⟨l8_m13+1,_,Ac [],rfl,hn8⟩
  have q11_:=of_decide_eq_false q11;refine Af q11 ?_;refine A0 (te_ (te_ (be_ (tn_ ?_))));obtain rfl:=zj h;have h:=hn8
  (try dsimp only at h);obtain rfl:=zj h;exact ⟨(),_,rfl,Ac [],rfl⟩
 rintro _ _ rfl h
 (try dsimp only at h);refine Al ?_;refine Ah ?_;obtain rfl:=zj h;exact Bm [.bool true] (Aw rfl zl Ay)
def Kw:AC :=
 (.seq (rg [xo 13 (qb .lss (tm 12) (tm 11))])
 (.seq (.cond (tm 13)
  .skip
  (.exit 0))
 (.seq (.block 1 (.seq (rg [xo 14 (qm (tm 12)),xo 15 (qx 1 (tm 10) (tm 12)),xo 16 (ql (tm 15)),xo 8 (qm (tm 14)),xo 9 (qm (tm 16))])
 (rg [xo 17 (qm (tm 1)),xo 18 (qm (tm 8)),xo 19 (qm (tm 0)),xo 20 (qm (tm 1)),xo 21 (qm (tm 8)),xo 22 (qx 1 (tm 20) (tm 21)),xo 23 (ql (tm 22)),xo 24 (qm (tm 2)),xo 25 (qm (tm 9)),xo 26 (qb .mul (tm 24) (tm 25)),xo 27 (qb .add (tm 23) (tm 26)),xo 28 (qc 66 [tm 19,tm 27] [[],[]]),xo 29 (qx 1 (tm 17) (tm 18)),xn (qs (tm 29) (tm 28))])))
 (rg [xo 30 (qb .add (tm 12) (ci 1)),xo 12 (qm (tm 30))]))))
def Ov:AC :=
 (.seq (rg [xo 10 (qm (tm 3)),xo 11 (.i (.len (tm 10))),xo 12 (qm (ci 0))])
 (.block 0 (.loop Kw)))
def W6:List Res:=[]
theorem W4:Aq Tryd.prog Tryd.f68=some (Ov,W6):=by kernel_rfl
theorem Vs:Ba Tryd.prog 68=true:=by kernel_rfl
def Fr (a3:List Int) (a0:Int) (a2:Int) (l3_m12:Nat) (l3_m1:List Int):Option (Ctl (Nat×List Int) (List Int)) :=
 cond (decide (((l3_m12:Nat):Int)<((a3.length:Nat):Int)))
 (Option.bind (a3[l3_m12]?) fun x9 =>
 Option.bind (l3_m1[l3_m12]?) fun x10 =>
 Option.bind (H3 a0 (wI (x10+wI (a2*x9)))) fun y11 =>
 og (l3_m12+1<4611686018427387904) <|
 some (Ctl.next (l3_m12+1,l3_m1.set l3_m12 y11)))
 (some (Ctl.out l3_m1))
def F2 (a0:Int) (a1:List Int) (a2:Int) (a3:List Int):Option (List Int) :=
 A3 (fun s_:Nat×List Int=>Fr a3 a0 a2 s_.1 s_.2) 4611686018427387904 (0,a1)
theorem Vp {a0:Int} {a1:List Int} {a2:Int} {a3:List Int} {r:List Int} (h:F2 a0 a1 a2 a3=some r) {n_a1:Nat} (hn_a1:n_a1=a1.length):Yp Tryd.prog Tab 68 [ai a0,.own (oi 0 0) .int 0 n_a1,ai a2,.tree .int a3] [(oi 0 0,.arr 3 .int a1)] (.tup []) [(oi 0 0,.arr 3 .int r)]:=by
 refine Akb (by kernel_rfl) Tryd.func68 W4 (n:=31) (by kernel_rfl) (by simp) (tl:=[(0,ai a0),(1,.own (oi 0 0) .int 0 n_a1),(2,ai a2),(3,.tree .int a3)]) rfl (by kernel_rfl) ⟨trivial,trivial⟩ ⟨trivial,trivial⟩ ?_;unfold Ov;unfold F2 at h;refine Al ?_;refine Ai ?_;refine A4 h (fun t_ S_=>∃ (l3_m12:Nat),∃ (l3_m1:List Int),t_=(l3_m12,l3_m1)∧S_=⟨Am [(0,ai a0),(1,.own (oi 0 0) .int 0 l3_m1.length),(2,ai a2),(10,.tree .int a3),(11,ai ((a3.length:Nat):Int)),(12,ai ((l3_m12:Nat):Int))],Ak (Ao [(oi 0 0,.arr 3 .int l3_m1)]),2⟩) ⟨_,(Br 1 (.own (oi 0 0) .int 0 n_a1) (.own (oi 0 0) .int 0 a1.length) (by kernel_rfl) (congrArg (fun z_=>((.own (oi 0 0) .int 0 z_):AV)) (hn_a1:n_a1=a1.length))).trans (Ac []),⟨0,a1,rfl,rfl⟩⟩ ?_;rintro n_ _ _ c_ ⟨l3_m12,l3_m1,rfl,rfl⟩ h hn3
 (try dsimp only at h);unfold Fr at h;unfold Kw;refine Al ?_;refine Ab ?_;rcases Ad h with ⟨q6,h⟩ | ⟨q6,h⟩
 ·have q6_:=of_decide_eq_true q6;refine Ag q6 ?_;refine Aj (tn_ ?_);refine wr_ ?_;refine Ab ?_;refine Ai ?_;refine Ab ?_;obtain ⟨x9,e9,h⟩:=Ae h;refine Aa 8 ?_;refine rz0 (ai ((l3_m12:Nat):Int)) ?_;refine rs0 (.telt .int x9 0) (zi (t:=.int) (xs:=a3) (k:=.i64) (m:=((l3_m12:Nat):Int)) (Bi _) e9) ?_;refine rsB 3 ?_;refine Ap (tn_ ?_);refine wr_ ?_;obtain ⟨x10,e10,h⟩:=Ae h;obtain ⟨y11,h11,h⟩:=Ae h;refine Aa 22 ?_;refine rz0 (.own (oi 0 0) .int 0 l3_m1.length) ?_;refine rz0 (ai ((l3_m12:Nat):Int)) ?_;refine rz0 (ai a0) ?_;refine rz0 (.own (oi 0 0) .int 0 l3_m1.length) ?_;refine rz0 (ai ((l3_m12:Nat):Int)) ?_;refine rs0 (.elt (oi 0 0) l3_m12 0) (zo (t:=.int) (o:=oi 0 0) (len:=l3_m1.length) (k:=.i64) (m:=((l3_m12:Nat):Int)) (Bi _) (Bn e10)) ?_;refine rsl (ai x10) (H9 (i:=oi 0 0) (j:=l3_m12) (k:=0) (e:=3) (t:=.int) (xs:=l3_m1) (by kernel_rfl) (by kernel_rfl) e10 (by kernel_rfl)) ?_;refine rz0 (ai a2) ?_;refine rz0 (ai x9) ?_;refine rz0 (ai (wI (a2*x9))) ?_;refine rz0 (ai (wI (x10+wI (a2*x9)))) ?_;refine zc (ai y11) [] [ai a0,ai (wI (x10+wI (a2*x9)))] (Qf h11) ?_;refine rs0 (.elt (oi 0 0) l3_m12 0) (zo (t:=.int) (o:=oi 0 0) (len:=l3_m1.length) (k:=.i64) (m:=((l3_m12:Nat):Int)) (Bi _) (Bn e10)) ?_;refine Tn (oi 0 0) (oi 0 0) (.arr 3 .int (l3_m1.set l3_m12 y11)) (J1 (i:=oi 0 0) (j:=l3_m12) (k:=0) (e:=3) (t:=.int) (xs:=l3_m1) (cs:=[ai y11]) (x1:=y11) (by kernel_rfl) (by kernel_rfl) e10 (by kernel_rfl) (by kernel_rfl)) ?_;refine Ap (bn_ (tn_ ?_));refine wr_ ?_;obtain ⟨g12,h⟩:=As h;refine Aa 24 ?_;refine rs0 (ai ((l3_m12+1:Nat):Int)) (za g12) ?_;refine rsB 1 ?_;refine Ap (tn_ ?_);obtain rfl:=zj h;exact ⟨(l3_m12+1,l3_m1.set l3_m12 y11),_,(Br 1 (.own (oi 0 0) .int 0 l3_m1.length) (.own (oi 0 0) .int 0 ((l3_m1.set l3_m12 y11).length)) (by kernel_rfl) (congrArg (fun z_=>((.own (oi 0 0) .int 0 z_):AV)) (((rfl:l3_m1.length=l3_m1.length).trans List.length_set.symm):l3_m1.length=(l3_m1.set l3_m12 y11).length))).trans (Ac []),⟨l3_m12+1,l3_m1.set l3_m12 y11,rfl,rfl⟩,hn3⟩
 have q6_:=of_decide_eq_false q6;refine Af q6 ?_;refine A0 (te_ (te_ (be_ ?_)));obtain rfl:=zj h;have h:=hn3
 (try dsimp only at h);obtain rfl:=zj h;exact Apz [] (Ac (tl:=[]) (g:=2) [])
def L6:AC :=
 (.seq (rg [xo 17 (qb .lss (tm 16) (tm 15))])
 (.seq (.cond (tm 17)
  .skip
  (.exit 0))
 (.seq (.block 1 (.seq (rg [xo 18 (qm (tm 16)),xo 19 (qx 1 (tm 14) (tm 16)),xo 20 (ql (tm 19)),xo 10 (qm (tm 18)),xo 11 (qm (tm 20))])
 (rg [xo 21 (qm (tm 0)),xo 22 (qm (tm 9)),xo 23 (qm (tm 1)),xo 24 (qm (tm 10)),xo 25 (qx 1 (tm 23) (tm 24)),xo 26 (ql (tm 25)),xo 27 (qm (tm 11)),xo 28 (qc 68 [tm 21,tm 22,tm 26,tm 27] [[],[some .int],[],[some .int]])])))
 (rg [xo 29 (qb .add (tm 16) (ci 1)),xo 16 (qm (tm 29))]))))
def P9:AC :=
 (.seq (rg [xo 8 (qm (.cst .nils))])
 (.seq (rg [xo 12 (qm (tm 3)),xo 13 (qc 47 [tm 12] [[]]),xo 9 (qm (tm 13))])
 (.seq (.seq (rg [xo 14 (qm (tm 2)),xo 15 (.i (.len (tm 14))),xo 16 (qm (ci 0))])
 (.block 0 (.loop L6)))
 (.seq (rg [xo 30 (qm (tm 9)),xo 8 (qm (tm 30))])
 .ret))))
def Aa0:List Res:=[.tmp 8]
theorem Aab:Aq Tryd.prog Tryd.f49=some (P9,Aa0):=by kernel_rfl
theorem Xb:Ba Tryd.prog 49=true:=by kernel_rfl
def Er (a2:List (List Int)) (a1:List Int) (a0:Int) (l6_m16:Nat) (l6_m9:List Int):Option (Ctl (Nat×List Int) (List Int)) :=
 cond (decide (((l6_m16:Nat):Int)<((a2.length:Nat):Int)))
 (Option.bind (a2[l6_m16]?) fun x12 =>
 Option.bind (a1[l6_m16]?) fun x13 =>
 Option.bind (F2 a0 l6_m9 x13 x12) fun y14 =>
 og (y14.length=l6_m9.length) <|
 og (l6_m16+1<4611686018427387904) <|
 some (Ctl.next (l6_m16+1,y14)))
 (some (Ctl.out l6_m9))
def Gk (a0:Int) (a1:List Int) (a2:List (List Int)) (a3:Int):Option (List Int) :=
 Option.bind (De a3) fun y3 =>
Option.bind (A3 (fun s_:Nat×List Int=>Er a2 a1 a0 s_.1 s_.2) 4611686018427387904 (0,y3)) fun l4_m9 =>
some l4_m9
def Xe (r:List Int):RV:=⟨false,[(false,[.new 3 .int r])]⟩
theorem W1 {a0:Int} {a1:List Int} {a2:List (List Int)} {a3:Int} {r:List Int} (h:Gk a0 a1 a2 a3=some r):A1 Tryd.prog Tab 49 [ai a0,.tree .int a1,.tree (.slice .int) a2,ai a3] (Xe r):=by
 refine Av (by kernel_rfl) Tryd.func49 Aab (n:=31) (by kernel_rfl) (by simp) (tl:=[(0,ai a0),(1,.tree .int a1),(2,.tree (.slice .int) a2),(3,ai a3)]) rfl ?_;unfold P9;unfold Gk at h;refine Al ?_;refine Ab ?_;obtain ⟨y3,h3,h⟩:=Ae h;refine Aa 5 ?_;refine rz0 (ai a3) ?_;refine zc (.own (oi 208 3) .int 0 y3.length) [(oi 208 3,some (.arr 3 .int y3))] [ai a3] (Gd h3) ?_;refine rsB 1 ?_;refine Ap (tn_ ?_);refine wr_ ?_;refine At h (fun (l4_m9:List Int) S_=>S_=⟨Am [(9,.own (oi 0 1) .int 0 l4_m9.length)],Ak (Ao [(oi 0 1,.arr 3 .int l4_m9)]),2⟩) ?_ ?_
 ·intro v_ h;refine Al ?_;refine Ai ?_;refine A4 h (fun t_ S_=>∃ (l6_m16:Nat),∃ (l6_m9:List Int),t_=(l6_m16,l6_m9)∧S_=⟨Am [(0,ai a0),(1,.tree .int a1),(9,.own (oi 0 1) .int 0 l6_m9.length),(14,.tree (.slice .int) a2),(15,ai ((a2.length:Nat):Int)),(16,ai ((l6_m16:Nat):Int))],Ak (Ao [(oi 0 1,.arr 3 .int l6_m9)]),2⟩) ⟨_,Ac [(oi 0 1,oi 208 3)],⟨0,y3,rfl,rfl⟩⟩ ?_;rintro n_ _ _ c_ ⟨l6_m16,l6_m9,rfl,rfl⟩ h hn6
  (try dsimp only at h);unfold Er at h;unfold L6;refine Al ?_;refine Ab ?_;rcases Ad h with ⟨q9,h⟩ | ⟨q9,h⟩
  ·have q9_:=of_decide_eq_true q9;refine Ag q9 ?_;refine Aj (tn_ ?_);refine wr_ ?_;refine Ab ?_;refine Ai ?_;refine Ab ?_;obtain ⟨x12,e12,h⟩:=Ae h;refine Aa 8 ?_;refine rz0 (ai ((l6_m16:Nat):Int)) ?_;refine rs0 (.telt (.slice .int) x12 0) (zi (t:=.slice .int) (xs:=a2) (k:=.i64) (m:=((l6_m16:Nat):Int)) (Bi _) e12) ?_;refine rsB 3 ?_;refine Ap (tn_ ?_);refine wr_ ?_;obtain ⟨x13,e13,h⟩:=Ae h;obtain ⟨y14,h14,h⟩:=Ae h;obtain ⟨g15,h⟩:=As h;refine Aa 16 ?_;refine rz0 (ai a0) ?_;refine rz0 (.own (oi 0 1) .int 0 l6_m9.length) ?_;refine rz0 (.tree .int a1) ?_;refine rz0 (ai ((l6_m16:Nat):Int)) ?_;refine rs0 (.telt .int x13 0) (zi (t:=.int) (xs:=a1) (k:=.i64) (m:=((l6_m16:Nat):Int)) (Bi _) e13) ?_;refine rz0 (ai x13) ?_;refine rz0 (.tree .int x12) ?_;refine Apf (.tup []) [(oi 0 1,some (.arr 3 .int y14)),(oi 0 1,none)] [(oi 0 0,oi 0 1)] [ai a0,.own (oi 0 1) .int 0 l6_m9.length,ai x13,.tree .int x12] (caps:=[]) trivial (Vp h14 rfl) Vs ⟨by kernel_rfl,trivial⟩ (.cons (.ren (by kernel_rfl)) (.cons (.ren (by kernel_rfl)) (.cons (.ren (by kernel_rfl)) (.cons (.ren (by kernel_rfl)) .nil)))) (Yi (by kernel_rfl) (by kernel_rfl) ⟨Ao4 (by kernel_rfl),trivial⟩) ?_;refine Ap (bn_ (tn_ ?_));refine wr_ ?_;obtain ⟨g16,h⟩:=As h;refine Aa 18 ?_;refine rs0 (ai ((l6_m16+1:Nat):Int)) (za g16) ?_;refine rsB 1 ?_;refine Ap (tn_ ?_);obtain rfl:=zj h;exact ⟨(l6_m16+1,y14),_,(Br 9 (.own (oi 0 1) .int 0 l6_m9.length) (.own (oi 0 1) .int 0 y14.length) (by kernel_rfl) (congrArg (fun z_=>((.own (oi 0 1) .int 0 z_):AV)) (g15.symm:l6_m9.length=y14.length))).trans (Ac []),⟨l6_m16+1,y14,rfl,rfl⟩,hn6⟩
  have q9_:=of_decide_eq_false q9;refine Af q9 ?_;refine A0 (te_ (te_ (be_ (tn_ ?_))));obtain rfl:=zj h;have h:=hn6
  (try dsimp only at h);obtain rfl:=zj h;exact ⟨_,Ac [],rfl⟩
 rintro l4_m9 _ rfl h
 (try dsimp only at h);refine Al ?_;refine Ah ?_;obtain rfl:=zj h;exact Bm [.own (oi 0 1) .int 0 l4_m9.length] (Aw rfl (Fk (by kernel_rfl) rfl) Ay)
def O0:AC :=
 (.seq (rg [xo 26 (qb .lss (tm 25) (tm 24))])
 (.seq (.cond (tm 26)
  .skip
  (.exit 2))
 (.seq (.block 3 (.seq (rg [xo 27 (qm (tm 25)),xo 28 (qx 1 (tm 23) (tm 25)),xo 29 (ql (tm 28)),xo 12 (qm (tm 27)),xo 13 (qm (tm 29))])
 (.region [xo 30 (qm (tm 9)),xo 31 (qm (tm 12)),xo 32 (qm (tm 9)),xo 33 (qm (tm 12)),xo 34 (qx 1 (tm 32) (tm 33)),xo 35 (ql (tm 34)),xo 36 (qm (tm 3)),xo 37 (qm (tm 10)),xo 38 (qx 1 (tm 36) (tm 37)),xo 39 (ql (tm 38)),xo 40 (qm (tm 13)),xo 41 (qb .mul (tm 39) (tm 40)),xo 42 (qb .add (tm 35) (tm 41)),xo 43 (qm (tm 0)),xo 44 (qb .rem (tm 42) (tm 43)),xo 45 (qx 1 (tm 30) (tm 31)),xn (qs (tm 45) (tm 44))] true [])))
 (rg [xo 46 (qb .add (tm 25) (ci 1)),xo 25 (qm (tm 46))]))))
def Oj:AC :=
 (.seq (rg [xo 19 (qb .lss (tm 18) (tm 17))])
 (.seq (.cond (tm 19)
  .skip
  (.exit 0))
 (.seq (.block 1 (.seq (rg [xo 20 (qm (tm 18)),xo 21 (qx 1 (tm 16) (tm 18)),xo 22 (ql (tm 21)),xo 10 (qm (tm 20)),xo 11 (qm (tm 22))])
 (.seq (rg [xo 23 (qm (tm 11)),xo 24 (.i (.len (tm 23))),xo 25 (qm (ci 0))])
 (.block 2 (.loop O0)))))
 (rg [xo 47 (qb .add (tm 18) (ci 1)),xo 18 (qm (tm 47))]))))
def Ud:AC :=
 (.seq (rg [xo 8 (qm (.cst .nils))])
 (.seq (rg [xo 14 (qm (tm 1)),xo 15 (.make 3 .int 8 (tm 14) (tm 14)),xo 9 (qm (tm 15))])
 (.seq (.seq (rg [xo 16 (qm (tm 2)),xo 17 (.i (.len (tm 16))),xo 18 (qm (ci 0))])
 (.block 0 (.loop Oj)))
 (.seq (rg [xo 48 (qm (tm 9)),xo 8 (qm (tm 48))])
 .ret))))
def Aeq:List Res:=[.tmp 8]
theorem Aey:Aq Tryd.prog Tryd.f42=some (Ud,Aeq):=by kernel_rfl
theorem Ab3:Ba Tryd.prog 42=true:=by kernel_rfl
def F6 (x12:List Int) (a3:List Int) (l6_m18:Nat) (a0:Int) (l14_m25:Nat) (l14_m9:List Int):Option (Ctl (Nat×List Int) (List Int)) :=
 cond (decide (((l14_m25:Nat):Int)<((x12.length:Nat):Int)))
 (Option.bind (x12[l14_m25]?) fun x20 =>
 Option.bind (l14_m9[l14_m25]?) fun x21 =>
 Option.bind (a3[l6_m18]?) fun x22 =>
 og (a0≠0) <|
 og (l14_m25+1<4611686018427387904) <|
 some (Ctl.next (l14_m25+1,l14_m9.set l14_m25 (Int.tmod (wI (x21+wI (x22*x20))) a0))))
 (some (Ctl.out l14_m9))
def F5 (a2:List (List Int)) (a3:List Int) (a0:Int) (l6_m18:Nat) (l6_m9:List Int):Option (Ctl (Nat×List Int) (List Int)) :=
 cond (decide (((l6_m18:Nat):Int)<((a2.length:Nat):Int)))
 (Option.bind (Option.bind (a2[l6_m18]?) fun x12 =>
  A3 (fun s_:Nat×List Int=>F6 x12 a3 l6_m18 a0 s_.1 s_.2) 4611686018427387904 (0,l6_m9)) fun l10_m9 =>
 og (l6_m18+1<4611686018427387904) <|
 some (Ctl.next (l6_m18+1,l10_m9)))
 (some (Ctl.out l6_m9))
def I0 (a0:Int) (a1:Int) (a2:List (List Int)) (a3:List Int):Option (List Int) :=
 og (0<=a1∧a1<=a1∧a1<=1073741824∧(8:Int)*a1<=140737488355328) <|
Option.bind (A3 (fun s_:Nat×List Int=>F5 a2 a3 a0 s_.1 s_.2) 4611686018427387904 (0,List.replicate a1.toNat (0:Int))) fun l4_m9 =>
some l4_m9
def Acs (r:List Int):RV:=⟨false,[(false,[.new 3 .int r])]⟩
theorem Aca {a0:Int} {a1:Int} {a2:List (List Int)} {a3:List Int} {r:List Int} (h:I0 a0 a1 a2 a3=some r):A1 Tryd.prog Tab 42 [ai a0,ai a1,.tree (.slice .int) a2,.tree .int a3] (Acs r):=by
 refine Av (by kernel_rfl) Tryd.func42 Aey (n:=49) (by kernel_rfl) (by simp) (tl:=[(0,ai a0),(1,ai a1),(2,.tree (.slice .int) a2),(3,.tree .int a3)]) rfl ?_;unfold Ud;unfold I0 at h;refine Al ?_;refine Ab ?_;obtain ⟨g3,h⟩:=As h;refine Aa 5 ?_;refine rz0 (ai a1) ?_;refine rs1 (.own (oi 15 3) .int 0 a1.toNat) (oi 15 3) (.arr 3 .int (List.replicate a1.toNat (0:Int))) (Mk (t:=.int) (k:=.i64) (k':=.i64) (m:=a1) (m':=a1) (by kernel_rfl) (by kernel_rfl) g3 rfl) ?_;refine rsB 1 ?_;refine Ap (tn_ ?_);refine wr_ ?_;refine At h (fun (l4_m9:List Int) S_=>S_=⟨Am [(9,.own (oi 0 1) .int 0 l4_m9.length)],Ak (Ao [(oi 0 1,.arr 3 .int l4_m9)]),2⟩) ?_ ?_
 ·intro v_ h;refine Al ?_;refine Ai ?_;refine A4 h (fun t_ S_=>∃ (l6_m18:Nat),∃ (l6_m9:List Int),t_=(l6_m18,l6_m9)∧S_=⟨Am [(0,ai a0),(3,.tree .int a3),(9,.own (oi 0 1) .int 0 l6_m9.length),(16,.tree (.slice .int) a2),(17,ai ((a2.length:Nat):Int)),(18,ai ((l6_m18:Nat):Int))],Ak (Ao [(oi 0 1,.arr 3 .int l6_m9)]),2⟩) ⟨_,(Br 9 (.own (oi 15 3) .int 0 a1.toNat) (.own (oi 15 3) .int 0 ((List.replicate a1.toNat (0:Int)).length)) (by kernel_rfl) (congrArg (fun z_=>((.own (oi 15 3) .int 0 z_):AV)) (List.length_replicate.symm:a1.toNat=(List.replicate a1.toNat (0:Int)).length))).trans (Ac [(oi 0 1,oi 15 3)]),⟨0,List.replicate a1.toNat (0:Int),rfl,rfl⟩⟩ ?_;rintro n_ _ _ c_ ⟨l6_m18,l6_m9,rfl,rfl⟩ h hn6
  (try dsimp only at h);unfold F5 at h;unfold Oj;refine Al ?_;refine Ab ?_;rcases Ad h with ⟨q9,h⟩ | ⟨q9,h⟩
  ·have q9_:=of_decide_eq_true q9;refine Ag q9 ?_;refine Aj (tn_ ?_);refine wr_ ?_;refine At h (fun (l10_m9:List Int) S_=>S_=⟨Am [(0,ai a0),(3,.tree .int a3),(9,.own (oi 0 1) .int 0 l10_m9.length),(16,.tree (.slice .int) a2),(17,ai ((a2.length:Nat):Int)),(18,ai ((l6_m18:Nat):Int))],Ak (Ao [(oi 0 1,.arr 3 .int l10_m9)]),2⟩) ?_ ?_
   ·intro v_ h;refine Ai ?_;refine Ab ?_;obtain ⟨x12,e12,h⟩:=Ae h;refine Aa 8 ?_;refine rz0 (ai ((l6_m18:Nat):Int)) ?_;refine rs0 (.telt (.slice .int) x12 0) (zi (t:=.slice .int) (xs:=a2) (k:=.i64) (m:=((l6_m18:Nat):Int)) (Bi _) e12) ?_;refine rsB 3 ?_;refine Ap (tn_ ?_);refine wr_ ?_;refine Al ?_;refine Ai ?_;refine A4 h (fun t_ S_=>∃ (l14_m25:Nat),∃ (l14_m9:List Int),t_=(l14_m25,l14_m9)∧S_=⟨Am [(0,ai a0),(3,.tree .int a3),(9,.own (oi 0 1) .int 0 l14_m9.length),(10,ai ((l6_m18:Nat):Int)),(16,.tree (.slice .int) a2),(17,ai ((a2.length:Nat):Int)),(18,ai ((l6_m18:Nat):Int)),(23,.tree .int x12),(24,ai ((x12.length:Nat):Int)),(25,ai ((l14_m25:Nat):Int))],Ak (Ao [(oi 0 1,.arr 3 .int l14_m9)]),2⟩) ⟨_,Ac [],⟨0,l6_m9,rfl,rfl⟩⟩ ?_;rintro n_ _ _ c_ ⟨l14_m25,l14_m9,rfl,rfl⟩ h hn14
    (try dsimp only at h);unfold F6 at h;unfold O0;refine Al ?_;refine Ab ?_;rcases Ad h with ⟨q17,h⟩ | ⟨q17,h⟩
    ·have q17_:=of_decide_eq_true q17;refine Ag q17 ?_;refine Aj (tn_ ?_);refine wr_ ?_;refine Ab ?_;refine Ai ?_;refine Ab ?_;obtain ⟨x20,e20,h⟩:=Ae h;refine Aa 8 ?_;refine rz0 (ai ((l14_m25:Nat):Int)) ?_;refine rs0 (.telt .int x20 0) (zi (t:=.int) (xs:=x12) (k:=.i64) (m:=((l14_m25:Nat):Int)) (Bi _) e20) ?_;refine rsB 3 ?_;refine Ap (tn_ ?_);refine wr_ ?_;obtain ⟨x21,e21,h⟩:=Ae h;obtain ⟨x22,e22,h⟩:=Ae h;obtain ⟨g23,h⟩:=As h;refine Az 25 ?_;refine dz0 (.own (oi 0 1) .int 0 l14_m9.length) ?_;refine dz0 (ai ((l14_m25:Nat):Int)) ?_;refine dz0 (.own (oi 0 1) .int 0 l14_m9.length) ?_;refine dz0 (ai ((l14_m25:Nat):Int)) ?_;refine ds0 (.elt (oi 0 1) l14_m25 0) (zo (t:=.int) (o:=oi 0 1) (len:=l14_m9.length) (k:=.i64) (m:=((l14_m25:Nat):Int)) (Bi _) (Bn e21)) ?_;refine dsl (ai x21) (H9 (i:=oi 0 1) (j:=l14_m25) (k:=0) (e:=3) (t:=.int) (xs:=l14_m9) (by kernel_rfl) (by kernel_rfl) e21 (by kernel_rfl)) ?_;refine dz0 (.tree .int a3) ?_;refine dz0 (ai ((l6_m18:Nat):Int)) ?_;refine ds0 (.telt .int x22 0) (zi (t:=.int) (xs:=a3) (k:=.i64) (m:=((l6_m18:Nat):Int)) (Bi _) e22) ?_;refine dz0 (ai x22) ?_;refine dz0 (ai x20) ?_;refine dz0 (ai (wI (x22*x20))) ?_;refine dz0 (ai (wI (x21+wI (x22*x20)))) ?_;refine dz0 (ai a0) ?_;refine ds0 (ai (Int.tmod (wI (x21+wI (x22*x20))) a0)) (Age (k:=.i64) (a:=wI (x21+wI (x22*x20))) (b:=a0) (by kernel_rfl) (by kernel_rfl) g23) ?_;refine ds0 (.elt (oi 0 1) l14_m25 0) (zo (t:=.int) (o:=oi 0 1) (len:=l14_m9.length) (k:=.i64) (m:=((l14_m25:Nat):Int)) (Bi _) (Bn e21)) ?_;refine Kn (oi 0 1) (oi 0 1) (.arr 3 .int (l14_m9.set l14_m25 (Int.tmod (wI (x21+wI (x22*x20))) a0))) (J1 (i:=oi 0 1) (j:=l14_m25) (k:=0) (e:=3) (t:=.int) (xs:=l14_m9) (cs:=[ai (Int.tmod (wI (x21+wI (x22*x20))) a0)]) (x1:=Int.tmod (wI (x21+wI (x22*x20))) a0) (by kernel_rfl) (by kernel_rfl) e21 (by kernel_rfl) (by kernel_rfl)) ?_;refine Gg (Bg (by kernel_rfl)) (bn_ (tn_ ?_));refine wr_ ?_;obtain ⟨g24,h⟩:=As h;refine Aa 27 ?_;refine rs0 (ai ((l14_m25+1:Nat):Int)) (za g24) ?_;refine rsB 1 ?_;refine Ap (tn_ ?_);obtain rfl:=zj h;exact ⟨(l14_m25+1,l14_m9.set l14_m25 (Int.tmod (wI (x21+wI (x22*x20))) a0)),_,(Br 9 (.own (oi 0 1) .int 0 l14_m9.length) (.own (oi 0 1) .int 0 ((l14_m9.set l14_m25 (Int.tmod (wI (x21+wI (x22*x20))) a0)).length)) (by kernel_rfl) (congrArg (fun z_=>((.own (oi 0 1) .int 0 z_):AV)) (((rfl:l14_m9.length=l14_m9.length).trans List.length_set.symm):l14_m9.length=(l14_m9.set l14_m25 (Int.tmod (wI (x21+wI (x22*x20))) a0)).length))).trans (Ac []),⟨l14_m25+1,l14_m9.set l14_m25 (Int.tmod (wI (x21+wI (x22*x20))) a0),rfl,rfl⟩,hn14⟩
    have q17_:=of_decide_eq_false q17;refine Af q17 ?_;refine A0 (te_ (te_ (be_ (bn_ (tn_ ?_)))));obtain rfl:=zj h;have h:=hn14
    (try dsimp only at h);obtain rfl:=zj h;exact ⟨_,Ac [],rfl⟩
   rintro l10_m9 _ rfl h
   (try dsimp only at h);obtain ⟨g25,h⟩:=As h;refine Aa 4 ?_;refine rs0 (ai ((l6_m18+1:Nat):Int)) (za g25) ?_;refine rsB 1 ?_;refine Ap (tn_ ?_);obtain rfl:=zj h;exact ⟨(l6_m18+1,l10_m9),_,Ac [],⟨l6_m18+1,l10_m9,rfl,rfl⟩,hn6⟩
  have q9_:=of_decide_eq_false q9;refine Af q9 ?_;refine A0 (te_ (te_ (be_ (tn_ ?_))));obtain rfl:=zj h;have h:=hn6
  (try dsimp only at h);obtain rfl:=zj h;exact ⟨_,Ac [],rfl⟩
 rintro l4_m9 _ rfl h
 (try dsimp only at h);refine Al ?_;refine Ah ?_;obtain rfl:=zj h;exact Bm [.own (oi 0 1) .int 0 l4_m9.length] (Aw rfl (Fk (by kernel_rfl) rfl) Ay)
def M1:AC :=
 (.seq (rg [xo 9 (qb .lss (tm 8) (tm 7))])
 (.seq (.cond (tm 9)
  .skip
  (.exit 0))
 (.seq (.block 1 (.seq (rg [xo 10 (qx 1 (tm 6) (tm 8)),xo 11 (ql (tm 10)),xo 5 (qm (tm 11))])
 (rg [xo 12 (qm (tm 3)),xo 13 (qm (tm 5)),xo 14 (qc 41 [tm 13] [[some .int]]),xo 15 (.mkV 23 (.slice .int) 1 [tm 14]),xo 16 (.appV 23 (.slice .int) 24 (tm 12) (tm 15)),xo 3 (qm (tm 16))])))
 (rg [xo 17 (qb .add (tm 8) (ci 1)),xo 8 (qm (tm 17))]))))
def R8:AC :=
 (.seq (rg [xo 2 (qm (.cst .nils))])
 (.seq (rg [xo 3 (qm (.cst .nils))])
 (.seq (.seq (rg [xo 6 (qm (tm 0)),xo 7 (.i (.len (tm 6))),xo 8 (qm (ci 0))])
 (.block 0 (.loop M1)))
 (.seq (rg [xo 18 (qm (tm 3)),xo 2 (qm (tm 18))])
 .ret))))
def Abt:List Res:=[.tmp 2]
theorem Acm:Aq Tryd.prog Tryd.f26=some (R8,Abt):=by kernel_rfl
theorem P5:Ba Tryd.prog 26=true:=by kernel_rfl
def Fm (a0:List (List Int)) (l5_m8:Nat) (l5_m3:List (List Int)):Option (Ctl (Nat×List (List Int)) (List (List Int))) :=
 cond (decide (((l5_m8:Nat):Int)<((a0.length:Nat):Int)))
 (Option.bind (a0[l5_m8]?) fun x11 =>
 Option.bind (D1 x11) fun y12 =>
 og (l5_m3.length+1<=1073741824∧(l5_m3.length+1)*24<=140737488355328) <|
 og (l5_m8+1<4611686018427387904) <|
 some (Ctl.next (l5_m8+1,l5_m3++[y12])))
 (some (Ctl.out l5_m3))
def F8 (a0:List (List Int)):Option (List (List Int)) :=
 Option.bind (A3 (fun s_:Nat×List (List Int)=>Fm a0 s_.1 s_.2) 4611686018427387904 (0,([]:List (List Int)))) fun l3_m3 =>
some l3_m3
def X0 (r:List (List Int)):RV:=⟨false,[(false,[.frz (.tree (.slice .int) r)])]⟩
theorem Pr {a0:List (List Int)} {r:List (List Int)} (h:F8 a0=some r):A1 Tryd.prog Tab 26 [.tree (.slice .int) a0] (X0 r):=by
 refine Gr (by kernel_rfl) Tryd.func26 Acm (n:=19) (by kernel_rfl) (by simp) (tl:=[(0,.tree (.slice .int) a0)]) rfl fun nz_=>?_
 unfold R8;unfold F8 at h;refine Al ?_;refine Al ?_;refine At h (fun (l3_m3:List (List Int)) S_=>S_=⟨Am [(3,.own (oi 0 1) (.slice .int) 0 l3_m3.length)],Ak (Ao [(oi 0 1,.mat 23 (oi 1 1) .int l3_m3),(oi 1 1,.pool 3 .int l3_m3)]),2⟩) ?_ ?_
 ·intro v_ h;refine Al ?_;refine Ai ?_;refine A4 h (fun t_ S_=>∃ (l5_m8:Nat),∃ (l5_m3:List (List Int)),t_=(l5_m8,l5_m3)∧S_=⟨Am [(3,.own (oi 0 1) (.slice .int) 0 l5_m3.length),(6,.tree (.slice .int) a0),(7,ai ((a0.length:Nat):Int)),(8,ai ((l5_m8:Nat):Int))],Ak (Ao [(oi 0 1,.mat 23 (oi 1 1) .int l5_m3),(oi 1 1,.pool 3 .int l5_m3)]),2⟩) ⟨_,(Aa1 3 23 (.slice .int) (by kernel_rfl)).trans ((Ea (e1:=23) (n:=0) 9000 (oi 3 6) 3 .int (by kernel_rfl) (by kernel_rfl) rfl (by kernel_rfl) (by kernel_rfl)).trans (Ac [(oi 0 1,oi 3 6),(oi 1 1,oi 9000 7)])),⟨0,([]:List (List Int)),rfl,rfl⟩⟩ ?_;rintro n_ _ _ c_ ⟨l5_m8,l5_m3,rfl,rfl⟩ h hn5
  (try dsimp only at h);unfold Fm at h;unfold M1;refine Al ?_;refine Ab ?_;rcases Ad h with ⟨q8,h⟩ | ⟨q8,h⟩
  ·have q8_:=of_decide_eq_true q8;refine Ag q8 ?_;refine Aj (tn_ ?_);refine wr_ ?_;refine Ab ?_;refine Ai ?_;refine Ab ?_;obtain ⟨x11,e11,h⟩:=Ae h;refine Aa 6 ?_;refine rs0 (.telt (.slice .int) x11 0) (zi (t:=.slice .int) (xs:=a0) (k:=.i64) (m:=((l5_m8:Nat):Int)) (Bi _) e11) ?_;refine rsB 2 ?_;refine Ap (tn_ ?_);refine wr_ ?_;obtain ⟨y12,h12,h⟩:=Ae h;obtain ⟨g13,h⟩:=As h;refine Aa 12 ?_;refine rz0 (.own (oi 0 1) (.slice .int) 0 l5_m3.length) ?_;refine rz0 (.tree .int x11) ?_;refine Bk (.own (oi 224 8) .int 0 y12.length) [(oi 224 8,some (.arr 3 .int y12))] [.tree .int x11] _ (caps:=[]) (args0:=[.tree .int x11]) trivial (by kernel_rfl) (F7 (Hp h12)) Hg ?_;refine Aj0 (.own (oi 15 9) (.slice .int) 0 1) (oi 15 9) (.vec 23 1 1 ([.own (oi 224 8) .int 0 y12.length])) trivial (Ja (by kernel_rfl)) ?_;refine rs2 (.own (oi 0 10) (.slice .int) 0 (l5_m3.length+1)) (oi 0 1) (oi 0 10) (.vec 23 1 (l5_m3.length+1) (hdL (oi 1 1) .int l5_m3++[.own (oi 224 8) .int 0 y12.length])) (H1 (u:=.int) (t':=.slice .int) (t2:=.slice .int) (o:=oi 0 1) (q:=oi 15 9) (e2:=23) (p:=oi 1 1) (xss:=l5_m3) (cs:=[.own (oi 224 8) .int 0 y12.length]) (len:=l5_m3.length) (by kernel_rfl) (by kernel_rfl) rfl (by kernel_rfl) (by kernel_rfl) rfl g13) ?_;refine rsB 1 ?_;refine Ap (bn_ (tn_ ?_));refine ⟨_,En (e1:=23) (e:=3) (u:=.int) (n:=l5_m3.length+1) (len:=y12.length) (row:=y12) (ys:=y12) (xss:=l5_m3) 9000 (oi 0 10) (oi 1 1) (oi 224 8) (by kernel_rfl) (by kernel_rfl) rfl (by kernel_rfl) (by kernel_rfl) (Ol rfl) (Ow rfl) (by kernel_rfl) (by kernel_rfl) (by kernel_rfl),?_⟩;obtain ⟨g14,h⟩:=As h;refine Aa 15 ?_;refine rs0 (ai ((l5_m8+1:Nat):Int)) (za g14) ?_;refine rsB 1 ?_;refine Ap (tn_ ?_);obtain rfl:=zj h;exact ⟨(l5_m8+1,l5_m3++[y12]),_,(Br 3 (.own (oi 0 10) (.slice .int) 0 (l5_m3.length+1)) (.own (oi 0 10) (.slice .int) 0 ((l5_m3++[y12]).length)) (by kernel_rfl) (congrArg (fun z_=>((.own (oi 0 10) (.slice .int) 0 z_):AV)) ((by simp):l5_m3.length+1=(l5_m3++[y12]).length))).trans (Ac [(oi 0 1,oi 0 10),(oi 1 1,oi 9000 12)]),⟨l5_m8+1,l5_m3++[y12],rfl,rfl⟩,hn5⟩
  have q8_:=of_decide_eq_false q8;refine Af q8 ?_;refine A0 (te_ (te_ (be_ (tn_ ?_))));obtain rfl:=zj h;have h:=hn5
  (try dsimp only at h);obtain rfl:=zj h;exact ⟨_,Ac [],rfl⟩
 rintro l3_m3 _ rfl h
 (try dsimp only at h);refine Al ?_;refine Ah ?_;obtain rfl:=zj h;exact Lw [(false,[.own (oi 0 1) (.slice .int) 0 l3_m3.length])] (Jg (Bp (.mat (p:=oi 1 1) (e1:=23) (e:=3) (by kernel_rfl) (El (by kernel_rfl)) rfl)) Il)
def L7:AC :=
 (.seq (rg [xo 15 (qb .lss (tm 14) (tm 13))])
 (.seq (.cond (tm 15)
  .skip
  (.exit 0))
 (.seq (.block 1 (.seq (rg [xo 16 (qx 1 (tm 12) (tm 14)),xo 17 (ql (tm 16)),xo 11 (qm (tm 17))])
 (rg [xo 18 (qm (tm 9)),xo 19 (qm (tm 0)),xo 20 (qm (tm 1)),xo 21 (qm (tm 3)),xo 22 (qm (tm 11)),xo 23 (qc 42 [tm 19,tm 20,tm 21,tm 22] [[],[],[some (.slice .int)],[some .int]]),xo 24 (.mkV 23 (.slice .int) 1 [tm 23]),xo 25 (.appV 23 (.slice .int) 24 (tm 18) (tm 24)),xo 9 (qm (tm 25))])))
 (rg [xo 26 (qb .add (tm 14) (ci 1)),xo 14 (qm (tm 26))]))))
def Pm:AC :=
 (.seq (rg [xo 8 (qm (.cst .nils))])
 (.seq (rg [xo 9 (qm (.cst .nils))])
 (.seq (.seq (rg [xo 12 (qm (tm 2)),xo 13 (.i (.len (tm 12))),xo 14 (qm (ci 0))])
 (.block 0 (.loop L7)))
 (.seq (rg [xo 27 (qm (tm 9)),xo 8 (qm (tm 27))])
 .ret))))
def Zi:List Res:=[.tmp 8]
theorem Aai:Aq Tryd.prog Tryd.f27=some (Pm,Zi):=by kernel_rfl
theorem Oo:Ba Tryd.prog 27=true:=by kernel_rfl
def Ey (a2:List (List Int)) (a0:Int) (a1:Int) (a3:List (List Int)) (l5_m14:Nat) (l5_m9:List (List Int)):Option (Ctl (Nat×List (List Int)) (List (List Int))) :=
 cond (decide (((l5_m14:Nat):Int)<((a2.length:Nat):Int)))
 (Option.bind (a2[l5_m14]?) fun x11 =>
 Option.bind (I0 a0 a1 a3 x11) fun y12 =>
 og (l5_m9.length+1<=1073741824∧(l5_m9.length+1)*24<=140737488355328) <|
 og (l5_m14+1<4611686018427387904) <|
 some (Ctl.next (l5_m14+1,l5_m9++[y12])))
 (some (Ctl.out l5_m9))
def E7 (a0:Int) (a1:Int) (a2:List (List Int)) (a3:List (List Int)):Option (List (List Int)) :=
 Option.bind (A3 (fun s_:Nat×List (List Int)=>Ey a2 a0 a1 a3 s_.1 s_.2) 4611686018427387904 (0,([]:List (List Int)))) fun l3_m9 =>
some l3_m9
def Wy (r:List (List Int)):RV:=⟨false,[(false,[.frz (.tree (.slice .int) r)])]⟩
theorem Om {a0:Int} {a1:Int} {a2:List (List Int)} {a3:List (List Int)} {r:List (List Int)} (h:E7 a0 a1 a2 a3=some r):A1 Tryd.prog Tab 27 [ai a0,ai a1,.tree (.slice .int) a2,.tree (.slice .int) a3] (Wy r):=by
 refine Gr (by kernel_rfl) Tryd.func27 Aai (n:=28) (by kernel_rfl) (by simp) (tl:=[(0,ai a0),(1,ai a1),(2,.tree (.slice .int) a2),(3,.tree (.slice .int) a3)]) rfl fun nz_=>?_
 unfold Pm;unfold E7 at h;refine Al ?_;refine Al ?_;refine At h (fun (l3_m9:List (List Int)) S_=>S_=⟨Am [(9,.own (oi 0 1) (.slice .int) 0 l3_m9.length)],Ak (Ao [(oi 0 1,.mat 23 (oi 1 1) .int l3_m9),(oi 1 1,.pool 3 .int l3_m9)]),2⟩) ?_ ?_
 ·intro v_ h;refine Al ?_;refine Ai ?_;refine A4 h (fun t_ S_=>∃ (l5_m14:Nat),∃ (l5_m9:List (List Int)),t_=(l5_m14,l5_m9)∧S_=⟨Am [(0,ai a0),(1,ai a1),(3,.tree (.slice .int) a3),(9,.own (oi 0 1) (.slice .int) 0 l5_m9.length),(12,.tree (.slice .int) a2),(13,ai ((a2.length:Nat):Int)),(14,ai ((l5_m14:Nat):Int))],Ak (Ao [(oi 0 1,.mat 23 (oi 1 1) .int l5_m9),(oi 1 1,.pool 3 .int l5_m9)]),2⟩) ⟨_,(Aa1 9 23 (.slice .int) (by kernel_rfl)).trans ((Ea (e1:=23) (n:=0) 9000 (oi 9 6) 3 .int (by kernel_rfl) (by kernel_rfl) rfl (by kernel_rfl) (by kernel_rfl)).trans (Ac [(oi 0 1,oi 9 6),(oi 1 1,oi 9000 7)])),⟨0,([]:List (List Int)),rfl,rfl⟩⟩ ?_;rintro n_ _ _ c_ ⟨l5_m14,l5_m9,rfl,rfl⟩ h hn5
  (try dsimp only at h);unfold Ey at h;unfold L7;refine Al ?_;refine Ab ?_;rcases Ad h with ⟨q8,h⟩ | ⟨q8,h⟩
  ·have q8_:=of_decide_eq_true q8;refine Ag q8 ?_;refine Aj (tn_ ?_);refine wr_ ?_;refine Ab ?_;refine Ai ?_;refine Ab ?_;obtain ⟨x11,e11,h⟩:=Ae h;refine Aa 6 ?_;refine rs0 (.telt (.slice .int) x11 0) (zi (t:=.slice .int) (xs:=a2) (k:=.i64) (m:=((l5_m14:Nat):Int)) (Bi _) e11) ?_;refine rsB 2 ?_;refine Ap (tn_ ?_);refine wr_ ?_;obtain ⟨y12,h12,h⟩:=Ae h;obtain ⟨g13,h⟩:=As h;refine Aa 15 ?_;refine rz0 (.own (oi 0 1) (.slice .int) 0 l5_m9.length) ?_;refine rz0 (ai a0) ?_;refine rz0 (ai a1) ?_;refine rz0 (.tree (.slice .int) a3) ?_;refine rz0 (.tree .int x11) ?_;refine Bk (.own (oi 368 11) .int 0 y12.length) [(oi 368 11,some (.arr 3 .int y12))] [ai a0,ai a1,.tree (.slice .int) a3,.tree .int x11] _ (caps:=[]) (args0:=[ai a0,ai a1,.tree (.slice .int) a3,.tree .int x11]) trivial (by kernel_rfl) (F7 (Aca h12)) Ab3 ?_;refine Aj0 (.own (oi 24 12) (.slice .int) 0 1) (oi 24 12) (.vec 23 1 1 ([.own (oi 368 11) .int 0 y12.length])) trivial (Ja (by kernel_rfl)) ?_;refine rs2 (.own (oi 0 13) (.slice .int) 0 (l5_m9.length+1)) (oi 0 1) (oi 0 13) (.vec 23 1 (l5_m9.length+1) (hdL (oi 1 1) .int l5_m9++[.own (oi 368 11) .int 0 y12.length])) (H1 (u:=.int) (t':=.slice .int) (t2:=.slice .int) (o:=oi 0 1) (q:=oi 24 12) (e2:=23) (p:=oi 1 1) (xss:=l5_m9) (cs:=[.own (oi 368 11) .int 0 y12.length]) (len:=l5_m9.length) (by kernel_rfl) (by kernel_rfl) rfl (by kernel_rfl) (by kernel_rfl) rfl g13) ?_;refine rsB 1 ?_;refine Ap (bn_ (tn_ ?_));refine ⟨_,En (e1:=23) (e:=3) (u:=.int) (n:=l5_m9.length+1) (len:=y12.length) (row:=y12) (ys:=y12) (xss:=l5_m9) 9000 (oi 0 13) (oi 1 1) (oi 368 11) (by kernel_rfl) (by kernel_rfl) rfl (by kernel_rfl) (by kernel_rfl) (Ol rfl) (Ow rfl) (by kernel_rfl) (by kernel_rfl) (by kernel_rfl),?_⟩;obtain ⟨g14,h⟩:=As h;refine Aa 18 ?_;refine rs0 (ai ((l5_m14+1:Nat):Int)) (za g14) ?_;refine rsB 1 ?_;refine Ap (tn_ ?_);obtain rfl:=zj h;exact ⟨(l5_m14+1,l5_m9++[y12]),_,(Br 9 (.own (oi 0 13) (.slice .int) 0 (l5_m9.length+1)) (.own (oi 0 13) (.slice .int) 0 ((l5_m9++[y12]).length)) (by kernel_rfl) (congrArg (fun z_=>((.own (oi 0 13) (.slice .int) 0 z_):AV)) ((by simp):l5_m9.length+1=(l5_m9++[y12]).length))).trans (Ac [(oi 0 1,oi 0 13),(oi 1 1,oi 9000 15)]),⟨l5_m14+1,l5_m9++[y12],rfl,rfl⟩,hn5⟩
  have q8_:=of_decide_eq_false q8;refine Af q8 ?_;refine A0 (te_ (te_ (be_ (tn_ ?_))));obtain rfl:=zj h;have h:=hn5
  (try dsimp only at h);obtain rfl:=zj h;exact ⟨_,Ac [],rfl⟩
 rintro l3_m9 _ rfl h
 (try dsimp only at h);refine Al ?_;refine Ah ?_;obtain rfl:=zj h;exact Lw [(false,[.own (oi 0 1) (.slice .int) 0 l3_m9.length])] (Jg (Bp (.mat (p:=oi 1 1) (e1:=23) (e:=3) (by kernel_rfl) (El (by kernel_rfl)) rfl)) Il)
def Na:AC :=
 (.seq (rg [xo 12 (qb .lss (tm 11) (tm 10))])
 (.seq (.cond (tm 12)
  .skip
  (.exit 0))
 (.seq (.block 1 (.seq (rg [xo 13 (qx 1 (tm 9) (tm 11)),xo 14 (ql (tm 13)),xo 5 (qm (tm 14))])
 (rg [xo 15 (qm (tm 3)),xo 16 (qm (tm 5)),xo 17 (qc 48 [tm 16] [[some .int]]),xo 18 (.mkV 23 (.slice .int) 1 [tm 17]),xo 19 (.appV 23 (.slice .int) 24 (tm 15) (tm 18)),xo 3 (qm (tm 19))])))
 (rg [xo 20 (qb .add (tm 11) (ci 1)),xo 11 (qm (tm 20))]))))
def Sb:AC :=
 (.seq (rg [xo 2 (qm (.cst .nils))])
 (.seq (rg [xo 6 (qm (tm 0)),xo 7 (.i (.len (tm 6))),xo 8 (.makeV 23 (.slice .int) 24 [.nils] (ci 0) (tm 7)),xo 3 (qm (tm 8))])
 (.seq (.seq (rg [xo 9 (qm (tm 0)),xo 10 (.i (.len (tm 9))),xo 11 (qm (ci 0))])
 (.block 0 (.loop Na)))
 (.seq (rg [xo 21 (qm (tm 3)),xo 2 (qm (tm 21))])
 .ret))))
def Acl:List Res:=[.tmp 2]
theorem Abh:Aq Tryd.prog Tryd.f31=some (Sb,Acl):=by kernel_rfl
theorem Pu:Ba Tryd.prog 31=true:=by kernel_rfl
def E5 (a0:List (List Int)) (l6_m11:Nat) (l6_m3:List (List Int)):Option (Ctl (Nat×List (List Int)) (List (List Int))) :=
 cond (decide (((l6_m11:Nat):Int)<((a0.length:Nat):Int)))
 (Option.bind (a0[l6_m11]?) fun x12 =>
 Option.bind (Io x12) fun y13 =>
 og (l6_m3.length+1<=1073741824∧(l6_m3.length+1)*24<=140737488355328) <|
 og (l6_m11+1<4611686018427387904) <|
 some (Ctl.next (l6_m11+1,l6_m3++[y13])))
 (some (Ctl.out l6_m3))
def F9 (a0:List (List Int)):Option (List (List Int)) :=
 og (0<=(0:Int)∧(0:Int)<=((a0.length:Nat):Int)∧((a0.length:Nat):Int)<=1073741824∧(24:Int)*((a0.length:Nat):Int)<=140737488355328) <|
Option.bind (A3 (fun s_:Nat×List (List Int)=>E5 a0 s_.1 s_.2) 4611686018427387904 (0,List.replicate 0 ([]:List Int))) fun l4_m3 =>
some l4_m3
def Aax (r:List (List Int)):RV:=⟨false,[(false,[.frz (.tree (.slice .int) r)])]⟩
theorem Pw {a0:List (List Int)} {r:List (List Int)} (h:F9 a0=some r):A1 Tryd.prog Tab 31 [.tree (.slice .int) a0] (Aax r):=by
 refine Gr (by kernel_rfl) Tryd.func31 Abh (n:=22) (by kernel_rfl) (by simp) (tl:=[(0,.tree (.slice .int) a0)]) rfl fun nz_=>?_
 unfold Sb;unfold F9 at h;refine Al ?_;refine Ab ?_;obtain ⟨g3,h⟩:=As h;refine Aa 6 ?_;refine rz0 (.tree (.slice .int) a0) ?_;refine rz0 (ai ((a0.length:Nat):Int)) ?_;refine Apm (.own (oi 128 4) (.slice .int) 0 0) (oi 128 4) 23 3 .int (List.replicate 0 ([]:List Int)) trivial (Aob (j:=0) (k:=.i64) (k':=.i64) (m:=0) (c:=((a0.length:Nat):Int)) 3 (by kernel_rfl) (by kernel_rfl) g3 (by kernel_rfl) rfl) (by kernel_rfl) (by rw [List.length_replicate]) (by kernel_rfl) ?_;refine rsB 1 ?_;refine Ap (tn_ ?_);refine wr_ ?_;refine At h (fun (l4_m3:List (List Int)) S_=>S_=⟨Am [(3,.own (oi 0 1) (.slice .int) 0 l4_m3.length)],Ak (Ao [(oi 0 1,.mat 23 (oi 1 1) .int l4_m3),(oi 1 1,.pool 3 .int l4_m3)]),2⟩) ?_ ?_
 ·intro v_ h;refine Al ?_;refine Ai ?_;refine A4 h (fun t_ S_=>∃ (l6_m11:Nat),∃ (l6_m3:List (List Int)),t_=(l6_m11,l6_m3)∧S_=⟨Am [(3,.own (oi 0 1) (.slice .int) 0 l6_m3.length),(9,.tree (.slice .int) a0),(10,ai ((a0.length:Nat):Int)),(11,ai ((l6_m11:Nat):Int))],Ak (Ao [(oi 0 1,.mat 23 (oi 1 1) .int l6_m3),(oi 1 1,.pool 3 .int l6_m3)]),2⟩) ⟨_,(Br 3 (.own (oi 128 4) (.slice .int) 0 0) (.own (oi 128 4) (.slice .int) 0 ((List.replicate 0 ([]:List Int)).length)) (by kernel_rfl) (congrArg (fun z_=>((.own (oi 128 4) (.slice .int) 0 z_):AV)) (List.length_replicate.symm:0=(List.replicate 0 ([]:List Int)).length))).trans (Ac [(oi 0 1,oi 128 4),(oi 1 1,oi 128 4)]),⟨0,List.replicate 0 ([]:List Int),rfl,rfl⟩⟩ ?_;rintro n_ _ _ c_ ⟨l6_m11,l6_m3,rfl,rfl⟩ h hn6
  (try dsimp only at h);unfold E5 at h;unfold Na;refine Al ?_;refine Ab ?_;rcases Ad h with ⟨q9,h⟩ | ⟨q9,h⟩
  ·have q9_:=of_decide_eq_true q9;refine Ag q9 ?_;refine Aj (tn_ ?_);refine wr_ ?_;refine Ab ?_;refine Ai ?_;refine Ab ?_;obtain ⟨x12,e12,h⟩:=Ae h;refine Aa 6 ?_;refine rs0 (.telt (.slice .int) x12 0) (zi (t:=.slice .int) (xs:=a0) (k:=.i64) (m:=((l6_m11:Nat):Int)) (Bi _) e12) ?_;refine rsB 2 ?_;refine Ap (tn_ ?_);refine wr_ ?_;obtain ⟨y13,h13,h⟩:=Ae h;obtain ⟨g14,h⟩:=As h;refine Aa 12 ?_;refine rz0 (.own (oi 0 1) (.slice .int) 0 l6_m3.length) ?_;refine rz0 (.tree .int x12) ?_;refine Bk (.own (oi 272 8) .int 0 y13.length) [(oi 272 8,some (.arr 3 .int y13))] [.tree .int x12] _ (caps:=[]) (args0:=[.tree .int x12]) trivial (by kernel_rfl) (F7 (Acc h13)) Ack ?_;refine Aj0 (.own (oi 18 9) (.slice .int) 0 1) (oi 18 9) (.vec 23 1 1 ([.own (oi 272 8) .int 0 y13.length])) trivial (Ja (by kernel_rfl)) ?_;refine rs2 (.own (oi 0 10) (.slice .int) 0 (l6_m3.length+1)) (oi 0 1) (oi 0 10) (.vec 23 1 (l6_m3.length+1) (hdL (oi 1 1) .int l6_m3++[.own (oi 272 8) .int 0 y13.length])) (H1 (u:=.int) (t':=.slice .int) (t2:=.slice .int) (o:=oi 0 1) (q:=oi 18 9) (e2:=23) (p:=oi 1 1) (xss:=l6_m3) (cs:=[.own (oi 272 8) .int 0 y13.length]) (len:=l6_m3.length) (by kernel_rfl) (by kernel_rfl) rfl (by kernel_rfl) (by kernel_rfl) rfl g14) ?_;refine rsB 1 ?_;refine Ap (bn_ (tn_ ?_));refine ⟨_,En (e1:=23) (e:=3) (u:=.int) (n:=l6_m3.length+1) (len:=y13.length) (row:=y13) (ys:=y13) (xss:=l6_m3) 9000 (oi 0 10) (oi 1 1) (oi 272 8) (by kernel_rfl) (by kernel_rfl) rfl (by kernel_rfl) (by kernel_rfl) (Ol rfl) (Ow rfl) (by kernel_rfl) (by kernel_rfl) (by kernel_rfl),?_⟩;obtain ⟨g15,h⟩:=As h;refine Aa 15 ?_;refine rs0 (ai ((l6_m11+1:Nat):Int)) (za g15) ?_;refine rsB 1 ?_;refine Ap (tn_ ?_);obtain rfl:=zj h;exact ⟨(l6_m11+1,l6_m3++[y13]),_,(Br 3 (.own (oi 0 10) (.slice .int) 0 (l6_m3.length+1)) (.own (oi 0 10) (.slice .int) 0 ((l6_m3++[y13]).length)) (by kernel_rfl) (congrArg (fun z_=>((.own (oi 0 10) (.slice .int) 0 z_):AV)) ((by simp):l6_m3.length+1=(l6_m3++[y13]).length))).trans (Ac [(oi 0 1,oi 0 10),(oi 1 1,oi 9000 12)]),⟨l6_m11+1,l6_m3++[y13],rfl,rfl⟩,hn6⟩
  have q9_:=of_decide_eq_false q9;refine Af q9 ?_;refine A0 (te_ (te_ (be_ (tn_ ?_))));obtain rfl:=zj h;have h:=hn6
  (try dsimp only at h);obtain rfl:=zj h;exact ⟨_,Ac [],rfl⟩
 rintro l4_m3 _ rfl h
 (try dsimp only at h);refine Al ?_;refine Ah ?_;obtain rfl:=zj h;exact Lw [(false,[.own (oi 0 1) (.slice .int) 0 l4_m3.length])] (Jg (Bp (.mat (p:=oi 1 1) (e1:=23) (e:=3) (by kernel_rfl) (El (by kernel_rfl)) rfl)) Il)
def Ls:AC :=
 (.seq (rg [xo 16 (qb .lss (tm 15) (tm 14))])
 (.seq (.cond (tm 16)
  .skip
  (.exit 0))
 (.seq (.block 1 (.seq (rg [xo 17 (qx 1 (tm 13) (tm 15)),xo 18 (ql (tm 17)),xo 11 (qm (tm 18))])
 (rg [xo 19 (qm (tm 9)),xo 20 (qm (tm 0)),xo 21 (qm (tm 11)),xo 22 (qm (tm 2)),xo 23 (qm (tm 3)),xo 24 (qc 49 [tm 20,tm 21,tm 22,tm 23] [[],[some .int],[some (.slice .int)],[]]),xo 25 (.mkV 23 (.slice .int) 1 [tm 24]),xo 26 (.appV 23 (.slice .int) 24 (tm 19) (tm 25)),xo 9 (qm (tm 26))])))
 (rg [xo 27 (qb .add (tm 15) (ci 1)),xo 15 (qm (tm 27))]))))
def Qc:AC :=
 (.seq (rg [xo 8 (qm (.cst .nils))])
 (.seq (rg [xo 12 (.mkV 23 (.slice .int) 1 []),xo 9 (qm (tm 12))])
 (.seq (.seq (rg [xo 13 (qm (tm 1)),xo 14 (.i (.len (tm 13))),xo 15 (qm (ci 0))])
 (.block 0 (.loop Ls)))
 (.seq (rg [xo 28 (qm (tm 9)),xo 8 (qm (tm 28))])
 .ret))))
def Zo:List Res:=[.tmp 8]
theorem X8:Aq Tryd.prog Tryd.f32=some (Qc,Zo):=by kernel_rfl
theorem Ok:Ba Tryd.prog 32=true:=by kernel_rfl
def Et (a1:List (List Int)) (a0:Int) (a2:List (List Int)) (a3:Int) (l5_m15:Nat) (l5_m9:List (List Int)):Option (Ctl (Nat×List (List Int)) (List (List Int))) :=
 cond (decide (((l5_m15:Nat):Int)<((a1.length:Nat):Int)))
 (Option.bind (a1[l5_m15]?) fun x11 =>
 Option.bind (Gk a0 x11 a2 a3) fun y12 =>
 og (l5_m9.length+1<=1073741824∧(l5_m9.length+1)*24<=140737488355328) <|
 og (l5_m15+1<4611686018427387904) <|
 some (Ctl.next (l5_m15+1,l5_m9++[y12])))
 (some (Ctl.out l5_m9))
def Fh (a0:Int) (a1:List (List Int)) (a2:List (List Int)) (a3:Int):Option (List (List Int)) :=
 Option.bind (A3 (fun s_:Nat×List (List Int)=>Et a1 a0 a2 a3 s_.1 s_.2) 4611686018427387904 (0,([]:List (List Int)))) fun l3_m9 =>
some l3_m9
def W3 (r:List (List Int)):RV:=⟨false,[(false,[.frz (.tree (.slice .int) r)])]⟩
theorem Oz {a0:Int} {a1:List (List Int)} {a2:List (List Int)} {a3:Int} {r:List (List Int)} (h:Fh a0 a1 a2 a3=some r):A1 Tryd.prog Tab 32 [ai a0,.tree (.slice .int) a1,.tree (.slice .int) a2,ai a3] (W3 r):=by
 refine Gr (by kernel_rfl) Tryd.func32 X8 (n:=29) (by kernel_rfl) (by simp) (tl:=[(0,ai a0),(1,.tree (.slice .int) a1),(2,.tree (.slice .int) a2),(3,ai a3)]) rfl fun nz_=>?_
 unfold Qc;unfold Fh at h;refine Al ?_;refine Ab ?_;refine Aa 4 ?_;refine Aj0 (.own (oi 12 2) (.slice .int) 0 0) (oi 12 2) (.vec 23 1 0 []) trivial (Ja (by kernel_rfl)) ?_;refine rsB 1 ?_;refine Ap (tn_ ?_);refine ⟨_,Ea (e1:=23) (n:=0) 9000 (oi 12 2) 3 .int (by kernel_rfl) (by kernel_rfl) rfl (by kernel_rfl) (by kernel_rfl),?_⟩;refine At h (fun (l3_m9:List (List Int)) S_=>S_=⟨Am [(9,.own (oi 0 1) (.slice .int) 0 l3_m9.length)],Ak (Ao [(oi 0 1,.mat 23 (oi 1 1) .int l3_m9),(oi 1 1,.pool 3 .int l3_m9)]),2⟩) ?_ ?_
 ·intro v_ h;refine Al ?_;refine Ai ?_;refine A4 h (fun t_ S_=>∃ (l5_m15:Nat),∃ (l5_m9:List (List Int)),t_=(l5_m15,l5_m9)∧S_=⟨Am [(0,ai a0),(2,.tree (.slice .int) a2),(3,ai a3),(9,.own (oi 0 1) (.slice .int) 0 l5_m9.length),(13,.tree (.slice .int) a1),(14,ai ((a1.length:Nat):Int)),(15,ai ((l5_m15:Nat):Int))],Ak (Ao [(oi 0 1,.mat 23 (oi 1 1) .int l5_m9),(oi 1 1,.pool 3 .int l5_m9)]),2⟩) ⟨_,Ac [(oi 0 1,oi 12 2),(oi 1 1,oi 9000 4)],⟨0,([]:List (List Int)),rfl,rfl⟩⟩ ?_;rintro n_ _ _ c_ ⟨l5_m15,l5_m9,rfl,rfl⟩ h hn5
  (try dsimp only at h);unfold Et at h;unfold Ls;refine Al ?_;refine Ab ?_;rcases Ad h with ⟨q8,h⟩ | ⟨q8,h⟩
  ·have q8_:=of_decide_eq_true q8;refine Ag q8 ?_;refine Aj (tn_ ?_);refine wr_ ?_;refine Ab ?_;refine Ai ?_;refine Ab ?_;obtain ⟨x11,e11,h⟩:=Ae h;refine Aa 6 ?_;refine rs0 (.telt (.slice .int) x11 0) (zi (t:=.slice .int) (xs:=a1) (k:=.i64) (m:=((l5_m15:Nat):Int)) (Bi _) e11) ?_;refine rsB 2 ?_;refine Ap (tn_ ?_);refine wr_ ?_;obtain ⟨y12,h12,h⟩:=Ae h;obtain ⟨g13,h⟩:=As h;refine Aa 15 ?_;refine rz0 (.own (oi 0 1) (.slice .int) 0 l5_m9.length) ?_;refine rz0 (ai a0) ?_;refine rz0 (.tree .int x11) ?_;refine rz0 (.tree (.slice .int) a2) ?_;refine rz0 (ai a3) ?_;refine Bk (.own (oi 384 11) .int 0 y12.length) [(oi 384 11,some (.arr 3 .int y12))] [ai a0,.tree .int x11,.tree (.slice .int) a2,ai a3] _ (caps:=[]) (args0:=[ai a0,.tree .int x11,.tree (.slice .int) a2,ai a3]) trivial (by kernel_rfl) (F7 (W1 h12)) Xb ?_;refine Aj0 (.own (oi 25 12) (.slice .int) 0 1) (oi 25 12) (.vec 23 1 1 ([.own (oi 384 11) .int 0 y12.length])) trivial (Ja (by kernel_rfl)) ?_;refine rs2 (.own (oi 0 13) (.slice .int) 0 (l5_m9.length+1)) (oi 0 1) (oi 0 13) (.vec 23 1 (l5_m9.length+1) (hdL (oi 1 1) .int l5_m9++[.own (oi 384 11) .int 0 y12.length])) (H1 (u:=.int) (t':=.slice .int) (t2:=.slice .int) (o:=oi 0 1) (q:=oi 25 12) (e2:=23) (p:=oi 1 1) (xss:=l5_m9) (cs:=[.own (oi 384 11) .int 0 y12.length]) (len:=l5_m9.length) (by kernel_rfl) (by kernel_rfl) rfl (by kernel_rfl) (by kernel_rfl) rfl g13) ?_;refine rsB 1 ?_;refine Ap (bn_ (tn_ ?_));refine ⟨_,En (e1:=23) (e:=3) (u:=.int) (n:=l5_m9.length+1) (len:=y12.length) (row:=y12) (ys:=y12) (xss:=l5_m9) 9000 (oi 0 13) (oi 1 1) (oi 384 11) (by kernel_rfl) (by kernel_rfl) rfl (by kernel_rfl) (by kernel_rfl) (Ol rfl) (Ow rfl) (by kernel_rfl) (by kernel_rfl) (by kernel_rfl),?_⟩;obtain ⟨g14,h⟩:=As h;refine Aa 18 ?_;refine rs0 (ai ((l5_m15+1:Nat):Int)) (za g14) ?_;refine rsB 1 ?_;refine Ap (tn_ ?_);obtain rfl:=zj h;exact ⟨(l5_m15+1,l5_m9++[y12]),_,(Br 9 (.own (oi 0 13) (.slice .int) 0 (l5_m9.length+1)) (.own (oi 0 13) (.slice .int) 0 ((l5_m9++[y12]).length)) (by kernel_rfl) (congrArg (fun z_=>((.own (oi 0 13) (.slice .int) 0 z_):AV)) ((by simp):l5_m9.length+1=(l5_m9++[y12]).length))).trans (Ac [(oi 0 1,oi 0 13),(oi 1 1,oi 9000 15)]),⟨l5_m15+1,l5_m9++[y12],rfl,rfl⟩,hn5⟩
  have q8_:=of_decide_eq_false q8;refine Af q8 ?_;refine A0 (te_ (te_ (be_ (tn_ ?_))));obtain rfl:=zj h;have h:=hn5
  (try dsimp only at h);obtain rfl:=zj h;exact ⟨_,Ac [],rfl⟩
 rintro l3_m9 _ rfl h
 (try dsimp only at h);refine Al ?_;refine Ah ?_;obtain rfl:=zj h;exact Lw [(false,[.own (oi 0 1) (.slice .int) 0 l3_m9.length])] (Jg (Bp (.mat (p:=oi 1 1) (e1:=23) (e:=3) (by kernel_rfl) (El (by kernel_rfl)) rfl)) Il)
def Le:AC :=
 (.seq (.seq (rg [xo 13 (qm (tm 9)),xo 14 (qm (tm 2)),xo 15 (qb .lss (tm 13) (tm 14))])
 (.cond (tm 15)
  .skip
  (.exit 0)))
 (.seq (.block 1 (.seq (.seq (rg [xo 18 (qm (tm 9)),xo 19 (qb .eql (tm 18) (ci 0))])
 (.cond (tm 19)
  (.seq (.region [xo 20 (qm (tm 7)),xo 21 (qf 2 (tm 4)),xo 22 (ql (tm 21)),xo 23 (qf 6 (tm 4)),xo 24 (ql (tm 23)),xo 25 (qc 26 [tm 24] [[some (.slice .int)]]),xo 26 (.build [.int .i64 0,.nils] [(0,1,tm 22),(1,1,tm 25)]),⟨some 27,none,.mkV 47 (.pair .int (.slice (.slice .int))) 2 [tm 26]⟩,⟨some 28,none,.appV 47 (.pair .int (.slice (.slice .int))) 32 (tm 20) (tm 27)⟩,xo 7 (qm (tm 28))] true [(2,5)])
  (.exit 1))
  .skip))
 (.seq (.region [xo 29 (qm (tm 7)),xo 30 (qf 2 (tm 4)),xo 31 (ql (tm 30)),xo 32 (qm (tm 0)),xo 33 (qf 2 (tm 4)),xo 34 (ql (tm 33)),xo 35 (qm (tm 8)),xo 36 (qf 5 (tm 4)),xo 37 (ql (tm 36)),xo 38 (qc 27 [tm 32,tm 34,tm 35,tm 37] [[],[],[some (.slice .int)],[some (.slice .int)]]),xo 39 (.build [.int .i64 0,.nils] [(0,1,tm 31),(1,1,tm 38)]),⟨some 40,none,.mkV 47 (.pair .int (.slice (.slice .int))) 2 [tm 39]⟩,⟨some 41,none,.appV 47 (.pair .int (.slice (.slice .int))) 32 (tm 29) (tm 40)⟩,xo 7 (qm (tm 41))] true [(2,9)])
 (rg [xo 42 (qm (tm 0)),xo 43 (qf 0 (tm 4)),xo 44 (ql (tm 43)),xo 45 (qm (tm 8)),xo 46 (qf 3 (tm 4)),xo 47 (ql (tm 46)),xo 48 (qc 27 [tm 42,tm 44,tm 45,tm 47] [[],[],[some (.slice .int)],[some (.slice .int)]]),xo 8 (qm (tm 48))]))))
 (rg [xo 16 (qm (tm 9)),xo 17 (qb .add (tm 16) (ci 1)),xo 9 (qm (tm 17))])))
def Ox:AC :=
 (.seq (rg [xo 4 (.i (.box 41 (tm 1))),xo 6 (qm (.cst .nils))])
 (.seq (rg [xo 7 (qm (.cst .nils))])
 (.seq (rg [xo 10 (qf 4 (tm 4)),xo 11 (ql (tm 10)),xo 12 (qc 26 [tm 11] [[some (.slice .int)]]),xo 8 (qm (tm 12))])
 (.seq (.seq (rg [xo 9 (qm (ci 0))])
 (.block 0 (.loop Le)))
 (.seq (rg [xo 49 (qm (tm 7)),xo 6 (qm (tm 49))])
 .ret)))))
def Ws:List Res:=[.tmp 6]
theorem Wq:Aq Tryd.prog Tryd.f15=some (Ox,Ws):=by kernel_rfl
theorem Nb:Ba Tryd.prog 15=true:=by kernel_rfl
def D9 (a2:Int) (a1_6:List (List Int)) (a1_2:Int) (a0:Int) (a1_5:List (List Int)) (a1_0:Int) (a1_3:List (List Int)) (l7_m8:List (List Int)) (l7_m9:Nat) (l7_m7:List (Int×List (List Int))):Option (Ctl (List (List Int)×Nat×(List (Int×List (List Int)))) (List (Int×List (List Int)))) :=
 cond (decide (((l7_m9:Nat):Int)<a2))
 (Option.bind (cond (((l7_m9:Nat):Int)==0)
   (Option.bind (F8 a1_6) fun y16 =>
   og (l7_m7.length+1<=1073741824∧(l7_m7.length+1)*32<=140737488355328) <|
   some (l7_m8,l7_m7++[(a1_2,y16)]))
   (Option.bind (E7 a0 a1_2 l7_m8 a1_5) fun y19 =>
   og (l7_m7.length+1<=1073741824∧(l7_m7.length+1)*32<=140737488355328) <|
   Option.bind (E7 a0 a1_0 l7_m8 a1_3) fun y21 =>
   some (y21,l7_m7++[(a1_2,y19)]))) fun (l11_m8,l11_m7) =>
 og (l7_m9+1<4611686018427387904) <|
 some (Ctl.next (l11_m8,l7_m9+1,l11_m7)))
 (some (Ctl.out l7_m7))
def Ei (a0:Int) (a1_0:Int) (a1_1:Int) (a1_2:Int) (a1_3:List (List Int)) (a1_4:List (List Int)) (a1_5:List (List Int)) (a1_6:List (List Int)) (a2:Int):Option (List (Int×List (List Int))) :=
 Option.bind (F8 a1_4) fun y4 =>
Option.bind (A3 (fun s_:List (List Int)×Nat×(List (Int×List (List Int)))=>D9 a2 a1_6 a1_2 a0 a1_5 a1_0 a1_3 s_.1 s_.2.1 s_.2.2) 4611686018427387904 (y4,0,[])) fun l5_m7 =>
some l5_m7
def Vz (r:List (Int×List (List Int))):RV:=⟨false,[(false,[.frz (.tree (.pair .int (.slice (.slice .int))) r)])]⟩
theorem M6 {a0:Int} {a1_0:Int} {a1_1:Int} {a1_2:Int} {a1_3:List (List Int)} {a1_4:List (List Int)} {a1_5:List (List Int)} {a1_6:List (List Int)} {a2:Int} {r:List (Int×List (List Int))} (h:Ei a0 a1_0 a1_1 a1_2 a1_3 a1_4 a1_5 a1_6 a2=some r):A1 Tryd.prog Tab 15 [ai a0,.agg [ai a1_0,ai a1_1,ai a1_2,.tree (.slice .int) a1_3,.tree (.slice .int) a1_4,.tree (.slice .int) a1_5,.tree (.slice .int) a1_6],ai a2] (Vz r):=by
 refine Gr (by kernel_rfl) Tryd.func15 Wq (n:=50) (by kernel_rfl) (by simp) (tl:=[(0,ai a0),(1,.agg [ai a1_0,ai a1_1,ai a1_2,.tree (.slice .int) a1_3,.tree (.slice .int) a1_4,.tree (.slice .int) a1_5,.tree (.slice .int) a1_6]),(2,ai a2)]) rfl fun nz_=>?_
 unfold Ox;unfold Ei at h;refine Al ?_;refine Al ?_;refine Ab ?_;obtain ⟨y4,h4,h⟩:=Ae h;refine Aa 8 ?_;refine rz0 (.box (oi 4 1) 4) ?_;refine rzl (.tree (.slice .int) a1_4) ?_;refine Bk (.ftr nz_ (.slice .int) y4) [] [.tree (.slice .int) a1_4] _ (caps:=[]) (args0:=[.tree (.slice .int) a1_4]) trivial (by kernel_rfl) (Ni (Pr h4)) P5 ?_;refine rsB 1 ?_;refine Ap (tn_ ?_);refine wr_ ?_;refine At h (fun (l5_m7:List (Int×List (List Int))) S_=>S_=⟨Am [(7,.own (oi 0 1) (.pair .int (.slice (.slice .int))) 0 l5_m7.length)],Ak (Ao [(oi 0 1,.tv 47 (some nz_) (.pair .int (.slice (.slice .int))) l5_m7)]),2⟩) ?_ ?_
 ·intro v_ h;refine Al ?_;refine Ai ?_;refine A4 h (fun t_ S_=>∃ (l7_m8:List (List Int)),∃ (l7_m9:Nat),∃ (l7_m7:List (Int×List (List Int))),t_=(l7_m8,l7_m9,l7_m7)∧S_=⟨Am [(0,ai a0),(2,ai a2),(4,.box (oi 0 1) 0),(7,.own (oi 1 1) (.pair .int (.slice (.slice .int))) 0 l7_m7.length),(8,.ftr nz_ (.slice .int) l7_m8),(9,ai ((l7_m9:Nat):Int))],Ak (Ao [(oi 0 1,.cells 41 [ai a1_0,ai a1_1,ai a1_2,.tree (.slice .int) a1_3,.tree (.slice .int) a1_4,.tree (.slice .int) a1_5,.tree (.slice .int) a1_6]),(oi 1 1,.tv 47 (some nz_) (.pair .int (.slice (.slice .int))) l7_m7)]),2⟩) ⟨_,(Agz 7 47 (some nz_) (.pair .int (.slice (.slice .int))) (by kernel_rfl)).trans (Ac [(oi 0 1,oi 4 1),(oi 1 1,oi 7 9)]),⟨y4,0,[],rfl,rfl⟩⟩ ?_;rintro n_ _ _ c_ ⟨l7_m8,l7_m9,l7_m7,rfl,rfl⟩ h hn7
  (try dsimp only at h);unfold D9 at h;unfold Le;refine Ab ?_;refine Al ?_;rcases Ad h with ⟨q10,h⟩ | ⟨q10,h⟩
  ·have q10_:=of_decide_eq_true q10;refine Ag q10 ?_;refine Aj (tn_ ?_);refine wr_ ?_;refine At h (fun t_ S_=>∃ (l11_m8:List (List Int)),∃ (l11_m7:List (Int×List (List Int))),t_=(l11_m8,l11_m7)∧S_=⟨Am [(0,ai a0),(2,ai a2),(4,.box (oi 0 1) 0),(7,.own (oi 1 1) (.pair .int (.slice (.slice .int))) 0 l11_m7.length),(8,.ftr nz_ (.slice .int) l11_m8),(9,ai ((l7_m9:Nat):Int))],Ak (Ao [(oi 0 1,.cells 41 [ai a1_0,ai a1_1,ai a1_2,.tree (.slice .int) a1_3,.tree (.slice .int) a1_4,.tree (.slice .int) a1_5,.tree (.slice .int) a1_6]),(oi 1 1,.tv 47 (some nz_) (.pair .int (.slice (.slice .int))) l11_m7)]),2⟩) ?_ ?_
   ·intro v_ h;refine Ai ?_;refine Ab ?_;refine Al ?_;rcases Ad h with ⟨q14,h⟩ | ⟨q14,h⟩
    ·refine Ag q14 ?_;refine Ab ?_;obtain ⟨y16,h16,h⟩:=Ae h;obtain ⟨g17,h⟩:=As h;refine Az 17 ?_;refine dz0 (.own (oi 1 1) (.pair .int (.slice (.slice .int))) 0 l7_m7.length) ?_;refine dz0 (.box (oi 0 1) 2) ?_;refine dzl (ai a1_2) ?_;refine dz0 (.box (oi 0 1) 6) ?_;refine dzl (.tree (.slice .int) a1_6) ?_;refine Cp (.ftr nz_ (.slice .int) y16) [] [.tree (.slice .int) a1_6] _ (caps:=[]) (args0:=[.tree (.slice .int) a1_6]) trivial (by kernel_rfl) (Ni (Pr h16)) P5 ?_;refine dz0 (.agg [ai a1_2,.ftr nz_ (.slice .int) y16]) ?_;refine W0 (.own (oi 27 14) (.pair .int (.slice (.slice .int))) 0 1) (oi 27 14) (.vec 47 2 1 (tvC (some nz_) (.pair .int (.slice (.slice .int))) ([(a1_2,y16)]))) trivial (Ja (by kernel_rfl)) ?_;refine ds2 (.own (oi 1 15) (.pair .int (.slice (.slice .int))) 0 (l7_m7.length+1)) (oi 1 1) (oi 1 15) (.vec 47 2 (l7_m7.length+1) (tvC (some nz_) (.pair .int (.slice (.slice .int))) (l7_m7++[(a1_2,y16)]))) (Xn (t':=.pair .int (.slice (.slice .int))) (t:=.pair .int (.slice (.slice .int))) (t2:=.pair .int (.slice (.slice .int))) (e2:=47) (q:=oi 27 14) (m:=some nz_) (z:=(a1_2,y16)) (o:=oi 1 1) (xs:=l7_m7) (len:=l7_m7.length) (by kernel_rfl) (by kernel_rfl) rfl (by kernel_rfl) (by kernel_rfl) g17) ?_;refine dz0 (.own (oi 1 15) (.pair .int (.slice (.slice .int))) 0 (l7_m7.length+1)) ?_;refine Gg (Bg (by kernel_rfl)) (tn_ ?_);refine ⟨_,Qb (N:=l7_m7.length+1) (oi 1 15) 47 (some nz_) (.pair .int (.slice (.slice .int))) (l7_m7++[(a1_2,y16)]) (by kernel_rfl) (by simp),?_⟩;refine A0 (te_ (be_ (tn_ ?_)));obtain rfl:=zj h;exact ⟨_,(Br 7 (.own (oi 1 15) (.pair .int (.slice (.slice .int))) 0 (l7_m7.length+1)) (.own (oi 1 15) (.pair .int (.slice (.slice .int))) 0 ((l7_m7++[(a1_2,y16)]).length)) (by kernel_rfl) (congrArg (fun z_=>((.own (oi 1 15) (.pair .int (.slice (.slice .int))) 0 z_):AV)) ((by simp):l7_m7.length+1=(l7_m7++[(a1_2,y16)]).length))).trans (Ac [(oi 1 1,oi 1 15)]),⟨l7_m8,l7_m7++[(a1_2,y16)],rfl,rfl⟩⟩
    refine Af q14 ?_;refine Aj (tn_ ?_);refine wr_ ?_;refine Ab ?_;obtain ⟨y19,h19,h⟩:=Ae h;obtain ⟨g20,h⟩:=As h;refine Az 21 ?_;refine dz0 (.own (oi 1 1) (.pair .int (.slice (.slice .int))) 0 l7_m7.length) ?_;refine dz0 (.box (oi 0 1) 2) ?_;refine dzl (ai a1_2) ?_;refine dz0 (ai a0) ?_;refine dz0 (.box (oi 0 1) 2) ?_;refine dzl (ai a1_2) ?_;refine dz0 (.ftr nz_ (.slice .int) l7_m8) ?_;refine dz0 (.box (oi 0 1) 5) ?_;refine dzl (.tree (.slice .int) a1_5) ?_;refine Cp (.ftr nz_ (.slice .int) y19) [] [ai a0,ai a1_2,.ftr nz_ (.slice .int) l7_m8,.tree (.slice .int) a1_5] _ (caps:=[]) (args0:=[ai a0,ai a1_2,.tree (.slice .int) l7_m8,.tree (.slice .int) a1_5]) trivial (by kernel_rfl) (Ni (Om h19)) Oo ?_;refine dz0 (.agg [ai a1_2,.ftr nz_ (.slice .int) y19]) ?_;refine W0 (.own (oi 40 18) (.pair .int (.slice (.slice .int))) 0 1) (oi 40 18) (.vec 47 2 1 (tvC (some nz_) (.pair .int (.slice (.slice .int))) ([(a1_2,y19)]))) trivial (Ja (by kernel_rfl)) ?_;refine ds2 (.own (oi 1 19) (.pair .int (.slice (.slice .int))) 0 (l7_m7.length+1)) (oi 1 1) (oi 1 19) (.vec 47 2 (l7_m7.length+1) (tvC (some nz_) (.pair .int (.slice (.slice .int))) (l7_m7++[(a1_2,y19)]))) (Xn (t':=.pair .int (.slice (.slice .int))) (t:=.pair .int (.slice (.slice .int))) (t2:=.pair .int (.slice (.slice .int))) (e2:=47) (q:=oi 40 18) (m:=some nz_) (z:=(a1_2,y19)) (o:=oi 1 1) (xs:=l7_m7) (len:=l7_m7.length) (by kernel_rfl) (by kernel_rfl) rfl (by kernel_rfl) (by kernel_rfl) g20) ?_;refine dz0 (.own (oi 1 19) (.pair .int (.slice (.slice .int))) 0 (l7_m7.length+1)) ?_;refine Gg (Bg (by kernel_rfl)) (tn_ ?_);refine ⟨_,Qb (N:=l7_m7.length+1) (oi 1 19) 47 (some nz_) (.pair .int (.slice (.slice .int))) (l7_m7++[(a1_2,y19)]) (by kernel_rfl) (by simp),?_⟩;obtain ⟨y21,h21,h⟩:=Ae h;refine Aa 29 ?_;refine rz0 (ai a0) ?_;refine rz0 (.box (oi 0 1) 0) ?_;refine rzl (ai a1_0) ?_;refine rz0 (.ftr nz_ (.slice .int) l7_m8) ?_;refine rz0 (.box (oi 0 1) 3) ?_;refine rzl (.tree (.slice .int) a1_3) ?_;refine Bk (.ftr nz_ (.slice .int) y21) [] [ai a0,ai a1_0,.ftr nz_ (.slice .int) l7_m8,.tree (.slice .int) a1_3] _ (caps:=[]) (args0:=[ai a0,ai a1_0,.tree (.slice .int) l7_m8,.tree (.slice .int) a1_3]) trivial (by kernel_rfl) (Ni (Om h21)) Oo ?_;refine rsB 1 ?_;refine Ap (bn_ (tn_ ?_));obtain rfl:=zj h;exact ⟨_,(Br 7 (.own (oi 1 19) (.pair .int (.slice (.slice .int))) 0 (l7_m7.length+1)) (.own (oi 1 19) (.pair .int (.slice (.slice .int))) 0 ((l7_m7++[(a1_2,y19)]).length)) (by kernel_rfl) (congrArg (fun z_=>((.own (oi 1 19) (.pair .int (.slice (.slice .int))) 0 z_):AV)) ((by simp):l7_m7.length+1=(l7_m7++[(a1_2,y19)]).length))).trans (Ac [(oi 1 1,oi 1 19)]),⟨y21,l7_m7++[(a1_2,y19)],rfl,rfl⟩⟩
   rintro _ _ ⟨l11_m8,l11_m7,rfl,rfl⟩ h
   (try dsimp only at h);obtain ⟨g22,h⟩:=As h;refine Aa 5 ?_;refine rz0 (ai ((l7_m9:Nat):Int)) ?_;refine rs0 (ai ((l7_m9+1:Nat):Int)) (za g22) ?_;refine rsB 1 ?_;refine Ap (tn_ ?_);obtain rfl:=zj h;exact ⟨(l11_m8,l7_m9+1,l11_m7),_,Ac [],⟨l11_m8,l7_m9+1,l11_m7,rfl,rfl⟩,hn7⟩
  have q10_:=of_decide_eq_false q10;refine Af q10 ?_;refine A0 (te_ (te_ (be_ (tn_ ?_))));obtain rfl:=zj h;have h:=hn7
  (try dsimp only at h);obtain rfl:=zj h;exact ⟨_,Ac [(oi 0 1,oi 1 1)],rfl⟩
 rintro l5_m7 _ rfl h
 (try dsimp only at h);refine Al ?_;refine Ah ?_;obtain rfl:=zj h;exact Lw [(false,[.own (oi 0 1) (.pair .int (.slice (.slice .int))) 0 l5_m7.length])] (Jg (Bp (.tv (e:=47) (by kernel_rfl) rfl)) Il)
def Gi:AC :=
 (.seq (rg [xo 16 (qb .lss (tm 15) (tm 14))])
 (.seq (.cond (tm 16)
  .skip
  (.exit 0))
 (.seq (.block 1 (.seq (rg [xo 17 (qm (tm 15)),xo 9 (qm (tm 17))])
 (.seq (.seq (rg [xo 18 (qm (tm 9)),xo 19 (qb .eql (tm 18) (ci 0))])
 (.cond (tm 19)
  (.seq (.region [xo 20 (qm (tm 7)),xo 21 (qf 2 (tm 3)),xo 22 (ql (tm 21)),xo 23 (qf 6 (tm 3)),xo 24 (ql (tm 23)),xo 25 (qc 31 [tm 24] [[some (.slice .int)]]),xo 26 (.build [.int .i64 0,.nils] [(0,1,tm 22),(1,1,tm 25)]),⟨some 27,none,.mkV 47 (.pair .int (.slice (.slice .int))) 2 [tm 26]⟩,⟨some 28,none,.appV 47 (.pair .int (.slice (.slice .int))) 32 (tm 20) (tm 27)⟩,xo 7 (qm (tm 28))] true [(2,5)])
  (.exit 1))
  .skip))
 (.seq (.region [xo 29 (qm (tm 7)),xo 30 (qf 2 (tm 3)),xo 31 (ql (tm 30)),xo 32 (qm (tm 1)),xo 33 (qm (tm 8)),xo 34 (qf 5 (tm 3)),xo 35 (ql (tm 34)),xo 36 (qf 2 (tm 3)),xo 37 (ql (tm 36)),xo 38 (qc 32 [tm 32,tm 33,tm 35,tm 37] [[],[some (.slice .int)],[some (.slice .int)],[]]),xo 39 (.build [.int .i64 0,.nils] [(0,1,tm 31),(1,1,tm 38)]),⟨some 40,none,.mkV 47 (.pair .int (.slice (.slice .int))) 2 [tm 39]⟩,⟨some 41,none,.appV 47 (.pair .int (.slice (.slice .int))) 32 (tm 29) (tm 40)⟩,xo 7 (qm (tm 41))] true [(2,9)])
 (rg [xo 42 (qm (tm 1)),xo 43 (qm (tm 8)),xo 44 (qf 3 (tm 3)),xo 45 (ql (tm 44)),xo 46 (qf 0 (tm 3)),xo 47 (ql (tm 46)),xo 48 (qc 32 [tm 42,tm 43,tm 45,tm 47] [[],[some (.slice .int)],[some (.slice .int)],[]]),xo 8 (qm (tm 48))])))))
 (rg [xo 49 (qb .add (tm 15) (ci 1)),xo 15 (qm (tm 49))]))))
def Hj:AC :=
 (.seq (rg [xo 3 (.i (.box 41 (tm 0))),xo 6 (qm (.cst .nils))])
 (.seq (rg [⟨some 10,none,.mkV 47 (.pair .int (.slice (.slice .int))) 2 []⟩,xo 7 (qm (tm 10))])
 (.seq (rg [xo 11 (qf 4 (tm 3)),xo 12 (ql (tm 11)),xo 13 (qc 31 [tm 12] [[some (.slice .int)]]),xo 8 (qm (tm 13))])
 (.seq (.seq (rg [xo 14 (qm (tm 2)),xo 15 (qm (ci 0))])
 (.block 0 (.loop Gi)))
 (.seq (rg [xo 50 (qm (tm 7)),xo 6 (qm (tm 50))])
 .ret)))))
def Me:List Res:=[.tmp 6]
theorem Mm:Aq Tryd.prog Tryd.f19=some (Hj,Me):=by kernel_rfl
theorem G5:Ba Tryd.prog 19=true:=by kernel_rfl
def B8 (a2:Int) (a0_6:List (List Int)) (a0_2:Int) (a1:Int) (a0_5:List (List Int)) (a0_3:List (List Int)) (a0_0:Int) (l7_m8:List (List Int)) (l7_m15:Nat) (l7_m7:List (Int×List (List Int))):Option (Ctl (List (List Int)×Nat×(List (Int×List (List Int)))) (List (Int×List (List Int)))) :=
 cond (decide (((l7_m15:Nat):Int)<a2))
 (Option.bind (cond (((l7_m15:Nat):Int)==0)
   (Option.bind (F9 a0_6) fun y17 =>
   og (l7_m7.length+1<=1073741824∧(l7_m7.length+1)*32<=140737488355328) <|
   some (l7_m8,l7_m7++[(a0_2,y17)]))
   (Option.bind (Fh a1 l7_m8 a0_5 a0_2) fun y20 =>
   og (l7_m7.length+1<=1073741824∧(l7_m7.length+1)*32<=140737488355328) <|
   Option.bind (Fh a1 l7_m8 a0_3 a0_0) fun y22 =>
   some (y22,l7_m7++[(a0_2,y20)]))) fun (l11_m8,l11_m7) =>
 og (l7_m15+1<4611686018427387904) <|
 some (Ctl.next (l11_m8,l7_m15+1,l11_m7)))
 (some (Ctl.out l7_m7))
def B5 (a0_0:Int) (a0_1:Int) (a0_2:Int) (a0_3:List (List Int)) (a0_4:List (List Int)) (a0_5:List (List Int)) (a0_6:List (List Int)) (a1:Int) (a2:Int):Option (List (Int×List (List Int))) :=
 Option.bind (F9 a0_4) fun y4 =>
Option.bind (A3 (fun s_:List (List Int)×Nat×(List (Int×List (List Int)))=>B8 a2 a0_6 a0_2 a1 a0_5 a0_3 a0_0 s_.1 s_.2.1 s_.2.2) 4611686018427387904 (y4,0,[])) fun l5_m7 =>
some l5_m7
def Lq (r:List (Int×List (List Int))):RV:=⟨false,[(false,[.frz (.tree (.pair .int (.slice (.slice .int))) r)])]⟩
theorem G4 {a0_0:Int} {a0_1:Int} {a0_2:Int} {a0_3:List (List Int)} {a0_4:List (List Int)} {a0_5:List (List Int)} {a0_6:List (List Int)} {a1:Int} {a2:Int} {r:List (Int×List (List Int))} (h:B5 a0_0 a0_1 a0_2 a0_3 a0_4 a0_5 a0_6 a1 a2=some r):A1 Tryd.prog Tab 19 [.agg [ai a0_0,ai a0_1,ai a0_2,.tree (.slice .int) a0_3,.tree (.slice .int) a0_4,.tree (.slice .int) a0_5,.tree (.slice .int) a0_6],ai a1,ai a2] (Lq r):=by
 refine Gr (by kernel_rfl) Tryd.func19 Mm (n:=51) (by kernel_rfl) (by simp) (tl:=[(0,.agg [ai a0_0,ai a0_1,ai a0_2,.tree (.slice .int) a0_3,.tree (.slice .int) a0_4,.tree (.slice .int) a0_5,.tree (.slice .int) a0_6]),(1,ai a1),(2,ai a2)]) rfl fun nz_=>?_
 unfold Hj;unfold B5 at h;refine Al ?_;refine Ab ?_;refine Aa 5 ?_;refine Aj0 (.own (oi 10 3) (.pair .int (.slice (.slice .int))) 0 0) (oi 10 3) (.vec 47 2 0 (tvC (some nz_) (.pair .int (.slice (.slice .int))) [])) trivial (Ja (by kernel_rfl)) ?_;refine rsB 1 ?_;refine Ap (tn_ ?_);refine ⟨_,Qb (N:=0) (oi 10 3) 47 (some nz_) (.pair .int (.slice (.slice .int))) [] (by kernel_rfl) rfl,?_⟩;refine Ab ?_;obtain ⟨y4,h4,h⟩:=Ae h;refine Aa 9 ?_;refine rz0 (.box (oi 3 1) 4) ?_;refine rzl (.tree (.slice .int) a0_4) ?_;refine Bk (.ftr nz_ (.slice .int) y4) [] [.tree (.slice .int) a0_4] _ (caps:=[]) (args0:=[.tree (.slice .int) a0_4]) trivial (by kernel_rfl) (Ni (Pw h4)) Pu ?_;refine rsB 1 ?_;refine Ap (tn_ ?_);refine wr_ ?_;refine At h (fun (l5_m7:List (Int×List (List Int))) S_=>S_=⟨Am [(7,.own (oi 0 1) (.pair .int (.slice (.slice .int))) 0 l5_m7.length)],Ak (Ao [(oi 0 1,.tv 47 (some nz_) (.pair .int (.slice (.slice .int))) l5_m7)]),2⟩) ?_ ?_
 ·intro v_ h;refine Al ?_;refine Ai ?_;refine A4 h (fun t_ S_=>∃ (l7_m8:List (List Int)),∃ (l7_m15:Nat),∃ (l7_m7:List (Int×List (List Int))),t_=(l7_m8,l7_m15,l7_m7)∧S_=⟨Am [(1,ai a1),(3,.box (oi 0 1) 0),(7,.own (oi 1 1) (.pair .int (.slice (.slice .int))) 0 l7_m7.length),(8,.ftr nz_ (.slice .int) l7_m8),(14,ai a2),(15,ai ((l7_m15:Nat):Int))],Ak (Ao [(oi 0 1,.cells 41 [ai a0_0,ai a0_1,ai a0_2,.tree (.slice .int) a0_3,.tree (.slice .int) a0_4,.tree (.slice .int) a0_5,.tree (.slice .int) a0_6]),(oi 1 1,.tv 47 (some nz_) (.pair .int (.slice (.slice .int))) l7_m7)]),2⟩) ⟨_,Ac [(oi 0 1,oi 3 1),(oi 1 1,oi 10 3)],⟨y4,0,[],rfl,rfl⟩⟩ ?_;rintro n_ _ _ c_ ⟨l7_m8,l7_m15,l7_m7,rfl,rfl⟩ h hn7
  (try dsimp only at h);unfold B8 at h;unfold Gi;refine Al ?_;refine Ab ?_;rcases Ad h with ⟨q10,h⟩ | ⟨q10,h⟩
  ·have q10_:=of_decide_eq_true q10;refine Ag q10 ?_;refine Aj (tn_ ?_);refine wr_ ?_;refine At h (fun t_ S_=>∃ (l11_m8:List (List Int)),∃ (l11_m7:List (Int×List (List Int))),t_=(l11_m8,l11_m7)∧S_=⟨Am [(1,ai a1),(3,.box (oi 0 1) 0),(7,.own (oi 1 1) (.pair .int (.slice (.slice .int))) 0 l11_m7.length),(8,.ftr nz_ (.slice .int) l11_m8),(14,ai a2),(15,ai ((l7_m15:Nat):Int))],Ak (Ao [(oi 0 1,.cells 41 [ai a0_0,ai a0_1,ai a0_2,.tree (.slice .int) a0_3,.tree (.slice .int) a0_4,.tree (.slice .int) a0_5,.tree (.slice .int) a0_6]),(oi 1 1,.tv 47 (some nz_) (.pair .int (.slice (.slice .int))) l11_m7)]),2⟩) ?_ ?_
   ·intro v_ h;refine Ai ?_;refine Al ?_;refine Ab ?_;refine Al ?_;rcases Ad h with ⟨q15,h⟩ | ⟨q15,h⟩
    ·refine Ag q15 ?_;refine Ab ?_;obtain ⟨y17,h17,h⟩:=Ae h;obtain ⟨g18,h⟩:=As h;refine Az 17 ?_;refine dz0 (.own (oi 1 1) (.pair .int (.slice (.slice .int))) 0 l7_m7.length) ?_;refine dz0 (.box (oi 0 1) 2) ?_;refine dzl (ai a0_2) ?_;refine dz0 (.box (oi 0 1) 6) ?_;refine dzl (.tree (.slice .int) a0_6) ?_;refine Cp (.ftr nz_ (.slice .int) y17) [] [.tree (.slice .int) a0_6] _ (caps:=[]) (args0:=[.tree (.slice .int) a0_6]) trivial (by kernel_rfl) (Ni (Pw h17)) Pu ?_;refine dz0 (.agg [ai a0_2,.ftr nz_ (.slice .int) y17]) ?_;refine W0 (.own (oi 27 14) (.pair .int (.slice (.slice .int))) 0 1) (oi 27 14) (.vec 47 2 1 (tvC (some nz_) (.pair .int (.slice (.slice .int))) ([(a0_2,y17)]))) trivial (Ja (by kernel_rfl)) ?_;refine ds2 (.own (oi 1 15) (.pair .int (.slice (.slice .int))) 0 (l7_m7.length+1)) (oi 1 1) (oi 1 15) (.vec 47 2 (l7_m7.length+1) (tvC (some nz_) (.pair .int (.slice (.slice .int))) (l7_m7++[(a0_2,y17)]))) (Xn (t':=.pair .int (.slice (.slice .int))) (t:=.pair .int (.slice (.slice .int))) (t2:=.pair .int (.slice (.slice .int))) (e2:=47) (q:=oi 27 14) (m:=some nz_) (z:=(a0_2,y17)) (o:=oi 1 1) (xs:=l7_m7) (len:=l7_m7.length) (by kernel_rfl) (by kernel_rfl) rfl (by kernel_rfl) (by kernel_rfl) g18) ?_;refine dz0 (.own (oi 1 15) (.pair .int (.slice (.slice .int))) 0 (l7_m7.length+1)) ?_;refine Gg (Bg (by kernel_rfl)) (tn_ ?_);refine ⟨_,Qb (N:=l7_m7.length+1) (oi 1 15) 47 (some nz_) (.pair .int (.slice (.slice .int))) (l7_m7++[(a0_2,y17)]) (by kernel_rfl) (by simp),?_⟩;refine A0 (te_ (be_ (tn_ ?_)));obtain rfl:=zj h;exact ⟨_,(Br 7 (.own (oi 1 15) (.pair .int (.slice (.slice .int))) 0 (l7_m7.length+1)) (.own (oi 1 15) (.pair .int (.slice (.slice .int))) 0 ((l7_m7++[(a0_2,y17)]).length)) (by kernel_rfl) (congrArg (fun z_=>((.own (oi 1 15) (.pair .int (.slice (.slice .int))) 0 z_):AV)) ((by simp):l7_m7.length+1=(l7_m7++[(a0_2,y17)]).length))).trans (Ac [(oi 1 1,oi 1 15)]),⟨l7_m8,l7_m7++[(a0_2,y17)],rfl,rfl⟩⟩
    refine Af q15 ?_;refine Aj (tn_ ?_);refine wr_ ?_;refine Ab ?_;obtain ⟨y20,h20,h⟩:=Ae h;obtain ⟨g21,h⟩:=As h;refine Az 21 ?_;refine dz0 (.own (oi 1 1) (.pair .int (.slice (.slice .int))) 0 l7_m7.length) ?_;refine dz0 (.box (oi 0 1) 2) ?_;refine dzl (ai a0_2) ?_;refine dz0 (ai a1) ?_;refine dz0 (.ftr nz_ (.slice .int) l7_m8) ?_;refine dz0 (.box (oi 0 1) 5) ?_;refine dzl (.tree (.slice .int) a0_5) ?_;refine dz0 (.box (oi 0 1) 2) ?_;refine dzl (ai a0_2) ?_;refine Cp (.ftr nz_ (.slice .int) y20) [] [ai a1,.ftr nz_ (.slice .int) l7_m8,.tree (.slice .int) a0_5,ai a0_2] _ (caps:=[]) (args0:=[ai a1,.tree (.slice .int) l7_m8,.tree (.slice .int) a0_5,ai a0_2]) trivial (by kernel_rfl) (Ni (Oz h20)) Ok ?_;refine dz0 (.agg [ai a0_2,.ftr nz_ (.slice .int) y20]) ?_;refine W0 (.own (oi 40 18) (.pair .int (.slice (.slice .int))) 0 1) (oi 40 18) (.vec 47 2 1 (tvC (some nz_) (.pair .int (.slice (.slice .int))) ([(a0_2,y20)]))) trivial (Ja (by kernel_rfl)) ?_;refine ds2 (.own (oi 1 19) (.pair .int (.slice (.slice .int))) 0 (l7_m7.length+1)) (oi 1 1) (oi 1 19) (.vec 47 2 (l7_m7.length+1) (tvC (some nz_) (.pair .int (.slice (.slice .int))) (l7_m7++[(a0_2,y20)]))) (Xn (t':=.pair .int (.slice (.slice .int))) (t:=.pair .int (.slice (.slice .int))) (t2:=.pair .int (.slice (.slice .int))) (e2:=47) (q:=oi 40 18) (m:=some nz_) (z:=(a0_2,y20)) (o:=oi 1 1) (xs:=l7_m7) (len:=l7_m7.length) (by kernel_rfl) (by kernel_rfl) rfl (by kernel_rfl) (by kernel_rfl) g21) ?_;refine dz0 (.own (oi 1 19) (.pair .int (.slice (.slice .int))) 0 (l7_m7.length+1)) ?_;refine Gg (Bg (by kernel_rfl)) (tn_ ?_);refine ⟨_,Qb (N:=l7_m7.length+1) (oi 1 19) 47 (some nz_) (.pair .int (.slice (.slice .int))) (l7_m7++[(a0_2,y20)]) (by kernel_rfl) (by simp),?_⟩;obtain ⟨y22,h22,h⟩:=Ae h;refine Aa 29 ?_;refine rz0 (ai a1) ?_;refine rz0 (.ftr nz_ (.slice .int) l7_m8) ?_;refine rz0 (.box (oi 0 1) 3) ?_;refine rzl (.tree (.slice .int) a0_3) ?_;refine rz0 (.box (oi 0 1) 0) ?_;refine rzl (ai a0_0) ?_;refine Bk (.ftr nz_ (.slice .int) y22) [] [ai a1,.ftr nz_ (.slice .int) l7_m8,.tree (.slice .int) a0_3,ai a0_0] _ (caps:=[]) (args0:=[ai a1,.tree (.slice .int) l7_m8,.tree (.slice .int) a0_3,ai a0_0]) trivial (by kernel_rfl) (Ni (Oz h22)) Ok ?_;refine rsB 1 ?_;refine Ap (bn_ (tn_ ?_));obtain rfl:=zj h;exact ⟨_,(Br 7 (.own (oi 1 19) (.pair .int (.slice (.slice .int))) 0 (l7_m7.length+1)) (.own (oi 1 19) (.pair .int (.slice (.slice .int))) 0 ((l7_m7++[(a0_2,y20)]).length)) (by kernel_rfl) (congrArg (fun z_=>((.own (oi 1 19) (.pair .int (.slice (.slice .int))) 0 z_):AV)) ((by simp):l7_m7.length+1=(l7_m7++[(a0_2,y20)]).length))).trans (Ac [(oi 1 1,oi 1 19)]),⟨y22,l7_m7++[(a0_2,y20)],rfl,rfl⟩⟩
   rintro _ _ ⟨l11_m8,l11_m7,rfl,rfl⟩ h
   (try dsimp only at h);obtain ⟨g23,h⟩:=As h;refine Aa 4 ?_;refine rs0 (ai ((l7_m15+1:Nat):Int)) (za g23) ?_;refine rsB 1 ?_;refine Ap (tn_ ?_);obtain rfl:=zj h;exact ⟨(l11_m8,l7_m15+1,l11_m7),_,Ac [],⟨l11_m8,l7_m15+1,l11_m7,rfl,rfl⟩,hn7⟩
  have q10_:=of_decide_eq_false q10;refine Af q10 ?_;refine A0 (te_ (te_ (be_ (tn_ ?_))));obtain rfl:=zj h;have h:=hn7
  (try dsimp only at h);obtain rfl:=zj h;exact ⟨_,Ac [(oi 0 1,oi 1 1)],rfl⟩
 rintro l5_m7 _ rfl h
 (try dsimp only at h);refine Al ?_;refine Ah ?_;obtain rfl:=zj h;exact Lw [(false,[.own (oi 0 1) (.pair .int (.slice (.slice .int))) 0 l5_m7.length])] (Jg (Bp (.tv (e:=47) (by kernel_rfl) rfl)) Il)
end
end Go.Proofs.YtmflebjoidoiiaaDoor
