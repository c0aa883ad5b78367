/- Lemmas on the program and on partial functions that stand in place of its code (part 7); no condition beyond those that each one states. -/
import Derived.Test.YtkaollfdhoaihaaDoorZ6
namespace Go.Proofs.YtkaollfdhoaihaaDoor
section
open Go.RowKit Go.Deep
set_option maxRecDepth 4000
def O1:AC :=
 (.seq (rg [xo 13 (qb .lss (tm 12) (tm 11))])
 (.seq (.cond (tm 13)
  .skip
  (.exit 0))
 (.seq (.block 1 (.seq (rg [xo 14 (qx 1 (tm 10) (tm 12)),xo 15 (ql (tm 14)),xo 5 (qm (tm 15))])
 (.region [xo 16 (qf 1 (tm 3)),xo 17 (ql (tm 16)),xo 18 (qm (tm 5)),xo 19 (qc 41 [tm 18] [[some .int]]),xo 20 (.mkV 23 (.slice .int) 1 [tm 19]),xo 21 (.appV 23 (.slice .int) 24 (tm 17) (tm 20)),xo 22 (qf 1 (tm 3)),xn (qs (tm 22) (tm 21))] true [(1,3),(1,4)])))
 (rg [xo 23 (qb .add (tm 12) (ci 1)),xo 12 (qm (tm 23))]))))
def Tf:AC :=
 (.seq (rg [xo 1 (.i (.box 64 (tm 0))),xo 2 (.i (.alloc 64 [.int .i64 0,.nils]))])
 (.seq (rg [xo 6 (qf 0 (tm 1)),xo 7 (ql (tm 6)),xo 8 (.build [.int .i64 0,.nils] [(0,1,tm 7)]),xo 3 (.i (.alloc 64 [.int .i64 0,.nils])),xn (.st false 2 (tm 3) (tm 8))])
 (.seq (.seq (rg [xo 9 (qf 1 (tm 1)),xo 10 (ql (tm 9)),xo 11 (.i (.len (tm 10))),xo 12 (qm (ci 0))])
 (.block 0 (.loop O1)))
 (.seq (rg [xo 24 (.i (.ld false 2 (tm 3))),xn (.st false 2 (tm 2) (tm 24))])
 .ret))))
def Acm:List Res:=[.cell 2 false 2]
theorem Adc:Aw Tryd.prog Tryd.f89=some (Tf,Acm):=by kernel_rfl
theorem Aak:A6 Tryd.prog 89=true:=by kernel_rfl
def Eg (a0_1:List (List Int)) (l6_m12:Nat) (l6_m3_1:List (List Int)):Option (Ctl (Nat×List (List Int)) (List (List Int))) :=
 cond (decide (((l6_m12:Nat):Int)<((a0_1.length:Nat):Int)))
 (Option.bind (a0_1[l6_m12]?) fun x12 =>
 Option.bind (Cw x12) fun y13 =>
 og (l6_m3_1.length+1<=1073741824∧(l6_m3_1.length+1)*24<=140737488355328) <|
 og (l6_m12+1<4611686018427387904) <|
 some (Ctl.next (l6_m12+1,l6_m3_1++[y13])))
 (some (Ctl.out l6_m3_1))
def Ja (a0_0:Int) (a0_1:List (List Int)):Option (List (List Int)) :=
 Option.bind (Av (fun s_:Nat×List (List Int)=>Eg a0_1 s_.1 s_.2) 4611686018427387904 (0,([]:List (List Int)))) fun l4_m3_1 =>
some l4_m3_1
theorem Ab1 {a0_0:Int} {a0_1:List (List Int)} {r:List (List Int)} (h:Ja a0_0 a0_1=some r):Fi Tryd.prog Tab 89 [.agg [ai a0_0,.tree (.slice .int) a0_1]] [] (.agg [ai a0_0,.own (oi 1 1) (.slice .int) 0 r.length]) [(oi 0 1,.cells 64 [ai a0_0,.own (oi 1 1) (.slice .int) 0 r.length]),(oi 1 1,.mat 23 (oi 2 1) .int r),(oi 2 1,.pool 3 .int r)]:=by
 refine B8 (by kernel_rfl) Tryd.func89 Adc (n:=25) (by kernel_rfl) (by simp) (tl:=[(0,.agg [ai a0_0,.tree (.slice .int) a0_1])]) rfl (by kernel_rfl) trivial ⟨trivial,⟨⟨3,.tail _ (.tail _ (.head _))⟩,⟨trivial,trivial⟩⟩⟩ ?_;unfold Tf;unfold Ja at h;refine An ?_;refine An ?_;refine As h (fun (l4_m3_1:List (List Int)) S_=>S_=⟨Ap [(2,.box (oi 0 1) 0),(3,.box (oi 1 1) 0)],Aj (Ar [(oi 0 1,.cells 64 [ai 0,.nils]),(oi 1 1,.cells 64 [ai a0_0,.own (oi 2 1) (.slice .int) 0 l4_m3_1.length]),(oi 2 1,.mat 23 (oi 3 1) .int l4_m3_1),(oi 3 1,.pool 3 .int l4_m3_1)]),2⟩) ?_ ?_
 ·intro v_ h;refine An ?_;refine Af ?_;refine Ax h (fun t_ S_=>∃ (l6_m12:Nat),∃ (l6_m3_1:List (List Int)),t_=(l6_m12,l6_m3_1)∧S_=⟨Ap [(2,.box (oi 0 1) 0),(3,.box (oi 1 1) 0),(10,.tree (.slice .int) a0_1),(11,ai ((a0_1.length:Nat):Int)),(12,ai ((l6_m12:Nat):Int))],Aj (Ar [(oi 0 1,.cells 64 [ai 0,.nils]),(oi 1 1,.cells 64 [ai a0_0,.own (oi 2 1) (.slice .int) 0 l6_m3_1.length]),(oi 2 1,.mat 23 (oi 3 1) .int l6_m3_1),(oi 3 1,.pool 3 .int l6_m3_1)]),2⟩) ⟨_,(Qj 9000 (oi 3 6) 1 64 [ai a0_0,.nils] [ai a0_0,.own (oi 9000 12) (.slice .int) 0 0] 23 (.slice .int) (by kernel_rfl) (by kernel_rfl) (by kernel_rfl)).trans ((Gt (e1:=23) (n:=0) 9000 (oi 9000 12) 3 .int (by kernel_rfl) (by kernel_rfl) rfl (by kernel_rfl) (by kernel_rfl)).trans (Ac [(oi 0 1,oi 2 2),(oi 1 1,oi 3 6),(oi 2 1,oi 9000 12),(oi 3 1,oi 9000 13)])),⟨0,([]:List (List Int)),rfl,rfl⟩⟩ ?_;rintro n_ _ _ c_ ⟨l6_m12,l6_m3_1,rfl,rfl⟩ h hn6
  (try dsimp only at h);unfold Eg at h;unfold O1;refine An ?_;refine Ab ?_;rcases Ae h with ⟨q9,h⟩ | ⟨q9,h⟩
  ·have q9_:=of_decide_eq_true q9;refine Ah q9 ?_;refine Ai (tn_ ?_);refine wr_ ?_;refine Ab ?_;refine Af ?_;refine Ab ?_;obtain ⟨x12,e12,h⟩:=Ad h;refine Aa 6 ?_;refine rs0 (.telt (.slice .int) x12 0) (zi (t:=.slice .int) (xs:=a0_1) (k:=.i64) (m:=((l6_m12:Nat):Int)) (At _) e12) ?_;refine rsB 2 ?_;refine Aq (tn_ ?_);refine wr_ ?_;obtain ⟨y13,h13,h⟩:=Ad h;obtain ⟨g14,h⟩:=Am h;refine Az 14 ?_;refine dz0 (.box (oi 1 1) 1) ?_;refine dzl (.own (oi 2 1) (.slice .int) 0 l6_m3_1.length) ?_;refine dz0 (.tree .int x12) ?_;refine D4 (.own (oi 304 9) .int 0 y13.length) [(oi 304 9,some (.arr 3 .int y13))] [.tree .int x12] _ (caps:=[]) (args0:=[.tree .int x12]) trivial (by kernel_rfl) (Hc h13) Iu ?_;refine Am1 (.own (oi 20 10) (.slice .int) 0 1) (oi 20 10) (.vec 23 1 1 ([.own (oi 304 9) .int 0 y13.length])) trivial (L7 (by kernel_rfl)) ?_;refine ds2 (.own (oi 2 11) (.slice .int) 0 (l6_m3_1.length+1)) (oi 2 1) (oi 2 11) (.vec 23 1 (l6_m3_1.length+1) (hdL (oi 3 1) .int l6_m3_1++[.own (oi 304 9) .int 0 y13.length])) (Jf (u:=.int) (t':=.slice .int) (t2:=.slice .int) (o:=oi 2 1) (q:=oi 20 10) (e2:=23) (p:=oi 3 1) (xss:=l6_m3_1) (cs:=[.own (oi 304 9) .int 0 y13.length]) (len:=l6_m3_1.length) (by kernel_rfl) (by kernel_rfl) rfl (by kernel_rfl) (by kernel_rfl) rfl g14) ?_;refine dz0 (.box (oi 1 1) 1) ?_;refine Mx (oi 1 1) (oi 1 1) (.cells 64 [ai a0_0,.own (oi 2 11) (.slice .int) 0 (l6_m3_1.length+1)]) (by kernel_rfl) ?_;refine Ft (Bd (by kernel_rfl)) (bn_ (tn_ ?_));refine ⟨_,Fb (e1:=23) (e:=3) (u:=.int) (n:=l6_m3_1.length+1) (len:=y13.length) (row:=y13) (ys:=y13) (xss:=l6_m3_1) 9000 (oi 2 11) (oi 3 1) (oi 304 9) (by kernel_rfl) (by kernel_rfl) rfl (by kernel_rfl) (by kernel_rfl) (Pf rfl) (Oo rfl) (by kernel_rfl) (by kernel_rfl) (by kernel_rfl),?_⟩;obtain ⟨g15,h⟩:=Am h;refine Aa 17 ?_;refine rs0 (ai ((l6_m12+1:Nat):Int)) (za g15) ?_;refine rsB 1 ?_;refine Aq (tn_ ?_);obtain rfl:=zj h;exact ⟨(l6_m12+1,l6_m3_1++[y13]),_,(Dy (oi 1 1) (.cells 64 [ai a0_0,.own (oi 2 11) (.slice .int) 0 (l6_m3_1.length+1)]) (.cells 64 [ai a0_0,.own (oi 2 11) (.slice .int) 0 ((l6_m3_1++[y13]).length)]) (by kernel_rfl) (congrArg (fun z_=>(.cells 64 [ai a0_0,.own (oi 2 11) (.slice .int) 0 z_]:Ob)) ((by simp):l6_m3_1.length+1=(l6_m3_1++[y13]).length))).trans (Ac [(oi 2 1,oi 2 11),(oi 3 1,oi 9000 14)]),⟨l6_m12+1,l6_m3_1++[y13],rfl,rfl⟩,hn6⟩
  have q9_:=of_decide_eq_false q9;refine Ag q9 ?_;refine Au (te_ (te_ (be_ (tn_ ?_))));obtain rfl:=zj h;have h:=hn6
  (try dsimp only at h);obtain rfl:=zj h;exact ⟨_,Ac [],rfl⟩
 rintro l4_m3_1 _ rfl h
 (try dsimp only at h);refine An ?_;refine Ao ?_;obtain rfl:=zj h;exact Gk [.agg [ai a0_0,.own (oi 1 1) (.slice .int) 0 l4_m3_1.length]] (Ac (tl:=[(2,.box (oi 0 1) 0)]) (g:=2) [(oi 1 1,oi 2 1),(oi 2 1,oi 3 1)])
def Rx:AC :=
 (.seq (.seq (rg [xo 8 (qm (tm 4)),xo 9 (qm (tm 0)),xo 10 (qb .lss (tm 8) (tm 9))])
 (.cond (tm 10)
  .skip
  (.exit 0)))
 (.seq (.block 1 (rg [xo 13 (qf 1 (tm 3)),xo 14 (ql (tm 13)),xo 15 (qm (tm 4)),xo 16 (qx 1 (tm 14) (tm 15)),xo 17 (ql (tm 16)),xo 18 (qm (tm 4)),xo 19 (qx 1 (tm 17) (tm 18)),xn (qs (tm 19) (ci 1))]))
 (rg [xo 11 (qm (tm 4)),xo 12 (qb .add (tm 11) (ci 1)),xo 4 (qm (tm 12))])))
def Yl:AC :=
 (.seq (rg [xo 2 (.i (.alloc 64 [.int .i64 0,.nils]))])
 (.seq (rg [xo 5 (qm (tm 0)),xo 6 (qm (tm 0)),xo 7 (qc 77 [tm 5,tm 6] [[],[]]),xo 3 (.i (.alloc 64 [.int .i64 0,.nils])),xn (.st false 2 (tm 3) (tm 7))])
 (.seq (.seq (rg [xo 4 (qm (ci 0))])
 (.block 0 (.loop Rx)))
 (.seq (rg [xo 20 (.i (.ld false 2 (tm 3))),xn (.st false 2 (tm 2) (tm 20))])
 .ret))))
def Ajk:List Res:=[.cell 2 false 2]
theorem Ah7:Aw Tryd.prog Tryd.f90=some (Yl,Ajk):=by kernel_rfl
theorem Ag9:A6 Tryd.prog 90=true:=by kernel_rfl
def Ic (a0:Int) (l7_m4:Nat) (l7_m3_1:List (List Int)):Option (Ctl (Nat×List (List Int)) (List (List Int))) :=
 cond (decide (((l7_m4:Nat):Int)<a0))
 (Option.bind (l7_m3_1[l7_m4]?) fun x12 =>
 Option.bind (x12[l7_m4]?) fun x13 =>
 og (l7_m4+1<4611686018427387904) <|
 some (Ctl.next (l7_m4+1,l7_m3_1.set l7_m4 (x12.set l7_m4 1))))
 (some (Ctl.out l7_m3_1))
def Ky (a0:Int):Option (List (List Int)) :=
 Option.bind (Fl a0 a0) fun y4 =>
Option.bind (Av (fun s_:Nat×List (List Int)=>Ic a0 s_.1 s_.2) 4611686018427387904 (0,y4)) fun l5_m3_1 =>
some l5_m3_1
theorem Af4 {a0:Int} {r:List (List Int)} (h:Ky a0=some r):Fi Tryd.prog Tab 90 [ai a0] [] (.agg [ai a0,.own (oi 1 1) (.slice .int) 0 r.length]) [(oi 0 1,.cells 64 [ai a0,.own (oi 1 1) (.slice .int) 0 r.length]),(oi 1 1,.mat 23 (oi 2 1) .int r),(oi 2 1,.pool 3 .int r)]:=by
 refine B8 (by kernel_rfl) Tryd.func90 Ah7 (n:=21) (by kernel_rfl) (by simp) (tl:=[(0,ai a0)]) rfl (by kernel_rfl) trivial ⟨trivial,⟨⟨3,.tail _ (.tail _ (.head _))⟩,⟨trivial,trivial⟩⟩⟩ ?_;unfold Yl;unfold Ky at h;refine An ?_;refine Ab ?_;obtain ⟨y4,h4,h⟩:=Ad h;refine Aa 7 ?_;refine rsB 2 ?_;refine C3 (.agg [ai a0,.own (oi 113 4) (.slice .int) 0 y4.length]) [(oi 112 4,some (.cells 64 [ai a0,.own (oi 113 4) (.slice .int) 0 y4.length])),(oi 113 4,some (.mat 23 (oi 114 4) .int y4)),(oi 114 4,some (.pool 3 .int y4))] [] [ai a0,ai a0] (caps:=[]) trivial (Mf h4) My trivial (.cons (.ren (by kernel_rfl)) (.cons (.ren (by kernel_rfl)) .nil)) (A7 (by kernel_rfl) (by kernel_rfl) trivial) ?_;refine rsB 2 ?_;refine Aq (tn_ ?_);refine wr_ ?_;refine As h (fun (l5_m3_1:List (List Int)) S_=>S_=⟨Ap [(2,.box (oi 0 1) 0),(3,.box (oi 1 1) 0)],Aj (Ar [(oi 0 1,.cells 64 [ai 0,.nils]),(oi 1 1,.cells 64 [ai a0,.own (oi 2 1) (.slice .int) 0 l5_m3_1.length]),(oi 2 1,.mat 23 (oi 3 1) .int l5_m3_1),(oi 3 1,.pool 3 .int l5_m3_1)]),2⟩) ?_ ?_
 ·intro v_ h;refine An ?_;refine Af ?_;refine Ax h (fun t_ S_=>∃ (l7_m4:Nat),∃ (l7_m3_1:List (List Int)),t_=(l7_m4,l7_m3_1)∧S_=⟨Ap [(0,ai a0),(2,.box (oi 0 1) 0),(3,.box (oi 1 1) 0),(4,ai ((l7_m4:Nat):Int))],Aj (Ar [(oi 0 1,.cells 64 [ai 0,.nils]),(oi 1 1,.cells 64 [ai a0,.own (oi 2 1) (.slice .int) 0 l7_m3_1.length]),(oi 2 1,.mat 23 (oi 3 1) .int l7_m3_1),(oi 3 1,.pool 3 .int l7_m3_1)]),2⟩) ⟨_,Ac [(oi 0 1,oi 2 1),(oi 1 1,oi 3 5),(oi 2 1,oi 113 4),(oi 3 1,oi 114 4)],⟨0,y4,rfl,rfl⟩⟩ ?_;rintro n_ _ _ c_ ⟨l7_m4,l7_m3_1,rfl,rfl⟩ h hn7
  (try dsimp only at h);unfold Ic at h;unfold Rx;refine Ab ?_;refine An ?_;rcases Ae h with ⟨q10,h⟩ | ⟨q10,h⟩
  ·have q10_:=of_decide_eq_true q10;refine Ah q10 ?_;refine Ai (tn_ ?_);refine wr_ ?_;refine Ab ?_;refine Af ?_;obtain ⟨x12,e12,h⟩:=Ad h;obtain ⟨x13,e13,h⟩:=Ad h;refine Aa 13 ?_;refine rsB 3 ?_;refine rs0 (.elt (oi 2 1) l7_m4 0) (zo (t:=.slice .int) (o:=oi 2 1) (len:=l7_m3_1.length) (k:=.i64) (m:=((l7_m4:Nat):Int)) (At _) (Al e12)) ?_;refine rsl (.own (kid (oi 3 1) l7_m4) .int 0 x12.length) (Bs (o:=oi 2 1) (p:=oi 3 1) (e1:=23) (u:=.int) (xss:=l7_m3_1) (row:=x12) (j:=l7_m4) (by kernel_rfl) (by kernel_rfl) e12) ?_;refine rsB 1 ?_;refine rs0 (.elt (kid (oi 3 1) l7_m4) l7_m4 0) (zo (t:=.int) (o:=kid (oi 3 1) l7_m4) (len:=x12.length) (k:=.i64) (m:=((l7_m4:Nat):Int)) (At _) (Al e13)) ?_;refine Nj (kid (oi 3 1) l7_m4) (kid (oi 3 1) l7_m4) (.arr 3 .int (x12.set l7_m4 1)) (Ep (i:=kid (oi 3 1) l7_m4) (j:=l7_m4) (k:=0) (e:=3) (t:=.int) (xs:=x12) (cs:=[ai 1]) (x1:=1) (by kernel_rfl) (A0 (by kernel_rfl) e12) e13 (by kernel_rfl) (by kernel_rfl)) ?_;refine Asv (Hh (o:=oi 2 1) (p:=oi 3 1) (e1:=23) (e:=3) (u:=.int) (xss:=l7_m3_1) (k:=l7_m4) (row:=x12) (row':=x12.set l7_m4 1) (by kernel_rfl) rfl (by kernel_rfl) e12 List.length_set) ?_;refine Aq (bn_ (tn_ ?_));refine wr_ ?_;obtain ⟨g14,h⟩:=Am h;refine Aa 16 ?_;refine rsB 1 ?_;refine rs0 (ai ((l7_m4+1:Nat):Int)) (za g14) ?_;refine rsB 1 ?_;refine Aq (tn_ ?_);obtain rfl:=zj h;exact ⟨(l7_m4+1,l7_m3_1.set l7_m4 (x12.set l7_m4 1)),_,(Dy (oi 1 1) (.cells 64 [ai a0,.own (oi 2 1) (.slice .int) 0 l7_m3_1.length]) (.cells 64 [ai a0,.own (oi 2 1) (.slice .int) 0 ((l7_m3_1.set l7_m4 (x12.set l7_m4 1)).length)]) (by kernel_rfl) (congrArg (fun z_=>(.cells 64 [ai a0,.own (oi 2 1) (.slice .int) 0 z_]:Ob)) ((Eq.trans (b:=l7_m3_1.length) rfl List.length_set.symm):l7_m3_1.length=(l7_m3_1.set l7_m4 (x12.set l7_m4 1)).length))).trans (Ac []),⟨l7_m4+1,l7_m3_1.set l7_m4 (x12.set l7_m4 1),rfl,rfl⟩,hn7⟩
  have q10_:=of_decide_eq_false q10;refine Ag q10 ?_;refine Au (te_ (te_ (be_ (tn_ ?_))));obtain rfl:=zj h;have h:=hn7
  (try dsimp only at h);obtain rfl:=zj h;exact ⟨_,Ac [],rfl⟩
 rintro l5_m3_1 _ rfl h
 (try dsimp only at h);refine An ?_;refine Ao ?_;obtain rfl:=zj h;exact Gk [.agg [ai a0,.own (oi 1 1) (.slice .int) 0 l5_m3_1.length]] (Ac (tl:=[(2,.box (oi 0 1) 0)]) (g:=2) [(oi 1 1,oi 2 1),(oi 2 1,oi 3 1)])
def Nr:AC :=
 (.seq (rg [xo 10 (qb .lss (tm 9) (tm 8))])
 (.seq (.cond (tm 10)
  .skip
  (.exit 0))
 (.seq (.block 1 (.seq (rg [xo 11 (qm (tm 9)),xo 6 (qm (tm 11))])
 (rg [xo 12 (qm (tm 1)),xo 13 (qm (tm 6)),xo 14 (qm (tm 0)),xo 15 (qm (tm 1)),xo 16 (qm (tm 6)),xo 17 (qx 1 (tm 15) (tm 16)),xo 18 (ql (tm 17)),xo 19 (qm (tm 2)),xo 20 (qc 79 [tm 14,tm 18,tm 19] [[],[],[]]),xo 21 (qx 1 (tm 12) (tm 13)),xn (qs (tm 21) (tm 20))])))
 (rg [xo 22 (qb .add (tm 9) (ci 1)),xo 9 (qm (tm 22))]))))
def R2:AC :=
 (.seq (rg [xo 7 (qm (tm 1)),xo 8 (.i (.len (tm 7))),xo 9 (qm (ci 0))])
 (.block 0 (.loop Nr)))
def Abm:List Res:=[]
theorem Aa6:Aw Tryd.prog Tryd.f91=some (R2,Abm):=by kernel_rfl
theorem Qx:A6 Tryd.prog 91=true:=by kernel_rfl
def Hr (n_a1:Nat) (a0:Int) (a2:Int) (l3_m9:Nat) (l3_m1:List Int):Option (Ctl (Nat×List Int) (List Int)) :=
 cond (decide (((l3_m9:Nat):Int)<((n_a1:Nat):Int)))
 (Option.bind (l3_m1[l3_m9]?) fun x9 =>
 Option.bind (Eb a0 x9 a2) fun y10 =>
 og (l3_m9+1<4611686018427387904) <|
 some (Ctl.next (l3_m9+1,l3_m1.set l3_m9 y10)))
 (some (Ctl.out l3_m1))
def Fz (a0:Int) (a1:List Int) (a2:Int):Option (List Int) :=
 Av (fun s_:Nat×List Int=>Hr (a1.length) a0 a2 s_.1 s_.2) 4611686018427387904 (0,a1)
theorem Qr {a0:Int} {a1:List Int} {a2:Int} {r:List Int} (h:Fz a0 a1 a2=some r) {n_a1:Nat} (hn_a1:n_a1=a1.length):Fi Tryd.prog Tab 91 [ai a0,.own (oi 0 0) .int 0 n_a1,ai a2] [(oi 0 0,.arr 3 .int a1)] (.tup []) [(oi 0 0,.arr 3 .int r)]:=by
 refine B8 (by kernel_rfl) Tryd.func91 Aa6 (n:=23) (by kernel_rfl) (by simp) (tl:=[(0,ai a0),(1,.own (oi 0 0) .int 0 n_a1),(2,ai a2)]) rfl (by kernel_rfl) ⟨trivial,trivial⟩ ⟨trivial,trivial⟩ ?_;unfold R2;unfold Fz at h
 (try rw [← hn_a1] at h)
 refine An ?_;refine Af ?_;refine Ax h (fun t_ S_=>∃ (l3_m9:Nat),∃ (l3_m1:List Int),t_=(l3_m9,l3_m1)∧S_=⟨Ap [(0,ai a0),(1,.own (oi 0 0) .int 0 l3_m1.length),(2,ai a2),(8,ai ((n_a1:Nat):Int)),(9,ai ((l3_m9:Nat):Int))],Aj (Ar [(oi 0 0,.arr 3 .int l3_m1)]),2⟩) ⟨_,(A9 1 (.own (oi 0 0) .int 0 n_a1) (.own (oi 0 0) .int 0 a1.length) (by kernel_rfl) (congrArg (fun z_=>((.own (oi 0 0) .int 0 z_):AV)) (hn_a1:n_a1=a1.length))).trans (Ac []),⟨0,a1,rfl,rfl⟩⟩ ?_;rintro n_ _ _ c_ ⟨l3_m9,l3_m1,rfl,rfl⟩ h hn3
 (try dsimp only at h);unfold Hr at h;unfold Nr;refine An ?_;refine Ab ?_;rcases Ae h with ⟨q6,h⟩ | ⟨q6,h⟩
 ·have q6_:=of_decide_eq_true q6;refine Ah q6 ?_;refine Ai (tn_ ?_);refine wr_ ?_;refine Ab ?_;refine Af ?_;refine An ?_;obtain ⟨x9,e9,h⟩:=Ad h;obtain ⟨y10,h10,h⟩:=Ad h;refine Aa 16 ?_;refine rsB 5 ?_;refine rs0 (.elt (oi 0 0) l3_m9 0) (zo (t:=.int) (o:=oi 0 0) (len:=l3_m1.length) (k:=.i64) (m:=((l3_m9:Nat):Int)) (At _) (Al e9)) ?_;refine rsl (ai x9) (Ed (i:=oi 0 0) (j:=l3_m9) (k:=0) (e:=3) (t:=.int) (xs:=l3_m1) (by kernel_rfl) (by kernel_rfl) e9 (by kernel_rfl)) ?_;refine rsB 1 ?_;refine zc (ai y10) [] [ai a0,ai x9,ai a2] (I8 h10) ?_;refine rs0 (.elt (oi 0 0) l3_m9 0) (zo (t:=.int) (o:=oi 0 0) (len:=l3_m1.length) (k:=.i64) (m:=((l3_m9:Nat):Int)) (At _) (Al e9)) ?_;refine Nj (oi 0 0) (oi 0 0) (.arr 3 .int (l3_m1.set l3_m9 y10)) (Ep (i:=oi 0 0) (j:=l3_m9) (k:=0) (e:=3) (t:=.int) (xs:=l3_m1) (cs:=[ai y10]) (x1:=y10) (by kernel_rfl) (by kernel_rfl) e9 (by kernel_rfl) (by kernel_rfl)) ?_;refine Aq (bn_ (tn_ ?_));refine wr_ ?_;obtain ⟨g11,h⟩:=Am h;refine Aa 18 ?_;refine rs0 (ai ((l3_m9+1:Nat):Int)) (za g11) ?_;refine rsB 1 ?_;refine Aq (tn_ ?_);obtain rfl:=zj h;exact ⟨(l3_m9+1,l3_m1.set l3_m9 y10),_,(A9 1 (.own (oi 0 0) .int 0 l3_m1.length) (.own (oi 0 0) .int 0 ((l3_m1.set l3_m9 y10).length)) (by kernel_rfl) (congrArg (fun z_=>((.own (oi 0 0) .int 0 z_):AV)) (((rfl:l3_m1.length=l3_m1.length).trans List.length_set.symm):l3_m1.length=(l3_m1.set l3_m9 y10).length))).trans (Ac []),⟨l3_m9+1,l3_m1.set l3_m9 y10,rfl,rfl⟩,hn3⟩
 have q6_:=of_decide_eq_false q6;refine Ag q6 ?_;refine Au (te_ (te_ (be_ ?_)));obtain rfl:=zj h;have h:=hn3
 (try dsimp only at h);obtain rfl:=zj h;exact Gk [] (Ac (tl:=[]) (g:=2) [])
def Pk:AC :=
 (.seq (rg [xo 12 (qb .lss (tm 11) (tm 10))])
 (.seq (.cond (tm 12)
  .skip
  (.exit 0))
 (.seq (.block 1 (.seq (rg [xo 13 (qm (tm 11)),xo 8 (qm (tm 13))])
 (.region [xo 14 (qm (tm 1)),xo 15 (qm (tm 8)),xo 16 (qm (tm 0)),xo 17 (qm (tm 1)),xo 18 (qm (tm 8)),xo 19 (qx 1 (tm 17) (tm 18)),xo 20 (ql (tm 19)),xo 21 (qm (tm 0)),xo 22 (qm (tm 3)),xo 23 (qm (tm 2)),xo 24 (qm (tm 8)),xo 25 (qx 1 (tm 23) (tm 24)),xo 26 (ql (tm 25)),xo 27 (qc 79 [tm 21,tm 22,tm 26] [[],[],[]]),xo 28 (qc 80 [tm 16,tm 20,tm 27] [[],[],[]]),xo 29 (qx 1 (tm 14) (tm 15)),xn (qs (tm 29) (tm 28))] true [(6,13)])))
 (rg [xo 30 (qb .add (tm 11) (ci 1)),xo 11 (qm (tm 30))]))))
def Ti:AC :=
 (.seq (rg [xo 9 (qm (tm 1)),xo 10 (.i (.len (tm 9))),xo 11 (qm (ci 0))])
 (.block 0 (.loop Pk)))
def Ac6:List Res:=[]
theorem Ady:Aw Tryd.prog Tryd.f46=some (Ti,Ac6):=by kernel_rfl
theorem H1:A6 Tryd.prog 46=true:=by kernel_rfl
def Ik (n_a1:Nat) (a2:List Int) (a0:Int) (a3:Int) (l3_m11:Nat) (l3_m1:List Int):Option (Ctl (Nat×List Int) (List Int)) :=
 cond (decide (((l3_m11:Nat):Int)<((n_a1:Nat):Int)))
 (Option.bind (l3_m1[l3_m11]?) fun x9 =>
 Option.bind (a2[l3_m11]?) fun x10 =>
 Option.bind (Eb a0 a3 x10) fun y11 =>
 Option.bind (Fe a0 x9 y11) fun y12 =>
 og (l3_m11+1<4611686018427387904) <|
 some (Ctl.next (l3_m11+1,l3_m1.set l3_m11 y12)))
 (some (Ctl.out l3_m1))
def Dx (a0:Int) (a1:List Int) (a2:List Int) (a3:Int):Option (List Int) :=
 Av (fun s_:Nat×List Int=>Ik (a1.length) a2 a0 a3 s_.1 s_.2) 4611686018427387904 (0,a1)
theorem H0 {a0:Int} {a1:List Int} {a2:List Int} {a3:Int} {r:List Int} (h:Dx a0 a1 a2 a3=some r) {n_a1:Nat} (hn_a1:n_a1=a1.length):Fi Tryd.prog Tab 46 [ai a0,.own (oi 0 0) .int 0 n_a1,.tree .int a2,ai a3] [(oi 0 0,.arr 3 .int a1)] (.tup []) [(oi 0 0,.arr 3 .int r)]:=by
 refine B8 (by kernel_rfl) Tryd.func46 Ady (n:=31) (by kernel_rfl) (by simp) (tl:=[(0,ai a0),(1,.own (oi 0 0) .int 0 n_a1),(2,.tree .int a2),(3,ai a3)]) rfl (by kernel_rfl) ⟨trivial,trivial⟩ ⟨trivial,trivial⟩ ?_;unfold Ti;unfold Dx at h
 (try rw [← hn_a1] at h)
 refine An ?_;refine Af ?_;refine Ax h (fun t_ S_=>∃ (l3_m11:Nat),∃ (l3_m1:List Int),t_=(l3_m11,l3_m1)∧S_=⟨Ap [(0,ai a0),(1,.own (oi 0 0) .int 0 l3_m1.length),(2,.tree .int a2),(3,ai a3),(10,ai ((n_a1:Nat):Int)),(11,ai ((l3_m11:Nat):Int))],Aj (Ar [(oi 0 0,.arr 3 .int l3_m1)]),2⟩) ⟨_,(A9 1 (.own (oi 0 0) .int 0 n_a1) (.own (oi 0 0) .int 0 a1.length) (by kernel_rfl) (congrArg (fun z_=>((.own (oi 0 0) .int 0 z_):AV)) (hn_a1:n_a1=a1.length))).trans (Ac []),⟨0,a1,rfl,rfl⟩⟩ ?_;rintro n_ _ _ c_ ⟨l3_m11,l3_m1,rfl,rfl⟩ h hn3
 (try dsimp only at h);unfold Ik at h;unfold Pk;refine An ?_;refine Ab ?_;rcases Ae h with ⟨q6,h⟩ | ⟨q6,h⟩
 ·have q6_:=of_decide_eq_true q6;refine Ah q6 ?_;refine Ai (tn_ ?_);refine wr_ ?_;refine Ab ?_;refine Af ?_;refine An ?_;obtain ⟨x9,e9,h⟩:=Ad h;obtain ⟨x10,e10,h⟩:=Ad h;obtain ⟨y11,h11,h⟩:=Ad h;obtain ⟨y12,h12,h⟩:=Ad h;refine Az 22 ?_;refine dz0 (.own (oi 0 0) .int 0 l3_m1.length) ?_;refine dz0 (ai ((l3_m11:Nat):Int)) ?_;refine dz0 (ai a0) ?_;refine dz0 (.own (oi 0 0) .int 0 l3_m1.length) ?_;refine dz0 (ai ((l3_m11:Nat):Int)) ?_;refine ds0 (.elt (oi 0 0) l3_m11 0) (zo (t:=.int) (o:=oi 0 0) (len:=l3_m1.length) (k:=.i64) (m:=((l3_m11:Nat):Int)) (At _) (Al e9)) ?_;refine dsl (ai x9) (Ed (i:=oi 0 0) (j:=l3_m11) (k:=0) (e:=3) (t:=.int) (xs:=l3_m1) (by kernel_rfl) (by kernel_rfl) e9 (by kernel_rfl)) ?_;refine dz0 (ai a0) ?_;refine dz0 (ai a3) ?_;refine dz0 (.tree .int a2) ?_;refine dz0 (ai ((l3_m11:Nat):Int)) ?_;refine ds0 (.telt .int x10 0) (zi (t:=.int) (xs:=a2) (k:=.i64) (m:=((l3_m11:Nat):Int)) (At _) e10) ?_;refine dz0 (ai x10) ?_;refine D4 (ai y11) [] [ai a0,ai a3,ai x10] _ (caps:=[]) (args0:=[ai a0,ai a3,ai x10]) trivial (by kernel_rfl) (I8 h11) N0 ?_;refine D4 (ai y12) [] [ai a0,ai x9,ai y11] _ (caps:=[]) (args0:=[ai a0,ai x9,ai y11]) trivial (by kernel_rfl) (Kt h12) Kq ?_;refine ds0 (.elt (oi 0 0) l3_m11 0) (zo (t:=.int) (o:=oi 0 0) (len:=l3_m1.length) (k:=.i64) (m:=((l3_m11:Nat):Int)) (At _) (Al e9)) ?_;refine Mx (oi 0 0) (oi 0 0) (.arr 3 .int (l3_m1.set l3_m11 y12)) (Ep (i:=oi 0 0) (j:=l3_m11) (k:=0) (e:=3) (t:=.int) (xs:=l3_m1) (cs:=[ai y12]) (x1:=y12) (by kernel_rfl) (by kernel_rfl) e9 (by kernel_rfl) (by kernel_rfl)) ?_;refine Ft (Bd (by kernel_rfl)) (bn_ (tn_ ?_));refine wr_ ?_;obtain ⟨g13,h⟩:=Am h;refine Aa 24 ?_;refine rs0 (ai ((l3_m11+1:Nat):Int)) (za g13) ?_;refine rsB 1 ?_;refine Aq (tn_ ?_);obtain rfl:=zj h;exact ⟨(l3_m11+1,l3_m1.set l3_m11 y12),_,(A9 1 (.own (oi 0 0) .int 0 l3_m1.length) (.own (oi 0 0) .int 0 ((l3_m1.set l3_m11 y12).length)) (by kernel_rfl) (congrArg (fun z_=>((.own (oi 0 0) .int 0 z_):AV)) (((rfl:l3_m1.length=l3_m1.length).trans List.length_set.symm):l3_m1.length=(l3_m1.set l3_m11 y12).length))).trans (Ac []),⟨l3_m11+1,l3_m1.set l3_m11 y12,rfl,rfl⟩,hn3⟩
 have q6_:=of_decide_eq_false q6;refine Ag q6 ?_;refine Au (te_ (te_ (be_ ?_)));obtain rfl:=zj h;have h:=hn3
 (try dsimp only at h);obtain rfl:=zj h;exact Gk [] (Ac (tl:=[]) (g:=2) [])
def L2:AC :=
 (.seq (rg [xo 135 (qb .lss (tm 134) (tm 133))])
 (.seq (.cond (tm 135)
  .skip
  (.exit 4))
 (.seq (.block 5 (.seq (rg [xo 136 (qm (tm 134)),xo 17 (qm (tm 136))])
 (.seq (rg [xo 137 (qf 1 (tm 8)),xo 138 (ql (tm 137)),xo 139 (qm (tm 17)),xo 140 (qx 1 (tm 138) (tm 139)),xo 141 (ql (tm 140)),xo 142 (qm (tm 12)),xo 143 (qx 1 (tm 141) (tm 142)),xo 144 (ql (tm 143)),xo 18 (qm (tm 144))])
 (.seq (rg [xo 145 (qm (tm 17)),xo 146 (qm (tm 10)),xo 147 (qb .neq (tm 145) (tm 146)),xo 148 (qm (tm 147)),⟨some 149,some (148,true),qm (tm 18)⟩,⟨some 150,some (148,true),qb .neq (tm 149) (ci 0)⟩,xo 151 (.i (.pick (tm 148) (tm 150) (cb false)))])
 (.cond (tm 151)
  (.seq (.region [xo 152 (qm (tm 0)),xo 153 (qf 1 (tm 8)),xo 154 (ql (tm 153)),xo 155 (qm (tm 17)),xo 156 (qx 1 (tm 154) (tm 155)),xo 157 (ql (tm 156)),xo 158 (qf 1 (tm 8)),xo 159 (ql (tm 158)),xo 160 (qm (tm 10)),xo 161 (qx 1 (tm 159) (tm 160)),xo 162 (ql (tm 161)),xo 163 (qm (tm 18)),xo 164 (qc 46 [tm 152,tm 157,tm 162,tm 163] [[],[some .int],[some .int],[]])] true [])
  (.region [xo 165 (qm (tm 0)),xo 166 (qf 1 (tm 9)),xo 167 (ql (tm 166)),xo 168 (qm (tm 17)),xo 169 (qx 1 (tm 167) (tm 168)),xo 170 (ql (tm 169)),xo 171 (qf 1 (tm 9)),xo 172 (ql (tm 171)),xo 173 (qm (tm 10)),xo 174 (qx 1 (tm 172) (tm 173)),xo 175 (ql (tm 174)),xo 176 (qm (tm 18)),xo 177 (qc 46 [tm 165,tm 170,tm 175,tm 176] [[],[some .int],[some .int],[]])] true []))
  .skip)))))
 (rg [xo 178 (qb .add (tm 134) (ci 1)),xo 134 (qm (tm 178))]))))
def Mz:AC :=
 (.seq (.seq (rg [xo 32 (qm (tm 13)),xo 33 (qf 1 (tm 8)),xo 34 (ql (tm 33)),xo 35 (.i (.len (tm 34))),xo 36 (qb .lss (tm 32) (tm 35)),xo 37 (qm (tm 36)),⟨some 38,some (37,true),qf 1 (tm 8)⟩,⟨some 39,some (37,true),ql (tm 38)⟩,⟨some 40,some (37,true),qm (tm 13)⟩,⟨some 41,some (37,true),qx 1 (tm 39) (tm 40)⟩,⟨some 42,some (37,true),ql (tm 41)⟩,⟨some 43,some (37,true),qm (tm 12)⟩,⟨some 44,some (37,true),qx 1 (tm 42) (tm 43)⟩,⟨some 45,some (37,true),ql (tm 44)⟩,⟨some 46,some (37,true),qb .eql (tm 45) (ci 0)⟩,xo 47 (.i (.pick (tm 37) (tm 46) (cb false)))])
 (.cond (tm 47)
  .skip
  (.exit 2)))
 (.block 3 (rg [xo 48 (qm (tm 13)),xo 49 (qb .add (tm 48) (ci 1)),xo 13 (qm (tm 49))])))
def Mh:AC :=
 (.seq (.seq (rg [xo 25 (qm (tm 12)),xo 26 (qf 0 (tm 3)),xo 27 (ql (tm 26)),xo 28 (qb .lss (tm 25) (tm 27))])
 (.cond (tm 28)
  .skip
  (.exit 0)))
 (.seq (.block 1 (.seq (rg [xo 31 (qm (tm 10)),xo 13 (qm (tm 31))])
 (.seq (.block 2 (.loop Mz))
 (.seq (.seq (rg [xo 50 (qm (tm 13)),xo 51 (qf 1 (tm 8)),xo 52 (ql (tm 51)),xo 53 (.i (.len (tm 52))),xo 54 (qb .eql (tm 50) (tm 53))])
 (.cond (tm 54)
  (.exit 1)
  .skip))
 (.seq (.seq (rg [xo 55 (qm (tm 13)),xo 56 (qm (tm 10)),xo 57 (qb .gtr (tm 55) (tm 56))])
 (.cond (tm 57)
  (.seq (.region [xo 58 (qf 1 (tm 8)),xo 59 (ql (tm 58)),xo 60 (qm (tm 13)),xo 61 (qx 1 (tm 59) (tm 60)),xo 62 (ql (tm 61)),xo 63 (qf 1 (tm 9)),xo 64 (ql (tm 63)),xo 65 (qm (tm 13)),xo 66 (qx 1 (tm 64) (tm 65)),xo 67 (ql (tm 66)),xo 14 (qm (tm 62)),xo 15 (qm (tm 67))] true [])
  (.seq (.region [xo 68 (qf 1 (tm 8)),xo 69 (ql (tm 68)),xo 70 (qm (tm 13)),xo 71 (qf 1 (tm 8)),xo 72 (ql (tm 71)),xo 73 (qm (tm 10)),xo 74 (qx 1 (tm 72) (tm 73)),xo 75 (ql (tm 74)),xo 76 (qx 1 (tm 69) (tm 70)),xn (qs (tm 76) (tm 75))] true [])
  (.seq (.region [xo 77 (qf 1 (tm 9)),xo 78 (ql (tm 77)),xo 79 (qm (tm 13)),xo 80 (qf 1 (tm 9)),xo 81 (ql (tm 80)),xo 82 (qm (tm 10)),xo 83 (qx 1 (tm 81) (tm 82)),xo 84 (ql (tm 83)),xo 85 (qx 1 (tm 78) (tm 79)),xn (qs (tm 85) (tm 84))] true [])
  (.seq (rg [xo 86 (qf 1 (tm 8)),xo 87 (ql (tm 86)),xo 88 (qm (tm 10)),xo 89 (qm (tm 14)),xo 90 (qx 1 (tm 87) (tm 88)),xn (qs (tm 90) (tm 89))])
  (.seq (rg [xo 91 (qf 1 (tm 9)),xo 92 (ql (tm 91)),xo 93 (qm (tm 10)),xo 94 (qm (tm 15)),xo 95 (qx 1 (tm 92) (tm 93)),xn (qs (tm 95) (tm 94))])
  (rg [xo 96 (qm (tm 0)),xo 97 (qm (tm 11)),xo 98 (qc 76 [tm 96,tm 97] [[],[]]),xo 11 (qm (tm 98))]))))))
  .skip))
 (.seq (rg [xo 99 (qf 1 (tm 8)),xo 100 (ql (tm 99)),xo 101 (qm (tm 10)),xo 102 (qx 1 (tm 100) (tm 101)),xo 103 (ql (tm 102)),xo 104 (qm (tm 12)),xo 105 (qx 1 (tm 103) (tm 104)),xo 106 (ql (tm 105)),xo 16 (qm (tm 106))])
 (.seq (rg [xo 107 (qm (tm 0)),xo 108 (qm (tm 11)),xo 109 (qm (tm 16)),xo 110 (qc 79 [tm 107,tm 108,tm 109] [[],[],[]]),xo 11 (qm (tm 110))])
 (.seq (.region [xo 111 (qm (tm 0)),xo 112 (qf 1 (tm 8)),xo 113 (ql (tm 112)),xo 114 (qm (tm 10)),xo 115 (qx 1 (tm 113) (tm 114)),xo 116 (ql (tm 115)),xo 117 (qm (tm 0)),xo 118 (qm (tm 16)),xo 119 (qc 78 [tm 117,tm 118] [[],[]]),xo 120 (qc 91 [tm 111,tm 116,tm 119] [[],[some .int],[]])] true [(2,8),(5,8)])
 (.seq (.region [xo 121 (qm (tm 0)),xo 122 (qf 1 (tm 9)),xo 123 (ql (tm 122)),xo 124 (qm (tm 10)),xo 125 (qx 1 (tm 123) (tm 124)),xo 126 (ql (tm 125)),xo 127 (qm (tm 0)),xo 128 (qm (tm 16)),xo 129 (qc 78 [tm 127,tm 128] [[],[]]),xo 130 (qc 91 [tm 121,tm 126,tm 129] [[],[some .int],[]])] true [(2,8),(5,8)])
 (.seq (.seq (rg [xo 131 (qf 1 (tm 8)),xo 132 (ql (tm 131)),xo 133 (.i (.len (tm 132))),xo 134 (qm (ci 0))])
 (.block 4 (.loop L2)))
 (rg [xo 179 (qm (tm 10)),xo 180 (qb .add (tm 179) (ci 1)),xo 10 (qm (tm 180))])))))))))))
 (rg [xo 29 (qm (tm 12)),xo 30 (qb .add (tm 29) (ci 1)),xo 12 (qm (tm 30))])))
def Qs:AC :=
 (.seq (rg [xo 3 (.i (.box 64 (tm 1))),xo 4 (.i (.alloc 64 [.int .i64 0,.nils])),xo 5 (.i (.alloc 64 [.int .i64 0,.nils])),xo 6 (qm (ci 0)),xo 7 (qm (ci 0))])
 (.seq (.region [xo 19 (.i (.ld false 2 (tm 3))),xo 20 (qc 89 [tm 19] [[none,some (.slice .int)]]),xo 21 (qf 1 (tm 3)),xo 22 (ql (tm 21)),xo 23 (.i (.len (tm 22))),xo 24 (qc 90 [tm 23] [[]]),xo 8 (.i (.alloc 64 [.int .i64 0,.nils])),xo 9 (.i (.alloc 64 [.int .i64 0,.nils])),xn (.st false 2 (tm 8) (tm 20)),xn (.st false 2 (tm 9) (tm 24))] true [(1,3),(1,6),(5,6),(1,7),(5,7)])
 (.seq (rg [xo 10 (qm (ci 0)),xo 11 (qm (ci 1))])
 (.seq (.seq (rg [xo 12 (qm (ci 0))])
 (.block 0 (.loop Mh)))
 (.seq (.region [xo 181 (.i (.ld false 2 (tm 8))),xo 182 (.i (.ld false 2 (tm 9))),xo 183 (qm (tm 10)),xo 184 (qm (tm 11)),xn (.st false 2 (tm 4) (tm 181)),xn (.st false 2 (tm 5) (tm 182)),xo 6 (qm (tm 183)),xo 7 (qm (tm 184))] true [(1,4)])
 .ret)))))
def Yq:List Res:=[.cell 4 false 2,.cell 5 false 2,.tmp 6,.tmp 7]
theorem Yu:Aw Tryd.prog Tryd.f75=some (Qs,Yq):=by kernel_rfl
theorem Wx:A6 Tryd.prog 75=true:=by kernel_rfl
def Do (l9_m8_1:List (List Int)) (l9_m12:Nat) (l16_m13:Nat):Option (Ctl Nat Nat) :=
 Option.bind (cond (decide (((l16_m13:Nat):Int)<((l9_m8_1.length:Nat):Int)))
  (Option.bind (l9_m8_1[l16_m13]?) fun x20 =>
  Option.bind (x20[l9_m12]?) fun x21 =>
  some (x21==0))
  (some false)) fun l18_m47 =>
cond l18_m47
 (og (l16_m13+1<4611686018427387904) <|
 some (Ctl.next (l16_m13+1)))
 (some (Ctl.out l16_m13))
def Eo (l27_m8_1:List (List Int)) (l9_m12:Nat) (l9_m10:Nat) (a0:Int) (l56_m134:Nat) (l56_m8_1:List (List Int)) (l56_m9_1:List (List Int)):Option (Ctl (Nat×List (List Int)×List (List Int)) (List (List Int)×List (List Int))) :=
 cond (decide (((l56_m134:Nat):Int)<((l27_m8_1.length:Nat):Int)))
 (Option.bind (Option.bind (l56_m8_1[l56_m134]?) fun x63 =>
  Option.bind (x63[l9_m12]?) fun x64 =>
  Option.bind (cond (((l56_m134:Nat):Int) !=((l9_m10:Nat):Int))
    (some (x64 !=0))
    (some false)) fun l65_m151 =>
  cond l65_m151
   (Option.bind (l56_m8_1[l9_m10]?) fun x69 =>
   og (l56_m134≠l9_m10) <|
   Option.bind (Dx a0 x63 x69 x64) fun y71 =>
   og (y71.length=x63.length) <|
   Option.bind (l56_m9_1[l56_m134]?) fun x73 =>
   Option.bind (l56_m9_1[l9_m10]?) fun x74 =>
   og (l56_m134≠l9_m10) <|
   Option.bind (Dx a0 x73 x74 x64) fun y76 =>
   og (y76.length=x73.length) <|
   some (l56_m8_1.set l56_m134 y71,l56_m9_1.set l56_m134 y76))
   (some (l56_m8_1,l56_m9_1))) fun (l60_m8_1,l60_m9_1) =>
 og (l56_m134+1<4611686018427387904) <|
 some (Ctl.next (l56_m134+1,l60_m8_1,l60_m9_1)))
 (some (Ctl.out (l56_m8_1,l56_m9_1)))
def C2 (a1_0:Int) (a0:Int) (l9_m10:Nat) (l9_m11:Int) (l9_m12:Nat) (l9_m8_1:List (List Int)) (l9_m9_1:List (List Int)):Option (Ctl (Nat×Int×Nat×List (List Int)×List (List Int)) (Nat×Int×List (List Int)×List (List Int))) :=
 cond (decide (((l9_m12:Nat):Int)<a1_0))
 (Option.bind (Option.bind (Av (fun s_:Nat=>Do l9_m8_1 l9_m12 s_) 4611686018427387904 l9_m10) fun l15_m13 =>
  cond (((l15_m13:Nat):Int)==((l9_m8_1.length:Nat):Int))
   (some (l9_m10,l9_m11,l9_m8_1,l9_m9_1))
   (Option.bind (cond (decide (((l9_m10:Nat):Int)<((l15_m13:Nat):Int)))
     (Option.bind (l9_m8_1[l15_m13]?) fun x31 =>
     Option.bind (l9_m9_1[l15_m13]?) fun x32 =>
     Option.bind (l9_m8_1[l9_m10]?) fun x34 =>
     Option.bind (l9_m9_1[l9_m10]?) fun x36 =>
     Option.bind (Fh a0 l9_m11) fun y39 =>
     some (y39,(l9_m8_1.set l15_m13 x34).set l9_m10 x31,(l9_m9_1.set l15_m13 x36).set l9_m10 x32))
     (some (l9_m11,l9_m8_1,l9_m9_1))) fun (l27_m11,l27_m8_1,l27_m9_1) =>
   Option.bind (l27_m8_1[l9_m10]?) fun x41 =>
   Option.bind (x41[l9_m12]?) fun x42 =>
   Option.bind (Eb a0 l27_m11 x42) fun y44 =>
   Option.bind (Gn a0 x42) fun y46 =>
   Option.bind (Fz a0 x41 y46) fun y47 =>
   og (y47.length=x41.length) <|
   Option.bind (l27_m9_1[l9_m10]?) fun x50 =>
   Option.bind (Gn a0 x42) fun y51 =>
   Option.bind (Fz a0 x50 y51) fun y52 =>
   og (y52.length=x50.length) <|
   Option.bind (Av (fun s_:Nat×List (List Int)×List (List Int)=>Eo l27_m8_1 l9_m12 l9_m10 a0 s_.1 s_.2.1 s_.2.2) 4611686018427387904 (0,l27_m8_1.set l9_m10 y47,l27_m9_1.set l9_m10 y52)) fun (l54_m8_1,l54_m9_1) =>
   og (l9_m10+1<4611686018427387904) <|
   some (l9_m10+1,y44,l54_m8_1,l54_m9_1))) fun (l13_m10,l13_m11,l13_m8_1,l13_m9_1) =>
 og (l9_m12+1<4611686018427387904) <|
 some (Ctl.next (l13_m10,l13_m11,l9_m12+1,l13_m8_1,l13_m9_1)))
 (some (Ctl.out (l9_m10,l9_m11,l9_m8_1,l9_m9_1)))
def G2 (a0:Int) (a1_0:Int) (a1_1:List (List Int)):Option (Nat×Int×List (List Int)×List (List Int)) :=
 Option.bind (Ja a1_0 a1_1) fun y4 =>
Option.bind (Ky ((a1_1.length:Nat):Int)) fun y5 =>
Option.bind (Av (fun s_:Nat×Int×Nat×List (List Int)×List (List Int)=>C2 a1_0 a0 s_.1 s_.2.1 s_.2.2.1 s_.2.2.2.1 s_.2.2.2.2) 4611686018427387904 (0,1,0,y4,y5)) fun (l7_m10,l7_m11,l7_m8_1,l7_m9_1) =>
some (l7_m10,l7_m11,l7_m8_1,l7_m9_1)
theorem Xm {a0:Int} {a1_0:Int} {a1_1:List (List Int)} {r:Nat×Int×List (List Int)×List (List Int)} (h:G2 a0 a1_0 a1_1=some r):Fi Tryd.prog Tab 75 [ai a0,.agg [ai a1_0,.tree (.slice .int) a1_1]] [] (.tup [.agg [ai a1_0,.own (oi 2 1) (.slice .int) 0 r.2.2.1.length],.agg [ai (((a1_1.length:Nat):Int)),.own (oi 4 1) (.slice .int) 0 r.2.2.2.length],ai ((r.1:Nat):Int),ai r.2.1]) [(oi 0 1,.cells 64 [ai a1_0,.own (oi 2 1) (.slice .int) 0 r.2.2.1.length]),(oi 1 1,.cells 64 [ai (((a1_1.length:Nat):Int)),.own (oi 4 1) (.slice .int) 0 r.2.2.2.length]),(oi 2 1,.mat 23 (oi 3 1) .int r.2.2.1),(oi 3 1,.pool 3 .int r.2.2.1),(oi 4 1,.mat 23 (oi 5 1) .int r.2.2.2),(oi 5 1,.pool 3 .int r.2.2.2)]:=by
 refine B8 (by kernel_rfl) Tryd.func75 Yu (n:=185) (by kernel_rfl) (by simp) (tl:=[(0,ai a0),(1,.agg [ai a1_0,.tree (.slice .int) a1_1])]) rfl (by kernel_rfl) trivial ⟨trivial,⟨trivial,⟨⟨3,.tail _ (.tail _ (.tail _ (.head _)))⟩,⟨trivial,⟨⟨3,.tail _ (.tail _ (.tail _ (.tail _ (.tail _ (.head _)))))⟩,⟨trivial,trivial⟩⟩⟩⟩⟩⟩ ?_;unfold Qs;unfold G2 at h;refine An ?_;refine Ab ?_;obtain ⟨y4,h4,h⟩:=Ad h;obtain ⟨y5,h5,h⟩:=Ad h;refine Az 16 ?_;refine dzl (.agg [ai a1_0,.tree (.slice .int) a1_1]) ?_;refine Rp (.agg [ai a1_0,.own (oi 321 7) (.slice .int) 0 y4.length]) [(oi 320 7,some (.cells 64 [ai a1_0,.own (oi 321 7) (.slice .int) 0 y4.length])),(oi 321 7,some (.mat 23 (oi 322 7) .int y4)),(oi 322 7,some (.pool 3 .int y4))] [] [.agg [ai a1_0,.tree (.slice .int) a1_1]] (caps:=[]) trivial (Ab1 h4) Aak trivial (.cons (.ren (by kernel_rfl)) .nil) (A7 (by kernel_rfl) (by kernel_rfl) trivial) (Aog (by kernel_rfl)) ?_;refine dz0 (.box (oi 3 1) 1) ?_;refine dzl (.tree (.slice .int) a1_1) ?_;refine dz0 (ai ((a1_1.length:Nat):Int)) ?_;refine Rp (.agg [ai (((a1_1.length:Nat):Int)),.own (oi 385 11) (.slice .int) 0 y5.length]) [(oi 384 11,some (.cells 64 [ai (((a1_1.length:Nat):Int)),.own (oi 385 11) (.slice .int) 0 y5.length])),(oi 385 11,some (.mat 23 (oi 386 11) .int y5)),(oi 386 11,some (.pool 3 .int y5))] [] [ai ((a1_1.length:Nat):Int)] (caps:=[]) trivial (Af4 h5) Ag9 trivial (.cons (.ren (by kernel_rfl)) .nil) (A7 (by kernel_rfl) (by kernel_rfl) trivial) (Aog (by kernel_rfl)) ?_;refine ds1 (.box (oi 8 12) 0) (oi 8 12) (.cells 64 [ai 0,.nils]) (by kernel_rfl) ?_;refine ds1 (.box (oi 9 13) 0) (oi 9 13) (.cells 64 [ai 0,.nils]) (by kernel_rfl) ?_;refine Mx (oi 8 12) (oi 8 12) (.cells 64 [ai a1_0,.own (oi 321 7) (.slice .int) 0 y4.length]) (by kernel_rfl) ?_;refine Mx (oi 9 13) (oi 9 13) (.cells 64 [ai (((a1_1.length:Nat):Int)),.own (oi 385 11) (.slice .int) 0 y5.length]) (by kernel_rfl) ?_;refine Ft ⟨Aae (by kernel_rfl),⟨Aae (by kernel_rfl),⟨Aae (by kernel_rfl),⟨Aae (by kernel_rfl),⟨Aae (by kernel_rfl),trivial⟩⟩⟩⟩⟩ (tn_ ?_);refine wr_ ?_;refine An ?_;refine As h (fun t_ S_=>∃ (l7_m10:Nat),∃ (l7_m11:Int),∃ (l7_m8_1:List (List Int)),∃ (l7_m9_1:List (List Int)),t_=(l7_m10,l7_m11,l7_m8_1,l7_m9_1)∧S_=⟨Ap [(4,.box (oi 0 1) 0),(5,.box (oi 1 1) 0),(8,.box (oi 2 1) 0),(9,.box (oi 3 1) 0),(10,ai ((l7_m10:Nat):Int)),(11,ai l7_m11)],Aj (Ar [(oi 0 1,.cells 64 [ai 0,.nils]),(oi 1 1,.cells 64 [ai 0,.nils]),(oi 2 1,.cells 64 [ai a1_0,.own (oi 4 1) (.slice .int) 0 l7_m8_1.length]),(oi 3 1,.cells 64 [ai (((a1_1.length:Nat):Int)),.own (oi 6 1) (.slice .int) 0 l7_m9_1.length]),(oi 4 1,.mat 23 (oi 5 1) .int l7_m8_1),(oi 5 1,.pool 3 .int l7_m8_1),(oi 6 1,.mat 23 (oi 7 1) .int l7_m9_1),(oi 7 1,.pool 3 .int l7_m9_1)]),2⟩) ?_ ?_
 ·intro v_ h;refine An ?_;refine Af ?_;refine Ax h (fun t_ S_=>∃ (l9_m10:Nat),∃ (l9_m11:Int),∃ (l9_m12:Nat),∃ (l9_m8_1:List (List Int)),∃ (l9_m9_1:List (List Int)),t_=(l9_m10,l9_m11,l9_m12,l9_m8_1,l9_m9_1)∧S_=⟨Ap [(0,ai a0),(3,.box (oi 0 1) 0),(4,.box (oi 1 1) 0),(5,.box (oi 2 1) 0),(8,.box (oi 3 1) 0),(9,.box (oi 4 1) 0),(10,ai ((l9_m10:Nat):Int)),(11,ai l9_m11),(12,ai ((l9_m12:Nat):Int))],Aj (Ar [(oi 0 1,.cells 64 [ai a1_0,.tree (.slice .int) a1_1]),(oi 1 1,.cells 64 [ai 0,.nils]),(oi 2 1,.cells 64 [ai 0,.nils]),(oi 3 1,.cells 64 [ai a1_0,.own (oi 5 1) (.slice .int) 0 l9_m8_1.length]),(oi 4 1,.cells 64 [ai (((a1_1.length:Nat):Int)),.own (oi 7 1) (.slice .int) 0 l9_m9_1.length]),(oi 5 1,.mat 23 (oi 6 1) .int l9_m8_1),(oi 6 1,.pool 3 .int l9_m8_1),(oi 7 1,.mat 23 (oi 8 1) .int l9_m9_1),(oi 8 1,.pool 3 .int l9_m9_1)]),2⟩) ⟨_,Ac [(oi 0 1,oi 3 1),(oi 1 1,oi 4 2),(oi 2 1,oi 5 3),(oi 3 1,oi 8 12),(oi 5 1,oi 321 7),(oi 6 1,oi 322 7),(oi 4 1,oi 9 13),(oi 7 1,oi 385 11),(oi 8 1,oi 386 11)],⟨0,1,0,y4,y5,rfl,rfl⟩⟩ ?_;rintro n_ _ _ c_ ⟨l9_m10,l9_m11,l9_m12,l9_m8_1,l9_m9_1,rfl,rfl⟩ h hn9
  (try dsimp only at h);unfold C2 at h;unfold Mh;refine Ab ?_;refine An ?_;rcases Ae h with ⟨q12,h⟩ | ⟨q12,h⟩
  ·have q12_:=of_decide_eq_true q12;refine Ah q12 ?_;refine Ai (tn_ ?_);refine wr_ ?_;refine As h (fun t_ S_=>∃ (l13_m10:Nat),∃ (l13_m11:Int),∃ (l13_m8_1:List (List Int)),∃ (l13_m9_1:List (List Int)),t_=(l13_m10,l13_m11,l13_m8_1,l13_m9_1)∧S_=⟨Ap [(0,ai a0),(3,.box (oi 0 1) 0),(4,.box (oi 1 1) 0),(5,.box (oi 2 1) 0),(8,.box (oi 3 1) 0),(9,.box (oi 4 1) 0),(10,ai ((l13_m10:Nat):Int)),(11,ai l13_m11),(12,ai ((l9_m12:Nat):Int))],Aj (Ar [(oi 0 1,.cells 64 [ai a1_0,.tree (.slice .int) a1_1]),(oi 1 1,.cells 64 [ai 0,.nils]),(oi 2 1,.cells 64 [ai 0,.nils]),(oi 3 1,.cells 64 [ai a1_0,.own (oi 5 1) (.slice .int) 0 l13_m8_1.length]),(oi 4 1,.cells 64 [ai (((a1_1.length:Nat):Int)),.own (oi 7 1) (.slice .int) 0 l13_m9_1.length]),(oi 5 1,.mat 23 (oi 6 1) .int l13_m8_1),(oi 6 1,.pool 3 .int l13_m8_1),(oi 7 1,.mat 23 (oi 8 1) .int l13_m9_1),(oi 8 1,.pool 3 .int l13_m9_1)]),2⟩) ?_ ?_
   ·intro v_ h;refine Af ?_;refine An ?_;refine As h (fun (l15_m13:Nat) S_=>S_=⟨Ap [(0,ai a0),(3,.box (oi 0 1) 0),(4,.box (oi 1 1) 0),(5,.box (oi 2 1) 0),(8,.box (oi 3 1) 0),(9,.box (oi 4 1) 0),(10,ai ((l9_m10:Nat):Int)),(11,ai l9_m11),(12,ai ((l9_m12:Nat):Int)),(13,ai ((l15_m13:Nat):Int))],Aj (Ar [(oi 0 1,.cells 64 [ai a1_0,.tree (.slice .int) a1_1]),(oi 1 1,.cells 64 [ai 0,.nils]),(oi 2 1,.cells 64 [ai 0,.nils]),(oi 3 1,.cells 64 [ai a1_0,.own (oi 5 1) (.slice .int) 0 l9_m8_1.length]),(oi 4 1,.cells 64 [ai (((a1_1.length:Nat):Int)),.own (oi 7 1) (.slice .int) 0 l9_m9_1.length]),(oi 5 1,.mat 23 (oi 6 1) .int l9_m8_1),(oi 6 1,.pool 3 .int l9_m8_1),(oi 7 1,.mat 23 (oi 8 1) .int l9_m9_1),(oi 8 1,.pool 3 .int l9_m9_1)]),2⟩) ?_ ?_
    ·intro v_ h;refine Af ?_;refine Ax h (fun (l16_m13:Nat) S_=>S_=⟨Ap [(0,ai a0),(3,.box (oi 0 1) 0),(4,.box (oi 1 1) 0),(5,.box (oi 2 1) 0),(8,.box (oi 3 1) 0),(9,.box (oi 4 1) 0),(10,ai ((l9_m10:Nat):Int)),(11,ai l9_m11),(12,ai ((l9_m12:Nat):Int)),(13,ai ((l16_m13:Nat):Int))],Aj (Ar [(oi 0 1,.cells 64 [ai a1_0,.tree (.slice .int) a1_1]),(oi 1 1,.cells 64 [ai 0,.nils]),(oi 2 1,.cells 64 [ai 0,.nils]),(oi 3 1,.cells 64 [ai a1_0,.own (oi 5 1) (.slice .int) 0 l9_m8_1.length]),(oi 4 1,.cells 64 [ai (((a1_1.length:Nat):Int)),.own (oi 7 1) (.slice .int) 0 l9_m9_1.length]),(oi 5 1,.mat 23 (oi 6 1) .int l9_m8_1),(oi 6 1,.pool 3 .int l9_m8_1),(oi 7 1,.mat 23 (oi 8 1) .int l9_m9_1),(oi 8 1,.pool 3 .int l9_m9_1)]),2⟩) ⟨_,Ac [],rfl⟩ ?_;rintro n_ l16_m13 _ c_ rfl h hn16
     (try dsimp only at h);unfold Do at h;unfold Mz;refine Ab ?_;refine As h (fun (l18_m47:Bool) S_=>S_=⟨Ap [(0,ai a0),(3,.box (oi 0 1) 0),(4,.box (oi 1 1) 0),(5,.box (oi 2 1) 0),(8,.box (oi 3 1) 0),(9,.box (oi 4 1) 0),(10,ai ((l9_m10:Nat):Int)),(11,ai l9_m11),(12,ai ((l9_m12:Nat):Int)),(13,ai ((l16_m13:Nat):Int)),(47,.bool l18_m47)],Aj (Ar [(oi 0 1,.cells 64 [ai a1_0,.tree (.slice .int) a1_1]),(oi 1 1,.cells 64 [ai 0,.nils]),(oi 2 1,.cells 64 [ai 0,.nils]),(oi 3 1,.cells 64 [ai a1_0,.own (oi 5 1) (.slice .int) 0 l9_m8_1.length]),(oi 4 1,.cells 64 [ai (((a1_1.length:Nat):Int)),.own (oi 7 1) (.slice .int) 0 l9_m9_1.length]),(oi 5 1,.mat 23 (oi 6 1) .int l9_m8_1),(oi 6 1,.pool 3 .int l9_m8_1),(oi 7 1,.mat 23 (oi 8 1) .int l9_m9_1),(oi 8 1,.pool 3 .int l9_m9_1)]),2⟩) ?_ ?_
     ·intro v_ h;rcases Ae h with ⟨q19,h⟩ | ⟨q19,h⟩
      ·have q19_:=of_decide_eq_true q19;obtain ⟨x20,e20,h⟩:=Ad h;obtain ⟨x21,e21,h⟩:=Ad h;refine Aa 18 ?_;refine rsB 6 ?_;refine rs0 (.box (oi 3 1) 1) (zg q19) ?_;refine rsl (.own (oi 5 1) (.slice .int) 0 l9_m8_1.length) (zg q19) ?_;refine rs0 (ai ((l16_m13:Nat):Int)) (zg q19) ?_;refine rs0 (.elt (oi 5 1) l16_m13 0) (Nk (by kernel_rfl) q19 (zo (t:=.slice .int) (o:=oi 5 1) (len:=l9_m8_1.length) (k:=.i64) (m:=((l16_m13:Nat):Int)) (At _) (Al e20))) ?_;refine rsl (.own (kid (oi 6 1) l16_m13) .int 0 x20.length) (Nk (by kernel_rfl) q19 (Bs (o:=oi 5 1) (p:=oi 6 1) (e1:=23) (u:=.int) (xss:=l9_m8_1) (row:=x20) (j:=l16_m13) (by kernel_rfl) (by kernel_rfl) e20)) ?_;refine rs0 (ai ((l9_m12:Nat):Int)) (zg q19) ?_;refine rs0 (.elt (kid (oi 6 1) l16_m13) l9_m12 0) (Nk (by kernel_rfl) q19 (zo (t:=.int) (o:=kid (oi 6 1) l16_m13) (len:=x20.length) (k:=.i64) (m:=((l9_m12:Nat):Int)) (At _) (Al e21))) ?_;refine rsl (ai x21) (Nk (by kernel_rfl) q19 (Ed (i:=kid (oi 6 1) l16_m13) (j:=l9_m12) (k:=0) (e:=3) (t:=.int) (xs:=x20) (by kernel_rfl) (A0 (by kernel_rfl) e20) e21 (by kernel_rfl))) ?_;refine rs0 (.bool (x21==0)) (zg q19) ?_;refine rs0 (.bool (x21==0)) (zT q19) ?_;refine Aq (tn_ ?_);obtain rfl:=zj h;exact ⟨_,Ac [],rfl⟩
      have q19_:=of_decide_eq_false q19;refine Aa 18 ?_;refine rsB 6 ?_;refine zs q19 ?_;refine zs q19 ?_;refine zs q19 ?_;refine zs q19 ?_;refine zs q19 ?_;refine zs q19 ?_;refine zs q19 ?_;refine zs q19 ?_;refine zs q19 ?_;refine rs0 (.bool false) (zF q19) ?_;refine Aq (tn_ ?_);obtain rfl:=zj h;exact ⟨_,Ac [],rfl⟩
     rintro l18_m47 _ rfl h
     (try dsimp only at h);rcases Ae h with ⟨q22,h⟩ | ⟨q22,h⟩
     ·refine Ah q22 ?_;refine Ai (tn_ ?_);refine wr_ ?_;refine Af ?_;obtain ⟨g23,h⟩:=Am h;refine Aa 5 ?_;refine rsB 1 ?_;refine rs0 (ai ((l16_m13+1:Nat):Int)) (za g23) ?_;refine rsB 1 ?_;refine Aq (bn_ (tn_ ?_));obtain rfl:=zj h;exact ⟨l16_m13+1,_,Ac [],rfl,hn16⟩
     refine Ag q22 ?_;refine Au (te_ (te_ (be_ (tn_ ?_))));obtain rfl:=zj h;have h:=hn16
     (try dsimp only at h);obtain rfl:=zj h;exact ⟨_,Ac [],rfl⟩
    rintro l15_m13 _ rfl h
    (try dsimp only at h);refine Ab ?_;refine An ?_;rcases Ae h with ⟨q26,h⟩ | ⟨q26,h⟩
    ·refine Ah q26 ?_;refine Au (te_ (be_ (tn_ ?_)));obtain rfl:=zj h;exact ⟨_,Ac [],⟨l9_m10,l9_m11,l9_m8_1,l9_m9_1,rfl,rfl⟩⟩
    refine Ag q26 ?_;refine Ai (tn_ ?_);refine wr_ ?_;refine As h (fun t_ S_=>∃ (l27_m11:Int),∃ (l27_m8_1:List (List Int)),∃ (l27_m9_1:List (List Int)),t_=(l27_m11,l27_m8_1,l27_m9_1)∧S_=⟨Ap [(0,ai a0),(3,.box (oi 0 1) 0),(4,.box (oi 1 1) 0),(5,.box (oi 2 1) 0),(8,.box (oi 3 1) 0),(9,.box (oi 4 1) 0),(10,ai ((l9_m10:Nat):Int)),(11,ai l27_m11),(12,ai ((l9_m12:Nat):Int))],Aj (Ar [(oi 0 1,.cells 64 [ai a1_0,.tree (.slice .int) a1_1]),(oi 1 1,.cells 64 [ai 0,.nils]),(oi 2 1,.cells 64 [ai 0,.nils]),(oi 3 1,.cells 64 [ai a1_0,.own (oi 5 1) (.slice .int) 0 l27_m8_1.length]),(oi 4 1,.cells 64 [ai (((a1_1.length:Nat):Int)),.own (oi 7 1) (.slice .int) 0 l27_m9_1.length]),(oi 5 1,.mat 23 (oi 6 1) .int l27_m8_1),(oi 6 1,.pool 3 .int l27_m8_1),(oi 7 1,.mat 23 (oi 8 1) .int l27_m9_1),(oi 8 1,.pool 3 .int l27_m9_1)]),2⟩) ?_ ?_
    ·intro v_ h;refine An ?_;rcases Ae h with ⟨q29,h⟩ | ⟨q29,h⟩
     ·have q29_:=of_decide_eq_true q29;refine Ah q29 ?_;refine Ab ?_;obtain ⟨x31,e31,h⟩:=Ad h;obtain ⟨x32,e32,h⟩:=Ad h;refine Az 22 ?_;refine dz0 (.box (oi 3 1) 1) ?_;refine dzl (.own (oi 5 1) (.slice .int) 0 l9_m8_1.length) ?_;refine dz0 (ai ((l15_m13:Nat):Int)) ?_;refine ds0 (.elt (oi 5 1) l15_m13 0) (zo (t:=.slice .int) (o:=oi 5 1) (len:=l9_m8_1.length) (k:=.i64) (m:=((l15_m13:Nat):Int)) (At _) (Al e31)) ?_;refine dsl (.own (kid (oi 6 1) l15_m13) .int 0 x31.length) (Bs (o:=oi 5 1) (p:=oi 6 1) (e1:=23) (u:=.int) (xss:=l9_m8_1) (row:=x31) (j:=l15_m13) (by kernel_rfl) (by kernel_rfl) e31) ?_;refine dz0 (.box (oi 4 1) 1) ?_;refine dzl (.own (oi 7 1) (.slice .int) 0 l9_m9_1.length) ?_;refine dz0 (ai ((l15_m13:Nat):Int)) ?_;refine ds0 (.elt (oi 7 1) l15_m13 0) (zo (t:=.slice .int) (o:=oi 7 1) (len:=l9_m9_1.length) (k:=.i64) (m:=((l15_m13:Nat):Int)) (At _) (Al e32)) ?_;refine dsl (.own (kid (oi 8 1) l15_m13) .int 0 x32.length) (Bs (o:=oi 7 1) (p:=oi 8 1) (e1:=23) (u:=.int) (xss:=l9_m9_1) (row:=x32) (j:=l15_m13) (by kernel_rfl) (by kernel_rfl) e32) ?_;refine dz0 (.own (kid (oi 6 1) l15_m13) .int 0 x31.length) ?_;refine dz0 (.own (kid (oi 8 1) l15_m13) .int 0 x32.length) ?_;refine Ft (Bd (by kernel_rfl)) (tn_ ?_);refine wr_ ?_;refine Ab ?_;obtain ⟨x34,e34,h⟩:=Ad h;refine Az 32 ?_;refine dz0 (.box (oi 3 1) 1) ?_;refine dzl (.own (oi 5 1) (.slice .int) 0 l9_m8_1.length) ?_;refine dz0 (ai ((l15_m13:Nat):Int)) ?_;refine dz0 (.box (oi 3 1) 1) ?_;refine dzl (.own (oi 5 1) (.slice .int) 0 l9_m8_1.length) ?_;refine dz0 (ai ((l9_m10:Nat):Int)) ?_;refine ds0 (.elt (oi 5 1) l9_m10 0) (zo (t:=.slice .int) (o:=oi 5 1) (len:=l9_m8_1.length) (k:=.i64) (m:=((l9_m10:Nat):Int)) (At _) (Al e34)) ?_;refine dsl (.own (kid (oi 6 1) l9_m10) .int 0 x34.length) (Bs (o:=oi 5 1) (p:=oi 6 1) (e1:=23) (u:=.int) (xss:=l9_m8_1) (row:=x34) (j:=l9_m10) (by kernel_rfl) (by kernel_rfl) e34) ?_;refine ds0 (.elt (oi 5 1) l15_m13 0) (zo (t:=.slice .int) (o:=oi 5 1) (len:=l9_m8_1.length) (k:=.i64) (m:=((l15_m13:Nat):Int)) (At _) (Al e31)) ?_;refine Mx (oi 5 1) (oi 5 1) (.vec 23 1 l9_m8_1.length ((hdL (oi 6 1) .int l9_m8_1).set l15_m13 (.own (kid (oi 6 1) l9_m10) .int 0 x34.length))) (Tr (o:=oi 5 1) (e1:=23) (m:=l9_m8_1.length) (cs:=hdL (oi 6 1) .int l9_m8_1) (v:=.own (kid (oi 6 1) l9_m10) .int 0 x34.length) (j:=l15_m13) (by kernel_rfl) (by kernel_rfl) (by kernel_rfl) rfl (by rw [D2]; exact Al e31)) ?_;refine Ft (Bd (by kernel_rfl)) (tn_ ?_);refine wr_ ?_;refine Ab ?_;obtain ⟨x36,e36,h⟩:=Ad h;refine Az 42 ?_;refine dz0 (.box (oi 4 1) 1) ?_;refine dzl (.own (oi 7 1) (.slice .int) 0 l9_m9_1.length) ?_;refine dz0 (ai ((l15_m13:Nat):Int)) ?_;refine dz0 (.box (oi 4 1) 1) ?_;refine dzl (.own (oi 7 1) (.slice .int) 0 l9_m9_1.length) ?_;refine dz0 (ai ((l9_m10:Nat):Int)) ?_;refine ds0 (.elt (oi 7 1) l9_m10 0) (zo (t:=.slice .int) (o:=oi 7 1) (len:=l9_m9_1.length) (k:=.i64) (m:=((l9_m10:Nat):Int)) (At _) (Al e36)) ?_;refine dsl (.own (kid (oi 8 1) l9_m10) .int 0 x36.length) (Bs (o:=oi 7 1) (p:=oi 8 1) (e1:=23) (u:=.int) (xss:=l9_m9_1) (row:=x36) (j:=l9_m10) (by kernel_rfl) (by kernel_rfl) e36) ?_;refine ds0 (.elt (oi 7 1) l15_m13 0) (zo (t:=.slice .int) (o:=oi 7 1) (len:=l9_m9_1.length) (k:=.i64) (m:=((l15_m13:Nat):Int)) (At _) (Al e32)) ?_;refine Mx (oi 7 1) (oi 7 1) (.vec 23 1 l9_m9_1.length ((hdL (oi 8 1) .int l9_m9_1).set l15_m13 (.own (kid (oi 8 1) l9_m10) .int 0 x36.length))) (Tr (o:=oi 7 1) (e1:=23) (m:=l9_m9_1.length) (cs:=hdL (oi 8 1) .int l9_m9_1) (v:=.own (kid (oi 8 1) l9_m10) .int 0 x36.length) (j:=l15_m13) (by kernel_rfl) (by kernel_rfl) (by kernel_rfl) rfl (by rw [D2]; exact Al e32)) ?_;refine Ft (Bd (by kernel_rfl)) (tn_ ?_);refine wr_ ?_;refine Ab ?_;refine Aa 48 ?_;refine rsB 4 ?_;refine rs0 (.elt (oi 5 1) l9_m10 0) (zo (t:=.slice .int) (o:=oi 5 1) (len:=l9_m8_1.length) (k:=.i64) (m:=((l9_m10:Nat):Int)) (At _) (Al e34)) ?_;refine Nj (oi 5 1) (oi 5 1) (.vec 23 1 l9_m8_1.length (((hdL (oi 6 1) .int l9_m8_1).set l15_m13 (.own (kid (oi 6 1) l9_m10) .int 0 x34.length)).set l9_m10 (.own (kid (oi 6 1) l15_m13) .int 0 x31.length))) (Tr (o:=oi 5 1) (e1:=23) (m:=l9_m8_1.length) (cs:=(hdL (oi 6 1) .int l9_m8_1).set l15_m13 (.own (kid (oi 6 1) l9_m10) .int 0 x34.length)) (v:=.own (kid (oi 6 1) l15_m13) .int 0 x31.length) (j:=l9_m10) (by kernel_rfl) (by kernel_rfl) (by kernel_rfl) rfl (by rw [List.length_set,D2]; exact Al e34)) ?_;refine Aq (tn_ ?_);refine ⟨_,Pz (e1:=23) (e:=3) (u:=.int) (xss:=l9_m8_1) (i:=l15_m13) (j:=l9_m10) (n:=l9_m8_1.length) (li:=x31.length) (lj:=x34.length) (ri:=x31) (rj:=x34) 9000 (oi 5 1) (oi 6 1) (by kernel_rfl) (by kernel_rfl) rfl (by kernel_rfl) e31 e34 rfl rfl (by kernel_rfl) (by kernel_rfl),?_⟩;refine Ab ?_;refine Aa 55 ?_;refine rsB 4 ?_;refine rs0 (.elt (oi 7 1) l9_m10 0) (zo (t:=.slice .int) (o:=oi 7 1) (len:=l9_m9_1.length) (k:=.i64) (m:=((l9_m10:Nat):Int)) (At _) (Al e36)) ?_;refine Nj (oi 7 1) (oi 7 1) (.vec 23 1 l9_m9_1.length (((hdL (oi 8 1) .int l9_m9_1).set l15_m13 (.own (kid (oi 8 1) l9_m10) .int 0 x36.length)).set l9_m10 (.own (kid (oi 8 1) l15_m13) .int 0 x32.length))) (Tr (o:=oi 7 1) (e1:=23) (m:=l9_m9_1.length) (cs:=(hdL (oi 8 1) .int l9_m9_1).set l15_m13 (.own (kid (oi 8 1) l9_m10) .int 0 x36.length)) (v:=.own (kid (oi 8 1) l15_m13) .int 0 x32.length) (j:=l9_m10) (by kernel_rfl) (by kernel_rfl) (by kernel_rfl) rfl (by rw [List.length_set,D2]; exact Al e36)) ?_;refine Aq (tn_ ?_);refine ⟨_,Pz (e1:=23) (e:=3) (u:=.int) (xss:=l9_m9_1) (i:=l15_m13) (j:=l9_m10) (n:=l9_m9_1.length) (li:=x32.length) (lj:=x36.length) (ri:=x32) (rj:=x36) 9000 (oi 7 1) (oi 8 1) (by kernel_rfl) (by kernel_rfl) rfl (by kernel_rfl) e32 e36 rfl rfl (by kernel_rfl) (by kernel_rfl),?_⟩;obtain ⟨y39,h39,h⟩:=Ad h;refine Aa 60 ?_;refine rsB 2 ?_;refine zc (ai y39) [] [ai a0,ai l9_m11] (Nz h39) ?_;refine rsB 1 ?_;refine Aq (tn_ ?_);obtain rfl:=zj h;exact ⟨_,(Dy (oi 3 1) (.cells 64 [ai a1_0,.own (oi 5 1) (.slice .int) 0 l9_m8_1.length]) (.cells 64 [ai a1_0,.own (oi 5 1) (.slice .int) 0 (((l9_m8_1.set l15_m13 x34).set l9_m10 x31).length)]) (by kernel_rfl) (congrArg (fun z_=>(.cells 64 [ai a1_0,.own (oi 5 1) (.slice .int) 0 z_]:Ob)) ((Eq.trans (b:=l9_m8_1.length) rfl (by simp)):l9_m8_1.length=((l9_m8_1.set l15_m13 x34).set l9_m10 x31).length))).trans ((Dy (oi 4 1) (.cells 64 [ai (((a1_1.length:Nat):Int)),.own (oi 7 1) (.slice .int) 0 l9_m9_1.length]) (.cells 64 [ai (((a1_1.length:Nat):Int)),.own (oi 7 1) (.slice .int) 0 (((l9_m9_1.set l15_m13 x36).set l9_m10 x32).length)]) (by kernel_rfl) (congrArg (fun z_=>(.cells 64 [ai (((a1_1.length:Nat):Int)),.own (oi 7 1) (.slice .int) 0 z_]:Ob)) ((Eq.trans (b:=l9_m9_1.length) rfl (by simp)):l9_m9_1.length=((l9_m9_1.set l15_m13 x36).set l9_m10 x32).length))).trans (Ac [(oi 6 1,oi 9000 48),(oi 8 1,oi 9000 55)])),⟨y39,(l9_m8_1.set l15_m13 x34).set l9_m10 x31,(l9_m9_1.set l15_m13 x36).set l9_m10 x32,rfl,rfl⟩⟩
     have q29_:=of_decide_eq_false q29;refine Ag q29 ?_;refine Ai (tn_ ?_);obtain rfl:=zj h;exact ⟨_,Ac [],⟨l9_m11,l9_m8_1,l9_m9_1,rfl,rfl⟩⟩
    rintro _ _ ⟨l27_m11,l27_m8_1,l27_m9_1,rfl,rfl⟩ h
    (try dsimp only at h);refine Ab ?_;obtain ⟨x41,e41,h⟩:=Ad h;obtain ⟨x42,e42,h⟩:=Ad h;refine Aa 11 ?_;refine rsB 3 ?_;refine rs0 (.elt (oi 5 1) l9_m10 0) (zo (t:=.slice .int) (o:=oi 5 1) (len:=l27_m8_1.length) (k:=.i64) (m:=((l9_m10:Nat):Int)) (At _) (Al e41)) ?_;refine rsl (.own (kid (oi 6 1) l9_m10) .int 0 x41.length) (Bs (o:=oi 5 1) (p:=oi 6 1) (e1:=23) (u:=.int) (xss:=l27_m8_1) (row:=x41) (j:=l9_m10) (by kernel_rfl) (by kernel_rfl) e41) ?_;refine rsB 1 ?_;refine rs0 (.elt (kid (oi 6 1) l9_m10) l9_m12 0) (zo (t:=.int) (o:=kid (oi 6 1) l9_m10) (len:=x41.length) (k:=.i64) (m:=((l9_m12:Nat):Int)) (At _) (Al e42)) ?_;refine rsl (ai x42) (Ed (i:=kid (oi 6 1) l9_m10) (j:=l9_m12) (k:=0) (e:=3) (t:=.int) (xs:=x41) (by kernel_rfl) (A0 (by kernel_rfl) e41) e42 (by kernel_rfl)) ?_;refine rsB 1 ?_;refine Aq (tn_ ?_);refine wr_ ?_;refine Ab ?_;obtain ⟨y44,h44,h⟩:=Ad h;refine Aa 16 ?_;refine rsB 3 ?_;refine zc (ai y44) [] [ai a0,ai l27_m11,ai x42] (I8 h44) ?_;refine rsB 1 ?_;refine Aq (tn_ ?_);refine wr_ ?_;refine Ab ?_;obtain ⟨y46,h46,h⟩:=Ad h;obtain ⟨y47,h47,h⟩:=Ad h;obtain ⟨g48,h⟩:=Am h;refine Az 26 ?_;refine dz0 (ai a0) ?_;refine dz0 (.box (oi 3 1) 1) ?_;refine dzl (.own (oi 5 1) (.slice .int) 0 l27_m8_1.length) ?_;refine dz0 (ai ((l9_m10:Nat):Int)) ?_;refine ds0 (.elt (oi 5 1) l9_m10 0) (zo (t:=.slice .int) (o:=oi 5 1) (len:=l27_m8_1.length) (k:=.i64) (m:=((l9_m10:Nat):Int)) (At _) (Al e41)) ?_;refine dsl (.own (kid (oi 6 1) l9_m10) .int 0 x41.length) (Bs (o:=oi 5 1) (p:=oi 6 1) (e1:=23) (u:=.int) (xss:=l27_m8_1) (row:=x41) (j:=l9_m10) (by kernel_rfl) (by kernel_rfl) e41) ?_;refine dz0 (ai a0) ?_;refine dz0 (ai x42) ?_;refine D4 (ai y46) [] [ai a0,ai x42] _ (caps:=[]) (args0:=[ai a0,ai x42]) trivial (by kernel_rfl) (Ny h46) S6 ?_;refine Rp (.tup []) [(kid (oi 6 1) l9_m10,some (.arr 3 .int y47)),(kid (oi 6 1) l9_m10,none)] [(oi 0 0,kid (oi 6 1) l9_m10)] [ai a0,.own (kid (oi 6 1) l9_m10) .int 0 x41.length,ai y46] (caps:=[]) trivial (Qr h47 rfl) Qx ⟨Pi (by kernel_rfl) e41,trivial⟩ (.cons (.ren (by kernel_rfl)) (.cons (.ren (by kernel_rfl)) (.cons (.ren (by kernel_rfl)) .nil))) (A7 (by kernel_rfl) (by kernel_rfl) ⟨.arg (by simp [AV.nmsL,AV.nms,Bt]),trivial⟩) (Xr (H5 (t:=.int) (off:=0) (len:=x41.length) 1 rfl (by kernel_rfl)) Xs) ?_;refine Ld (Hh (o:=oi 5 1) (p:=oi 6 1) (e1:=23) (e:=3) (u:=.int) (xss:=l27_m8_1) (k:=l9_m10) (row:=x41) (row':=y47) (by kernel_rfl) rfl (by kernel_rfl) e41 g48) ?_;refine Ft (Bd (by kernel_rfl)) (tn_ ?_);refine wr_ ?_;refine Ab ?_;obtain ⟨x50,e50,h⟩:=Ad h;obtain ⟨y51,h51,h⟩:=Ad h;obtain ⟨y52,h52,h⟩:=Ad h;obtain ⟨g53,h⟩:=Am h;refine Az 36 ?_;refine dz0 (ai a0) ?_;refine dz0 (.box (oi 4 1) 1) ?_;refine dzl (.own (oi 7 1) (.slice .int) 0 l27_m9_1.length) ?_;refine dz0 (ai ((l9_m10:Nat):Int)) ?_;refine ds0 (.elt (oi 7 1) l9_m10 0) (zo (t:=.slice .int) (o:=oi 7 1) (len:=l27_m9_1.length) (k:=.i64) (m:=((l9_m10:Nat):Int)) (At _) (Al e50)) ?_;refine dsl (.own (kid (oi 8 1) l9_m10) .int 0 x50.length) (Bs (o:=oi 7 1) (p:=oi 8 1) (e1:=23) (u:=.int) (xss:=l27_m9_1) (row:=x50) (j:=l9_m10) (by kernel_rfl) (by kernel_rfl) e50) ?_;refine dz0 (ai a0) ?_;refine dz0 (ai x42) ?_;refine D4 (ai y51) [] [ai a0,ai x42] _ (caps:=[]) (args0:=[ai a0,ai x42]) trivial (by kernel_rfl) (Ny h51) S6 ?_;refine Rp (.tup []) [(kid (oi 8 1) l9_m10,some (.arr 3 .int y52)),(kid (oi 8 1) l9_m10,none)] [(oi 0 0,kid (oi 8 1) l9_m10)] [ai a0,.own (kid (oi 8 1) l9_m10) .int 0 x50.length,ai y51] (caps:=[]) trivial (Qr h52 rfl) Qx ⟨Pi (by kernel_rfl) e50,trivial⟩ (.cons (.ren (by kernel_rfl)) (.cons (.ren (by kernel_rfl)) (.cons (.ren (by kernel_rfl)) .nil))) (A7 (by kernel_rfl) (by kernel_rfl) ⟨.arg (by simp [AV.nmsL,AV.nms,Bt]),trivial⟩) (Xr (H5 (t:=.int) (off:=0) (len:=x50.length) 1 rfl (by kernel_rfl)) Xs) ?_;refine Ld (Hh (o:=oi 7 1) (p:=oi 8 1) (e1:=23) (e:=3) (u:=.int) (xss:=l27_m9_1) (k:=l9_m10) (row:=x50) (row':=y52) (by kernel_rfl) rfl (by kernel_rfl) e50 g53) ?_;refine Ft (Bd (by kernel_rfl)) (tn_ ?_);refine wr_ ?_;refine As h (fun t_ S_=>∃ (l54_m8_1:List (List Int)),∃ (l54_m9_1:List (List Int)),t_=(l54_m8_1,l54_m9_1)∧S_=⟨Ap [(0,ai a0),(3,.box (oi 0 1) 0),(4,.box (oi 1 1) 0),(5,.box (oi 2 1) 0),(8,.box (oi 3 1) 0),(9,.box (oi 4 1) 0),(10,ai ((l9_m10:Nat):Int)),(11,ai y44),(12,ai ((l9_m12:Nat):Int))],Aj (Ar [(oi 0 1,.cells 64 [ai a1_0,.tree (.slice .int) a1_1]),(oi 1 1,.cells 64 [ai 0,.nils]),(oi 2 1,.cells 64 [ai 0,.nils]),(oi 3 1,.cells 64 [ai a1_0,.own (oi 5 1) (.slice .int) 0 l54_m8_1.length]),(oi 4 1,.cells 64 [ai (((a1_1.length:Nat):Int)),.own (oi 7 1) (.slice .int) 0 l54_m9_1.length]),(oi 5 1,.mat 23 (oi 6 1) .int l54_m8_1),(oi 6 1,.pool 3 .int l54_m8_1),(oi 7 1,.mat 23 (oi 8 1) .int l54_m9_1),(oi 8 1,.pool 3 .int l54_m9_1)]),2⟩) ?_ ?_
    ·intro v_ h;refine An ?_;refine Af ?_;refine Ax h (fun t_ S_=>∃ (l56_m134:Nat),∃ (l56_m8_1:List (List Int)),∃ (l56_m9_1:List (List Int)),t_=(l56_m134,l56_m8_1,l56_m9_1)∧S_=⟨Ap [(0,ai a0),(3,.box (oi 0 1) 0),(4,.box (oi 1 1) 0),(5,.box (oi 2 1) 0),(8,.box (oi 3 1) 0),(9,.box (oi 4 1) 0),(10,ai ((l9_m10:Nat):Int)),(11,ai y44),(12,ai ((l9_m12:Nat):Int)),(133,ai ((l27_m8_1.length:Nat):Int)),(134,ai ((l56_m134:Nat):Int))],Aj (Ar [(oi 0 1,.cells 64 [ai a1_0,.tree (.slice .int) a1_1]),(oi 1 1,.cells 64 [ai 0,.nils]),(oi 2 1,.cells 64 [ai 0,.nils]),(oi 3 1,.cells 64 [ai a1_0,.own (oi 5 1) (.slice .int) 0 l56_m8_1.length]),(oi 4 1,.cells 64 [ai (((a1_1.length:Nat):Int)),.own (oi 7 1) (.slice .int) 0 l56_m9_1.length]),(oi 5 1,.mat 23 (oi 6 1) .int l56_m8_1),(oi 6 1,.pool 3 .int l56_m8_1),(oi 7 1,.mat 23 (oi 8 1) .int l56_m9_1),(oi 8 1,.pool 3 .int l56_m9_1)]),2⟩) ⟨_,(Dy (oi 3 1) (.cells 64 [ai a1_0,.own (oi 5 1) (.slice .int) 0 l27_m8_1.length]) (.cells 64 [ai a1_0,.own (oi 5 1) (.slice .int) 0 ((l27_m8_1.set l9_m10 y47).length)]) (by kernel_rfl) (congrArg (fun z_=>(.cells 64 [ai a1_0,.own (oi 5 1) (.slice .int) 0 z_]:Ob)) ((Eq.trans (b:=l27_m8_1.length) rfl List.length_set.symm):l27_m8_1.length=(l27_m8_1.set l9_m10 y47).length))).trans ((Dy (oi 4 1) (.cells 64 [ai (((a1_1.length:Nat):Int)),.own (oi 7 1) (.slice .int) 0 l27_m9_1.length]) (.cells 64 [ai (((a1_1.length:Nat):Int)),.own (oi 7 1) (.slice .int) 0 ((l27_m9_1.set l9_m10 y52).length)]) (by kernel_rfl) (congrArg (fun z_=>(.cells 64 [ai (((a1_1.length:Nat):Int)),.own (oi 7 1) (.slice .int) 0 z_]:Ob)) ((Eq.trans (b:=l27_m9_1.length) rfl List.length_set.symm):l27_m9_1.length=(l27_m9_1.set l9_m10 y52).length))).trans (Ac [])),⟨0,l27_m8_1.set l9_m10 y47,l27_m9_1.set l9_m10 y52,rfl,rfl⟩⟩ ?_;rintro n_ _ _ c_ ⟨l56_m134,l56_m8_1,l56_m9_1,rfl,rfl⟩ h hn56
     (try dsimp only at h);unfold Eo at h;unfold L2;refine An ?_;refine Ab ?_;rcases Ae h with ⟨q59,h⟩ | ⟨q59,h⟩
     ·have q59_:=of_decide_eq_true q59;refine Ah q59 ?_;refine Ai (tn_ ?_);refine wr_ ?_;refine As h (fun t_ S_=>∃ (l60_m8_1:List (List Int)),∃ (l60_m9_1:List (List Int)),t_=(l60_m8_1,l60_m9_1)∧S_=⟨Ap [(0,ai a0),(3,.box (oi 0 1) 0),(4,.box (oi 1 1) 0),(5,.box (oi 2 1) 0),(8,.box (oi 3 1) 0),(9,.box (oi 4 1) 0),(10,ai ((l9_m10:Nat):Int)),(11,ai y44),(12,ai ((l9_m12:Nat):Int)),(133,ai ((l27_m8_1.length:Nat):Int)),(134,ai ((l56_m134:Nat):Int))],Aj (Ar [(oi 0 1,.cells 64 [ai a1_0,.tree (.slice .int) a1_1]),(oi 1 1,.cells 64 [ai 0,.nils]),(oi 2 1,.cells 64 [ai 0,.nils]),(oi 3 1,.cells 64 [ai a1_0,.own (oi 5 1) (.slice .int) 0 l60_m8_1.length]),(oi 4 1,.cells 64 [ai (((a1_1.length:Nat):Int)),.own (oi 7 1) (.slice .int) 0 l60_m9_1.length]),(oi 5 1,.mat 23 (oi 6 1) .int l60_m8_1),(oi 6 1,.pool 3 .int l60_m8_1),(oi 7 1,.mat 23 (oi 8 1) .int l60_m9_1),(oi 8 1,.pool 3 .int l60_m9_1)]),2⟩) ?_ ?_
      ·intro v_ h;refine Af ?_;refine An ?_;refine Ab ?_;obtain ⟨x63,e63,h⟩:=Ad h;obtain ⟨x64,e64,h⟩:=Ad h;refine Aa 14 ?_;refine rsB 3 ?_;refine rs0 (.elt (oi 5 1) l56_m134 0) (zo (t:=.slice .int) (o:=oi 5 1) (len:=l56_m8_1.length) (k:=.i64) (m:=((l56_m134:Nat):Int)) (At _) (Al e63)) ?_;refine rsl (.own (kid (oi 6 1) l56_m134) .int 0 x63.length) (Bs (o:=oi 5 1) (p:=oi 6 1) (e1:=23) (u:=.int) (xss:=l56_m8_1) (row:=x63) (j:=l56_m134) (by kernel_rfl) (by kernel_rfl) e63) ?_;refine rsB 1 ?_;refine rs0 (.elt (kid (oi 6 1) l56_m134) l9_m12 0) (zo (t:=.int) (o:=kid (oi 6 1) l56_m134) (len:=x63.length) (k:=.i64) (m:=((l9_m12:Nat):Int)) (At _) (Al e64)) ?_;refine rsl (ai x64) (Ed (i:=kid (oi 6 1) l56_m134) (j:=l9_m12) (k:=0) (e:=3) (t:=.int) (xs:=x63) (by kernel_rfl) (A0 (by kernel_rfl) e63) e64 (by kernel_rfl)) ?_;refine rsB 1 ?_;refine Aq (tn_ ?_);refine wr_ ?_;refine As h (fun (l65_m151:Bool) S_=>S_=⟨Ap [(0,ai a0),(3,.box (oi 0 1) 0),(4,.box (oi 1 1) 0),(5,.box (oi 2 1) 0),(8,.box (oi 3 1) 0),(9,.box (oi 4 1) 0),(10,ai ((l9_m10:Nat):Int)),(11,ai y44),(12,ai ((l9_m12:Nat):Int)),(17,ai ((l56_m134:Nat):Int)),(18,ai x64),(133,ai ((l27_m8_1.length:Nat):Int)),(134,ai ((l56_m134:Nat):Int)),(151,.bool l65_m151)],Aj (Ar [(oi 0 1,.cells 64 [ai a1_0,.tree (.slice .int) a1_1]),(oi 1 1,.cells 64 [ai 0,.nils]),(oi 2 1,.cells 64 [ai 0,.nils]),(oi 3 1,.cells 64 [ai a1_0,.own (oi 5 1) (.slice .int) 0 l56_m8_1.length]),(oi 4 1,.cells 64 [ai (((a1_1.length:Nat):Int)),.own (oi 7 1) (.slice .int) 0 l56_m9_1.length]),(oi 5 1,.mat 23 (oi 6 1) .int l56_m8_1),(oi 6 1,.pool 3 .int l56_m8_1),(oi 7 1,.mat 23 (oi 8 1) .int l56_m9_1),(oi 8 1,.pool 3 .int l56_m9_1)]),2⟩) ?_ ?_
       ·intro v_ h;rcases Ae h with ⟨q66,h⟩ | ⟨q66,h⟩
        ·refine Aa 21 ?_;refine rsB 4 ?_;refine rs0 (ai x64) (zg q66) ?_;refine rs0 (.bool (x64 !=0)) (zg q66) ?_;refine rs0 (.bool (x64 !=0)) (zT q66) ?_;refine Aq (tn_ ?_);obtain rfl:=zj h;exact ⟨_,Ac [],rfl⟩
        refine Aa 21 ?_;refine rsB 4 ?_;refine zs q66 ?_;refine zs q66 ?_;refine rs0 (.bool false) (zF q66) ?_;refine Aq (tn_ ?_);obtain rfl:=zj h;exact ⟨_,Ac [],rfl⟩
       rintro l65_m151 _ rfl h
       (try dsimp only at h);rcases Ae h with ⟨q67,h⟩ | ⟨q67,h⟩
       ·refine Ah q67 ?_;refine Ab ?_;obtain ⟨x69,e69,h⟩:=Ad h;obtain ⟨g70,h⟩:=Am h;obtain ⟨y71,h71,h⟩:=Ad h;obtain ⟨g72,h⟩:=Am h;refine Az 15 ?_;refine dz0 (ai a0) ?_;refine dz0 (.box (oi 3 1) 1) ?_;refine dzl (.own (oi 5 1) (.slice .int) 0 l56_m8_1.length) ?_;refine dz0 (ai ((l56_m134:Nat):Int)) ?_;refine ds0 (.elt (oi 5 1) l56_m134 0) (zo (t:=.slice .int) (o:=oi 5 1) (len:=l56_m8_1.length) (k:=.i64) (m:=((l56_m134:Nat):Int)) (At _) (Al e63)) ?_;refine dsl (.own (kid (oi 6 1) l56_m134) .int 0 x63.length) (Bs (o:=oi 5 1) (p:=oi 6 1) (e1:=23) (u:=.int) (xss:=l56_m8_1) (row:=x63) (j:=l56_m134) (by kernel_rfl) (by kernel_rfl) e63) ?_;refine dz0 (.box (oi 3 1) 1) ?_;refine dzl (.own (oi 5 1) (.slice .int) 0 l56_m8_1.length) ?_;refine dz0 (ai ((l9_m10:Nat):Int)) ?_;refine ds0 (.elt (oi 5 1) l9_m10 0) (zo (t:=.slice .int) (o:=oi 5 1) (len:=l56_m8_1.length) (k:=.i64) (m:=((l9_m10:Nat):Int)) (At _) (Al e69)) ?_;refine dsl (.own (kid (oi 6 1) l9_m10) .int 0 x69.length) (Bs (o:=oi 5 1) (p:=oi 6 1) (e1:=23) (u:=.int) (xss:=l56_m8_1) (row:=x69) (j:=l9_m10) (by kernel_rfl) (by kernel_rfl) e69) ?_;refine dz0 (ai x64) ?_;refine Rp (.tup []) [(kid (oi 6 1) l56_m134,some (.arr 3 .int y71)),(kid (oi 6 1) l56_m134,none)] [(oi 0 0,kid (oi 6 1) l56_m134)] [ai a0,.own (kid (oi 6 1) l56_m134) .int 0 x63.length,.own (kid (oi 6 1) l9_m10) .int 0 x69.length,ai x64] (caps:=[]) trivial (H0 h71 rfl) H1 ⟨Pi (by kernel_rfl) e63,trivial⟩ (.cons (.ren (by kernel_rfl)) (.cons (.ren (by kernel_rfl)) (.cons (.gnd (by kernel_rfl) (Bn (e:=3) (u:=.int) (xs:=x69) ((R8 (L:=[kid (oi 6 1) l56_m134]) (by kernel_rfl) ⟨Akq g70,trivial⟩).trans ((Hk (H5 (t:=.int) (off:=0) (len:=x69.length) 2 rfl (by kernel_rfl))).trans (A0 (by kernel_rfl) e69))) rfl)) (.cons (.ren (by kernel_rfl)) .nil)))) (A7 (by kernel_rfl) (by kernel_rfl) ⟨.arg (by simp [AV.nmsL,AV.nms,Bt]),trivial⟩) (Xr (H5 (t:=.int) (off:=0) (len:=x63.length) 1 rfl (by kernel_rfl)) Xs) ?_;refine Ld (Hh (o:=oi 5 1) (p:=oi 6 1) (e1:=23) (e:=3) (u:=.int) (xss:=l56_m8_1) (k:=l56_m134) (row:=x63) (row':=y71) (by kernel_rfl) rfl (by kernel_rfl) e63 g72) ?_;refine Ft (Bd (by kernel_rfl)) (tn_ ?_);refine wr_ ?_;obtain ⟨x73,e73,h⟩:=Ad h;obtain ⟨x74,e74,h⟩:=Ad h;obtain ⟨g75,h⟩:=Am h;obtain ⟨y76,h76,h⟩:=Ad h;obtain ⟨g77,h⟩:=Am h;refine Az 28 ?_;refine dz0 (ai a0) ?_;refine dz0 (.box (oi 4 1) 1) ?_;refine dzl (.own (oi 7 1) (.slice .int) 0 l56_m9_1.length) ?_;refine dz0 (ai ((l56_m134:Nat):Int)) ?_;refine ds0 (.elt (oi 7 1) l56_m134 0) (zo (t:=.slice .int) (o:=oi 7 1) (len:=l56_m9_1.length) (k:=.i64) (m:=((l56_m134:Nat):Int)) (At _) (Al e73)) ?_;refine dsl (.own (kid (oi 8 1) l56_m134) .int 0 x73.length) (Bs (o:=oi 7 1) (p:=oi 8 1) (e1:=23) (u:=.int) (xss:=l56_m9_1) (row:=x73) (j:=l56_m134) (by kernel_rfl) (by kernel_rfl) e73) ?_;refine dz0 (.box (oi 4 1) 1) ?_;refine dzl (.own (oi 7 1) (.slice .int) 0 l56_m9_1.length) ?_;refine dz0 (ai ((l9_m10:Nat):Int)) ?_;refine ds0 (.elt (oi 7 1) l9_m10 0) (zo (t:=.slice .int) (o:=oi 7 1) (len:=l56_m9_1.length) (k:=.i64) (m:=((l9_m10:Nat):Int)) (At _) (Al e74)) ?_;refine dsl (.own (kid (oi 8 1) l9_m10) .int 0 x74.length) (Bs (o:=oi 7 1) (p:=oi 8 1) (e1:=23) (u:=.int) (xss:=l56_m9_1) (row:=x74) (j:=l9_m10) (by kernel_rfl) (by kernel_rfl) e74) ?_;refine dz0 (ai x64) ?_;refine Rp (.tup []) [(kid (oi 8 1) l56_m134,some (.arr 3 .int y76)),(kid (oi 8 1) l56_m134,none)] [(oi 0 0,kid (oi 8 1) l56_m134)] [ai a0,.own (kid (oi 8 1) l56_m134) .int 0 x73.length,.own (kid (oi 8 1) l9_m10) .int 0 x74.length,ai x64] (caps:=[]) trivial (H0 h76 rfl) H1 ⟨Pi (by kernel_rfl) e73,trivial⟩ (.cons (.ren (by kernel_rfl)) (.cons (.ren (by kernel_rfl)) (.cons (.gnd (by kernel_rfl) (Bn (e:=3) (u:=.int) (xs:=x74) ((R8 (L:=[kid (oi 8 1) l56_m134]) (by kernel_rfl) ⟨Akq g75,trivial⟩).trans ((Hk (H5 (t:=.int) (off:=0) (len:=x74.length) 2 rfl (by kernel_rfl))).trans (A0 (by kernel_rfl) e74))) rfl)) (.cons (.ren (by kernel_rfl)) .nil)))) (A7 (by kernel_rfl) (by kernel_rfl) ⟨.arg (by simp [AV.nmsL,AV.nms,Bt]),trivial⟩) (Xr (H5 (t:=.int) (off:=0) (len:=x73.length) 1 rfl (by kernel_rfl)) Xs) ?_;refine Ld (Hh (o:=oi 7 1) (p:=oi 8 1) (e1:=23) (e:=3) (u:=.int) (xss:=l56_m9_1) (k:=l56_m134) (row:=x73) (row':=y76) (by kernel_rfl) rfl (by kernel_rfl) e73 g77) ?_;refine Ft (Bd (by kernel_rfl)) (bn_ (tn_ ?_));obtain rfl:=zj h;exact ⟨_,(Dy (oi 3 1) (.cells 64 [ai a1_0,.own (oi 5 1) (.slice .int) 0 l56_m8_1.length]) (.cells 64 [ai a1_0,.own (oi 5 1) (.slice .int) 0 ((l56_m8_1.set l56_m134 y71).length)]) (by kernel_rfl) (congrArg (fun z_=>(.cells 64 [ai a1_0,.own (oi 5 1) (.slice .int) 0 z_]:Ob)) ((Eq.trans (b:=l56_m8_1.length) rfl List.length_set.symm):l56_m8_1.length=(l56_m8_1.set l56_m134 y71).length))).trans ((Dy (oi 4 1) (.cells 64 [ai (((a1_1.length:Nat):Int)),.own (oi 7 1) (.slice .int) 0 l56_m9_1.length]) (.cells 64 [ai (((a1_1.length:Nat):Int)),.own (oi 7 1) (.slice .int) 0 ((l56_m9_1.set l56_m134 y76).length)]) (by kernel_rfl) (congrArg (fun z_=>(.cells 64 [ai (((a1_1.length:Nat):Int)),.own (oi 7 1) (.slice .int) 0 z_]:Ob)) ((Eq.trans (b:=l56_m9_1.length) rfl List.length_set.symm):l56_m9_1.length=(l56_m9_1.set l56_m134 y76).length))).trans (Ac [])),⟨l56_m8_1.set l56_m134 y71,l56_m9_1.set l56_m134 y76,rfl,rfl⟩⟩
       refine Ag q67 ?_;refine Ai (bn_ (tn_ ?_));obtain rfl:=zj h;exact ⟨_,Ac [],⟨l56_m8_1,l56_m9_1,rfl,rfl⟩⟩
      rintro _ _ ⟨l60_m8_1,l60_m9_1,rfl,rfl⟩ h
      (try dsimp only at h);obtain ⟨g78,h⟩:=Am h;refine Aa 4 ?_;refine rs0 (ai ((l56_m134+1:Nat):Int)) (za g78) ?_;refine rsB 1 ?_;refine Aq (tn_ ?_);obtain rfl:=zj h;exact ⟨(l56_m134+1,l60_m8_1,l60_m9_1),_,Ac [],⟨l56_m134+1,l60_m8_1,l60_m9_1,rfl,rfl⟩,hn56⟩
     have q59_:=of_decide_eq_false q59;refine Ag q59 ?_;refine Au (te_ (te_ (be_ (tn_ ?_))));obtain rfl:=zj h;have h:=hn56
     (try dsimp only at h);obtain rfl:=zj h;exact ⟨_,Ac [],⟨l56_m8_1,l56_m9_1,rfl,rfl⟩⟩
    rintro _ _ ⟨l54_m8_1,l54_m9_1,rfl,rfl⟩ h
    (try dsimp only at h);obtain ⟨g79,h⟩:=Am h;refine Aa 5 ?_;refine rsB 1 ?_;refine rs0 (ai ((l9_m10+1:Nat):Int)) (za g79) ?_;refine rsB 1 ?_;refine Aq (bn_ (tn_ ?_));obtain rfl:=zj h;exact ⟨_,Ac [],⟨l9_m10+1,y44,l54_m8_1,l54_m9_1,rfl,rfl⟩⟩
   rintro _ _ ⟨l13_m10,l13_m11,l13_m8_1,l13_m9_1,rfl,rfl⟩ h
   (try dsimp only at h);obtain ⟨g80,h⟩:=Am h;refine Aa 5 ?_;refine rsB 1 ?_;refine rs0 (ai ((l9_m12+1:Nat):Int)) (za g80) ?_;refine rsB 1 ?_;refine Aq (tn_ ?_);obtain rfl:=zj h;exact ⟨(l13_m10,l13_m11,l9_m12+1,l13_m8_1,l13_m9_1),_,Ac [],⟨l13_m10,l13_m11,l9_m12+1,l13_m8_1,l13_m9_1,rfl,rfl⟩,hn9⟩
  have q12_:=of_decide_eq_false q12;refine Ag q12 ?_;refine Au (te_ (te_ (be_ (tn_ ?_))));obtain rfl:=zj h;have h:=hn9
  (try dsimp only at h);obtain rfl:=zj h;exact ⟨_,Ac [(oi 0 1,oi 1 1),(oi 1 1,oi 2 1),(oi 2 1,oi 3 1),(oi 4 1,oi 5 1),(oi 5 1,oi 6 1),(oi 3 1,oi 4 1),(oi 6 1,oi 7 1),(oi 7 1,oi 8 1)],⟨l9_m10,l9_m11,l9_m8_1,l9_m9_1,rfl,rfl⟩⟩
 rintro _ _ ⟨l7_m10,l7_m11,l7_m8_1,l7_m9_1,rfl,rfl⟩ h
 (try dsimp only at h);refine Ab ?_;refine Az 10 ?_;refine dsB 8 ?_;refine Ft (Bd (by kernel_rfl)) (tn_ ?_);refine wr_ ?_;refine Ao ?_;obtain rfl:=zj h;exact Gk [.agg [ai a1_0,.own (oi 2 1) (.slice .int) 0 l7_m8_1.length],.agg [ai (((a1_1.length:Nat):Int)),.own (oi 4 1) (.slice .int) 0 l7_m9_1.length],ai ((l7_m10:Nat):Int),ai l7_m11] (Ac (tl:=[(4,.box (oi 0 1) 0),(5,.box (oi 1 1) 0),(6,ai ((l7_m10:Nat):Int)),(7,ai l7_m11)]) (g:=2) [(oi 2 1,oi 4 1),(oi 3 1,oi 5 1),(oi 4 1,oi 6 1),(oi 5 1,oi 7 1)])
def Nq:AC :=
 (.seq (.seq (rg [xo 30 (qm (tm 14)),xo 31 (qm (tm 10)),xo 32 (qb .lss (tm 30) (tm 31))])
 (.cond (tm 32)
  .skip
  (.exit 0)))
 (.seq (.block 1 (.seq (rg [xo 35 (qm (tm 13)),xo 36 (qf 1 (tm 8)),xo 37 (ql (tm 36)),xo 38 (qm (tm 14)),xo 39 (qx 1 (tm 37) (tm 38)),xo 40 (ql (tm 39)),xo 41 (qc 47 [tm 40] [[some .int]]),xo 42 (qx 1 (tm 35) (tm 41)),xo 43 (ql (tm 42)),xo 15 (qm (tm 43))])
 (.seq (rg [xo 44 (qm (tm 0)),xo 45 (qm (tm 13)),xo 46 (qf 1 (tm 8)),xo 47 (ql (tm 46)),xo 48 (qm (tm 14)),xo 49 (qx 1 (tm 47) (tm 48)),xo 50 (ql (tm 49)),xo 51 (qm (tm 15)),xo 52 (qc 46 [tm 44,tm 45,tm 50,tm 51] [[],[some .int],[some .int],[]])])
 (.region [xo 53 (qm (tm 0)),xo 54 (qm (tm 12)),xo 55 (qf 1 (tm 9)),xo 56 (ql (tm 55)),xo 57 (qm (tm 14)),xo 58 (qx 1 (tm 56) (tm 57)),xo 59 (ql (tm 58)),xo 60 (qm (tm 0)),xo 61 (qm (tm 15)),xo 62 (qc 76 [tm 60,tm 61] [[],[]]),xo 63 (qc 46 [tm 53,tm 54,tm 59,tm 62] [[],[some .int],[some .int],[]])] true [(3,9),(6,9)]))))
 (rg [xo 33 (qm (tm 14)),xo 34 (qb .add (tm 33) (ci 1)),xo 14 (qm (tm 34))])))
def R4:AC :=
 (.seq (rg [xo 4 (.i (.box 64 (tm 1))),xo 6 (qm (.cst .nils)),xo 7 (qm (cb false))])
 (.seq (rg [xo 17 (qm (tm 0)),xo 18 (.i (.ld false 2 (tm 4))),xo 19 (qc 75 [tm 17,tm 18] [[],[none,some (.slice .int)]]),xo 16 (qm (tm 19)),xo 20 (.i (.extr 0 (tm 16))),xo 21 (.i (.extr 1 (tm 16))),xo 22 (.i (.extr 2 (tm 16))),xo 23 (.i (.extr 3 (tm 16))),xo 8 (.i (.alloc 64 [.int .i64 0,.nils])),xo 9 (.i (.alloc 64 [.int .i64 0,.nils])),xn (.st false 2 (tm 8) (tm 20)),xn (.st false 2 (tm 9) (tm 21)),xo 10 (qm (tm 22)),xo 11 (qm (tm 23))])
 (.seq (.region [xo 24 (qf 1 (tm 4)),xo 25 (ql (tm 24)),xo 26 (.i (.len (tm 25))),xo 27 (.make 3 .int 8 (tm 26) (tm 26)),xo 28 (qm (tm 2)),xo 29 (qc 41 [tm 28] [[some .int]]),xo 12 (qm (tm 27)),xo 13 (qm (tm 29))] true [(1,5),(3,5)])
 (.seq (.seq (rg [xo 14 (qm (ci 0))])
 (.block 0 (.loop Nq)))
 (.seq (rg [xo 64 (qm (tm 12)),xo 65 (qm (tm 13)),xo 66 (qc 56 [tm 65,ci 0,ci 0] [[some .int],[],[]]),xo 6 (qm (tm 64)),xo 7 (qm (tm 66))])
 .ret)))))
def Aaj:List Res:=[.tmp 6,.tmp 7]
theorem Acf:Aw Tryd.prog Tryd.f40=some (R4,Aaj):=by kernel_rfl
theorem Yy:A6 Tryd.prog 40=true:=by kernel_rfl
def Ff (y3:Nat×Int×List (List Int)×List (List Int)) (a0:Int) (l9_m14:Nat) (l9_m12:List Int) (l9_m13:List Int):Option (Ctl (Nat×List Int×List Int) (List Int×List Int)) :=
 cond (decide (((l9_m14:Nat):Int)<((y3.1:Nat):Int)))
 (Option.bind (y3.2.2.1[l9_m14]?) fun x15 =>
 Option.bind (Ee x15) fun y16 =>
 Option.bind (Ex l9_m13 y16) fun x17 =>
 Option.bind (Dx a0 l9_m13 x15 x17) fun y19 =>
 og (y19.length=l9_m13.length) <|
 Option.bind (y3.2.2.2[l9_m14]?) fun x21 =>
 Option.bind (Fh a0 x17) fun y22 =>
 Option.bind (Dx a0 l9_m12 x21 y22) fun y23 =>
 og (y23.length=l9_m12.length) <|
 og (l9_m14+1<4611686018427387904) <|
 some (Ctl.next (l9_m14+1,y23,y19)))
 (some (Ctl.out (l9_m12,l9_m13)))
def Fv (a0:Int) (a1_0:Int) (a1_1:List (List Int)) (a2:List Int):Option (List Int×Bool) :=
 Option.bind (G2 a0 a1_0 a1_1) fun y3 =>
og (0<=((a1_1.length:Nat):Int)∧((a1_1.length:Nat):Int)<=((a1_1.length:Nat):Int)∧((a1_1.length:Nat):Int)<=1073741824∧(8:Int)*((a1_1.length:Nat):Int)<=140737488355328) <|
Option.bind (Cw a2) fun y6 =>
Option.bind (Av (fun s_:Nat×List Int×List Int=>Ff y3 a0 s_.1 s_.2.1 s_.2.2) 4611686018427387904 (0,List.replicate a1_1.length (0:Int),y6)) fun (l7_m12,l7_m13) =>
Option.bind (Fc l7_m13 0 0) fun y27 =>
some (l7_m12,y27)
def Yv (r:List Int×Bool):RV:=⟨true,[(false,[.new 3 .int r.1]),(false,[.sc (.bool r.2)])]⟩
theorem Ys {a0:Int} {a1_0:Int} {a1_1:List (List Int)} {a2:List Int} {r:List Int×Bool} (h:Fv a0 a1_0 a1_1 a2=some r):Bm Tryd.prog Tab 40 [ai a0,.agg [ai a1_0,.tree (.slice .int) a1_1],.tree .int a2] (Yv r):=by
 refine Ba (by kernel_rfl) Tryd.func40 Acf (n:=67) (by kernel_rfl) (by simp) (tl:=[(0,ai a0),(1,.agg [ai a1_0,.tree (.slice .int) a1_1]),(2,.tree .int a2)]) rfl ?_;unfold R4;unfold Fv at h;refine An ?_;refine Ab ?_;obtain ⟨y3,h3,h⟩:=Ad h;refine Aa 18 ?_;refine rsB 2 ?_;refine C3 (.tup [.agg [ai a1_0,.own (oi 306 6) (.slice .int) 0 y3.2.2.1.length],.agg [ai (((a1_1.length:Nat):Int)),.own (oi 308 6) (.slice .int) 0 y3.2.2.2.length],ai ((y3.1:Nat):Int),ai y3.2.1]) [(oi 304 6,some (.cells 64 [ai a1_0,.own (oi 306 6) (.slice .int) 0 y3.2.2.1.length])),(oi 305 6,some (.cells 64 [ai (((a1_1.length:Nat):Int)),.own (oi 308 6) (.slice .int) 0 y3.2.2.2.length])),(oi 306 6,some (.mat 23 (oi 307 6) .int y3.2.2.1)),(oi 307 6,some (.pool 3 .int y3.2.2.1)),(oi 308 6,some (.mat 23 (oi 309 6) .int y3.2.2.2)),(oi 309 6,some (.pool 3 .int y3.2.2.2))] [] [ai a0,.agg [ai a1_0,.tree (.slice .int) a1_1]] (caps:=[]) trivial (Xm h3) Wx trivial (.cons (.ren (by kernel_rfl)) (.cons (.ren (by kernel_rfl)) .nil)) (A7 (by kernel_rfl) (by kernel_rfl) trivial) ?_;refine rsB 11 ?_;refine Aq (tn_ ?_);refine wr_ ?_;refine Ab ?_;obtain ⟨g5,h⟩:=Am h;obtain ⟨y6,h6,h⟩:=Ad h;refine Az 26 ?_;refine dz0 (.box (oi 4 1) 1) ?_;refine dzl (.tree (.slice .int) a1_1) ?_;refine dz0 (ai ((a1_1.length:Nat):Int)) ?_;refine ds1 (.own (oi 27 21) .int 0 a1_1.length) (oi 27 21) (.arr 3 .int (List.replicate a1_1.length (0:Int))) (R1 (t:=.int) (k:=.i64) (k':=.i64) (m:=((a1_1.length:Nat):Int)) (m':=((a1_1.length:Nat):Int)) (by kernel_rfl) (by kernel_rfl) g5 rfl) ?_;refine dz0 (.tree .int a2) ?_;refine D4 (.own (oi 464 23) .int 0 y6.length) [(oi 464 23,some (.arr 3 .int y6))] [.tree .int a2] _ (caps:=[]) (args0:=[.tree .int a2]) trivial (by kernel_rfl) (Hc h6) Iu ?_;refine dz0 (.own (oi 27 21) .int 0 a1_1.length) ?_;refine dz0 (.own (oi 464 23) .int 0 y6.length) ?_;refine Ft (Bd (by kernel_rfl)) (tn_ ?_);refine wr_ ?_;refine As h (fun t_ S_=>∃ (l7_m12:List Int),∃ (l7_m13:List Int),t_=(l7_m12,l7_m13)∧S_=⟨Ap [(12,.own (oi 0 1) .int 0 l7_m12.length),(13,.own (oi 1 1) .int 0 l7_m13.length)],Aj (Ar [(oi 0 1,.arr 3 .int l7_m12),(oi 1 1,.arr 3 .int l7_m13)]),2⟩) ?_ ?_
 ·intro v_ h;refine An ?_;refine Af ?_;refine Ax h (fun t_ S_=>∃ (l9_m14:Nat),∃ (l9_m12:List Int),∃ (l9_m13:List Int),t_=(l9_m14,l9_m12,l9_m13)∧S_=⟨Ap [(0,ai a0),(8,.box (oi 0 1) 0),(9,.box (oi 1 1) 0),(10,ai ((y3.1:Nat):Int)),(12,.own (oi 2 1) .int 0 l9_m12.length),(13,.own (oi 3 1) .int 0 l9_m13.length),(14,ai ((l9_m14:Nat):Int))],Aj (Ar [(oi 0 1,.cells 64 [ai a1_0,.own (oi 4 1) (.slice .int) 0 y3.2.2.1.length]),(oi 1 1,.cells 64 [ai (((a1_1.length:Nat):Int)),.own (oi 6 1) (.slice .int) 0 y3.2.2.2.length]),(oi 2 1,.arr 3 .int l9_m12),(oi 3 1,.arr 3 .int l9_m13),(oi 4 1,.mat 23 (oi 5 1) .int y3.2.2.1),(oi 5 1,.pool 3 .int y3.2.2.1),(oi 6 1,.mat 23 (oi 7 1) .int y3.2.2.2),(oi 7 1,.pool 3 .int y3.2.2.2)]),2⟩) ⟨_,(A9 12 (.own (oi 27 21) .int 0 a1_1.length) (.own (oi 27 21) .int 0 ((List.replicate a1_1.length (0:Int)).length)) (by kernel_rfl) (congrArg (fun z_=>((.own (oi 27 21) .int 0 z_):AV)) (List.length_replicate.symm:a1_1.length=(List.replicate a1_1.length (0:Int)).length))).trans (Ac [(oi 0 1,oi 8 12),(oi 4 1,oi 306 6),(oi 5 1,oi 307 6),(oi 1 1,oi 9 13),(oi 6 1,oi 308 6),(oi 7 1,oi 309 6),(oi 2 1,oi 27 21),(oi 3 1,oi 464 23)]),⟨0,List.replicate a1_1.length (0:Int),y6,rfl,rfl⟩⟩ ?_;rintro n_ _ _ c_ ⟨l9_m14,l9_m12,l9_m13,rfl,rfl⟩ h hn9
  (try dsimp only at h);unfold Ff at h;unfold Nq;refine Ab ?_;refine An ?_;rcases Ae h with ⟨q12,h⟩ | ⟨q12,h⟩
  ·have q12_:=of_decide_eq_true q12;refine Ah q12 ?_;refine Ai (tn_ ?_);refine wr_ ?_;refine Ab ?_;refine Af ?_;refine Ab ?_;obtain ⟨x15,e15,h⟩:=Ad h;obtain ⟨y16,h16,h⟩:=Ad h;obtain ⟨x17,f17,h⟩:=Ad h;obtain ⟨p17,b17,e17⟩:=Bi f17;refine Aa 15 ?_;refine rsB 4 ?_;refine rs0 (.elt (oi 4 1) l9_m14 0) (zo (t:=.slice .int) (o:=oi 4 1) (len:=y3.2.2.1.length) (k:=.i64) (m:=((l9_m14:Nat):Int)) (At _) (Al e15)) ?_;refine rsl (.own (kid (oi 5 1) l9_m14) .int 0 x15.length) (Bs (o:=oi 4 1) (p:=oi 5 1) (e1:=23) (u:=.int) (xss:=y3.2.2.1) (row:=x15) (j:=l9_m14) (by kernel_rfl) (by kernel_rfl) e15) ?_;refine B9 (ai y16) [] [.own (kid (oi 5 1) l9_m14) .int 0 x15.length] _ (caps:=[]) (args0:=[.tree .int x15]) trivial (Ay (Bn (e:=3) (u:=.int) (xs:=x15) (A0 (by kernel_rfl) e15) rfl) Cj) (J2 h16) J0 ?_;refine rs0 (.elt (oi 3 1) y16.toNat 0) (zo (t:=.int) (o:=oi 3 1) (len:=l9_m13.length) (k:=.i64) (m:=y16) p17 (Al e17)) ?_;refine rsl (ai x17) (Ed (i:=oi 3 1) (j:=y16.toNat) (k:=0) (e:=3) (t:=.int) (xs:=l9_m13) (by kernel_rfl) (by kernel_rfl) e17 (by kernel_rfl)) ?_;refine rsB 1 ?_;refine Aq (tn_ ?_);refine wr_ ?_;refine Ab ?_;obtain ⟨y19,h19,h⟩:=Ad h;obtain ⟨g20,h⟩:=Am h;refine Aa 24 ?_;refine rsB 5 ?_;refine rs0 (.elt (oi 4 1) l9_m14 0) (zo (t:=.slice .int) (o:=oi 4 1) (len:=y3.2.2.1.length) (k:=.i64) (m:=((l9_m14:Nat):Int)) (At _) (Al e15)) ?_;refine rsl (.own (kid (oi 5 1) l9_m14) .int 0 x15.length) (Bs (o:=oi 4 1) (p:=oi 5 1) (e1:=23) (u:=.int) (xss:=y3.2.2.1) (row:=x15) (j:=l9_m14) (by kernel_rfl) (by kernel_rfl) e15) ?_;refine rsB 1 ?_;refine C3 (.tup []) [(oi 3 1,some (.arr 3 .int y19)),(oi 3 1,none)] [(oi 0 0,oi 3 1)] [ai a0,.own (oi 3 1) .int 0 l9_m13.length,.own (kid (oi 5 1) l9_m14) .int 0 x15.length,ai x17] (caps:=[]) trivial (H0 h19 rfl) H1 ⟨by kernel_rfl,trivial⟩ (.cons (.ren (by kernel_rfl)) (.cons (.ren (by kernel_rfl)) (.cons (.gnd (by kernel_rfl) (Bn (e:=3) (u:=.int) (xs:=x15) ((R8 (L:=[oi 3 1]) (by kernel_rfl) ⟨Afg rfl,trivial⟩).trans (A0 (by kernel_rfl) e15)) rfl)) (.cons (.ren (by kernel_rfl)) .nil)))) (A7 (by kernel_rfl) (by kernel_rfl) ⟨B2 (by kernel_rfl),trivial⟩) ?_;refine Aq (tn_ ?_);refine wr_ ?_;obtain ⟨x21,e21,h⟩:=Ad h;obtain ⟨y22,h22,h⟩:=Ad h;obtain ⟨y23,h23,h⟩:=Ad h;obtain ⟨g24,h⟩:=Am h;refine Az 35 ?_;refine dz0 (ai a0) ?_;refine dz0 (.own (oi 2 1) .int 0 l9_m12.length) ?_;refine dz0 (.box (oi 1 1) 1) ?_;refine dzl (.own (oi 6 1) (.slice .int) 0 y3.2.2.2.length) ?_;refine dz0 (ai ((l9_m14:Nat):Int)) ?_;refine ds0 (.elt (oi 6 1) l9_m14 0) (zo (t:=.slice .int) (o:=oi 6 1) (len:=y3.2.2.2.length) (k:=.i64) (m:=((l9_m14:Nat):Int)) (At _) (Al e21)) ?_;refine dsl (.own (kid (oi 7 1) l9_m14) .int 0 x21.length) (Bs (o:=oi 6 1) (p:=oi 7 1) (e1:=23) (u:=.int) (xss:=y3.2.2.2) (row:=x21) (j:=l9_m14) (by kernel_rfl) (by kernel_rfl) e21) ?_;refine dz0 (ai a0) ?_;refine dz0 (ai x17) ?_;refine D4 (ai y22) [] [ai a0,ai x17] _ (caps:=[]) (args0:=[ai a0,ai x17]) trivial (by kernel_rfl) (Nz h22) Tn ?_;refine Rp (.tup []) [(oi 2 1,some (.arr 3 .int y23)),(oi 2 1,none)] [(oi 0 0,oi 2 1)] [ai a0,.own (oi 2 1) .int 0 l9_m12.length,.own (kid (oi 7 1) l9_m14) .int 0 x21.length,ai y22] (caps:=[]) trivial (H0 h23 rfl) H1 ⟨by kernel_rfl,trivial⟩ (.cons (.ren (by kernel_rfl)) (.cons (.ren (by kernel_rfl)) (.cons (.gnd (by kernel_rfl) (Bn (e:=3) (u:=.int) (xs:=x21) ((R8 (L:=[oi 2 1]) (by kernel_rfl) ⟨Afg rfl,trivial⟩).trans ((Hk (H5 (t:=.int) (off:=0) (len:=x21.length) 2 rfl (by kernel_rfl))).trans (A0 (by kernel_rfl) e21))) rfl)) (.cons (.ren (by kernel_rfl)) .nil)))) (A7 (by kernel_rfl) (by kernel_rfl) ⟨B2 (by kernel_rfl),trivial⟩) (Xr (H5 (t:=.int) (off:=0) (len:=l9_m12.length) 1 rfl (by kernel_rfl)) Xs) ?_;refine Ft (Bd (by kernel_rfl)) (bn_ (tn_ ?_));refine wr_ ?_;obtain ⟨g25,h⟩:=Am h;refine Aa 38 ?_;refine rsB 1 ?_;refine rs0 (ai ((l9_m14+1:Nat):Int)) (za g25) ?_;refine rsB 1 ?_;refine Aq (tn_ ?_);obtain rfl:=zj h;exact ⟨(l9_m14+1,y23,y19),_,(A9 12 (.own (oi 2 1) .int 0 l9_m12.length) (.own (oi 2 1) .int 0 y23.length) (by kernel_rfl) (congrArg (fun z_=>((.own (oi 2 1) .int 0 z_):AV)) (g24.symm:l9_m12.length=y23.length))).trans ((A9 13 (.own (oi 3 1) .int 0 l9_m13.length) (.own (oi 3 1) .int 0 y19.length) (by kernel_rfl) (congrArg (fun z_=>((.own (oi 3 1) .int 0 z_):AV)) (g20.symm:l9_m13.length=y19.length))).trans (Ac [])),⟨l9_m14+1,y23,y19,rfl,rfl⟩,hn9⟩
  have q12_:=of_decide_eq_false q12;refine Ag q12 ?_;refine Au (te_ (te_ (be_ (tn_ ?_))));obtain rfl:=zj h;have h:=hn9
  (try dsimp only at h);obtain rfl:=zj h;exact ⟨_,Ac [(oi 0 1,oi 2 1),(oi 1 1,oi 3 1)],⟨l9_m12,l9_m13,rfl,rfl⟩⟩
 rintro _ _ ⟨l7_m12,l7_m13,rfl,rfl⟩ h
 (try dsimp only at h);refine Ab ?_;obtain ⟨y27,h27,h⟩:=Ad h;refine Aa 7 ?_;refine rsB 2 ?_;refine B9 (.bool y27) [] [.own (oi 1 1) .int 0 l7_m13.length,ai 0,ai 0] _ (caps:=[]) (args0:=[.tree .int l7_m13,ai 0,ai 0]) trivial (Ay (Bn (e:=3) (by kernel_rfl) rfl) (Ay (by kernel_rfl) (Ay (by kernel_rfl) Cj))) (Jc h27) Kr ?_;refine rsB 2 ?_;refine Aq (tn_ ?_);refine wr_ ?_;refine Ao ?_;obtain rfl:=zj h;exact Br [.own (oi 0 1) .int 0 l7_m12.length,.bool y27] (A8 rfl (Kb (by kernel_rfl) rfl) (A8 rfl zl Bc))
def Qu:AC :=
 (.seq (rg [xo 26 (qb .lss (tm 25) (tm 24))])
 (.seq (.cond (tm 26)
  .skip
  (.exit 2))
 (.seq (.block 3 (.seq (rg [xo 27 (qm (tm 25)),xo 28 (qx 1 (tm 23) (tm 25)),xo 29 (ql (tm 28)),xo 12 (qm (tm 27)),xo 13 (qm (tm 29))])
 (.region [xo 30 (qm (tm 9)),xo 31 (qm (tm 12)),xo 32 (qm (tm 9)),xo 33 (qm (tm 12)),xo 34 (qx 1 (tm 32) (tm 33)),xo 35 (ql (tm 34)),xo 36 (qm (tm 3)),xo 37 (qm (tm 10)),xo 38 (qx 1 (tm 36) (tm 37)),xo 39 (ql (tm 38)),xo 40 (qm (tm 13)),xo 41 (qb .mul (tm 39) (tm 40)),xo 42 (qb .add (tm 35) (tm 41)),xo 43 (qm (tm 0)),xo 44 (qb .rem (tm 42) (tm 43)),xo 45 (qx 1 (tm 30) (tm 31)),xn (qs (tm 45) (tm 44))] true [])))
 (rg [xo 46 (qb .add (tm 25) (ci 1)),xo 25 (qm (tm 46))]))))
def Q1:AC :=
 (.seq (rg [xo 19 (qb .lss (tm 18) (tm 17))])
 (.seq (.cond (tm 19)
  .skip
  (.exit 0))
 (.seq (.block 1 (.seq (rg [xo 20 (qm (tm 18)),xo 21 (qx 1 (tm 16) (tm 18)),xo 22 (ql (tm 21)),xo 10 (qm (tm 20)),xo 11 (qm (tm 22))])
 (.seq (rg [xo 23 (qm (tm 11)),xo 24 (.i (.len (tm 23))),xo 25 (qm (ci 0))])
 (.block 2 (.loop Qu)))))
 (rg [xo 47 (qb .add (tm 18) (ci 1)),xo 18 (qm (tm 47))]))))
def Vt:AC :=
 (.seq (rg [xo 8 (qm (.cst .nils))])
 (.seq (rg [xo 14 (qm (tm 1)),xo 15 (.make 3 .int 8 (tm 14) (tm 14)),xo 9 (qm (tm 15))])
 (.seq (.seq (rg [xo 16 (qm (tm 2)),xo 17 (.i (.len (tm 16))),xo 18 (qm (ci 0))])
 (.block 0 (.loop Q1)))
 (.seq (rg [xo 48 (qm (tm 9)),xo 8 (qm (tm 48))])
 .ret))))
def Afz:List Res:=[.tmp 8]
theorem Ae9:Aw Tryd.prog Tryd.f42=some (Vt,Afz):=by kernel_rfl
theorem S4:A6 Tryd.prog 42=true:=by kernel_rfl
def Gy (x12:List Int) (a3:List Int) (l6_m18:Nat) (a0:Int) (l14_m25:Nat) (l14_m9:List Int):Option (Ctl (Nat×List Int) (List Int)) :=
 cond (decide (((l14_m25:Nat):Int)<((x12.length:Nat):Int)))
 (Option.bind (x12[l14_m25]?) fun x20 =>
 Option.bind (l14_m9[l14_m25]?) fun x21 =>
 Option.bind (a3[l6_m18]?) fun x22 =>
 og (a0≠0) <|
 og (l14_m25+1<4611686018427387904) <|
 some (Ctl.next (l14_m25+1,l14_m9.set l14_m25 (Int.tmod (wI (x21+wI (x22*x20))) a0))))
 (some (Ctl.out l14_m9))
def G6 (a2:List (List Int)) (a3:List Int) (a0:Int) (l6_m18:Nat) (l6_m9:List Int):Option (Ctl (Nat×List Int) (List Int)) :=
 cond (decide (((l6_m18:Nat):Int)<((a2.length:Nat):Int)))
 (Option.bind (Option.bind (a2[l6_m18]?) fun x12 =>
  Av (fun s_:Nat×List Int=>Gy x12 a3 l6_m18 a0 s_.1 s_.2) 4611686018427387904 (0,l6_m9)) fun l10_m9 =>
 og (l6_m18+1<4611686018427387904) <|
 some (Ctl.next (l6_m18+1,l10_m9)))
 (some (Ctl.out l6_m9))
def Gp (a0:Int) (a1:Int) (a2:List (List Int)) (a3:List Int):Option (List Int) :=
 og (0<=a1∧a1<=a1∧a1<=1073741824∧(8:Int)*a1<=140737488355328) <|
Option.bind (Av (fun s_:Nat×List Int=>G6 a2 a3 a0 s_.1 s_.2) 4611686018427387904 (0,List.replicate a1.toNat (0:Int))) fun l4_m9 =>
some l4_m9
def Adr (r:List Int):RV:=⟨false,[(false,[.new 3 .int r])]⟩
theorem Ta {a0:Int} {a1:Int} {a2:List (List Int)} {a3:List Int} {r:List Int} (h:Gp a0 a1 a2 a3=some r):Bm Tryd.prog Tab 42 [ai a0,ai a1,.tree (.slice .int) a2,.tree .int a3] (Adr r):=by
 refine Ba (by kernel_rfl) Tryd.func42 Ae9 (n:=49) (by kernel_rfl) (by simp) (tl:=[(0,ai a0),(1,ai a1),(2,.tree (.slice .int) a2),(3,.tree .int a3)]) rfl ?_;unfold Vt;unfold Gp at h;refine An ?_;refine Ab ?_;obtain ⟨g3,h⟩:=Am h;refine Aa 5 ?_;refine rsB 1 ?_;refine rs1 (.own (oi 15 3) .int 0 a1.toNat) (oi 15 3) (.arr 3 .int (List.replicate a1.toNat (0:Int))) (R1 (t:=.int) (k:=.i64) (k':=.i64) (m:=a1) (m':=a1) (by kernel_rfl) (by kernel_rfl) g3 rfl) ?_;refine rsB 1 ?_;refine Aq (tn_ ?_);refine wr_ ?_;refine As h (fun (l4_m9:List Int) S_=>S_=⟨Ap [(9,.own (oi 0 1) .int 0 l4_m9.length)],Aj (Ar [(oi 0 1,.arr 3 .int l4_m9)]),2⟩) ?_ ?_
 ·intro v_ h;refine An ?_;refine Af ?_;refine Ax h (fun t_ S_=>∃ (l6_m18:Nat),∃ (l6_m9:List Int),t_=(l6_m18,l6_m9)∧S_=⟨Ap [(0,ai a0),(3,.tree .int a3),(9,.own (oi 0 1) .int 0 l6_m9.length),(16,.tree (.slice .int) a2),(17,ai ((a2.length:Nat):Int)),(18,ai ((l6_m18:Nat):Int))],Aj (Ar [(oi 0 1,.arr 3 .int l6_m9)]),2⟩) ⟨_,(A9 9 (.own (oi 15 3) .int 0 a1.toNat) (.own (oi 15 3) .int 0 ((List.replicate a1.toNat (0:Int)).length)) (by kernel_rfl) (congrArg (fun z_=>((.own (oi 15 3) .int 0 z_):AV)) (List.length_replicate.symm:a1.toNat=(List.replicate a1.toNat (0:Int)).length))).trans (Ac [(oi 0 1,oi 15 3)]),⟨0,List.replicate a1.toNat (0:Int),rfl,rfl⟩⟩ ?_;rintro n_ _ _ c_ ⟨l6_m18,l6_m9,rfl,rfl⟩ h hn6
  (try dsimp only at h);unfold G6 at h;unfold Q1;refine An ?_;refine Ab ?_;rcases Ae h with ⟨q9,h⟩ | ⟨q9,h⟩
  ·have q9_:=of_decide_eq_true q9;refine Ah q9 ?_;refine Ai (tn_ ?_);refine wr_ ?_;refine As h (fun (l10_m9:List Int) S_=>S_=⟨Ap [(0,ai a0),(3,.tree .int a3),(9,.own (oi 0 1) .int 0 l10_m9.length),(16,.tree (.slice .int) a2),(17,ai ((a2.length:Nat):Int)),(18,ai ((l6_m18:Nat):Int))],Aj (Ar [(oi 0 1,.arr 3 .int l10_m9)]),2⟩) ?_ ?_
   ·intro v_ h;refine Af ?_;refine Ab ?_;obtain ⟨x12,e12,h⟩:=Ad h;refine Aa 8 ?_;refine rsB 1 ?_;refine rs0 (.telt (.slice .int) x12 0) (zi (t:=.slice .int) (xs:=a2) (k:=.i64) (m:=((l6_m18:Nat):Int)) (At _) e12) ?_;refine rsB 3 ?_;refine Aq (tn_ ?_);refine wr_ ?_;refine An ?_;refine Af ?_;refine Ax h (fun t_ S_=>∃ (l14_m25:Nat),∃ (l14_m9:List Int),t_=(l14_m25,l14_m9)∧S_=⟨Ap [(0,ai a0),(3,.tree .int a3),(9,.own (oi 0 1) .int 0 l14_m9.length),(10,ai ((l6_m18:Nat):Int)),(16,.tree (.slice .int) a2),(17,ai ((a2.length:Nat):Int)),(18,ai ((l6_m18:Nat):Int)),(23,.tree .int x12),(24,ai ((x12.length:Nat):Int)),(25,ai ((l14_m25:Nat):Int))],Aj (Ar [(oi 0 1,.arr 3 .int l14_m9)]),2⟩) ⟨_,Ac [],⟨0,l6_m9,rfl,rfl⟩⟩ ?_;rintro n_ _ _ c_ ⟨l14_m25,l14_m9,rfl,rfl⟩ h hn14
    (try dsimp only at h);unfold Gy at h;unfold Qu;refine An ?_;refine Ab ?_;rcases Ae h with ⟨q17,h⟩ | ⟨q17,h⟩
    ·have q17_:=of_decide_eq_true q17;refine Ah q17 ?_;refine Ai (tn_ ?_);refine wr_ ?_;refine Ab ?_;refine Af ?_;refine Ab ?_;obtain ⟨x20,e20,h⟩:=Ad h;refine Aa 8 ?_;refine rsB 1 ?_;refine rs0 (.telt .int x20 0) (zi (t:=.int) (xs:=x12) (k:=.i64) (m:=((l14_m25:Nat):Int)) (At _) e20) ?_;refine rsB 3 ?_;refine Aq (tn_ ?_);refine wr_ ?_;obtain ⟨x21,e21,h⟩:=Ad h;obtain ⟨x22,e22,h⟩:=Ad h;obtain ⟨g23,h⟩:=Am h;refine Az 25 ?_;refine dz0 (.own (oi 0 1) .int 0 l14_m9.length) ?_;refine dz0 (ai ((l14_m25:Nat):Int)) ?_;refine dz0 (.own (oi 0 1) .int 0 l14_m9.length) ?_;refine dz0 (ai ((l14_m25:Nat):Int)) ?_;refine ds0 (.elt (oi 0 1) l14_m25 0) (zo (t:=.int) (o:=oi 0 1) (len:=l14_m9.length) (k:=.i64) (m:=((l14_m25:Nat):Int)) (At _) (Al e21)) ?_;refine dsl (ai x21) (Ed (i:=oi 0 1) (j:=l14_m25) (k:=0) (e:=3) (t:=.int) (xs:=l14_m9) (by kernel_rfl) (by kernel_rfl) e21 (by kernel_rfl)) ?_;refine dz0 (.tree .int a3) ?_;refine dz0 (ai ((l6_m18:Nat):Int)) ?_;refine ds0 (.telt .int x22 0) (zi (t:=.int) (xs:=a3) (k:=.i64) (m:=((l6_m18:Nat):Int)) (At _) e22) ?_;refine dz0 (ai x22) ?_;refine dz0 (ai x20) ?_;refine dz0 (ai (wI (x22*x20))) ?_;refine dz0 (ai (wI (x21+wI (x22*x20)))) ?_;refine dz0 (ai a0) ?_;refine ds0 (ai (Int.tmod (wI (x21+wI (x22*x20))) a0)) (On (k:=.i64) (a:=wI (x21+wI (x22*x20))) (b:=a0) (by kernel_rfl) (by kernel_rfl) g23) ?_;refine ds0 (.elt (oi 0 1) l14_m25 0) (zo (t:=.int) (o:=oi 0 1) (len:=l14_m9.length) (k:=.i64) (m:=((l14_m25:Nat):Int)) (At _) (Al e21)) ?_;refine Mx (oi 0 1) (oi 0 1) (.arr 3 .int (l14_m9.set l14_m25 (Int.tmod (wI (x21+wI (x22*x20))) a0))) (Ep (i:=oi 0 1) (j:=l14_m25) (k:=0) (e:=3) (t:=.int) (xs:=l14_m9) (cs:=[ai (Int.tmod (wI (x21+wI (x22*x20))) a0)]) (x1:=Int.tmod (wI (x21+wI (x22*x20))) a0) (by kernel_rfl) (by kernel_rfl) e21 (by kernel_rfl) (by kernel_rfl)) ?_;refine Ft (Bd (by kernel_rfl)) (bn_ (tn_ ?_));refine wr_ ?_;obtain ⟨g24,h⟩:=Am h;refine Aa 27 ?_;refine rs0 (ai ((l14_m25+1:Nat):Int)) (za g24) ?_;refine rsB 1 ?_;refine Aq (tn_ ?_);obtain rfl:=zj h;exact ⟨(l14_m25+1,l14_m9.set l14_m25 (Int.tmod (wI (x21+wI (x22*x20))) a0)),_,(A9 9 (.own (oi 0 1) .int 0 l14_m9.length) (.own (oi 0 1) .int 0 ((l14_m9.set l14_m25 (Int.tmod (wI (x21+wI (x22*x20))) a0)).length)) (by kernel_rfl) (congrArg (fun z_=>((.own (oi 0 1) .int 0 z_):AV)) (((rfl:l14_m9.length=l14_m9.length).trans List.length_set.symm):l14_m9.length=(l14_m9.set l14_m25 (Int.tmod (wI (x21+wI (x22*x20))) a0)).length))).trans (Ac []),⟨l14_m25+1,l14_m9.set l14_m25 (Int.tmod (wI (x21+wI (x22*x20))) a0),rfl,rfl⟩,hn14⟩
    have q17_:=of_decide_eq_false q17;refine Ag q17 ?_;refine Au (te_ (te_ (be_ (bn_ (tn_ ?_)))));obtain rfl:=zj h;have h:=hn14
    (try dsimp only at h);obtain rfl:=zj h;exact ⟨_,Ac [],rfl⟩
   rintro l10_m9 _ rfl h
   (try dsimp only at h);obtain ⟨g25,h⟩:=Am h;refine Aa 4 ?_;refine rs0 (ai ((l6_m18+1:Nat):Int)) (za g25) ?_;refine rsB 1 ?_;refine Aq (tn_ ?_);obtain rfl:=zj h;exact ⟨(l6_m18+1,l10_m9),_,Ac [],⟨l6_m18+1,l10_m9,rfl,rfl⟩,hn6⟩
  have q9_:=of_decide_eq_false q9;refine Ag q9 ?_;refine Au (te_ (te_ (be_ (tn_ ?_))));obtain rfl:=zj h;have h:=hn6
  (try dsimp only at h);obtain rfl:=zj h;exact ⟨_,Ac [],rfl⟩
 rintro l4_m9 _ rfl h
 (try dsimp only at h);refine An ?_;refine Ao ?_;obtain rfl:=zj h;exact Br [.own (oi 0 1) .int 0 l4_m9.length] (A8 rfl (Kb (by kernel_rfl) rfl) Bc)
def Ok:AC :=
 (.seq (rg [xo 25 (qb .lss (tm 24) (tm 23))])
 (.seq (.cond (tm 25)
  .skip
  (.exit 2))
 (.seq (.block 3 (.seq (rg [xo 26 (qm (tm 24)),xo 27 (qx 1 (tm 22) (tm 24)),xo 28 (ql (tm 27)),xo 6 (qm (tm 26)),xo 7 (qm (tm 28))])
 (rg [xo 29 (qf 1 (tm 3)),xo 30 (ql (tm 29)),xo 31 (qm (tm 6)),xo 32 (qx 1 (tm 30) (tm 31)),xo 33 (ql (tm 32)),xo 34 (qm (tm 4)),xo 35 (qm (tm 7)),xo 36 (qx 1 (tm 33) (tm 34)),xn (qs (tm 36) (tm 35))])))
 (rg [xo 37 (qb .add (tm 24) (ci 1)),xo 24 (qm (tm 37))]))))
def Of:AC :=
 (.seq (rg [xo 18 (qb .lss (tm 17) (tm 16))])
 (.seq (.cond (tm 18)
  .skip
  (.exit 0))
 (.seq (.block 1 (.seq (rg [xo 19 (qm (tm 17)),xo 20 (qx 1 (tm 15) (tm 17)),xo 21 (ql (tm 20)),xo 4 (qm (tm 19)),xo 5 (qm (tm 21))])
 (.seq (rg [xo 22 (qm (tm 5)),xo 23 (.i (.len (tm 22))),xo 24 (qm (ci 0))])
 (.block 2 (.loop Ok)))))
 (rg [xo 38 (qb .add (tm 17) (ci 1)),xo 17 (qm (tm 38))]))))
def Tb:AC :=
 (.seq (rg [xo 1 (.i (.box 64 (tm 0))),xo 2 (.i (.alloc 64 [.int .i64 0,.nils]))])
 (.seq (rg [xo 8 (qf 0 (tm 1)),xo 9 (ql (tm 8)),xo 10 (qf 1 (tm 1)),xo 11 (ql (tm 10)),xo 12 (.i (.len (tm 11))),xo 13 (qc 77 [tm 9,tm 12] [[],[]]),xo 3 (.i (.alloc 64 [.int .i64 0,.nils])),xn (.st false 2 (tm 3) (tm 13))])
 (.seq (.seq (rg [xo 14 (qf 1 (tm 1)),xo 15 (ql (tm 14)),xo 16 (.i (.len (tm 15))),xo 17 (qm (ci 0))])
 (.block 0 (.loop Of)))
 (.seq (rg [xo 39 (.i (.ld false 2 (tm 3))),xn (.st false 2 (tm 2) (tm 39))])
 .ret))))
def Ac3:List Res:=[.cell 2 false 2]
theorem Aco:Aw Tryd.prog Tryd.f44=some (Tb,Ac3):=by kernel_rfl
theorem Ab8:A6 Tryd.prog 44=true:=by kernel_rfl
def F1 (x13:List Int) (l7_m17:Nat) (l15_m24:Nat) (l15_m3_1:List (List Int)):Option (Ctl (Nat×List (List Int)) (List (List Int))) :=
 cond (decide (((l15_m24:Nat):Int)<((x13.length:Nat):Int)))
 (Option.bind (x13[l15_m24]?) fun x21 =>
 Option.bind (l15_m3_1[l15_m24]?) fun x22 =>
 Option.bind (x22[l7_m17]?) fun x23 =>
 og (l15_m24+1<4611686018427387904) <|
 some (Ctl.next (l15_m24+1,l15_m3_1.set l15_m24 (x22.set l7_m17 x21))))
 (some (Ctl.out l15_m3_1))
def Gf (a0_1:List (List Int)) (l7_m17:Nat) (l7_m3_1:List (List Int)):Option (Ctl (Nat×List (List Int)) (List (List Int))) :=
 cond (decide (((l7_m17:Nat):Int)<((a0_1.length:Nat):Int)))
 (Option.bind (Option.bind (a0_1[l7_m17]?) fun x13 =>
  Av (fun s_:Nat×List (List Int)=>F1 x13 l7_m17 s_.1 s_.2) 4611686018427387904 (0,l7_m3_1)) fun l11_m3_1 =>
 og (l7_m17+1<4611686018427387904) <|
 some (Ctl.next (l7_m17+1,l11_m3_1)))
 (some (Ctl.out l7_m3_1))
def G9 (a0_0:Int) (a0_1:List (List Int)):Option (List (List Int)) :=
 Option.bind (Fl a0_0 ((a0_1.length:Nat):Int)) fun y4 =>
Option.bind (Av (fun s_:Nat×List (List Int)=>Gf a0_1 s_.1 s_.2) 4611686018427387904 (0,y4)) fun l5_m3_1 =>
some l5_m3_1
theorem Aar {a0_0:Int} {a0_1:List (List Int)} {r:List (List Int)} (h:G9 a0_0 a0_1=some r):Fi Tryd.prog Tab 44 [.agg [ai a0_0,.tree (.slice .int) a0_1]] [] (.agg [ai (((a0_1.length:Nat):Int)),.own (oi 1 1) (.slice .int) 0 r.length]) [(oi 0 1,.cells 64 [ai (((a0_1.length:Nat):Int)),.own (oi 1 1) (.slice .int) 0 r.length]),(oi 1 1,.mat 23 (oi 2 1) .int r),(oi 2 1,.pool 3 .int r)]:=by
 refine B8 (by kernel_rfl) Tryd.func44 Aco (n:=40) (by kernel_rfl) (by simp) (tl:=[(0,.agg [ai a0_0,.tree (.slice .int) a0_1])]) rfl (by kernel_rfl) trivial ⟨trivial,⟨⟨3,.tail _ (.tail _ (.head _))⟩,⟨trivial,trivial⟩⟩⟩ ?_;unfold Tb;unfold G9 at h;refine An ?_;refine Ab ?_;obtain ⟨y4,h4,h⟩:=Ad h;refine Aa 11 ?_;refine rsB 5 ?_;refine C3 (.agg [ai (((a0_1.length:Nat):Int)),.own (oi 209 8) (.slice .int) 0 y4.length]) [(oi 208 8,some (.cells 64 [ai (((a0_1.length:Nat):Int)),.own (oi 209 8) (.slice .int) 0 y4.length])),(oi 209 8,some (.mat 23 (oi 210 8) .int y4)),(oi 210 8,some (.pool 3 .int y4))] [] [ai a0_0,ai ((a0_1.length:Nat):Int)] (caps:=[]) trivial (Mf h4) My trivial (.cons (.ren (by kernel_rfl)) (.cons (.ren (by kernel_rfl)) .nil)) (A7 (by kernel_rfl) (by kernel_rfl) trivial) ?_;refine rsB 2 ?_;refine Aq (tn_ ?_);refine wr_ ?_;refine As h (fun (l5_m3_1:List (List Int)) S_=>S_=⟨Ap [(2,.box (oi 0 1) 0),(3,.box (oi 1 1) 0)],Aj (Ar [(oi 0 1,.cells 64 [ai 0,.nils]),(oi 1 1,.cells 64 [ai (((a0_1.length:Nat):Int)),.own (oi 2 1) (.slice .int) 0 l5_m3_1.length]),(oi 2 1,.mat 23 (oi 3 1) .int l5_m3_1),(oi 3 1,.pool 3 .int l5_m3_1)]),2⟩) ?_ ?_
 ·intro v_ h;refine An ?_;refine Af ?_;refine Ax h (fun t_ S_=>∃ (l7_m17:Nat),∃ (l7_m3_1:List (List Int)),t_=(l7_m17,l7_m3_1)∧S_=⟨Ap [(2,.box (oi 0 1) 0),(3,.box (oi 1 1) 0),(15,.tree (.slice .int) a0_1),(16,ai ((a0_1.length:Nat):Int)),(17,ai ((l7_m17:Nat):Int))],Aj (Ar [(oi 0 1,.cells 64 [ai 0,.nils]),(oi 1 1,.cells 64 [ai (((a0_1.length:Nat):Int)),.own (oi 2 1) (.slice .int) 0 l7_m3_1.length]),(oi 2 1,.mat 23 (oi 3 1) .int l7_m3_1),(oi 3 1,.pool 3 .int l7_m3_1)]),2⟩) ⟨_,Ac [(oi 0 1,oi 2 2),(oi 1 1,oi 3 9),(oi 2 1,oi 209 8),(oi 3 1,oi 210 8)],⟨0,y4,rfl,rfl⟩⟩ ?_;rintro n_ _ _ c_ ⟨l7_m17,l7_m3_1,rfl,rfl⟩ h hn7
  (try dsimp only at h);unfold Gf at h;unfold Of;refine An ?_;refine Ab ?_;rcases Ae h with ⟨q10,h⟩ | ⟨q10,h⟩
  ·have q10_:=of_decide_eq_true q10;refine Ah q10 ?_;refine Ai (tn_ ?_);refine wr_ ?_;refine As h (fun (l11_m3_1:List (List Int)) S_=>S_=⟨Ap [(2,.box (oi 0 1) 0),(3,.box (oi 1 1) 0),(15,.tree (.slice .int) a0_1),(16,ai ((a0_1.length:Nat):Int)),(17,ai ((l7_m17:Nat):Int))],Aj (Ar [(oi 0 1,.cells 64 [ai 0,.nils]),(oi 1 1,.cells 64 [ai (((a0_1.length:Nat):Int)),.own (oi 2 1) (.slice .int) 0 l11_m3_1.length]),(oi 2 1,.mat 23 (oi 3 1) .int l11_m3_1),(oi 3 1,.pool 3 .int l11_m3_1)]),2⟩) ?_ ?_
   ·intro v_ h;refine Af ?_;refine Ab ?_;obtain ⟨x13,e13,h⟩:=Ad h;refine Aa 8 ?_;refine rsB 1 ?_;refine rs0 (.telt (.slice .int) x13 0) (zi (t:=.slice .int) (xs:=a0_1) (k:=.i64) (m:=((l7_m17:Nat):Int)) (At _) e13) ?_;refine rsB 3 ?_;refine Aq (tn_ ?_);refine wr_ ?_;refine An ?_;refine Af ?_;refine Ax h (fun t_ S_=>∃ (l15_m24:Nat),∃ (l15_m3_1:List (List Int)),t_=(l15_m24,l15_m3_1)∧S_=⟨Ap [(2,.box (oi 0 1) 0),(3,.box (oi 1 1) 0),(4,ai ((l7_m17:Nat):Int)),(15,.tree (.slice .int) a0_1),(16,ai ((a0_1.length:Nat):Int)),(17,ai ((l7_m17:Nat):Int)),(22,.tree .int x13),(23,ai ((x13.length:Nat):Int)),(24,ai ((l15_m24:Nat):Int))],Aj (Ar [(oi 0 1,.cells 64 [ai 0,.nils]),(oi 1 1,.cells 64 [ai (((a0_1.length:Nat):Int)),.own (oi 2 1) (.slice .int) 0 l15_m3_1.length]),(oi 2 1,.mat 23 (oi 3 1) .int l15_m3_1),(oi 3 1,.pool 3 .int l15_m3_1)]),2⟩) ⟨_,Ac [],⟨0,l7_m3_1,rfl,rfl⟩⟩ ?_;rintro n_ _ _ c_ ⟨l15_m24,l15_m3_1,rfl,rfl⟩ h hn15
    (try dsimp only at h);unfold F1 at h;unfold Ok;refine An ?_;refine Ab ?_;rcases Ae h with ⟨q18,h⟩ | ⟨q18,h⟩
    ·have q18_:=of_decide_eq_true q18;refine Ah q18 ?_;refine Ai (tn_ ?_);refine wr_ ?_;refine Ab ?_;refine Af ?_;refine Ab ?_;obtain ⟨x21,e21,h⟩:=Ad h;refine Aa 8 ?_;refine rsB 1 ?_;refine rs0 (.telt .int x21 0) (zi (t:=.int) (xs:=x13) (k:=.i64) (m:=((l15_m24:Nat):Int)) (At _) e21) ?_;refine rsB 3 ?_;refine Aq (tn_ ?_);refine wr_ ?_;obtain ⟨x22,e22,h⟩:=Ad h;obtain ⟨x23,e23,h⟩:=Ad h;refine Aa 17 ?_;refine rsB 3 ?_;refine rs0 (.elt (oi 2 1) l15_m24 0) (zo (t:=.slice .int) (o:=oi 2 1) (len:=l15_m3_1.length) (k:=.i64) (m:=((l15_m24:Nat):Int)) (At _) (Al e22)) ?_;refine rsl (.own (kid (oi 3 1) l15_m24) .int 0 x22.length) (Bs (o:=oi 2 1) (p:=oi 3 1) (e1:=23) (u:=.int) (xss:=l15_m3_1) (row:=x22) (j:=l15_m24) (by kernel_rfl) (by kernel_rfl) e22) ?_;refine rsB 2 ?_;refine rs0 (.elt (kid (oi 3 1) l15_m24) l7_m17 0) (zo (t:=.int) (o:=kid (oi 3 1) l15_m24) (len:=x22.length) (k:=.i64) (m:=((l7_m17:Nat):Int)) (At _) (Al e23)) ?_;refine Nj (kid (oi 3 1) l15_m24) (kid (oi 3 1) l15_m24) (.arr 3 .int (x22.set l7_m17 x21)) (Ep (i:=kid (oi 3 1) l15_m24) (j:=l7_m17) (k:=0) (e:=3) (t:=.int) (xs:=x22) (cs:=[ai x21]) (x1:=x21) (by kernel_rfl) (A0 (by kernel_rfl) e22) e23 (by kernel_rfl) (by kernel_rfl)) ?_;refine Asv (Hh (o:=oi 2 1) (p:=oi 3 1) (e1:=23) (e:=3) (u:=.int) (xss:=l15_m3_1) (k:=l15_m24) (row:=x22) (row':=x22.set l7_m17 x21) (by kernel_rfl) rfl (by kernel_rfl) e22 List.length_set) ?_;refine Aq (bn_ (tn_ ?_));refine wr_ ?_;obtain ⟨g24,h⟩:=Am h;refine Aa 19 ?_;refine rs0 (ai ((l15_m24+1:Nat):Int)) (za g24) ?_;refine rsB 1 ?_;refine Aq (tn_ ?_);obtain rfl:=zj h;exact ⟨(l15_m24+1,l15_m3_1.set l15_m24 (x22.set l7_m17 x21)),_,(Dy (oi 1 1) (.cells 64 [ai (((a0_1.length:Nat):Int)),.own (oi 2 1) (.slice .int) 0 l15_m3_1.length]) (.cells 64 [ai (((a0_1.length:Nat):Int)),.own (oi 2 1) (.slice .int) 0 ((l15_m3_1.set l15_m24 (x22.set l7_m17 x21)).length)]) (by kernel_rfl) (congrArg (fun z_=>(.cells 64 [ai (((a0_1.length:Nat):Int)),.own (oi 2 1) (.slice .int) 0 z_]:Ob)) ((Eq.trans (b:=l15_m3_1.length) rfl List.length_set.symm):l15_m3_1.length=(l15_m3_1.set l15_m24 (x22.set l7_m17 x21)).length))).trans (Ac []),⟨l15_m24+1,l15_m3_1.set l15_m24 (x22.set l7_m17 x21),rfl,rfl⟩,hn15⟩
    have q18_:=of_decide_eq_false q18;refine Ag q18 ?_;refine Au (te_ (te_ (be_ (bn_ (tn_ ?_)))));obtain rfl:=zj h;have h:=hn15
    (try dsimp only at h);obtain rfl:=zj h;exact ⟨_,Ac [],rfl⟩
   rintro l11_m3_1 _ rfl h
   (try dsimp only at h);obtain ⟨g25,h⟩:=Am h;refine Aa 4 ?_;refine rs0 (ai ((l7_m17+1:Nat):Int)) (za g25) ?_;refine rsB 1 ?_;refine Aq (tn_ ?_);obtain rfl:=zj h;exact ⟨(l7_m17+1,l11_m3_1),_,Ac [],⟨l7_m17+1,l11_m3_1,rfl,rfl⟩,hn7⟩
  have q10_:=of_decide_eq_false q10;refine Ag q10 ?_;refine Au (te_ (te_ (be_ (tn_ ?_))));obtain rfl:=zj h;have h:=hn7
  (try dsimp only at h);obtain rfl:=zj h;exact ⟨_,Ac [],rfl⟩
 rintro l5_m3_1 _ rfl h
 (try dsimp only at h);refine An ?_;refine Ao ?_;obtain rfl:=zj h;exact Gk [.agg [ai (((a0_1.length:Nat):Int)),.own (oi 1 1) (.slice .int) 0 l5_m3_1.length]] (Ac (tl:=[(2,.box (oi 0 1) 0)]) (g:=2) [(oi 1 1,oi 2 1),(oi 2 1,oi 3 1)])
def R5:AC :=
 (.seq (rg [xo 8 (qb .lss (tm 7) (tm 6))])
 (.seq (.cond (tm 8)
  .skip
  (.exit 0))
 (.seq (.block 1 (.seq (rg [xo 9 (qm (tm 7)),xo 10 (qx 1 (tm 5) (tm 7)),xo 11 (ql (tm 10)),xo 3 (qm (tm 9)),xo 4 (qm (tm 11))])
 (.seq (rg [xo 12 (qm (tm 4)),xo 13 (qb .neq (tm 12) (ci 0))])
 (.cond (tm 13)
  (.seq (rg [xo 14 (qm (tm 3)),xo 2 (qm (tm 14))])
  .ret)
  .skip))))
 (rg [xo 15 (qb .add (tm 7) (ci 1)),xo 7 (qm (tm 15))]))))
def Yh:AC :=
 (.seq (rg [xo 2 (qm (ci 0))])
 (.seq (.seq (rg [xo 5 (qm (tm 0)),xo 6 (.i (.len (tm 5))),xo 7 (qm (ci 0))])
 (.block 0 (.loop R5)))
 (.seq (rg [xo 16 (qm (tm 0)),xo 17 (.i (.len (tm 16))),xo 2 (qm (tm 17))])
 .ret)))
def Aio:List Res:=[.tmp 2]
theorem Ahn:Aw Tryd.prog Tryd.f83=some (Yh,Aio):=by kernel_rfl
theorem Af5:A6 Tryd.prog 83=true:=by kernel_rfl
def Ib (a0:List Int) (l4_m7:Nat):Option (Ctl Nat (Ctl Unit Int)) :=
 cond (decide (((l4_m7:Nat):Int)<((a0.length:Nat):Int)))
 (Option.bind (a0[l4_m7]?) fun x10 =>
 cond (x10 !=0)
  (some (Ctl.out (Ctl.out ((l4_m7:Nat):Int))))
  (og (l4_m7+1<4611686018427387904) <|
  some (Ctl.next (l4_m7+1))))
 (some (Ctl.out (Ctl.next ())))
def K4 (a0:List Int):Option Int :=
 Ud (Av (fun s_:Nat=>Ib a0 s_) 4611686018427387904 0) fun _ =>
some ((a0.length:Nat):Int)
def Afy (r:Int):RV:=⟨false,[(false,[.sc (.int .i64 r)])]⟩
theorem Aga {a0:List Int} {r:Int} (h:K4 a0=some r):Bm Tryd.prog Tab 83 [.tree .int a0] (Afy r):=by
 refine Ba (by kernel_rfl) Tryd.func83 Ahn (n:=18) (by kernel_rfl) (by simp) (tl:=[(0,.tree .int a0)]) rfl ?_;unfold Yh;unfold K4 at h;refine An ?_;refine G8 h (fun (_:Unit) S_=>S_=⟨Ap [(0,.tree .int a0)],Aj (Ar []),2⟩) ?_ ?_
 ·intro v_ h hk2;refine An ?_;refine Af ?_;refine Ax h (fun (l4_m7:Nat) S_=>S_=⟨Ap [(0,.tree .int a0),(5,.tree .int a0),(6,ai ((a0.length:Nat):Int)),(7,ai ((l4_m7:Nat):Int))],Aj (Ar []),2⟩) ⟨_,Ac [],rfl⟩ ?_;rintro n_ l4_m7 _ c_ rfl h hn4
  (try dsimp only at h);unfold Ib at h;unfold R5;refine An ?_;refine Ab ?_;rcases Ae h with ⟨q7,h⟩ | ⟨q7,h⟩
  ·have q7_:=of_decide_eq_true q7;refine Ah q7 ?_;refine Ai (tn_ ?_);refine wr_ ?_;refine Ab ?_;refine Af ?_;refine Ab ?_;obtain ⟨x10,e10,h⟩:=Ad h;refine Aa 8 ?_;refine rsB 1 ?_;refine rs0 (.telt .int x10 0) (zi (t:=.int) (xs:=a0) (k:=.i64) (m:=((l4_m7:Nat):Int)) (At _) e10) ?_;refine rsB 3 ?_;refine Aq (tn_ ?_);refine wr_ ?_;refine An ?_;rcases Ae h with ⟨q12,h⟩ | ⟨q12,h⟩
   ·refine Ah q12 ?_;refine An ?_;refine Ao (br_ (tr_ (tr_ (br_ (tr_ ?_)))));obtain rfl:=zj h;have h:=hn4
    (try dsimp only at h);obtain rfl:=zj h;have h:=hk2
    (try dsimp only at h);obtain rfl:=zj h;exact Br [ai ((l4_m7:Nat):Int)] (A8 rfl zl Bc)
   refine Ag q12 ?_;refine Ai (bn_ (tn_ ?_));refine wr_ ?_;obtain ⟨g14,h⟩:=Am h;refine Aa 12 ?_;refine rs0 (ai ((l4_m7+1:Nat):Int)) (za g14) ?_;refine rsB 1 ?_;refine Aq (tn_ ?_);obtain rfl:=zj h;exact ⟨l4_m7+1,_,Ac [],rfl,hn4⟩
  have q7_:=of_decide_eq_false q7;refine Ag q7 ?_;refine Au (te_ (te_ (be_ (tn_ ?_))));obtain rfl:=zj h;have h:=hn4
  (try dsimp only at h);obtain rfl:=zj h;exact ⟨(),_,rfl,Ac [],rfl⟩
 rintro _ _ rfl h
 (try dsimp only at h);refine An ?_;refine Ao ?_;obtain rfl:=zj h;exact Br [ai ((a0.length:Nat):Int)] (A8 rfl zl Bc)
def Jr:AC :=
 (.seq (rg [xo 58 (qb .lss (tm 57) (tm 56))])
 (.seq (.cond (tm 58)
  .skip
  (.exit 4))
 (.seq (.block 5 (.seq (rg [xo 59 (qx 1 (tm 55) (tm 57)),xo 60 (ql (tm 59)),xo 15 (qm (tm 60))])
 (.seq (rg [xo 61 (qm (tm 15)),xo 62 (qc 83 [tm 61] [[some .int]]),xo 16 (qm (tm 62))])
 (.seq (.seq (rg [xo 63 (qm (tm 16)),xo 64 (qm (tm 2)),xo 65 (qb .eql (tm 63) (tm 64))])
 (.cond (tm 65)
  (.seq (rg [xo 6 (qm (.cst .nils)),xo 7 (qm (cb false))])
  .ret)
  .skip))
 (rg [xo 66 (qm (tm 13)),xo 67 (qm (tm 2)),xo 68 (qb .sub (tm 67) (ci 1)),xo 69 (qm (tm 16)),xo 70 (qb .sub (tm 68) (tm 69)),xo 71 (qm (tm 15)),xo 72 (qm (tm 2)),xo 73 (qx 1 (tm 71) (tm 72)),xo 74 (ql (tm 73)),xo 75 (qx 1 (tm 66) (tm 70)),xn (qs (tm 75) (tm 74))])))))
 (rg [xo 76 (qb .add (tm 57) (ci 1)),xo 57 (qm (tm 76))]))))
def Jt:AC :=
 (.seq (.seq (rg [xo 27 (qm (tm 12)),xo 28 (qb .geq (tm 27) (ci 0))])
 (.cond (tm 28)
  .skip
  (.exit 2)))
 (.seq (.block 3 (rg [xo 31 (qm (tm 11)),xo 32 (qm (tm 10)),xo 33 (qm (tm 12)),xo 34 (qx 1 (tm 32) (tm 33)),xo 35 (ql (tm 34)),xo 36 (.mkS 3 .int [tm 35]),xo 37 (.append 3 .int 8 (tm 31) (tm 36)),xo 11 (qm (tm 37))]))
 (rg [xo 29 (qm (tm 12)),xo 30 (qb .sub (tm 29) (ci 1)),xo 12 (qm (tm 30))])))
def Jm:AC :=
 (.seq (rg [xo 21 (qb .lss (tm 20) (tm 19))])
 (.seq (.cond (tm 21)
  .skip
  (.exit 0))
 (.seq (.block 1 (.seq (rg [xo 22 (qx 1 (tm 18) (tm 20)),xo 23 (ql (tm 22)),xo 10 (qm (tm 23))])
 (.seq (rg [xo 24 (.mkS 3 .int []),xo 11 (qm (tm 24))])
 (.seq (.seq (rg [xo 25 (qm (tm 2)),xo 26 (qb .sub (tm 25) (ci 1)),xo 12 (qm (tm 26))])
 (.block 2 (.loop Jt)))
 (rg [xo 38 (qm (tm 8)),xo 39 (qm (tm 11)),xo 40 (qm (tm 10)),xo 41 (qm (tm 2)),xo 42 (qx 1 (tm 40) (tm 41)),xo 43 (ql (tm 42)),xo 44 (.mkS 3 .int [tm 43]),xo 45 (.append 3 .int 8 (tm 39) (tm 44)),xo 46 (.mkV 23 (.slice .int) 1 [tm 45]),xo 47 (.appV 23 (.slice .int) 24 (tm 38) (tm 46)),xo 8 (qm (tm 47))])))))
 (rg [xo 48 (qb .add (tm 20) (ci 1)),xo 20 (qm (tm 48))]))))
def K5:AC :=
 (.seq (rg [xo 6 (qm (.cst .nils)),xo 7 (qm (cb false))])
 (.seq (rg [xo 17 (.mkV 23 (.slice .int) 1 []),xo 8 (qm (tm 17))])
 (.seq (.seq (rg [xo 18 (qm (tm 1)),xo 19 (.i (.len (tm 18))),xo 20 (qm (ci 0))])
 (.block 0 (.loop Jm)))
 (.seq (rg [xo 49 (qm (tm 2)),xo 50 (qc 69 [tm 49] [[]]),xo 13 (qm (tm 50))])
 (.seq (.seq (rg [xo 51 (qm (tm 0)),xo 52 (qm (tm 8)),xo 53 (qm (tm 2)),xo 54 (qb .add (tm 53) (ci 1)),xo 55 (qc 70 [tm 51,tm 52,tm 54] [[],[some (.slice .int)],[]]),xo 56 (.i (.len (tm 55))),xo 57 (qm (ci 0))])
 (.block 4 (.loop Jr)))
 (.seq (rg [xo 77 (qm (tm 13)),xo 6 (qm (tm 77)),xo 7 (qm (cb true))])
 .ret))))))
def Rt:List Res:=[.tmp 6,.tmp 7]
theorem Ri:Aw Tryd.prog Tryd.f53=some (K5,Rt):=by kernel_rfl
theorem Q9:A6 Tryd.prog 53=true:=by kernel_rfl
def C6 (x11:List Int) (l15_m12:Int) (l15_m11:List Int):Option (Ctl (Int×List Int) (List Int)) :=
 cond (decide (0<=l15_m12))
 (Option.bind (Ex x11 l15_m12) fun x20 =>
 og (l15_m11.length+1<=1073741824∧(l15_m11.length+1)*8<=140737488355328) <|
 some (Ctl.next (wI (l15_m12 - 1),l15_m11++([x20]))))
 (some (Ctl.out l15_m11))
def Ci (a1:List (List Int)) (a2:Int) (l5_m20:Nat) (l5_m8:List (List Int)):Option (Ctl (Nat×List (List Int)) (List (List Int))) :=
 cond (decide (((l5_m20:Nat):Int)<((a1.length:Nat):Int)))
 (Option.bind (Option.bind (a1[l5_m20]?) fun x11 =>
  Option.bind (Av (fun s_:Int×List Int=>C6 x11 s_.1 s_.2) 4611686018427387904 (wI (a2 - 1),[])) fun l13_m11 =>
  Option.bind (Ex x11 a2) fun x22 =>
  og (l13_m11.length+1<=1073741824∧(l13_m11.length+1)*8<=140737488355328) <|
  og (l5_m8.length+1<=1073741824∧(l5_m8.length+1)*24<=140737488355328) <|
  some (l5_m8++[l13_m11++([x22])])) fun l9_m8 =>
 og (l5_m20+1<4611686018427387904) <|
 some (Ctl.next (l5_m20+1,l9_m8)))
 (some (Ctl.out l5_m8))
def Bl (y30:List (List Int)) (a2:Int) (l31_m57:Nat) (l31_m13:List Int):Option (Ctl (Nat×List Int) (Ctl (List Int) (List Int×Bool))) :=
 cond (decide (((l31_m57:Nat):Int)<((y30.length:Nat):Int)))
 (Option.bind (y30[l31_m57]?) fun x37 =>
 Option.bind (K4 x37) fun y39 =>
 cond (y39==a2)
  (some (Ctl.out (Ctl.out ([],false))))
  (Option.bind (Ex x37 a2) fun x44 =>
  Option.bind (Ex l31_m13 (wI ((wI (a2 - 1)) - y39))) fun x45 =>
  Option.bind (Ex l31_m13 (wI ((wI (a2 - 1)) - y39))) fun x46 =>
  og (l31_m57+1<4611686018427387904) <|
  some (Ctl.next (l31_m57+1,l31_m13.set ((wI ((wI (a2 - 1)) - y39)).toNat) x44))))
 (some (Ctl.out (Ctl.next l31_m13)))
def Cl (a0:Int) (a1:List (List Int)) (a2:Int):Option (List Int×Bool) :=
 Option.bind (Av (fun s_:Nat×List (List Int)=>Ci a1 a2 s_.1 s_.2) 4611686018427387904 (0,([]:List (List Int)))) fun l3_m8 =>
Option.bind (Fg a2) fun y27 =>
Ud (Option.bind (Hu a0 l3_m8 (wI (a2+1))) fun y30 =>
 Av (fun s_:Nat×List Int=>Bl y30 a2 s_.1 s_.2) 4611686018427387904 (0,y27)) fun l28_m13 =>
some (l28_m13,true)
def Q6 (r:List Int×Bool):RV:=⟨true,[(false,[.new 3 .int r.1]),(false,[.sc (.bool r.2)])]⟩
set_option maxHeartbeats 1600000 in
theorem Q5 {a0:Int} {a1:List (List Int)} {a2:Int} {r:List Int×Bool} (h:Cl a0 a1 a2=some r):Bm Tryd.prog Tab 53 [ai a0,.tree (.slice .int) a1,ai a2] (Q6 r):=by
 refine Ba (by kernel_rfl) Tryd.func53 Ri (n:=78) (by kernel_rfl) (by simp) (tl:=[(0,ai a0),(1,.tree (.slice .int) a1),(2,ai a2)]) rfl ?_;unfold K5;unfold Cl at h;refine An ?_;refine Ab ?_;refine Aa 5 ?_;refine Afp (.own (oi 17 3) (.slice .int) 0 0) (oi 17 3) (.vec 23 1 0 []) trivial (L7 (by kernel_rfl)) ?_;refine rsB 1 ?_;refine Aq (tn_ ?_);refine ⟨_,Gt (e1:=23) (n:=0) 9000 (oi 17 3) 3 .int (by kernel_rfl) (by kernel_rfl) rfl (by kernel_rfl) (by kernel_rfl),?_⟩;refine As h (fun (l3_m8:List (List Int)) S_=>S_=⟨Ap [(0,ai a0),(2,ai a2),(8,.own (oi 0 1) (.slice .int) 0 l3_m8.length)],Aj (Ar [(oi 0 1,.mat 23 (oi 1 1) .int l3_m8),(oi 1 1,.pool 3 .int l3_m8)]),2⟩) ?_ ?_
 ·intro v_ h;refine An ?_;refine Af ?_;refine Ax h (fun t_ S_=>∃ (l5_m20:Nat),∃ (l5_m8:List (List Int)),t_=(l5_m20,l5_m8)∧S_=⟨Ap [(0,ai a0),(2,ai a2),(8,.own (oi 0 1) (.slice .int) 0 l5_m8.length),(18,.tree (.slice .int) a1),(19,ai ((a1.length:Nat):Int)),(20,ai ((l5_m20:Nat):Int))],Aj (Ar [(oi 0 1,.mat 23 (oi 1 1) .int l5_m8),(oi 1 1,.pool 3 .int l5_m8)]),2⟩) ⟨_,Ac [(oi 0 1,oi 17 3),(oi 1 1,oi 9000 5)],⟨0,([]:List (List Int)),rfl,rfl⟩⟩ ?_;rintro n_ _ _ c_ ⟨l5_m20,l5_m8,rfl,rfl⟩ h hn5
  (try dsimp only at h);unfold Ci at h;unfold Jm;refine An ?_;refine Ab ?_;rcases Ae h with ⟨q8,h⟩ | ⟨q8,h⟩
  ·have q8_:=of_decide_eq_true q8;refine Ah q8 ?_;refine Ai (tn_ ?_);refine wr_ ?_;refine As h (fun (l9_m8:List (List Int)) S_=>S_=⟨Ap [(0,ai a0),(2,ai a2),(8,.own (oi 0 1) (.slice .int) 0 l9_m8.length),(18,.tree (.slice .int) a1),(19,ai ((a1.length:Nat):Int)),(20,ai ((l5_m20:Nat):Int))],Aj (Ar [(oi 0 1,.mat 23 (oi 1 1) .int l9_m8),(oi 1 1,.pool 3 .int l9_m8)]),2⟩) ?_ ?_
   ·intro v_ h;refine Af ?_;refine Ab ?_;obtain ⟨x11,e11,h⟩:=Ad h;refine Aa 6 ?_;refine rs0 (.telt (.slice .int) x11 0) (zi (t:=.slice .int) (xs:=a1) (k:=.i64) (m:=((l5_m20:Nat):Int)) (At _) e11) ?_;refine rsB 2 ?_;refine Aq (tn_ ?_);refine wr_ ?_;refine An ?_;refine As h (fun (l13_m11:List Int) S_=>S_=⟨Ap [(0,ai a0),(2,ai a2),(8,.own (oi 0 1) (.slice .int) 0 l5_m8.length),(10,.tree .int x11),(11,.own (oi 2 1) .int 0 l13_m11.length),(18,.tree (.slice .int) a1),(19,ai ((a1.length:Nat):Int)),(20,ai ((l5_m20:Nat):Int))],Aj (Ar [(oi 0 1,.mat 23 (oi 1 1) .int l5_m8),(oi 1 1,.pool 3 .int l5_m8),(oi 2 1,.arr 3 .int l13_m11)]),2⟩) ?_ ?_
    ·intro v_ h;refine An ?_;refine Af ?_;refine Ax h (fun t_ S_=>∃ (l15_m12:Int),∃ (l15_m11:List Int),t_=(l15_m12,l15_m11)∧S_=⟨Ap [(0,ai a0),(2,ai a2),(8,.own (oi 0 1) (.slice .int) 0 l5_m8.length),(10,.tree .int x11),(11,.own (oi 2 1) .int 0 l15_m11.length),(12,ai l15_m12),(18,.tree (.slice .int) a1),(19,ai ((a1.length:Nat):Int)),(20,ai ((l5_m20:Nat):Int))],Aj (Ar [(oi 0 1,.mat 23 (oi 1 1) .int l5_m8),(oi 1 1,.pool 3 .int l5_m8),(oi 2 1,.arr 3 .int l15_m11)]),2⟩) ⟨_,Ac [(oi 2 1,oi 24 6)],⟨wI (a2 - 1),[],rfl,rfl⟩⟩ ?_;rintro n_ _ _ c_ ⟨l15_m12,l15_m11,rfl,rfl⟩ h hn15
     (try dsimp only at h);unfold C6 at h;unfold Jt;refine Ab ?_;refine An ?_;rcases Ae h with ⟨q18,h⟩ | ⟨q18,h⟩
     ·have q18_:=of_decide_eq_true q18;refine Ah q18 ?_;refine Ai (tn_ ?_);refine wr_ ?_;refine Ab ?_;refine Af ?_;obtain ⟨x20,f20,h⟩:=Ad h;obtain ⟨p20,b20,e20⟩:=Bi f20;obtain ⟨g21,h⟩:=Am h;refine Aa 12 ?_;refine rsB 3 ?_;refine rs0 (.telt .int x20 0) (zi (t:=.int) (xs:=x11) (k:=.i64) (m:=l15_m12) p20 e20) ?_;refine rsB 2 ?_;refine rs2 (.own (oi 2 10) .int 0 ((l15_m11++([x20])).length)) (oi 2 1) (oi 2 10) (.arr 3 .int (l15_m11++([x20]))) (It (t:=.int) (t':=.int) (xs:=l15_m11) (ys:=[x20]) (zs:=l15_m11++([x20])) (j:=oi 2 1) (len:=l15_m11.length) (c:=.own (oi 36 9) .int 0 1) (by kernel_rfl) (by kernel_rfl) rfl (by kernel_rfl) (Me (e:=3) (by kernel_rfl) rfl) rfl g21) ?_;refine rsB 1 ?_;refine Aq (bn_ (tn_ ?_));refine wr_ ?_;refine Aa 15 ?_;refine rsB 3 ?_;refine Aq (tn_ ?_);obtain rfl:=zj h;exact ⟨(wI (l15_m12 - 1),l15_m11++([x20])),_,Ac [(oi 2 1,oi 2 10)],⟨wI (l15_m12 - 1),l15_m11++([x20]),rfl,rfl⟩,hn15⟩
     have q18_:=of_decide_eq_false q18;refine Ag q18 ?_;refine Au (te_ (te_ (be_ (tn_ ?_))));obtain rfl:=zj h;have h:=hn15
     (try dsimp only at h);obtain rfl:=zj h;exact ⟨_,Ac [],rfl⟩
    rintro l13_m11 _ rfl h
    (try dsimp only at h);obtain ⟨x22,f22,h⟩:=Ad h;obtain ⟨p22,b22,e22⟩:=Bi f22;obtain ⟨g23,h⟩:=Am h;obtain ⟨g24,h⟩:=Am h;refine Aa 13 ?_;refine rsB 4 ?_;refine rs0 (.telt .int x22 0) (zi (t:=.int) (xs:=x11) (k:=.i64) (m:=a2) p22 e22) ?_;refine rsB 2 ?_;refine rs2 (.own (oi 2 9) .int 0 ((l13_m11++([x22])).length)) (oi 2 1) (oi 2 9) (.arr 3 .int (l13_m11++([x22]))) (It (t:=.int) (t':=.int) (xs:=l13_m11) (ys:=[x22]) (zs:=l13_m11++([x22])) (j:=oi 2 1) (len:=l13_m11.length) (c:=.own (oi 44 8) .int 0 1) (by kernel_rfl) (by kernel_rfl) rfl (by kernel_rfl) (Me (e:=3) (by kernel_rfl) rfl) rfl g23) ?_;refine Afp (.own (oi 46 10) (.slice .int) 0 1) (oi 46 10) (.vec 23 1 1 ([.own (oi 2 9) .int 0 ((l13_m11++([x22])).length)])) trivial (L7 (by kernel_rfl)) ?_;refine rs2 (.own (oi 0 11) (.slice .int) 0 (l5_m8.length+1)) (oi 0 1) (oi 0 11) (.vec 23 1 (l5_m8.length+1) (hdL (oi 1 1) .int l5_m8++[.own (oi 2 9) .int 0 ((l13_m11++([x22])).length)])) (Jf (u:=.int) (t':=.slice .int) (t2:=.slice .int) (o:=oi 0 1) (q:=oi 46 10) (e2:=23) (p:=oi 1 1) (xss:=l5_m8) (cs:=[.own (oi 2 9) .int 0 ((l13_m11++([x22])).length)]) (len:=l5_m8.length) (by kernel_rfl) (by kernel_rfl) rfl (by kernel_rfl) (by kernel_rfl) rfl g24) ?_;refine rsB 1 ?_;refine Aq (bn_ (tn_ ?_));obtain rfl:=zj h;exact ⟨_,(Fb (e1:=23) (e:=3) (u:=.int) (n:=l5_m8.length+1) (len:=(l13_m11++([x22])).length) (row:=l13_m11++([x22])) (ys:=l13_m11++([x22])) (xss:=l5_m8) 9000 (oi 0 11) (oi 1 1) (oi 2 9) (by kernel_rfl) (by kernel_rfl) rfl (by kernel_rfl) (by kernel_rfl) (Pf rfl) (Oo rfl) (by kernel_rfl) (by kernel_rfl) (by kernel_rfl)).trans ((A9 8 (.own (oi 0 11) (.slice .int) 0 (l5_m8.length+1)) (.own (oi 0 11) (.slice .int) 0 ((l5_m8++[l13_m11++([x22])]).length)) (by kernel_rfl) (congrArg (fun z_=>((.own (oi 0 11) (.slice .int) 0 z_):AV)) ((by simp):l5_m8.length+1=(l5_m8++[l13_m11++([x22])]).length))).trans (Ac [(oi 0 1,oi 0 11),(oi 1 1,oi 9000 13)])),rfl⟩
   rintro l9_m8 _ rfl h
   (try dsimp only at h);obtain ⟨g25,h⟩:=Am h;refine Aa 4 ?_;refine rs0 (ai ((l5_m20+1:Nat):Int)) (za g25) ?_;refine rsB 1 ?_;refine Aq (tn_ ?_);obtain rfl:=zj h;exact ⟨(l5_m20+1,l9_m8),_,Ac [],⟨l5_m20+1,l9_m8,rfl,rfl⟩,hn5⟩
  have q8_:=of_decide_eq_false q8;refine Ag q8 ?_;refine Au (te_ (te_ (be_ (tn_ ?_))));obtain rfl:=zj h;have h:=hn5
  (try dsimp only at h);obtain rfl:=zj h;exact ⟨_,Ac [],rfl⟩
 rintro l3_m8 _ rfl h
 (try dsimp only at h);refine Ab ?_;obtain ⟨y27,h27,h⟩:=Ad h;refine Aa 5 ?_;refine rsB 1 ?_;refine zc (.own (oi 800 3) .int 0 y27.length) [(oi 800 3,some (.arr 3 .int y27))] [ai a2] (Ku h27) ?_;refine rsB 1 ?_;refine Aq (tn_ ?_);refine wr_ ?_;refine G8 h (fun (l28_m13:List Int) S_=>S_=⟨Ap [(13,.own (oi 0 1) .int 0 l28_m13.length)],Aj (Ar [(oi 0 1,.arr 3 .int l28_m13)]),2⟩) ?_ ?_
 ·intro v_ h hk28;refine Ab ?_;obtain ⟨y30,h30,h⟩:=Ad h;refine Aa 12 ?_;refine rsB 4 ?_;refine C3 (.own (oi 880 9) (.slice .int) 0 y30.length) [(oi 880 9,some (.mat 23 (oi 881 9) .int y30)),(oi 881 9,some (.pool 3 .int y30))] [] [ai a0,.own (oi 0 1) (.slice .int) 0 l3_m8.length,ai (wI (a2+1))] (caps:=[]) trivial (Yp h30) Zf trivial (.cons (.ren (by kernel_rfl)) (.cons (.gnd (by kernel_rfl) (M6 (p:=oi 1 1) (e1:=23) (e:=3) (u:=.int) (xss:=l3_m8) ((Np (by kernel_rfl) (by kernel_rfl) (by kernel_rfl)).trans (by kernel_rfl)) (Lt (by kernel_rfl) (by kernel_rfl) (Hb (by kernel_rfl)) (by kernel_rfl)) rfl)) (.cons (.ren (by kernel_rfl)) .nil))) (A7 (by kernel_rfl) (by kernel_rfl) trivial) ?_;refine rsB 2 ?_;refine Aq (tn_ ?_);refine wr_ ?_;refine Af ?_;refine Ax h (fun t_ S_=>∃ (l31_m57:Nat),∃ (l31_m13:List Int),t_=(l31_m57,l31_m13)∧S_=⟨Ap [(2,ai a2),(13,.own (oi 0 1) .int 0 l31_m13.length),(55,.own (oi 1 1) (.slice .int) 0 y30.length),(56,ai ((y30.length:Nat):Int)),(57,ai ((l31_m57:Nat):Int))],Aj (Ar [(oi 0 1,.arr 3 .int l31_m13),(oi 1 1,.mat 23 (oi 2 1) .int y30),(oi 2 1,.pool 3 .int y30)]),2⟩) ⟨_,Ac [(oi 0 1,oi 800 3),(oi 1 1,oi 880 9),(oi 2 1,oi 881 9)],⟨0,y27,rfl,rfl⟩⟩ ?_;rintro n_ _ _ c_ ⟨l31_m57,l31_m13,rfl,rfl⟩ h hn31
  (try dsimp only at h);unfold Bl at h;unfold Jr;refine An ?_;refine Ab ?_;rcases Ae h with ⟨q34,h⟩ | ⟨q34,h⟩
  ·have q34_:=of_decide_eq_true q34;refine Ah q34 ?_;refine Ai (tn_ ?_);refine wr_ ?_;refine Ab ?_;refine Af ?_;refine Ab ?_;obtain ⟨x37,e37,h⟩:=Ad h;refine Aa 6 ?_;refine rs0 (.elt (oi 1 1) l31_m57 0) (zo (t:=.slice .int) (o:=oi 1 1) (len:=y30.length) (k:=.i64) (m:=((l31_m57:Nat):Int)) (At _) (Al e37)) ?_;refine rsl (.own (kid (oi 2 1) l31_m57) .int 0 x37.length) (Bs (o:=oi 1 1) (p:=oi 2 1) (e1:=23) (u:=.int) (xss:=y30) (row:=x37) (j:=l31_m57) (by kernel_rfl) (by kernel_rfl) e37) ?_;refine rsB 1 ?_;refine Aq (tn_ ?_);refine wr_ ?_;refine Ab ?_;obtain ⟨y39,h39,h⟩:=Ad h;refine Aa 9 ?_;refine rsB 1 ?_;refine B9 (ai y39) [] [.own (kid (oi 2 1) l31_m57) .int 0 x37.length] _ (caps:=[]) (args0:=[.tree .int x37]) trivial (Ay (Bn (e:=3) (u:=.int) (xs:=x37) (A0 (by kernel_rfl) e37) rfl) Cj) (Aga h39) Af5 ?_;refine rsB 1 ?_;refine Aq (tn_ ?_);refine wr_ ?_;refine Ab ?_;refine An ?_;rcases Ae h with ⟨q42,h⟩ | ⟨q42,h⟩
   ·refine Ah q42 ?_;refine An ?_;refine Ao (tr_ (br_ (tr_ (tr_ (br_ (tr_ ?_))))));obtain rfl:=zj h;have h:=hn31
    (try dsimp only at h);obtain rfl:=zj h;have h:=hk28
    (try dsimp only at h);obtain rfl:=zj h;exact Br [.nils,.bool false] (A8 rfl (Agv rfl) (A8 rfl zl Bc))
   refine Ag q42 ?_;refine Ai (tn_ ?_);refine wr_ ?_;obtain ⟨x44,f44,h⟩:=Ad h;obtain ⟨p44,b44,e44⟩:=Bi f44;obtain ⟨x45,f45,h⟩:=Ad h;obtain ⟨p45,b45,e45⟩:=Bi f45;obtain ⟨x46,f46,h⟩:=Ad h;obtain ⟨p46,b46,e46⟩:=Bi f46;refine Aa 23 ?_;refine rsB 7 ?_;refine rs0 (.elt (kid (oi 2 1) l31_m57) a2.toNat 0) (zo (t:=.int) (o:=kid (oi 2 1) l31_m57) (len:=x37.length) (k:=.i64) (m:=a2) p44 (Al e44)) ?_;refine rsl (ai x44) (Ed (i:=kid (oi 2 1) l31_m57) (j:=a2.toNat) (k:=0) (e:=3) (t:=.int) (xs:=x37) (by kernel_rfl) (A0 (by kernel_rfl) e37) e44 (by kernel_rfl)) ?_;refine rs0 (.elt (oi 0 1) ((wI ((wI (a2 - 1)) - y39)).toNat) 0) (zo (t:=.int) (o:=oi 0 1) (len:=l31_m13.length) (k:=.i64) (m:=wI ((wI (a2 - 1)) - y39)) p45 (Al e45)) ?_;refine Nj (oi 0 1) (oi 0 1) (.arr 3 .int (l31_m13.set ((wI ((wI (a2 - 1)) - y39)).toNat) x44)) (Ep (i:=oi 0 1) (j:=(wI ((wI (a2 - 1)) - y39)).toNat) (k:=0) (e:=3) (t:=.int) (xs:=l31_m13) (cs:=[ai x44]) (x1:=x44) (by kernel_rfl) (by kernel_rfl) e46 (by kernel_rfl) (by kernel_rfl)) ?_;refine Aq (bn_ (tn_ ?_));refine wr_ ?_;obtain ⟨g47,h⟩:=Am h;refine Aa 25 ?_;refine rs0 (ai ((l31_m57+1:Nat):Int)) (za g47) ?_;refine rsB 1 ?_;refine Aq (tn_ ?_);obtain rfl:=zj h;exact ⟨(l31_m57+1,l31_m13.set ((wI ((wI (a2 - 1)) - y39)).toNat) x44),_,(A9 13 (.own (oi 0 1) .int 0 l31_m13.length) (.own (oi 0 1) .int 0 ((l31_m13.set ((wI ((wI (a2 - 1)) - y39)).toNat) x44).length)) (by kernel_rfl) (congrArg (fun z_=>((.own (oi 0 1) .int 0 z_):AV)) (((rfl:l31_m13.length=l31_m13.length).trans List.length_set.symm):l31_m13.length=(l31_m13.set ((wI ((wI (a2 - 1)) - y39)).toNat) x44).length))).trans (Ac []),⟨l31_m57+1,l31_m13.set ((wI ((wI (a2 - 1)) - y39)).toNat) x44,rfl,rfl⟩,hn31⟩
  have q34_:=of_decide_eq_false q34;refine Ag q34 ?_;refine Au (te_ (te_ (be_ (tn_ ?_))));obtain rfl:=zj h;have h:=hn31
  (try dsimp only at h);obtain rfl:=zj h;exact ⟨l31_m13,_,rfl,Ac [],rfl⟩
 rintro l28_m13 _ rfl h
 (try dsimp only at h);refine An ?_;refine Ao ?_;obtain rfl:=zj h;exact Br [.own (oi 0 1) .int 0 l28_m13.length,.bool true] (A8 rfl (Kb (by kernel_rfl) rfl) (A8 rfl zl Bc))
def Vz:AC :=
 (.seq (rg [xo 6 (qm (.cst .nils))])
 (.seq (rg [xo 7 (qm (tm 0)),xo 8 (qm (tm 1)),xo 9 (qc 82 [tm 7,tm 8] [[],[]]),xo 10 (qm (tm 2)),xo 11 (.mkS 3 .int [tm 10]),xo 12 (.append 3 .int 8 (tm 9) (tm 11)),xo 6 (qm (tm 12))])
 .ret))
def Afs:List Res:=[.tmp 6]
theorem Age:Aw Tryd.prog Tryd.f52=some (Vz,Afs):=by kernel_rfl
theorem Tl:A6 Tryd.prog 52=true:=by kernel_rfl
def If (a0:Int) (a1:Int) (a2:Int):Option (List Int) :=
 Option.bind (Kv a0 a1) fun y3 =>
og (y3.length+1<=1073741824∧(y3.length+1)*8<=140737488355328) <|
some (y3++([a2]))
def Adw (r:List Int):RV:=⟨false,[(false,[.new 3 .int r])]⟩
theorem Tc {a0:Int} {a1:Int} {a2:Int} {r:List Int} (h:If a0 a1 a2=some r):Bm Tryd.prog Tab 52 [ai a0,ai a1,ai a2] (Adw r):=by
 refine Ba (by kernel_rfl) Tryd.func52 Age (n:=13) (by kernel_rfl) (by simp) (tl:=[(0,ai a0),(1,ai a1),(2,ai a2)]) rfl ?_;unfold Vz;unfold If at h;refine An ?_;refine Ab ?_;obtain ⟨y3,h3,h⟩:=Ad h;obtain ⟨g4,h⟩:=Am h;refine Aa 9 ?_;refine rsB 2 ?_;refine zc (.own (oi 144 4) .int 0 y3.length) [(oi 144 4,some (.arr 3 .int y3))] [ai a0,ai a1] (Afc h3) ?_;refine rsB 2 ?_;refine rs2 (.own (oi 144 7) .int 0 ((y3++([a2])).length)) (oi 144 4) (oi 144 7) (.arr 3 .int (y3++([a2]))) (It (t:=.int) (t':=.int) (xs:=y3) (ys:=[a2]) (zs:=y3++([a2])) (j:=oi 144 4) (len:=y3.length) (c:=.own (oi 11 6) .int 0 1) (by kernel_rfl) (by kernel_rfl) rfl (by kernel_rfl) (Me (e:=3) (by kernel_rfl) rfl) rfl g4) ?_;refine rsB 1 ?_;refine Aq (tn_ ?_);refine wr_ ?_;refine Ao ?_;obtain rfl:=zj h;exact Br [.own (oi 144 7) .int 0 ((y3++([a2])).length)] (A8 rfl (Kb (by kernel_rfl) rfl) Bc)
def Td:AC :=
 (.seq (rg [xo 13 (qb .lss (tm 12) (tm 11))])
 (.seq (.cond (tm 13)
  .skip
  (.exit 0))
 (.seq (.block 1 (.seq (rg [xo 14 (qm (tm 12)),xo 15 (qx 1 (tm 10) (tm 12)),xo 16 (ql (tm 15)),xo 8 (qm (tm 14)),xo 9 (qm (tm 16))])
 (rg [xo 17 (qm (tm 7)),xo 18 (qm (tm 9)),xo 19 (qm (tm 2)),xo 20 (qm (tm 8)),xo 21 (qx 1 (tm 19) (tm 20)),xo 22 (ql (tm 21)),xo 23 (qb .mul (tm 18) (tm 22)),xo 24 (qb .add (tm 17) (tm 23)),xo 7 (qm (tm 24))])))
 (rg [xo 25 (qb .add (tm 12) (ci 1)),xo 12 (qm (tm 25))]))))
def Abw:AC :=
 (.seq (rg [xo 6 (qm (ci 0))])
 (.seq (rg [xo 7 (qm (ci 0))])
 (.seq (.seq (rg [xo 10 (qm (tm 1)),xo 11 (.i (.len (tm 10))),xo 12 (qm (ci 0))])
 (.block 0 (.loop Td)))
 (.seq (rg [xo 26 (qm (tm 0)),xo 27 (qm (tm 7)),xo 28 (qc 50 [tm 26,tm 27] [[],[]]),xo 6 (qm (tm 28))])
 .ret))))
def Akp:List Res:=[.tmp 6]
theorem Aj8:Aw Tryd.prog Tryd.f51=some (Abw,Akp):=by kernel_rfl
theorem Ah6:A6 Tryd.prog 51=true:=by kernel_rfl
def Iv (a1:List Int) (a2:List Int) (l5_m7:Int) (l5_m12:Nat):Option (Ctl (Int×Nat) Int) :=
 cond (decide (((l5_m12:Nat):Int)<((a1.length:Nat):Int)))
 (Option.bind (a1[l5_m12]?) fun x11 =>
 Option.bind (a2[l5_m12]?) fun x12 =>
 og (l5_m12+1<4611686018427387904) <|
 some (Ctl.next (wI (l5_m7+wI (x11*x12)),l5_m12+1)))
 (some (Ctl.out l5_m7))
def Mm (a0:Int) (a1:List Int) (a2:List Int):Option Int :=
 Option.bind (Av (fun s_:Int×Nat=>Iv a1 a2 s_.1 s_.2) 4611686018427387904 (0,0)) fun l3_m7 =>
Option.bind (E3 a0 l3_m7) fun y15 =>
some y15
def Ajg (r:Int):RV:=⟨false,[(false,[.sc (.int .i64 r)])]⟩
theorem Ahu {a0:Int} {a1:List Int} {a2:List Int} {r:Int} (h:Mm a0 a1 a2=some r):Bm Tryd.prog Tab 51 [ai a0,.tree .int a1,.tree .int a2] (Ajg r):=by
 refine Ba (by kernel_rfl) Tryd.func51 Aj8 (n:=29) (by kernel_rfl) (by simp) (tl:=[(0,ai a0),(1,.tree .int a1),(2,.tree .int a2)]) rfl ?_;unfold Abw;unfold Mm at h;refine An ?_;refine An ?_;refine As h (fun (l3_m7:Int) S_=>S_=⟨Ap [(0,ai a0),(7,ai l3_m7)],Aj (Ar []),2⟩) ?_ ?_
 ·intro v_ h;refine An ?_;refine Af ?_;refine Ax h (fun t_ S_=>∃ (l5_m7:Int),∃ (l5_m12:Nat),t_=(l5_m7,l5_m12)∧S_=⟨Ap [(0,ai a0),(2,.tree .int a2),(7,ai l5_m7),(10,.tree .int a1),(11,ai ((a1.length:Nat):Int)),(12,ai ((l5_m12:Nat):Int))],Aj (Ar []),2⟩) ⟨_,Ac [],⟨0,0,rfl,rfl⟩⟩ ?_;rintro n_ _ _ c_ ⟨l5_m7,l5_m12,rfl,rfl⟩ h hn5
  (try dsimp only at h);unfold Iv at h;unfold Td;refine An ?_;refine Ab ?_;rcases Ae h with ⟨q8,h⟩ | ⟨q8,h⟩
  ·have q8_:=of_decide_eq_true q8;refine Ah q8 ?_;refine Ai (tn_ ?_);refine wr_ ?_;refine Ab ?_;refine Af ?_;refine Ab ?_;obtain ⟨x11,e11,h⟩:=Ad h;refine Aa 8 ?_;refine rsB 1 ?_;refine rs0 (.telt .int x11 0) (zi (t:=.int) (xs:=a1) (k:=.i64) (m:=((l5_m12:Nat):Int)) (At _) e11) ?_;refine rsB 3 ?_;refine Aq (tn_ ?_);refine wr_ ?_;obtain ⟨x12,e12,h⟩:=Ad h;refine Aa 17 ?_;refine rsB 4 ?_;refine rs0 (.telt .int x12 0) (zi (t:=.int) (xs:=a2) (k:=.i64) (m:=((l5_m12:Nat):Int)) (At _) e12) ?_;refine rsB 4 ?_;refine Aq (bn_ (tn_ ?_));refine wr_ ?_;obtain ⟨g13,h⟩:=Am h;refine Aa 19 ?_;refine rs0 (ai ((l5_m12+1:Nat):Int)) (za g13) ?_;refine rsB 1 ?_;refine Aq (tn_ ?_);obtain rfl:=zj h;exact ⟨(wI (l5_m7+wI (x11*x12)),l5_m12+1),_,Ac [],⟨wI (l5_m7+wI (x11*x12)),l5_m12+1,rfl,rfl⟩,hn5⟩
  have q8_:=of_decide_eq_false q8;refine Ag q8 ?_;refine Au (te_ (te_ (be_ (tn_ ?_))));obtain rfl:=zj h;have h:=hn5
  (try dsimp only at h);obtain rfl:=zj h;exact ⟨_,Ac [],rfl⟩
 rintro l3_m7 _ rfl h
 (try dsimp only at h);refine Ab ?_;obtain ⟨y15,h15,h⟩:=Ad h;refine Aa 6 ?_;refine rsB 2 ?_;refine zc (ai y15) [] [ai a0,ai l3_m7] (Hw h15) ?_;refine rsB 1 ?_;refine Aq (tn_ ?_);refine wr_ ?_;refine Ao ?_;obtain rfl:=zj h;exact Br [ai y15] (A8 rfl zl Bc)
end
end Go.Proofs.YtkaollfdhoaihaaDoor
