/- Lemmas on the program and on partial functions that stand in place of its code (part 5); no condition beyond those that each one states. -/
import Derived.Test.YtkaollfdhoaihaaDoorZ4
namespace Go.Proofs.YtkaollfdhoaihaaDoor
open Go.RowKit Go.Deep
set_option maxRecDepth 4000
def m_laws_szBranchS:AC :=
 (.seq (rg [xo 4 (qm (ci 0))])
 (.seq (rg [xo 5 (qm (tm 1)),xo 6 (qm (tm 0)),xo 7 (.i (.len (tm 6))),xo 8 (qb .sub (tm 5) (tm 7)),xo 1 (qm (tm 8))])
 (.seq (.seq (rg [xo 9 (qm (tm 1)),xo 10 (qb .lss (tm 9) (ci 0))])
 (.cond (tm 10)
  (.seq (rg [xo 4 (qm (ci (-1)))])
  .ret)
  .skip))
 (.seq (rg [xo 11 (qm (tm 1)),xo 4 (qm (tm 11))])
 .ret))))
def r_laws_szBranchS:List Res:=[.tmp 4]
theorem c_laws_szBranchS:compiled Tryd.prog Tryd.f20=some (m_laws_szBranchS,r_laws_szBranchS):=by kernel_rfl
def L_laws_szBranchS (a0:List (Int×Int×Int)) (a1:Int):Option Int :=
 cond (decide (IntKind.i64.wrap (a1 - ((a0.length:Nat):Int))<0))
 (some (-1))
 (some (IntKind.i64.wrap (a1 - ((a0.length:Nat):Int))))
def rv_laws_szBranchS (r:Int):RV:=⟨false,[(false,[.sc (.int .i64 r)])]⟩
theorem ok_laws_szBranchS {a0:List (Int×Int×Int)} {a1:Int} {r:Int} (h:L_laws_szBranchS a0 a1=some r):CallOK Tryd.prog Tab 20 [(.tree (.pair .int (.pair .int .int)) a0),(ai a1)] (rv_laws_szBranchS r):=by
 refine call_of_ (by kernel_rfl) Tryd.func20 c_laws_szBranchS (n:=12) (by kernel_rfl) (by simp) (tl:=[(0,(.tree (.pair .int (.pair .int .int)) a0)),(1,(ai a1))]) rfl ?_
 unfold m_laws_szBranchS
 unfold L_laws_szBranchS at h
 refine seqR ?_
 refine seqR ?_
 refine awp_seqv_ ?_
 refine seqR ?_
 rcases cond_some h with ⟨q5,h⟩ | ⟨q5,h⟩
 ·have q5_:=of_decide_eq_true q5
  refine awp_condT_ q5 ?_
  refine seqR ?_
  refine awp_ret_ (tr_ ?_)
  obtain rfl:=zj h
  exact ret_ [(ai (-1))] (p_one rfl zl p_nil)
 have q5_:=of_decide_eq_false q5
 refine awp_condF_ q5 ?_
 refine awp_skip_ (tn_ ?_)
 refine wr_ ?_
 refine seqR ?_
 refine awp_ret_ ?_
 obtain rfl:=zj h
 exact ret_ [(ai (IntKind.i64.wrap (a1 - ((a0.length:Nat):Int))))] (p_one rfl zl p_nil)
def m_laws_szNetwork:AC :=
 (.seq (rg [xo 2 (.i (.box 25 (tm 0))),xo 4 (qm (ci 0))])
 (.seq (rg [xo 5 (qf 1 (tm 2)),xo 6 (ql (tm 5)),xo 7 (qm (tm 1)),⟨(some 8),none,(qc 20 [(tm 6),(tm 7)] [[(some (.pair .int (.pair .int .int)))],[]])⟩,xo 1 (qm (tm 8))])
 (.seq (.seq (rg [xo 9 (qm (tm 1)),xo 10 (qb .lss (tm 9) (ci 0))])
 (.cond (tm 10)
  (.seq (rg [xo 4 (qm (ci (-1)))])
  .ret)
  .skip))
 (.seq (rg [xo 11 (qf 2 (tm 2)),xo 12 (ql (tm 11)),xo 13 (qm (tm 1)),xo 14 (qc 21 [(tm 12),(tm 13)] [[(some .int)],[]]),xo 1 (qm (tm 14))])
 (.seq (.seq (rg [xo 15 (qm (tm 1)),xo 16 (qb .lss (tm 15) (ci 0))])
 (.cond (tm 16)
  (.seq (rg [xo 4 (qm (ci (-1)))])
  .ret)
  .skip))
 (.seq (rg [xo 17 (qf 3 (tm 2)),xo 18 (ql (tm 17)),xo 19 (qm (tm 1)),xo 20 (qc 21 [(tm 18),(tm 19)] [[(some .int)],[]]),xo 1 (qm (tm 20))])
 (.seq (.seq (rg [xo 21 (qm (tm 1)),xo 22 (qb .lss (tm 21) (ci 0))])
 (.cond (tm 22)
  (.seq (rg [xo 4 (qm (ci (-1)))])
  .ret)
  .skip))
 (.seq (rg [xo 23 (qm (tm 1)),xo 4 (qm (tm 23))])
 .ret))))))))
def r_laws_szNetwork:List Res:=[.tmp 4]
theorem c_laws_szNetwork:compiled Tryd.prog Tryd.f5=some (m_laws_szNetwork,r_laws_szNetwork):=by kernel_rfl
def L_laws_szNetwork (a0_0:Int) (a0_1:List (Int×Int×Int)) (a0_2:List Int) (a0_3:List Int) (a1:Int):Option Int :=
 Option.bind (L_laws_szBranchS a0_1 a1) fun y3 =>
cond (decide (y3<0))
 (some (-1))
 (Option.bind (L_laws_szIntS a0_2 y3) fun y9 =>
 cond (decide (y9<0))
  (some (-1))
  (Option.bind (L_laws_szIntS a0_3 y9) fun y15 =>
  cond (decide (y15<0))
   (some (-1))
   (some y15)))
def rv_laws_szNetwork (r:Int):RV:=⟨false,[(false,[.sc (.int .i64 r)])]⟩
theorem ok_laws_szNetwork {a0_0:Int} {a0_1:List (Int×Int×Int)} {a0_2:List Int} {a0_3:List Int} {a1:Int} {r:Int} (h:L_laws_szNetwork a0_0 a0_1 a0_2 a0_3 a1=some r):CallOK Tryd.prog Tab 5 [(.agg [(ai a0_0),(.tree (.pair .int (.pair .int .int)) a0_1),(.tree .int a0_2),(.tree .int a0_3)]),(ai a1)] (rv_laws_szNetwork r):=by
 refine call_of_ (by kernel_rfl) Tryd.func5 c_laws_szNetwork (n:=24) (by kernel_rfl) (by simp) (tl:=[(0,(.agg [(ai a0_0),(.tree (.pair .int (.pair .int .int)) a0_1),(.tree .int a0_2),(.tree .int a0_3)])),(1,(ai a1))]) rfl ?_
 unfold m_laws_szNetwork
 unfold L_laws_szNetwork at h
 refine seqR ?_
 refine awp_seqv_ ?_
 obtain ⟨y3,h3,h⟩:=ob_some h
 refine awp_region_ 8 ?_
 refine rz0 (.box (oi 2 1) 1) ?_
 refine rzl (.tree (.pair .int (.pair .int .int)) a0_1) ?_
 refine rz0 (ai a1) ?_
 refine zc (ai y3) [] [(.tree (.pair .int (.pair .int .int)) a0_1),(ai a1)] (ok_laws_szBranchS h3) ?_
 refine rsB 1 ?_
 refine rnil (tn_ ?_)
 refine wr_ ?_
 refine awp_seqv_ ?_
 refine seqR ?_
 rcases cond_some h with ⟨q6,h⟩ | ⟨q6,h⟩
 ·have q6_:=of_decide_eq_true q6
  refine awp_condT_ q6 ?_
  refine seqR ?_
  refine awp_ret_ (tr_ ?_)
  obtain rfl:=zj h
  exact ret_ [(ai (-1))] (p_one rfl zl p_nil)
 have q6_:=of_decide_eq_false q6
 refine awp_condF_ q6 ?_
 refine awp_skip_ (tn_ ?_)
 refine wr_ ?_
 refine awp_seqv_ ?_
 obtain ⟨y9,h9,h⟩:=ob_some h
 refine awp_region_ 15 ?_
 refine rz0 (.box (oi 2 1) 2) ?_
 refine rzl (.tree .int a0_2) ?_
 refine rz0 (ai y3) ?_
 refine zc (ai y9) [] [(.tree .int a0_2),(ai y3)] (ok_laws_szIntS h9) ?_
 refine rsB 1 ?_
 refine rnil (tn_ ?_)
 refine wr_ ?_
 refine awp_seqv_ ?_
 refine seqR ?_
 rcases cond_some h with ⟨q12,h⟩ | ⟨q12,h⟩
 ·have q12_:=of_decide_eq_true q12
  refine awp_condT_ q12 ?_
  refine seqR ?_
  refine awp_ret_ (tr_ ?_)
  obtain rfl:=zj h
  exact ret_ [(ai (-1))] (p_one rfl zl p_nil)
 have q12_:=of_decide_eq_false q12
 refine awp_condF_ q12 ?_
 refine awp_skip_ (tn_ ?_)
 refine wr_ ?_
 refine awp_seqv_ ?_
 obtain ⟨y15,h15,h⟩:=ob_some h
 refine awp_region_ 22 ?_
 refine rz0 (.box (oi 2 1) 3) ?_
 refine rzl (.tree .int a0_3) ?_
 refine rz0 (ai y9) ?_
 refine zc (ai y15) [] [(.tree .int a0_3),(ai y9)] (ok_laws_szIntS h15) ?_
 refine rsB 1 ?_
 refine rnil (tn_ ?_)
 refine wr_ ?_
 refine awp_seqv_ ?_
 refine seqR ?_
 rcases cond_some h with ⟨q18,h⟩ | ⟨q18,h⟩
 ·have q18_:=of_decide_eq_true q18
  refine awp_condT_ q18 ?_
  refine seqR ?_
  refine awp_ret_ (tr_ ?_)
  obtain rfl:=zj h
  exact ret_ [(ai (-1))] (p_one rfl zl p_nil)
 have q18_:=of_decide_eq_false q18
 refine awp_condF_ q18 ?_
 refine awp_skip_ (tn_ ?_)
 refine wr_ ?_
 refine seqR ?_
 refine awp_ret_ ?_
 obtain rfl:=zj h
 exact ret_ [(ai y15)] (p_one rfl zl p_nil)
def m_laws_toBranch:AC :=
 (.seq (rg [xo 1 (.i (.box 83 (tm 0))),xo 2 (.i (.alloc 81 [(.int .i64 0),(.int .i64 0),(.int .i64 0)]))])
 (.seq (rg [xo 3 (.i (.alloc 81 [(.int .i64 0),(.int .i64 0),(.int .i64 0)]))])
 (.seq (rg [xo 4 (qf 0 (tm 1)),xo 5 (ql (tm 4)),xo 6 (qf 0 (tm 3)),xn (qs (tm 6) (tm 5))])
 (.seq (rg [xo 7 (qf 1 (tm 1)),xo 8 (ql (tm 7)),xo 9 (qf 1 (tm 3)),xn (qs (tm 9) (tm 8))])
 (.seq (rg [xo 10 (qf 2 (tm 1)),xo 11 (ql (tm 10)),xo 12 (qf 2 (tm 3)),xn (qs (tm 12) (tm 11))])
 (.seq (rg [xo 13 (.i (.ld false 3 (tm 3))),xn (.st false 3 (tm 2) (tm 13))])
 .ret))))))
def r_laws_toBranch:List Res:=[.cell 2 false 3]
theorem c_laws_toBranch:compiled Tryd.prog Tryd.f58=some (m_laws_toBranch,r_laws_toBranch):=by kernel_rfl
def L_laws_toBranch (a0_0:Int) (a0_1:Int) (a0_2:Int):Option (Int×Int×Int) :=
 some (a0_0,a0_1,a0_2)
def rv_laws_toBranch (r:Int×Int×Int):RV:=⟨false,[(true,[.sc (.int .i64 r.1),.sc (.int .i64 r.2.1),.sc (.int .i64 r.2.2)])]⟩
theorem ok_laws_toBranch {a0_0:Int} {a0_1:Int} {a0_2:Int} {r:Int×Int×Int} (h:L_laws_toBranch a0_0 a0_1 a0_2=some r):CallOK Tryd.prog Tab 58 [(.agg [(ai a0_0),(ai a0_1),(ai a0_2)])] (rv_laws_toBranch r):=by
 refine call_of_ (by kernel_rfl) Tryd.func58 c_laws_toBranch (n:=14) (by kernel_rfl) (by simp) (tl:=[(0,(.agg [(ai a0_0),(ai a0_1),(ai a0_2)]))]) rfl ?_
 unfold m_laws_toBranch
 unfold L_laws_toBranch at h
 refine seqR ?_
 refine seqR ?_
 refine seqR ?_
 refine seqR ?_
 refine seqR ?_
 refine seqR ?_
 refine awp_ret_ ?_
 obtain rfl:=zj h
 exact ret_ [(.agg [(ai a0_0),(ai a0_1),(ai a0_2)])] (p_agg (l_cons zl (l_cons zl (l_cons zl l_nil))) p_nil)
def m_laws_toBranchS_l1:AC :=
 (.seq (.seq (rg [xo 8 (qm (tm 4)),xo 9 (qm (tm 0)),xo 10 (.i (.len (tm 9))),xo 11 (qb .lss (tm 8) (tm 10))])
 (.cond (tm 11)
  .skip
  (.exit 0)))
 (.seq (.block 1 (rg [xo 14 (qm (tm 3)),xo 15 (qm (tm 4)),xo 16 (qm (tm 0)),xo 17 (qm (tm 4)),xo 18 (qx 3 (tm 16) (tm 17)),xo 19 (.i (.ld false 3 (tm 18))),xo 20 (qc 58 [(tm 19)] [[none,none,none]]),xo 21 (qx 3 (tm 14) (tm 15)),xn (.st false 3 (tm 21) (tm 20))]))
 (rg [xo 12 (qm (tm 4)),xo 13 (qb .add (tm 12) (ci 1)),xo 4 (qm (tm 13))])))
def m_laws_toBranchS:AC :=
 (.seq (rg [xo 2 (qm (.cst .nils))])
 (.seq (rg [xo 5 (qm (tm 0)),xo 6 (.i (.len (tm 5))),xo 7 (.make 81 (.pair .int (.pair .int .int)) 24 (tm 6) (tm 6)),xo 3 (qm (tm 7))])
 (.seq (.seq (rg [xo 4 (qm (ci 0))])
 (.block 0 (.loop m_laws_toBranchS_l1)))
 (.seq (rg [xo 22 (qm (tm 3)),xo 2 (qm (tm 22))])
 .ret))))
def r_laws_toBranchS:List Res:=[.tmp 2]
theorem c_laws_toBranchS:compiled Tryd.prog Tryd.f24=some (m_laws_toBranchS,r_laws_toBranchS):=by kernel_rfl
def L_laws_toBranchS_l1 (a0:List (Int×Int×Int)) (l6_m4:Nat) (l6_m3:List (Int×Int×Int)):Option (Ctl (Nat×(List (Int×Int×Int))) (List (Int×Int×Int))) :=
 cond (decide (((l6_m4:Nat):Int)<((a0.length:Nat):Int)))
 (Option.bind (a0[l6_m4]?) fun x11 =>
 Option.bind (L_laws_toBranch x11.1 x11.2.1 x11.2.2) fun y12 =>
 Option.bind (l6_m3[l6_m4]?) fun x13 =>
 og (l6_m4+1<4611686018427387904) <|
 some (Ctl.next (l6_m4+1,l6_m3.set l6_m4 y12)))
 (some (Ctl.out l6_m3))
def L_laws_toBranchS (a0:List (Int×Int×Int)):Option (List (Int×Int×Int)) :=
 og (0<=((a0.length:Nat):Int)∧((a0.length:Nat):Int)<=((a0.length:Nat):Int)∧((a0.length:Nat):Int)<=1073741824∧(24:Int)*((a0.length:Nat):Int)<=140737488355328) <|
Option.bind (loopM (fun s_:Nat×(List (Int×Int×Int))=>L_laws_toBranchS_l1 a0 s_.1 s_.2) 4611686018427387904 (0,List.replicate a0.length ((0,0,0):Int×Int×Int))) fun l4_m3 =>
some l4_m3
def rv_laws_toBranchS (r:List (Int×Int×Int)):RV:=⟨false,[(false,[.new 81 (.pair .int (.pair .int .int)) r])]⟩
theorem ok_laws_toBranchS {a0:List (Int×Int×Int)} {r:List (Int×Int×Int)} (h:L_laws_toBranchS a0=some r):CallOK Tryd.prog Tab 24 [(.tree (.pair .int (.pair .int .int)) a0)] (rv_laws_toBranchS r):=by
 refine call_of_ (by kernel_rfl) Tryd.func24 c_laws_toBranchS (n:=23) (by kernel_rfl) (by simp) (tl:=[(0,(.tree (.pair .int (.pair .int .int)) a0))]) rfl ?_
 unfold m_laws_toBranchS
 unfold L_laws_toBranchS at h
 refine seqR ?_
 refine awp_seqv_ ?_
 obtain ⟨g3,h⟩:=og_some h
 refine awp_region_ 6 ?_
 refine rz0 (.tree (.pair .int (.pair .int .int)) a0) ?_
 refine rz0 (ai ((a0.length:Nat):Int)) ?_
 refine rs1 (.own (oi 7 4) (.pair .int (.pair .int .int)) 0 a0.length) (oi 7 4) (.arr 81 (.pair .int (.pair .int .int)) (List.replicate a0.length ((0,0,0):Int×Int×Int))) (s_make (t:=(.pair .int (.pair .int .int))) (k:=.i64) (k':=.i64) (m:=((a0.length:Nat):Int)) (m':=((a0.length:Nat):Int)) (by kernel_rfl) (by kernel_rfl) g3 rfl) ?_
 refine rsB 1 ?_
 refine rnil (tn_ ?_)
 refine wr_ ?_
 refine awp_seqB h (fun (l4_m3:List (Int×Int×Int)) S_=>S_=⟨mkTm [(3,(.own (oi 0 1) (.pair .int (.pair .int .int)) 0 l4_m3.length))],mkOb (someL [((oi 0 1),.arr 81 (.pair .int (.pair .int .int)) l4_m3)]),2⟩) ?_ ?_
 ·intro v_ h
  refine seqR ?_
  refine awp_block_ ?_
  refine awp_loopL h (fun t_ S_=>∃ (l6_m4:Nat),∃ (l6_m3:List (Int×Int×Int)),t_=(l6_m4,l6_m3)∧S_=⟨mkTm [(0,(.tree (.pair .int (.pair .int .int)) a0)),(3,(.own (oi 0 1) (.pair .int (.pair .int .int)) 0 l6_m3.length)),(4,(ai ((l6_m4:Nat):Int)))],mkOb (someL [((oi 0 1),.arr 81 (.pair .int (.pair .int .int)) l6_m3)]),2⟩) ⟨_,((weak_tm_ 3 (.own (oi 7 4) (.pair .int (.pair .int .int)) 0 a0.length) (.own (oi 7 4) (.pair .int (.pair .int .int)) 0 ((List.replicate a0.length ((0,0,0):Int×Int×Int)).length)) (by kernel_rfl) (congrArg (fun z_=>((.own (oi 7 4) (.pair .int (.pair .int .int)) 0 z_):AV)) (List.length_replicate.symm:a0.length=(List.replicate a0.length ((0,0,0):Int×Int×Int)).length))).trans (weak_ren [((oi 0 1),(oi 7 4))])),⟨0,List.replicate a0.length ((0,0,0):Int×Int×Int),rfl,rfl⟩⟩ ?_
  rintro n_ _ _ c_ ⟨l6_m4,l6_m3,rfl,rfl⟩ h hn6
  (try dsimp only at h)
  unfold L_laws_toBranchS_l1 at h
  unfold m_laws_toBranchS_l1
  refine awp_seqv_ ?_
  refine seqR ?_
  rcases cond_some h with ⟨q9,h⟩ | ⟨q9,h⟩
  ·have q9_:=of_decide_eq_true q9
   refine awp_condT_ q9 ?_
   refine awp_skip_ (tn_ ?_)
   refine wr_ ?_
   refine awp_seqv_ ?_
   refine awp_block_ ?_
   obtain ⟨x11,e11,h⟩:=ob_some h
   obtain ⟨y12,h12,h⟩:=ob_some h
   obtain ⟨x13,e13,h⟩:=ob_some h
   refine awp_region_ 15 ?_
   refine rz0 (.own (oi 0 1) (.pair .int (.pair .int .int)) 0 l6_m3.length) ?_
   refine rz0 (ai ((l6_m4:Nat):Int)) ?_
   refine rz0 (.tree (.pair .int (.pair .int .int)) a0) ?_
   refine rz0 (ai ((l6_m4:Nat):Int)) ?_
   refine rs0 (.telt (.pair .int (.pair .int .int)) x11 0) (zi (t:=(.pair .int (.pair .int .int))) (xs:=a0) (k:=.i64) (m:=((l6_m4:Nat):Int)) (nat_nn _) e11) ?_
   refine rz0 (.agg [(ai x11.1),(ai x11.2.1),(ai x11.2.2)]) ?_
   refine zc (.agg [(ai y12.1),(ai y12.2.1),(ai y12.2.2)]) [] [(.agg [(ai x11.1),(ai x11.2.1),(ai x11.2.2)])] (ok_laws_toBranch h12) ?_
   refine rs0 (.elt (oi 0 1) l6_m4 0) (zo (t:=(.pair .int (.pair .int .int))) (o:=(oi 0 1)) (len:=l6_m3.length) (k:=.i64) (m:=((l6_m4:Nat):Int)) (nat_nn _) (getN_lt e13)) ?_
   refine rsn2 (oi 0 1) (oi 0 1) (.arr 81 (.pair .int (.pair .int .int)) (l6_m3.set l6_m4 y12)) (s_stE (i:=(oi 0 1)) (j:=l6_m4) (k:=0) (e:=81) (t:=(.pair .int (.pair .int .int))) (xs:=l6_m3) (cs:=[(ai y12.1),(ai y12.2.1),(ai y12.2.2)]) (x1:=y12) (by kernel_rfl) (by kernel_rfl) e13 (by kernel_rfl) (by kernel_rfl)) ?_
   refine rnil (bn_ (tn_ ?_))
   refine wr_ ?_
   obtain ⟨g14,h⟩:=og_some h
   refine awp_region_ 18 ?_
   refine rz0 (ai ((l6_m4:Nat):Int)) ?_
   refine rs0 (ai ((l6_m4+1:Nat):Int)) (za g14) ?_
   refine rsB 1 ?_
   refine rnil (tn_ ?_)
   obtain rfl:=zj h
   exact ⟨(l6_m4+1,l6_m3.set l6_m4 y12),_,((weak_tm_ 3 (.own (oi 0 1) (.pair .int (.pair .int .int)) 0 l6_m3.length) (.own (oi 0 1) (.pair .int (.pair .int .int)) 0 ((l6_m3.set l6_m4 y12).length)) (by kernel_rfl) (congrArg (fun z_=>((.own (oi 0 1) (.pair .int (.pair .int .int)) 0 z_):AV)) (((rfl:l6_m3.length=l6_m3.length).trans List.length_set.symm):l6_m3.length=(l6_m3.set l6_m4 y12).length))).trans (weak_ren [])),⟨l6_m4+1,l6_m3.set l6_m4 y12,rfl,rfl⟩,hn6⟩
  have q9_:=of_decide_eq_false q9
  refine awp_condF_ q9 ?_
  refine awp_exit_ (te_ (te_ (be_ (tn_ ?_))))
  obtain rfl:=zj h
  have h:=hn6
  (try dsimp only at h)
  obtain rfl:=zj h
  exact ⟨_,(weak_ren []),rfl⟩
 rintro l4_m3 _ rfl h
 (try dsimp only at h)
 refine seqR ?_
 refine awp_ret_ ?_
 obtain rfl:=zj h
 exact ret_ [(.own (oi 0 1) (.pair .int (.pair .int .int)) 0 l4_m3.length)] (p_one rfl (l_own (by kernel_rfl) rfl) p_nil)
def m_laws_toNetwork:AC :=
 (.seq (rg [xo 1 (.i (.box 25 (tm 0))),xo 2 (.i (.alloc 34 [(.int .i64 0),.nils,.nils,.nils]))])
 (.seq (rg [xo 3 (.i (.alloc 34 [(.int .i64 0),.nils,.nils,.nils]))])
 (.seq (rg [xo 4 (qf 0 (tm 1)),xo 5 (ql (tm 4)),xo 6 (qf 0 (tm 3)),xn (qs (tm 6) (tm 5))])
 (.seq (rg [xo 7 (qf 1 (tm 1)),xo 8 (ql (tm 7)),⟨(some 9),none,(qc 24 [(tm 8)] [[(some (.pair .int (.pair .int .int)))]])⟩,xo 10 (qf 1 (tm 3)),xn (qs (tm 10) (tm 9))])
 (.seq (rg [xo 11 (qf 2 (tm 1)),xo 12 (ql (tm 11)),xo 13 (qc 15 [(tm 12)] [[(some .int)]]),xo 14 (qf 2 (tm 3)),xn (qs (tm 14) (tm 13))])
 (.seq (rg [xo 15 (qf 3 (tm 1)),xo 16 (ql (tm 15)),xo 17 (qc 15 [(tm 16)] [[(some .int)]]),xo 18 (qf 3 (tm 3)),xn (qs (tm 18) (tm 17))])
 (.seq (rg [xo 19 (.i (.ld false 4 (tm 3))),xn (.st false 4 (tm 2) (tm 19))])
 .ret)))))))
def r_laws_toNetwork:List Res:=[.cell 2 false 4]
theorem c_laws_toNetwork:compiled Tryd.prog Tryd.f7=some (m_laws_toNetwork,r_laws_toNetwork):=by kernel_rfl
theorem hb_laws_toNetwork:hasBody Tryd.prog 7=true:=by kernel_rfl
def L_laws_toNetwork (a0_0:Int) (a0_1:List (Int×Int×Int)) (a0_2:List Int) (a0_3:List Int):Option (Int×(List (Int×Int×Int))×List Int×List Int) :=
 Option.bind (L_laws_toBranchS a0_1) fun y5 =>
Option.bind (L_laws_toIntS a0_2) fun y7 =>
Option.bind (L_laws_toIntS a0_3) fun y9 =>
some (a0_0,y5,y7,y9)
def rv_laws_toNetwork (r:Int×(List (Int×Int×Int))×List Int×List Int):RV:=⟨false,[(true,[.sc (.int .i64 r.1),.new 81 (.pair .int (.pair .int .int)) r.2.1,.new 3 .int r.2.2.1,.new 3 .int r.2.2.2])]⟩
theorem ok_laws_toNetwork {a0_0:Int} {a0_1:List (Int×Int×Int)} {a0_2:List Int} {a0_3:List Int} {r:Int×(List (Int×Int×Int))×List Int×List Int} (h:L_laws_toNetwork a0_0 a0_1 a0_2 a0_3=some r):CallOK Tryd.prog Tab 7 [(.agg [(ai a0_0),(.tree (.pair .int (.pair .int .int)) a0_1),(.tree .int a0_2),(.tree .int a0_3)])] (rv_laws_toNetwork r):=by
 refine call_of_ (by kernel_rfl) Tryd.func7 c_laws_toNetwork (n:=20) (by kernel_rfl) (by simp) (tl:=[(0,(.agg [(ai a0_0),(.tree (.pair .int (.pair .int .int)) a0_1),(.tree .int a0_2),(.tree .int a0_3)]))]) rfl ?_
 unfold m_laws_toNetwork
 unfold L_laws_toNetwork at h
 refine seqR ?_
 refine seqR ?_
 refine seqR ?_
 refine awp_seqv_ ?_
 obtain ⟨y5,h5,h⟩:=ob_some h
 refine awp_region_ 13 ?_
 refine rz0 (.box (oi 1 1) 1) ?_
 refine rzl (.tree (.pair .int (.pair .int .int)) a0_1) ?_
 refine zc (.own (oi 144 10) (.pair .int (.pair .int .int)) 0 y5.length) [((oi 144 10),some (.arr 81 (.pair .int (.pair .int .int)) y5))] [(.tree (.pair .int (.pair .int .int)) a0_1)] (ok_laws_toBranchS h5) ?_
 refine rsB 2 ?_
 refine rnil (tn_ ?_)
 refine wr_ ?_
 refine awp_seqv_ ?_
 obtain ⟨y7,h7,h⟩:=ob_some h
 refine awp_region_ 18 ?_
 refine rz0 (.box (oi 1 1) 2) ?_
 refine rzl (.tree .int a0_2) ?_
 refine zc (.own (oi 208 15) .int 0 y7.length) [((oi 208 15),some (.arr 3 .int y7))] [(.tree .int a0_2)] (ok_laws_toIntS h7) ?_
 refine rsB 2 ?_
 refine rnil (tn_ ?_)
 refine wr_ ?_
 refine awp_seqv_ ?_
 obtain ⟨y9,h9,h⟩:=ob_some h
 refine awp_region_ 23 ?_
 refine rz0 (.box (oi 1 1) 3) ?_
 refine rzl (.tree .int a0_3) ?_
 refine zc (.own (oi 272 20) .int 0 y9.length) [((oi 272 20),some (.arr 3 .int y9))] [(.tree .int a0_3)] (ok_laws_toIntS h9) ?_
 refine rsB 2 ?_
 refine rnil (tn_ ?_)
 refine wr_ ?_
 refine seqR ?_
 refine awp_ret_ ?_
 obtain rfl:=zj h
 exact ret_ [(.agg [(ai a0_0),(.own (oi 144 10) (.pair .int (.pair .int .int)) 0 y5.length),(.own (oi 208 15) .int 0 y7.length),(.own (oi 272 20) .int 0 y9.length)])] (p_agg (l_cons zl (l_cons (l_own (by kernel_rfl) rfl) (l_cons (l_own (by kernel_rfl) rfl) (l_cons (l_own (by kernel_rfl) rfl) l_nil)))) p_nil)
def m_laws_eqBranch:AC :=
 (.seq (rg [xo 2 (.i (.box 81 (tm 0))),xo 3 (.i (.box 81 (tm 1))),xo 4 (qm (cb false))])
 (.seq (.seq (rg [xo 5 (qf 0 (tm 2)),xo 6 (ql (tm 5)),xo 7 (qf 0 (tm 3)),xo 8 (ql (tm 7)),xo 9 (qb .neq (tm 6) (tm 8))])
 (.cond (tm 9)
  (.seq (rg [xo 4 (qm (cb false))])
  .ret)
  .skip))
 (.seq (.seq (rg [xo 10 (qf 1 (tm 2)),xo 11 (ql (tm 10)),xo 12 (qf 1 (tm 3)),xo 13 (ql (tm 12)),xo 14 (qb .neq (tm 11) (tm 13))])
 (.cond (tm 14)
  (.seq (rg [xo 4 (qm (cb false))])
  .ret)
  .skip))
 (.seq (.seq (rg [xo 15 (qf 2 (tm 2)),xo 16 (ql (tm 15)),xo 17 (qf 2 (tm 3)),xo 18 (ql (tm 17)),xo 19 (qb .neq (tm 16) (tm 18))])
 (.cond (tm 19)
  (.seq (rg [xo 4 (qm (cb false))])
  .ret)
  .skip))
 (.seq (rg [xo 4 (qm (cb true))])
 .ret)))))
def r_laws_eqBranch:List Res:=[.tmp 4]
theorem c_laws_eqBranch:compiled Tryd.prog Tryd.f72=some (m_laws_eqBranch,r_laws_eqBranch):=by kernel_rfl
theorem hb_laws_eqBranch:hasBody Tryd.prog 72=true:=by kernel_rfl
def L_laws_eqBranch (a0_0:Int) (a0_1:Int) (a0_2:Int) (a1_0:Int) (a1_1:Int) (a1_2:Int):Option Bool :=
 cond (a0_0 !=a1_0)
 (some false)
 (cond (a0_1 !=a1_1)
  (some false)
  (cond (a0_2 !=a1_2)
   (some false)
   (some true)))
def rv_laws_eqBranch (r:Bool):RV:=⟨false,[(false,[.sc (.bool r)])]⟩
theorem ok_laws_eqBranch {a0_0:Int} {a0_1:Int} {a0_2:Int} {a1_0:Int} {a1_1:Int} {a1_2:Int} {r:Bool} (h:L_laws_eqBranch a0_0 a0_1 a0_2 a1_0 a1_1 a1_2=some r):CallOK Tryd.prog Tab 72 [(.agg [(ai a0_0),(ai a0_1),(ai a0_2)]),(.agg [(ai a1_0),(ai a1_1),(ai a1_2)])] (rv_laws_eqBranch r):=by
 refine call_of_ (by kernel_rfl) Tryd.func72 c_laws_eqBranch (n:=20) (by kernel_rfl) (by simp) (tl:=[(0,(.agg [(ai a0_0),(ai a0_1),(ai a0_2)])),(1,(.agg [(ai a1_0),(ai a1_1),(ai a1_2)]))]) rfl ?_
 unfold m_laws_eqBranch
 unfold L_laws_eqBranch at h
 refine seqR ?_
 refine awp_seqv_ ?_
 refine seqR ?_
 rcases cond_some h with ⟨q4,h⟩ | ⟨q4,h⟩
 ·refine awp_condT_ q4 ?_
  refine seqR ?_
  refine awp_ret_ (tr_ ?_)
  obtain rfl:=zj h
  exact ret_ [(.bool false)] (p_one rfl zl p_nil)
 refine awp_condF_ q4 ?_
 refine awp_skip_ (tn_ ?_)
 refine wr_ ?_
 refine awp_seqv_ ?_
 refine seqR ?_
 rcases cond_some h with ⟨q8,h⟩ | ⟨q8,h⟩
 ·refine awp_condT_ q8 ?_
  refine seqR ?_
  refine awp_ret_ (tr_ ?_)
  obtain rfl:=zj h
  exact ret_ [(.bool false)] (p_one rfl zl p_nil)
 refine awp_condF_ q8 ?_
 refine awp_skip_ (tn_ ?_)
 refine wr_ ?_
 refine awp_seqv_ ?_
 refine seqR ?_
 rcases cond_some h with ⟨q12,h⟩ | ⟨q12,h⟩
 ·refine awp_condT_ q12 ?_
  refine seqR ?_
  refine awp_ret_ (tr_ ?_)
  obtain rfl:=zj h
  exact ret_ [(.bool false)] (p_one rfl zl p_nil)
 refine awp_condF_ q12 ?_
 refine awp_skip_ (tn_ ?_)
 refine wr_ ?_
 refine seqR ?_
 refine awp_ret_ ?_
 obtain rfl:=zj h
 exact ret_ [(.bool true)] (p_one rfl zl p_nil)
def m_laws_eqBranchS_l1:AC :=
 (.seq (.seq (rg [xo 11 (qm (tm 5)),xo 12 (qm (tm 0)),xo 13 (.i (.len (tm 12))),xo 14 (qb .lss (tm 11) (tm 13))])
 (.cond (tm 14)
  .skip
  (.exit 0)))
 (.seq (.block 1 (.seq (.region [xo 17 (qm (tm 0)),xo 18 (qm (tm 5)),xo 19 (qx 3 (tm 17) (tm 18)),xo 20 (.i (.ld false 3 (tm 19))),xo 21 (qm (tm 1)),xo 22 (qm (tm 5)),xo 23 (qx 3 (tm 21) (tm 22)),xo 24 (.i (.ld false 3 (tm 23))),xo 25 (qc 72 [(tm 20),(tm 24)] [[none,none,none],[none,none,none]]),xo 26 (.i (.not (tm 25)))] true [])
 (.cond (tm 26)
  (.seq (rg [xo 4 (qm (cb false))])
  .ret)
  .skip)))
 (rg [xo 15 (qm (tm 5)),xo 16 (qb .add (tm 15) (ci 1)),xo 5 (qm (tm 16))])))
def m_laws_eqBranchS:AC :=
 (.seq (rg [xo 4 (qm (cb false))])
 (.seq (.seq (rg [xo 6 (qm (tm 0)),xo 7 (.i (.len (tm 6))),xo 8 (qm (tm 1)),xo 9 (.i (.len (tm 8))),xo 10 (qb .neq (tm 7) (tm 9))])
 (.cond (tm 10)
  (.seq (rg [xo 4 (qm (cb false))])
  .ret)
  .skip))
 (.seq (.seq (rg [xo 5 (qm (ci 0))])
 (.block 0 (.loop m_laws_eqBranchS_l1)))
 (.seq (rg [xo 4 (qm (cb true))])
 .ret))))
def r_laws_eqBranchS:List Res:=[.tmp 4]
theorem c_laws_eqBranchS:compiled Tryd.prog Tryd.f33=some (m_laws_eqBranchS,r_laws_eqBranchS):=by kernel_rfl
def L_laws_eqBranchS_l1 (a0:List (Int×Int×Int)) (a1:List (Int×Int×Int)) (l8_m5:Nat):Option (Ctl Nat (Ctl Unit Bool)) :=
 cond (decide (((l8_m5:Nat):Int)<((a0.length:Nat):Int)))
 (Option.bind (a0[l8_m5]?) fun x14 =>
 Option.bind (a1[l8_m5]?) fun x15 =>
 Option.bind (L_laws_eqBranch x14.1 x14.2.1 x14.2.2 x15.1 x15.2.1 x15.2.2) fun y16 =>
 cond (!y16)
  (some (Ctl.out (Ctl.out false)))
  (og (l8_m5+1<4611686018427387904) <|
  some (Ctl.next (l8_m5+1))))
 (some (Ctl.out (Ctl.next ())))
def L_laws_eqBranchS (a0:List (Int×Int×Int)) (a1:List (Int×Int×Int)):Option Bool :=
 cond (((a0.length:Nat):Int) !=((a1.length:Nat):Int))
 (some false)
 (seqC (loopM (fun s_:Nat=>L_laws_eqBranchS_l1 a0 a1 s_) 4611686018427387904 0) fun _ =>
 some true)
def rv_laws_eqBranchS (r:Bool):RV:=⟨false,[(false,[.sc (.bool r)])]⟩
theorem ok_laws_eqBranchS {a0:List (Int×Int×Int)} {a1:List (Int×Int×Int)} {r:Bool} (h:L_laws_eqBranchS a0 a1=some r):CallOK Tryd.prog Tab 33 [(.tree (.pair .int (.pair .int .int)) a0),(.tree (.pair .int (.pair .int .int)) a1)] (rv_laws_eqBranchS r):=by
 refine call_of_ (by kernel_rfl) Tryd.func33 c_laws_eqBranchS (n:=27) (by kernel_rfl) (by simp) (tl:=[(0,(.tree (.pair .int (.pair .int .int)) a0)),(1,(.tree (.pair .int (.pair .int .int)) a1))]) rfl ?_
 unfold m_laws_eqBranchS
 unfold L_laws_eqBranchS at h
 refine seqR ?_
 refine awp_seqv_ ?_
 refine seqR ?_
 rcases cond_some h with ⟨q4,h⟩ | ⟨q4,h⟩
 ·refine awp_condT_ q4 ?_
  refine seqR ?_
  refine awp_ret_ (tr_ ?_)
  obtain rfl:=zj h
  exact ret_ [(.bool false)] (p_one rfl zl p_nil)
 refine awp_condF_ q4 ?_
 refine awp_skip_ (tn_ ?_)
 refine wr_ ?_
 refine awp_seqC h (fun (_:Unit) S_=>S_=⟨mkTm [],mkOb (someL []),2⟩) ?_ ?_
 ·intro v_ h hk6
  refine seqR ?_
  refine awp_block_ ?_
  refine awp_loopL h (fun (l8_m5:Nat) S_=>S_=⟨mkTm [(0,(.tree (.pair .int (.pair .int .int)) a0)),(1,(.tree (.pair .int (.pair .int .int)) a1)),(5,(ai ((l8_m5:Nat):Int)))],mkOb (someL []),2⟩) ⟨_,(weak_ren []),rfl⟩ ?_
  rintro n_ l8_m5 _ c_ rfl h hn8
  (try dsimp only at h)
  unfold L_laws_eqBranchS_l1 at h
  unfold m_laws_eqBranchS_l1
  refine awp_seqv_ ?_
  refine seqR ?_
  rcases cond_some h with ⟨q11,h⟩ | ⟨q11,h⟩
  ·have q11_:=of_decide_eq_true q11
   refine awp_condT_ q11 ?_
   refine awp_skip_ (tn_ ?_)
   refine wr_ ?_
   refine awp_seqv_ ?_
   refine awp_block_ ?_
   refine awp_seqv_ ?_
   obtain ⟨x14,e14,h⟩:=ob_some h
   obtain ⟨x15,e15,h⟩:=ob_some h
   obtain ⟨y16,h16,h⟩:=ob_some h
   refine awp_regionD_ 16 ?_
   refine dz0 (.tree (.pair .int (.pair .int .int)) a0) ?_
   refine dz0 (ai ((l8_m5:Nat):Int)) ?_
   refine ds0 (.telt (.pair .int (.pair .int .int)) x14 0) (zi (t:=(.pair .int (.pair .int .int))) (xs:=a0) (k:=.i64) (m:=((l8_m5:Nat):Int)) (nat_nn _) e14) ?_
   refine dz0 (.agg [(ai x14.1),(ai x14.2.1),(ai x14.2.2)]) ?_
   refine dz0 (.tree (.pair .int (.pair .int .int)) a1) ?_
   refine dz0 (ai ((l8_m5:Nat):Int)) ?_
   refine ds0 (.telt (.pair .int (.pair .int .int)) x15 0) (zi (t:=(.pair .int (.pair .int .int))) (xs:=a1) (k:=.i64) (m:=((l8_m5:Nat):Int)) (nat_nn _) e15) ?_
   refine dz0 (.agg [(ai x15.1),(ai x15.2.1),(ai x15.2.2)]) ?_
   refine dcall (.bool y16) [] [(.agg [(ai x14.1),(ai x14.2.1),(ai x14.2.2)]),(.agg [(ai x15.1),(ai x15.2.1),(ai x15.2.2)])] _ (caps:=[]) (args0:=[(.agg [(ai x14.1),(ai x14.2.1),(ai x14.2.2)]),(.agg [(ai x15.1),(ai x15.2.1),(ai x15.2.2)])]) trivial (by kernel_rfl) (ok_laws_eqBranch h16) hb_laws_eqBranch ?_
   refine dz0 (.bool (!y16)) ?_
   refine dnil (badB_spec (by kernel_rfl)) (tn_ ?_)
   refine wr_ ?_
   rcases cond_some h with ⟨q17,h⟩ | ⟨q17,h⟩
   ·refine awp_condT_ q17 ?_
    refine seqR ?_
    refine awp_ret_ (br_ (tr_ (tr_ (br_ (tr_ ?_)))))
    obtain rfl:=zj h
    have h:=hn8
    (try dsimp only at h)
    obtain rfl:=zj h
    have h:=hk6
    (try dsimp only at h)
    obtain rfl:=zj h
    exact ret_ [(.bool false)] (p_one rfl zl p_nil)
   refine awp_condF_ q17 ?_
   refine awp_skip_ (bn_ (tn_ ?_))
   refine wr_ ?_
   obtain ⟨g19,h⟩:=og_some h
   refine awp_region_ 19 ?_
   refine rz0 (ai ((l8_m5:Nat):Int)) ?_
   refine rs0 (ai ((l8_m5+1:Nat):Int)) (za g19) ?_
   refine rsB 1 ?_
   refine rnil (tn_ ?_)
   obtain rfl:=zj h
   exact ⟨l8_m5+1,_,(weak_ren []),rfl,hn8⟩
  have q11_:=of_decide_eq_false q11
  refine awp_condF_ q11 ?_
  refine awp_exit_ (te_ (te_ (be_ (tn_ ?_))))
  obtain rfl:=zj h
  have h:=hn8
  (try dsimp only at h)
  obtain rfl:=zj h
  exact ⟨(),_,rfl,(weak_ren []),rfl⟩
 rintro _ _ rfl h
 (try dsimp only at h)
 refine seqR ?_
 refine awp_ret_ ?_
 obtain rfl:=zj h
 exact ret_ [(.bool true)] (p_one rfl zl p_nil)
def m_laws_eqNetwork:AC :=
 (.seq (rg [xo 2 (.i (.box 34 (tm 0))),xo 3 (.i (.box 34 (tm 1))),xo 4 (qm (cb false))])
 (.seq (.seq (rg [xo 5 (qf 0 (tm 2)),xo 6 (ql (tm 5)),xo 7 (qf 0 (tm 3)),xo 8 (ql (tm 7)),xo 9 (qb .neq (tm 6) (tm 8))])
 (.cond (tm 9)
  (.seq (rg [xo 4 (qm (cb false))])
  .ret)
  .skip))
 (.seq (.seq (rg [xo 10 (qf 1 (tm 2)),xo 11 (ql (tm 10)),xo 12 (qf 1 (tm 3)),xo 13 (ql (tm 12)),⟨(some 14),none,(qc 33 [(tm 11),(tm 13)] [[(some (.pair .int (.pair .int .int)))],[(some (.pair .int (.pair .int .int)))]])⟩,xo 15 (.i (.not (tm 14)))])
 (.cond (tm 15)
  (.seq (rg [xo 4 (qm (cb false))])
  .ret)
  .skip))
 (.seq (.seq (rg [xo 16 (qf 2 (tm 2)),xo 17 (ql (tm 16)),xo 18 (qf 2 (tm 3)),xo 19 (ql (tm 18)),xo 20 (qc 17 [(tm 17),(tm 19)] [[(some .int)],[(some .int)]]),xo 21 (.i (.not (tm 20)))])
 (.cond (tm 21)
  (.seq (rg [xo 4 (qm (cb false))])
  .ret)
  .skip))
 (.seq (.seq (rg [xo 22 (qf 3 (tm 2)),xo 23 (ql (tm 22)),xo 24 (qf 3 (tm 3)),xo 25 (ql (tm 24)),xo 26 (qc 17 [(tm 23),(tm 25)] [[(some .int)],[(some .int)]]),xo 27 (.i (.not (tm 26)))])
 (.cond (tm 27)
  (.seq (rg [xo 4 (qm (cb false))])
  .ret)
  .skip))
 (.seq (rg [xo 4 (qm (cb true))])
 .ret))))))
def r_laws_eqNetwork:List Res:=[.tmp 4]
theorem c_laws_eqNetwork:compiled Tryd.prog Tryd.f10=some (m_laws_eqNetwork,r_laws_eqNetwork):=by kernel_rfl
theorem hb_laws_eqNetwork:hasBody Tryd.prog 10=true:=by kernel_rfl
def L_laws_eqNetwork (a0_0:Int) (a0_1:List (Int×Int×Int)) (a0_2:List Int) (a0_3:List Int) (a1_0:Int) (a1_1:List (Int×Int×Int)) (a1_2:List Int) (a1_3:List Int):Option Bool :=
 cond (a0_0 !=a1_0)
 (some false)
 (Option.bind (L_laws_eqBranchS a0_1 a1_1) fun y8 =>
 cond (!y8)
  (some false)
  (Option.bind (L_laws_eqIntS a0_2 a1_2) fun y13 =>
  cond (!y13)
   (some false)
   (Option.bind (L_laws_eqIntS a0_3 a1_3) fun y18 =>
   cond (!y18)
    (some false)
    (some true))))
def rv_laws_eqNetwork (r:Bool):RV:=⟨false,[(false,[.sc (.bool r)])]⟩
theorem ok_laws_eqNetwork {a0_0:Int} {a0_1:List (Int×Int×Int)} {a0_2:List Int} {a0_3:List Int} {a1_0:Int} {a1_1:List (Int×Int×Int)} {a1_2:List Int} {a1_3:List Int} {r:Bool} (h:L_laws_eqNetwork a0_0 a0_1 a0_2 a0_3 a1_0 a1_1 a1_2 a1_3=some r):CallOK Tryd.prog Tab 10 [(.agg [(ai a0_0),(.tree (.pair .int (.pair .int .int)) a0_1),(.tree .int a0_2),(.tree .int a0_3)]),(.agg [(ai a1_0),(.tree (.pair .int (.pair .int .int)) a1_1),(.tree .int a1_2),(.tree .int a1_3)])] (rv_laws_eqNetwork r):=by
 refine call_of_ (by kernel_rfl) Tryd.func10 c_laws_eqNetwork (n:=28) (by kernel_rfl) (by simp) (tl:=[(0,(.agg [(ai a0_0),(.tree (.pair .int (.pair .int .int)) a0_1),(.tree .int a0_2),(.tree .int a0_3)])),(1,(.agg [(ai a1_0),(.tree (.pair .int (.pair .int .int)) a1_1),(.tree .int a1_2),(.tree .int a1_3)]))]) rfl ?_
 unfold m_laws_eqNetwork
 unfold L_laws_eqNetwork at h
 refine seqR ?_
 refine awp_seqv_ ?_
 refine seqR ?_
 rcases cond_some h with ⟨q4,h⟩ | ⟨q4,h⟩
 ·refine awp_condT_ q4 ?_
  refine seqR ?_
  refine awp_ret_ (tr_ ?_)
  obtain rfl:=zj h
  exact ret_ [(.bool false)] (p_one rfl zl p_nil)
 refine awp_condF_ q4 ?_
 refine awp_skip_ (tn_ ?_)
 refine wr_ ?_
 refine awp_seqv_ ?_
 refine awp_seqv_ ?_
 obtain ⟨y8,h8,h⟩:=ob_some h
 refine awp_region_ 15 ?_
 refine rz0 (.box (oi 2 1) 1) ?_
 refine rzl (.tree (.pair .int (.pair .int .int)) a0_1) ?_
 refine rz0 (.box (oi 3 2) 1) ?_
 refine rzl (.tree (.pair .int (.pair .int .int)) a1_1) ?_
 refine zc (.bool y8) [] [(.tree (.pair .int (.pair .int .int)) a0_1),(.tree (.pair .int (.pair .int .int)) a1_1)] (ok_laws_eqBranchS h8) ?_
 refine rsB 1 ?_
 refine rnil (tn_ ?_)
 refine wr_ ?_
 rcases cond_some h with ⟨q9,h⟩ | ⟨q9,h⟩
 ·refine awp_condT_ q9 ?_
  refine seqR ?_
  refine awp_ret_ (tr_ ?_)
  obtain rfl:=zj h
  exact ret_ [(.bool false)] (p_one rfl zl p_nil)
 refine awp_condF_ q9 ?_
 refine awp_skip_ (tn_ ?_)
 refine wr_ ?_
 refine awp_seqv_ ?_
 refine awp_seqv_ ?_
 obtain ⟨y13,h13,h⟩:=ob_some h
 refine awp_region_ 21 ?_
 refine rz0 (.box (oi 2 1) 2) ?_
 refine rzl (.tree .int a0_2) ?_
 refine rz0 (.box (oi 3 2) 2) ?_
 refine rzl (.tree .int a1_2) ?_
 refine zc (.bool y13) [] [(.tree .int a0_2),(.tree .int a1_2)] (ok_laws_eqIntS h13) ?_
 refine rsB 1 ?_
 refine rnil (tn_ ?_)
 refine wr_ ?_
 rcases cond_some h with ⟨q14,h⟩ | ⟨q14,h⟩
 ·refine awp_condT_ q14 ?_
  refine seqR ?_
  refine awp_ret_ (tr_ ?_)
  obtain rfl:=zj h
  exact ret_ [(.bool false)] (p_one rfl zl p_nil)
 refine awp_condF_ q14 ?_
 refine awp_skip_ (tn_ ?_)
 refine wr_ ?_
 refine awp_seqv_ ?_
 refine awp_seqv_ ?_
 obtain ⟨y18,h18,h⟩:=ob_some h
 refine awp_region_ 27 ?_
 refine rz0 (.box (oi 2 1) 3) ?_
 refine rzl (.tree .int a0_3) ?_
 refine rz0 (.box (oi 3 2) 3) ?_
 refine rzl (.tree .int a1_3) ?_
 refine zc (.bool y18) [] [(.tree .int a0_3),(.tree .int a1_3)] (ok_laws_eqIntS h18) ?_
 refine rsB 1 ?_
 refine rnil (tn_ ?_)
 refine wr_ ?_
 rcases cond_some h with ⟨q19,h⟩ | ⟨q19,h⟩
 ·refine awp_condT_ q19 ?_
  refine seqR ?_
  refine awp_ret_ (tr_ ?_)
  obtain rfl:=zj h
  exact ret_ [(.bool false)] (p_one rfl zl p_nil)
 refine awp_condF_ q19 ?_
 refine awp_skip_ (tn_ ?_)
 refine wr_ ?_
 refine seqR ?_
 refine awp_ret_ ?_
 obtain rfl:=zj h
 exact ret_ [(.bool true)] (p_one rfl zl p_nil)
def m_laws_markBranchS_l1:AC :=
 (.seq (.seq (rg [xo 6 (qm (tm 5)),xo 7 (qm (tm 0)),xo 8 (.i (.len (tm 7))),xo 9 (qb .lss (tm 6) (tm 8))])
 (.cond (tm 9)
  .skip
  (.exit 0)))
 (.seq (.block 1 (.seq (rg [xo 12 (qm (tm 0)),xo 13 (qm (tm 5)),xo 14 (qm (tm 1)),xo 15 (qx 3 (tm 12) (tm 13)),xo 16 (qf 0 (tm 15)),xn (qs (tm 16) (tm 14))])
 (.seq (rg [xo 17 (qm (tm 1)),xo 18 (qb .add (tm 17) (ci 1)),xo 1 (qm (tm 18))])
 (.seq (rg [xo 19 (qm (tm 0)),xo 20 (qm (tm 5)),xo 21 (qm (tm 1)),xo 22 (qx 3 (tm 19) (tm 20)),xo 23 (qf 1 (tm 22)),xn (qs (tm 23) (tm 21))])
 (.seq (rg [xo 24 (qm (tm 1)),xo 25 (qb .add (tm 24) (ci 1)),xo 1 (qm (tm 25))])
 (.seq (rg [xo 26 (qm (tm 0)),xo 27 (qm (tm 5)),xo 28 (qm (tm 1)),xo 29 (qx 3 (tm 26) (tm 27)),xo 30 (qf 2 (tm 29)),xn (qs (tm 30) (tm 28))])
 (rg [xo 31 (qm (tm 1)),xo 32 (qb .add (tm 31) (ci 1)),xo 1 (qm (tm 32))])))))))
 (rg [xo 10 (qm (tm 5)),xo 11 (qb .add (tm 10) (ci 1)),xo 5 (qm (tm 11))])))
def m_laws_markBranchS:AC :=
 (.seq (rg [xo 4 (qm (ci 0))])
 (.seq (.seq (rg [xo 5 (qm (ci 0))])
 (.block 0 (.loop m_laws_markBranchS_l1)))
 (.seq (rg [xo 33 (qm (tm 1)),xo 4 (qm (tm 33))])
 .ret)))
def r_laws_markBranchS:List Res:=[.tmp 4]
theorem c_laws_markBranchS:compiled Tryd.prog Tryd.f34=some (m_laws_markBranchS,r_laws_markBranchS):=by kernel_rfl
theorem hb_laws_markBranchS:hasBody Tryd.prog 34=true:=by kernel_rfl
def L_laws_markBranchS_l1  (l5_m1:Int) (l5_m5:Nat) (l5_m0:List (Int×Int×Int)):Option (Ctl (Int×Nat×(List (Int×Int×Int))) (Int×(List (Int×Int×Int)))) :=
 cond (decide (((l5_m5:Nat):Int)<((l5_m0.length:Nat):Int)))
 (Option.bind (l5_m0[l5_m5]?) fun x11 =>
 Option.bind ((l5_m0.set l5_m5 (l5_m1,x11.2))[l5_m5]?) fun x14 =>
 Option.bind (((l5_m0.set l5_m5 (l5_m1,x11.2)).set l5_m5 (x14.1,IntKind.i64.wrap (l5_m1+1),x14.2.2))[l5_m5]?) fun x17 =>
 og (l5_m5+1<4611686018427387904) <|
 some (Ctl.next (IntKind.i64.wrap (IntKind.i64.wrap (IntKind.i64.wrap (l5_m1+1)+1)+1),l5_m5+1,((l5_m0.set l5_m5 (l5_m1,x11.2)).set l5_m5 (x14.1,IntKind.i64.wrap (l5_m1+1),x14.2.2)).set l5_m5 (x17.1,x17.2.1,IntKind.i64.wrap (IntKind.i64.wrap (l5_m1+1)+1)))))
 (some (Ctl.out (l5_m1,l5_m0)))
def L_laws_markBranchS (a0:List (Int×Int×Int)) (a1:Int):Option ((List (Int×Int×Int))×Int) :=
 Option.bind (loopM (fun s_:Int×Nat×(List (Int×Int×Int))=>L_laws_markBranchS_l1 s_.1 s_.2.1 s_.2.2) 4611686018427387904 (a1,0,a0)) fun (l3_m1,l3_p0) =>
some (l3_p0,l3_m1)
theorem ok_laws_markBranchS {a0:List (Int×Int×Int)} {a1:Int} {r:(List (Int×Int×Int))×Int} (h:L_laws_markBranchS a0 a1=some r) {n_a0:Nat} (hn_a0:n_a0=a0.length):CallM Tryd.prog Tab 34 [(.own (oi 0 0) (.pair .int (.pair .int .int)) 0 n_a0),(ai a1)] [((oi 0 0),.arr 81 (.pair .int (.pair .int .int)) a0)] (ai r.2) [((oi 0 0),.arr 81 (.pair .int (.pair .int .int)) r.1)]:=by
 refine callM_of_ (by kernel_rfl) Tryd.func34 c_laws_markBranchS (n:=34) (by kernel_rfl) (by simp) (tl:=[(0,(.own (oi 0 0) (.pair .int (.pair .int .int)) 0 n_a0)),(1,(ai a1))]) rfl (by kernel_rfl) ⟨trivial,trivial⟩ ⟨trivial,trivial⟩ ?_
 unfold m_laws_markBranchS
 unfold L_laws_markBranchS at h
 refine seqR ?_
 refine awp_seqB h (fun t_ S_=>∃ (l3_m1:Int),∃ (l3_p0:List (Int×Int×Int)),t_=(l3_m1,l3_p0)∧S_=⟨mkTm [(1,(ai l3_m1))],mkOb (someL [((oi 0 0),.arr 81 (.pair .int (.pair .int .int)) l3_p0)]),2⟩) ?_ ?_
 ·intro v_ h
  refine seqR ?_
  refine awp_block_ ?_
  refine awp_loopL h (fun t_ S_=>∃ (l5_m1:Int),∃ (l5_m5:Nat),∃ (l5_m0:List (Int×Int×Int)),t_=(l5_m1,l5_m5,l5_m0)∧S_=⟨mkTm [(0,(.own (oi 0 0) (.pair .int (.pair .int .int)) 0 l5_m0.length)),(1,(ai l5_m1)),(5,(ai ((l5_m5:Nat):Int)))],mkOb (someL [((oi 0 0),.arr 81 (.pair .int (.pair .int .int)) l5_m0)]),2⟩) ⟨_,((weak_tm_ 0 (.own (oi 0 0) (.pair .int (.pair .int .int)) 0 n_a0) (.own (oi 0 0) (.pair .int (.pair .int .int)) 0 a0.length) (by kernel_rfl) (congrArg (fun z_=>((.own (oi 0 0) (.pair .int (.pair .int .int)) 0 z_):AV)) (hn_a0:n_a0=a0.length))).trans (weak_ren [])),⟨a1,0,a0,rfl,rfl⟩⟩ ?_
  rintro n_ _ _ c_ ⟨l5_m1,l5_m5,l5_m0,rfl,rfl⟩ h hn5
  (try dsimp only at h)
  unfold L_laws_markBranchS_l1 at h
  unfold m_laws_markBranchS_l1
  refine awp_seqv_ ?_
  refine seqR ?_
  rcases cond_some h with ⟨q8,h⟩ | ⟨q8,h⟩
  ·have q8_:=of_decide_eq_true q8
   refine awp_condT_ q8 ?_
   refine awp_skip_ (tn_ ?_)
   refine wr_ ?_
   refine awp_seqv_ ?_
   refine awp_block_ ?_
   refine awp_seqv_ ?_
   obtain ⟨x11,e11,h⟩:=ob_some h
   refine awp_region_ 12 ?_
   refine rz0 (.own (oi 0 0) (.pair .int (.pair .int .int)) 0 l5_m0.length) ?_
   refine rz0 (ai ((l5_m5:Nat):Int)) ?_
   refine rz0 (ai l5_m1) ?_
   refine rs0 (.elt (oi 0 0) l5_m5 0) (zo (t:=(.pair .int (.pair .int .int))) (o:=(oi 0 0)) (len:=l5_m0.length) (k:=.i64) (m:=((l5_m5:Nat):Int)) (nat_nn _) (getN_lt e11)) ?_
   refine rz0 (.elt (oi 0 0) l5_m5 0) ?_
   refine rsn2 (oi 0 0) (oi 0 0) (.arr 81 (.pair .int (.pair .int .int)) (l5_m0.set l5_m5 (l5_m1,x11.2))) (s_stE (i:=(oi 0 0)) (j:=l5_m5) (k:=0) (e:=81) (t:=(.pair .int (.pair .int .int))) (xs:=l5_m0) (cs:=[(ai l5_m1),(ai x11.2.1),(ai x11.2.2)]) (x1:=(l5_m1,x11.2)) (by kernel_rfl) (by kernel_rfl) e11 (by kernel_rfl) (by kernel_rfl)) ?_
   refine rnil (tn_ ?_)
   refine wr_ ?_
   refine seqR ?_
   refine awp_seqv_ ?_
   obtain ⟨x14,e14,h⟩:=ob_some h
   refine awp_region_ 21 ?_
   refine rz0 (.own (oi 0 0) (.pair .int (.pair .int .int)) 0 l5_m0.length) ?_
   refine rz0 (ai ((l5_m5:Nat):Int)) ?_
   refine rz0 (ai (IntKind.i64.wrap (l5_m1+1))) ?_
   refine rs0 (.elt (oi 0 0) l5_m5 0) (zo (t:=(.pair .int (.pair .int .int))) (o:=(oi 0 0)) (len:=l5_m0.length) (k:=.i64) (m:=((l5_m5:Nat):Int)) (nat_nn _) (Nat.lt_of_lt_of_le (getN_lt e14) (Nat.le_of_eq (Eq.symm ((rfl:l5_m0.length=l5_m0.length).trans List.length_set.symm))))) ?_
   refine rz0 (.elt (oi 0 0) l5_m5 1) ?_
   refine rsn2 (oi 0 0) (oi 0 0) (.arr 81 (.pair .int (.pair .int .int)) ((l5_m0.set l5_m5 (l5_m1,x11.2)).set l5_m5 (x14.1,IntKind.i64.wrap (l5_m1+1),x14.2.2))) (s_stE (i:=(oi 0 0)) (j:=l5_m5) (k:=1) (e:=81) (t:=(.pair .int (.pair .int .int))) (xs:=l5_m0.set l5_m5 (l5_m1,x11.2)) (cs:=[(ai x14.1),(ai (IntKind.i64.wrap (l5_m1+1))),(ai x14.2.2)]) (x1:=(x14.1,IntKind.i64.wrap (l5_m1+1),x14.2.2)) (by kernel_rfl) (by kernel_rfl) e14 (by kernel_rfl) (by kernel_rfl)) ?_
   refine rnil (tn_ ?_)
   refine wr_ ?_
   refine seqR ?_
   refine awp_seqv_ ?_
   obtain ⟨x17,e17,h⟩:=ob_some h
   refine awp_region_ 30 ?_
   refine rz0 (.own (oi 0 0) (.pair .int (.pair .int .int)) 0 l5_m0.length) ?_
   refine rz0 (ai ((l5_m5:Nat):Int)) ?_
   refine rz0 (ai (IntKind.i64.wrap (IntKind.i64.wrap (l5_m1+1)+1))) ?_
   refine rs0 (.elt (oi 0 0) l5_m5 0) (zo (t:=(.pair .int (.pair .int .int))) (o:=(oi 0 0)) (len:=l5_m0.length) (k:=.i64) (m:=((l5_m5:Nat):Int)) (nat_nn _) (Nat.lt_of_lt_of_le (getN_lt e17) (Nat.le_of_eq (Eq.symm (((rfl:l5_m0.length=l5_m0.length).trans List.length_set.symm).trans List.length_set.symm))))) ?_
   refine rz0 (.elt (oi 0 0) l5_m5 2) ?_
   refine rsn2 (oi 0 0) (oi 0 0) (.arr 81 (.pair .int (.pair .int .int)) (((l5_m0.set l5_m5 (l5_m1,x11.2)).set l5_m5 (x14.1,IntKind.i64.wrap (l5_m1+1),x14.2.2)).set l5_m5 (x17.1,x17.2.1,IntKind.i64.wrap (IntKind.i64.wrap (l5_m1+1)+1)))) (s_stE (i:=(oi 0 0)) (j:=l5_m5) (k:=2) (e:=81) (t:=(.pair .int (.pair .int .int))) (xs:=(l5_m0.set l5_m5 (l5_m1,x11.2)).set l5_m5 (x14.1,IntKind.i64.wrap (l5_m1+1),x14.2.2)) (cs:=[(ai x17.1),(ai x17.2.1),(ai (IntKind.i64.wrap (IntKind.i64.wrap (l5_m1+1)+1)))]) (x1:=(x17.1,x17.2.1,IntKind.i64.wrap (IntKind.i64.wrap (l5_m1+1)+1))) (by kernel_rfl) (by kernel_rfl) e17 (by kernel_rfl) (by kernel_rfl)) ?_
   refine rnil (tn_ ?_)
   refine wr_ ?_
   refine awp_region_ 33 ?_
   refine rsB 3 ?_
   refine rnil (bn_ (tn_ ?_))
   refine wr_ ?_
   obtain ⟨g18,h⟩:=og_some h
   refine awp_region_ 36 ?_
   refine rz0 (ai ((l5_m5:Nat):Int)) ?_
   refine rs0 (ai ((l5_m5+1:Nat):Int)) (za g18) ?_
   refine rsB 1 ?_
   refine rnil (tn_ ?_)
   obtain rfl:=zj h
   exact ⟨(IntKind.i64.wrap (IntKind.i64.wrap (IntKind.i64.wrap (l5_m1+1)+1)+1),l5_m5+1,((l5_m0.set l5_m5 (l5_m1,x11.2)).set l5_m5 (x14.1,IntKind.i64.wrap (l5_m1+1),x14.2.2)).set l5_m5 (x17.1,x17.2.1,IntKind.i64.wrap (IntKind.i64.wrap (l5_m1+1)+1))),_,((weak_tm_ 0 (.own (oi 0 0) (.pair .int (.pair .int .int)) 0 l5_m0.length) (.own (oi 0 0) (.pair .int (.pair .int .int)) 0 ((((l5_m0.set l5_m5 (l5_m1,x11.2)).set l5_m5 (x14.1,IntKind.i64.wrap (l5_m1+1),x14.2.2)).set l5_m5 (x17.1,x17.2.1,IntKind.i64.wrap (IntKind.i64.wrap (l5_m1+1)+1))).length)) (by kernel_rfl) (congrArg (fun z_=>((.own (oi 0 0) (.pair .int (.pair .int .int)) 0 z_):AV)) (((((rfl:l5_m0.length=l5_m0.length).trans List.length_set.symm).trans List.length_set.symm).trans List.length_set.symm):l5_m0.length=(((l5_m0.set l5_m5 (l5_m1,x11.2)).set l5_m5 (x14.1,IntKind.i64.wrap (l5_m1+1),x14.2.2)).set l5_m5 (x17.1,x17.2.1,IntKind.i64.wrap (IntKind.i64.wrap (l5_m1+1)+1))).length))).trans (weak_ren [])),⟨IntKind.i64.wrap (IntKind.i64.wrap (IntKind.i64.wrap (l5_m1+1)+1)+1),l5_m5+1,((l5_m0.set l5_m5 (l5_m1,x11.2)).set l5_m5 (x14.1,IntKind.i64.wrap (l5_m1+1),x14.2.2)).set l5_m5 (x17.1,x17.2.1,IntKind.i64.wrap (IntKind.i64.wrap (l5_m1+1)+1)),rfl,rfl⟩,hn5⟩
  have q8_:=of_decide_eq_false q8
  refine awp_condF_ q8 ?_
  refine awp_exit_ (te_ (te_ (be_ (tn_ ?_))))
  obtain rfl:=zj h
  have h:=hn5
  (try dsimp only at h)
  obtain rfl:=zj h
  exact ⟨_,(weak_ren []),⟨l5_m1,l5_m0,rfl,rfl⟩⟩
 rintro _ _ ⟨l3_m1,l3_p0,rfl,rfl⟩ h
 (try dsimp only at h)
 refine seqR ?_
 refine awp_ret_ ?_
 obtain rfl:=zj h
 exact retM_ [(ai l3_m1)] (weak_ren (tl:=[(4,(ai l3_m1))]) (g:=2) [])
def m_laws_markNetwork:AC :=
 (.seq (rg [xo 2 (.i (.box 34 (tm 0))),xo 4 (qm (ci 0))])
 (.seq (rg [xo 5 (qf 1 (tm 2)),xo 6 (ql (tm 5)),xo 7 (qm (tm 1)),⟨(some 8),none,(qc 34 [(tm 6),(tm 7)] [[(some (.pair .int (.pair .int .int)))],[]])⟩,xo 1 (qm (tm 8))])
 (.seq (rg [xo 9 (qf 2 (tm 2)),xo 10 (ql (tm 9)),xo 11 (qm (tm 1)),xo 12 (qc 18 [(tm 10),(tm 11)] [[(some .int)],[]]),xo 1 (qm (tm 12))])
 (.seq (rg [xo 13 (qf 3 (tm 2)),xo 14 (ql (tm 13)),xo 15 (qm (tm 1)),xo 16 (qc 18 [(tm 14),(tm 15)] [[(some .int)],[]]),xo 1 (qm (tm 16))])
 (.seq (rg [xo 17 (qm (tm 1)),xo 4 (qm (tm 17))])
 .ret)))))
def r_laws_markNetwork:List Res:=[.tmp 4]
theorem c_laws_markNetwork:compiled Tryd.prog Tryd.f11=some (m_laws_markNetwork,r_laws_markNetwork):=by kernel_rfl
theorem hb_laws_markNetwork:hasBody Tryd.prog 11=true:=by kernel_rfl
def L_laws_markNetwork (a0_0:Int) (a0_1:List (Int×Int×Int)) (a0_2:List Int) (a0_3:List Int) (a1:Int):Option ((List (Int×Int×Int))×List Int×List Int×Int) :=
 Option.bind (L_laws_markBranchS a0_1 a1) fun y4 =>
og (y4.1.length=(a0_1.length)) <|
Option.bind (L_laws_markIntS a0_2 y4.2) fun y7 =>
og (y7.1.length=(a0_2.length)) <|
Option.bind (L_laws_markIntS a0_3 y7.2) fun y10 =>
og (y10.1.length=(a0_3.length)) <|
some (y4.1,y7.1,y10.1,y10.2)
theorem ok_laws_markNetwork {a0_0:Int} {a0_1:List (Int×Int×Int)} {a0_2:List Int} {a0_3:List Int} {a1:Int} {r:(List (Int×Int×Int))×List Int×List Int×Int} (h:L_laws_markNetwork a0_0 a0_1 a0_2 a0_3 a1=some r) {n_a0_1:Nat} (hn_a0_1:n_a0_1=a0_1.length) {n_a0_2:Nat} (hn_a0_2:n_a0_2=a0_2.length) {n_a0_3:Nat} (hn_a0_3:n_a0_3=a0_3.length):CallM Tryd.prog Tab 11 [(.agg [(ai a0_0),(.own (oi 0 0) (.pair .int (.pair .int .int)) 0 n_a0_1),(.own (oi 1 0) .int 0 n_a0_2),(.own (oi 2 0) .int 0 n_a0_3)]),(ai a1)] [((oi 0 0),.arr 81 (.pair .int (.pair .int .int)) a0_1),((oi 1 0),.arr 3 .int a0_2),((oi 2 0),.arr 3 .int a0_3)] (ai r.2.2.2) [((oi 0 0),.arr 81 (.pair .int (.pair .int .int)) r.1),((oi 1 0),.arr 3 .int r.2.1),((oi 2 0),.arr 3 .int r.2.2.1)]:=by
 refine callM_of_ (by kernel_rfl) Tryd.func11 c_laws_markNetwork (n:=18) (by kernel_rfl) (by simp) (tl:=[(0,(.agg [(ai a0_0),(.own (oi 0 0) (.pair .int (.pair .int .int)) 0 n_a0_1),(.own (oi 1 0) .int 0 n_a0_2),(.own (oi 2 0) .int 0 n_a0_3)])),(1,(ai a1))]) rfl (by kernel_rfl) ⟨trivial,⟨trivial,⟨trivial,trivial⟩⟩⟩ ⟨trivial,⟨trivial,⟨trivial,trivial⟩⟩⟩ ?_
 unfold m_laws_markNetwork
 unfold L_laws_markNetwork at h
 (try rw [← hn_a0_1] at h)
 (try rw [← hn_a0_2] at h)
 (try rw [← hn_a0_3] at h)
 refine seqR ?_
 refine awp_seqv_ ?_
 obtain ⟨y4,h4,h⟩:=ob_some h
 obtain ⟨g5,h⟩:=og_some h
 refine awp_region_ 8 ?_
 refine rz0 (.box (oi 2 1) 1) ?_
 refine rzl (.own (oi 0 0) (.pair .int (.pair .int .int)) 0 n_a0_1) ?_
 refine rz0 (ai a1) ?_
 refine rcallM (ai y4.2) [((oi 0 0),some (.arr 81 (.pair .int (.pair .int .int)) y4.1)),((oi 0 0),none)] [] [(.own (oi 0 0) (.pair .int (.pair .int .int)) 0 n_a0_1),(ai a1)] (caps:=[]) trivial (ok_laws_markBranchS h4 hn_a0_1) hb_laws_markBranchS ⟨(by kernel_rfl),trivial⟩ (.cons (.ren (by kernel_rfl)) (.cons (.ren (by kernel_rfl)) .nil)) (reachL_mem (by kernel_rfl) (by kernel_rfl) ⟨(re_arg (by kernel_rfl)),trivial⟩) ?_
 refine rsB 1 ?_
 refine rnil (tn_ ?_)
 refine wr_ ?_
 refine awp_seqv_ ?_
 obtain ⟨y7,h7,h⟩:=ob_some h
 obtain ⟨g8,h⟩:=og_some h
 refine awp_region_ 13 ?_
 refine rz0 (.box (oi 2 1) 2) ?_
 refine rzl (.own (oi 1 0) .int 0 n_a0_2) ?_
 refine rz0 (ai y4.2) ?_
 refine rcallM (ai y7.2) [((oi 1 0),some (.arr 3 .int y7.1)),((oi 1 0),none)] [((oi 0 0),(oi 1 0))] [(.own (oi 1 0) .int 0 n_a0_2),(ai y4.2)] (caps:=[]) trivial (ok_laws_markIntS h7 hn_a0_2) hb_laws_markIntS ⟨(by kernel_rfl),trivial⟩ (.cons (.ren (by kernel_rfl)) (.cons (.ren (by kernel_rfl)) .nil)) (reachL_mem (by kernel_rfl) (by kernel_rfl) ⟨(re_arg (by kernel_rfl)),trivial⟩) ?_
 refine rsB 1 ?_
 refine rnil (tn_ ?_)
 refine wr_ ?_
 refine awp_seqv_ ?_
 obtain ⟨y10,h10,h⟩:=ob_some h
 obtain ⟨g11,h⟩:=og_some h
 refine awp_region_ 18 ?_
 refine rz0 (.box (oi 2 1) 3) ?_
 refine rzl (.own (oi 2 0) .int 0 n_a0_3) ?_
 refine rz0 (ai y7.2) ?_
 refine rcallM (ai y10.2) [((oi 2 0),some (.arr 3 .int y10.1)),((oi 2 0),none)] [((oi 0 0),(oi 2 0))] [(.own (oi 2 0) .int 0 n_a0_3),(ai y7.2)] (caps:=[]) trivial (ok_laws_markIntS h10 hn_a0_3) hb_laws_markIntS ⟨(by kernel_rfl),trivial⟩ (.cons (.ren (by kernel_rfl)) (.cons (.ren (by kernel_rfl)) .nil)) (reachL_mem (by kernel_rfl) (by kernel_rfl) ⟨(re_arg (by kernel_rfl)),trivial⟩) ?_
 refine rsB 1 ?_
 refine rnil (tn_ ?_)
 refine wr_ ?_
 refine seqR ?_
 refine awp_ret_ ?_
 obtain rfl:=zj h
 exact retM_ [(ai y10.2)] (weak_ren (tl:=[(4,(ai y10.2))]) (g:=2) [])
end Go.Proofs.YtkaollfdhoaihaaDoor
namespace Go.Proofs.YtkaollfdhoaihaaDoor
open Go.RowKit Go.Deep
set_option maxRecDepth 4000
def m_spec_nwGood_l1:AC :=
 (.seq (rg [xo 56 (qb .lss (tm 55) (tm 54))])
 (.seq (.cond (tm 56)
  .skip
  (.exit 0))
 (.seq (.block 1 (.seq (rg [xo 57 (qx 3 (tm 53) (tm 55)),xo 58 (.i (.ld false 3 (tm 57))),xo 6 (.i (.alloc 81 [(.int .i64 0),(.int .i64 0),(.int .i64 0)])),xn (.st false 3 (tm 6) (tm 58))])
 (.seq (rg [xo 59 (qf 0 (tm 6)),xo 60 (ql (tm 59)),xo 61 (qf 0 (tm 3)),xo 62 (ql (tm 61)),xo 63 (qb .sub (tm 62) (ci 1)),xo 64 (qc 55 [(tm 60),(ci 0),(tm 63)] [[],[],[]]),xo 65 (.i (.not (tm 64))),xo 66 (qm (tm 65)),⟨(some 67),(some (66,false)),(qf 1 (tm 6))⟩,⟨(some 68),(some (66,false)),(ql (tm 67))⟩,⟨(some 69),(some (66,false)),(qf 0 (tm 3))⟩,⟨(some 70),(some (66,false)),(ql (tm 69))⟩,⟨(some 71),(some (66,false)),(qb .sub (tm 70) (ci 1))⟩,⟨(some 72),(some (66,false)),(qc 55 [(tm 68),(ci 0),(tm 71)] [[],[],[]])⟩,⟨(some 73),(some (66,false)),(.i (.not (tm 72)))⟩,xo 74 (.i (.pick (tm 66) (cb true) (tm 73))),xo 75 (qm (tm 74)),⟨(some 76),(some (75,false)),(qf 0 (tm 6))⟩,⟨(some 77),(some (75,false)),(ql (tm 76))⟩,⟨(some 78),(some (75,false)),(qf 1 (tm 6))⟩,⟨(some 79),(some (75,false)),(ql (tm 78))⟩,⟨(some 80),(some (75,false)),(qb .eql (tm 77) (tm 79))⟩,xo 81 (.i (.pick (tm 75) (cb true) (tm 80))),xo 82 (qm (tm 81)),⟨(some 83),(some (82,false)),(qf 2 (tm 6))⟩,⟨(some 84),(some (82,false)),(ql (tm 83))⟩,⟨(some 85),(some (82,false)),(qm (tm 0))⟩,⟨(some 86),(some (82,false)),(qb .sub (tm 85) (ci 1))⟩,⟨(some 87),(some (82,false)),(qc 55 [(tm 84),(ci 1),(tm 86)] [[],[],[]])⟩,⟨(some 88),(some (82,false)),(.i (.not (tm 87)))⟩,xo 89 (.i (.pick (tm 82) (cb true) (tm 88)))])
 (.cond (tm 89)
  (.seq (rg [xo 4 (qm (cb false))])
  .ret)
  .skip))))
 (rg [xo 90 (qb .add (tm 55) (ci 1)),xo 55 (qm (tm 90))]))))
def m_spec_nwGood:AC :=
 (.seq (rg [xo 3 (.i (.box 34 (tm 1))),xo 4 (qm (cb false))])
 (.seq (.seq (rg [xo 7 (qm (tm 0)),xo 8 (qc 54 [(tm 7)] [[]]),xo 9 (.i (.not (tm 8))),xo 10 (qm (tm 9)),⟨(some 11),(some (10,false)),(qf 0 (tm 3))⟩,⟨(some 12),(some (10,false)),(ql (tm 11))⟩,⟨(some 13),(some (10,false)),(qc 55 [(tm 12),(ci 1),(ci 20)] [[],[],[]])⟩,⟨(some 14),(some (10,false)),(.i (.not (tm 13)))⟩,xo 15 (.i (.pick (tm 10) (cb true) (tm 14))),xo 16 (qm (tm 15)),⟨(some 17),(some (16,false)),(qf 1 (tm 3))⟩,⟨(some 18),(some (16,false)),(ql (tm 17))⟩,⟨(some 19),(some (16,false)),(.i (.len (tm 18)))⟩,⟨(some 20),(some (16,false)),(qb .gtr (tm 19) (ci 60))⟩,xo 21 (.i (.pick (tm 16) (cb true) (tm 20))),xo 22 (qm (tm 21)),⟨(some 23),(some (22,false)),(qf 2 (tm 3))⟩,⟨(some 24),(some (22,false)),(ql (tm 23))⟩,⟨(some 25),(some (22,false)),(.i (.len (tm 24)))⟩,⟨(some 26),(some (22,false)),(qb .gtr (tm 25) (ci 6))⟩,xo 27 (.i (.pick (tm 22) (cb true) (tm 26))),xo 28 (qm (tm 27)),⟨(some 29),(some (28,false)),(qf 3 (tm 3))⟩,⟨(some 30),(some (28,false)),(ql (tm 29))⟩,⟨(some 31),(some (28,false)),(.i (.len (tm 30)))⟩,⟨(some 32),(some (28,false)),(qb .gtr (tm 31) (ci 6))⟩,xo 33 (.i (.pick (tm 28) (cb true) (tm 32))),xo 34 (qm (tm 33)),⟨(some 35),(some (34,false)),(qf 2 (tm 3))⟩,⟨(some 36),(some (34,false)),(ql (tm 35))⟩,⟨(some 37),(some (34,false)),(qf 0 (tm 3))⟩,⟨(some 38),(some (34,false)),(ql (tm 37))⟩,⟨(some 39),(some (34,false)),(qb .sub (tm 38) (ci 1))⟩,⟨(some 40),(some (34,false)),(qc 56 [(tm 36),(ci 0),(tm 39)] [[(some .int)],[],[]])⟩,⟨(some 41),(some (34,false)),(.i (.not (tm 40)))⟩,xo 42 (.i (.pick (tm 34) (cb true) (tm 41))),xo 43 (qm (tm 42)),⟨(some 44),(some (43,false)),(qf 3 (tm 3))⟩,⟨(some 45),(some (43,false)),(ql (tm 44))⟩,⟨(some 46),(some (43,false)),(qf 0 (tm 3))⟩,⟨(some 47),(some (43,false)),(ql (tm 46))⟩,⟨(some 48),(some (43,false)),(qb .sub (tm 47) (ci 1))⟩,⟨(some 49),(some (43,false)),(qc 56 [(tm 45),(ci 0),(tm 48)] [[(some .int)],[],[]])⟩,⟨(some 50),(some (43,false)),(.i (.not (tm 49)))⟩,xo 51 (.i (.pick (tm 43) (cb true) (tm 50)))])
 (.cond (tm 51)
  (.seq (rg [xo 4 (qm (cb false))])
  .ret)
  .skip))
 (.seq (.seq (rg [xo 52 (qf 1 (tm 3)),xo 53 (ql (tm 52)),xo 54 (.i (.len (tm 53))),xo 55 (qm (ci 0))])
 (.block 0 (.loop m_spec_nwGood_l1)))
 (.seq (rg [xo 4 (qm (cb true))])
 .ret))))
def r_spec_nwGood:List Res:=[.tmp 4]
theorem c_spec_nwGood:compiled Tryd.prog Tryd.f22=some (m_spec_nwGood,r_spec_nwGood):=by kernel_rfl
def L_spec_nwGood_l1 (a1_1:List (Int×Int×Int)) (a1_0:Int) (a0:Int) (l18_m55:Nat):Option (Ctl Nat (Ctl Unit Bool)) :=
 cond (decide (((l18_m55:Nat):Int)<((a1_1.length:Nat):Int)))
 (Option.bind (a1_1[l18_m55]?) fun x24 =>
 Option.bind (Option.bind (L_spec_l1In x24.1 0 (IntKind.i64.wrap (a1_0 - 1))) fun y26 =>
  cond (!y26)
   (some true)
   (Option.bind (L_spec_l1In x24.2.1 0 (IntKind.i64.wrap (a1_0 - 1))) fun y28 =>
   cond (!y28)
    (some true)
    (cond (x24.1==x24.2.1)
     (some true)
     (Option.bind (L_spec_l1In x24.2.2 1 (IntKind.i64.wrap (a0 - 1))) fun y31 =>
     some (!y31))))) fun l25_m89 =>
 cond l25_m89
  (some (Ctl.out (Ctl.out false)))
  (og (l18_m55+1<4611686018427387904) <|
  some (Ctl.next (l18_m55+1))))
 (some (Ctl.out (Ctl.next ())))
def L_spec_nwGood (a0:Int) (a1_0:Int) (a1_1:List (Int×Int×Int)) (a1_2:List Int) (a1_3:List Int):Option Bool :=
 Option.bind (Option.bind (L_spec_fdGood a0) fun y4 =>
 cond (!y4)
  (some true)
  (Option.bind (L_spec_l1In a1_0 1 20) fun y6 =>
  cond (!y6)
   (some true)
   (cond (decide (60<((a1_1.length:Nat):Int)))
    (some true)
    (cond (decide (6<((a1_2.length:Nat):Int)))
     (some true)
     (cond (decide (6<((a1_3.length:Nat):Int)))
      (some true)
      (Option.bind (L_spec_l1All a1_2 0 (IntKind.i64.wrap (a1_0 - 1))) fun y11 =>
      cond (!y11)
       (some true)
       (Option.bind (L_spec_l1All a1_3 0 (IntKind.i64.wrap (a1_0 - 1))) fun y13 =>
       some (!y13)))))))) fun l3_m51 =>
cond l3_m51
 (some false)
 (seqC (loopM (fun s_:Nat=>L_spec_nwGood_l1 a1_1 a1_0 a0 s_) 4611686018427387904 0) fun _ =>
 some true)
def rv_spec_nwGood (r:Bool):RV:=⟨false,[(false,[.sc (.bool r)])]⟩
set_option maxHeartbeats 1600000 in
theorem ok_spec_nwGood {a0:Int} {a1_0:Int} {a1_1:List (Int×Int×Int)} {a1_2:List Int} {a1_3:List Int} {r:Bool} (h:L_spec_nwGood a0 a1_0 a1_1 a1_2 a1_3=some r):CallOK Tryd.prog Tab 22 [(ai a0),(.agg [(ai a1_0),(.tree (.pair .int (.pair .int .int)) a1_1),(.tree .int a1_2),(.tree .int a1_3)])] (rv_spec_nwGood r):=by
 refine call_of_ (by kernel_rfl) Tryd.func22 c_spec_nwGood (n:=91) (by kernel_rfl) (by simp) (tl:=[(0,(ai a0)),(1,(.agg [(ai a1_0),(.tree (.pair .int (.pair .int .int)) a1_1),(.tree .int a1_2),(.tree .int a1_3)]))]) rfl ?_
 unfold m_spec_nwGood
 unfold L_spec_nwGood at h
 refine seqR ?_
 refine awp_seqv_ ?_
 refine awp_seqB h (fun (l3_m51:Bool) S_=>S_=⟨mkTm [(0,(ai a0)),(3,(.box (oi 0 1) 0)),(51,(.bool l3_m51))],mkOb (someL [((oi 0 1),.cells 34 [(ai a1_0),(.tree (.pair .int (.pair .int .int)) a1_1),(.tree .int a1_2),(.tree .int a1_3)])]),2⟩) ?_ ?_
 ·intro v_ h
  obtain ⟨y4,h4,h⟩:=ob_some h
  rcases cond_some h with ⟨q5,h⟩ | ⟨q5,h⟩
  ·refine awp_region_ 48 ?_
   refine rz0 (ai a0) ?_
   refine zc (.bool y4) [] [(ai a0)] (ok_spec_fdGood h4) ?_
   refine rz0 (.bool (!y4)) ?_
   refine rz0 (.bool (!y4)) ?_
   refine zs q5 ?_
   refine zs q5 ?_
   refine zs q5 ?_
   refine zs q5 ?_
   refine rs0 (.bool true) (zT q5) ?_
   refine rsB 36 ?_
   refine rnil (tn_ ?_)
   obtain rfl:=zj h
   exact ⟨_,(weak_ren [((oi 0 1),(oi 3 1))]),rfl⟩
  obtain ⟨y6,h6,h⟩:=ob_some h
  rcases cond_some h with ⟨q7,h⟩ | ⟨q7,h⟩
  ·refine awp_region_ 48 ?_
   refine rz0 (ai a0) ?_
   refine zc (.bool y4) [] [(ai a0)] (ok_spec_fdGood h4) ?_
   refine rz0 (.bool (!y4)) ?_
   refine rz0 (.bool (!y4)) ?_
   refine rs0 (.box (oi 3 1) 0) (zg q5) ?_
   refine rsl (ai a1_0) (zg q5) ?_
   refine rcall (.bool y6) [] [(ai a1_0),(ai 1),(ai 20)] _ (caps:=[]) (args0:=[(ai a1_0),(ai 1),(ai 20)]) (gdOK_b (by kernel_rfl) q5) (by kernel_rfl) (ok_spec_l1In h6) hb_spec_l1In ?_
   refine rs0 (.bool (!y6)) (zg q5) ?_
   refine rs0 (.bool (!y6)) (zF q5) ?_
   refine rz0 (.bool (!y6)) ?_
   refine zs q7 ?_
   refine zs q7 ?_
   refine zs q7 ?_
   refine zs q7 ?_
   refine rs0 (.bool true) (zT q7) ?_
   refine rsB 30 ?_
   refine rnil (tn_ ?_)
   obtain rfl:=zj h
   exact ⟨_,(weak_ren [((oi 0 1),(oi 3 1))]),rfl⟩
  rcases cond_some h with ⟨q8,h⟩ | ⟨q8,h⟩
  ·have q8_:=of_decide_eq_true q8
   refine awp_region_ 48 ?_
   refine rz0 (ai a0) ?_
   refine zc (.bool y4) [] [(ai a0)] (ok_spec_fdGood h4) ?_
   refine rz0 (.bool (!y4)) ?_
   refine rz0 (.bool (!y4)) ?_
   refine rs0 (.box (oi 3 1) 0) (zg q5) ?_
   refine rsl (ai a1_0) (zg q5) ?_
   refine rcall (.bool y6) [] [(ai a1_0),(ai 1),(ai 20)] _ (caps:=[]) (args0:=[(ai a1_0),(ai 1),(ai 20)]) (gdOK_b (by kernel_rfl) q5) (by kernel_rfl) (ok_spec_l1In h6) hb_spec_l1In ?_
   refine rs0 (.bool (!y6)) (zg q5) ?_
   refine rs0 (.bool (!y6)) (zF q5) ?_
   refine rz0 (.bool (!y6)) ?_
   refine rs0 (.box (oi 3 1) 1) (zg q7) ?_
   refine rsl (.tree (.pair .int (.pair .int .int)) a1_1) (zg q7) ?_
   refine rs0 (ai ((a1_1.length:Nat):Int)) (zg q7) ?_
   refine rs0 (.bool (decide (60<((a1_1.length:Nat):Int)))) (zg q7) ?_
   refine rs0 (.bool (decide (60<((a1_1.length:Nat):Int)))) (zF q7) ?_
   refine rz0 (.bool (decide (60<((a1_1.length:Nat):Int)))) ?_
   refine zs q8 ?_
   refine zs q8 ?_
   refine zs q8 ?_
   refine zs q8 ?_
   refine rs0 (.bool true) (zT q8) ?_
   refine rsB 24 ?_
   refine rnil (tn_ ?_)
   obtain rfl:=zj h
   exact ⟨_,(weak_ren [((oi 0 1),(oi 3 1))]),rfl⟩
  have q8_:=of_decide_eq_false q8
  rcases cond_some h with ⟨q9,h⟩ | ⟨q9,h⟩
  ·have q9_:=of_decide_eq_true q9
   refine awp_region_ 48 ?_
   refine rz0 (ai a0) ?_
   refine zc (.bool y4) [] [(ai a0)] (ok_spec_fdGood h4) ?_
   refine rz0 (.bool (!y4)) ?_
   refine rz0 (.bool (!y4)) ?_
   refine rs0 (.box (oi 3 1) 0) (zg q5) ?_
   refine rsl (ai a1_0) (zg q5) ?_
   refine rcall (.bool y6) [] [(ai a1_0),(ai 1),(ai 20)] _ (caps:=[]) (args0:=[(ai a1_0),(ai 1),(ai 20)]) (gdOK_b (by kernel_rfl) q5) (by kernel_rfl) (ok_spec_l1In h6) hb_spec_l1In ?_
   refine rs0 (.bool (!y6)) (zg q5) ?_
   refine rs0 (.bool (!y6)) (zF q5) ?_
   refine rz0 (.bool (!y6)) ?_
   refine rs0 (.box (oi 3 1) 1) (zg q7) ?_
   refine rsl (.tree (.pair .int (.pair .int .int)) a1_1) (zg q7) ?_
   refine rs0 (ai ((a1_1.length:Nat):Int)) (zg q7) ?_
   refine rs0 (.bool (decide (60<((a1_1.length:Nat):Int)))) (zg q7) ?_
   refine rs0 (.bool (decide (60<((a1_1.length:Nat):Int)))) (zF q7) ?_
   refine rz0 (.bool (decide (60<((a1_1.length:Nat):Int)))) ?_
   refine rs0 (.box (oi 3 1) 2) (zg q8) ?_
   refine rsl (.tree .int a1_2) (zg q8) ?_
   refine rs0 (ai ((a1_2.length:Nat):Int)) (zg q8) ?_
   refine rs0 (.bool (decide (6<((a1_2.length:Nat):Int)))) (zg q8) ?_
   refine rs0 (.bool (decide (6<((a1_2.length:Nat):Int)))) (zF q8) ?_
   refine rz0 (.bool (decide (6<((a1_2.length:Nat):Int)))) ?_
   refine zs q9 ?_
   refine zs q9 ?_
   refine zs q9 ?_
   refine zs q9 ?_
   refine rs0 (.bool true) (zT q9) ?_
   refine rsB 18 ?_
   refine rnil (tn_ ?_)
   obtain rfl:=zj h
   exact ⟨_,(weak_ren [((oi 0 1),(oi 3 1))]),rfl⟩
  have q9_:=of_decide_eq_false q9
  rcases cond_some h with ⟨q10,h⟩ | ⟨q10,h⟩
  ·have q10_:=of_decide_eq_true q10
   refine awp_region_ 48 ?_
   refine rz0 (ai a0) ?_
   refine zc (.bool y4) [] [(ai a0)] (ok_spec_fdGood h4) ?_
   refine rz0 (.bool (!y4)) ?_
   refine rz0 (.bool (!y4)) ?_
   refine rs0 (.box (oi 3 1) 0) (zg q5) ?_
   refine rsl (ai a1_0) (zg q5) ?_
   refine rcall (.bool y6) [] [(ai a1_0),(ai 1),(ai 20)] _ (caps:=[]) (args0:=[(ai a1_0),(ai 1),(ai 20)]) (gdOK_b (by kernel_rfl) q5) (by kernel_rfl) (ok_spec_l1In h6) hb_spec_l1In ?_
   refine rs0 (.bool (!y6)) (zg q5) ?_
   refine rs0 (.bool (!y6)) (zF q5) ?_
   refine rz0 (.bool (!y6)) ?_
   refine rs0 (.box (oi 3 1) 1) (zg q7) ?_
   refine rsl (.tree (.pair .int (.pair .int .int)) a1_1) (zg q7) ?_
   refine rs0 (ai ((a1_1.length:Nat):Int)) (zg q7) ?_
   refine rs0 (.bool (decide (60<((a1_1.length:Nat):Int)))) (zg q7) ?_
   refine rs0 (.bool (decide (60<((a1_1.length:Nat):Int)))) (zF q7) ?_
   refine rz0 (.bool (decide (60<((a1_1.length:Nat):Int)))) ?_
   refine rs0 (.box (oi 3 1) 2) (zg q8) ?_
   refine rsl (.tree .int a1_2) (zg q8) ?_
   refine rs0 (ai ((a1_2.length:Nat):Int)) (zg q8) ?_
   refine rs0 (.bool (decide (6<((a1_2.length:Nat):Int)))) (zg q8) ?_
   refine rs0 (.bool (decide (6<((a1_2.length:Nat):Int)))) (zF q8) ?_
   refine rz0 (.bool (decide (6<((a1_2.length:Nat):Int)))) ?_
   refine rs0 (.box (oi 3 1) 3) (zg q9) ?_
   refine rsl (.tree .int a1_3) (zg q9) ?_
   refine rs0 (ai ((a1_3.length:Nat):Int)) (zg q9) ?_
   refine rs0 (.bool (decide (6<((a1_3.length:Nat):Int)))) (zg q9) ?_
   refine rs0 (.bool (decide (6<((a1_3.length:Nat):Int)))) (zF q9) ?_
   refine rz0 (.bool (decide (6<((a1_3.length:Nat):Int)))) ?_
   refine zs q10 ?_
   refine zs q10 ?_
   refine zs q10 ?_
   refine zs q10 ?_
   refine zs q10 ?_
   refine zs q10 ?_
   refine zs q10 ?_
   refine rs0 (.bool true) (zT q10) ?_
   refine rsB 9 ?_
   refine rnil (tn_ ?_)
   obtain rfl:=zj h
   exact ⟨_,(weak_ren [((oi 0 1),(oi 3 1))]),rfl⟩
  have q10_:=of_decide_eq_false q10
  obtain ⟨y11,h11,h⟩:=ob_some h
  rcases cond_some h with ⟨q12,h⟩ | ⟨q12,h⟩
  ·refine awp_region_ 48 ?_
   refine rz0 (ai a0) ?_
   refine zc (.bool y4) [] [(ai a0)] (ok_spec_fdGood h4) ?_
   refine rz0 (.bool (!y4)) ?_
   refine rz0 (.bool (!y4)) ?_
   refine rs0 (.box (oi 3 1) 0) (zg q5) ?_
   refine rsl (ai a1_0) (zg q5) ?_
   refine rcall (.bool y6) [] [(ai a1_0),(ai 1),(ai 20)] _ (caps:=[]) (args0:=[(ai a1_0),(ai 1),(ai 20)]) (gdOK_b (by kernel_rfl) q5) (by kernel_rfl) (ok_spec_l1In h6) hb_spec_l1In ?_
   refine rs0 (.bool (!y6)) (zg q5) ?_
   refine rs0 (.bool (!y6)) (zF q5) ?_
   refine rz0 (.bool (!y6)) ?_
   refine rs0 (.box (oi 3 1) 1) (zg q7) ?_
   refine rsl (.tree (.pair .int (.pair .int .int)) a1_1) (zg q7) ?_
   refine rs0 (ai ((a1_1.length:Nat):Int)) (zg q7) ?_
   refine rs0 (.bool (decide (60<((a1_1.length:Nat):Int)))) (zg q7) ?_
   refine rs0 (.bool (decide (60<((a1_1.length:Nat):Int)))) (zF q7) ?_
   refine rz0 (.bool (decide (60<((a1_1.length:Nat):Int)))) ?_
   refine rs0 (.box (oi 3 1) 2) (zg q8) ?_
   refine rsl (.tree .int a1_2) (zg q8) ?_
   refine rs0 (ai ((a1_2.length:Nat):Int)) (zg q8) ?_
   refine rs0 (.bool (decide (6<((a1_2.length:Nat):Int)))) (zg q8) ?_
   refine rs0 (.bool (decide (6<((a1_2.length:Nat):Int)))) (zF q8) ?_
   refine rz0 (.bool (decide (6<((a1_2.length:Nat):Int)))) ?_
   refine rs0 (.box (oi 3 1) 3) (zg q9) ?_
   refine rsl (.tree .int a1_3) (zg q9) ?_
   refine rs0 (ai ((a1_3.length:Nat):Int)) (zg q9) ?_
   refine rs0 (.bool (decide (6<((a1_3.length:Nat):Int)))) (zg q9) ?_
   refine rs0 (.bool (decide (6<((a1_3.length:Nat):Int)))) (zF q9) ?_
   refine rz0 (.bool (decide (6<((a1_3.length:Nat):Int)))) ?_
   refine rs0 (.box (oi 3 1) 2) (zg q10) ?_
   refine rsl (.tree .int a1_2) (zg q10) ?_
   refine rs0 (.box (oi 3 1) 0) (zg q10) ?_
   refine rsl (ai a1_0) (zg q10) ?_
   refine rs0 (ai (IntKind.i64.wrap (a1_0 - 1))) (zg q10) ?_
   refine rcall (.bool y11) [] [(.tree .int a1_2),(ai 0),(ai (IntKind.i64.wrap (a1_0 - 1)))] _ (caps:=[]) (args0:=[(.tree .int a1_2),(ai 0),(ai (IntKind.i64.wrap (a1_0 - 1)))]) (gdOK_b (by kernel_rfl) q10) (by kernel_rfl) (ok_spec_l1All h11) hb_spec_l1All ?_
   refine rs0 (.bool (!y11)) (zg q10) ?_
   refine rs0 (.bool (!y11)) (zF q10) ?_
   refine rz0 (.bool (!y11)) ?_
   refine zs q12 ?_
   refine zs q12 ?_
   refine zs q12 ?_
   refine zs q12 ?_
   refine zs q12 ?_
   refine zs q12 ?_
   refine zs q12 ?_
   refine rs0 (.bool true) (zT q12) ?_
   refine rnil (tn_ ?_)
   obtain rfl:=zj h
   exact ⟨_,(weak_ren [((oi 0 1),(oi 3 1))]),rfl⟩
  obtain ⟨y13,h13,h⟩:=ob_some h
  refine awp_region_ 48 ?_
  refine rz0 (ai a0) ?_
  refine zc (.bool y4) [] [(ai a0)] (ok_spec_fdGood h4) ?_
  refine rz0 (.bool (!y4)) ?_
  refine rz0 (.bool (!y4)) ?_
  refine rs0 (.box (oi 3 1) 0) (zg q5) ?_
  refine rsl (ai a1_0) (zg q5) ?_
  refine rcall (.bool y6) [] [(ai a1_0),(ai 1),(ai 20)] _ (caps:=[]) (args0:=[(ai a1_0),(ai 1),(ai 20)]) (gdOK_b (by kernel_rfl) q5) (by kernel_rfl) (ok_spec_l1In h6) hb_spec_l1In ?_
  refine rs0 (.bool (!y6)) (zg q5) ?_
  refine rs0 (.bool (!y6)) (zF q5) ?_
  refine rz0 (.bool (!y6)) ?_
  refine rs0 (.box (oi 3 1) 1) (zg q7) ?_
  refine rsl (.tree (.pair .int (.pair .int .int)) a1_1) (zg q7) ?_
  refine rs0 (ai ((a1_1.length:Nat):Int)) (zg q7) ?_
  refine rs0 (.bool (decide (60<((a1_1.length:Nat):Int)))) (zg q7) ?_
  refine rs0 (.bool (decide (60<((a1_1.length:Nat):Int)))) (zF q7) ?_
  refine rz0 (.bool (decide (60<((a1_1.length:Nat):Int)))) ?_
  refine rs0 (.box (oi 3 1) 2) (zg q8) ?_
  refine rsl (.tree .int a1_2) (zg q8) ?_
  refine rs0 (ai ((a1_2.length:Nat):Int)) (zg q8) ?_
  refine rs0 (.bool (decide (6<((a1_2.length:Nat):Int)))) (zg q8) ?_
  refine rs0 (.bool (decide (6<((a1_2.length:Nat):Int)))) (zF q8) ?_
  refine rz0 (.bool (decide (6<((a1_2.length:Nat):Int)))) ?_
  refine rs0 (.box (oi 3 1) 3) (zg q9) ?_
  refine rsl (.tree .int a1_3) (zg q9) ?_
  refine rs0 (ai ((a1_3.length:Nat):Int)) (zg q9) ?_
  refine rs0 (.bool (decide (6<((a1_3.length:Nat):Int)))) (zg q9) ?_
  refine rs0 (.bool (decide (6<((a1_3.length:Nat):Int)))) (zF q9) ?_
  refine rz0 (.bool (decide (6<((a1_3.length:Nat):Int)))) ?_
  refine rs0 (.box (oi 3 1) 2) (zg q10) ?_
  refine rsl (.tree .int a1_2) (zg q10) ?_
  refine rs0 (.box (oi 3 1) 0) (zg q10) ?_
  refine rsl (ai a1_0) (zg q10) ?_
  refine rs0 (ai (IntKind.i64.wrap (a1_0 - 1))) (zg q10) ?_
  refine rcall (.bool y11) [] [(.tree .int a1_2),(ai 0),(ai (IntKind.i64.wrap (a1_0 - 1)))] _ (caps:=[]) (args0:=[(.tree .int a1_2),(ai 0),(ai (IntKind.i64.wrap (a1_0 - 1)))]) (gdOK_b (by kernel_rfl) q10) (by kernel_rfl) (ok_spec_l1All h11) hb_spec_l1All ?_
  refine rs0 (.bool (!y11)) (zg q10) ?_
  refine rs0 (.bool (!y11)) (zF q10) ?_
  refine rz0 (.bool (!y11)) ?_
  refine rs0 (.box (oi 3 1) 3) (zg q12) ?_
  refine rsl (.tree .int a1_3) (zg q12) ?_
  refine rs0 (.box (oi 3 1) 0) (zg q12) ?_
  refine rsl (ai a1_0) (zg q12) ?_
  refine rs0 (ai (IntKind.i64.wrap (a1_0 - 1))) (zg q12) ?_
  refine rcall (.bool y13) [] [(.tree .int a1_3),(ai 0),(ai (IntKind.i64.wrap (a1_0 - 1)))] _ (caps:=[]) (args0:=[(.tree .int a1_3),(ai 0),(ai (IntKind.i64.wrap (a1_0 - 1)))]) (gdOK_b (by kernel_rfl) q12) (by kernel_rfl) (ok_spec_l1All h13) hb_spec_l1All ?_
  refine rs0 (.bool (!y13)) (zg q12) ?_
  refine rs0 (.bool (!y13)) (zF q12) ?_
  refine rnil (tn_ ?_)
  obtain rfl:=zj h
  exact ⟨_,(weak_ren [((oi 0 1),(oi 3 1))]),rfl⟩
 rintro l3_m51 _ rfl h
 (try dsimp only at h)
 rcases cond_some h with ⟨q14,h⟩ | ⟨q14,h⟩
 ·refine awp_condT_ q14 ?_
  refine seqR ?_
  refine awp_ret_ (tr_ ?_)
  obtain rfl:=zj h
  exact ret_ [(.bool false)] (p_one rfl zl p_nil)
 refine awp_condF_ q14 ?_
 refine awp_skip_ (tn_ ?_)
 refine wr_ ?_
 refine awp_seqC h (fun (_:Unit) S_=>S_=⟨mkTm [],mkOb (someL []),2⟩) ?_ ?_
 ·intro v_ h hk16
  refine seqR ?_
  refine awp_block_ ?_
  refine awp_loopL h (fun (l18_m55:Nat) S_=>S_=⟨mkTm [(0,(ai a0)),(3,(.box (oi 0 1) 0)),(53,(.tree (.pair .int (.pair .int .int)) a1_1)),(54,(ai ((a1_1.length:Nat):Int))),(55,(ai ((l18_m55:Nat):Int)))],mkOb (someL [((oi 0 1),.cells 34 [(ai a1_0),(.tree (.pair .int (.pair .int .int)) a1_1),(.tree .int a1_2),(.tree .int a1_3)])]),2⟩) ⟨_,(weak_ren []),rfl⟩ ?_
  rintro n_ l18_m55 _ c_ rfl h hn18
  (try dsimp only at h)
  unfold L_spec_nwGood_l1 at h
  unfold m_spec_nwGood_l1
  refine seqR ?_
  refine awp_seqv_ ?_
  rcases cond_some h with ⟨q21,h⟩ | ⟨q21,h⟩
  ·have q21_:=of_decide_eq_true q21
   refine awp_condT_ q21 ?_
   refine awp_skip_ (tn_ ?_)
   refine wr_ ?_
   refine awp_seqv_ ?_
   refine awp_block_ ?_
   refine awp_seqv_ ?_
   obtain ⟨x24,e24,h⟩:=ob_some h
   refine awp_region_ 7 ?_
   refine rs0 (.telt (.pair .int (.pair .int .int)) x24 0) (zi (t:=(.pair .int (.pair .int .int))) (xs:=a1_1) (k:=.i64) (m:=((l18_m55:Nat):Int)) (nat_nn _) e24) ?_
   refine rsB 3 ?_
   refine rnil (tn_ ?_)
   refine wr_ ?_
   refine awp_seqB h (fun (l25_m89:Bool) S_=>S_=⟨mkTm [(0,(ai a0)),(3,(.box (oi 0 1) 0)),(53,(.tree (.pair .int (.pair .int .int)) a1_1)),(54,(ai ((a1_1.length:Nat):Int))),(55,(ai ((l18_m55:Nat):Int))),(89,(.bool l25_m89))],mkOb (someL [((oi 0 1),.cells 34 [(ai a1_0),(.tree (.pair .int (.pair .int .int)) a1_1),(.tree .int a1_2),(.tree .int a1_3)])]),2⟩) ?_ ?_
   ·intro v_ h
    obtain ⟨y26,h26,h⟩:=ob_some h
    rcases cond_some h with ⟨q27,h⟩ | ⟨q27,h⟩
    ·refine awp_region_ 38 ?_
     refine rz0 (.box (oi 6 5) 0) ?_
     refine rzl (ai x24.1) ?_
     refine rz0 (.box (oi 0 1) 0) ?_
     refine rzl (ai a1_0) ?_
     refine rz0 (ai (IntKind.i64.wrap (a1_0 - 1))) ?_
     refine zc (.bool y26) [] [(ai x24.1),(ai 0),(ai (IntKind.i64.wrap (a1_0 - 1)))] (ok_spec_l1In h26) ?_
     refine rz0 (.bool (!y26)) ?_
     refine rz0 (.bool (!y26)) ?_
     refine zs q27 ?_
     refine zs q27 ?_
     refine zs q27 ?_
     refine zs q27 ?_
     refine zs q27 ?_
     refine zs q27 ?_
     refine zs q27 ?_
     refine rs0 (.bool true) (zT q27) ?_
     refine rsB 15 ?_
     refine rnil (tn_ ?_)
     obtain rfl:=zj h
     exact ⟨_,(weak_ren []),rfl⟩
    obtain ⟨y28,h28,h⟩:=ob_some h
    rcases cond_some h with ⟨q29,h⟩ | ⟨q29,h⟩
    ·refine awp_region_ 38 ?_
     refine rz0 (.box (oi 6 5) 0) ?_
     refine rzl (ai x24.1) ?_
     refine rz0 (.box (oi 0 1) 0) ?_
     refine rzl (ai a1_0) ?_
     refine rz0 (ai (IntKind.i64.wrap (a1_0 - 1))) ?_
     refine zc (.bool y26) [] [(ai x24.1),(ai 0),(ai (IntKind.i64.wrap (a1_0 - 1)))] (ok_spec_l1In h26) ?_
     refine rz0 (.bool (!y26)) ?_
     refine rz0 (.bool (!y26)) ?_
     refine rs0 (.box (oi 6 5) 1) (zg q27) ?_
     refine rsl (ai x24.2.1) (zg q27) ?_
     refine rs0 (.box (oi 0 1) 0) (zg q27) ?_
     refine rsl (ai a1_0) (zg q27) ?_
     refine rs0 (ai (IntKind.i64.wrap (a1_0 - 1))) (zg q27) ?_
     refine rcall (.bool y28) [] [(ai x24.2.1),(ai 0),(ai (IntKind.i64.wrap (a1_0 - 1)))] _ (caps:=[]) (args0:=[(ai x24.2.1),(ai 0),(ai (IntKind.i64.wrap (a1_0 - 1)))]) (gdOK_b (by kernel_rfl) q27) (by kernel_rfl) (ok_spec_l1In h28) hb_spec_l1In ?_
     refine rs0 (.bool (!y28)) (zg q27) ?_
     refine rs0 (.bool (!y28)) (zF q27) ?_
     refine rz0 (.bool (!y28)) ?_
     refine zs q29 ?_
     refine zs q29 ?_
     refine zs q29 ?_
     refine zs q29 ?_
     refine zs q29 ?_
     refine rs0 (.bool true) (zT q29) ?_
     refine rsB 8 ?_
     refine rnil (tn_ ?_)
     obtain rfl:=zj h
     exact ⟨_,(weak_ren []),rfl⟩
    rcases cond_some h with ⟨q30,h⟩ | ⟨q30,h⟩
    ·refine awp_region_ 38 ?_
     refine rz0 (.box (oi 6 5) 0) ?_
     refine rzl (ai x24.1) ?_
     refine rz0 (.box (oi 0 1) 0) ?_
     refine rzl (ai a1_0) ?_
     refine rz0 (ai (IntKind.i64.wrap (a1_0 - 1))) ?_
     refine zc (.bool y26) [] [(ai x24.1),(ai 0),(ai (IntKind.i64.wrap (a1_0 - 1)))] (ok_spec_l1In h26) ?_
     refine rz0 (.bool (!y26)) ?_
     refine rz0 (.bool (!y26)) ?_
     refine rs0 (.box (oi 6 5) 1) (zg q27) ?_
     refine rsl (ai x24.2.1) (zg q27) ?_
     refine rs0 (.box (oi 0 1) 0) (zg q27) ?_
     refine rsl (ai a1_0) (zg q27) ?_
     refine rs0 (ai (IntKind.i64.wrap (a1_0 - 1))) (zg q27) ?_
     refine rcall (.bool y28) [] [(ai x24.2.1),(ai 0),(ai (IntKind.i64.wrap (a1_0 - 1)))] _ (caps:=[]) (args0:=[(ai x24.2.1),(ai 0),(ai (IntKind.i64.wrap (a1_0 - 1)))]) (gdOK_b (by kernel_rfl) q27) (by kernel_rfl) (ok_spec_l1In h28) hb_spec_l1In ?_
     refine rs0 (.bool (!y28)) (zg q27) ?_
     refine rs0 (.bool (!y28)) (zF q27) ?_
     refine rz0 (.bool (!y28)) ?_
     refine rs0 (.box (oi 6 5) 0) (zg q29) ?_
     refine rsl (ai x24.1) (zg q29) ?_
     refine rs0 (.box (oi 6 5) 1) (zg q29) ?_
     refine rsl (ai x24.2.1) (zg q29) ?_
     refine rs0 (.bool (x24.1==x24.2.1)) (zg q29) ?_
     refine rs0 (.bool (x24.1==x24.2.1)) (zF q29) ?_
     refine rz0 (.bool (x24.1==x24.2.1)) ?_
     refine zs q30 ?_
     refine zs q30 ?_
     refine zs q30 ?_
     refine zs q30 ?_
     refine zs q30 ?_
     refine zs q30 ?_
     refine rs0 (.bool true) (zT q30) ?_
     refine rnil (tn_ ?_)
     obtain rfl:=zj h
     exact ⟨_,(weak_ren []),rfl⟩
    obtain ⟨y31,h31,h⟩:=ob_some h
    refine awp_region_ 38 ?_
    refine rz0 (.box (oi 6 5) 0) ?_
    refine rzl (ai x24.1) ?_
    refine rz0 (.box (oi 0 1) 0) ?_
    refine rzl (ai a1_0) ?_
    refine rz0 (ai (IntKind.i64.wrap (a1_0 - 1))) ?_
    refine zc (.bool y26) [] [(ai x24.1),(ai 0),(ai (IntKind.i64.wrap (a1_0 - 1)))] (ok_spec_l1In h26) ?_
    refine rz0 (.bool (!y26)) ?_
    refine rz0 (.bool (!y26)) ?_
    refine rs0 (.box (oi 6 5) 1) (zg q27) ?_
    refine rsl (ai x24.2.1) (zg q27) ?_
    refine rs0 (.box (oi 0 1) 0) (zg q27) ?_
    refine rsl (ai a1_0) (zg q27) ?_
    refine rs0 (ai (IntKind.i64.wrap (a1_0 - 1))) (zg q27) ?_
    refine rcall (.bool y28) [] [(ai x24.2.1),(ai 0),(ai (IntKind.i64.wrap (a1_0 - 1)))] _ (caps:=[]) (args0:=[(ai x24.2.1),(ai 0),(ai (IntKind.i64.wrap (a1_0 - 1)))]) (gdOK_b (by kernel_rfl) q27) (by kernel_rfl) (ok_spec_l1In h28) hb_spec_l1In ?_
    refine rs0 (.bool (!y28)) (zg q27) ?_
    refine rs0 (.bool (!y28)) (zF q27) ?_
    refine rz0 (.bool (!y28)) ?_
    refine rs0 (.box (oi 6 5) 0) (zg q29) ?_
    refine rsl (ai x24.1) (zg q29) ?_
    refine rs0 (.box (oi 6 5) 1) (zg q29) ?_
    refine rsl (ai x24.2.1) (zg q29) ?_
    refine rs0 (.bool (x24.1==x24.2.1)) (zg q29) ?_
    refine rs0 (.bool (x24.1==x24.2.1)) (zF q29) ?_
    refine rz0 (.bool (x24.1==x24.2.1)) ?_
    refine rs0 (.box (oi 6 5) 2) (zg q30) ?_
    refine rsl (ai x24.2.2) (zg q30) ?_
    refine rs0 (ai a0) (zg q30) ?_
    refine rs0 (ai (IntKind.i64.wrap (a0 - 1))) (zg q30) ?_
    refine rcall (.bool y31) [] [(ai x24.2.2),(ai 1),(ai (IntKind.i64.wrap (a0 - 1)))] _ (caps:=[]) (args0:=[(ai x24.2.2),(ai 1),(ai (IntKind.i64.wrap (a0 - 1)))]) (gdOK_b (by kernel_rfl) q30) (by kernel_rfl) (ok_spec_l1In h31) hb_spec_l1In ?_
    refine rs0 (.bool (!y31)) (zg q30) ?_
    refine rs0 (.bool (!y31)) (zF q30) ?_
    refine rnil (tn_ ?_)
    obtain rfl:=zj h
    exact ⟨_,(weak_ren []),rfl⟩
   rintro l25_m89 _ rfl h
   (try dsimp only at h)
   rcases cond_some h with ⟨q32,h⟩ | ⟨q32,h⟩
   ·refine awp_condT_ q32 ?_
    refine seqR ?_
    refine awp_ret_ (br_ (tr_ (tr_ (br_ (tr_ ?_)))))
    obtain rfl:=zj h
    have h:=hn18
    (try dsimp only at h)
    obtain rfl:=zj h
    have h:=hk16
    (try dsimp only at h)
    obtain rfl:=zj h
    exact ret_ [(.bool false)] (p_one rfl zl p_nil)
   refine awp_condF_ q32 ?_
   refine awp_skip_ (bn_ (tn_ ?_))
   refine wr_ ?_
   obtain ⟨g34,h⟩:=og_some h
   refine awp_region_ 4 ?_
   refine rs0 (ai ((l18_m55+1:Nat):Int)) (za g34) ?_
   refine rsB 1 ?_
   refine rnil (tn_ ?_)
   obtain rfl:=zj h
   exact ⟨l18_m55+1,_,(weak_ren []),rfl,hn18⟩
  have q21_:=of_decide_eq_false q21
  refine awp_condF_ q21 ?_
  refine awp_exit_ (te_ (te_ (be_ (tn_ ?_))))
  obtain rfl:=zj h
  have h:=hn18
  (try dsimp only at h)
  obtain rfl:=zj h
  exact ⟨(),_,rfl,(weak_ren []),rfl⟩
 rintro _ _ rfl h
 (try dsimp only at h)
 refine seqR ?_
 refine awp_ret_ ?_
 obtain rfl:=zj h
 exact ret_ [(.bool true)] (p_one rfl zl p_nil)
def m_impl_Branch_isBranch:AC :=
 (.seq (rg [xo 3 (.i (.box 81 (tm 0))),xo 6 (qm (cb false))])
 (.seq (rg [xo 7 (qf 0 (tm 3)),xo 8 (ql (tm 7)),xo 9 (qm (tm 2)),xo 10 (qb .sub (tm 9) (ci 1)),xo 11 (qc 60 [(tm 8),(ci 0),(tm 10)] [[],[],[]]),xo 12 (qm (tm 11)),⟨(some 13),(some (12,true)),(qf 1 (tm 3))⟩,⟨(some 14),(some (12,true)),(ql (tm 13))⟩,⟨(some 15),(some (12,true)),(qm (tm 2))⟩,⟨(some 16),(some (12,true)),(qb .sub (tm 15) (ci 1))⟩,⟨(some 17),(some (12,true)),(qc 60 [(tm 14),(ci 0),(tm 16)] [[],[],[]])⟩,xo 18 (.i (.pick (tm 12) (tm 17) (cb false))),xo 19 (qm (tm 18)),⟨(some 20),(some (19,true)),(qf 0 (tm 3))⟩,⟨(some 21),(some (19,true)),(ql (tm 20))⟩,⟨(some 22),(some (19,true)),(qf 1 (tm 3))⟩,⟨(some 23),(some (19,true)),(ql (tm 22))⟩,⟨(some 24),(some (19,true)),(qb .neq (tm 21) (tm 23))⟩,xo 25 (.i (.pick (tm 19) (tm 24) (cb false))),xo 26 (qm (tm 25)),⟨(some 27),(some (26,true)),(qf 2 (tm 3))⟩,⟨(some 28),(some (26,true)),(ql (tm 27))⟩,⟨(some 29),(some (26,true)),(qm (tm 1))⟩,⟨(some 30),(some (26,true)),(qb .sub (tm 29) (ci 1))⟩,⟨(some 31),(some (26,true)),(qc 60 [(tm 28),(ci 1),(tm 30)] [[],[],[]])⟩,xo 32 (.i (.pick (tm 26) (tm 31) (cb false))),xo 6 (qm (tm 32))])
 .ret))
def r_impl_Branch_isBranch:List Res:=[.tmp 6]
theorem c_impl_Branch_isBranch:compiled Tryd.prog Tryd.f64=some (m_impl_Branch_isBranch,r_impl_Branch_isBranch):=by kernel_rfl
def L_impl_Branch_isBranch (a0_0:Int) (a0_1:Int) (a0_2:Int) (a1:Int) (a2:Int):Option Bool :=
 Option.bind (Option.bind (L_impl_within a0_0 0 (IntKind.i64.wrap (a2 - 1))) fun y3 =>
 cond y3
  (Option.bind (L_impl_within a0_1 0 (IntKind.i64.wrap (a2 - 1))) fun y5 =>
  cond y5
   (cond (a0_0 !=a0_1)
    (Option.bind (L_impl_within a0_2 1 (IntKind.i64.wrap (a1 - 1))) fun y8 =>
    some y8)
    (some false))
   (some false))
  (some false)) fun l2_m6 =>
some l2_m6
def rv_impl_Branch_isBranch (r:Bool):RV:=⟨false,[(false,[.sc (.bool r)])]⟩
theorem ok_impl_Branch_isBranch {a0_0:Int} {a0_1:Int} {a0_2:Int} {a1:Int} {a2:Int} {r:Bool} (h:L_impl_Branch_isBranch a0_0 a0_1 a0_2 a1 a2=some r):CallOK Tryd.prog Tab 64 [(.agg [(ai a0_0),(ai a0_1),(ai a0_2)]),(ai a1),(ai a2)] (rv_impl_Branch_isBranch r):=by
 refine call_of_ (by kernel_rfl) Tryd.func64 c_impl_Branch_isBranch (n:=33) (by kernel_rfl) (by simp) (tl:=[(0,(.agg [(ai a0_0),(ai a0_1),(ai a0_2)])),(1,(ai a1)),(2,(ai a2))]) rfl ?_
 unfold m_impl_Branch_isBranch
 unfold L_impl_Branch_isBranch at h
 refine seqR ?_
 refine awp_seqB h (fun (l2_m6:Bool) S_=>S_=⟨mkTm [(6,(.bool l2_m6))],mkOb (someL []),2⟩) ?_ ?_
 ·intro v_ h
  obtain ⟨y3,h3,h⟩:=ob_some h
  rcases cond_some h with ⟨q4,h⟩ | ⟨q4,h⟩
  ·obtain ⟨y5,h5,h⟩:=ob_some h
   rcases cond_some h with ⟨q6,h⟩ | ⟨q6,h⟩
   ·rcases cond_some h with ⟨q7,h⟩ | ⟨q7,h⟩
    ·obtain ⟨y8,h8,h⟩:=ob_some h
     refine awp_region_ 30 ?_
     refine rz0 (.box (oi 3 1) 0) ?_
     refine rzl (ai a0_0) ?_
     refine rz0 (ai a2) ?_
     refine rz0 (ai (IntKind.i64.wrap (a2 - 1))) ?_
     refine zc (.bool y3) [] [(ai a0_0),(ai 0),(ai (IntKind.i64.wrap (a2 - 1)))] (ok_impl_within h3) ?_
     refine rz0 (.bool y3) ?_
     refine rs0 (.box (oi 3 1) 1) (zg q4) ?_
     refine rsl (ai a0_1) (zg q4) ?_
     refine rs0 (ai a2) (zg q4) ?_
     refine rs0 (ai (IntKind.i64.wrap (a2 - 1))) (zg q4) ?_
     refine rcall (.bool y5) [] [(ai a0_1),(ai 0),(ai (IntKind.i64.wrap (a2 - 1)))] _ (caps:=[]) (args0:=[(ai a0_1),(ai 0),(ai (IntKind.i64.wrap (a2 - 1)))]) (gdOK_b (by kernel_rfl) q4) (by kernel_rfl) (ok_impl_within h5) hb_impl_within ?_
     refine rs0 (.bool y5) (zT q4) ?_
     refine rz0 (.bool y5) ?_
     refine rs0 (.box (oi 3 1) 0) (zg q6) ?_
     refine rsl (ai a0_0) (zg q6) ?_
     refine rs0 (.box (oi 3 1) 1) (zg q6) ?_
     refine rsl (ai a0_1) (zg q6) ?_
     refine rs0 (.bool (a0_0 !=a0_1)) (zg q6) ?_
     refine rs0 (.bool (a0_0 !=a0_1)) (zT q6) ?_
     refine rz0 (.bool (a0_0 !=a0_1)) ?_
     refine rs0 (.box (oi 3 1) 2) (zg q7) ?_
     refine rsl (ai a0_2) (zg q7) ?_
     refine rs0 (ai a1) (zg q7) ?_
     refine rs0 (ai (IntKind.i64.wrap (a1 - 1))) (zg q7) ?_
     refine rcall (.bool y8) [] [(ai a0_2),(ai 1),(ai (IntKind.i64.wrap (a1 - 1)))] _ (caps:=[]) (args0:=[(ai a0_2),(ai 1),(ai (IntKind.i64.wrap (a1 - 1)))]) (gdOK_b (by kernel_rfl) q7) (by kernel_rfl) (ok_impl_within h8) hb_impl_within ?_
     refine rs0 (.bool y8) (zT q7) ?_
     refine rsB 1 ?_
     refine rnil (tn_ ?_)
     obtain rfl:=zj h
     exact ⟨_,(weak_ren []),rfl⟩
    refine awp_region_ 30 ?_
    refine rz0 (.box (oi 3 1) 0) ?_
    refine rzl (ai a0_0) ?_
    refine rz0 (ai a2) ?_
    refine rz0 (ai (IntKind.i64.wrap (a2 - 1))) ?_
    refine zc (.bool y3) [] [(ai a0_0),(ai 0),(ai (IntKind.i64.wrap (a2 - 1)))] (ok_impl_within h3) ?_
    refine rz0 (.bool y3) ?_
    refine rs0 (.box (oi 3 1) 1) (zg q4) ?_
    refine rsl (ai a0_1) (zg q4) ?_
    refine rs0 (ai a2) (zg q4) ?_
    refine rs0 (ai (IntKind.i64.wrap (a2 - 1))) (zg q4) ?_
    refine rcall (.bool y5) [] [(ai a0_1),(ai 0),(ai (IntKind.i64.wrap (a2 - 1)))] _ (caps:=[]) (args0:=[(ai a0_1),(ai 0),(ai (IntKind.i64.wrap (a2 - 1)))]) (gdOK_b (by kernel_rfl) q4) (by kernel_rfl) (ok_impl_within h5) hb_impl_within ?_
    refine rs0 (.bool y5) (zT q4) ?_
    refine rz0 (.bool y5) ?_
    refine rs0 (.box (oi 3 1) 0) (zg q6) ?_
    refine rsl (ai a0_0) (zg q6) ?_
    refine rs0 (.box (oi 3 1) 1) (zg q6) ?_
    refine rsl (ai a0_1) (zg q6) ?_
    refine rs0 (.bool (a0_0 !=a0_1)) (zg q6) ?_
    refine rs0 (.bool (a0_0 !=a0_1)) (zT q6) ?_
    refine rz0 (.bool (a0_0 !=a0_1)) ?_
    refine zs q7 ?_
    refine zs q7 ?_
    refine zs q7 ?_
    refine zs q7 ?_
    refine zs q7 ?_
    refine rs0 (.bool false) (zF q7) ?_
    refine rsB 1 ?_
    refine rnil (tn_ ?_)
    obtain rfl:=zj h
    exact ⟨_,(weak_ren []),rfl⟩
   refine awp_region_ 30 ?_
   refine rz0 (.box (oi 3 1) 0) ?_
   refine rzl (ai a0_0) ?_
   refine rz0 (ai a2) ?_
   refine rz0 (ai (IntKind.i64.wrap (a2 - 1))) ?_
   refine zc (.bool y3) [] [(ai a0_0),(ai 0),(ai (IntKind.i64.wrap (a2 - 1)))] (ok_impl_within h3) ?_
   refine rz0 (.bool y3) ?_
   refine rs0 (.box (oi 3 1) 1) (zg q4) ?_
   refine rsl (ai a0_1) (zg q4) ?_
   refine rs0 (ai a2) (zg q4) ?_
   refine rs0 (ai (IntKind.i64.wrap (a2 - 1))) (zg q4) ?_
   refine rcall (.bool y5) [] [(ai a0_1),(ai 0),(ai (IntKind.i64.wrap (a2 - 1)))] _ (caps:=[]) (args0:=[(ai a0_1),(ai 0),(ai (IntKind.i64.wrap (a2 - 1)))]) (gdOK_b (by kernel_rfl) q4) (by kernel_rfl) (ok_impl_within h5) hb_impl_within ?_
   refine rs0 (.bool y5) (zT q4) ?_
   refine rz0 (.bool y5) ?_
   refine zs q6 ?_
   refine zs q6 ?_
   refine zs q6 ?_
   refine zs q6 ?_
   refine zs q6 ?_
   refine rs0 (.bool false) (zF q6) ?_
   refine rsB 8 ?_
   refine rnil (tn_ ?_)
   obtain rfl:=zj h
   exact ⟨_,(weak_ren []),rfl⟩
  refine awp_region_ 30 ?_
  refine rz0 (.box (oi 3 1) 0) ?_
  refine rzl (ai a0_0) ?_
  refine rz0 (ai a2) ?_
  refine rz0 (ai (IntKind.i64.wrap (a2 - 1))) ?_
  refine zc (.bool y3) [] [(ai a0_0),(ai 0),(ai (IntKind.i64.wrap (a2 - 1)))] (ok_impl_within h3) ?_
  refine rz0 (.bool y3) ?_
  refine zs q4 ?_
  refine zs q4 ?_
  refine zs q4 ?_
  refine zs q4 ?_
  refine zs q4 ?_
  refine rs0 (.bool false) (zF q4) ?_
  refine rsB 15 ?_
  refine rnil (tn_ ?_)
  obtain rfl:=zj h
  exact ⟨_,(weak_ren []),rfl⟩
 rintro l2_m6 _ rfl h
 (try dsimp only at h)
 refine awp_ret_ ?_
 obtain rfl:=zj h
 exact ret_ [(.bool l2_m6)] (p_one rfl zl p_nil)
def m_impl_isNetwork_1:AC :=
 (.seq (rg [xo 3 (.i (.box 81 (tm 0))),xo 4 (qm (cb false))])
 (.seq (rg [xo 5 (.i (.ld false 3 (tm 3))),xo 6 (ql (tm 1)),xo 7 (qf 0 (tm 2)),xo 8 (ql (tm 7)),xo 9 (qc 64 [(tm 5),(tm 6),(tm 8)] [[none,none,none],[],[]]),xo 10 (.i (.not (tm 9))),xo 4 (qm (tm 10))])
 .ret))
def r_impl_isNetwork_1:List Res:=[.tmp 4]
theorem c_impl_isNetwork_1:compiled Tryd.prog Tryd.f63=some (m_impl_isNetwork_1,r_impl_isNetwork_1):=by kernel_rfl
theorem hb_impl_isNetwork_1:hasBody Tryd.prog 63=true:=by kernel_rfl
def L_impl_isNetwork_1 (a0_0:Int) (a0_1:Int) (a0_2:Int) (c0_0:Int) (c1_0:Int) (c1_1:List (Int×Int×Int)) (c1_2:List Int) (c1_3:List Int):Option Bool :=
 Option.bind (L_impl_Branch_isBranch a0_0 a0_1 a0_2 c0_0 c1_0) fun y3 =>
some (!y3)
def rv_impl_isNetwork_1 (r:Bool):RV:=⟨false,[(false,[.sc (.bool r)])]⟩
theorem ok_impl_isNetwork_1 {a0_0:Int} {a0_1:Int} {a0_2:Int} {c0_0:Int} {c1_0:Int} {c1_1:List (Int×Int×Int)} {c1_2:List Int} {c1_3:List Int} {r:Bool} (h:L_impl_isNetwork_1 a0_0 a0_1 a0_2 c0_0 c1_0 c1_1 c1_2 c1_3=some r):CallOK Tryd.prog Tab 63 [(.agg [(ai a0_0),(ai a0_1),(ai a0_2)]),(.ref [(ai c0_0)]),(.ref [(ai c1_0),(.tree (.pair .int (.pair .int .int)) c1_1),(.tree .int c1_2),(.tree .int c1_3)])] (rv_impl_isNetwork_1 r):=by
 refine call_of_ (by kernel_rfl) Tryd.func63 c_impl_isNetwork_1 (n:=11) (by kernel_rfl) (by simp) (tl:=[(0,(.agg [(ai a0_0),(ai a0_1),(ai a0_2)])),(1,(.ref [(ai c0_0)])),(2,(.ref [(ai c1_0),(.tree (.pair .int (.pair .int .int)) c1_1),(.tree .int c1_2),(.tree .int c1_3)]))]) rfl ?_
 unfold m_impl_isNetwork_1
 unfold L_impl_isNetwork_1 at h
 refine seqR ?_
 refine awp_seqv_ ?_
 obtain ⟨y3,h3,h⟩:=ob_some h
 refine awp_region_ 10 ?_
 refine rzl (.agg [(ai a0_0),(ai a0_1),(ai a0_2)]) ?_
 refine rz0 (ai c0_0) ?_
 refine rz0 (.ref [(ai c1_0),(.tree (.pair .int (.pair .int .int)) c1_1),(.tree .int c1_2),(.tree .int c1_3)]) ?_
 refine rz0 (ai c1_0) ?_
 refine zc (.bool y3) [] [(.agg [(ai a0_0),(ai a0_1),(ai a0_2)]),(ai c0_0),(ai c1_0)] (ok_impl_Branch_isBranch h3) ?_
 refine rsB 2 ?_
 refine rnil (tn_ ?_)
 refine wr_ ?_
 refine awp_ret_ ?_
 obtain rfl:=zj h
 exact ret_ [(.bool (!y3))] (p_one rfl zl p_nil)
def m_slices_IndexFunc_impl_Branch_impl_Branch_l1:AC :=
 (.seq (rg [xo 9 (qb .lss (tm 8) (tm 7))])
 (.seq (.cond (tm 9)
  .skip
  (.exit 0))
 (.seq (.block 1 (.seq (rg [xo 10 (qm (tm 8)),xo 5 (qm (tm 10))])
 (.seq (rg [xo 11 (qm (tm 1)),xo 12 (qm (tm 0)),xo 13 (qm (tm 5)),xo 14 (qx 3 (tm 12) (tm 13)),xo 15 (.i (.ld false 3 (tm 14))),xo 16 (.call (tm 11) [(tm 15)] [[none,none,none]])])
 (.cond (tm 16)
  (.seq (rg [xo 17 (qm (tm 5)),xo 4 (qm (tm 17))])
  .ret)
  .skip))))
 (rg [xo 18 (qb .add (tm 8) (ci 1)),xo 8 (qm (tm 18))]))))
def m_slices_IndexFunc_impl_Branch_impl_Branch:AC :=
 (.seq (rg [xo 4 (qm (ci 0))])
 (.seq (.seq (rg [xo 6 (qm (tm 0)),xo 7 (.i (.len (tm 6))),xo 8 (qm (ci 0))])
 (.block 0 (.loop m_slices_IndexFunc_impl_Branch_impl_Branch_l1)))
 (.seq (rg [xo 4 (qm (ci (-1)))])
 .ret)))
def r_slices_IndexFunc_impl_Branch_impl_Branch:List Res:=[.tmp 4]
theorem c_slices_IndexFunc_impl_Branch_impl_Branch:compiled Tryd.prog Tryd.f84=some (m_slices_IndexFunc_impl_Branch_impl_Branch,r_slices_IndexFunc_impl_Branch_impl_Branch):=by kernel_rfl
def L_slices_IndexFunc_impl_Branch_impl_Branch_for_impl_isNetwork_1_l1 (a0:List (Int×Int×Int)) (a1_0_0:Int) (a1_1_0:Int) (a1_1_1:List (Int×Int×Int)) (a1_1_2:List Int) (a1_1_3:List Int) (l4_m8:Nat):Option (Ctl Nat (Ctl Unit Int)) :=
 cond (decide (((l4_m8:Nat):Int)<((a0.length:Nat):Int)))
 (Option.bind (a0[l4_m8]?) fun x11 =>
 Option.bind (L_impl_isNetwork_1 x11.1 x11.2.1 x11.2.2 a1_0_0 a1_1_0 a1_1_1 a1_1_2 a1_1_3) fun y12 =>
 cond y12
  (some (Ctl.out (Ctl.out ((l4_m8:Nat):Int))))
  (og (l4_m8+1<4611686018427387904) <|
  some (Ctl.next (l4_m8+1))))
 (some (Ctl.out (Ctl.next ())))
def L_slices_IndexFunc_impl_Branch_impl_Branch_for_impl_isNetwork_1 (a0:List (Int×Int×Int)) (a1_0_0:Int) (a1_1_0:Int) (a1_1_1:List (Int×Int×Int)) (a1_1_2:List Int) (a1_1_3:List Int):Option Int :=
 seqC (loopM (fun s_:Nat=>L_slices_IndexFunc_impl_Branch_impl_Branch_for_impl_isNetwork_1_l1 a0 a1_0_0 a1_1_0 a1_1_1 a1_1_2 a1_1_3 s_) 4611686018427387904 0) fun _ =>
some (-1)
def rv_slices_IndexFunc_impl_Branch_impl_Branch_for_impl_isNetwork_1 (r:Int):RV:=⟨false,[(false,[.sc (.int .i64 r)])]⟩
theorem ok_slices_IndexFunc_impl_Branch_impl_Branch_for_impl_isNetwork_1 {a0:List (Int×Int×Int)} {a1_0_0:Int} {a1_1_0:Int} {a1_1_1:List (Int×Int×Int)} {a1_1_2:List Int} {a1_1_3:List Int} {r:Int} (h:L_slices_IndexFunc_impl_Branch_impl_Branch_for_impl_isNetwork_1 a0 a1_0_0 a1_1_0 a1_1_1 a1_1_2 a1_1_3=some r):CallOK Tryd.prog Tab 84 [(.tree (.pair .int (.pair .int .int)) a0),(.fn 63 [(.ref [(ai a1_0_0)]),(.ref [(ai a1_1_0),(.tree (.pair .int (.pair .int .int)) a1_1_1),(.tree .int a1_1_2),(.tree .int a1_1_3)])])] (rv_slices_IndexFunc_impl_Branch_impl_Branch_for_impl_isNetwork_1 r):=by
 refine call_of_ (by kernel_rfl) Tryd.func84 c_slices_IndexFunc_impl_Branch_impl_Branch (n:=19) (by kernel_rfl) (by simp) (tl:=[(0,(.tree (.pair .int (.pair .int .int)) a0)),(1,(.fn 63 [(.ref [(ai a1_0_0)]),(.ref [(ai a1_1_0),(.tree (.pair .int (.pair .int .int)) a1_1_1),(.tree .int a1_1_2),(.tree .int a1_1_3)])]))]) rfl ?_
 unfold m_slices_IndexFunc_impl_Branch_impl_Branch
 unfold L_slices_IndexFunc_impl_Branch_impl_Branch_for_impl_isNetwork_1 at h
 refine seqR ?_
 refine awp_seqC h (fun (_:Unit) S_=>S_=⟨mkTm [],mkOb (someL []),2⟩) ?_ ?_
 ·intro v_ h hk2
  refine seqR ?_
  refine awp_block_ ?_
  refine awp_loopL h (fun (l4_m8:Nat) S_=>S_=⟨mkTm [(0,(.tree (.pair .int (.pair .int .int)) a0)),(1,(.fn 63 [(.ref [(ai a1_0_0)]),(.ref [(ai a1_1_0),(.tree (.pair .int (.pair .int .int)) a1_1_1),(.tree .int a1_1_2),(.tree .int a1_1_3)])])),(7,(ai ((a0.length:Nat):Int))),(8,(ai ((l4_m8:Nat):Int)))],mkOb (someL []),2⟩) ⟨_,(weak_ren []),rfl⟩ ?_
  rintro n_ l4_m8 _ c_ rfl h hn4
  (try dsimp only at h)
  unfold L_slices_IndexFunc_impl_Branch_impl_Branch_for_impl_isNetwork_1_l1 at h
  unfold m_slices_IndexFunc_impl_Branch_impl_Branch_l1
  refine seqR ?_
  refine awp_seqv_ ?_
  rcases cond_some h with ⟨q7,h⟩ | ⟨q7,h⟩
  ·have q7_:=of_decide_eq_true q7
   refine awp_condT_ q7 ?_
   refine awp_skip_ (tn_ ?_)
   refine wr_ ?_
   refine awp_seqv_ ?_
   refine awp_block_ ?_
   refine seqR ?_
   refine awp_seqv_ ?_
   obtain ⟨x11,e11,h⟩:=ob_some h
   obtain ⟨y12,h12,h⟩:=ob_some h
   refine awp_region_ 11 ?_
   refine rz0 (.fn 63 [(.ref [(ai a1_0_0)]),(.ref [(ai a1_1_0),(.tree (.pair .int (.pair .int .int)) a1_1_1),(.tree .int a1_1_2),(.tree .int a1_1_3)])]) ?_
   refine rz0 (.tree (.pair .int (.pair .int .int)) a0) ?_
   refine rz0 (ai ((l4_m8:Nat):Int)) ?_
   refine rs0 (.telt (.pair .int (.pair .int .int)) x11 0) (zi (t:=(.pair .int (.pair .int .int))) (xs:=a0) (k:=.i64) (m:=((l4_m8:Nat):Int)) (nat_nn _) e11) ?_
   refine rz0 (.agg [(ai x11.1),(ai x11.2.1),(ai x11.2.2)]) ?_
   refine rcall (.bool y12) [] [(.agg [(ai x11.1),(ai x11.2.1),(ai x11.2.2)]),(.ref [(ai a1_0_0)]),(.ref [(ai a1_1_0),(.tree (.pair .int (.pair .int .int)) a1_1_1),(.tree .int a1_1_2),(.tree .int a1_1_3)])] _ (caps:=[(.ref [(ai a1_0_0)]),(.ref [(ai a1_1_0),(.tree (.pair .int (.pair .int .int)) a1_1_1),(.tree .int a1_1_2),(.tree .int a1_1_3)])]) (args0:=[(.agg [(ai x11.1),(ai x11.2.1),(ai x11.2.2)]),(.ref [(ai a1_0_0)]),(.ref [(ai a1_1_0),(.tree (.pair .int (.pair .int .int)) a1_1_1),(.tree .int a1_1_2),(.tree .int a1_1_3)])]) trivial (by kernel_rfl) (ok_impl_isNetwork_1 h12) hb_impl_isNetwork_1 ?_
   refine rnil (tn_ ?_)
   refine wr_ ?_
   rcases cond_some h with ⟨q13,h⟩ | ⟨q13,h⟩
   ·refine awp_condT_ q13 ?_
    refine seqR ?_
    refine awp_ret_ (br_ (tr_ (tr_ (br_ (tr_ ?_)))))
    obtain rfl:=zj h
    have h:=hn4
    (try dsimp only at h)
    obtain rfl:=zj h
    have h:=hk2
    (try dsimp only at h)
    obtain rfl:=zj h
    exact ret_ [(ai ((l4_m8:Nat):Int))] (p_one rfl zl p_nil)
   refine awp_condF_ q13 ?_
   refine awp_skip_ (bn_ (tn_ ?_))
   refine wr_ ?_
   obtain ⟨g15,h⟩:=og_some h
   refine awp_region_ 13 ?_
   refine rs0 (ai ((l4_m8+1:Nat):Int)) (za g15) ?_
   refine rsB 1 ?_
   refine rnil (tn_ ?_)
   obtain rfl:=zj h
   exact ⟨l4_m8+1,_,(weak_ren []),rfl,hn4⟩
  have q7_:=of_decide_eq_false q7
  refine awp_condF_ q7 ?_
  refine awp_exit_ (te_ (te_ (be_ (tn_ ?_))))
  obtain rfl:=zj h
  have h:=hn4
  (try dsimp only at h)
  obtain rfl:=zj h
  exact ⟨(),_,rfl,(weak_ren []),rfl⟩
 rintro _ _ rfl h
 (try dsimp only at h)
 refine seqR ?_
 refine awp_ret_ ?_
 obtain rfl:=zj h
 exact ret_ [(ai (-1))] (p_one rfl zl p_nil)
def m_slices_ContainsFunc_impl_Branch_impl_Branch:AC :=
 (.seq (rg [xo 4 (qm (cb false))])
 (.seq (rg [xo 5 (qm (tm 0)),xo 6 (qm (tm 1)),⟨(some 7),none,(qc 84 [(tm 5),(tm 6)] [[(some (.pair .int (.pair .int .int)))],[]])⟩,xo 8 (qb .geq (tm 7) (ci 0)),xo 4 (qm (tm 8))])
 .ret))
def r_slices_ContainsFunc_impl_Branch_impl_Branch:List Res:=[.tmp 4]
theorem c_slices_ContainsFunc_impl_Branch_impl_Branch:compiled Tryd.prog Tryd.f62=some (m_slices_ContainsFunc_impl_Branch_impl_Branch,r_slices_ContainsFunc_impl_Branch_impl_Branch):=by kernel_rfl
theorem hb_slices_ContainsFunc_impl_Branch_impl_Branch:hasBody Tryd.prog 62=true:=by kernel_rfl
def L_slices_ContainsFunc_impl_Branch_impl_Branch_for_impl_isNetwork_1 (a0:List (Int×Int×Int)) (a1_0_0:Int) (a1_1_0:Int) (a1_1_1:List (Int×Int×Int)) (a1_1_2:List Int) (a1_1_3:List Int):Option Bool :=
 Option.bind (L_slices_IndexFunc_impl_Branch_impl_Branch_for_impl_isNetwork_1 a0 a1_0_0 a1_1_0 a1_1_1 a1_1_2 a1_1_3) fun y3 =>
some (decide (0<=y3))
def rv_slices_ContainsFunc_impl_Branch_impl_Branch_for_impl_isNetwork_1 (r:Bool):RV:=⟨false,[(false,[.sc (.bool r)])]⟩
theorem ok_slices_ContainsFunc_impl_Branch_impl_Branch_for_impl_isNetwork_1 {a0:List (Int×Int×Int)} {a1_0_0:Int} {a1_1_0:Int} {a1_1_1:List (Int×Int×Int)} {a1_1_2:List Int} {a1_1_3:List Int} {r:Bool} (h:L_slices_ContainsFunc_impl_Branch_impl_Branch_for_impl_isNetwork_1 a0 a1_0_0 a1_1_0 a1_1_1 a1_1_2 a1_1_3=some r):CallOK Tryd.prog Tab 62 [(.tree (.pair .int (.pair .int .int)) a0),(.fn 63 [(.ref [(ai a1_0_0)]),(.ref [(ai a1_1_0),(.tree (.pair .int (.pair .int .int)) a1_1_1),(.tree .int a1_1_2),(.tree .int a1_1_3)])])] (rv_slices_ContainsFunc_impl_Branch_impl_Branch_for_impl_isNetwork_1 r):=by
 refine call_of_ (by kernel_rfl) Tryd.func62 c_slices_ContainsFunc_impl_Branch_impl_Branch (n:=9) (by kernel_rfl) (by simp) (tl:=[(0,(.tree (.pair .int (.pair .int .int)) a0)),(1,(.fn 63 [(.ref [(ai a1_0_0)]),(.ref [(ai a1_1_0),(.tree (.pair .int (.pair .int .int)) a1_1_1),(.tree .int a1_1_2),(.tree .int a1_1_3)])]))]) rfl ?_
 unfold m_slices_ContainsFunc_impl_Branch_impl_Branch
 unfold L_slices_ContainsFunc_impl_Branch_impl_Branch_for_impl_isNetwork_1 at h
 refine seqR ?_
 refine awp_seqv_ ?_
 obtain ⟨y3,h3,h⟩:=ob_some h
 refine awp_region_ 7 ?_
 refine rz0 (.tree (.pair .int (.pair .int .int)) a0) ?_
 refine rz0 (.fn 63 [(.ref [(ai a1_0_0)]),(.ref [(ai a1_1_0),(.tree (.pair .int (.pair .int .int)) a1_1_1),(.tree .int a1_1_2),(.tree .int a1_1_3)])]) ?_
 refine zc (ai y3) [] [(.tree (.pair .int (.pair .int .int)) a0),(.fn 63 [(.ref [(ai a1_0_0)]),(.ref [(ai a1_1_0),(.tree (.pair .int (.pair .int .int)) a1_1_1),(.tree .int a1_1_2),(.tree .int a1_1_3)])])] (ok_slices_IndexFunc_impl_Branch_impl_Branch_for_impl_isNetwork_1 h3) ?_
 refine rsB 2 ?_
 refine rnil (tn_ ?_)
 refine wr_ ?_
 refine awp_ret_ ?_
 obtain rfl:=zj h
 exact ret_ [(.bool (decide (0<=y3)))] (p_one rfl zl p_nil)
def m_impl_isNetwork:AC :=
 (.seq (rg [xo 2 (.i (.box 3 (tm 0))),xo 3 (.i (.box 34 (tm 1))),xo 4 (qm (cb false))])
 (.seq (.seq (rg [xo 5 (ql (tm 2)),xo 6 (qc 59 [(tm 5)] [[]]),xo 7 (.i (.not (tm 6))),xo 8 (qm (tm 7)),⟨(some 9),(some (8,false)),(qf 0 (tm 3))⟩,⟨(some 10),(some (8,false)),(ql (tm 9))⟩,⟨(some 11),(some (8,false)),(qc 60 [(tm 10),(ci 1),(ci 20)] [[],[],[]])⟩,⟨(some 12),(some (8,false)),(.i (.not (tm 11)))⟩,xo 13 (.i (.pick (tm 8) (cb true) (tm 12))),xo 14 (qm (tm 13)),⟨(some 15),(some (14,false)),(qf 1 (tm 3))⟩,⟨(some 16),(some (14,false)),(ql (tm 15))⟩,⟨(some 17),(some (14,false)),(.i (.len (tm 16)))⟩,⟨(some 18),(some (14,false)),(qb .gtr (tm 17) (ci 60))⟩,xo 19 (.i (.pick (tm 14) (cb true) (tm 18))),xo 20 (qm (tm 19)),⟨(some 21),(some (20,false)),(qf 2 (tm 3))⟩,⟨(some 22),(some (20,false)),(ql (tm 21))⟩,⟨(some 23),(some (20,false)),(.i (.len (tm 22)))⟩,⟨(some 24),(some (20,false)),(qb .gtr (tm 23) (ci 6))⟩,xo 25 (.i (.pick (tm 20) (cb true) (tm 24))),xo 26 (qm (tm 25)),⟨(some 27),(some (26,false)),(qf 3 (tm 3))⟩,⟨(some 28),(some (26,false)),(ql (tm 27))⟩,⟨(some 29),(some (26,false)),(.i (.len (tm 28)))⟩,⟨(some 30),(some (26,false)),(qb .gtr (tm 29) (ci 6))⟩,xo 31 (.i (.pick (tm 26) (cb true) (tm 30)))])
 (.cond (tm 31)
  (.seq (rg [xo 4 (qm (cb false))])
  .ret)
  .skip))
 (.seq (.seq (rg [xo 32 (qf 2 (tm 3)),xo 33 (ql (tm 32)),xo 34 (qf 0 (tm 3)),xo 35 (ql (tm 34)),xo 36 (qc 61 [(tm 33),(tm 35)] [[(some .int)],[]]),xo 37 (.i (.not (tm 36))),xo 38 (qm (tm 37)),⟨(some 39),(some (38,false)),(qf 3 (tm 3))⟩,⟨(some 40),(some (38,false)),(ql (tm 39))⟩,⟨(some 41),(some (38,false)),(qf 0 (tm 3))⟩,⟨(some 42),(some (38,false)),(ql (tm 41))⟩,⟨(some 43),(some (38,false)),(qc 61 [(tm 40),(tm 42)] [[(some .int)],[]])⟩,⟨(some 44),(some (38,false)),(.i (.not (tm 43)))⟩,xo 45 (.i (.pick (tm 38) (cb true) (tm 44)))])
 (.cond (tm 45)
  (.seq (rg [xo 4 (qm (cb false))])
  .ret)
  .skip))
 (.seq (rg [xo 46 (qf 1 (tm 3)),xo 47 (ql (tm 46)),xo 48 (.i (.mkfn 63 [(tm 2),(tm 3)])),⟨(some 49),none,(qc 62 [(tm 47),(tm 48)] [[(some (.pair .int (.pair .int .int)))],[]])⟩,xo 50 (.i (.not (tm 49))),xo 4 (qm (tm 50))])
 .ret))))
def r_impl_isNetwork:List Res:=[.tmp 4]
theorem c_impl_isNetwork:compiled Tryd.prog Tryd.f25=some (m_impl_isNetwork,r_impl_isNetwork):=by kernel_rfl
def L_impl_isNetwork (a0:Int) (a1_0:Int) (a1_1:List (Int×Int×Int)) (a1_2:List Int) (a1_3:List Int):Option Bool :=
 Option.bind (Option.bind (L_impl_isField a0) fun y4 =>
 cond (!y4)
  (some true)
  (Option.bind (L_impl_within a1_0 1 20) fun y6 =>
  cond (!y6)
   (some true)
   (cond (decide (60<((a1_1.length:Nat):Int)))
    (some true)
    (cond (decide (6<((a1_2.length:Nat):Int)))
     (some true)
     (some (decide (6<((a1_3.length:Nat):Int)))))))) fun l3_m31 =>
cond l3_m31
 (some false)
 (Option.bind (Option.bind (L_impl_areBelow a1_2 a1_0) fun y14 =>
  cond (!y14)
   (some true)
   (Option.bind (L_impl_areBelow a1_3 a1_0) fun y16 =>
   some (!y16))) fun l13_m45 =>
 cond l13_m45
  (some false)
  (Option.bind (L_slices_ContainsFunc_impl_Branch_impl_Branch_for_impl_isNetwork_1 a1_1 a0 a1_0 a1_1 a1_2 a1_3) fun y20 =>
  some (!y20)))
def rv_impl_isNetwork (r:Bool):RV:=⟨false,[(false,[.sc (.bool r)])]⟩
set_option maxHeartbeats 1600000 in
theorem ok_impl_isNetwork {a0:Int} {a1_0:Int} {a1_1:List (Int×Int×Int)} {a1_2:List Int} {a1_3:List Int} {r:Bool} (h:L_impl_isNetwork a0 a1_0 a1_1 a1_2 a1_3=some r):CallOK Tryd.prog Tab 25 [(ai a0),(.agg [(ai a1_0),(.tree (.pair .int (.pair .int .int)) a1_1),(.tree .int a1_2),(.tree .int a1_3)])] (rv_impl_isNetwork r):=by
 refine call_of_ (by kernel_rfl) Tryd.func25 c_impl_isNetwork (n:=51) (by kernel_rfl) (by simp) (tl:=[(0,(ai a0)),(1,(.agg [(ai a1_0),(.tree (.pair .int (.pair .int .int)) a1_1),(.tree .int a1_2),(.tree .int a1_3)]))]) rfl ?_
 unfold m_impl_isNetwork
 unfold L_impl_isNetwork at h
 refine seqR ?_
 refine awp_seqv_ ?_
 refine awp_seqB h (fun (l3_m31:Bool) S_=>S_=⟨mkTm [(2,(.box (oi 0 1) 0)),(3,(.box (oi 1 1) 0)),(31,(.bool l3_m31))],mkOb (someL [((oi 0 1),.cells 3 [(ai a0)]),((oi 1 1),.cells 34 [(ai a1_0),(.tree (.pair .int (.pair .int .int)) a1_1),(.tree .int a1_2),(.tree .int a1_3)])]),2⟩) ?_ ?_
 ·intro v_ h
  obtain ⟨y4,h4,h⟩:=ob_some h
  rcases cond_some h with ⟨q5,h⟩ | ⟨q5,h⟩
  ·refine awp_region_ 31 ?_
   refine rzl (ai a0) ?_
   refine zc (.bool y4) [] [(ai a0)] (ok_impl_isField h4) ?_
   refine rz0 (.bool (!y4)) ?_
   refine rz0 (.bool (!y4)) ?_
   refine zs q5 ?_
   refine zs q5 ?_
   refine zs q5 ?_
   refine zs q5 ?_
   refine rs0 (.bool true) (zT q5) ?_
   refine rsB 18 ?_
   refine rnil (tn_ ?_)
   obtain rfl:=zj h
   exact ⟨_,(weak_ren [((oi 0 1),(oi 2 1)),((oi 1 1),(oi 3 2))]),rfl⟩
  obtain ⟨y6,h6,h⟩:=ob_some h
  rcases cond_some h with ⟨q7,h⟩ | ⟨q7,h⟩
  ·refine awp_region_ 31 ?_
   refine rzl (ai a0) ?_
   refine zc (.bool y4) [] [(ai a0)] (ok_impl_isField h4) ?_
   refine rz0 (.bool (!y4)) ?_
   refine rz0 (.bool (!y4)) ?_
   refine rs0 (.box (oi 3 2) 0) (zg q5) ?_
   refine rsl (ai a1_0) (zg q5) ?_
   refine rcall (.bool y6) [] [(ai a1_0),(ai 1),(ai 20)] _ (caps:=[]) (args0:=[(ai a1_0),(ai 1),(ai 20)]) (gdOK_b (by kernel_rfl) q5) (by kernel_rfl) (ok_impl_within h6) hb_impl_within ?_
   refine rs0 (.bool (!y6)) (zg q5) ?_
   refine rs0 (.bool (!y6)) (zF q5) ?_
   refine rz0 (.bool (!y6)) ?_
   refine zs q7 ?_
   refine zs q7 ?_
   refine zs q7 ?_
   refine zs q7 ?_
   refine rs0 (.bool true) (zT q7) ?_
   refine rsB 12 ?_
   refine rnil (tn_ ?_)
   obtain rfl:=zj h
   exact ⟨_,(weak_ren [((oi 0 1),(oi 2 1)),((oi 1 1),(oi 3 2))]),rfl⟩
  rcases cond_some h with ⟨q8,h⟩ | ⟨q8,h⟩
  ·have q8_:=of_decide_eq_true q8
   refine awp_region_ 31 ?_
   refine rzl (ai a0) ?_
   refine zc (.bool y4) [] [(ai a0)] (ok_impl_isField h4) ?_
   refine rz0 (.bool (!y4)) ?_
   refine rz0 (.bool (!y4)) ?_
   refine rs0 (.box (oi 3 2) 0) (zg q5) ?_
   refine rsl (ai a1_0) (zg q5) ?_
   refine rcall (.bool y6) [] [(ai a1_0),(ai 1),(ai 20)] _ (caps:=[]) (args0:=[(ai a1_0),(ai 1),(ai 20)]) (gdOK_b (by kernel_rfl) q5) (by kernel_rfl) (ok_impl_within h6) hb_impl_within ?_
   refine rs0 (.bool (!y6)) (zg q5) ?_
   refine rs0 (.bool (!y6)) (zF q5) ?_
   refine rz0 (.bool (!y6)) ?_
   refine rs0 (.box (oi 3 2) 1) (zg q7) ?_
   refine rsl (.tree (.pair .int (.pair .int .int)) a1_1) (zg q7) ?_
   refine rs0 (ai ((a1_1.length:Nat):Int)) (zg q7) ?_
   refine rs0 (.bool (decide (60<((a1_1.length:Nat):Int)))) (zg q7) ?_
   refine rs0 (.bool (decide (60<((a1_1.length:Nat):Int)))) (zF q7) ?_
   refine rz0 (.bool (decide (60<((a1_1.length:Nat):Int)))) ?_
   refine zs q8 ?_
   refine zs q8 ?_
   refine zs q8 ?_
   refine zs q8 ?_
   refine rs0 (.bool true) (zT q8) ?_
   refine rsB 6 ?_
   refine rnil (tn_ ?_)
   obtain rfl:=zj h
   exact ⟨_,(weak_ren [((oi 0 1),(oi 2 1)),((oi 1 1),(oi 3 2))]),rfl⟩
  have q8_:=of_decide_eq_false q8
  rcases cond_some h with ⟨q9,h⟩ | ⟨q9,h⟩
  ·have q9_:=of_decide_eq_true q9
   refine awp_region_ 31 ?_
   refine rzl (ai a0) ?_
   refine zc (.bool y4) [] [(ai a0)] (ok_impl_isField h4) ?_
   refine rz0 (.bool (!y4)) ?_
   refine rz0 (.bool (!y4)) ?_
   refine rs0 (.box (oi 3 2) 0) (zg q5) ?_
   refine rsl (ai a1_0) (zg q5) ?_
   refine rcall (.bool y6) [] [(ai a1_0),(ai 1),(ai 20)] _ (caps:=[]) (args0:=[(ai a1_0),(ai 1),(ai 20)]) (gdOK_b (by kernel_rfl) q5) (by kernel_rfl) (ok_impl_within h6) hb_impl_within ?_
   refine rs0 (.bool (!y6)) (zg q5) ?_
   refine rs0 (.bool (!y6)) (zF q5) ?_
   refine rz0 (.bool (!y6)) ?_
   refine rs0 (.box (oi 3 2) 1) (zg q7) ?_
   refine rsl (.tree (.pair .int (.pair .int .int)) a1_1) (zg q7) ?_
   refine rs0 (ai ((a1_1.length:Nat):Int)) (zg q7) ?_
   refine rs0 (.bool (decide (60<((a1_1.length:Nat):Int)))) (zg q7) ?_
   refine rs0 (.bool (decide (60<((a1_1.length:Nat):Int)))) (zF q7) ?_
   refine rz0 (.bool (decide (60<((a1_1.length:Nat):Int)))) ?_
   refine rs0 (.box (oi 3 2) 2) (zg q8) ?_
   refine rsl (.tree .int a1_2) (zg q8) ?_
   refine rs0 (ai ((a1_2.length:Nat):Int)) (zg q8) ?_
   refine rs0 (.bool (decide (6<((a1_2.length:Nat):Int)))) (zg q8) ?_
   refine rs0 (.bool (decide (6<((a1_2.length:Nat):Int)))) (zF q8) ?_
   refine rz0 (.bool (decide (6<((a1_2.length:Nat):Int)))) ?_
   refine zs q9 ?_
   refine zs q9 ?_
   refine zs q9 ?_
   refine zs q9 ?_
   refine rs0 (.bool true) (zT q9) ?_
   refine rnil (tn_ ?_)
   obtain rfl:=zj h
   exact ⟨_,(weak_ren [((oi 0 1),(oi 2 1)),((oi 1 1),(oi 3 2))]),rfl⟩
  have q9_:=of_decide_eq_false q9
  refine awp_region_ 31 ?_
  refine rzl (ai a0) ?_
  refine zc (.bool y4) [] [(ai a0)] (ok_impl_isField h4) ?_
  refine rz0 (.bool (!y4)) ?_
  refine rz0 (.bool (!y4)) ?_
  refine rs0 (.box (oi 3 2) 0) (zg q5) ?_
  refine rsl (ai a1_0) (zg q5) ?_
  refine rcall (.bool y6) [] [(ai a1_0),(ai 1),(ai 20)] _ (caps:=[]) (args0:=[(ai a1_0),(ai 1),(ai 20)]) (gdOK_b (by kernel_rfl) q5) (by kernel_rfl) (ok_impl_within h6) hb_impl_within ?_
  refine rs0 (.bool (!y6)) (zg q5) ?_
  refine rs0 (.bool (!y6)) (zF q5) ?_
  refine rz0 (.bool (!y6)) ?_
  refine rs0 (.box (oi 3 2) 1) (zg q7) ?_
  refine rsl (.tree (.pair .int (.pair .int .int)) a1_1) (zg q7) ?_
  refine rs0 (ai ((a1_1.length:Nat):Int)) (zg q7) ?_
  refine rs0 (.bool (decide (60<((a1_1.length:Nat):Int)))) (zg q7) ?_
  refine rs0 (.bool (decide (60<((a1_1.length:Nat):Int)))) (zF q7) ?_
  refine rz0 (.bool (decide (60<((a1_1.length:Nat):Int)))) ?_
  refine rs0 (.box (oi 3 2) 2) (zg q8) ?_
  refine rsl (.tree .int a1_2) (zg q8) ?_
  refine rs0 (ai ((a1_2.length:Nat):Int)) (zg q8) ?_
  refine rs0 (.bool (decide (6<((a1_2.length:Nat):Int)))) (zg q8) ?_
  refine rs0 (.bool (decide (6<((a1_2.length:Nat):Int)))) (zF q8) ?_
  refine rz0 (.bool (decide (6<((a1_2.length:Nat):Int)))) ?_
  refine rs0 (.box (oi 3 2) 3) (zg q9) ?_
  refine rsl (.tree .int a1_3) (zg q9) ?_
  refine rs0 (ai ((a1_3.length:Nat):Int)) (zg q9) ?_
  refine rs0 (.bool (decide (6<((a1_3.length:Nat):Int)))) (zg q9) ?_
  refine rs0 (.bool (decide (6<((a1_3.length:Nat):Int)))) (zF q9) ?_
  refine rnil (tn_ ?_)
  obtain rfl:=zj h
  exact ⟨_,(weak_ren [((oi 0 1),(oi 2 1)),((oi 1 1),(oi 3 2))]),rfl⟩
 rintro l3_m31 _ rfl h
 (try dsimp only at h)
 rcases cond_some h with ⟨q10,h⟩ | ⟨q10,h⟩
 ·refine awp_condT_ q10 ?_
  refine seqR ?_
  refine awp_ret_ (tr_ ?_)
  obtain rfl:=zj h
  exact ret_ [(.bool false)] (p_one rfl zl p_nil)
 refine awp_condF_ q10 ?_
 refine awp_skip_ (tn_ ?_)
 refine wr_ ?_
 refine awp_seqv_ ?_
 refine awp_seqB h (fun (l13_m45:Bool) S_=>S_=⟨mkTm [(2,(.box (oi 0 1) 0)),(3,(.box (oi 1 1) 0)),(45,(.bool l13_m45))],mkOb (someL [((oi 0 1),.cells 3 [(ai a0)]),((oi 1 1),.cells 34 [(ai a1_0),(.tree (.pair .int (.pair .int .int)) a1_1),(.tree .int a1_2),(.tree .int a1_3)])]),2⟩) ?_ ?_
 ·intro v_ h
  obtain ⟨y14,h14,h⟩:=ob_some h
  rcases cond_some h with ⟨q15,h⟩ | ⟨q15,h⟩
  ·refine awp_region_ 16 ?_
   refine rz0 (.box (oi 1 1) 2) ?_
   refine rzl (.tree .int a1_2) ?_
   refine rz0 (.box (oi 1 1) 0) ?_
   refine rzl (ai a1_0) ?_
   refine zc (.bool y14) [] [(.tree .int a1_2),(ai a1_0)] (ok_impl_areBelow h14) ?_
   refine rz0 (.bool (!y14)) ?_
   refine rz0 (.bool (!y14)) ?_
   refine zs q15 ?_
   refine zs q15 ?_
   refine zs q15 ?_
   refine zs q15 ?_
   refine zs q15 ?_
   refine zs q15 ?_
   refine rs0 (.bool true) (zT q15) ?_
   refine rnil (tn_ ?_)
   obtain rfl:=zj h
   exact ⟨_,(weak_ren []),rfl⟩
  obtain ⟨y16,h16,h⟩:=ob_some h
  refine awp_region_ 16 ?_
  refine rz0 (.box (oi 1 1) 2) ?_
  refine rzl (.tree .int a1_2) ?_
  refine rz0 (.box (oi 1 1) 0) ?_
  refine rzl (ai a1_0) ?_
  refine zc (.bool y14) [] [(.tree .int a1_2),(ai a1_0)] (ok_impl_areBelow h14) ?_
  refine rz0 (.bool (!y14)) ?_
  refine rz0 (.bool (!y14)) ?_
  refine rs0 (.box (oi 1 1) 3) (zg q15) ?_
  refine rsl (.tree .int a1_3) (zg q15) ?_
  refine rs0 (.box (oi 1 1) 0) (zg q15) ?_
  refine rsl (ai a1_0) (zg q15) ?_
  refine rcall (.bool y16) [] [(.tree .int a1_3),(ai a1_0)] _ (caps:=[]) (args0:=[(.tree .int a1_3),(ai a1_0)]) (gdOK_b (by kernel_rfl) q15) (by kernel_rfl) (ok_impl_areBelow h16) hb_impl_areBelow ?_
  refine rs0 (.bool (!y16)) (zg q15) ?_
  refine rs0 (.bool (!y16)) (zF q15) ?_
  refine rnil (tn_ ?_)
  obtain rfl:=zj h
  exact ⟨_,(weak_ren []),rfl⟩
 rintro l13_m45 _ rfl h
 (try dsimp only at h)
 rcases cond_some h with ⟨q17,h⟩ | ⟨q17,h⟩
 ·refine awp_condT_ q17 ?_
  refine seqR ?_
  refine awp_ret_ (tr_ ?_)
  obtain rfl:=zj h
  exact ret_ [(.bool false)] (p_one rfl zl p_nil)
 refine awp_condF_ q17 ?_
 refine awp_skip_ (tn_ ?_)
 refine wr_ ?_
 refine awp_seqv_ ?_
 obtain ⟨y20,h20,h⟩:=ob_some h
 refine awp_region_ 8 ?_
 refine rz0 (.box (oi 1 1) 1) ?_
 refine rzl (.tree (.pair .int (.pair .int .int)) a1_1) ?_
 refine rz0 (.fn 63 [(.box (oi 0 1) 0),(.box (oi 1 1) 0)]) ?_
 refine rcall (.bool y20) [] [(.tree (.pair .int (.pair .int .int)) a1_1),(.fn 63 [(.box (oi 0 1) 0),(.box (oi 1 1) 0)])] _ (caps:=[]) (args0:=[(.tree (.pair .int (.pair .int .int)) a1_1),(.fn 63 [(.ref [(ai a0)]),(.ref [(ai a1_0),(.tree (.pair .int (.pair .int .int)) a1_1),(.tree .int a1_2),(.tree .int a1_3)])])]) trivial (by kernel_rfl) (ok_slices_ContainsFunc_impl_Branch_impl_Branch_for_impl_isNetwork_1 h20) hb_slices_ContainsFunc_impl_Branch_impl_Branch ?_
 refine rsB 2 ?_
 refine rnil (tn_ ?_)
 refine wr_ ?_
 refine awp_ret_ ?_
 obtain rfl:=zj h
 exact ret_ [(.bool (!y20))] (p_one rfl zl p_nil)
end Go.Proofs.YtkaollfdhoaihaaDoor
namespace Go.Proofs.YtkaollfdhoaihaaDoor
open Go.RowKit Go.Deep
theorem rd_kid {f:Nat->AV} {ob:Oid->Option Ob} {d:Option Nat} {gd:Option (Nat×Bool)} {fo y:Opd} {ys:List Opd} {tys:List (List (Option Ty))} {i p:Oid} {t u:Ty} {off len z m k:Nat} {e1:TypeId} {xss:List (List u.D)} (n:Nat) (hy:ys[n]? =some y) (he:y.ev f=.own i t off len) (hob:ob i=some (.vec e1 z m (hdL p u xss))) (hk:k<xss.length):kid p k∈rdX f ob ⟨d,gd,.call fo ys tys⟩:=by
 refine List.mem_flatMap.2 ⟨y,List.mem_cons_of_mem _ (List.mem_of_getElem? hy),?_⟩
 rw [he]
 show kid p k∈deepT ob (7+1) (.own i t off len)
 unfold deepT
 dsimp only
 rw [hob]
 refine List.mem_cons_of_mem _ (List.mem_flatMap.2 ⟨.own (kid p k) u 0 xss[k].length,List.mem_of_getElem? (i:=k) (by rw [hdL_get,List.getElem?_eq_getElem hk]; rfl),?_⟩)
 exact List.mem_singleton.2 rfl
theorem pool_rowsD {f:Nat->AV} {ob:Oid->Option Ob} {d:Option Nat} {gd:Option (Nat×Bool)} {fo y:Opd} {ys:List Opd} {tys:List (List (Option Ty))} {i p:Oid} {t u:Ty} {off len z m:Nat} {e e1:TypeId} {xss:List (List u.D)} (n:Nat) (hy:ys[n]? =some y) (he:y.ev f=.own i t off len) (hob:ob i=some (.vec e1 z m (hdL p u xss))) (hr:∀ (k:Nat) (row:List u.D),xss[k]? =some row->ob (kid p k)=some (.arr e u row)) (k:Nat) (row:List u.D) (h:xss[k]? =some row):only (rdX f ob ⟨d,gd,.call fo ys tys⟩) ob (kid p k)=some (.arr e u row):=(only_in (rd_kid n hy he hob (List.getElem?_eq_some_iff.1 h).1)).trans (hr k row h)
end Go.Proofs.YtkaollfdhoaihaaDoor
namespace Go.Proofs.YtkaollfdhoaihaaDoor
open Go.RowKit Go.Deep
section
variable {n:Nat} {d:Option Nat} {f:Nat->AV} {ob:Oid->Option Ob}
end
end Go.Proofs.YtkaollfdhoaihaaDoor
