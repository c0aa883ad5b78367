/- Lemmas on the program and on partial functions that stand in place of its code (part 7); no condition beyond those that each one states. -/
import Derived.Test.YtkaollfdhoaihaaDoorZ6
namespace Go.Proofs.YtkaollfdhoaihaaDoor
open Go.RowKit Go.Deep
set_option maxRecDepth 4000
def m_spec_mxZero_l1:AC :=
 (.seq (rg [xo 15 (qb .lss (tm 14) (tm 13))])
 (.seq (.cond (tm 15)
  .skip
  (.exit 0))
 (.seq (.block 1 (.seq (rg [xo 16 (qm (tm 14)),xo 6 (qm (tm 16))])
 (.region [xo 17 (qf 1 (tm 5)),xo 18 (ql (tm 17)),xo 19 (qm (tm 6)),xo 20 (qm (tm 1)),xo 21 (.make 3 .int 8 (tm 20) (tm 20)),xo 22 (qx 1 (tm 18) (tm 19)),xn (qs (tm 22) (tm 21))] true [])))
 (rg [xo 23 (qb .add (tm 14) (ci 1)),xo 14 (qm (tm 23))]))))
def m_spec_mxZero:AC :=
 (.seq (rg [xo 4 (.i (.alloc 64 [(.int .i64 0),.nils]))])
 (.seq (rg [xo 7 (qm (tm 1)),xo 8 (qm (tm 0)),xo 9 (.makeV 23 (.slice .int) 24 [.nils] (tm 8) (tm 8)),xo 10 (.build [(.int .i64 0),.nils] [(0,1,(tm 7)),(1,1,(tm 9))]),xo 5 (.i (.alloc 64 [(.int .i64 0),.nils])),xn (.st false 2 (tm 5) (tm 10))])
 (.seq (.seq (rg [xo 11 (qf 1 (tm 5)),xo 12 (ql (tm 11)),xo 13 (.i (.len (tm 12))),xo 14 (qm (ci 0))])
 (.block 0 (.loop m_spec_mxZero_l1)))
 (.seq (rg [xo 24 (.i (.ld false 2 (tm 5))),xn (.st false 2 (tm 4) (tm 24))])
 .ret))))
def r_spec_mxZero:List Res:=[.cell 4 false 2]
theorem c_spec_mxZero:compiled Tryd.prog Tryd.f77=some (m_spec_mxZero,r_spec_mxZero):=by kernel_rfl
theorem hb_spec_mxZero:hasBody Tryd.prog 77=true:=by kernel_rfl
def L_spec_mxZero_l1 (a0:Int) (a1:Int) (l7_m14:Nat) (l7_m5_1:List (List Int)):Option (Ctl (Nat×List (List Int)) (List (List Int))) :=
 cond (decide (((l7_m14:Nat):Int)<((a0.toNat:Nat):Int)))
 (og (0<=a1∧a1<=a1∧a1<=1073741824∧(8:Int)*a1<=140737488355328) <|
 Option.bind (l7_m5_1[l7_m14]?) fun x14 =>
 og (l7_m14+1<4611686018427387904) <|
 some (Ctl.next (l7_m14+1,l7_m5_1.set l7_m14 (List.replicate a1.toNat (0:Int)))))
 (some (Ctl.out l7_m5_1))
def L_spec_mxZero (a0:Int) (a1:Int):Option (List (List Int)) :=
 og (0<=a0∧a0<=a0∧a0<=1073741824∧(24:Int)*a0<=140737488355328) <|
Option.bind (loopM (fun s_:Nat×List (List Int)=>L_spec_mxZero_l1 a0 a1 s_.1 s_.2) 4611686018427387904 (0,List.replicate a0.toNat ([]:List Int))) fun l5_m5_1 =>
some l5_m5_1
theorem ok_spec_mxZero {a0:Int} {a1:Int} {r:List (List Int)} (h:L_spec_mxZero a0 a1=some r):CallM Tryd.prog Tab 77 [(ai a0),(ai a1)] [] (.agg [(ai a1),(.own (oi 1 1) (.slice .int) 0 r.length)]) [((oi 0 1),.cells 64 [(ai a1),(.own (oi 1 1) (.slice .int) 0 r.length)]),((oi 1 1),.mat 23 (oi 2 1) .int r),((oi 2 1),.pool 3 .int r)]:=by
 refine callM_of_ (by kernel_rfl) Tryd.func77 c_spec_mxZero (n:=25) (by kernel_rfl) (by simp) (tl:=[(0,(ai a0)),(1,(ai a1))]) rfl (by kernel_rfl) trivial ⟨trivial,⟨⟨3,(.tail _ (.tail _ (.head _)))⟩,⟨trivial,trivial⟩⟩⟩ ?_
 unfold m_spec_mxZero
 unfold L_spec_mxZero at h
 refine seqR ?_
 refine awp_seqv_ ?_
 obtain ⟨g4,h⟩:=og_some h
 refine awp_region_ 8 ?_
 refine rz0 (ai a1) ?_
 refine rz0 (ai a0) ?_
 refine rmakeM (.own (oi 144 4) (.slice .int) 0 a0.toNat) (oi 144 4) 23 3 .int (List.replicate a0.toNat ([]:List Int)) trivial (s_makeM (j:=a0.toNat) (k:=.i64) (k':=.i64) (m:=a0) (c:=a0) 3 (by kernel_rfl) (by kernel_rfl) g4 (by kernel_rfl) rfl) (by kernel_rfl) (by rw [List.length_replicate]) (by kernel_rfl) ?_
 refine rsB 3 ?_
 refine rnil (tn_ ?_)
 refine wr_ ?_
 refine awp_seqB h (fun (l5_m5_1:List (List Int)) S_=>S_=⟨mkTm [(4,(.box (oi 0 1) 0)),(5,(.box (oi 1 1) 0))],mkOb (someL [((oi 0 1),.cells 64 [(ai 0),.nils]),((oi 1 1),.cells 64 [(ai a1),(.own (oi 2 1) (.slice .int) 0 l5_m5_1.length)]),((oi 2 1),.mat 23 (oi 3 1) .int l5_m5_1),((oi 3 1),.pool 3 .int l5_m5_1)]),2⟩) ?_ ?_
 ·intro v_ h
  refine seqR ?_
  refine awp_block_ ?_
  refine awp_loopL h (fun t_ S_=>∃ (l7_m14:Nat),∃ (l7_m5_1:List (List Int)),t_=(l7_m14,l7_m5_1)∧S_=⟨mkTm [(1,(ai a1)),(4,(.box (oi 0 1) 0)),(5,(.box (oi 1 1) 0)),(13,(ai ((a0.toNat:Nat):Int))),(14,(ai ((l7_m14:Nat):Int)))],mkOb (someL [((oi 0 1),.cells 64 [(ai 0),.nils]),((oi 1 1),.cells 64 [(ai a1),(.own (oi 2 1) (.slice .int) 0 l7_m5_1.length)]),((oi 2 1),.mat 23 (oi 3 1) .int l7_m5_1),((oi 3 1),.pool 3 .int l7_m5_1)]),2⟩) ⟨_,((weak_ob_ (oi 5 6) (.cells 64 [(ai a1),(.own (oi 144 4) (.slice .int) 0 a0.toNat)]) (.cells 64 [(ai a1),(.own (oi 144 4) (.slice .int) 0 ((List.replicate a0.toNat ([]:List Int)).length))]) (by kernel_rfl) (congrArg (fun z_=>(.cells 64 [(ai a1),(.own (oi 144 4) (.slice .int) 0 z_)]:Ob)) (List.length_replicate.symm:a0.toNat=(List.replicate a0.toNat ([]:List Int)).length))).trans (weak_ren [((oi 0 1),(oi 4 1)),((oi 1 1),(oi 5 6)),((oi 2 1),(oi 144 4)),((oi 3 1),(oi 144 4))])),⟨0,List.replicate a0.toNat ([]:List Int),rfl,rfl⟩⟩ ?_
  rintro n_ _ _ c_ ⟨l7_m14,l7_m5_1,rfl,rfl⟩ h hn7
  (try dsimp only at h)
  unfold L_spec_mxZero_l1 at h
  unfold m_spec_mxZero_l1
  refine seqR ?_
  refine awp_seqv_ ?_
  rcases cond_some h with ⟨q10,h⟩ | ⟨q10,h⟩
  ·have q10_:=of_decide_eq_true q10
   refine awp_condT_ q10 ?_
   refine awp_skip_ (tn_ ?_)
   refine wr_ ?_
   refine awp_seqv_ ?_
   refine awp_block_ ?_
   refine seqR ?_
   obtain ⟨g13,h⟩:=og_some h
   obtain ⟨x14,e14,h⟩:=ob_some h
   refine awp_regionD_ 12 ?_
   refine dz0 (.box (oi 1 1) 1) ?_
   refine dzl (.own (oi 2 1) (.slice .int) 0 l7_m5_1.length) ?_
   refine dz0 (ai ((l7_m14:Nat):Int)) ?_
   refine dz0 (ai a1) ?_
   refine ds1 (.own (oi 21 9) .int 0 a1.toNat) (oi 21 9) (.arr 3 .int (List.replicate a1.toNat (0:Int))) (s_make (t:=.int) (k:=.i64) (k':=.i64) (m:=a1) (m':=a1) (by kernel_rfl) (by kernel_rfl) g13 rfl) ?_
   refine ds0 (.elt (oi 2 1) l7_m14 0) (zo (t:=(.slice .int)) (o:=(oi 2 1)) (len:=l7_m5_1.length) (k:=.i64) (m:=((l7_m14:Nat):Int)) (nat_nn _) (getN_lt e14)) ?_
   refine dsn2 (oi 2 1) (oi 2 1) (.vec 23 1 l7_m5_1.length ((hdL (oi 3 1) .int l7_m5_1).set l7_m14 (.own (oi 21 9) .int 0 a1.toNat))) (s_stV (o:=(oi 2 1)) (e1:=23) (m:=l7_m5_1.length) (cs:=hdL (oi 3 1) .int l7_m5_1) (v:=(.own (oi 21 9) .int 0 a1.toNat)) (j:=l7_m14) (by kernel_rfl) (by kernel_rfl) (by kernel_rfl) rfl (by rw [hdL_len]; exact getN_lt e14)) ?_
   refine dnil (badB_spec (by kernel_rfl)) (bn_ (tn_ ?_))
   refine ⟨_,weak_set_ (e1:=23) (e:=3) (u:=.int) (n:=l7_m5_1.length) (len:=a1.toNat) (row:=List.replicate a1.toNat (0:Int)) (ys:=List.replicate a1.toNat (0:Int)) (xss:=l7_m5_1) (j:=l7_m14) 9000 (oi 2 1) (oi 3 1) (oi 21 9) (by kernel_rfl) (by kernel_rfl) rfl (by kernel_rfl) (by kernel_rfl) (tw_le List.length_replicate.symm) (tw_eq List.length_replicate.symm) (by kernel_rfl) (by kernel_rfl) (by kernel_rfl),?_⟩
   obtain ⟨g15,h⟩:=og_some h
   refine awp_region_ 15 ?_
   refine rs0 (ai ((l7_m14+1:Nat):Int)) (za g15) ?_
   refine rsB 1 ?_
   refine rnil (tn_ ?_)
   obtain rfl:=zj h
   exact ⟨(l7_m14+1,l7_m5_1.set l7_m14 (List.replicate a1.toNat (0:Int))),_,((weak_ob_ (oi 1 1) (.cells 64 [(ai a1),(.own (oi 2 1) (.slice .int) 0 l7_m5_1.length)]) (.cells 64 [(ai a1),(.own (oi 2 1) (.slice .int) 0 ((l7_m5_1.set l7_m14 (List.replicate a1.toNat (0:Int))).length))]) (by kernel_rfl) (congrArg (fun z_=>(.cells 64 [(ai a1),(.own (oi 2 1) (.slice .int) 0 z_)]:Ob)) ((Eq.trans (b:=l7_m5_1.length) rfl List.length_set.symm):l7_m5_1.length=(l7_m5_1.set l7_m14 (List.replicate a1.toNat (0:Int))).length))).trans (weak_ren [((oi 3 1),(oi 9000 12))])),⟨l7_m14+1,l7_m5_1.set l7_m14 (List.replicate a1.toNat (0:Int)),rfl,rfl⟩,hn7⟩
  have q10_:=of_decide_eq_false q10
  refine awp_condF_ q10 ?_
  refine awp_exit_ (te_ (te_ (be_ (tn_ ?_))))
  obtain rfl:=zj h
  have h:=hn7
  (try dsimp only at h)
  obtain rfl:=zj h
  exact ⟨_,(weak_ren []),rfl⟩
 rintro l5_m5_1 _ rfl h
 (try dsimp only at h)
 refine seqR ?_
 refine awp_ret_ ?_
 obtain rfl:=zj h
 exact retM_ [(.agg [(ai a1),(.own (oi 1 1) (.slice .int) 0 l5_m5_1.length)])] (weak_ren (tl:=[(4,(.box (oi 0 1) 0))]) (g:=2) [((oi 1 1),(oi 2 1)),((oi 2 1),(oi 3 1))])
def m_spec_nwLaplacian_l1:AC :=
 (.seq (rg [xo 17 (qb .lss (tm 16) (tm 15))])
 (.seq (.cond (tm 17)
  .skip
  (.exit 0))
 (.seq (.block 1 (.seq (rg [xo 18 (qx 3 (tm 14) (tm 16)),xo 19 (.i (.ld false 3 (tm 18))),xo 7 (.i (.alloc 81 [(.int .i64 0),(.int .i64 0),(.int .i64 0)])),xn (.st false 3 (tm 7) (tm 19))])
 (.seq (.region [xo 20 (qf 1 (tm 5)),xo 21 (ql (tm 20)),xo 22 (qf 0 (tm 7)),xo 23 (ql (tm 22)),xo 24 (qx 1 (tm 21) (tm 23)),xo 25 (ql (tm 24)),xo 26 (qf 0 (tm 7)),xo 27 (ql (tm 26)),xo 28 (qm (tm 0)),xo 29 (qf 1 (tm 5)),xo 30 (ql (tm 29)),xo 31 (qf 0 (tm 7)),xo 32 (ql (tm 31)),xo 33 (qx 1 (tm 30) (tm 32)),xo 34 (ql (tm 33)),xo 35 (qf 0 (tm 7)),xo 36 (ql (tm 35)),xo 37 (qx 1 (tm 34) (tm 36)),xo 38 (ql (tm 37)),xo 39 (qf 2 (tm 7)),xo 40 (ql (tm 39)),xo 41 (qc 88 [(tm 28),(tm 38),(tm 40)] [[],[],[]]),xo 42 (qx 1 (tm 25) (tm 27)),xn (qs (tm 42) (tm 41))] true [(1,21),(3,21),(5,21),(7,21)])
 (.seq (.region [xo 43 (qf 1 (tm 5)),xo 44 (ql (tm 43)),xo 45 (qf 1 (tm 7)),xo 46 (ql (tm 45)),xo 47 (qx 1 (tm 44) (tm 46)),xo 48 (ql (tm 47)),xo 49 (qf 1 (tm 7)),xo 50 (ql (tm 49)),xo 51 (qm (tm 0)),xo 52 (qf 1 (tm 5)),xo 53 (ql (tm 52)),xo 54 (qf 1 (tm 7)),xo 55 (ql (tm 54)),xo 56 (qx 1 (tm 53) (tm 55)),xo 57 (ql (tm 56)),xo 58 (qf 1 (tm 7)),xo 59 (ql (tm 58)),xo 60 (qx 1 (tm 57) (tm 59)),xo 61 (ql (tm 60)),xo 62 (qf 2 (tm 7)),xo 63 (ql (tm 62)),xo 64 (qc 88 [(tm 51),(tm 61),(tm 63)] [[],[],[]]),xo 65 (qx 1 (tm 48) (tm 50)),xn (qs (tm 65) (tm 64))] true [(1,21),(3,21),(5,21),(7,21)])
 (.seq (.region [xo 66 (qf 1 (tm 5)),xo 67 (ql (tm 66)),xo 68 (qf 0 (tm 7)),xo 69 (ql (tm 68)),xo 70 (qx 1 (tm 67) (tm 69)),xo 71 (ql (tm 70)),xo 72 (qf 1 (tm 7)),xo 73 (ql (tm 72)),xo 74 (qm (tm 0)),xo 75 (qf 1 (tm 5)),xo 76 (ql (tm 75)),xo 77 (qf 0 (tm 7)),xo 78 (ql (tm 77)),xo 79 (qx 1 (tm 76) (tm 78)),xo 80 (ql (tm 79)),xo 81 (qf 1 (tm 7)),xo 82 (ql (tm 81)),xo 83 (qx 1 (tm 80) (tm 82)),xo 84 (ql (tm 83)),xo 85 (qf 2 (tm 7)),xo 86 (ql (tm 85)),xo 87 (qc 80 [(tm 74),(tm 84),(tm 86)] [[],[],[]]),xo 88 (qx 1 (tm 71) (tm 73)),xn (qs (tm 88) (tm 87))] true [(1,21),(3,21),(5,21),(7,21)])
 (.region [xo 89 (qf 1 (tm 5)),xo 90 (ql (tm 89)),xo 91 (qf 1 (tm 7)),xo 92 (ql (tm 91)),xo 93 (qx 1 (tm 90) (tm 92)),xo 94 (ql (tm 93)),xo 95 (qf 0 (tm 7)),xo 96 (ql (tm 95)),xo 97 (qm (tm 0)),xo 98 (qf 1 (tm 5)),xo 99 (ql (tm 98)),xo 100 (qf 1 (tm 7)),xo 101 (ql (tm 100)),xo 102 (qx 1 (tm 99) (tm 101)),xo 103 (ql (tm 102)),xo 104 (qf 0 (tm 7)),xo 105 (ql (tm 104)),xo 106 (qx 1 (tm 103) (tm 105)),xo 107 (ql (tm 106)),xo 108 (qf 2 (tm 7)),xo 109 (ql (tm 108)),xo 110 (qc 80 [(tm 97),(tm 107),(tm 109)] [[],[],[]]),xo 111 (qx 1 (tm 94) (tm 96)),xn (qs (tm 111) (tm 110))] true [(1,21),(3,21),(5,21),(7,21)]))))))
 (rg [xo 112 (qb .add (tm 16) (ci 1)),xo 16 (qm (tm 112))]))))
def m_spec_nwLaplacian:AC :=
 (.seq (rg [xo 3 (.i (.box 34 (tm 1))),xo 4 (.i (.alloc 64 [(.int .i64 0),.nils]))])
 (.seq (rg [xo 8 (qf 0 (tm 3)),xo 9 (ql (tm 8)),xo 10 (qf 0 (tm 3)),xo 11 (ql (tm 10)),xo 12 (qc 77 [(tm 9),(tm 11)] [[],[]]),xo 5 (.i (.alloc 64 [(.int .i64 0),.nils])),xn (.st false 2 (tm 5) (tm 12))])
 (.seq (.seq (rg [xo 13 (qf 1 (tm 3)),xo 14 (ql (tm 13)),xo 15 (.i (.len (tm 14))),xo 16 (qm (ci 0))])
 (.block 0 (.loop m_spec_nwLaplacian_l1)))
 (.seq (rg [xo 113 (.i (.ld false 2 (tm 5))),xn (.st false 2 (tm 4) (tm 113))])
 .ret))))
def r_spec_nwLaplacian:List Res:=[.cell 4 false 2]
theorem c_spec_nwLaplacian:compiled Tryd.prog Tryd.f73=some (m_spec_nwLaplacian,r_spec_nwLaplacian):=by kernel_rfl
theorem hb_spec_nwLaplacian:hasBody Tryd.prog 73=true:=by kernel_rfl
def L_spec_nwLaplacian_l1 (a1_1:List (Int×Int×Int)) (a0:Int) (l7_m16:Nat) (l7_m5_1:List (List Int)):Option (Ctl (Nat×List (List Int)) (List (List Int))) :=
 cond (decide (((l7_m16:Nat):Int)<((a1_1.length:Nat):Int)))
 (Option.bind (a1_1[l7_m16]?) fun x13 =>
 Option.bind (getI l7_m5_1 x13.1) fun x15 =>
 Option.bind (getI x15 x13.1) fun x16 =>
 Option.bind (L_spec_fdAdd a0 x16 x13.2.2) fun y17 =>
 Option.bind (getI (l7_m5_1.set x13.1.toNat (x15.set x13.1.toNat y17)) x13.2.1) fun x19 =>
 Option.bind (getI x19 x13.2.1) fun x20 =>
 Option.bind (L_spec_fdAdd a0 x20 x13.2.2) fun y21 =>
 Option.bind (getI ((l7_m5_1.set x13.1.toNat (x15.set x13.1.toNat y17)).set x13.2.1.toNat (x19.set x13.2.1.toNat y21)) x13.1) fun x23 =>
 Option.bind (getI x23 x13.2.1) fun x24 =>
 Option.bind (L_spec_fdSub a0 x24 x13.2.2) fun y25 =>
 Option.bind (getI (((l7_m5_1.set x13.1.toNat (x15.set x13.1.toNat y17)).set x13.2.1.toNat (x19.set x13.2.1.toNat y21)).set x13.1.toNat (x23.set x13.2.1.toNat y25)) x13.2.1) fun x26 =>
 Option.bind (getI x26 x13.1) fun x27 =>
 Option.bind (L_spec_fdSub a0 x27 x13.2.2) fun y28 =>
 og (l7_m16+1<4611686018427387904) <|
 some (Ctl.next (l7_m16+1,(((l7_m5_1.set x13.1.toNat (x15.set x13.1.toNat y17)).set x13.2.1.toNat (x19.set x13.2.1.toNat y21)).set x13.1.toNat (x23.set x13.2.1.toNat y25)).set x13.2.1.toNat (x26.set x13.1.toNat y28))))
 (some (Ctl.out l7_m5_1))
def L_spec_nwLaplacian (a0:Int) (a1_0:Int) (a1_1:List (Int×Int×Int)) (a1_2:List Int) (a1_3:List Int):Option (List (List Int)) :=
 Option.bind (L_spec_mxZero a1_0 a1_0) fun y4 =>
Option.bind (loopM (fun s_:Nat×List (List Int)=>L_spec_nwLaplacian_l1 a1_1 a0 s_.1 s_.2) 4611686018427387904 (0,y4)) fun l5_m5_1 =>
some l5_m5_1
theorem ok_spec_nwLaplacian {a0:Int} {a1_0:Int} {a1_1:List (Int×Int×Int)} {a1_2:List Int} {a1_3:List Int} {r:List (List Int)} (h:L_spec_nwLaplacian a0 a1_0 a1_1 a1_2 a1_3=some r):CallM Tryd.prog Tab 73 [(ai a0),(.agg [(ai a1_0),(.tree (.pair .int (.pair .int .int)) a1_1),(.tree .int a1_2),(.tree .int a1_3)])] [] (.agg [(ai a1_0),(.own (oi 1 1) (.slice .int) 0 r.length)]) [((oi 0 1),.cells 64 [(ai a1_0),(.own (oi 1 1) (.slice .int) 0 r.length)]),((oi 1 1),.mat 23 (oi 2 1) .int r),((oi 2 1),.pool 3 .int r)]:=by
 refine callM_of_ (by kernel_rfl) Tryd.func73 c_spec_nwLaplacian (n:=114) (by kernel_rfl) (by simp) (tl:=[(0,(ai a0)),(1,(.agg [(ai a1_0),(.tree (.pair .int (.pair .int .int)) a1_1),(.tree .int a1_2),(.tree .int a1_3)]))]) rfl (by kernel_rfl) trivial ⟨trivial,⟨⟨3,(.tail _ (.tail _ (.head _)))⟩,⟨trivial,trivial⟩⟩⟩ ?_
 unfold m_spec_nwLaplacian
 unfold L_spec_nwLaplacian at h
 refine seqR ?_
 refine awp_seqv_ ?_
 obtain ⟨y4,h4,h⟩:=ob_some h
 refine awp_region_ 10 ?_
 refine rz0 (.box (oi 3 1) 0) ?_
 refine rzl (ai a1_0) ?_
 refine rz0 (.box (oi 3 1) 0) ?_
 refine rzl (ai a1_0) ?_
 refine rcallM (.agg [(ai a1_0),(.own (oi 193 7) (.slice .int) 0 y4.length)]) [((oi 192 7),some (.cells 64 [(ai a1_0),(.own (oi 193 7) (.slice .int) 0 y4.length)])),((oi 193 7),some (.mat 23 (oi 194 7) .int y4)),((oi 194 7),some (.pool 3 .int y4))] [] [(ai a1_0),(ai a1_0)] (caps:=[]) trivial (ok_spec_mxZero h4) hb_spec_mxZero trivial (.cons (.ren (by kernel_rfl)) (.cons (.ren (by kernel_rfl)) .nil)) (reachL_mem (by kernel_rfl) (by kernel_rfl) trivial) ?_
 refine rsB 2 ?_
 refine rnil (tn_ ?_)
 refine wr_ ?_
 refine awp_seqB h (fun (l5_m5_1:List (List Int)) S_=>S_=⟨mkTm [(4,(.box (oi 0 1) 0)),(5,(.box (oi 1 1) 0))],mkOb (someL [((oi 0 1),.cells 64 [(ai 0),.nils]),((oi 1 1),.cells 64 [(ai a1_0),(.own (oi 2 1) (.slice .int) 0 l5_m5_1.length)]),((oi 2 1),.mat 23 (oi 3 1) .int l5_m5_1),((oi 3 1),.pool 3 .int l5_m5_1)]),2⟩) ?_ ?_
 ·intro v_ h
  refine seqR ?_
  refine awp_block_ ?_
  refine awp_loopL h (fun t_ S_=>∃ (l7_m16:Nat),∃ (l7_m5_1:List (List Int)),t_=(l7_m16,l7_m5_1)∧S_=⟨mkTm [(0,(ai a0)),(4,(.box (oi 0 1) 0)),(5,(.box (oi 1 1) 0)),(14,(.tree (.pair .int (.pair .int .int)) a1_1)),(15,(ai ((a1_1.length:Nat):Int))),(16,(ai ((l7_m16:Nat):Int)))],mkOb (someL [((oi 0 1),.cells 64 [(ai 0),.nils]),((oi 1 1),.cells 64 [(ai a1_0),(.own (oi 2 1) (.slice .int) 0 l7_m5_1.length)]),((oi 2 1),.mat 23 (oi 3 1) .int l7_m5_1),((oi 3 1),.pool 3 .int l7_m5_1)]),2⟩) ⟨_,(weak_ren [((oi 0 1),(oi 4 2)),((oi 1 1),(oi 5 8)),((oi 2 1),(oi 193 7)),((oi 3 1),(oi 194 7))]),⟨0,y4,rfl,rfl⟩⟩ ?_
  rintro n_ _ _ c_ ⟨l7_m16,l7_m5_1,rfl,rfl⟩ h hn7
  (try dsimp only at h)
  unfold L_spec_nwLaplacian_l1 at h
  unfold m_spec_nwLaplacian_l1
  refine seqR ?_
  refine awp_seqv_ ?_
  rcases cond_some h with ⟨q10,h⟩ | ⟨q10,h⟩
  ·have q10_:=of_decide_eq_true q10
   refine awp_condT_ q10 ?_
   refine awp_skip_ (tn_ ?_)
   refine wr_ ?_
   refine awp_seqv_ ?_
   refine awp_block_ ?_
   refine awp_seqv_ ?_
   obtain ⟨x13,e13,h⟩:=ob_some h
   refine awp_region_ 7 ?_
   refine rs0 (.telt (.pair .int (.pair .int .int)) x13 0) (zi (t:=(.pair .int (.pair .int .int))) (xs:=a1_1) (k:=.i64) (m:=((l7_m16:Nat):Int)) (nat_nn _) e13) ?_
   refine rsB 3 ?_
   refine rnil (tn_ ?_)
   refine wr_ ?_
   refine awp_seqv_ ?_
   obtain ⟨x15,f15,h⟩:=ob_some h
   obtain ⟨p15,b15,e15⟩:=getI_some f15
   obtain ⟨x16,f16,h⟩:=ob_some h
   obtain ⟨p16,b16,e16⟩:=getI_some f16
   obtain ⟨y17,h17,h⟩:=ob_some h
   refine awp_regionD_ 31 ?_
   refine dz0 (.box (oi 1 1) 1) ?_
   refine dzl (.own (oi 2 1) (.slice .int) 0 l7_m5_1.length) ?_
   refine dz0 (.box (oi 7 5) 0) ?_
   refine dzl (ai x13.1) ?_
   refine ds0 (.elt (oi 2 1) x13.1.toNat 0) (zo (t:=(.slice .int)) (o:=(oi 2 1)) (len:=l7_m5_1.length) (k:=.i64) (m:=x13.1) p15 (getN_lt e15)) ?_
   refine dsl (.own (kid (oi 3 1) x13.1.toNat) .int 0 x15.length) (s_ldM (o:=(oi 2 1)) (p:=(oi 3 1)) (e1:=23) (u:=.int) (xss:=l7_m5_1) (row:=x15) (j:=x13.1.toNat) (by kernel_rfl) (by kernel_rfl) e15) ?_
   refine dz0 (.box (oi 7 5) 0) ?_
   refine dzl (ai x13.1) ?_
   refine dz0 (ai a0) ?_
   refine dz0 (.box (oi 1 1) 1) ?_
   refine dzl (.own (oi 2 1) (.slice .int) 0 l7_m5_1.length) ?_
   refine dz0 (.box (oi 7 5) 0) ?_
   refine dzl (ai x13.1) ?_
   refine ds0 (.elt (oi 2 1) x13.1.toNat 0) (zo (t:=(.slice .int)) (o:=(oi 2 1)) (len:=l7_m5_1.length) (k:=.i64) (m:=x13.1) p15 (getN_lt e15)) ?_
   refine dsl (.own (kid (oi 3 1) x13.1.toNat) .int 0 x15.length) (s_ldM (o:=(oi 2 1)) (p:=(oi 3 1)) (e1:=23) (u:=.int) (xss:=l7_m5_1) (row:=x15) (j:=x13.1.toNat) (by kernel_rfl) (by kernel_rfl) e15) ?_
   refine dz0 (.box (oi 7 5) 0) ?_
   refine dzl (ai x13.1) ?_
   refine ds0 (.elt (kid (oi 3 1) x13.1.toNat) x13.1.toNat 0) (zo (t:=.int) (o:=(kid (oi 3 1) x13.1.toNat)) (len:=x15.length) (k:=.i64) (m:=x13.1) p16 (getN_lt e16)) ?_
   refine dsl (ai x16) (s_ldE (i:=(kid (oi 3 1) x13.1.toNat)) (j:=x13.1.toNat) (k:=0) (e:=3) (t:=.int) (xs:=x15) (by kernel_rfl) (only1.trans (mkOb_kid (by kernel_rfl) e15)) e16 (by kernel_rfl)) ?_
   refine dz0 (.box (oi 7 5) 2) ?_
   refine dzl (ai x13.2.2) ?_
   refine dcall (ai y17) [] [(ai a0),(ai x16),(ai x13.2.2)] _ (caps:=[]) (args0:=[(ai a0),(ai x16),(ai x13.2.2)]) trivial (by kernel_rfl) (ok_spec_fdAdd h17) hb_spec_fdAdd ?_
   refine ds0 (.elt (kid (oi 3 1) x13.1.toNat) x13.1.toNat 0) (zo (t:=.int) (o:=(kid (oi 3 1) x13.1.toNat)) (len:=x15.length) (k:=.i64) (m:=x13.1) p16 (getN_lt e16)) ?_
   refine dsn2 (kid (oi 3 1) x13.1.toNat) (kid (oi 3 1) x13.1.toNat) (.arr 3 .int (x15.set x13.1.toNat y17)) (s_stE (i:=(kid (oi 3 1) x13.1.toNat)) (j:=x13.1.toNat) (k:=0) (e:=3) (t:=.int) (xs:=x15) (cs:=[(ai y17)]) (x1:=y17) (by kernel_rfl) (only1.trans (mkOb_kid (by kernel_rfl) e15)) e16 (by kernel_rfl) (by kernel_rfl)) ?_
   refine xd_ob (ob_row (o:=(oi 2 1)) (p:=(oi 3 1)) (e1:=23) (e:=3) (u:=.int) (xss:=l7_m5_1) (k:=x13.1.toNat) (row:=x15) (row':=x15.set x13.1.toNat y17) (by kernel_rfl) rfl (by kernel_rfl) e15 List.length_set) ?_
   refine dnil (badB_spec (by kernel_rfl)) (tn_ ?_)
   refine wr_ ?_
   refine awp_seqv_ ?_
   obtain ⟨x19,f19,h⟩:=ob_some h
   obtain ⟨p19,b19,e19⟩:=getI_some f19
   obtain ⟨x20,f20,h⟩:=ob_some h
   obtain ⟨p20,b20,e20⟩:=getI_some f20
   obtain ⟨y21,h21,h⟩:=ob_some h
   refine awp_regionD_ 55 ?_
   refine dz0 (.box (oi 1 1) 1) ?_
   refine dzl (.own (oi 2 1) (.slice .int) 0 l7_m5_1.length) ?_
   refine dz0 (.box (oi 7 5) 1) ?_
   refine dzl (ai x13.2.1) ?_
   refine ds0 (.elt (oi 2 1) x13.2.1.toNat 0) (zo (t:=(.slice .int)) (o:=(oi 2 1)) (len:=l7_m5_1.length) (k:=.i64) (m:=x13.2.1) p19 (Nat.lt_of_lt_of_le (getN_lt e19) (Nat.le_of_eq (Eq.symm (Eq.trans (b:=l7_m5_1.length) rfl List.length_set.symm))))) ?_
   refine dsl (.own (kid (oi 3 1) x13.2.1.toNat) .int 0 x19.length) (s_ldM (o:=(oi 2 1)) (p:=(oi 3 1)) (e1:=23) (u:=.int) (xss:=l7_m5_1.set x13.1.toNat (x15.set x13.1.toNat y17)) (row:=x19) (j:=x13.2.1.toNat) (by kernel_rfl) (by kernel_rfl) e19) ?_
   refine dz0 (.box (oi 7 5) 1) ?_
   refine dzl (ai x13.2.1) ?_
   refine dz0 (ai a0) ?_
   refine dz0 (.box (oi 1 1) 1) ?_
   refine dzl (.own (oi 2 1) (.slice .int) 0 l7_m5_1.length) ?_
   refine dz0 (.box (oi 7 5) 1) ?_
   refine dzl (ai x13.2.1) ?_
   refine ds0 (.elt (oi 2 1) x13.2.1.toNat 0) (zo (t:=(.slice .int)) (o:=(oi 2 1)) (len:=l7_m5_1.length) (k:=.i64) (m:=x13.2.1) p19 (Nat.lt_of_lt_of_le (getN_lt e19) (Nat.le_of_eq (Eq.symm (Eq.trans (b:=l7_m5_1.length) rfl List.length_set.symm))))) ?_
   refine dsl (.own (kid (oi 3 1) x13.2.1.toNat) .int 0 x19.length) (s_ldM (o:=(oi 2 1)) (p:=(oi 3 1)) (e1:=23) (u:=.int) (xss:=l7_m5_1.set x13.1.toNat (x15.set x13.1.toNat y17)) (row:=x19) (j:=x13.2.1.toNat) (by kernel_rfl) (by kernel_rfl) e19) ?_
   refine dz0 (.box (oi 7 5) 1) ?_
   refine dzl (ai x13.2.1) ?_
   refine ds0 (.elt (kid (oi 3 1) x13.2.1.toNat) x13.2.1.toNat 0) (zo (t:=.int) (o:=(kid (oi 3 1) x13.2.1.toNat)) (len:=x19.length) (k:=.i64) (m:=x13.2.1) p20 (getN_lt e20)) ?_
   refine dsl (ai x20) (s_ldE (i:=(kid (oi 3 1) x13.2.1.toNat)) (j:=x13.2.1.toNat) (k:=0) (e:=3) (t:=.int) (xs:=x19) (by kernel_rfl) (only1.trans (mkOb_kid (by kernel_rfl) e19)) e20 (by kernel_rfl)) ?_
   refine dz0 (.box (oi 7 5) 2) ?_
   refine dzl (ai x13.2.2) ?_
   refine dcall (ai y21) [] [(ai a0),(ai x20),(ai x13.2.2)] _ (caps:=[]) (args0:=[(ai a0),(ai x20),(ai x13.2.2)]) trivial (by kernel_rfl) (ok_spec_fdAdd h21) hb_spec_fdAdd ?_
   refine ds0 (.elt (kid (oi 3 1) x13.2.1.toNat) x13.2.1.toNat 0) (zo (t:=.int) (o:=(kid (oi 3 1) x13.2.1.toNat)) (len:=x19.length) (k:=.i64) (m:=x13.2.1) p20 (getN_lt e20)) ?_
   refine dsn2 (kid (oi 3 1) x13.2.1.toNat) (kid (oi 3 1) x13.2.1.toNat) (.arr 3 .int (x19.set x13.2.1.toNat y21)) (s_stE (i:=(kid (oi 3 1) x13.2.1.toNat)) (j:=x13.2.1.toNat) (k:=0) (e:=3) (t:=.int) (xs:=x19) (cs:=[(ai y21)]) (x1:=y21) (by kernel_rfl) (only1.trans (mkOb_kid (by kernel_rfl) e19)) e20 (by kernel_rfl) (by kernel_rfl)) ?_
   refine xd_ob (ob_row (o:=(oi 2 1)) (p:=(oi 3 1)) (e1:=23) (e:=3) (u:=.int) (xss:=l7_m5_1.set x13.1.toNat (x15.set x13.1.toNat y17)) (k:=x13.2.1.toNat) (row:=x19) (row':=x19.set x13.2.1.toNat y21) (by kernel_rfl) rfl (by kernel_rfl) e19 List.length_set) ?_
   refine dnil (badB_spec (by kernel_rfl)) (tn_ ?_)
   refine wr_ ?_
   refine awp_seqv_ ?_
   obtain ⟨x23,f23,h⟩:=ob_some h
   obtain ⟨p23,b23,e23⟩:=getI_some f23
   obtain ⟨x24,f24,h⟩:=ob_some h
   obtain ⟨p24,b24,e24⟩:=getI_some f24
   obtain ⟨y25,h25,h⟩:=ob_some h
   refine awp_regionD_ 79 ?_
   refine dz0 (.box (oi 1 1) 1) ?_
   refine dzl (.own (oi 2 1) (.slice .int) 0 l7_m5_1.length) ?_
   refine dz0 (.box (oi 7 5) 0) ?_
   refine dzl (ai x13.1) ?_
   refine ds0 (.elt (oi 2 1) x13.1.toNat 0) (zo (t:=(.slice .int)) (o:=(oi 2 1)) (len:=l7_m5_1.length) (k:=.i64) (m:=x13.1) p23 (Nat.lt_of_lt_of_le (getN_lt e23) (Nat.le_of_eq (Eq.symm (Eq.trans (b:=(l7_m5_1.set x13.1.toNat (x15.set x13.1.toNat y17)).length) (Eq.trans (b:=l7_m5_1.length) rfl List.length_set.symm) List.length_set.symm))))) ?_
   refine dsl (.own (kid (oi 3 1) x13.1.toNat) .int 0 x23.length) (s_ldM (o:=(oi 2 1)) (p:=(oi 3 1)) (e1:=23) (u:=.int) (xss:=(l7_m5_1.set x13.1.toNat (x15.set x13.1.toNat y17)).set x13.2.1.toNat (x19.set x13.2.1.toNat y21)) (row:=x23) (j:=x13.1.toNat) (by kernel_rfl) (by kernel_rfl) e23) ?_
   refine dz0 (.box (oi 7 5) 1) ?_
   refine dzl (ai x13.2.1) ?_
   refine dz0 (ai a0) ?_
   refine dz0 (.box (oi 1 1) 1) ?_
   refine dzl (.own (oi 2 1) (.slice .int) 0 l7_m5_1.length) ?_
   refine dz0 (.box (oi 7 5) 0) ?_
   refine dzl (ai x13.1) ?_
   refine ds0 (.elt (oi 2 1) x13.1.toNat 0) (zo (t:=(.slice .int)) (o:=(oi 2 1)) (len:=l7_m5_1.length) (k:=.i64) (m:=x13.1) p23 (Nat.lt_of_lt_of_le (getN_lt e23) (Nat.le_of_eq (Eq.symm (Eq.trans (b:=(l7_m5_1.set x13.1.toNat (x15.set x13.1.toNat y17)).length) (Eq.trans (b:=l7_m5_1.length) rfl List.length_set.symm) List.length_set.symm))))) ?_
   refine dsl (.own (kid (oi 3 1) x13.1.toNat) .int 0 x23.length) (s_ldM (o:=(oi 2 1)) (p:=(oi 3 1)) (e1:=23) (u:=.int) (xss:=(l7_m5_1.set x13.1.toNat (x15.set x13.1.toNat y17)).set x13.2.1.toNat (x19.set x13.2.1.toNat y21)) (row:=x23) (j:=x13.1.toNat) (by kernel_rfl) (by kernel_rfl) e23) ?_
   refine dz0 (.box (oi 7 5) 1) ?_
   refine dzl (ai x13.2.1) ?_
   refine ds0 (.elt (kid (oi 3 1) x13.1.toNat) x13.2.1.toNat 0) (zo (t:=.int) (o:=(kid (oi 3 1) x13.1.toNat)) (len:=x23.length) (k:=.i64) (m:=x13.2.1) p24 (getN_lt e24)) ?_
   refine dsl (ai x24) (s_ldE (i:=(kid (oi 3 1) x13.1.toNat)) (j:=x13.2.1.toNat) (k:=0) (e:=3) (t:=.int) (xs:=x23) (by kernel_rfl) (only1.trans (mkOb_kid (by kernel_rfl) e23)) e24 (by kernel_rfl)) ?_
   refine dz0 (.box (oi 7 5) 2) ?_
   refine dzl (ai x13.2.2) ?_
   refine dcall (ai y25) [] [(ai a0),(ai x24),(ai x13.2.2)] _ (caps:=[]) (args0:=[(ai a0),(ai x24),(ai x13.2.2)]) trivial (by kernel_rfl) (ok_spec_fdSub h25) hb_spec_fdSub ?_
   refine ds0 (.elt (kid (oi 3 1) x13.1.toNat) x13.2.1.toNat 0) (zo (t:=.int) (o:=(kid (oi 3 1) x13.1.toNat)) (len:=x23.length) (k:=.i64) (m:=x13.2.1) p24 (getN_lt e24)) ?_
   refine dsn2 (kid (oi 3 1) x13.1.toNat) (kid (oi 3 1) x13.1.toNat) (.arr 3 .int (x23.set x13.2.1.toNat y25)) (s_stE (i:=(kid (oi 3 1) x13.1.toNat)) (j:=x13.2.1.toNat) (k:=0) (e:=3) (t:=.int) (xs:=x23) (cs:=[(ai y25)]) (x1:=y25) (by kernel_rfl) (only1.trans (mkOb_kid (by kernel_rfl) e23)) e24 (by kernel_rfl) (by kernel_rfl)) ?_
   refine xd_ob (ob_row (o:=(oi 2 1)) (p:=(oi 3 1)) (e1:=23) (e:=3) (u:=.int) (xss:=(l7_m5_1.set x13.1.toNat (x15.set x13.1.toNat y17)).set x13.2.1.toNat (x19.set x13.2.1.toNat y21)) (k:=x13.1.toNat) (row:=x23) (row':=x23.set x13.2.1.toNat y25) (by kernel_rfl) rfl (by kernel_rfl) e23 List.length_set) ?_
   refine dnil (badB_spec (by kernel_rfl)) (tn_ ?_)
   refine wr_ ?_
   obtain ⟨x26,f26,h⟩:=ob_some h
   obtain ⟨p26,b26,e26⟩:=getI_some f26
   obtain ⟨x27,f27,h⟩:=ob_some h
   obtain ⟨p27,b27,e27⟩:=getI_some f27
   obtain ⟨y28,h28,h⟩:=ob_some h
   refine awp_regionD_ 103 ?_
   refine dz0 (.box (oi 1 1) 1) ?_
   refine dzl (.own (oi 2 1) (.slice .int) 0 l7_m5_1.length) ?_
   refine dz0 (.box (oi 7 5) 1) ?_
   refine dzl (ai x13.2.1) ?_
   refine ds0 (.elt (oi 2 1) x13.2.1.toNat 0) (zo (t:=(.slice .int)) (o:=(oi 2 1)) (len:=l7_m5_1.length) (k:=.i64) (m:=x13.2.1) p26 (Nat.lt_of_lt_of_le (getN_lt e26) (Nat.le_of_eq (Eq.symm (Eq.trans (b:=((l7_m5_1.set x13.1.toNat (x15.set x13.1.toNat y17)).set x13.2.1.toNat (x19.set x13.2.1.toNat y21)).length) (Eq.trans (b:=(l7_m5_1.set x13.1.toNat (x15.set x13.1.toNat y17)).length) (Eq.trans (b:=l7_m5_1.length) rfl List.length_set.symm) List.length_set.symm) List.length_set.symm))))) ?_
   refine dsl (.own (kid (oi 3 1) x13.2.1.toNat) .int 0 x26.length) (s_ldM (o:=(oi 2 1)) (p:=(oi 3 1)) (e1:=23) (u:=.int) (xss:=((l7_m5_1.set x13.1.toNat (x15.set x13.1.toNat y17)).set x13.2.1.toNat (x19.set x13.2.1.toNat y21)).set x13.1.toNat (x23.set x13.2.1.toNat y25)) (row:=x26) (j:=x13.2.1.toNat) (by kernel_rfl) (by kernel_rfl) e26) ?_
   refine dz0 (.box (oi 7 5) 0) ?_
   refine dzl (ai x13.1) ?_
   refine dz0 (ai a0) ?_
   refine dz0 (.box (oi 1 1) 1) ?_
   refine dzl (.own (oi 2 1) (.slice .int) 0 l7_m5_1.length) ?_
   refine dz0 (.box (oi 7 5) 1) ?_
   refine dzl (ai x13.2.1) ?_
   refine ds0 (.elt (oi 2 1) x13.2.1.toNat 0) (zo (t:=(.slice .int)) (o:=(oi 2 1)) (len:=l7_m5_1.length) (k:=.i64) (m:=x13.2.1) p26 (Nat.lt_of_lt_of_le (getN_lt e26) (Nat.le_of_eq (Eq.symm (Eq.trans (b:=((l7_m5_1.set x13.1.toNat (x15.set x13.1.toNat y17)).set x13.2.1.toNat (x19.set x13.2.1.toNat y21)).length) (Eq.trans (b:=(l7_m5_1.set x13.1.toNat (x15.set x13.1.toNat y17)).length) (Eq.trans (b:=l7_m5_1.length) rfl List.length_set.symm) List.length_set.symm) List.length_set.symm))))) ?_
   refine dsl (.own (kid (oi 3 1) x13.2.1.toNat) .int 0 x26.length) (s_ldM (o:=(oi 2 1)) (p:=(oi 3 1)) (e1:=23) (u:=.int) (xss:=((l7_m5_1.set x13.1.toNat (x15.set x13.1.toNat y17)).set x13.2.1.toNat (x19.set x13.2.1.toNat y21)).set x13.1.toNat (x23.set x13.2.1.toNat y25)) (row:=x26) (j:=x13.2.1.toNat) (by kernel_rfl) (by kernel_rfl) e26) ?_
   refine dz0 (.box (oi 7 5) 0) ?_
   refine dzl (ai x13.1) ?_
   refine ds0 (.elt (kid (oi 3 1) x13.2.1.toNat) x13.1.toNat 0) (zo (t:=.int) (o:=(kid (oi 3 1) x13.2.1.toNat)) (len:=x26.length) (k:=.i64) (m:=x13.1) p27 (getN_lt e27)) ?_
   refine dsl (ai x27) (s_ldE (i:=(kid (oi 3 1) x13.2.1.toNat)) (j:=x13.1.toNat) (k:=0) (e:=3) (t:=.int) (xs:=x26) (by kernel_rfl) (only1.trans (mkOb_kid (by kernel_rfl) e26)) e27 (by kernel_rfl)) ?_
   refine dz0 (.box (oi 7 5) 2) ?_
   refine dzl (ai x13.2.2) ?_
   refine dcall (ai y28) [] [(ai a0),(ai x27),(ai x13.2.2)] _ (caps:=[]) (args0:=[(ai a0),(ai x27),(ai x13.2.2)]) trivial (by kernel_rfl) (ok_spec_fdSub h28) hb_spec_fdSub ?_
   refine ds0 (.elt (kid (oi 3 1) x13.2.1.toNat) x13.1.toNat 0) (zo (t:=.int) (o:=(kid (oi 3 1) x13.2.1.toNat)) (len:=x26.length) (k:=.i64) (m:=x13.1) p27 (getN_lt e27)) ?_
   refine dsn2 (kid (oi 3 1) x13.2.1.toNat) (kid (oi 3 1) x13.2.1.toNat) (.arr 3 .int (x26.set x13.1.toNat y28)) (s_stE (i:=(kid (oi 3 1) x13.2.1.toNat)) (j:=x13.1.toNat) (k:=0) (e:=3) (t:=.int) (xs:=x26) (cs:=[(ai y28)]) (x1:=y28) (by kernel_rfl) (only1.trans (mkOb_kid (by kernel_rfl) e26)) e27 (by kernel_rfl) (by kernel_rfl)) ?_
   refine xd_ob (ob_row (o:=(oi 2 1)) (p:=(oi 3 1)) (e1:=23) (e:=3) (u:=.int) (xss:=((l7_m5_1.set x13.1.toNat (x15.set x13.1.toNat y17)).set x13.2.1.toNat (x19.set x13.2.1.toNat y21)).set x13.1.toNat (x23.set x13.2.1.toNat y25)) (k:=x13.2.1.toNat) (row:=x26) (row':=x26.set x13.1.toNat y28) (by kernel_rfl) rfl (by kernel_rfl) e26 List.length_set) ?_
   refine dnil (badB_spec (by kernel_rfl)) (bn_ (tn_ ?_))
   refine wr_ ?_
   obtain ⟨g29,h⟩:=og_some h
   refine awp_region_ 105 ?_
   refine rs0 (ai ((l7_m16+1:Nat):Int)) (za g29) ?_
   refine rsB 1 ?_
   refine rnil (tn_ ?_)
   obtain rfl:=zj h
   exact ⟨(l7_m16+1,(((l7_m5_1.set x13.1.toNat (x15.set x13.1.toNat y17)).set x13.2.1.toNat (x19.set x13.2.1.toNat y21)).set x13.1.toNat (x23.set x13.2.1.toNat y25)).set x13.2.1.toNat (x26.set x13.1.toNat y28)),_,((weak_ob_ (oi 1 1) (.cells 64 [(ai a1_0),(.own (oi 2 1) (.slice .int) 0 l7_m5_1.length)]) (.cells 64 [(ai a1_0),(.own (oi 2 1) (.slice .int) 0 (((((l7_m5_1.set x13.1.toNat (x15.set x13.1.toNat y17)).set x13.2.1.toNat (x19.set x13.2.1.toNat y21)).set x13.1.toNat (x23.set x13.2.1.toNat y25)).set x13.2.1.toNat (x26.set x13.1.toNat y28)).length))]) (by kernel_rfl) (congrArg (fun z_=>(.cells 64 [(ai a1_0),(.own (oi 2 1) (.slice .int) 0 z_)]:Ob)) ((Eq.trans (b:=(((l7_m5_1.set x13.1.toNat (x15.set x13.1.toNat y17)).set x13.2.1.toNat (x19.set x13.2.1.toNat y21)).set x13.1.toNat (x23.set x13.2.1.toNat y25)).length) (Eq.trans (b:=((l7_m5_1.set x13.1.toNat (x15.set x13.1.toNat y17)).set x13.2.1.toNat (x19.set x13.2.1.toNat y21)).length) (Eq.trans (b:=(l7_m5_1.set x13.1.toNat (x15.set x13.1.toNat y17)).length) (Eq.trans (b:=l7_m5_1.length) rfl List.length_set.symm) List.length_set.symm) List.length_set.symm) List.length_set.symm):l7_m5_1.length=((((l7_m5_1.set x13.1.toNat (x15.set x13.1.toNat y17)).set x13.2.1.toNat (x19.set x13.2.1.toNat y21)).set x13.1.toNat (x23.set x13.2.1.toNat y25)).set x13.2.1.toNat (x26.set x13.1.toNat y28)).length))).trans (weak_ren [])),⟨l7_m16+1,(((l7_m5_1.set x13.1.toNat (x15.set x13.1.toNat y17)).set x13.2.1.toNat (x19.set x13.2.1.toNat y21)).set x13.1.toNat (x23.set x13.2.1.toNat y25)).set x13.2.1.toNat (x26.set x13.1.toNat y28),rfl,rfl⟩,hn7⟩
  have q10_:=of_decide_eq_false q10
  refine awp_condF_ q10 ?_
  refine awp_exit_ (te_ (te_ (be_ (tn_ ?_))))
  obtain rfl:=zj h
  have h:=hn7
  (try dsimp only at h)
  obtain rfl:=zj h
  exact ⟨_,(weak_ren []),rfl⟩
 rintro l5_m5_1 _ rfl h
 (try dsimp only at h)
 refine seqR ?_
 refine awp_ret_ ?_
 obtain rfl:=zj h
 exact retM_ [(.agg [(ai a1_0),(.own (oi 1 1) (.slice .int) 0 l5_m5_1.length)])] (weak_ren (tl:=[(4,(.box (oi 0 1) 0))]) (g:=2) [((oi 1 1),(oi 2 1)),((oi 2 1),(oi 3 1))])
def m_impl_Network_laplacian_l2:AC :=
 (.seq (rg [xo 28 (qb .lss (tm 27) (tm 26))])
 (.seq (.cond (tm 28)
  .skip
  (.exit 2))
 (.seq (.block 3 (.seq (rg [xo 29 (qx 3 (tm 25) (tm 27)),xo 30 (.i (.ld false 3 (tm 29))),xo 8 (.i (.alloc 81 [(.int .i64 0),(.int .i64 0),(.int .i64 0)])),xn (.st false 3 (tm 8) (tm 30))])
 (.seq (.region [xo 31 (qm (tm 5)),xo 32 (qf 0 (tm 8)),xo 33 (ql (tm 32)),xo 34 (qx 1 (tm 31) (tm 33)),xo 35 (ql (tm 34)),xo 36 (qf 0 (tm 8)),xo 37 (ql (tm 36)),xo 38 (qm (tm 1)),xo 39 (qm (tm 5)),xo 40 (qf 0 (tm 8)),xo 41 (ql (tm 40)),xo 42 (qx 1 (tm 39) (tm 41)),xo 43 (ql (tm 42)),xo 44 (qf 0 (tm 8)),xo 45 (ql (tm 44)),xo 46 (qx 1 (tm 43) (tm 45)),xo 47 (ql (tm 46)),xo 48 (qf 2 (tm 8)),xo 49 (ql (tm 48)),xo 50 (qb .add (tm 47) (tm 49)),xo 51 (qc 50 [(tm 38),(tm 50)] [[],[]]),xo 52 (qx 1 (tm 35) (tm 37)),xn (qs (tm 52) (tm 51))] true [(2,20),(4,20),(6,20)])
 (.seq (.region [xo 53 (qm (tm 5)),xo 54 (qf 1 (tm 8)),xo 55 (ql (tm 54)),xo 56 (qx 1 (tm 53) (tm 55)),xo 57 (ql (tm 56)),xo 58 (qf 1 (tm 8)),xo 59 (ql (tm 58)),xo 60 (qm (tm 1)),xo 61 (qm (tm 5)),xo 62 (qf 1 (tm 8)),xo 63 (ql (tm 62)),xo 64 (qx 1 (tm 61) (tm 63)),xo 65 (ql (tm 64)),xo 66 (qf 1 (tm 8)),xo 67 (ql (tm 66)),xo 68 (qx 1 (tm 65) (tm 67)),xo 69 (ql (tm 68)),xo 70 (qf 2 (tm 8)),xo 71 (ql (tm 70)),xo 72 (qb .add (tm 69) (tm 71)),xo 73 (qc 50 [(tm 60),(tm 72)] [[],[]]),xo 74 (qx 1 (tm 57) (tm 59)),xn (qs (tm 74) (tm 73))] true [(2,20),(4,20),(6,20)])
 (.seq (.region [xo 75 (qm (tm 5)),xo 76 (qf 0 (tm 8)),xo 77 (ql (tm 76)),xo 78 (qx 1 (tm 75) (tm 77)),xo 79 (ql (tm 78)),xo 80 (qf 1 (tm 8)),xo 81 (ql (tm 80)),xo 82 (qm (tm 1)),xo 83 (qm (tm 5)),xo 84 (qf 0 (tm 8)),xo 85 (ql (tm 84)),xo 86 (qx 1 (tm 83) (tm 85)),xo 87 (ql (tm 86)),xo 88 (qf 1 (tm 8)),xo 89 (ql (tm 88)),xo 90 (qx 1 (tm 87) (tm 89)),xo 91 (ql (tm 90)),xo 92 (qf 2 (tm 8)),xo 93 (ql (tm 92)),xo 94 (qb .sub (tm 91) (tm 93)),xo 95 (qc 50 [(tm 82),(tm 94)] [[],[]]),xo 96 (qx 1 (tm 79) (tm 81)),xn (qs (tm 96) (tm 95))] true [(2,20),(4,20),(6,20)])
 (.region [xo 97 (qm (tm 5)),xo 98 (qf 1 (tm 8)),xo 99 (ql (tm 98)),xo 100 (qx 1 (tm 97) (tm 99)),xo 101 (ql (tm 100)),xo 102 (qf 0 (tm 8)),xo 103 (ql (tm 102)),xo 104 (qm (tm 1)),xo 105 (qm (tm 5)),xo 106 (qf 1 (tm 8)),xo 107 (ql (tm 106)),xo 108 (qx 1 (tm 105) (tm 107)),xo 109 (ql (tm 108)),xo 110 (qf 0 (tm 8)),xo 111 (ql (tm 110)),xo 112 (qx 1 (tm 109) (tm 111)),xo 113 (ql (tm 112)),xo 114 (qf 2 (tm 8)),xo 115 (ql (tm 114)),xo 116 (qb .sub (tm 113) (tm 115)),xo 117 (qc 50 [(tm 104),(tm 116)] [[],[]]),xo 118 (qx 1 (tm 101) (tm 103)),xn (qs (tm 118) (tm 117))] true [(2,20),(4,20),(6,20)]))))))
 (rg [xo 119 (qb .add (tm 27) (ci 1)),xo 27 (qm (tm 119))]))))
def m_impl_Network_laplacian_l1:AC :=
 (.seq (rg [xo 15 (qb .lss (tm 14) (tm 13))])
 (.seq (.cond (tm 15)
  .skip
  (.exit 0))
 (.seq (.block 1 (.seq (rg [xo 16 (qm (tm 14)),xo 6 (qm (tm 16))])
 (rg [xo 17 (qm (tm 5)),xo 18 (qm (tm 6)),xo 19 (qf 0 (tm 2)),xo 20 (ql (tm 19)),xo 21 (qc 69 [(tm 20)] [[]]),xo 22 (qx 1 (tm 17) (tm 18)),xn (qs (tm 22) (tm 21))])))
 (rg [xo 23 (qb .add (tm 14) (ci 1)),xo 14 (qm (tm 23))]))))
def m_impl_Network_laplacian:AC :=
 (.seq (rg [xo 2 (.i (.box 34 (tm 0))),xo 4 (qm (.cst .nils))])
 (.seq (rg [xo 9 (qf 0 (tm 2)),xo 10 (ql (tm 9)),xo 11 (.makeV 23 (.slice .int) 24 [.nils] (tm 10) (tm 10)),xo 5 (qm (tm 11))])
 (.seq (.seq (rg [xo 12 (qm (tm 5)),xo 13 (.i (.len (tm 12))),xo 14 (qm (ci 0))])
 (.block 0 (.loop m_impl_Network_laplacian_l1)))
 (.seq (.seq (rg [xo 24 (qf 1 (tm 2)),xo 25 (ql (tm 24)),xo 26 (.i (.len (tm 25))),xo 27 (qm (ci 0))])
 (.block 2 (.loop m_impl_Network_laplacian_l2)))
 (.seq (rg [xo 120 (qm (tm 5)),xo 4 (qm (tm 120))])
 .ret)))))
def r_impl_Network_laplacian:List Res:=[.tmp 4]
theorem c_impl_Network_laplacian:compiled Tryd.prog Tryd.f68=some (m_impl_Network_laplacian,r_impl_Network_laplacian):=by kernel_rfl
theorem hb_impl_Network_laplacian:hasBody Tryd.prog 68=true:=by kernel_rfl
def L_impl_Network_laplacian_l1 (a0_0:Int) (l7_m14:Nat) (l7_m5:List (List Int)):Option (Ctl (Nat×List (List Int)) (List (List Int))) :=
 cond (decide (((l7_m14:Nat):Int)<((a0_0.toNat:Nat):Int)))
 (Option.bind (L_impl_zeros a0_0) fun y13 =>
 Option.bind (l7_m5[l7_m14]?) fun x14 =>
 og (l7_m14+1<4611686018427387904) <|
 some (Ctl.next (l7_m14+1,l7_m5.set l7_m14 y13)))
 (some (Ctl.out l7_m5))
def L_impl_Network_laplacian_l2 (a0_1:List (Int×Int×Int)) (a1:Int) (l18_m27:Nat) (l18_m5:List (List Int)):Option (Ctl (Nat×List (List Int)) (List (List Int))) :=
 cond (decide (((l18_m27:Nat):Int)<((a0_1.length:Nat):Int)))
 (Option.bind (a0_1[l18_m27]?) fun x24 =>
 Option.bind (getI l18_m5 x24.1) fun x26 =>
 Option.bind (getI x26 x24.1) fun x27 =>
 Option.bind (L_impl_mod a1 (IntKind.i64.wrap (x27+x24.2.2))) fun y28 =>
 Option.bind (getI (l18_m5.set x24.1.toNat (x26.set x24.1.toNat y28)) x24.2.1) fun x30 =>
 Option.bind (getI x30 x24.2.1) fun x31 =>
 Option.bind (L_impl_mod a1 (IntKind.i64.wrap (x31+x24.2.2))) fun y32 =>
 Option.bind (getI ((l18_m5.set x24.1.toNat (x26.set x24.1.toNat y28)).set x24.2.1.toNat (x30.set x24.2.1.toNat y32)) x24.1) fun x34 =>
 Option.bind (getI x34 x24.2.1) fun x35 =>
 Option.bind (L_impl_mod a1 (IntKind.i64.wrap (x35 - x24.2.2))) fun y36 =>
 Option.bind (getI (((l18_m5.set x24.1.toNat (x26.set x24.1.toNat y28)).set x24.2.1.toNat (x30.set x24.2.1.toNat y32)).set x24.1.toNat (x34.set x24.2.1.toNat y36)) x24.2.1) fun x37 =>
 Option.bind (getI x37 x24.1) fun x38 =>
 Option.bind (L_impl_mod a1 (IntKind.i64.wrap (x38 - x24.2.2))) fun y39 =>
 og (l18_m27+1<4611686018427387904) <|
 some (Ctl.next (l18_m27+1,(((l18_m5.set x24.1.toNat (x26.set x24.1.toNat y28)).set x24.2.1.toNat (x30.set x24.2.1.toNat y32)).set x24.1.toNat (x34.set x24.2.1.toNat y36)).set x24.2.1.toNat (x37.set x24.1.toNat y39))))
 (some (Ctl.out l18_m5))
def L_impl_Network_laplacian (a0_0:Int) (a0_1:List (Int×Int×Int)) (a0_2:List Int) (a0_3:List Int) (a1:Int):Option (List (List Int)) :=
 og (0<=a0_0∧a0_0<=a0_0∧a0_0<=1073741824∧(24:Int)*a0_0<=140737488355328) <|
Option.bind (loopM (fun s_:Nat×List (List Int)=>L_impl_Network_laplacian_l1 a0_0 s_.1 s_.2) 4611686018427387904 (0,List.replicate a0_0.toNat ([]:List Int))) fun l5_m5 =>
Option.bind (loopM (fun s_:Nat×List (List Int)=>L_impl_Network_laplacian_l2 a0_1 a1 s_.1 s_.2) 4611686018427387904 (0,l5_m5)) fun l16_m5 =>
some l16_m5
theorem ok_impl_Network_laplacian {a0_0:Int} {a0_1:List (Int×Int×Int)} {a0_2:List Int} {a0_3:List Int} {a1:Int} {r:List (List Int)} (h:L_impl_Network_laplacian a0_0 a0_1 a0_2 a0_3 a1=some r):CallM Tryd.prog Tab 68 [(.agg [(ai a0_0),(.tree (.pair .int (.pair .int .int)) a0_1),(.tree .int a0_2),(.tree .int a0_3)]),(ai a1)] [] (.own (oi 0 1) (.slice .int) 0 r.length) [((oi 0 1),.mat 23 (oi 1 1) .int r),((oi 1 1),.pool 3 .int r)]:=by
 refine callM_of_ (by kernel_rfl) Tryd.func68 c_impl_Network_laplacian (n:=121) (by kernel_rfl) (by simp) (tl:=[(0,(.agg [(ai a0_0),(.tree (.pair .int (.pair .int .int)) a0_1),(.tree .int a0_2),(.tree .int a0_3)])),(1,(ai a1))]) rfl (by kernel_rfl) trivial ⟨⟨3,(.tail _ (.head _))⟩,⟨trivial,trivial⟩⟩ ?_
 unfold m_impl_Network_laplacian
 unfold L_impl_Network_laplacian at h
 refine seqR ?_
 refine awp_seqv_ ?_
 obtain ⟨g4,h⟩:=og_some h
 refine awp_region_ 7 ?_
 refine rz0 (.box (oi 2 1) 0) ?_
 refine rzl (ai a0_0) ?_
 refine rmakeM (.own (oi 176 5) (.slice .int) 0 a0_0.toNat) (oi 176 5) 23 3 .int (List.replicate a0_0.toNat ([]:List Int)) trivial (s_makeM (j:=a0_0.toNat) (k:=.i64) (k':=.i64) (m:=a0_0) (c:=a0_0) 3 (by kernel_rfl) (by kernel_rfl) g4 (by kernel_rfl) rfl) (by kernel_rfl) (by rw [List.length_replicate]) (by kernel_rfl) ?_
 refine rsB 1 ?_
 refine rnil (tn_ ?_)
 refine wr_ ?_
 refine awp_seqB h (fun (l5_m5:List (List Int)) S_=>S_=⟨mkTm [(1,(ai a1)),(2,(.box (oi 0 1) 0)),(5,(.own (oi 1 1) (.slice .int) 0 l5_m5.length))],mkOb (someL [((oi 0 1),.cells 34 [(ai a0_0),(.tree (.pair .int (.pair .int .int)) a0_1),(.tree .int a0_2),(.tree .int a0_3)]),((oi 1 1),.mat 23 (oi 2 1) .int l5_m5),((oi 2 1),.pool 3 .int l5_m5)]),2⟩) ?_ ?_
 ·intro v_ h
  refine seqR ?_
  refine awp_block_ ?_
  refine awp_loopL h (fun t_ S_=>∃ (l7_m14:Nat),∃ (l7_m5:List (List Int)),t_=(l7_m14,l7_m5)∧S_=⟨mkTm [(1,(ai a1)),(2,(.box (oi 0 1) 0)),(5,(.own (oi 1 1) (.slice .int) 0 l7_m5.length)),(13,(ai ((a0_0.toNat:Nat):Int))),(14,(ai ((l7_m14:Nat):Int)))],mkOb (someL [((oi 0 1),.cells 34 [(ai a0_0),(.tree (.pair .int (.pair .int .int)) a0_1),(.tree .int a0_2),(.tree .int a0_3)]),((oi 1 1),.mat 23 (oi 2 1) .int l7_m5),((oi 2 1),.pool 3 .int l7_m5)]),2⟩) ⟨_,((weak_tm_ 5 (.own (oi 176 5) (.slice .int) 0 a0_0.toNat) (.own (oi 176 5) (.slice .int) 0 ((List.replicate a0_0.toNat ([]:List Int)).length)) (by kernel_rfl) (congrArg (fun z_=>((.own (oi 176 5) (.slice .int) 0 z_):AV)) (List.length_replicate.symm:a0_0.toNat=(List.replicate a0_0.toNat ([]:List Int)).length))).trans (weak_ren [((oi 0 1),(oi 2 1)),((oi 1 1),(oi 176 5)),((oi 2 1),(oi 176 5))])),⟨0,List.replicate a0_0.toNat ([]:List Int),rfl,rfl⟩⟩ ?_
  rintro n_ _ _ c_ ⟨l7_m14,l7_m5,rfl,rfl⟩ h hn7
  (try dsimp only at h)
  unfold L_impl_Network_laplacian_l1 at h
  unfold m_impl_Network_laplacian_l1
  refine seqR ?_
  refine awp_seqv_ ?_
  rcases cond_some h with ⟨q10,h⟩ | ⟨q10,h⟩
  ·have q10_:=of_decide_eq_true q10
   refine awp_condT_ q10 ?_
   refine awp_skip_ (tn_ ?_)
   refine wr_ ?_
   refine awp_seqv_ ?_
   refine awp_block_ ?_
   refine seqR ?_
   obtain ⟨y13,h13,h⟩:=ob_some h
   obtain ⟨x14,e14,h⟩:=ob_some h
   refine awp_region_ 12 ?_
   refine rz0 (.own (oi 1 1) (.slice .int) 0 l7_m5.length) ?_
   refine rz0 (ai ((l7_m14:Nat):Int)) ?_
   refine rz0 (.box (oi 0 1) 0) ?_
   refine rzl (ai a0_0) ?_
   refine zc (.own (oi 336 9) .int 0 y13.length) [((oi 336 9),some (.arr 3 .int y13))] [(ai a0_0)] (ok_impl_zeros h13) ?_
   refine rs0 (.elt (oi 1 1) l7_m14 0) (zo (t:=(.slice .int)) (o:=(oi 1 1)) (len:=l7_m5.length) (k:=.i64) (m:=((l7_m14:Nat):Int)) (nat_nn _) (getN_lt e14)) ?_
   refine rsn2 (oi 1 1) (oi 1 1) (.vec 23 1 l7_m5.length ((hdL (oi 2 1) .int l7_m5).set l7_m14 (.own (oi 336 9) .int 0 y13.length))) (s_stV (o:=(oi 1 1)) (e1:=23) (m:=l7_m5.length) (cs:=hdL (oi 2 1) .int l7_m5) (v:=(.own (oi 336 9) .int 0 y13.length)) (j:=l7_m14) (by kernel_rfl) (by kernel_rfl) (by kernel_rfl) rfl (by rw [hdL_len]; exact getN_lt e14)) ?_
   refine rnil (bn_ (tn_ ?_))
   refine ⟨_,weak_set_ (e1:=23) (e:=3) (u:=.int) (n:=l7_m5.length) (len:=y13.length) (row:=y13) (ys:=y13) (xss:=l7_m5) (j:=l7_m14) 9000 (oi 1 1) (oi 2 1) (oi 336 9) (by kernel_rfl) (by kernel_rfl) rfl (by kernel_rfl) (by kernel_rfl) (tw_le rfl) (tw_eq rfl) (by kernel_rfl) (by kernel_rfl) (by kernel_rfl),?_⟩
   obtain ⟨g15,h⟩:=og_some h
   refine awp_region_ 15 ?_
   refine rs0 (ai ((l7_m14+1:Nat):Int)) (za g15) ?_
   refine rsB 1 ?_
   refine rnil (tn_ ?_)
   obtain rfl:=zj h
   exact ⟨(l7_m14+1,l7_m5.set l7_m14 y13),_,((weak_tm_ 5 (.own (oi 1 1) (.slice .int) 0 l7_m5.length) (.own (oi 1 1) (.slice .int) 0 ((l7_m5.set l7_m14 y13).length)) (by kernel_rfl) (congrArg (fun z_=>((.own (oi 1 1) (.slice .int) 0 z_):AV)) ((Eq.trans (b:=l7_m5.length) rfl List.length_set.symm):l7_m5.length=(l7_m5.set l7_m14 y13).length))).trans (weak_ren [((oi 2 1),(oi 9000 12))])),⟨l7_m14+1,l7_m5.set l7_m14 y13,rfl,rfl⟩,hn7⟩
  have q10_:=of_decide_eq_false q10
  refine awp_condF_ q10 ?_
  refine awp_exit_ (te_ (te_ (be_ (tn_ ?_))))
  obtain rfl:=zj h
  have h:=hn7
  (try dsimp only at h)
  obtain rfl:=zj h
  exact ⟨_,(weak_ren []),rfl⟩
 rintro l5_m5 _ rfl h
 (try dsimp only at h)
 refine awp_seqB h (fun (l16_m5:List (List Int)) S_=>S_=⟨mkTm [(5,(.own (oi 0 1) (.slice .int) 0 l16_m5.length))],mkOb (someL [((oi 0 1),.mat 23 (oi 1 1) .int l16_m5),((oi 1 1),.pool 3 .int l16_m5)]),2⟩) ?_ ?_
 ·intro v_ h
  refine seqR ?_
  refine awp_block_ ?_
  refine awp_loopL h (fun t_ S_=>∃ (l18_m27:Nat),∃ (l18_m5:List (List Int)),t_=(l18_m27,l18_m5)∧S_=⟨mkTm [(1,(ai a1)),(5,(.own (oi 0 1) (.slice .int) 0 l18_m5.length)),(25,(.tree (.pair .int (.pair .int .int)) a0_1)),(26,(ai ((a0_1.length:Nat):Int))),(27,(ai ((l18_m27:Nat):Int)))],mkOb (someL [((oi 0 1),.mat 23 (oi 1 1) .int l18_m5),((oi 1 1),.pool 3 .int l18_m5)]),2⟩) ⟨_,(weak_ren [((oi 0 1),(oi 1 1)),((oi 1 1),(oi 2 1))]),⟨0,l5_m5,rfl,rfl⟩⟩ ?_
  rintro n_ _ _ c_ ⟨l18_m27,l18_m5,rfl,rfl⟩ h hn18
  (try dsimp only at h)
  unfold L_impl_Network_laplacian_l2 at h
  unfold m_impl_Network_laplacian_l2
  refine seqR ?_
  refine awp_seqv_ ?_
  rcases cond_some h with ⟨q21,h⟩ | ⟨q21,h⟩
  ·have q21_:=of_decide_eq_true q21
   refine awp_condT_ q21 ?_
   refine awp_skip_ (tn_ ?_)
   refine wr_ ?_
   refine awp_seqv_ ?_
   refine awp_block_ ?_
   refine awp_seqv_ ?_
   obtain ⟨x24,e24,h⟩:=ob_some h
   refine awp_region_ 7 ?_
   refine rs0 (.telt (.pair .int (.pair .int .int)) x24 0) (zi (t:=(.pair .int (.pair .int .int))) (xs:=a0_1) (k:=.i64) (m:=((l18_m27:Nat):Int)) (nat_nn _) e24) ?_
   refine rsB 3 ?_
   refine rnil (tn_ ?_)
   refine wr_ ?_
   refine awp_seqv_ ?_
   obtain ⟨x26,f26,h⟩:=ob_some h
   obtain ⟨p26,b26,e26⟩:=getI_some f26
   obtain ⟨x27,f27,h⟩:=ob_some h
   obtain ⟨p27,b27,e27⟩:=getI_some f27
   obtain ⟨y28,h28,h⟩:=ob_some h
   refine awp_regionD_ 30 ?_
   refine dz0 (.own (oi 0 1) (.slice .int) 0 l18_m5.length) ?_
   refine dz0 (.box (oi 8 5) 0) ?_
   refine dzl (ai x24.1) ?_
   refine ds0 (.elt (oi 0 1) x24.1.toNat 0) (zo (t:=(.slice .int)) (o:=(oi 0 1)) (len:=l18_m5.length) (k:=.i64) (m:=x24.1) p26 (getN_lt e26)) ?_
   refine dsl (.own (kid (oi 1 1) x24.1.toNat) .int 0 x26.length) (s_ldM (o:=(oi 0 1)) (p:=(oi 1 1)) (e1:=23) (u:=.int) (xss:=l18_m5) (row:=x26) (j:=x24.1.toNat) (by kernel_rfl) (by kernel_rfl) e26) ?_
   refine dz0 (.box (oi 8 5) 0) ?_
   refine dzl (ai x24.1) ?_
   refine dz0 (ai a1) ?_
   refine dz0 (.own (oi 0 1) (.slice .int) 0 l18_m5.length) ?_
   refine dz0 (.box (oi 8 5) 0) ?_
   refine dzl (ai x24.1) ?_
   refine ds0 (.elt (oi 0 1) x24.1.toNat 0) (zo (t:=(.slice .int)) (o:=(oi 0 1)) (len:=l18_m5.length) (k:=.i64) (m:=x24.1) p26 (getN_lt e26)) ?_
   refine dsl (.own (kid (oi 1 1) x24.1.toNat) .int 0 x26.length) (s_ldM (o:=(oi 0 1)) (p:=(oi 1 1)) (e1:=23) (u:=.int) (xss:=l18_m5) (row:=x26) (j:=x24.1.toNat) (by kernel_rfl) (by kernel_rfl) e26) ?_
   refine dz0 (.box (oi 8 5) 0) ?_
   refine dzl (ai x24.1) ?_
   refine ds0 (.elt (kid (oi 1 1) x24.1.toNat) x24.1.toNat 0) (zo (t:=.int) (o:=(kid (oi 1 1) x24.1.toNat)) (len:=x26.length) (k:=.i64) (m:=x24.1) p27 (getN_lt e27)) ?_
   refine dsl (ai x27) (s_ldE (i:=(kid (oi 1 1) x24.1.toNat)) (j:=x24.1.toNat) (k:=0) (e:=3) (t:=.int) (xs:=x26) (by kernel_rfl) (only1.trans (mkOb_kid (by kernel_rfl) e26)) e27 (by kernel_rfl)) ?_
   refine dz0 (.box (oi 8 5) 2) ?_
   refine dzl (ai x24.2.2) ?_
   refine dz0 (ai (IntKind.i64.wrap (x27+x24.2.2))) ?_
   refine dcall (ai y28) [] [(ai a1),(ai (IntKind.i64.wrap (x27+x24.2.2)))] _ (caps:=[]) (args0:=[(ai a1),(ai (IntKind.i64.wrap (x27+x24.2.2)))]) trivial (by kernel_rfl) (ok_impl_mod h28) hb_impl_mod ?_
   refine ds0 (.elt (kid (oi 1 1) x24.1.toNat) x24.1.toNat 0) (zo (t:=.int) (o:=(kid (oi 1 1) x24.1.toNat)) (len:=x26.length) (k:=.i64) (m:=x24.1) p27 (getN_lt e27)) ?_
   refine dsn2 (kid (oi 1 1) x24.1.toNat) (kid (oi 1 1) x24.1.toNat) (.arr 3 .int (x26.set x24.1.toNat y28)) (s_stE (i:=(kid (oi 1 1) x24.1.toNat)) (j:=x24.1.toNat) (k:=0) (e:=3) (t:=.int) (xs:=x26) (cs:=[(ai y28)]) (x1:=y28) (by kernel_rfl) (only1.trans (mkOb_kid (by kernel_rfl) e26)) e27 (by kernel_rfl) (by kernel_rfl)) ?_
   refine xd_ob (ob_row (o:=(oi 0 1)) (p:=(oi 1 1)) (e1:=23) (e:=3) (u:=.int) (xss:=l18_m5) (k:=x24.1.toNat) (row:=x26) (row':=x26.set x24.1.toNat y28) (by kernel_rfl) rfl (by kernel_rfl) e26 List.length_set) ?_
   refine dnil (badB_spec (by kernel_rfl)) (tn_ ?_)
   refine wr_ ?_
   refine awp_seqv_ ?_
   obtain ⟨x30,f30,h⟩:=ob_some h
   obtain ⟨p30,b30,e30⟩:=getI_some f30
   obtain ⟨x31,f31,h⟩:=ob_some h
   obtain ⟨p31,b31,e31⟩:=getI_some f31
   obtain ⟨y32,h32,h⟩:=ob_some h
   refine awp_regionD_ 53 ?_
   refine dz0 (.own (oi 0 1) (.slice .int) 0 l18_m5.length) ?_
   refine dz0 (.box (oi 8 5) 1) ?_
   refine dzl (ai x24.2.1) ?_
   refine ds0 (.elt (oi 0 1) x24.2.1.toNat 0) (zo (t:=(.slice .int)) (o:=(oi 0 1)) (len:=l18_m5.length) (k:=.i64) (m:=x24.2.1) p30 (Nat.lt_of_lt_of_le (getN_lt e30) (Nat.le_of_eq (Eq.symm (Eq.trans (b:=l18_m5.length) rfl List.length_set.symm))))) ?_
   refine dsl (.own (kid (oi 1 1) x24.2.1.toNat) .int 0 x30.length) (s_ldM (o:=(oi 0 1)) (p:=(oi 1 1)) (e1:=23) (u:=.int) (xss:=l18_m5.set x24.1.toNat (x26.set x24.1.toNat y28)) (row:=x30) (j:=x24.2.1.toNat) (by kernel_rfl) (by kernel_rfl) e30) ?_
   refine dz0 (.box (oi 8 5) 1) ?_
   refine dzl (ai x24.2.1) ?_
   refine dz0 (ai a1) ?_
   refine dz0 (.own (oi 0 1) (.slice .int) 0 l18_m5.length) ?_
   refine dz0 (.box (oi 8 5) 1) ?_
   refine dzl (ai x24.2.1) ?_
   refine ds0 (.elt (oi 0 1) x24.2.1.toNat 0) (zo (t:=(.slice .int)) (o:=(oi 0 1)) (len:=l18_m5.length) (k:=.i64) (m:=x24.2.1) p30 (Nat.lt_of_lt_of_le (getN_lt e30) (Nat.le_of_eq (Eq.symm (Eq.trans (b:=l18_m5.length) rfl List.length_set.symm))))) ?_
   refine dsl (.own (kid (oi 1 1) x24.2.1.toNat) .int 0 x30.length) (s_ldM (o:=(oi 0 1)) (p:=(oi 1 1)) (e1:=23) (u:=.int) (xss:=l18_m5.set x24.1.toNat (x26.set x24.1.toNat y28)) (row:=x30) (j:=x24.2.1.toNat) (by kernel_rfl) (by kernel_rfl) e30) ?_
   refine dz0 (.box (oi 8 5) 1) ?_
   refine dzl (ai x24.2.1) ?_
   refine ds0 (.elt (kid (oi 1 1) x24.2.1.toNat) x24.2.1.toNat 0) (zo (t:=.int) (o:=(kid (oi 1 1) x24.2.1.toNat)) (len:=x30.length) (k:=.i64) (m:=x24.2.1) p31 (getN_lt e31)) ?_
   refine dsl (ai x31) (s_ldE (i:=(kid (oi 1 1) x24.2.1.toNat)) (j:=x24.2.1.toNat) (k:=0) (e:=3) (t:=.int) (xs:=x30) (by kernel_rfl) (only1.trans (mkOb_kid (by kernel_rfl) e30)) e31 (by kernel_rfl)) ?_
   refine dz0 (.box (oi 8 5) 2) ?_
   refine dzl (ai x24.2.2) ?_
   refine dz0 (ai (IntKind.i64.wrap (x31+x24.2.2))) ?_
   refine dcall (ai y32) [] [(ai a1),(ai (IntKind.i64.wrap (x31+x24.2.2)))] _ (caps:=[]) (args0:=[(ai a1),(ai (IntKind.i64.wrap (x31+x24.2.2)))]) trivial (by kernel_rfl) (ok_impl_mod h32) hb_impl_mod ?_
   refine ds0 (.elt (kid (oi 1 1) x24.2.1.toNat) x24.2.1.toNat 0) (zo (t:=.int) (o:=(kid (oi 1 1) x24.2.1.toNat)) (len:=x30.length) (k:=.i64) (m:=x24.2.1) p31 (getN_lt e31)) ?_
   refine dsn2 (kid (oi 1 1) x24.2.1.toNat) (kid (oi 1 1) x24.2.1.toNat) (.arr 3 .int (x30.set x24.2.1.toNat y32)) (s_stE (i:=(kid (oi 1 1) x24.2.1.toNat)) (j:=x24.2.1.toNat) (k:=0) (e:=3) (t:=.int) (xs:=x30) (cs:=[(ai y32)]) (x1:=y32) (by kernel_rfl) (only1.trans (mkOb_kid (by kernel_rfl) e30)) e31 (by kernel_rfl) (by kernel_rfl)) ?_
   refine xd_ob (ob_row (o:=(oi 0 1)) (p:=(oi 1 1)) (e1:=23) (e:=3) (u:=.int) (xss:=l18_m5.set x24.1.toNat (x26.set x24.1.toNat y28)) (k:=x24.2.1.toNat) (row:=x30) (row':=x30.set x24.2.1.toNat y32) (by kernel_rfl) rfl (by kernel_rfl) e30 List.length_set) ?_
   refine dnil (badB_spec (by kernel_rfl)) (tn_ ?_)
   refine wr_ ?_
   refine awp_seqv_ ?_
   obtain ⟨x34,f34,h⟩:=ob_some h
   obtain ⟨p34,b34,e34⟩:=getI_some f34
   obtain ⟨x35,f35,h⟩:=ob_some h
   obtain ⟨p35,b35,e35⟩:=getI_some f35
   obtain ⟨y36,h36,h⟩:=ob_some h
   refine awp_regionD_ 76 ?_
   refine dz0 (.own (oi 0 1) (.slice .int) 0 l18_m5.length) ?_
   refine dz0 (.box (oi 8 5) 0) ?_
   refine dzl (ai x24.1) ?_
   refine ds0 (.elt (oi 0 1) x24.1.toNat 0) (zo (t:=(.slice .int)) (o:=(oi 0 1)) (len:=l18_m5.length) (k:=.i64) (m:=x24.1) p34 (Nat.lt_of_lt_of_le (getN_lt e34) (Nat.le_of_eq (Eq.symm (Eq.trans (b:=(l18_m5.set x24.1.toNat (x26.set x24.1.toNat y28)).length) (Eq.trans (b:=l18_m5.length) rfl List.length_set.symm) List.length_set.symm))))) ?_
   refine dsl (.own (kid (oi 1 1) x24.1.toNat) .int 0 x34.length) (s_ldM (o:=(oi 0 1)) (p:=(oi 1 1)) (e1:=23) (u:=.int) (xss:=(l18_m5.set x24.1.toNat (x26.set x24.1.toNat y28)).set x24.2.1.toNat (x30.set x24.2.1.toNat y32)) (row:=x34) (j:=x24.1.toNat) (by kernel_rfl) (by kernel_rfl) e34) ?_
   refine dz0 (.box (oi 8 5) 1) ?_
   refine dzl (ai x24.2.1) ?_
   refine dz0 (ai a1) ?_
   refine dz0 (.own (oi 0 1) (.slice .int) 0 l18_m5.length) ?_
   refine dz0 (.box (oi 8 5) 0) ?_
   refine dzl (ai x24.1) ?_
   refine ds0 (.elt (oi 0 1) x24.1.toNat 0) (zo (t:=(.slice .int)) (o:=(oi 0 1)) (len:=l18_m5.length) (k:=.i64) (m:=x24.1) p34 (Nat.lt_of_lt_of_le (getN_lt e34) (Nat.le_of_eq (Eq.symm (Eq.trans (b:=(l18_m5.set x24.1.toNat (x26.set x24.1.toNat y28)).length) (Eq.trans (b:=l18_m5.length) rfl List.length_set.symm) List.length_set.symm))))) ?_
   refine dsl (.own (kid (oi 1 1) x24.1.toNat) .int 0 x34.length) (s_ldM (o:=(oi 0 1)) (p:=(oi 1 1)) (e1:=23) (u:=.int) (xss:=(l18_m5.set x24.1.toNat (x26.set x24.1.toNat y28)).set x24.2.1.toNat (x30.set x24.2.1.toNat y32)) (row:=x34) (j:=x24.1.toNat) (by kernel_rfl) (by kernel_rfl) e34) ?_
   refine dz0 (.box (oi 8 5) 1) ?_
   refine dzl (ai x24.2.1) ?_
   refine ds0 (.elt (kid (oi 1 1) x24.1.toNat) x24.2.1.toNat 0) (zo (t:=.int) (o:=(kid (oi 1 1) x24.1.toNat)) (len:=x34.length) (k:=.i64) (m:=x24.2.1) p35 (getN_lt e35)) ?_
   refine dsl (ai x35) (s_ldE (i:=(kid (oi 1 1) x24.1.toNat)) (j:=x24.2.1.toNat) (k:=0) (e:=3) (t:=.int) (xs:=x34) (by kernel_rfl) (only1.trans (mkOb_kid (by kernel_rfl) e34)) e35 (by kernel_rfl)) ?_
   refine dz0 (.box (oi 8 5) 2) ?_
   refine dzl (ai x24.2.2) ?_
   refine dz0 (ai (IntKind.i64.wrap (x35 - x24.2.2))) ?_
   refine dcall (ai y36) [] [(ai a1),(ai (IntKind.i64.wrap (x35 - x24.2.2)))] _ (caps:=[]) (args0:=[(ai a1),(ai (IntKind.i64.wrap (x35 - x24.2.2)))]) trivial (by kernel_rfl) (ok_impl_mod h36) hb_impl_mod ?_
   refine ds0 (.elt (kid (oi 1 1) x24.1.toNat) x24.2.1.toNat 0) (zo (t:=.int) (o:=(kid (oi 1 1) x24.1.toNat)) (len:=x34.length) (k:=.i64) (m:=x24.2.1) p35 (getN_lt e35)) ?_
   refine dsn2 (kid (oi 1 1) x24.1.toNat) (kid (oi 1 1) x24.1.toNat) (.arr 3 .int (x34.set x24.2.1.toNat y36)) (s_stE (i:=(kid (oi 1 1) x24.1.toNat)) (j:=x24.2.1.toNat) (k:=0) (e:=3) (t:=.int) (xs:=x34) (cs:=[(ai y36)]) (x1:=y36) (by kernel_rfl) (only1.trans (mkOb_kid (by kernel_rfl) e34)) e35 (by kernel_rfl) (by kernel_rfl)) ?_
   refine xd_ob (ob_row (o:=(oi 0 1)) (p:=(oi 1 1)) (e1:=23) (e:=3) (u:=.int) (xss:=(l18_m5.set x24.1.toNat (x26.set x24.1.toNat y28)).set x24.2.1.toNat (x30.set x24.2.1.toNat y32)) (k:=x24.1.toNat) (row:=x34) (row':=x34.set x24.2.1.toNat y36) (by kernel_rfl) rfl (by kernel_rfl) e34 List.length_set) ?_
   refine dnil (badB_spec (by kernel_rfl)) (tn_ ?_)
   refine wr_ ?_
   obtain ⟨x37,f37,h⟩:=ob_some h
   obtain ⟨p37,b37,e37⟩:=getI_some f37
   obtain ⟨x38,f38,h⟩:=ob_some h
   obtain ⟨p38,b38,e38⟩:=getI_some f38
   obtain ⟨y39,h39,h⟩:=ob_some h
   refine awp_regionD_ 99 ?_
   refine dz0 (.own (oi 0 1) (.slice .int) 0 l18_m5.length) ?_
   refine dz0 (.box (oi 8 5) 1) ?_
   refine dzl (ai x24.2.1) ?_
   refine ds0 (.elt (oi 0 1) x24.2.1.toNat 0) (zo (t:=(.slice .int)) (o:=(oi 0 1)) (len:=l18_m5.length) (k:=.i64) (m:=x24.2.1) p37 (Nat.lt_of_lt_of_le (getN_lt e37) (Nat.le_of_eq (Eq.symm (Eq.trans (b:=((l18_m5.set x24.1.toNat (x26.set x24.1.toNat y28)).set x24.2.1.toNat (x30.set x24.2.1.toNat y32)).length) (Eq.trans (b:=(l18_m5.set x24.1.toNat (x26.set x24.1.toNat y28)).length) (Eq.trans (b:=l18_m5.length) rfl List.length_set.symm) List.length_set.symm) List.length_set.symm))))) ?_
   refine dsl (.own (kid (oi 1 1) x24.2.1.toNat) .int 0 x37.length) (s_ldM (o:=(oi 0 1)) (p:=(oi 1 1)) (e1:=23) (u:=.int) (xss:=((l18_m5.set x24.1.toNat (x26.set x24.1.toNat y28)).set x24.2.1.toNat (x30.set x24.2.1.toNat y32)).set x24.1.toNat (x34.set x24.2.1.toNat y36)) (row:=x37) (j:=x24.2.1.toNat) (by kernel_rfl) (by kernel_rfl) e37) ?_
   refine dz0 (.box (oi 8 5) 0) ?_
   refine dzl (ai x24.1) ?_
   refine dz0 (ai a1) ?_
   refine dz0 (.own (oi 0 1) (.slice .int) 0 l18_m5.length) ?_
   refine dz0 (.box (oi 8 5) 1) ?_
   refine dzl (ai x24.2.1) ?_
   refine ds0 (.elt (oi 0 1) x24.2.1.toNat 0) (zo (t:=(.slice .int)) (o:=(oi 0 1)) (len:=l18_m5.length) (k:=.i64) (m:=x24.2.1) p37 (Nat.lt_of_lt_of_le (getN_lt e37) (Nat.le_of_eq (Eq.symm (Eq.trans (b:=((l18_m5.set x24.1.toNat (x26.set x24.1.toNat y28)).set x24.2.1.toNat (x30.set x24.2.1.toNat y32)).length) (Eq.trans (b:=(l18_m5.set x24.1.toNat (x26.set x24.1.toNat y28)).length) (Eq.trans (b:=l18_m5.length) rfl List.length_set.symm) List.length_set.symm) List.length_set.symm))))) ?_
   refine dsl (.own (kid (oi 1 1) x24.2.1.toNat) .int 0 x37.length) (s_ldM (o:=(oi 0 1)) (p:=(oi 1 1)) (e1:=23) (u:=.int) (xss:=((l18_m5.set x24.1.toNat (x26.set x24.1.toNat y28)).set x24.2.1.toNat (x30.set x24.2.1.toNat y32)).set x24.1.toNat (x34.set x24.2.1.toNat y36)) (row:=x37) (j:=x24.2.1.toNat) (by kernel_rfl) (by kernel_rfl) e37) ?_
   refine dz0 (.box (oi 8 5) 0) ?_
   refine dzl (ai x24.1) ?_
   refine ds0 (.elt (kid (oi 1 1) x24.2.1.toNat) x24.1.toNat 0) (zo (t:=.int) (o:=(kid (oi 1 1) x24.2.1.toNat)) (len:=x37.length) (k:=.i64) (m:=x24.1) p38 (getN_lt e38)) ?_
   refine dsl (ai x38) (s_ldE (i:=(kid (oi 1 1) x24.2.1.toNat)) (j:=x24.1.toNat) (k:=0) (e:=3) (t:=.int) (xs:=x37) (by kernel_rfl) (only1.trans (mkOb_kid (by kernel_rfl) e37)) e38 (by kernel_rfl)) ?_
   refine dz0 (.box (oi 8 5) 2) ?_
   refine dzl (ai x24.2.2) ?_
   refine dz0 (ai (IntKind.i64.wrap (x38 - x24.2.2))) ?_
   refine dcall (ai y39) [] [(ai a1),(ai (IntKind.i64.wrap (x38 - x24.2.2)))] _ (caps:=[]) (args0:=[(ai a1),(ai (IntKind.i64.wrap (x38 - x24.2.2)))]) trivial (by kernel_rfl) (ok_impl_mod h39) hb_impl_mod ?_
   refine ds0 (.elt (kid (oi 1 1) x24.2.1.toNat) x24.1.toNat 0) (zo (t:=.int) (o:=(kid (oi 1 1) x24.2.1.toNat)) (len:=x37.length) (k:=.i64) (m:=x24.1) p38 (getN_lt e38)) ?_
   refine dsn2 (kid (oi 1 1) x24.2.1.toNat) (kid (oi 1 1) x24.2.1.toNat) (.arr 3 .int (x37.set x24.1.toNat y39)) (s_stE (i:=(kid (oi 1 1) x24.2.1.toNat)) (j:=x24.1.toNat) (k:=0) (e:=3) (t:=.int) (xs:=x37) (cs:=[(ai y39)]) (x1:=y39) (by kernel_rfl) (only1.trans (mkOb_kid (by kernel_rfl) e37)) e38 (by kernel_rfl) (by kernel_rfl)) ?_
   refine xd_ob (ob_row (o:=(oi 0 1)) (p:=(oi 1 1)) (e1:=23) (e:=3) (u:=.int) (xss:=((l18_m5.set x24.1.toNat (x26.set x24.1.toNat y28)).set x24.2.1.toNat (x30.set x24.2.1.toNat y32)).set x24.1.toNat (x34.set x24.2.1.toNat y36)) (k:=x24.2.1.toNat) (row:=x37) (row':=x37.set x24.1.toNat y39) (by kernel_rfl) rfl (by kernel_rfl) e37 List.length_set) ?_
   refine dnil (badB_spec (by kernel_rfl)) (bn_ (tn_ ?_))
   refine wr_ ?_
   obtain ⟨g40,h⟩:=og_some h
   refine awp_region_ 101 ?_
   refine rs0 (ai ((l18_m27+1:Nat):Int)) (za g40) ?_
   refine rsB 1 ?_
   refine rnil (tn_ ?_)
   obtain rfl:=zj h
   exact ⟨(l18_m27+1,(((l18_m5.set x24.1.toNat (x26.set x24.1.toNat y28)).set x24.2.1.toNat (x30.set x24.2.1.toNat y32)).set x24.1.toNat (x34.set x24.2.1.toNat y36)).set x24.2.1.toNat (x37.set x24.1.toNat y39)),_,((weak_tm_ 5 (.own (oi 0 1) (.slice .int) 0 l18_m5.length) (.own (oi 0 1) (.slice .int) 0 (((((l18_m5.set x24.1.toNat (x26.set x24.1.toNat y28)).set x24.2.1.toNat (x30.set x24.2.1.toNat y32)).set x24.1.toNat (x34.set x24.2.1.toNat y36)).set x24.2.1.toNat (x37.set x24.1.toNat y39)).length)) (by kernel_rfl) (congrArg (fun z_=>((.own (oi 0 1) (.slice .int) 0 z_):AV)) ((Eq.trans (b:=(((l18_m5.set x24.1.toNat (x26.set x24.1.toNat y28)).set x24.2.1.toNat (x30.set x24.2.1.toNat y32)).set x24.1.toNat (x34.set x24.2.1.toNat y36)).length) (Eq.trans (b:=((l18_m5.set x24.1.toNat (x26.set x24.1.toNat y28)).set x24.2.1.toNat (x30.set x24.2.1.toNat y32)).length) (Eq.trans (b:=(l18_m5.set x24.1.toNat (x26.set x24.1.toNat y28)).length) (Eq.trans (b:=l18_m5.length) rfl List.length_set.symm) List.length_set.symm) List.length_set.symm) List.length_set.symm):l18_m5.length=((((l18_m5.set x24.1.toNat (x26.set x24.1.toNat y28)).set x24.2.1.toNat (x30.set x24.2.1.toNat y32)).set x24.1.toNat (x34.set x24.2.1.toNat y36)).set x24.2.1.toNat (x37.set x24.1.toNat y39)).length))).trans (weak_ren [])),⟨l18_m27+1,(((l18_m5.set x24.1.toNat (x26.set x24.1.toNat y28)).set x24.2.1.toNat (x30.set x24.2.1.toNat y32)).set x24.1.toNat (x34.set x24.2.1.toNat y36)).set x24.2.1.toNat (x37.set x24.1.toNat y39),rfl,rfl⟩,hn18⟩
  have q21_:=of_decide_eq_false q21
  refine awp_condF_ q21 ?_
  refine awp_exit_ (te_ (te_ (be_ (tn_ ?_))))
  obtain rfl:=zj h
  have h:=hn18
  (try dsimp only at h)
  obtain rfl:=zj h
  exact ⟨_,(weak_ren []),rfl⟩
 rintro l16_m5 _ rfl h
 (try dsimp only at h)
 refine seqR ?_
 refine awp_ret_ ?_
 obtain rfl:=zj h
 exact retM_ [(.own (oi 0 1) (.slice .int) 0 l16_m5.length)] (weak_ren (tl:=[(4,(.own (oi 0 1) (.slice .int) 0 l16_m5.length))]) (g:=2) [])
end Go.Proofs.YtkaollfdhoaihaaDoor
namespace Go.Proofs.YtkaollfdhoaihaaDoor
open Go.RowKit Go.Deep
theorem gd_matS {n:Nat} {ob:Oid->Option Ob} {o p:Oid} {e1 e:TypeId} {u:Ty} {xss ys:List (List u.D)} {off len:Nat} (ho:ob o=some (.vec e1 1 xss.length (hdL p u xss))) (hk:∀ k row,xss[k]? =some row->ob (kid p k)=some (.arr e u row))
  (hl:off+len<=xss.length) (hy:(xss.drop off).take len=ys):gnd ob (n+1) (.own o (.slice u) off len)=some (.tree (.slice u) ys):=by
 subst hy
 have hlen:((xss.drop off).take len).length=len:=by rw [List.length_take,List.length_drop]; omega
 have key:vecD ob 1 (rdC ob (.slice u)) (.own o (.slice u) off len)=some ((xss.drop off).take len):=by
  simp only [vecD,ho]
  rw [if_pos ⟨trivial,hl⟩]
  have:=chunks_one (g:=rdC ob (.slice u)) (cs:=((hdL p u xss).drop (off*1)).take (len*1)) (xs:=(xss.drop off).take len) (by simp only [Nat.mul_one,List.length_take,List.length_drop,hdL_len]) (fun k c x hc hx=>by
   rw [List.getElem?_take,List.getElem?_drop] at hx
   rw [Nat.mul_one,Nat.mul_one,List.getElem?_take,List.getElem?_drop,hdL_get] at hc
   split at hx
   ·rename_i hkl
    rw [if_pos hkl,hx] at hc
    obtain rfl:=Option.some.inj hc
    have:=hk _ x hx
    simp only [rdC,srcOf,this,Nat.zero_add,Nat.le_refl,if_true,Ty.eq?_self,castL_self,List.drop_zero,List.take_length]
   ·cases hx)
  rw [hlen] at this
  exact this
 simp only [gnd,ho,Ty.size,key,Option.map_some]
theorem weak_frz {S:St} {ob' obD:Oid->Option Ob} {tm':Nat->AV} (h1:∀ i o,ob' i=some o->S.ob i=some o) (h2:∀ i o,obD i=some o->S.ob i=some o∧ob' i=none) (h3:∀ t,tm' t=S.tm t∨∃ n,gnd obD n (S.tm t)=some (tm' t)):Weak S ⟨tm',ob',S.gen⟩:=by
 intro G w0 B N a w hr
 obtain ⟨σ,hm,hf,hB⟩:=hr.ex
 have him:∀ b,imm S.ob σ b->imm ob' σ b:=fun b hb i o c s ho=>hb i o c s (h1 i o ho)
 have hL:Later σ σ (imm S.ob σ) (imm ob' σ) w w:=⟨fun _ _ h=>h,fun b _ hb=>him b hb,fun _ _ _=>rfl,Nat.le_refl _⟩
 refine ⟨⟨σ,⟨hm.below,hm.inv,hm.gen,hm.lt,hm.cap,fun i j b c s c' s' o o' hi hj=>hm.inj i j b c s c' s' o o' (h1 i o hi) (h1 j o' hj),fun i o l hi hl=>(hm.obs i o l (h1 i o hi) hl).later hL fun _ _ _ _=>rfl⟩,fun t=>?_,hB.trans hL⟩,hr.size,hr.defers,fun i hi=>?_⟩
 ·rcases h3 t with e | ⟨n,e⟩
  ·show AV.Rep σ (imm ob' σ) w (tm' t) _
   rw [e]
   exact AV.Rep.later hL _ _ (hf t)
  ·refine gnd_repW (ob:=obD) (lo:=w0.heap.size) (im:=imm S.ob σ) (fun i o l ho hl=>hm.obs i o l (h2 i o ho).1 hl) him (fun i o b c s ho hs j o' c' s' hj hs'=>?_) n _ _ _ e (hf t)
   have:=hm.inj i j b c s c' s' o o' (h2 i o ho).1 (h1 j o' hj) hs hs'
   subst this
   rw [(h2 _ o ho).2] at hj
   cases hj
 ·refine hr.obg i fun hn=>hi ?_
  cases ho:ob' i with
  | none=>exact ho
  | some o=>rw [h1 i o ho] at hn; cases hn
theorem weak_frzM_ {tl:List (Nat×AV)} {ol:List (Oid×Option Ob)} {g:Nat} (d:Nat) (o p:Oid) {e1 e:TypeId} {u:Ty} {xss:List (List u.D)} {len:Nat} (hd:mkTm tl d=.own o (.slice u) 0 len) (ho:mkOb ol o=some (.vec e1 1 xss.length (hdL p u xss))) (hp:poolAt ol p=some (.pool e u xss)) (hl:len=xss.length) :
  Weak ⟨mkTm tl,mkOb ol,g⟩ ⟨mkTm ((d,.tree (.slice u) xss) :: tl),mkOb ((o,none) :: (p,some (.pool e u [])) :: ol),g⟩:=by
 refine weak_frz (S:=⟨mkTm tl,mkOb ol,g⟩) (obD:=fun i=>if i=o∨(i.1.1=p.1.1∧i.2=p.2∧i.1.2≠0) then mkOb ol i else none) (fun i x hx=>?_) (fun i x hx=>?_) fun t=>?_
 ·rw [kill_none,kill_pool] at hx
  split at hx
  ·cases hx
  ·split at hx
   ·cases hx
   ·exact hx
 ·split at hx
  ·rename_i hc
   refine ⟨hx,?_⟩
   rw [kill_none,kill_pool]
   rcases hc with h | h
   ·rw [if_pos h]
   ·rw [if_pos h,ite_self]
  ·cases hx
 ·by_cases ht:t=d
  ·subst ht
   refine .inr ⟨1,?_⟩
   show gnd _ 1 (mkTm tl t)=some (mkTm _ t)
   rw [hd,show mkTm ((t,AV.tree (.slice u) xss) :: tl) t=.tree (.slice u) xss from if_pos rfl]
   refine gd_mat (p:=p) (e1:=e1) (e:=e) ?_ (fun k row hx=>?_) hl
   ·rw [if_pos (.inl rfl)]; exact ho
   ·rw [if_pos (.inr ⟨rfl,rfl,by simp [kid]⟩)]; exact mkOb_kid hp hx
  ·exact .inl (if_neg ht)
end Go.Proofs.YtkaollfdhoaihaaDoor
namespace Go.Proofs.YtkaollfdhoaihaaDoor
open Go.RowKit Go.Deep
set_option maxRecDepth 4000
def m_spec_spLead_l1:AC :=
 (.seq (.seq (rg [xo 4 (qm (tm 3)),xo 5 (qm (tm 0)),xo 6 (.i (.len (tm 5))),xo 7 (qb .lss (tm 4) (tm 6)),xo 8 (qm (tm 7)),⟨(some 9),(some (8,true)),(qm (tm 0))⟩,⟨(some 10),(some (8,true)),(qm (tm 3))⟩,⟨(some 11),(some (8,true)),(qx 1 (tm 9) (tm 10))⟩,⟨(some 12),(some (8,true)),(ql (tm 11))⟩,⟨(some 13),(some (8,true)),(qb .eql (tm 12) (ci 0))⟩,xo 14 (.i (.pick (tm 8) (tm 13) (cb false)))])
 (.cond (tm 14)
  .skip
  (.exit 0)))
 (.block 1 (rg [xo 15 (qm (tm 3)),xo 16 (qb .add (tm 15) (ci 1)),xo 3 (qm (tm 16))])))
def m_spec_spLead:AC :=
 (.seq (rg [xo 2 (qm (ci 0))])
 (.seq (rg [xo 3 (qm (ci 0))])
 (.seq (.block 0 (.loop m_spec_spLead_l1))
 (.seq (rg [xo 17 (qm (tm 3)),xo 2 (qm (tm 17))])
 .ret))))
def r_spec_spLead:List Res:=[.tmp 2]
theorem c_spec_spLead:compiled Tryd.prog Tryd.f47=some (m_spec_spLead,r_spec_spLead):=by kernel_rfl
theorem hb_spec_spLead:hasBody Tryd.prog 47=true:=by kernel_rfl
def L_spec_spLead_l1 (a0:List Int) (l4_m3:Nat):Option (Ctl Nat Nat) :=
 Option.bind (cond (decide (((l4_m3:Nat):Int)<((a0.length:Nat):Int)))
  (Option.bind (a0[l4_m3]?) fun x8 =>
  some (x8==0))
  (some false)) fun l6_m14 =>
cond l6_m14
 (og (l4_m3+1<4611686018427387904) <|
 some (Ctl.next (l4_m3+1)))
 (some (Ctl.out l4_m3))
def L_spec_spLead (a0:List Int):Option Int :=
 Option.bind (loopM (fun s_:Nat=>L_spec_spLead_l1 a0 s_) 4611686018427387904 0) fun l3_m3 =>
some ((l3_m3:Nat):Int)
def rv_spec_spLead (r:Int):RV:=⟨false,[(false,[.sc (.int .i64 r)])]⟩
theorem ok_spec_spLead {a0:List Int} {r:Int} (h:L_spec_spLead a0=some r):CallOK Tryd.prog Tab 47 [(.tree .int a0)] (rv_spec_spLead r):=by
 refine call_of_ (by kernel_rfl) Tryd.func47 c_spec_spLead (n:=18) (by kernel_rfl) (by simp) (tl:=[(0,(.tree .int a0))]) rfl ?_
 unfold m_spec_spLead
 unfold L_spec_spLead at h
 refine seqR ?_
 refine seqR ?_
 refine awp_seqB h (fun (l3_m3:Nat) S_=>S_=⟨mkTm [(3,(ai ((l3_m3:Nat):Int)))],mkOb (someL []),2⟩) ?_ ?_
 ·intro v_ h
  refine awp_block_ ?_
  refine awp_loopL h (fun (l4_m3:Nat) S_=>S_=⟨mkTm [(0,(.tree .int a0)),(3,(ai ((l4_m3:Nat):Int)))],mkOb (someL []),2⟩) ⟨_,(weak_ren []),rfl⟩ ?_
  rintro n_ l4_m3 _ c_ rfl h hn4
  (try dsimp only at h)
  unfold L_spec_spLead_l1 at h
  unfold m_spec_spLead_l1
  refine awp_seqv_ ?_
  refine awp_seqB h (fun (l6_m14:Bool) S_=>S_=⟨mkTm [(0,(.tree .int a0)),(3,(ai ((l4_m3:Nat):Int))),(14,(.bool l6_m14))],mkOb (someL []),2⟩) ?_ ?_
  ·intro v_ h
   rcases cond_some h with ⟨q7,h⟩ | ⟨q7,h⟩
   ·have q7_:=of_decide_eq_true q7
    obtain ⟨x8,e8,h⟩:=ob_some h
    refine awp_region_ 13 ?_
    refine rz0 (ai ((l4_m3:Nat):Int)) ?_
    refine rz0 (.tree .int a0) ?_
    refine rz0 (ai ((a0.length:Nat):Int)) ?_
    refine rz0 (.bool (decide (((l4_m3:Nat):Int)<((a0.length:Nat):Int)))) ?_
    refine rz0 (.bool (decide (((l4_m3:Nat):Int)<((a0.length:Nat):Int)))) ?_
    refine rs0 (.tree .int a0) (zg q7) ?_
    refine rs0 (ai ((l4_m3:Nat):Int)) (zg q7) ?_
    refine rs0 (.telt .int x8 0) (s_gd (by kernel_rfl) q7 (zi (t:=.int) (xs:=a0) (k:=.i64) (m:=((l4_m3:Nat):Int)) (nat_nn _) e8)) ?_
    refine rs0 (ai x8) (zg q7) ?_
    refine rs0 (.bool (x8==0)) (zg q7) ?_
    refine rs0 (.bool (x8==0)) (zT q7) ?_
    refine rnil (tn_ ?_)
    obtain rfl:=zj h
    exact ⟨_,(weak_ren []),rfl⟩
   have q7_:=of_decide_eq_false q7
   refine awp_region_ 13 ?_
   refine rz0 (ai ((l4_m3:Nat):Int)) ?_
   refine rz0 (.tree .int a0) ?_
   refine rz0 (ai ((a0.length:Nat):Int)) ?_
   refine rz0 (.bool (decide (((l4_m3:Nat):Int)<((a0.length:Nat):Int)))) ?_
   refine rz0 (.bool (decide (((l4_m3:Nat):Int)<((a0.length:Nat):Int)))) ?_
   refine zs q7 ?_
   refine zs q7 ?_
   refine zs q7 ?_
   refine zs q7 ?_
   refine zs q7 ?_
   refine rs0 (.bool false) (zF q7) ?_
   refine rnil (tn_ ?_)
   obtain rfl:=zj h
   exact ⟨_,(weak_ren []),rfl⟩
  rintro l6_m14 _ rfl h
  (try dsimp only at h)
  rcases cond_some h with ⟨q9,h⟩ | ⟨q9,h⟩
  ·refine awp_condT_ q9 ?_
   refine awp_skip_ (tn_ ?_)
   refine wr_ ?_
   refine awp_block_ ?_
   obtain ⟨g10,h⟩:=og_some h
   refine awp_region_ 5 ?_
   refine rz0 (ai ((l4_m3:Nat):Int)) ?_
   refine rs0 (ai ((l4_m3+1:Nat):Int)) (za g10) ?_
   refine rsB 1 ?_
   refine rnil (bn_ (tn_ ?_))
   obtain rfl:=zj h
   exact ⟨l4_m3+1,_,(weak_ren []),rfl,hn4⟩
  refine awp_condF_ q9 ?_
  refine awp_exit_ (te_ (te_ (be_ (tn_ ?_))))
  obtain rfl:=zj h
  have h:=hn4
  (try dsimp only at h)
  obtain rfl:=zj h
  exact ⟨_,(weak_ren []),rfl⟩
 rintro l3_m3 _ rfl h
 (try dsimp only at h)
 refine seqR ?_
 refine awp_ret_ ?_
 obtain rfl:=zj h
 exact ret_ [(ai ((l3_m3:Nat):Int))] (p_one rfl zl p_nil)
def m_spec_spNull_l4:AC :=
 (.seq (rg [xo 63 (qb .lss (tm 62) (tm 61))])
 (.seq (.cond (tm 63)
  .skip
  (.exit 6))
 (.seq (.block 7 (.seq (rg [xo 64 (qm (tm 62)),xo 65 (qx 1 (tm 60) (tm 62)),xo 66 (ql (tm 65)),xo 15 (qm (tm 64)),xo 16 (qm (tm 66))])
 (.region [xo 67 (qm (tm 14)),xo 68 (qm (tm 7)),xo 69 (qm (tm 15)),xo 70 (qx 1 (tm 68) (tm 69)),xo 71 (ql (tm 70)),xo 72 (qc 47 [(tm 71)] [[(some .int)]]),xo 73 (qm (tm 0)),xo 74 (qm (tm 16)),xo 75 (qm (tm 13)),xo 76 (qx 1 (tm 74) (tm 75)),xo 77 (ql (tm 76)),xo 78 (qc 76 [(tm 73),(tm 77)] [[],[]]),xo 79 (qx 1 (tm 67) (tm 72)),xn (qs (tm 79) (tm 78))] true [(5,10)])))
 (rg [xo 80 (qb .add (tm 62) (ci 1)),xo 62 (qm (tm 80))]))))
def m_spec_spNull_l3:AC :=
 (.seq (.seq (rg [xo 45 (qm (tm 13)),xo 46 (qm (tm 1)),xo 47 (qb .lss (tm 45) (tm 46))])
 (.cond (tm 47)
  .skip
  (.exit 4)))
 (.seq (.block 5 (.seq (.seq (rg [xo 50 (qm (tm 8)),xo 51 (qm (tm 13)),xo 52 (qx 1 (tm 50) (tm 51)),xo 53 (ql (tm 52)),xo 54 (qb .geq (tm 53) (ci 0))])
 (.cond (tm 54)
  (.exit 5)
  .skip))
 (.seq (rg [xo 55 (qm (tm 1)),xo 56 (.make 3 .int 8 (tm 55) (tm 55)),xo 14 (qm (tm 56))])
 (.seq (rg [xo 57 (qm (tm 14)),xo 58 (qm (tm 13)),xo 59 (qx 1 (tm 57) (tm 58)),xn (qs (tm 59) (ci 1))])
 (.seq (.seq (rg [xo 60 (qm (tm 7)),xo 61 (.i (.len (tm 60))),xo 62 (qm (ci 0))])
 (.block 6 (.loop m_spec_spNull_l4)))
 (rg [xo 81 (qm (tm 12)),xo 82 (qm (tm 14)),xo 83 (.mkV 23 (.slice .int) 1 [(tm 82)]),xo 84 (.appV 23 (.slice .int) 24 (tm 81) (tm 83)),xo 12 (qm (tm 84))]))))))
 (rg [xo 48 (qm (tm 13)),xo 49 (qb .add (tm 48) (ci 1)),xo 13 (qm (tm 49))])))
def m_spec_spNull_l2:AC :=
 (.seq (rg [xo 35 (qb .lss (tm 34) (tm 33))])
 (.seq (.cond (tm 35)
  .skip
  (.exit 2))
 (.seq (.block 3 (.seq (rg [xo 36 (qm (tm 34)),xo 37 (qx 1 (tm 32) (tm 34)),xo 38 (ql (tm 37)),xo 10 (qm (tm 36)),xo 11 (qm (tm 38))])
 (rg [xo 39 (qm (tm 8)),xo 40 (qm (tm 11)),xo 41 (qc 47 [(tm 40)] [[(some .int)]]),xo 42 (qm (tm 10)),xo 43 (qx 1 (tm 39) (tm 41)),xn (qs (tm 43) (tm 42))])))
 (rg [xo 44 (qb .add (tm 34) (ci 1)),xo 34 (qm (tm 44))]))))
def m_spec_spNull_l1:AC :=
 (.seq (rg [xo 26 (qb .lss (tm 25) (tm 24))])
 (.seq (.cond (tm 26)
  .skip
  (.exit 0))
 (.seq (.block 1 (.seq (rg [xo 27 (qm (tm 25)),xo 9 (qm (tm 27))])
 (rg [xo 28 (qm (tm 8)),xo 29 (qm (tm 9)),xo 30 (qx 1 (tm 28) (tm 29)),xn (qs (tm 30) (ci (-1)))])))
 (rg [xo 31 (qb .add (tm 25) (ci 1)),xo 25 (qm (tm 31))]))))
def m_spec_spNull:AC :=
 (.seq (rg [xo 6 (qm (.cst .nils))])
 (.seq (rg [xo 17 (qm (tm 0)),xo 18 (qm (tm 1)),xo 19 (qm (tm 2)),xo 20 (qc 45 [(tm 17),(tm 18),(tm 19)] [[],[],[(some (.slice .int))]]),xo 7 (qm (tm 20))])
 (.seq (rg [xo 21 (qm (tm 1)),xo 22 (.make 3 .int 8 (tm 21) (tm 21)),xo 8 (qm (tm 22))])
 (.seq (.seq (rg [xo 23 (qm (tm 8)),xo 24 (.i (.len (tm 23))),xo 25 (qm (ci 0))])
 (.block 0 (.loop m_spec_spNull_l1)))
 (.seq (.seq (rg [xo 32 (qm (tm 7)),xo 33 (.i (.len (tm 32))),xo 34 (qm (ci 0))])
 (.block 2 (.loop m_spec_spNull_l2)))
 (.seq (rg [xo 12 (qm (.cst .nils))])
 (.seq (.seq (rg [xo 13 (qm (ci 0))])
 (.block 4 (.loop m_spec_spNull_l3)))
 (.seq (rg [xo 85 (qm (tm 0)),xo 86 (qm (tm 1)),xo 87 (qm (tm 12)),xo 88 (qc 45 [(tm 85),(tm 86),(tm 87)] [[],[],[(some (.slice .int))]]),xo 6 (qm (tm 88))])
 .ret))))))))
def r_spec_spNull:List Res:=[.tmp 6]
theorem c_spec_spNull:compiled Tryd.prog Tryd.f43=some (m_spec_spNull,r_spec_spNull):=by kernel_rfl
theorem hb_spec_spNull:hasBody Tryd.prog 43=true:=by kernel_rfl
def L_spec_spNull_l1 (a1:Int) (l9_m25:Nat) (l9_m8:List Int):Option (Ctl (Nat×List Int) (List Int)) :=
 cond (decide (((l9_m25:Nat):Int)<((a1.toNat:Nat):Int)))
 (Option.bind (l9_m8[l9_m25]?) fun x15 =>
 og (l9_m25+1<4611686018427387904) <|
 some (Ctl.next (l9_m25+1,l9_m8.set l9_m25 (-1))))
 (some (Ctl.out l9_m8))
def L_spec_spNull_l2 (y4:List (List Int)) (l19_m34:Nat) (l19_m8:List Int):Option (Ctl (Nat×List Int) (List Int)) :=
 cond (decide (((l19_m34:Nat):Int)<((y4.length:Nat):Int)))
 (Option.bind (y4[l19_m34]?) fun x25 =>
 Option.bind (L_spec_spLead x25) fun y26 =>
 Option.bind (getI l19_m8 y26) fun x27 =>
 og (l19_m34+1<4611686018427387904) <|
 some (Ctl.next (l19_m34+1,l19_m8.set y26.toNat ((l19_m34:Nat):Int))))
 (some (Ctl.out l19_m8))
def L_spec_spNull_l4 (y4:List (List Int)) (l32_m13:Nat) (a0:Int) (l47_m62:Nat) (l47_m14:List Int):Option (Ctl (Nat×List Int) (List Int)) :=
 cond (decide (((l47_m62:Nat):Int)<((y4.length:Nat):Int)))
 (Option.bind (y4[l47_m62]?) fun x53 =>
 Option.bind (L_spec_spLead x53) fun y54 =>
 Option.bind (x53[l32_m13]?) fun x55 =>
 Option.bind (L_spec_fdNeg a0 x55) fun y56 =>
 Option.bind (getI l47_m14 y54) fun x57 =>
 og (l47_m62+1<4611686018427387904) <|
 some (Ctl.next (l47_m62+1,l47_m14.set y54.toNat y56)))
 (some (Ctl.out l47_m14))
def L_spec_spNull_l3 (a1:Int) (l17_m8:List Int) (y4:List (List Int)) (a0:Int) (l32_m13:Nat) (l32_m12:List (List Int)):Option (Ctl (Nat×List (List Int)) (List (List Int))) :=
 cond (decide (((l32_m13:Nat):Int)<a1))
 (Option.bind (Option.bind (l17_m8[l32_m13]?) fun x39 =>
  cond (decide (0<=x39))
   (some l32_m12)
   (og (0<=a1∧a1<=a1∧a1<=1073741824∧(8:Int)*a1<=140737488355328) <|
   Option.bind ((List.replicate a1.toNat (0:Int))[l32_m13]?) fun x44 =>
   Option.bind (loopM (fun s_:Nat×List Int=>L_spec_spNull_l4 y4 l32_m13 a0 s_.1 s_.2) 4611686018427387904 (0,(List.replicate a1.toNat (0:Int)).set l32_m13 1)) fun l45_m14 =>
   og (l32_m12.length+1<=1073741824∧(l32_m12.length+1)*24<=140737488355328) <|
   some (l32_m12++[l45_m14]))) fun l36_m12 =>
 og (l32_m13+1<4611686018427387904) <|
 some (Ctl.next (l32_m13+1,l36_m12)))
 (some (Ctl.out l32_m12))
def L_spec_spNull (a0:Int) (a1:Int) (a2:List (List Int)):Option (List (List Int)) :=
 Option.bind (L_spec_spReduce a0 a1 a2) fun y4 =>
og (0<=a1∧a1<=a1∧a1<=1073741824∧(8:Int)*a1<=140737488355328) <|
Option.bind (loopM (fun s_:Nat×List Int=>L_spec_spNull_l1 a1 s_.1 s_.2) 4611686018427387904 (0,List.replicate a1.toNat (0:Int))) fun l7_m8 =>
Option.bind (loopM (fun s_:Nat×List Int=>L_spec_spNull_l2 y4 s_.1 s_.2) 4611686018427387904 (0,l7_m8)) fun l17_m8 =>
Option.bind (loopM (fun s_:Nat×List (List Int)=>L_spec_spNull_l3 a1 l17_m8 y4 a0 s_.1 s_.2) 4611686018427387904 (0,([]:List (List Int)))) fun l30_m12 =>
Option.bind (L_spec_spReduce a0 a1 l30_m12) fun y62 =>
some y62
theorem ok_spec_spNull {a0:Int} {a1:Int} {a2:List (List Int)} {r:List (List Int)} (h:L_spec_spNull a0 a1 a2=some r):CallM Tryd.prog Tab 43 [(ai a0),(ai a1),(.tree (.slice .int) a2)] [] (.own (oi 0 1) (.slice .int) 0 r.length) [((oi 0 1),.mat 23 (oi 1 1) .int r),((oi 1 1),.pool 3 .int r)]:=by
 refine callM_of_ (by kernel_rfl) Tryd.func43 c_spec_spNull (n:=89) (by kernel_rfl) (by simp) (tl:=[(0,(ai a0)),(1,(ai a1)),(2,(.tree (.slice .int) a2))]) rfl (by kernel_rfl) trivial ⟨⟨3,(.tail _ (.head _))⟩,⟨trivial,trivial⟩⟩ ?_
 unfold m_spec_spNull
 unfold L_spec_spNull at h
 refine seqR ?_
 refine awp_seqv_ ?_
 obtain ⟨y4,h4,h⟩:=ob_some h
 refine awp_region_ 7 ?_
 refine rz0 (ai a0) ?_
 refine rz0 (ai a1) ?_
 refine rz0 (.tree (.slice .int) a2) ?_
 refine rcallM (.own (oi 320 5) (.slice .int) 0 y4.length) [((oi 320 5),some (.mat 23 (oi 321 5) .int y4)),((oi 321 5),some (.pool 3 .int y4))] [] [(ai a0),(ai a1),(.tree (.slice .int) a2)] (caps:=[]) trivial (ok_spec_spReduce h4) hb_spec_spReduce trivial (.cons (.ren (by kernel_rfl)) (.cons (.ren (by kernel_rfl)) (.cons (.ren (by kernel_rfl)) .nil))) (reachL_mem (by kernel_rfl) (by kernel_rfl) trivial) ?_
 refine rsB 1 ?_
 refine rnil (tn_ ?_)
 refine wr_ ?_
 refine awp_seqv_ ?_
 obtain ⟨g6,h⟩:=og_some h
 refine awp_region_ 10 ?_
 refine rz0 (ai a1) ?_
 refine rs1 (.own (oi 22 8) .int 0 a1.toNat) (oi 22 8) (.arr 3 .int (List.replicate a1.toNat (0:Int))) (s_make (t:=.int) (k:=.i64) (k':=.i64) (m:=a1) (m':=a1) (by kernel_rfl) (by kernel_rfl) g6 rfl) ?_
 refine rsB 1 ?_
 refine rnil (tn_ ?_)
 refine wr_ ?_
 refine awp_seqB h (fun (l7_m8:List Int) S_=>S_=⟨mkTm [(0,(ai a0)),(1,(ai a1)),(7,(.own (oi 0 1) (.slice .int) 0 y4.length)),(8,(.own (oi 2 1) .int 0 l7_m8.length))],mkOb (someL [((oi 0 1),.mat 23 (oi 1 1) .int y4),((oi 1 1),.pool 3 .int y4),((oi 2 1),.arr 3 .int l7_m8)]),2⟩) ?_ ?_
 ·intro v_ h
  refine seqR ?_
  refine awp_block_ ?_
  refine awp_loopL h (fun t_ S_=>∃ (l9_m25:Nat),∃ (l9_m8:List Int),t_=(l9_m25,l9_m8)∧S_=⟨mkTm [(0,(ai a0)),(1,(ai a1)),(7,(.own (oi 0 1) (.slice .int) 0 y4.length)),(8,(.own (oi 2 1) .int 0 l9_m8.length)),(24,(ai ((a1.toNat:Nat):Int))),(25,(ai ((l9_m25:Nat):Int)))],mkOb (someL [((oi 0 1),.mat 23 (oi 1 1) .int y4),((oi 1 1),.pool 3 .int y4),((oi 2 1),.arr 3 .int l9_m8)]),2⟩) ⟨_,((weak_tm_ 8 (.own (oi 22 8) .int 0 a1.toNat) (.own (oi 22 8) .int 0 ((List.replicate a1.toNat (0:Int)).length)) (by kernel_rfl) (congrArg (fun z_=>((.own (oi 22 8) .int 0 z_):AV)) (List.length_replicate.symm:a1.toNat=(List.replicate a1.toNat (0:Int)).length))).trans (weak_ren [((oi 0 1),(oi 320 5)),((oi 1 1),(oi 321 5)),((oi 2 1),(oi 22 8))])),⟨0,List.replicate a1.toNat (0:Int),rfl,rfl⟩⟩ ?_
  rintro n_ _ _ c_ ⟨l9_m25,l9_m8,rfl,rfl⟩ h hn9
  (try dsimp only at h)
  unfold L_spec_spNull_l1 at h
  unfold m_spec_spNull_l1
  refine seqR ?_
  refine awp_seqv_ ?_
  rcases cond_some h with ⟨q12,h⟩ | ⟨q12,h⟩
  ·have q12_:=of_decide_eq_true q12
   refine awp_condT_ q12 ?_
   refine awp_skip_ (tn_ ?_)
   refine wr_ ?_
   refine awp_seqv_ ?_
   refine awp_block_ ?_
   refine seqR ?_
   obtain ⟨x15,e15,h⟩:=ob_some h
   refine awp_region_ 9 ?_
   refine rz0 (.own (oi 2 1) .int 0 l9_m8.length) ?_
   refine rz0 (ai ((l9_m25:Nat):Int)) ?_
   refine rs0 (.elt (oi 2 1) l9_m25 0) (zo (t:=.int) (o:=(oi 2 1)) (len:=l9_m8.length) (k:=.i64) (m:=((l9_m25:Nat):Int)) (nat_nn _) (getN_lt e15)) ?_
   refine rsn2 (oi 2 1) (oi 2 1) (.arr 3 .int (l9_m8.set l9_m25 (-1))) (s_stE (i:=(oi 2 1)) (j:=l9_m25) (k:=0) (e:=3) (t:=.int) (xs:=l9_m8) (cs:=[(ai (-1))]) (x1:=(-1)) (by kernel_rfl) (by kernel_rfl) e15 (by kernel_rfl) (by kernel_rfl)) ?_
   refine rnil (bn_ (tn_ ?_))
   refine wr_ ?_
   obtain ⟨g16,h⟩:=og_some h
   refine awp_region_ 11 ?_
   refine rs0 (ai ((l9_m25+1:Nat):Int)) (za g16) ?_
   refine rsB 1 ?_
   refine rnil (tn_ ?_)
   obtain rfl:=zj h
   exact ⟨(l9_m25+1,l9_m8.set l9_m25 (-1)),_,((weak_tm_ 8 (.own (oi 2 1) .int 0 l9_m8.length) (.own (oi 2 1) .int 0 ((l9_m8.set l9_m25 (-1)).length)) (by kernel_rfl) (congrArg (fun z_=>((.own (oi 2 1) .int 0 z_):AV)) (((rfl:l9_m8.length=l9_m8.length).trans List.length_set.symm):l9_m8.length=(l9_m8.set l9_m25 (-1)).length))).trans (weak_ren [])),⟨l9_m25+1,l9_m8.set l9_m25 (-1),rfl,rfl⟩,hn9⟩
  have q12_:=of_decide_eq_false q12
  refine awp_condF_ q12 ?_
  refine awp_exit_ (te_ (te_ (be_ (tn_ ?_))))
  obtain rfl:=zj h
  have h:=hn9
  (try dsimp only at h)
  obtain rfl:=zj h
  exact ⟨_,(weak_ren []),rfl⟩
 rintro l7_m8 _ rfl h
 (try dsimp only at h)
 refine awp_seqB h (fun (l17_m8:List Int) S_=>S_=⟨mkTm [(0,(ai a0)),(1,(ai a1)),(7,(.own (oi 0 1) (.slice .int) 0 y4.length)),(8,(.own (oi 2 1) .int 0 l17_m8.length))],mkOb (someL [((oi 0 1),.mat 23 (oi 1 1) .int y4),((oi 1 1),.pool 3 .int y4),((oi 2 1),.arr 3 .int l17_m8)]),2⟩) ?_ ?_
 ·intro v_ h
  refine seqR ?_
  refine awp_block_ ?_
  refine awp_loopL h (fun t_ S_=>∃ (l19_m34:Nat),∃ (l19_m8:List Int),t_=(l19_m34,l19_m8)∧S_=⟨mkTm [(0,(ai a0)),(1,(ai a1)),(7,(.own (oi 0 1) (.slice .int) 0 y4.length)),(8,(.own (oi 2 1) .int 0 l19_m8.length)),(32,(.own (oi 0 1) (.slice .int) 0 y4.length)),(33,(ai ((y4.length:Nat):Int))),(34,(ai ((l19_m34:Nat):Int)))],mkOb (someL [((oi 0 1),.mat 23 (oi 1 1) .int y4),((oi 1 1),.pool 3 .int y4),((oi 2 1),.arr 3 .int l19_m8)]),2⟩) ⟨_,(weak_ren []),⟨0,l7_m8,rfl,rfl⟩⟩ ?_
  rintro n_ _ _ c_ ⟨l19_m34,l19_m8,rfl,rfl⟩ h hn19
  (try dsimp only at h)
  unfold L_spec_spNull_l2 at h
  unfold m_spec_spNull_l2
  refine seqR ?_
  refine awp_seqv_ ?_
  rcases cond_some h with ⟨q22,h⟩ | ⟨q22,h⟩
  ·have q22_:=of_decide_eq_true q22
   refine awp_condT_ q22 ?_
   refine awp_skip_ (tn_ ?_)
   refine wr_ ?_
   refine awp_seqv_ ?_
   refine awp_block_ ?_
   refine awp_seqv_ ?_
   obtain ⟨x25,e25,h⟩:=ob_some h
   refine awp_region_ 8 ?_
   refine rz0 (ai ((l19_m34:Nat):Int)) ?_
   refine rs0 (.elt (oi 0 1) l19_m34 0) (zo (t:=(.slice .int)) (o:=(oi 0 1)) (len:=y4.length) (k:=.i64) (m:=((l19_m34:Nat):Int)) (nat_nn _) (getN_lt e25)) ?_
   refine rsl (.own (kid (oi 1 1) l19_m34) .int 0 x25.length) (s_ldM (o:=(oi 0 1)) (p:=(oi 1 1)) (e1:=23) (u:=.int) (xss:=y4) (row:=x25) (j:=l19_m34) (by kernel_rfl) (by kernel_rfl) e25) ?_
   refine rsB 2 ?_
   refine rnil (tn_ ?_)
   refine wr_ ?_
   obtain ⟨y26,h26,h⟩:=ob_some h
   obtain ⟨x27,f27,h⟩:=ob_some h
   obtain ⟨p27,b27,e27⟩:=getI_some f27
   refine awp_region_ 14 ?_
   refine rz0 (.own (oi 2 1) .int 0 l19_m8.length) ?_
   refine rz0 (.own (kid (oi 1 1) l19_m34) .int 0 x25.length) ?_
   refine rcall (ai y26) [] [(.own (kid (oi 1 1) l19_m34) .int 0 x25.length)] _ (caps:=[]) (args0:=[(.tree .int x25)]) trivial (gm_cons (gd_own (e:=3) (u:=.int) (xs:=x25) (mkOb_kid (by kernel_rfl) e25) rfl) gm_nil) (ok_spec_spLead h26) hb_spec_spLead ?_
   refine rz0 (ai ((l19_m34:Nat):Int)) ?_
   refine rs0 (.elt (oi 2 1) y26.toNat 0) (zo (t:=.int) (o:=(oi 2 1)) (len:=l19_m8.length) (k:=.i64) (m:=y26) p27 (getN_lt e27)) ?_
   refine rsn2 (oi 2 1) (oi 2 1) (.arr 3 .int (l19_m8.set y26.toNat ((l19_m34:Nat):Int))) (s_stE (i:=(oi 2 1)) (j:=y26.toNat) (k:=0) (e:=3) (t:=.int) (xs:=l19_m8) (cs:=[(ai ((l19_m34:Nat):Int))]) (x1:=((l19_m34:Nat):Int)) (by kernel_rfl) (by kernel_rfl) e27 (by kernel_rfl) (by kernel_rfl)) ?_
   refine rnil (bn_ (tn_ ?_))
   refine wr_ ?_
   obtain ⟨g28,h⟩:=og_some h
   refine awp_region_ 16 ?_
   refine rs0 (ai ((l19_m34+1:Nat):Int)) (za g28) ?_
   refine rsB 1 ?_
   refine rnil (tn_ ?_)
   obtain rfl:=zj h
   exact ⟨(l19_m34+1,l19_m8.set y26.toNat ((l19_m34:Nat):Int)),_,((weak_tm_ 8 (.own (oi 2 1) .int 0 l19_m8.length) (.own (oi 2 1) .int 0 ((l19_m8.set y26.toNat ((l19_m34:Nat):Int)).length)) (by kernel_rfl) (congrArg (fun z_=>((.own (oi 2 1) .int 0 z_):AV)) (((rfl:l19_m8.length=l19_m8.length).trans List.length_set.symm):l19_m8.length=(l19_m8.set y26.toNat ((l19_m34:Nat):Int)).length))).trans (weak_ren [])),⟨l19_m34+1,l19_m8.set y26.toNat ((l19_m34:Nat):Int),rfl,rfl⟩,hn19⟩
  have q22_:=of_decide_eq_false q22
  refine awp_condF_ q22 ?_
  refine awp_exit_ (te_ (te_ (be_ (tn_ ?_))))
  obtain rfl:=zj h
  have h:=hn19
  (try dsimp only at h)
  obtain rfl:=zj h
  exact ⟨_,(weak_ren []),rfl⟩
 rintro l17_m8 _ rfl h
 (try dsimp only at h)
 refine seqR ?_
 refine awp_seqB h (fun (l30_m12:List (List Int)) S_=>S_=⟨mkTm [(0,(ai a0)),(1,(ai a1)),(12,(.own (oi 0 1) (.slice .int) 0 l30_m12.length))],mkOb (someL [((oi 0 1),.mat 23 (oi 1 1) .int l30_m12),((oi 1 1),.pool 3 .int l30_m12)]),2⟩) ?_ ?_
 ·intro v_ h
  refine seqR ?_
  refine awp_block_ ?_
  refine awp_loopL h (fun t_ S_=>∃ (l32_m13:Nat),∃ (l32_m12:List (List Int)),t_=(l32_m13,l32_m12)∧S_=⟨mkTm [(0,(ai a0)),(1,(ai a1)),(7,(.own (oi 0 1) (.slice .int) 0 y4.length)),(8,(.own (oi 2 1) .int 0 l17_m8.length)),(12,(.own (oi 3 1) (.slice .int) 0 l32_m12.length)),(13,(ai ((l32_m13:Nat):Int)))],mkOb (someL [((oi 0 1),.mat 23 (oi 1 1) .int y4),((oi 1 1),.pool 3 .int y4),((oi 2 1),.arr 3 .int l17_m8),((oi 3 1),.mat 23 (oi 4 1) .int l32_m12),((oi 4 1),.pool 3 .int l32_m12)]),2⟩) ⟨_,((weak_nilV_ 12 23 (.slice .int) (by kernel_rfl)).trans ((weak_none_ (e1:=23) (n:=0) 9000 (oi 12 4) 3 .int (by kernel_rfl) (by kernel_rfl) rfl (by kernel_rfl) (by kernel_rfl)).trans (weak_ren [((oi 3 1),(oi 12 4)),((oi 4 1),(oi 9000 5))]))),⟨0,([]:List (List Int)),rfl,rfl⟩⟩ ?_
  rintro n_ _ _ c_ ⟨l32_m13,l32_m12,rfl,rfl⟩ h hn32
  (try dsimp only at h)
  unfold L_spec_spNull_l3 at h
  unfold m_spec_spNull_l3
  refine awp_seqv_ ?_
  refine seqR ?_
  rcases cond_some h with ⟨q35,h⟩ | ⟨q35,h⟩
  ·have q35_:=of_decide_eq_true q35
   refine awp_condT_ q35 ?_
   refine awp_skip_ (tn_ ?_)
   refine wr_ ?_
   refine awp_seqB h (fun (l36_m12:List (List Int)) S_=>S_=⟨mkTm [(0,(ai a0)),(1,(ai a1)),(7,(.own (oi 0 1) (.slice .int) 0 y4.length)),(8,(.own (oi 2 1) .int 0 l17_m8.length)),(12,(.own (oi 3 1) (.slice .int) 0 l36_m12.length)),(13,(ai ((l32_m13:Nat):Int)))],mkOb (someL [((oi 0 1),.mat 23 (oi 1 1) .int y4),((oi 1 1),.pool 3 .int y4),((oi 2 1),.arr 3 .int l17_m8),((oi 3 1),.mat 23 (oi 4 1) .int l36_m12),((oi 4 1),.pool 3 .int l36_m12)]),2⟩) ?_ ?_
   ·intro v_ h
    refine awp_block_ ?_
    refine awp_seqv_ ?_
    refine awp_seqv_ ?_
    obtain ⟨x39,e39,h⟩:=ob_some h
    refine awp_region_ 10 ?_
    refine rz0 (.own (oi 2 1) .int 0 l17_m8.length) ?_
    refine rz0 (ai ((l32_m13:Nat):Int)) ?_
    refine rs0 (.elt (oi 2 1) l32_m13 0) (zo (t:=.int) (o:=(oi 2 1)) (len:=l17_m8.length) (k:=.i64) (m:=((l32_m13:Nat):Int)) (nat_nn _) (getN_lt e39)) ?_
    refine rsl (ai x39) (s_ldE (i:=(oi 2 1)) (j:=l32_m13) (k:=0) (e:=3) (t:=.int) (xs:=l17_m8) (by kernel_rfl) (by kernel_rfl) e39 (by kernel_rfl)) ?_
    refine rsB 1 ?_
    refine rnil (tn_ ?_)
    refine wr_ ?_
    rcases cond_some h with ⟨q40,h⟩ | ⟨q40,h⟩
    ·have q40_:=of_decide_eq_true q40
     refine awp_condT_ q40 ?_
     refine awp_exit_ (te_ (be_ (tn_ ?_)))
     obtain rfl:=zj h
     exact ⟨_,(weak_ren []),rfl⟩
    have q40_:=of_decide_eq_false q40
    refine awp_condF_ q40 ?_
    refine awp_skip_ (tn_ ?_)
    refine wr_ ?_
    refine awp_seqv_ ?_
    obtain ⟨g42,h⟩:=og_some h
    refine awp_region_ 13 ?_
    refine rz0 (ai a1) ?_
    refine rs1 (.own (oi 56 11) .int 0 a1.toNat) (oi 56 11) (.arr 3 .int (List.replicate a1.toNat (0:Int))) (s_make (t:=.int) (k:=.i64) (k':=.i64) (m:=a1) (m':=a1) (by kernel_rfl) (by kernel_rfl) g42 rfl) ?_
    refine rsB 1 ?_
    refine rnil (tn_ ?_)
    refine wr_ ?_
    refine awp_seqv_ ?_
    obtain ⟨x44,e44,h⟩:=ob_some h
    refine awp_region_ 17 ?_
    refine rz0 (.own (oi 56 11) .int 0 a1.toNat) ?_
    refine rz0 (ai ((l32_m13:Nat):Int)) ?_
    refine rs0 (.elt (oi 56 11) l32_m13 0) (zo (t:=.int) (o:=(oi 56 11)) (len:=a1.toNat) (k:=.i64) (m:=((l32_m13:Nat):Int)) (nat_nn _) (Nat.lt_of_lt_of_le (getN_lt e44) (Nat.le_of_eq (Eq.symm List.length_replicate.symm)))) ?_
    refine rsn2 (oi 56 11) (oi 56 11) (.arr 3 .int ((List.replicate a1.toNat (0:Int)).set l32_m13 1)) (s_stE (i:=(oi 56 11)) (j:=l32_m13) (k:=0) (e:=3) (t:=.int) (xs:=List.replicate a1.toNat (0:Int)) (cs:=[(ai 1)]) (x1:=1) (by kernel_rfl) (by kernel_rfl) e44 (by kernel_rfl) (by kernel_rfl)) ?_
    refine rnil (tn_ ?_)
    refine wr_ ?_
    refine awp_seqB h (fun (l45_m14:List Int) S_=>S_=⟨mkTm [(0,(ai a0)),(1,(ai a1)),(7,(.own (oi 0 1) (.slice .int) 0 y4.length)),(8,(.own (oi 2 1) .int 0 l17_m8.length)),(12,(.own (oi 3 1) (.slice .int) 0 l32_m12.length)),(13,(ai ((l32_m13:Nat):Int))),(14,(.own (oi 5 1) .int 0 l45_m14.length))],mkOb (someL [((oi 0 1),.mat 23 (oi 1 1) .int y4),((oi 1 1),.pool 3 .int y4),((oi 2 1),.arr 3 .int l17_m8),((oi 3 1),.mat 23 (oi 4 1) .int l32_m12),((oi 4 1),.pool 3 .int l32_m12),((oi 5 1),.arr 3 .int l45_m14)]),2⟩) ?_ ?_
    ·intro v_ h
     refine seqR ?_
     refine awp_block_ ?_
     refine awp_loopL h (fun t_ S_=>∃ (l47_m62:Nat),∃ (l47_m14:List Int),t_=(l47_m62,l47_m14)∧S_=⟨mkTm [(0,(ai a0)),(1,(ai a1)),(7,(.own (oi 0 1) (.slice .int) 0 y4.length)),(8,(.own (oi 2 1) .int 0 l17_m8.length)),(12,(.own (oi 3 1) (.slice .int) 0 l32_m12.length)),(13,(ai ((l32_m13:Nat):Int))),(14,(.own (oi 5 1) .int 0 l47_m14.length)),(60,(.own (oi 0 1) (.slice .int) 0 y4.length)),(61,(ai ((y4.length:Nat):Int))),(62,(ai ((l47_m62:Nat):Int)))],mkOb (someL [((oi 0 1),.mat 23 (oi 1 1) .int y4),((oi 1 1),.pool 3 .int y4),((oi 2 1),.arr 3 .int l17_m8),((oi 3 1),.mat 23 (oi 4 1) .int l32_m12),((oi 4 1),.pool 3 .int l32_m12),((oi 5 1),.arr 3 .int l47_m14)]),2⟩) ⟨_,((weak_tm_ 14 (.own (oi 56 11) .int 0 a1.toNat) (.own (oi 56 11) .int 0 (((List.replicate a1.toNat (0:Int)).set l32_m13 1).length)) (by kernel_rfl) (congrArg (fun z_=>((.own (oi 56 11) .int 0 z_):AV)) ((List.length_replicate.symm.trans List.length_set.symm):a1.toNat=((List.replicate a1.toNat (0:Int)).set l32_m13 1).length))).trans (weak_ren [((oi 5 1),(oi 56 11))])),⟨0,(List.replicate a1.toNat (0:Int)).set l32_m13 1,rfl,rfl⟩⟩ ?_
     rintro n_ _ _ c_ ⟨l47_m62,l47_m14,rfl,rfl⟩ h hn47
     (try dsimp only at h)
     unfold L_spec_spNull_l4 at h
     unfold m_spec_spNull_l4
     refine seqR ?_
     refine awp_seqv_ ?_
     rcases cond_some h with ⟨q50,h⟩ | ⟨q50,h⟩
     ·have q50_:=of_decide_eq_true q50
      refine awp_condT_ q50 ?_
      refine awp_skip_ (tn_ ?_)
      refine wr_ ?_
      refine awp_seqv_ ?_
      refine awp_block_ ?_
      refine awp_seqv_ ?_
      obtain ⟨x53,e53,h⟩:=ob_some h
      refine awp_region_ 8 ?_
      refine rz0 (ai ((l47_m62:Nat):Int)) ?_
      refine rs0 (.elt (oi 0 1) l47_m62 0) (zo (t:=(.slice .int)) (o:=(oi 0 1)) (len:=y4.length) (k:=.i64) (m:=((l47_m62:Nat):Int)) (nat_nn _) (getN_lt e53)) ?_
      refine rsl (.own (kid (oi 1 1) l47_m62) .int 0 x53.length) (s_ldM (o:=(oi 0 1)) (p:=(oi 1 1)) (e1:=23) (u:=.int) (xss:=y4) (row:=x53) (j:=l47_m62) (by kernel_rfl) (by kernel_rfl) e53) ?_
      refine rsB 2 ?_
      refine rnil (tn_ ?_)
      refine wr_ ?_
      obtain ⟨y54,h54,h⟩:=ob_some h
      obtain ⟨x55,e55,h⟩:=ob_some h
      obtain ⟨y56,h56,h⟩:=ob_some h
      obtain ⟨x57,f57,h⟩:=ob_some h
      obtain ⟨p57,b57,e57⟩:=getI_some f57
      refine awp_regionD_ 22 ?_
      refine dz0 (.own (oi 5 1) .int 0 l47_m14.length) ?_
      refine dz0 (.own (oi 0 1) (.slice .int) 0 y4.length) ?_
      refine dz0 (ai ((l47_m62:Nat):Int)) ?_
      refine ds0 (.elt (oi 0 1) l47_m62 0) (zo (t:=(.slice .int)) (o:=(oi 0 1)) (len:=y4.length) (k:=.i64) (m:=((l47_m62:Nat):Int)) (nat_nn _) (getN_lt e53)) ?_
      refine dsl (.own (kid (oi 1 1) l47_m62) .int 0 x53.length) (s_ldM (o:=(oi 0 1)) (p:=(oi 1 1)) (e1:=23) (u:=.int) (xss:=y4) (row:=x53) (j:=l47_m62) (by kernel_rfl) (by kernel_rfl) e53) ?_
      refine dcall (ai y54) [] [(.own (kid (oi 1 1) l47_m62) .int 0 x53.length)] _ (caps:=[]) (args0:=[(.tree .int x53)]) trivial (gm_cons (gd_own (e:=3) (u:=.int) (xs:=x53) ((only_in (rd_own (t:=.int) (off:=0) (len:=x53.length) 0 rfl (by kernel_rfl))).trans (mkOb_kid (by kernel_rfl) e53)) rfl) gm_nil) (ok_spec_spLead h54) hb_spec_spLead ?_
      refine dz0 (ai a0) ?_
      refine dz0 (.own (kid (oi 1 1) l47_m62) .int 0 x53.length) ?_
      refine dz0 (ai ((l32_m13:Nat):Int)) ?_
      refine ds0 (.elt (kid (oi 1 1) l47_m62) l32_m13 0) (zo (t:=.int) (o:=(kid (oi 1 1) l47_m62)) (len:=x53.length) (k:=.i64) (m:=((l32_m13:Nat):Int)) (nat_nn _) (getN_lt e55)) ?_
      refine dsl (ai x55) (s_ldE (i:=(kid (oi 1 1) l47_m62)) (j:=l32_m13) (k:=0) (e:=3) (t:=.int) (xs:=x53) (by kernel_rfl) (only1.trans (mkOb_kid (by kernel_rfl) e53)) e55 (by kernel_rfl)) ?_
      refine dcall (ai y56) [] [(ai a0),(ai x55)] _ (caps:=[]) (args0:=[(ai a0),(ai x55)]) trivial (by kernel_rfl) (ok_spec_fdNeg h56) hb_spec_fdNeg ?_
      refine ds0 (.elt (oi 5 1) y54.toNat 0) (zo (t:=.int) (o:=(oi 5 1)) (len:=l47_m14.length) (k:=.i64) (m:=y54) p57 (getN_lt e57)) ?_
      refine dsn2 (oi 5 1) (oi 5 1) (.arr 3 .int (l47_m14.set y54.toNat y56)) (s_stE (i:=(oi 5 1)) (j:=y54.toNat) (k:=0) (e:=3) (t:=.int) (xs:=l47_m14) (cs:=[(ai y56)]) (x1:=y56) (by kernel_rfl) (by kernel_rfl) e57 (by kernel_rfl) (by kernel_rfl)) ?_
      refine dnil (badB_spec (by kernel_rfl)) (bn_ (tn_ ?_))
      refine wr_ ?_
      obtain ⟨g58,h⟩:=og_some h
      refine awp_region_ 24 ?_
      refine rs0 (ai ((l47_m62+1:Nat):Int)) (za g58) ?_
      refine rsB 1 ?_
      refine rnil (tn_ ?_)
      obtain rfl:=zj h
      exact ⟨(l47_m62+1,l47_m14.set y54.toNat y56),_,((weak_tm_ 14 (.own (oi 5 1) .int 0 l47_m14.length) (.own (oi 5 1) .int 0 ((l47_m14.set y54.toNat y56).length)) (by kernel_rfl) (congrArg (fun z_=>((.own (oi 5 1) .int 0 z_):AV)) (((rfl:l47_m14.length=l47_m14.length).trans List.length_set.symm):l47_m14.length=(l47_m14.set y54.toNat y56).length))).trans (weak_ren [])),⟨l47_m62+1,l47_m14.set y54.toNat y56,rfl,rfl⟩,hn47⟩
     have q50_:=of_decide_eq_false q50
     refine awp_condF_ q50 ?_
     refine awp_exit_ (te_ (te_ (be_ (tn_ ?_))))
     obtain rfl:=zj h
     have h:=hn47
     (try dsimp only at h)
     obtain rfl:=zj h
     exact ⟨_,(weak_ren []),rfl⟩
    rintro l45_m14 _ rfl h
    (try dsimp only at h)
    obtain ⟨g59,h⟩:=og_some h
    refine awp_region_ 7 ?_
    refine rz0 (.own (oi 3 1) (.slice .int) 0 l32_m12.length) ?_
    refine rz0 (.own (oi 5 1) .int 0 l45_m14.length) ?_
    refine rmkV (.own (oi 83 4) (.slice .int) 0 1) (oi 83 4) (.vec 23 1 1 ([(.own (oi 5 1) .int 0 l45_m14.length)])) trivial (s_mkV (by kernel_rfl)) ?_
    refine rs2 (.own (oi 3 5) (.slice .int) 0 (l32_m12.length+1)) (oi 3 1) (oi 3 5) (.vec 23 1 (l32_m12.length+1) (hdL (oi 4 1) .int l32_m12++[(.own (oi 5 1) .int 0 l45_m14.length)])) (s_appVO (u:=.int) (t':=(.slice .int)) (t2:=(.slice .int)) (o:=(oi 3 1)) (q:=(oi 83 4)) (e2:=23) (p:=(oi 4 1)) (xss:=l32_m12) (cs:=[(.own (oi 5 1) .int 0 l45_m14.length)]) (len:=l32_m12.length) (by kernel_rfl) (by kernel_rfl) rfl (by kernel_rfl) (by kernel_rfl) rfl g59) ?_
    refine rsB 1 ?_
    refine rnil (bn_ (tn_ ?_))
    obtain rfl:=zj h
    exact ⟨_,((weak_app_ (e1:=23) (e:=3) (u:=.int) (n:=l32_m12.length+1) (len:=l45_m14.length) (row:=l45_m14) (ys:=l45_m14) (xss:=l32_m12) 9000 (oi 3 5) (oi 4 1) (oi 5 1) (by kernel_rfl) (by kernel_rfl) rfl (by kernel_rfl) (by kernel_rfl) (tw_le rfl) (tw_eq rfl) (by kernel_rfl) (by kernel_rfl) (by kernel_rfl)).trans ((weak_tm_ 12 (.own (oi 3 5) (.slice .int) 0 (l32_m12.length+1)) (.own (oi 3 5) (.slice .int) 0 ((l32_m12++[l45_m14]).length)) (by kernel_rfl) (congrArg (fun z_=>((.own (oi 3 5) (.slice .int) 0 z_):AV)) ((by simp):l32_m12.length+1=(l32_m12++[l45_m14]).length))).trans (weak_ren [((oi 3 1),(oi 3 5)),((oi 4 1),(oi 9000 7))]))),rfl⟩
   rintro l36_m12 _ rfl h
   (try dsimp only at h)
   obtain ⟨g60,h⟩:=og_some h
   refine awp_region_ 5 ?_
   refine rz0 (ai ((l32_m13:Nat):Int)) ?_
   refine rs0 (ai ((l32_m13+1:Nat):Int)) (za g60) ?_
   refine rsB 1 ?_
   refine rnil (tn_ ?_)
   obtain rfl:=zj h
   exact ⟨(l32_m13+1,l36_m12),_,(weak_ren []),⟨l32_m13+1,l36_m12,rfl,rfl⟩,hn32⟩
  have q35_:=of_decide_eq_false q35
  refine awp_condF_ q35 ?_
  refine awp_exit_ (te_ (te_ (be_ (tn_ ?_))))
  obtain rfl:=zj h
  have h:=hn32
  (try dsimp only at h)
  obtain rfl:=zj h
  exact ⟨_,(weak_ren [((oi 0 1),(oi 3 1)),((oi 1 1),(oi 4 1))]),rfl⟩
 rintro l30_m12 _ rfl h
 (try dsimp only at h)
 refine awp_seqv_ ?_
 obtain ⟨y62,h62,h⟩:=ob_some h
 refine awp_region_ 7 ?_
 refine rz0 (ai a0) ?_
 refine rz0 (ai a1) ?_
 refine rz0 (.own (oi 0 1) (.slice .int) 0 l30_m12.length) ?_
 refine rcallM (.own (oi 1408 5) (.slice .int) 0 y62.length) [((oi 1408 5),some (.mat 23 (oi 1409 5) .int y62)),((oi 1409 5),some (.pool 3 .int y62))] [] [(ai a0),(ai a1),(.own (oi 0 1) (.slice .int) 0 l30_m12.length)] (caps:=[]) trivial (ok_spec_spReduce h62) hb_spec_spReduce trivial (.cons (.ren (by kernel_rfl)) (.cons (.ren (by kernel_rfl)) (.cons (.gnd (by kernel_rfl) (gd_mat (p:=(oi 1 1)) (e1:=23) (e:=3) (u:=.int) (xss:=l30_m12) ((less_at (by kernel_rfl) (by kernel_rfl) (by kernel_rfl)).trans (by kernel_rfl)) (less_pool (by kernel_rfl) (by kernel_rfl) (pool_rows (by kernel_rfl)) (by kernel_rfl)) rfl)) .nil))) (reachL_mem (by kernel_rfl) (by kernel_rfl) trivial) ?_
 refine rsB 1 ?_
 refine rnil (tn_ ?_)
 refine wr_ ?_
 refine awp_ret_ ?_
 obtain rfl:=zj h
 exact retM_ [(.own (oi 0 1) (.slice .int) 0 y62.length)] (weak_ren (tl:=[(6,(.own (oi 0 1) (.slice .int) 0 y62.length))]) (g:=2) [((oi 0 1),(oi 1408 5)),((oi 1 1),(oi 1409 5))])
def m_impl_transposed_l2:AC :=
 (.seq (rg [xo 25 (qb .lss (tm 24) (tm 23))])
 (.seq (.cond (tm 25)
  .skip
  (.exit 2))
 (.seq (.block 3 (.seq (rg [xo 26 (qm (tm 24)),xo 27 (qx 1 (tm 22) (tm 24)),xo 28 (ql (tm 27)),xo 7 (qm (tm 26)),xo 8 (qm (tm 28))])
 (.region [xo 29 (qm (tm 5)),xo 30 (qm (tm 6)),xo 31 (qx 1 (tm 29) (tm 30)),xo 32 (ql (tm 31)),xo 33 (qm (tm 7)),xo 34 (qm (tm 8)),xo 35 (qm (tm 6)),xo 36 (qx 1 (tm 34) (tm 35)),xo 37 (ql (tm 36)),xo 38 (qx 1 (tm 32) (tm 33)),xn (qs (tm 38) (tm 37))] true [])))
 (rg [xo 39 (qb .add (tm 24) (ci 1)),xo 24 (qm (tm 39))]))))
def m_impl_transposed_l1:AC :=
 (.seq (rg [xo 14 (qb .lss (tm 13) (tm 12))])
 (.seq (.cond (tm 14)
  .skip
  (.exit 0))
 (.seq (.block 1 (.seq (rg [xo 15 (qm (tm 13)),xo 6 (qm (tm 15))])
 (.seq (rg [xo 16 (qm (tm 5)),xo 17 (qm (tm 6)),xo 18 (qm (tm 0)),xo 19 (.i (.len (tm 18))),xo 20 (qc 69 [(tm 19)] [[]]),xo 21 (qx 1 (tm 16) (tm 17)),xn (qs (tm 21) (tm 20))])
 (.seq (rg [xo 22 (qm (tm 0)),xo 23 (.i (.len (tm 22))),xo 24 (qm (ci 0))])
 (.block 2 (.loop m_impl_transposed_l2))))))
 (rg [xo 40 (qb .add (tm 13) (ci 1)),xo 13 (qm (tm 40))]))))
def m_impl_transposed:AC :=
 (.seq (rg [xo 4 (qm (.cst .nils))])
 (.seq (rg [xo 9 (qm (tm 1)),xo 10 (.makeV 23 (.slice .int) 24 [.nils] (tm 9) (tm 9)),xo 5 (qm (tm 10))])
 (.seq (.seq (rg [xo 11 (qm (tm 5)),xo 12 (.i (.len (tm 11))),xo 13 (qm (ci 0))])
 (.block 0 (.loop m_impl_transposed_l1)))
 (.seq (rg [xo 41 (qm (tm 5)),xo 4 (qm (tm 41))])
 .ret))))
def r_impl_transposed:List Res:=[.tmp 4]
theorem c_impl_transposed:compiled Tryd.prog Tryd.f67=some (m_impl_transposed,r_impl_transposed):=by kernel_rfl
theorem hb_impl_transposed:hasBody Tryd.prog 67=true:=by kernel_rfl
def L_impl_transposed_l2 (a0:List (List Int)) (l7_m13:Nat) (l17_m24:Nat) (l17_m5:List (List Int)):Option (Ctl (Nat×List (List Int)) (List (List Int))) :=
 cond (decide (((l17_m24:Nat):Int)<((a0.length:Nat):Int)))
 (Option.bind (a0[l17_m24]?) fun x23 =>
 Option.bind (l17_m5[l7_m13]?) fun x24 =>
 Option.bind (x23[l7_m13]?) fun x25 =>
 Option.bind (x24[l17_m24]?) fun x26 =>
 og (l17_m24+1<4611686018427387904) <|
 some (Ctl.next (l17_m24+1,l17_m5.set l7_m13 (x24.set l17_m24 x25))))
 (some (Ctl.out l17_m5))
def L_impl_transposed_l1 (a1:Int) (a0:List (List Int)) (l7_m13:Nat) (l7_m5:List (List Int)):Option (Ctl (Nat×List (List Int)) (List (List Int))) :=
 cond (decide (((l7_m13:Nat):Int)<((a1.toNat:Nat):Int)))
 (Option.bind (Option.bind (L_impl_zeros ((a0.length:Nat):Int)) fun y14 =>
  Option.bind (l7_m5[l7_m13]?) fun x15 =>
  loopM (fun s_:Nat×List (List Int)=>L_impl_transposed_l2 a0 l7_m13 s_.1 s_.2) 4611686018427387904 (0,l7_m5.set l7_m13 y14)) fun l11_m5 =>
 og (l7_m13+1<4611686018427387904) <|
 some (Ctl.next (l7_m13+1,l11_m5)))
 (some (Ctl.out l7_m5))
def L_impl_transposed (a0:List (List Int)) (a1:Int):Option (List (List Int)) :=
 og (0<=a1∧a1<=a1∧a1<=1073741824∧(24:Int)*a1<=140737488355328) <|
Option.bind (loopM (fun s_:Nat×List (List Int)=>L_impl_transposed_l1 a1 a0 s_.1 s_.2) 4611686018427387904 (0,List.replicate a1.toNat ([]:List Int))) fun l5_m5 =>
some l5_m5
theorem ok_impl_transposed {a0:List (List Int)} {a1:Int} {r:List (List Int)} (h:L_impl_transposed a0 a1=some r):CallM Tryd.prog Tab 67 [(.tree (.slice .int) a0),(ai a1)] [] (.own (oi 0 1) (.slice .int) 0 r.length) [((oi 0 1),.mat 23 (oi 1 1) .int r),((oi 1 1),.pool 3 .int r)]:=by
 refine callM_of_ (by kernel_rfl) Tryd.func67 c_impl_transposed (n:=42) (by kernel_rfl) (by simp) (tl:=[(0,(.tree (.slice .int) a0)),(1,(ai a1))]) rfl (by kernel_rfl) trivial ⟨⟨3,(.tail _ (.head _))⟩,⟨trivial,trivial⟩⟩ ?_
 unfold m_impl_transposed
 unfold L_impl_transposed at h
 refine seqR ?_
 refine awp_seqv_ ?_
 obtain ⟨g4,h⟩:=og_some h
 refine awp_region_ 5 ?_
 refine rz0 (ai a1) ?_
 refine rmakeM (.own (oi 160 3) (.slice .int) 0 a1.toNat) (oi 160 3) 23 3 .int (List.replicate a1.toNat ([]:List Int)) trivial (s_makeM (j:=a1.toNat) (k:=.i64) (k':=.i64) (m:=a1) (c:=a1) 3 (by kernel_rfl) (by kernel_rfl) g4 (by kernel_rfl) rfl) (by kernel_rfl) (by rw [List.length_replicate]) (by kernel_rfl) ?_
 refine rsB 1 ?_
 refine rnil (tn_ ?_)
 refine wr_ ?_
 refine awp_seqB h (fun (l5_m5:List (List Int)) S_=>S_=⟨mkTm [(5,(.own (oi 0 1) (.slice .int) 0 l5_m5.length))],mkOb (someL [((oi 0 1),.mat 23 (oi 1 1) .int l5_m5),((oi 1 1),.pool 3 .int l5_m5)]),2⟩) ?_ ?_
 ·intro v_ h
  refine seqR ?_
  refine awp_block_ ?_
  refine awp_loopL h (fun t_ S_=>∃ (l7_m13:Nat),∃ (l7_m5:List (List Int)),t_=(l7_m13,l7_m5)∧S_=⟨mkTm [(0,(.tree (.slice .int) a0)),(5,(.own (oi 0 1) (.slice .int) 0 l7_m5.length)),(12,(ai ((a1.toNat:Nat):Int))),(13,(ai ((l7_m13:Nat):Int)))],mkOb (someL [((oi 0 1),.mat 23 (oi 1 1) .int l7_m5),((oi 1 1),.pool 3 .int l7_m5)]),2⟩) ⟨_,((weak_tm_ 5 (.own (oi 160 3) (.slice .int) 0 a1.toNat) (.own (oi 160 3) (.slice .int) 0 ((List.replicate a1.toNat ([]:List Int)).length)) (by kernel_rfl) (congrArg (fun z_=>((.own (oi 160 3) (.slice .int) 0 z_):AV)) (List.length_replicate.symm:a1.toNat=(List.replicate a1.toNat ([]:List Int)).length))).trans (weak_ren [((oi 0 1),(oi 160 3)),((oi 1 1),(oi 160 3))])),⟨0,List.replicate a1.toNat ([]:List Int),rfl,rfl⟩⟩ ?_
  rintro n_ _ _ c_ ⟨l7_m13,l7_m5,rfl,rfl⟩ h hn7
  (try dsimp only at h)
  unfold L_impl_transposed_l1 at h
  unfold m_impl_transposed_l1
  refine seqR ?_
  refine awp_seqv_ ?_
  rcases cond_some h with ⟨q10,h⟩ | ⟨q10,h⟩
  ·have q10_:=of_decide_eq_true q10
   refine awp_condT_ q10 ?_
   refine awp_skip_ (tn_ ?_)
   refine wr_ ?_
   refine awp_seqB h (fun (l11_m5:List (List Int)) S_=>S_=⟨mkTm [(0,(.tree (.slice .int) a0)),(5,(.own (oi 0 1) (.slice .int) 0 l11_m5.length)),(12,(ai ((a1.toNat:Nat):Int))),(13,(ai ((l7_m13:Nat):Int)))],mkOb (someL [((oi 0 1),.mat 23 (oi 1 1) .int l11_m5),((oi 1 1),.pool 3 .int l11_m5)]),2⟩) ?_ ?_
   ·intro v_ h
    refine awp_block_ ?_
    refine seqR ?_
    refine awp_seqv_ ?_
    obtain ⟨y14,h14,h⟩:=ob_some h
    obtain ⟨x15,e15,h⟩:=ob_some h
    refine awp_region_ 12 ?_
    refine rz0 (.own (oi 0 1) (.slice .int) 0 l7_m5.length) ?_
    refine rz0 (ai ((l7_m13:Nat):Int)) ?_
    refine rz0 (.tree (.slice .int) a0) ?_
    refine rz0 (ai ((a0.length:Nat):Int)) ?_
    refine zc (.own (oi 320 9) .int 0 y14.length) [((oi 320 9),some (.arr 3 .int y14))] [(ai ((a0.length:Nat):Int))] (ok_impl_zeros h14) ?_
    refine rs0 (.elt (oi 0 1) l7_m13 0) (zo (t:=(.slice .int)) (o:=(oi 0 1)) (len:=l7_m5.length) (k:=.i64) (m:=((l7_m13:Nat):Int)) (nat_nn _) (getN_lt e15)) ?_
    refine rsn2 (oi 0 1) (oi 0 1) (.vec 23 1 l7_m5.length ((hdL (oi 1 1) .int l7_m5).set l7_m13 (.own (oi 320 9) .int 0 y14.length))) (s_stV (o:=(oi 0 1)) (e1:=23) (m:=l7_m5.length) (cs:=hdL (oi 1 1) .int l7_m5) (v:=(.own (oi 320 9) .int 0 y14.length)) (j:=l7_m13) (by kernel_rfl) (by kernel_rfl) (by kernel_rfl) rfl (by rw [hdL_len]; exact getN_lt e15)) ?_
    refine rnil (tn_ ?_)
    refine ⟨_,weak_set_ (e1:=23) (e:=3) (u:=.int) (n:=l7_m5.length) (len:=y14.length) (row:=y14) (ys:=y14) (xss:=l7_m5) (j:=l7_m13) 9000 (oi 0 1) (oi 1 1) (oi 320 9) (by kernel_rfl) (by kernel_rfl) rfl (by kernel_rfl) (by kernel_rfl) (tw_le rfl) (tw_eq rfl) (by kernel_rfl) (by kernel_rfl) (by kernel_rfl),?_⟩
    refine seqR ?_
    refine awp_block_ ?_
    refine awp_loopL h (fun t_ S_=>∃ (l17_m24:Nat),∃ (l17_m5:List (List Int)),t_=(l17_m24,l17_m5)∧S_=⟨mkTm [(0,(.tree (.slice .int) a0)),(5,(.own (oi 0 1) (.slice .int) 0 l17_m5.length)),(6,(ai ((l7_m13:Nat):Int))),(12,(ai ((a1.toNat:Nat):Int))),(13,(ai ((l7_m13:Nat):Int))),(22,(.tree (.slice .int) a0)),(23,(ai ((a0.length:Nat):Int))),(24,(ai ((l17_m24:Nat):Int)))],mkOb (someL [((oi 0 1),.mat 23 (oi 1 1) .int l17_m5),((oi 1 1),.pool 3 .int l17_m5)]),2⟩) ⟨_,((weak_tm_ 5 (.own (oi 0 1) (.slice .int) 0 l7_m5.length) (.own (oi 0 1) (.slice .int) 0 ((l7_m5.set l7_m13 y14).length)) (by kernel_rfl) (congrArg (fun z_=>((.own (oi 0 1) (.slice .int) 0 z_):AV)) ((Eq.trans (b:=l7_m5.length) rfl List.length_set.symm):l7_m5.length=(l7_m5.set l7_m13 y14).length))).trans (weak_ren [((oi 1 1),(oi 9000 12))])),⟨0,l7_m5.set l7_m13 y14,rfl,rfl⟩⟩ ?_
    rintro n_ _ _ c_ ⟨l17_m24,l17_m5,rfl,rfl⟩ h hn17
    (try dsimp only at h)
    unfold L_impl_transposed_l2 at h
    unfold m_impl_transposed_l2
    refine seqR ?_
    refine awp_seqv_ ?_
    rcases cond_some h with ⟨q20,h⟩ | ⟨q20,h⟩
    ·have q20_:=of_decide_eq_true q20
     refine awp_condT_ q20 ?_
     refine awp_skip_ (tn_ ?_)
     refine wr_ ?_
     refine awp_seqv_ ?_
     refine awp_block_ ?_
     refine awp_seqv_ ?_
     obtain ⟨x23,e23,h⟩:=ob_some h
     refine awp_region_ 8 ?_
     refine rz0 (ai ((l17_m24:Nat):Int)) ?_
     refine rs0 (.telt (.slice .int) x23 0) (zi (t:=(.slice .int)) (xs:=a0) (k:=.i64) (m:=((l17_m24:Nat):Int)) (nat_nn _) e23) ?_
     refine rsB 3 ?_
     refine rnil (tn_ ?_)
     refine wr_ ?_
     obtain ⟨x24,e24,h⟩:=ob_some h
     obtain ⟨x25,e25,h⟩:=ob_some h
     obtain ⟨x26,e26,h⟩:=ob_some h
     refine awp_regionD_ 19 ?_
     refine dz0 (.own (oi 0 1) (.slice .int) 0 l17_m5.length) ?_
     refine dz0 (ai ((l7_m13:Nat):Int)) ?_
     refine ds0 (.elt (oi 0 1) l7_m13 0) (zo (t:=(.slice .int)) (o:=(oi 0 1)) (len:=l17_m5.length) (k:=.i64) (m:=((l7_m13:Nat):Int)) (nat_nn _) (getN_lt e24)) ?_
     refine dsl (.own (kid (oi 1 1) l7_m13) .int 0 x24.length) (s_ldM (o:=(oi 0 1)) (p:=(oi 1 1)) (e1:=23) (u:=.int) (xss:=l17_m5) (row:=x24) (j:=l7_m13) (by kernel_rfl) (by kernel_rfl) e24) ?_
     refine dz0 (ai ((l17_m24:Nat):Int)) ?_
     refine dz0 (.tree .int x23) ?_
     refine dz0 (ai ((l7_m13:Nat):Int)) ?_
     refine ds0 (.telt .int x25 0) (zi (t:=.int) (xs:=x23) (k:=.i64) (m:=((l7_m13:Nat):Int)) (nat_nn _) e25) ?_
     refine dz0 (ai x25) ?_
     refine ds0 (.elt (kid (oi 1 1) l7_m13) l17_m24 0) (zo (t:=.int) (o:=(kid (oi 1 1) l7_m13)) (len:=x24.length) (k:=.i64) (m:=((l17_m24:Nat):Int)) (nat_nn _) (getN_lt e26)) ?_
     refine dsn2 (kid (oi 1 1) l7_m13) (kid (oi 1 1) l7_m13) (.arr 3 .int (x24.set l17_m24 x25)) (s_stE (i:=(kid (oi 1 1) l7_m13)) (j:=l17_m24) (k:=0) (e:=3) (t:=.int) (xs:=x24) (cs:=[(ai x25)]) (x1:=x25) (by kernel_rfl) (only1.trans (mkOb_kid (by kernel_rfl) e24)) e26 (by kernel_rfl) (by kernel_rfl)) ?_
     refine xd_ob (ob_row (o:=(oi 0 1)) (p:=(oi 1 1)) (e1:=23) (e:=3) (u:=.int) (xss:=l17_m5) (k:=l7_m13) (row:=x24) (row':=x24.set l17_m24 x25) (by kernel_rfl) rfl (by kernel_rfl) e24 List.length_set) ?_
     refine dnil (badB_spec (by kernel_rfl)) (bn_ (tn_ ?_))
     refine wr_ ?_
     obtain ⟨g27,h⟩:=og_some h
     refine awp_region_ 21 ?_
     refine rs0 (ai ((l17_m24+1:Nat):Int)) (za g27) ?_
     refine rsB 1 ?_
     refine rnil (tn_ ?_)
     obtain rfl:=zj h
     exact ⟨(l17_m24+1,l17_m5.set l7_m13 (x24.set l17_m24 x25)),_,((weak_tm_ 5 (.own (oi 0 1) (.slice .int) 0 l17_m5.length) (.own (oi 0 1) (.slice .int) 0 ((l17_m5.set l7_m13 (x24.set l17_m24 x25)).length)) (by kernel_rfl) (congrArg (fun z_=>((.own (oi 0 1) (.slice .int) 0 z_):AV)) ((Eq.trans (b:=l17_m5.length) rfl List.length_set.symm):l17_m5.length=(l17_m5.set l7_m13 (x24.set l17_m24 x25)).length))).trans (weak_ren [])),⟨l17_m24+1,l17_m5.set l7_m13 (x24.set l17_m24 x25),rfl,rfl⟩,hn17⟩
    have q20_:=of_decide_eq_false q20
    refine awp_condF_ q20 ?_
    refine awp_exit_ (te_ (te_ (be_ (bn_ (tn_ ?_)))))
    obtain rfl:=zj h
    have h:=hn17
    (try dsimp only at h)
    obtain rfl:=zj h
    exact ⟨_,(weak_ren []),rfl⟩
   rintro l11_m5 _ rfl h
   (try dsimp only at h)
   obtain ⟨g28,h⟩:=og_some h
   refine awp_region_ 4 ?_
   refine rs0 (ai ((l7_m13+1:Nat):Int)) (za g28) ?_
   refine rsB 1 ?_
   refine rnil (tn_ ?_)
   obtain rfl:=zj h
   exact ⟨(l7_m13+1,l11_m5),_,(weak_ren []),⟨l7_m13+1,l11_m5,rfl,rfl⟩,hn7⟩
  have q10_:=of_decide_eq_false q10
  refine awp_condF_ q10 ?_
  refine awp_exit_ (te_ (te_ (be_ (tn_ ?_))))
  obtain rfl:=zj h
  have h:=hn7
  (try dsimp only at h)
  obtain rfl:=zj h
  exact ⟨_,(weak_ren []),rfl⟩
 rintro l5_m5 _ rfl h
 (try dsimp only at h)
 refine seqR ?_
 refine awp_ret_ ?_
 obtain rfl:=zj h
 exact retM_ [(.own (oi 0 1) (.slice .int) 0 l5_m5.length)] (weak_ren (tl:=[(4,(.own (oi 0 1) (.slice .int) 0 l5_m5.length))]) (g:=2) [])
def m_impl_unit:AC :=
 (.seq (rg [xo 4 (qm (.cst .nils))])
 (.seq (rg [xo 6 (qm (tm 0)),xo 7 (qc 69 [(tm 6)] [[]]),xo 5 (qm (tm 7))])
 (.seq (rg [xo 8 (qm (tm 5)),xo 9 (qm (tm 1)),xo 10 (qx 1 (tm 8) (tm 9)),xn (qs (tm 10) (ci 1))])
 (.seq (rg [xo 11 (qm (tm 5)),xo 4 (qm (tm 11))])
 .ret))))
def r_impl_unit:List Res:=[.tmp 4]
theorem c_impl_unit:compiled Tryd.prog Tryd.f82=some (m_impl_unit,r_impl_unit):=by kernel_rfl
def L_impl_unit (a0:Int) (a1:Int):Option (List Int) :=
 Option.bind (L_impl_zeros a0) fun y3 =>
Option.bind (getI y3 a1) fun x5 =>
some (y3.set a1.toNat 1)
def rv_impl_unit (r:List Int):RV:=⟨false,[(false,[.new 3 .int r])]⟩
theorem ok_impl_unit {a0:Int} {a1:Int} {r:List Int} (h:L_impl_unit a0 a1=some r):CallOK Tryd.prog Tab 82 [(ai a0),(ai a1)] (rv_impl_unit r):=by
 refine call_of_ (by kernel_rfl) Tryd.func82 c_impl_unit (n:=12) (by kernel_rfl) (by simp) (tl:=[(0,(ai a0)),(1,(ai a1))]) rfl ?_
 unfold m_impl_unit
 unfold L_impl_unit at h
 refine seqR ?_
 refine awp_seqv_ ?_
 obtain ⟨y3,h3,h⟩:=ob_some h
 refine awp_region_ 5 ?_
 refine rz0 (ai a0) ?_
 refine zc (.own (oi 112 3) .int 0 y3.length) [((oi 112 3),some (.arr 3 .int y3))] [(ai a0)] (ok_impl_zeros h3) ?_
 refine rsB 1 ?_
 refine rnil (tn_ ?_)
 refine wr_ ?_
 refine awp_seqv_ ?_
 obtain ⟨x5,f5,h⟩:=ob_some h
 obtain ⟨p5,b5,e5⟩:=getI_some f5
 refine awp_region_ 9 ?_
 refine rz0 (.own (oi 112 3) .int 0 y3.length) ?_
 refine rz0 (ai a1) ?_
 refine rs0 (.elt (oi 112 3) a1.toNat 0) (zo (t:=.int) (o:=(oi 112 3)) (len:=y3.length) (k:=.i64) (m:=a1) p5 (getN_lt e5)) ?_
 refine rsn2 (oi 112 3) (oi 112 3) (.arr 3 .int (y3.set a1.toNat 1)) (s_stE (i:=(oi 112 3)) (j:=a1.toNat) (k:=0) (e:=3) (t:=.int) (xs:=y3) (cs:=[(ai 1)]) (x1:=1) (by kernel_rfl) (by kernel_rfl) e5 (by kernel_rfl) (by kernel_rfl)) ?_
 refine rnil (tn_ ?_)
 refine wr_ ?_
 refine seqR ?_
 refine awp_ret_ ?_
 obtain rfl:=zj h
 exact ret_ [(.own (oi 112 3) .int 0 y3.length)] (p_one rfl (l_own (by kernel_rfl) ((rfl:y3.length=y3.length).trans List.length_set.symm)) p_nil)
def m_impl_identityRows_l1:AC :=
 (.seq (rg [xo 8 (qb .lss (tm 7) (tm 6))])
 (.seq (.cond (tm 8)
  .skip
  (.exit 0))
 (.seq (.block 1 (.seq (rg [xo 9 (qm (tm 7)),xo 4 (qm (tm 9))])
 (rg [xo 10 (qm (tm 3)),xo 11 (qm (tm 0)),xo 12 (qm (tm 4)),xo 13 (qc 82 [(tm 11),(tm 12)] [[],[]]),xo 14 (.mkV 23 (.slice .int) 1 [(tm 13)]),xo 15 (.appV 23 (.slice .int) 24 (tm 10) (tm 14)),xo 3 (qm (tm 15))])))
 (rg [xo 16 (qb .add (tm 7) (ci 1)),xo 7 (qm (tm 16))]))))
def m_impl_identityRows:AC :=
 (.seq (rg [xo 2 (qm (.cst .nils))])
 (.seq (rg [xo 5 (.mkV 23 (.slice .int) 1 []),xo 3 (qm (tm 5))])
 (.seq (.seq (rg [xo 6 (qm (tm 0)),xo 7 (qm (ci 0))])
 (.block 0 (.loop m_impl_identityRows_l1)))
 (.seq (rg [xo 17 (qm (tm 3)),xo 2 (qm (tm 17))])
 .ret))))
def r_impl_identityRows:List Res:=[.tmp 2]
theorem c_impl_identityRows:compiled Tryd.prog Tryd.f86=some (m_impl_identityRows,r_impl_identityRows):=by kernel_rfl
theorem hb_impl_identityRows:hasBody Tryd.prog 86=true:=by kernel_rfl
def L_impl_identityRows_l1 (a0:Int) (l6_m7:Nat) (l6_m3:List (List Int)):Option (Ctl (Nat×List (List Int)) (List (List Int))) :=
 cond (decide (((l6_m7:Nat):Int)<a0))
 (Option.bind (L_impl_unit a0 ((l6_m7:Nat):Int)) fun y12 =>
 og (l6_m3.length+1<=1073741824∧(l6_m3.length+1)*24<=140737488355328) <|
 og (l6_m7+1<4611686018427387904) <|
 some (Ctl.next (l6_m7+1,l6_m3++[y12])))
 (some (Ctl.out l6_m3))
def L_impl_identityRows (a0:Int):Option (List (List Int)) :=
 Option.bind (loopM (fun s_:Nat×List (List Int)=>L_impl_identityRows_l1 a0 s_.1 s_.2) 4611686018427387904 (0,([]:List (List Int)))) fun l4_m3 =>
some l4_m3
theorem ok_impl_identityRows {a0:Int} {r:List (List Int)} (h:L_impl_identityRows a0=some r):CallM Tryd.prog Tab 86 [(ai a0)] [] (.own (oi 0 1) (.slice .int) 0 r.length) [((oi 0 1),.mat 23 (oi 1 1) .int r),((oi 1 1),.pool 3 .int r)]:=by
 refine callM_of_ (by kernel_rfl) Tryd.func86 c_impl_identityRows (n:=18) (by kernel_rfl) (by simp) (tl:=[(0,(ai a0))]) rfl (by kernel_rfl) trivial ⟨⟨3,(.tail _ (.head _))⟩,⟨trivial,trivial⟩⟩ ?_
 unfold m_impl_identityRows
 unfold L_impl_identityRows at h
 refine seqR ?_
 refine awp_seqv_ ?_
 refine awp_region_ 4 ?_
 refine rmkV (.own (oi 5 2) (.slice .int) 0 0) (oi 5 2) (.vec 23 1 0 []) trivial (s_mkV (by kernel_rfl)) ?_
 refine rsB 1 ?_
 refine rnil (tn_ ?_)
 refine ⟨_,weak_none_ (e1:=23) (n:=0) 9000 (oi 5 2) 3 .int (by kernel_rfl) (by kernel_rfl) rfl (by kernel_rfl) (by kernel_rfl),?_⟩
 refine awp_seqB h (fun (l4_m3:List (List Int)) S_=>S_=⟨mkTm [(3,(.own (oi 0 1) (.slice .int) 0 l4_m3.length))],mkOb (someL [((oi 0 1),.mat 23 (oi 1 1) .int l4_m3),((oi 1 1),.pool 3 .int l4_m3)]),2⟩) ?_ ?_
 ·intro v_ h
  refine seqR ?_
  refine awp_block_ ?_
  refine awp_loopL h (fun t_ S_=>∃ (l6_m7:Nat),∃ (l6_m3:List (List Int)),t_=(l6_m7,l6_m3)∧S_=⟨mkTm [(0,(ai a0)),(3,(.own (oi 0 1) (.slice .int) 0 l6_m3.length)),(6,(ai a0)),(7,(ai ((l6_m7:Nat):Int)))],mkOb (someL [((oi 0 1),.mat 23 (oi 1 1) .int l6_m3),((oi 1 1),.pool 3 .int l6_m3)]),2⟩) ⟨_,(weak_ren [((oi 0 1),(oi 5 2)),((oi 1 1),(oi 9000 4))]),⟨0,([]:List (List Int)),rfl,rfl⟩⟩ ?_
  rintro n_ _ _ c_ ⟨l6_m7,l6_m3,rfl,rfl⟩ h hn6
  (try dsimp only at h)
  unfold L_impl_identityRows_l1 at h
  unfold m_impl_identityRows_l1
  refine seqR ?_
  refine awp_seqv_ ?_
  rcases cond_some h with ⟨q9,h⟩ | ⟨q9,h⟩
  ·have q9_:=of_decide_eq_true q9
   refine awp_condT_ q9 ?_
   refine awp_skip_ (tn_ ?_)
   refine wr_ ?_
   refine awp_seqv_ ?_
   refine awp_block_ ?_
   refine seqR ?_
   obtain ⟨y12,h12,h⟩:=ob_some h
   obtain ⟨g13,h⟩:=og_some h
   refine awp_region_ 12 ?_
   refine rz0 (.own (oi 0 1) (.slice .int) 0 l6_m3.length) ?_
   refine rz0 (ai a0) ?_
   refine rz0 (ai ((l6_m7:Nat):Int)) ?_
   refine zc (.own (oi 208 8) .int 0 y12.length) [((oi 208 8),some (.arr 3 .int y12))] [(ai a0),(ai ((l6_m7:Nat):Int))] (ok_impl_unit h12) ?_
   refine rmkV (.own (oi 14 9) (.slice .int) 0 1) (oi 14 9) (.vec 23 1 1 ([(.own (oi 208 8) .int 0 y12.length)])) trivial (s_mkV (by kernel_rfl)) ?_
   refine rs2 (.own (oi 0 10) (.slice .int) 0 (l6_m3.length+1)) (oi 0 1) (oi 0 10) (.vec 23 1 (l6_m3.length+1) (hdL (oi 1 1) .int l6_m3++[(.own (oi 208 8) .int 0 y12.length)])) (s_appVO (u:=.int) (t':=(.slice .int)) (t2:=(.slice .int)) (o:=(oi 0 1)) (q:=(oi 14 9)) (e2:=23) (p:=(oi 1 1)) (xss:=l6_m3) (cs:=[(.own (oi 208 8) .int 0 y12.length)]) (len:=l6_m3.length) (by kernel_rfl) (by kernel_rfl) rfl (by kernel_rfl) (by kernel_rfl) rfl g13) ?_
   refine rsB 1 ?_
   refine rnil (bn_ (tn_ ?_))
   refine ⟨_,weak_app_ (e1:=23) (e:=3) (u:=.int) (n:=l6_m3.length+1) (len:=y12.length) (row:=y12) (ys:=y12) (xss:=l6_m3) 9000 (oi 0 10) (oi 1 1) (oi 208 8) (by kernel_rfl) (by kernel_rfl) rfl (by kernel_rfl) (by kernel_rfl) (tw_le rfl) (tw_eq rfl) (by kernel_rfl) (by kernel_rfl) (by kernel_rfl),?_⟩
   obtain ⟨g14,h⟩:=og_some h
   refine awp_region_ 15 ?_
   refine rs0 (ai ((l6_m7+1:Nat):Int)) (za g14) ?_
   refine rsB 1 ?_
   refine rnil (tn_ ?_)
   obtain rfl:=zj h
   exact ⟨(l6_m7+1,l6_m3++[y12]),_,((weak_tm_ 3 (.own (oi 0 10) (.slice .int) 0 (l6_m3.length+1)) (.own (oi 0 10) (.slice .int) 0 ((l6_m3++[y12]).length)) (by kernel_rfl) (congrArg (fun z_=>((.own (oi 0 10) (.slice .int) 0 z_):AV)) ((by simp):l6_m3.length+1=(l6_m3++[y12]).length))).trans (weak_ren [((oi 0 1),(oi 0 10)),((oi 1 1),(oi 9000 12))])),⟨l6_m7+1,l6_m3++[y12],rfl,rfl⟩,hn6⟩
  have q9_:=of_decide_eq_false q9
  refine awp_condF_ q9 ?_
  refine awp_exit_ (te_ (te_ (be_ (tn_ ?_))))
  obtain rfl:=zj h
  have h:=hn6
  (try dsimp only at h)
  obtain rfl:=zj h
  exact ⟨_,(weak_ren []),rfl⟩
 rintro l4_m3 _ rfl h
 (try dsimp only at h)
 refine seqR ?_
 refine awp_ret_ ?_
 obtain rfl:=zj h
 exact retM_ [(.own (oi 0 1) (.slice .int) 0 l4_m3.length)] (weak_ren (tl:=[(2,(.own (oi 0 1) (.slice .int) 0 l4_m3.length))]) (g:=2) [])
def m_impl_kernel:AC :=
 (.seq (rg [xo 6 (qm (.cst .nils))])
 (.seq (rg [xo 10 (qm (tm 1)),xo 11 (qc 85 [(tm 10)] [[(some (.slice .int))]]),xo 12 (qm (tm 1)),xo 13 (.i (.len (tm 12))),xo 14 (qc 86 [(tm 13)] [[]]),xo 7 (qm (tm 11)),xo 8 (qm (tm 14))])
 (.seq (rg [xo 15 (qm (tm 0)),xo 16 (qm (tm 7)),xo 17 (qm (tm 2)),xo 18 (qm (tm 8)),xo 19 (qc 87 [(tm 15),(tm 16),(tm 17),(tm 18)] [[],[(some (.slice .int))],[],[(some (.slice .int))]]),xo 9 (qm (tm 19))])
 (.seq (rg [xo 20 (qm (tm 0)),xo 21 (qm (tm 8)),xo 22 (qm (tm 9)),xo 23 (.slice 1 (tm 21) (some (tm 22)) none none),xo 24 (qm (tm 1)),xo 25 (.i (.len (tm 24))),xo 26 (qc 70 [(tm 20),(tm 23),(tm 25)] [[],[(some (.slice .int))],[]]),xo 6 (qm (tm 26))])
 .ret))))
def r_impl_kernel:List Res:=[.tmp 6]
theorem c_impl_kernel:compiled Tryd.prog Tryd.f66=some (m_impl_kernel,r_impl_kernel):=by kernel_rfl
theorem hb_impl_kernel:hasBody Tryd.prog 66=true:=by kernel_rfl
def L_impl_kernel (a0:Int) (a1:List (List Int)) (a2:Int):Option (List (List Int)) :=
 Option.bind (L_impl_clones a1) fun y4 =>
Option.bind (L_impl_identityRows ((a1.length:Nat):Int)) fun y5 =>
Option.bind (L_impl_reduction a0 y4 a2 y5) fun y7 =>
og (y7.1.length=y4.length) <|
og (y7.2.1.length=y5.length) <|
og ((0:Int)<=((y7.2.2:Nat):Int)∧((y7.2.2:Nat):Int)<=((y5.length:Nat):Int)∧((y5.length:Nat):Int)<=((y5.length:Nat):Int)) <|
Option.bind (L_impl_reduced a0 (y7.2.1.drop y7.2.2) ((a1.length:Nat):Int)) fun y12 =>
some y12
theorem ok_impl_kernel {a0:Int} {a1:List (List Int)} {a2:Int} {r:List (List Int)} (h:L_impl_kernel a0 a1 a2=some r):CallM Tryd.prog Tab 66 [(ai a0),(.tree (.slice .int) a1),(ai a2)] [] (.own (oi 0 1) (.slice .int) 0 r.length) [((oi 0 1),.mat 23 (oi 1 1) .int r),((oi 1 1),.pool 3 .int r)]:=by
 refine callM_of_ (by kernel_rfl) Tryd.func66 c_impl_kernel (n:=27) (by kernel_rfl) (by simp) (tl:=[(0,(ai a0)),(1,(.tree (.slice .int) a1)),(2,(ai a2))]) rfl (by kernel_rfl) trivial ⟨⟨3,(.tail _ (.head _))⟩,⟨trivial,trivial⟩⟩ ?_
 unfold m_impl_kernel
 unfold L_impl_kernel at h
 refine seqR ?_
 refine awp_seqv_ ?_
 obtain ⟨y4,h4,h⟩:=ob_some h
 obtain ⟨y5,h5,h⟩:=ob_some h
 refine awp_region_ 9 ?_
 refine rz0 (.tree (.slice .int) a1) ?_
 refine rcallM (.own (oi 176 3) (.slice .int) 0 y4.length) [((oi 176 3),some (.mat 23 (oi 177 3) .int y4)),((oi 177 3),some (.pool 3 .int y4))] [] [(.tree (.slice .int) a1)] (caps:=[]) trivial (ok_impl_clones h4) hb_impl_clones trivial (.cons (.ren (by kernel_rfl)) .nil) (reachL_mem (by kernel_rfl) (by kernel_rfl) trivial) ?_
 refine rz0 (.tree (.slice .int) a1) ?_
 refine rz0 (ai ((a1.length:Nat):Int)) ?_
 refine rcallM (.own (oi 224 6) (.slice .int) 0 y5.length) [((oi 224 6),some (.mat 23 (oi 225 6) .int y5)),((oi 225 6),some (.pool 3 .int y5))] [] [(ai ((a1.length:Nat):Int))] (caps:=[]) trivial (ok_impl_identityRows h5) hb_impl_identityRows trivial (.cons (.ren (by kernel_rfl)) .nil) (reachL_mem (by kernel_rfl) (by kernel_rfl) trivial) ?_
 refine rsB 2 ?_
 refine rnil (tn_ ?_)
 refine wr_ ?_
 refine awp_seqv_ ?_
 obtain ⟨y7,h7,h⟩:=ob_some h
 obtain ⟨g8,h⟩:=og_some h
 obtain ⟨g9,h⟩:=og_some h
 refine awp_region_ 15 ?_
 refine rz0 (ai a0) ?_
 refine rz0 (.own (oi 176 3) (.slice .int) 0 y4.length) ?_
 refine rz0 (ai a2) ?_
 refine rz0 (.own (oi 224 6) (.slice .int) 0 y5.length) ?_
 refine rcallM (ai ((y7.2.2:Nat):Int)) [((oi 176 3),some (.mat 23 (oi 304 13) .int y7.1)),((oi 304 13),some (.pool 3 .int y7.1)),((oi 224 6),some (.mat 23 (oi 305 13) .int y7.2.1)),((oi 305 13),some (.pool 3 .int y7.2.1)),((oi 176 3),none),((oi 177 3),some (.pool 3 .int [])),((oi 224 6),none),((oi 225 6),some (.pool 3 .int []))] [((oi 0 0),(oi 176 3)),((oi 1 0),(oi 177 3)),((oi 2 0),(oi 224 6)),((oi 3 0),(oi 225 6))] [(ai a0),(.own (oi 176 3) (.slice .int) 0 y4.length),(ai a2),(.own (oi 224 6) (.slice .int) 0 y5.length)] (caps:=[]) trivial (ok_impl_reduction h7 rfl rfl) hb_impl_reduction ⟨(by kernel_rfl),⟨(by kernel_rfl),⟨(by kernel_rfl),⟨(by kernel_rfl),trivial⟩⟩⟩⟩ (.cons (.ren (by kernel_rfl)) (.cons (.ren (by kernel_rfl)) (.cons (.ren (by kernel_rfl)) (.cons (.ren (by kernel_rfl)) .nil)))) (reachL_mem (by kernel_rfl) (by kernel_rfl) ⟨(re_arg (by kernel_rfl)),⟨re_rows (o:=(oi 176 3)) (p:=(oi 177 3)) (e1:=23) (m:=y4.length) (u:=.int) (xss:=y4) (re_arg (by kernel_rfl)) (by kernel_rfl),⟨(re_arg (by kernel_rfl)),⟨re_rows (o:=(oi 224 6)) (p:=(oi 225 6)) (e1:=23) (m:=y5.length) (u:=.int) (xss:=y5) (re_arg (by kernel_rfl)) (by kernel_rfl),trivial⟩⟩⟩⟩) ?_
 refine rsB 1 ?_
 refine rnil (tn_ ?_)
 refine wr_ ?_
 refine awp_seqv_ ?_
 obtain ⟨g11,h⟩:=og_some h
 obtain ⟨y12,h12,h⟩:=ob_some h
 refine awp_region_ 23 ?_
 refine rz0 (ai a0) ?_
 refine rz0 (.own (oi 224 6) (.slice .int) 0 y5.length) ?_
 refine rz0 (ai ((y7.2.2:Nat):Int)) ?_
 refine rs0 (.own (oi 224 6) (.slice .int) y7.2.2 (y5.length - y7.2.2)) (s_sliceO (t:=(.slice .int)) (i:=(oi 224 6)) (off:=0) (len:=y5.length) (l:=((y7.2.2:Nat):Int)) (h:=((y5.length:Nat):Int)) (by kernel_rfl) (by kernel_rfl) (by kernel_rfl) rfl g11 (Nat.zero_add _) (by omega)) ?_
 refine rz0 (.tree (.slice .int) a1) ?_
 refine rz0 (ai ((a1.length:Nat):Int)) ?_
 refine rcallM (.own (oi 416 21) (.slice .int) 0 y12.length) [((oi 416 21),some (.mat 23 (oi 417 21) .int y12)),((oi 417 21),some (.pool 3 .int y12))] [] [(ai a0),(.own (oi 224 6) (.slice .int) y7.2.2 (y5.length - y7.2.2)),(ai ((a1.length:Nat):Int))] (caps:=[]) trivial (ok_impl_reduced h12) hb_impl_reduced trivial (.cons (.ren (by kernel_rfl)) (.cons (.gnd (by kernel_rfl) (gd_matS (p:=(oi 305 13)) (e1:=23) (e:=3) (u:=.int) (xss:=y7.2.1) (ys:=y7.2.1.drop y7.2.2) ((less_at (by kernel_rfl) (by kernel_rfl) (by kernel_rfl)).trans (by kernel_rfl)) (less_pool (by kernel_rfl) (by kernel_rfl) (pool_rows (by kernel_rfl)) (by kernel_rfl)) (by have z_:y5.length=y7.2.1.length:=g9.symm; omega) (List.take_of_length_le (by rw [List.length_drop]; have z_:y5.length=y7.2.1.length:=g9.symm; omega)))) (.cons (.ren (by kernel_rfl)) .nil))) (reachL_mem (by kernel_rfl) (by kernel_rfl) trivial) ?_
 refine rsB 1 ?_
 refine rnil (tn_ ?_)
 refine wr_ ?_
 refine awp_ret_ ?_
 obtain rfl:=zj h
 exact retM_ [(.own (oi 0 1) (.slice .int) 0 y12.length)] (weak_ren (tl:=[(6,(.own (oi 0 1) (.slice .int) 0 y12.length))]) (g:=2) [((oi 0 1),(oi 416 21)),((oi 1 1),(oi 417 21))])
def m_impl_orthogonal:AC :=
 (.seq (rg [xo 6 (qm (.cst .nils))])
 (.seq (rg [xo 7 (qm (tm 0)),xo 8 (qm (tm 1)),xo 9 (qm (tm 2)),xo 10 (qc 67 [(tm 8),(tm 9)] [[(some (.slice .int))],[]]),xo 11 (qm (tm 1)),xo 12 (.i (.len (tm 11))),xo 13 (qc 66 [(tm 7),(tm 10),(tm 12)] [[],[(some (.slice .int))],[]]),xo 6 (qm (tm 13))])
 .ret))
def r_impl_orthogonal:List Res:=[.tmp 6]
theorem c_impl_orthogonal:compiled Tryd.prog Tryd.f28=some (m_impl_orthogonal,r_impl_orthogonal):=by kernel_rfl
theorem hb_impl_orthogonal:hasBody Tryd.prog 28=true:=by kernel_rfl
def L_impl_orthogonal (a0:Int) (a1:List (List Int)) (a2:Int):Option (List (List Int)) :=
 Option.bind (L_impl_transposed a1 a2) fun y4 =>
Option.bind (L_impl_kernel a0 y4 ((a1.length:Nat):Int)) fun y5 =>
some y5
theorem ok_impl_orthogonal {a0:Int} {a1:List (List Int)} {a2:Int} {r:List (List Int)} (h:L_impl_orthogonal a0 a1 a2=some r):CallM Tryd.prog Tab 28 [(ai a0),(.tree (.slice .int) a1),(ai a2)] [] (.own (oi 0 1) (.slice .int) 0 r.length) [((oi 0 1),.mat 23 (oi 1 1) .int r),((oi 1 1),.pool 3 .int r)]:=by
 refine callM_of_ (by kernel_rfl) Tryd.func28 c_impl_orthogonal (n:=14) (by kernel_rfl) (by simp) (tl:=[(0,(ai a0)),(1,(.tree (.slice .int) a1)),(2,(ai a2))]) rfl (by kernel_rfl) trivial ⟨⟨3,(.tail _ (.head _))⟩,⟨trivial,trivial⟩⟩ ?_
 unfold m_impl_orthogonal
 unfold L_impl_orthogonal at h
 refine seqR ?_
 refine awp_seqv_ ?_
 obtain ⟨y4,h4,h⟩:=ob_some h
 obtain ⟨y5,h5,h⟩:=ob_some h
 refine awp_region_ 10 ?_
 refine rz0 (ai a0) ?_
 refine rz0 (.tree (.slice .int) a1) ?_
 refine rz0 (ai a2) ?_
 refine rcallM (.own (oi 160 5) (.slice .int) 0 y4.length) [((oi 160 5),some (.mat 23 (oi 161 5) .int y4)),((oi 161 5),some (.pool 3 .int y4))] [] [(.tree (.slice .int) a1),(ai a2)] (caps:=[]) trivial (ok_impl_transposed h4) hb_impl_transposed trivial (.cons (.ren (by kernel_rfl)) (.cons (.ren (by kernel_rfl)) .nil)) (reachL_mem (by kernel_rfl) (by kernel_rfl) trivial) ?_
 refine rz0 (.tree (.slice .int) a1) ?_
 refine rz0 (ai ((a1.length:Nat):Int)) ?_
 refine rcallM (.own (oi 208 8) (.slice .int) 0 y5.length) [((oi 208 8),some (.mat 23 (oi 209 8) .int y5)),((oi 209 8),some (.pool 3 .int y5))] [] [(ai a0),(.own (oi 160 5) (.slice .int) 0 y4.length),(ai ((a1.length:Nat):Int))] (caps:=[]) trivial (ok_impl_kernel h5) hb_impl_kernel trivial (.cons (.ren (by kernel_rfl)) (.cons (.gnd (by kernel_rfl) (gd_mat (p:=(oi 161 5)) (e1:=23) (e:=3) (u:=.int) (xss:=y4) ((less_at (by kernel_rfl) (by kernel_rfl) (by kernel_rfl)).trans (by kernel_rfl)) (less_pool (by kernel_rfl) (by kernel_rfl) (pool_rows (by kernel_rfl)) (by kernel_rfl)) rfl)) (.cons (.ren (by kernel_rfl)) .nil))) (reachL_mem (by kernel_rfl) (by kernel_rfl) trivial) ?_
 refine rsB 1 ?_
 refine rnil (tn_ ?_)
 refine wr_ ?_
 refine awp_ret_ ?_
 obtain rfl:=zj h
 exact retM_ [(.own (oi 0 1) (.slice .int) 0 y5.length)] (weak_ren (tl:=[(6,(.own (oi 0 1) (.slice .int) 0 y5.length))]) (g:=2) [((oi 0 1),(oi 208 8)),((oi 1 1),(oi 209 8))])
end Go.Proofs.YtkaollfdhoaihaaDoor
