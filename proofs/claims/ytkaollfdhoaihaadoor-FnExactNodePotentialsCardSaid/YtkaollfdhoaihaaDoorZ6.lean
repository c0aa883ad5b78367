/- Lemmas on the program and on partial functions that stand in place of its code (part 6); no condition beyond those that each one states. -/
import Derived.Test.YtkaollfdhoaihaaDoorZ5
namespace Go.Proofs.YtkaollfdhoaihaaDoor
section
open Go.RowKit Go.Deep
set_option maxRecDepth 4000
def Oz:AC :=
 (.seq (rg [xo 15 (qb .lss (tm 14) (tm 13))])
 (.seq (.cond (tm 15)
  .skip
  (.exit 0))
 (.seq (.block 1 (.seq (rg [xo 16 (qm (tm 14)),xo 6 (qm (tm 16))])
 (.region [xo 17 (qf 1 (tm 5)),xo 18 (ql (tm 17)),xo 19 (qm (tm 6)),xo 20 (qm (tm 1)),xo 21 (.make 3 .int 8 (tm 20) (tm 20)),xo 22 (qx 1 (tm 18) (tm 19)),xn (qs (tm 22) (tm 21))] true [])))
 (rg [xo 23 (qb .add (tm 14) (ci 1)),xo 14 (qm (tm 23))]))))
def Tx:AC :=
 (.seq (rg [xo 4 (.i (.alloc 64 [.int .i64 0,.nils]))])
 (.seq (rg [xo 7 (qm (tm 1)),xo 8 (qm (tm 0)),xo 9 (.makeV 23 (.slice .int) 24 [.nils] (tm 8) (tm 8)),xo 10 (.build [.int .i64 0,.nils] [(0,1,tm 7),(1,1,tm 9)]),xo 5 (.i (.alloc 64 [.int .i64 0,.nils])),xn (.st false 2 (tm 5) (tm 10))])
 (.seq (.seq (rg [xo 11 (qf 1 (tm 5)),xo 12 (ql (tm 11)),xo 13 (.i (.len (tm 12))),xo 14 (qm (ci 0))])
 (.block 0 (.loop Oz)))
 (.seq (rg [xo 24 (.i (.ld false 2 (tm 5))),xn (.st false 2 (tm 4) (tm 24))])
 .ret))))
def Adz:List Res:=[.cell 4 false 2]
theorem Acw:Aw Tryd.prog Tryd.f77=some (Tx,Adz):=by kernel_rfl
theorem My:A6 Tryd.prog 77=true:=by kernel_rfl
def Ga (a0:Int) (a1:Int) (l7_m14:Nat) (l7_m5_1:List (List Int)):Option (Ctl (Nat×List (List Int)) (List (List Int))) :=
 cond (decide (((l7_m14:Nat):Int)<((a0.toNat:Nat):Int)))
 (og (0<=a1∧a1<=a1∧a1<=1073741824∧(8:Int)*a1<=140737488355328) <|
 Option.bind (l7_m5_1[l7_m14]?) fun x14 =>
 og (l7_m14+1<4611686018427387904) <|
 some (Ctl.next (l7_m14+1,l7_m5_1.set l7_m14 (List.replicate a1.toNat (0:Int)))))
 (some (Ctl.out l7_m5_1))
def Fl (a0:Int) (a1:Int):Option (List (List Int)) :=
 og (0<=a0∧a0<=a0∧a0<=1073741824∧(24:Int)*a0<=140737488355328) <|
Option.bind (Av (fun s_:Nat×List (List Int)=>Ga a0 a1 s_.1 s_.2) 4611686018427387904 (0,List.replicate a0.toNat ([]:List Int))) fun l5_m5_1 =>
some l5_m5_1
theorem Mf {a0:Int} {a1:Int} {r:List (List Int)} (h:Fl a0 a1=some r):Fi Tryd.prog Tab 77 [ai a0,ai a1] [] (.agg [ai a1,.own (oi 1 1) (.slice .int) 0 r.length]) [(oi 0 1,.cells 64 [ai a1,.own (oi 1 1) (.slice .int) 0 r.length]),(oi 1 1,.mat 23 (oi 2 1) .int r),(oi 2 1,.pool 3 .int r)]:=by
 refine B8 (by kernel_rfl) Tryd.func77 Acw (n:=25) (by kernel_rfl) (by simp) (tl:=[(0,ai a0),(1,ai a1)]) rfl (by kernel_rfl) trivial ⟨trivial,⟨⟨3,.tail _ (.tail _ (.head _))⟩,⟨trivial,trivial⟩⟩⟩ ?_;unfold Tx;unfold Fl at h;refine An ?_;refine Ab ?_;obtain ⟨g4,h⟩:=Am h;refine Aa 8 ?_;refine rz0 (ai a1) ?_;refine rz0 (ai a0) ?_;refine Afw (.own (oi 144 4) (.slice .int) 0 a0.toNat) (oi 144 4) 23 3 .int (List.replicate a0.toNat ([]:List Int)) trivial (Zz (j:=a0.toNat) (k:=.i64) (k':=.i64) (m:=a0) (c:=a0) 3 (by kernel_rfl) (by kernel_rfl) g4 (by kernel_rfl) rfl) (by kernel_rfl) (by rw [List.length_replicate]) (by kernel_rfl) ?_;refine rsB 3 ?_;refine Aq (tn_ ?_);refine wr_ ?_;refine As h (fun (l5_m5_1:List (List Int)) S_=>S_=⟨Ap [(4,.box (oi 0 1) 0),(5,.box (oi 1 1) 0)],Aj (Ar [(oi 0 1,.cells 64 [ai 0,.nils]),(oi 1 1,.cells 64 [ai a1,.own (oi 2 1) (.slice .int) 0 l5_m5_1.length]),(oi 2 1,.mat 23 (oi 3 1) .int l5_m5_1),(oi 3 1,.pool 3 .int l5_m5_1)]),2⟩) ?_ ?_
 ·intro v_ h;refine An ?_;refine Af ?_;refine Ax h (fun t_ S_=>∃ (l7_m14:Nat),∃ (l7_m5_1:List (List Int)),t_=(l7_m14,l7_m5_1)∧S_=⟨Ap [(1,ai a1),(4,.box (oi 0 1) 0),(5,.box (oi 1 1) 0),(13,ai ((a0.toNat:Nat):Int)),(14,ai ((l7_m14:Nat):Int))],Aj (Ar [(oi 0 1,.cells 64 [ai 0,.nils]),(oi 1 1,.cells 64 [ai a1,.own (oi 2 1) (.slice .int) 0 l7_m5_1.length]),(oi 2 1,.mat 23 (oi 3 1) .int l7_m5_1),(oi 3 1,.pool 3 .int l7_m5_1)]),2⟩) ⟨_,(Dy (oi 5 6) (.cells 64 [ai a1,.own (oi 144 4) (.slice .int) 0 a0.toNat]) (.cells 64 [ai a1,.own (oi 144 4) (.slice .int) 0 ((List.replicate a0.toNat ([]:List Int)).length)]) (by kernel_rfl) (congrArg (fun z_=>(.cells 64 [ai a1,.own (oi 144 4) (.slice .int) 0 z_]:Ob)) (List.length_replicate.symm:a0.toNat=(List.replicate a0.toNat ([]:List Int)).length))).trans (Ac [(oi 0 1,oi 4 1),(oi 1 1,oi 5 6),(oi 2 1,oi 144 4),(oi 3 1,oi 144 4)]),⟨0,List.replicate a0.toNat ([]:List Int),rfl,rfl⟩⟩ ?_;rintro n_ _ _ c_ ⟨l7_m14,l7_m5_1,rfl,rfl⟩ h hn7
  (try dsimp only at h);unfold Ga at h;unfold Oz;refine An ?_;refine Ab ?_;rcases Ae h with ⟨q10,h⟩ | ⟨q10,h⟩
  ·have q10_:=of_decide_eq_true q10;refine Ah q10 ?_;refine Ai (tn_ ?_);refine wr_ ?_;refine Ab ?_;refine Af ?_;refine An ?_;obtain ⟨g13,h⟩:=Am h;obtain ⟨x14,e14,h⟩:=Ad h;refine Az 12 ?_;refine dz0 (.box (oi 1 1) 1) ?_;refine dzl (.own (oi 2 1) (.slice .int) 0 l7_m5_1.length) ?_;refine dz0 (ai ((l7_m14:Nat):Int)) ?_;refine dz0 (ai a1) ?_;refine ds1 (.own (oi 21 9) .int 0 a1.toNat) (oi 21 9) (.arr 3 .int (List.replicate a1.toNat (0:Int))) (R1 (t:=.int) (k:=.i64) (k':=.i64) (m:=a1) (m':=a1) (by kernel_rfl) (by kernel_rfl) g13 rfl) ?_;refine ds0 (.elt (oi 2 1) l7_m14 0) (zo (t:=.slice .int) (o:=oi 2 1) (len:=l7_m5_1.length) (k:=.i64) (m:=((l7_m14:Nat):Int)) (At _) (Al e14)) ?_;refine Mx (oi 2 1) (oi 2 1) (.vec 23 1 l7_m5_1.length ((hdL (oi 3 1) .int l7_m5_1).set l7_m14 (.own (oi 21 9) .int 0 a1.toNat))) (Tr (o:=oi 2 1) (e1:=23) (m:=l7_m5_1.length) (cs:=hdL (oi 3 1) .int l7_m5_1) (v:=.own (oi 21 9) .int 0 a1.toNat) (j:=l7_m14) (by kernel_rfl) (by kernel_rfl) (by kernel_rfl) rfl (by rw [D2]; exact Al e14)) ?_;refine Ft (Bd (by kernel_rfl)) (bn_ (tn_ ?_));refine ⟨_,Ae0 (e1:=23) (e:=3) (u:=.int) (n:=l7_m5_1.length) (len:=a1.toNat) (row:=List.replicate a1.toNat (0:Int)) (ys:=List.replicate a1.toNat (0:Int)) (xss:=l7_m5_1) (j:=l7_m14) 9000 (oi 2 1) (oi 3 1) (oi 21 9) (by kernel_rfl) (by kernel_rfl) rfl (by kernel_rfl) (by kernel_rfl) (Pf List.length_replicate.symm) (Oo List.length_replicate.symm) (by kernel_rfl) (by kernel_rfl) (by kernel_rfl),?_⟩;obtain ⟨g15,h⟩:=Am h;refine Aa 15 ?_;refine rs0 (ai ((l7_m14+1:Nat):Int)) (za g15) ?_;refine rsB 1 ?_;refine Aq (tn_ ?_);obtain rfl:=zj h;exact ⟨(l7_m14+1,l7_m5_1.set l7_m14 (List.replicate a1.toNat (0:Int))),_,(Dy (oi 1 1) (.cells 64 [ai a1,.own (oi 2 1) (.slice .int) 0 l7_m5_1.length]) (.cells 64 [ai a1,.own (oi 2 1) (.slice .int) 0 ((l7_m5_1.set l7_m14 (List.replicate a1.toNat (0:Int))).length)]) (by kernel_rfl) (congrArg (fun z_=>(.cells 64 [ai a1,.own (oi 2 1) (.slice .int) 0 z_]:Ob)) ((Eq.trans (b:=l7_m5_1.length) rfl List.length_set.symm):l7_m5_1.length=(l7_m5_1.set l7_m14 (List.replicate a1.toNat (0:Int))).length))).trans (Ac [(oi 3 1,oi 9000 12)]),⟨l7_m14+1,l7_m5_1.set l7_m14 (List.replicate a1.toNat (0:Int)),rfl,rfl⟩,hn7⟩
  have q10_:=of_decide_eq_false q10;refine Ag q10 ?_;refine Au (te_ (te_ (be_ (tn_ ?_))));obtain rfl:=zj h;have h:=hn7
  (try dsimp only at h);obtain rfl:=zj h;exact ⟨_,Ac [],rfl⟩
 rintro l5_m5_1 _ rfl h
 (try dsimp only at h);refine An ?_;refine Ao ?_;obtain rfl:=zj h;exact Gk [.agg [ai a1,.own (oi 1 1) (.slice .int) 0 l5_m5_1.length]] (Ac (tl:=[(4,.box (oi 0 1) 0)]) (g:=2) [(oi 1 1,oi 2 1),(oi 2 1,oi 3 1)])
def J9:AC :=
 (.seq (rg [xo 17 (qb .lss (tm 16) (tm 15))])
 (.seq (.cond (tm 17)
  .skip
  (.exit 0))
 (.seq (.block 1 (.seq (rg [xo 18 (qx 3 (tm 14) (tm 16)),xo 19 (.i (.ld false 3 (tm 18))),xo 7 (.i (.alloc 81 [.int .i64 0,.int .i64 0,.int .i64 0])),xn (.st false 3 (tm 7) (tm 19))])
 (.seq (.region [xo 20 (qf 1 (tm 5)),xo 21 (ql (tm 20)),xo 22 (qf 0 (tm 7)),xo 23 (ql (tm 22)),xo 24 (qx 1 (tm 21) (tm 23)),xo 25 (ql (tm 24)),xo 26 (qf 0 (tm 7)),xo 27 (ql (tm 26)),xo 28 (qm (tm 0)),xo 29 (qf 1 (tm 5)),xo 30 (ql (tm 29)),xo 31 (qf 0 (tm 7)),xo 32 (ql (tm 31)),xo 33 (qx 1 (tm 30) (tm 32)),xo 34 (ql (tm 33)),xo 35 (qf 0 (tm 7)),xo 36 (ql (tm 35)),xo 37 (qx 1 (tm 34) (tm 36)),xo 38 (ql (tm 37)),xo 39 (qf 2 (tm 7)),xo 40 (ql (tm 39)),xo 41 (qc 88 [tm 28,tm 38,tm 40] [[],[],[]]),xo 42 (qx 1 (tm 25) (tm 27)),xn (qs (tm 42) (tm 41))] true [(1,21),(3,21),(5,21),(7,21)])
 (.seq (.region [xo 43 (qf 1 (tm 5)),xo 44 (ql (tm 43)),xo 45 (qf 1 (tm 7)),xo 46 (ql (tm 45)),xo 47 (qx 1 (tm 44) (tm 46)),xo 48 (ql (tm 47)),xo 49 (qf 1 (tm 7)),xo 50 (ql (tm 49)),xo 51 (qm (tm 0)),xo 52 (qf 1 (tm 5)),xo 53 (ql (tm 52)),xo 54 (qf 1 (tm 7)),xo 55 (ql (tm 54)),xo 56 (qx 1 (tm 53) (tm 55)),xo 57 (ql (tm 56)),xo 58 (qf 1 (tm 7)),xo 59 (ql (tm 58)),xo 60 (qx 1 (tm 57) (tm 59)),xo 61 (ql (tm 60)),xo 62 (qf 2 (tm 7)),xo 63 (ql (tm 62)),xo 64 (qc 88 [tm 51,tm 61,tm 63] [[],[],[]]),xo 65 (qx 1 (tm 48) (tm 50)),xn (qs (tm 65) (tm 64))] true [(1,21),(3,21),(5,21),(7,21)])
 (.seq (.region [xo 66 (qf 1 (tm 5)),xo 67 (ql (tm 66)),xo 68 (qf 0 (tm 7)),xo 69 (ql (tm 68)),xo 70 (qx 1 (tm 67) (tm 69)),xo 71 (ql (tm 70)),xo 72 (qf 1 (tm 7)),xo 73 (ql (tm 72)),xo 74 (qm (tm 0)),xo 75 (qf 1 (tm 5)),xo 76 (ql (tm 75)),xo 77 (qf 0 (tm 7)),xo 78 (ql (tm 77)),xo 79 (qx 1 (tm 76) (tm 78)),xo 80 (ql (tm 79)),xo 81 (qf 1 (tm 7)),xo 82 (ql (tm 81)),xo 83 (qx 1 (tm 80) (tm 82)),xo 84 (ql (tm 83)),xo 85 (qf 2 (tm 7)),xo 86 (ql (tm 85)),xo 87 (qc 80 [tm 74,tm 84,tm 86] [[],[],[]]),xo 88 (qx 1 (tm 71) (tm 73)),xn (qs (tm 88) (tm 87))] true [(1,21),(3,21),(5,21),(7,21)])
 (.region [xo 89 (qf 1 (tm 5)),xo 90 (ql (tm 89)),xo 91 (qf 1 (tm 7)),xo 92 (ql (tm 91)),xo 93 (qx 1 (tm 90) (tm 92)),xo 94 (ql (tm 93)),xo 95 (qf 0 (tm 7)),xo 96 (ql (tm 95)),xo 97 (qm (tm 0)),xo 98 (qf 1 (tm 5)),xo 99 (ql (tm 98)),xo 100 (qf 1 (tm 7)),xo 101 (ql (tm 100)),xo 102 (qx 1 (tm 99) (tm 101)),xo 103 (ql (tm 102)),xo 104 (qf 0 (tm 7)),xo 105 (ql (tm 104)),xo 106 (qx 1 (tm 103) (tm 105)),xo 107 (ql (tm 106)),xo 108 (qf 2 (tm 7)),xo 109 (ql (tm 108)),xo 110 (qc 80 [tm 97,tm 107,tm 109] [[],[],[]]),xo 111 (qx 1 (tm 94) (tm 96)),xn (qs (tm 111) (tm 110))] true [(1,21),(3,21),(5,21),(7,21)]))))))
 (rg [xo 112 (qb .add (tm 16) (ci 1)),xo 16 (qm (tm 112))]))))
def Mq:AC :=
 (.seq (rg [xo 3 (.i (.box 34 (tm 1))),xo 4 (.i (.alloc 64 [.int .i64 0,.nils]))])
 (.seq (rg [xo 8 (qf 0 (tm 3)),xo 9 (ql (tm 8)),xo 10 (qf 0 (tm 3)),xo 11 (ql (tm 10)),xo 12 (qc 77 [tm 9,tm 11] [[],[]]),xo 5 (.i (.alloc 64 [.int .i64 0,.nils])),xn (.st false 2 (tm 5) (tm 12))])
 (.seq (.seq (rg [xo 13 (qf 1 (tm 3)),xo 14 (ql (tm 13)),xo 15 (.i (.len (tm 14))),xo 16 (qm (ci 0))])
 (.block 0 (.loop J9)))
 (.seq (rg [xo 113 (.i (.ld false 2 (tm 5))),xn (.st false 2 (tm 4) (tm 113))])
 .ret))))
def T6:List Res:=[.cell 4 false 2]
theorem T7:Aw Tryd.prog Tryd.f73=some (Mq,T6):=by kernel_rfl
theorem Sn:A6 Tryd.prog 73=true:=by kernel_rfl
def Dk (a1_1:List (Int×Int×Int)) (a0:Int) (l7_m16:Nat) (l7_m5_1:List (List Int)):Option (Ctl (Nat×List (List Int)) (List (List Int))) :=
 cond (decide (((l7_m16:Nat):Int)<((a1_1.length:Nat):Int)))
 (Option.bind (a1_1[l7_m16]?) fun x13 =>
 Option.bind (Ex l7_m5_1 x13.1) fun x15 =>
 Option.bind (Ex x15 x13.1) fun x16 =>
 Option.bind (Im a0 x16 x13.2.2) fun y17 =>
 Option.bind (Ex (l7_m5_1.set x13.1.toNat (x15.set x13.1.toNat y17)) x13.2.1) fun x19 =>
 Option.bind (Ex x19 x13.2.1) fun x20 =>
 Option.bind (Im a0 x20 x13.2.2) fun y21 =>
 Option.bind (Ex ((l7_m5_1.set x13.1.toNat (x15.set x13.1.toNat y17)).set x13.2.1.toNat (x19.set x13.2.1.toNat y21)) x13.1) fun x23 =>
 Option.bind (Ex x23 x13.2.1) fun x24 =>
 Option.bind (Fe a0 x24 x13.2.2) fun y25 =>
 Option.bind (Ex (((l7_m5_1.set x13.1.toNat (x15.set x13.1.toNat y17)).set x13.2.1.toNat (x19.set x13.2.1.toNat y21)).set x13.1.toNat (x23.set x13.2.1.toNat y25)) x13.2.1) fun x26 =>
 Option.bind (Ex x26 x13.1) fun x27 =>
 Option.bind (Fe a0 x27 x13.2.2) fun y28 =>
 og (l7_m16+1<4611686018427387904) <|
 some (Ctl.next (l7_m16+1,(((l7_m5_1.set x13.1.toNat (x15.set x13.1.toNat y17)).set x13.2.1.toNat (x19.set x13.2.1.toNat y21)).set x13.1.toNat (x23.set x13.2.1.toNat y25)).set x13.2.1.toNat (x26.set x13.1.toNat y28))))
 (some (Ctl.out l7_m5_1))
def E0 (a0:Int) (a1_0:Int) (a1_1:List (Int×Int×Int)) (a1_2:List Int) (a1_3:List Int):Option (List (List Int)) :=
 Option.bind (Fl a1_0 a1_0) fun y4 =>
Option.bind (Av (fun s_:Nat×List (List Int)=>Dk a1_1 a0 s_.1 s_.2) 4611686018427387904 (0,y4)) fun l5_m5_1 =>
some l5_m5_1
theorem So {a0:Int} {a1_0:Int} {a1_1:List (Int×Int×Int)} {a1_2:List Int} {a1_3:List Int} {r:List (List Int)} (h:E0 a0 a1_0 a1_1 a1_2 a1_3=some r):Fi Tryd.prog Tab 73 [ai a0,.agg [ai a1_0,.tree (.pair .int (.pair .int .int)) a1_1,.tree .int a1_2,.tree .int a1_3]] [] (.agg [ai a1_0,.own (oi 1 1) (.slice .int) 0 r.length]) [(oi 0 1,.cells 64 [ai a1_0,.own (oi 1 1) (.slice .int) 0 r.length]),(oi 1 1,.mat 23 (oi 2 1) .int r),(oi 2 1,.pool 3 .int r)]:=by
 refine B8 (by kernel_rfl) Tryd.func73 T7 (n:=114) (by kernel_rfl) (by simp) (tl:=[(0,ai a0),(1,.agg [ai a1_0,.tree (.pair .int (.pair .int .int)) a1_1,.tree .int a1_2,.tree .int a1_3])]) rfl (by kernel_rfl) trivial ⟨trivial,⟨⟨3,.tail _ (.tail _ (.head _))⟩,⟨trivial,trivial⟩⟩⟩ ?_;unfold Mq;unfold E0 at h;refine An ?_;refine Ab ?_;obtain ⟨y4,h4,h⟩:=Ad h;refine Aa 10 ?_;refine rz0 (.box (oi 3 1) 0) ?_;refine rzl (ai a1_0) ?_;refine rz0 (.box (oi 3 1) 0) ?_;refine rzl (ai a1_0) ?_;refine C3 (.agg [ai a1_0,.own (oi 193 7) (.slice .int) 0 y4.length]) [(oi 192 7,some (.cells 64 [ai a1_0,.own (oi 193 7) (.slice .int) 0 y4.length])),(oi 193 7,some (.mat 23 (oi 194 7) .int y4)),(oi 194 7,some (.pool 3 .int y4))] [] [ai a1_0,ai a1_0] (caps:=[]) trivial (Mf h4) My trivial (.cons (.ren (by kernel_rfl)) (.cons (.ren (by kernel_rfl)) .nil)) (A7 (by kernel_rfl) (by kernel_rfl) trivial) ?_;refine rsB 2 ?_;refine Aq (tn_ ?_);refine wr_ ?_;refine As h (fun (l5_m5_1:List (List Int)) S_=>S_=⟨Ap [(4,.box (oi 0 1) 0),(5,.box (oi 1 1) 0)],Aj (Ar [(oi 0 1,.cells 64 [ai 0,.nils]),(oi 1 1,.cells 64 [ai a1_0,.own (oi 2 1) (.slice .int) 0 l5_m5_1.length]),(oi 2 1,.mat 23 (oi 3 1) .int l5_m5_1),(oi 3 1,.pool 3 .int l5_m5_1)]),2⟩) ?_ ?_
 ·intro v_ h;refine An ?_;refine Af ?_;refine Ax h (fun t_ S_=>∃ (l7_m16:Nat),∃ (l7_m5_1:List (List Int)),t_=(l7_m16,l7_m5_1)∧S_=⟨Ap [(0,ai a0),(4,.box (oi 0 1) 0),(5,.box (oi 1 1) 0),(14,.tree (.pair .int (.pair .int .int)) a1_1),(15,ai ((a1_1.length:Nat):Int)),(16,ai ((l7_m16:Nat):Int))],Aj (Ar [(oi 0 1,.cells 64 [ai 0,.nils]),(oi 1 1,.cells 64 [ai a1_0,.own (oi 2 1) (.slice .int) 0 l7_m5_1.length]),(oi 2 1,.mat 23 (oi 3 1) .int l7_m5_1),(oi 3 1,.pool 3 .int l7_m5_1)]),2⟩) ⟨_,Ac [(oi 0 1,oi 4 2),(oi 1 1,oi 5 8),(oi 2 1,oi 193 7),(oi 3 1,oi 194 7)],⟨0,y4,rfl,rfl⟩⟩ ?_;rintro n_ _ _ c_ ⟨l7_m16,l7_m5_1,rfl,rfl⟩ h hn7
  (try dsimp only at h);unfold Dk at h;unfold J9;refine An ?_;refine Ab ?_;rcases Ae h with ⟨q10,h⟩ | ⟨q10,h⟩
  ·have q10_:=of_decide_eq_true q10;refine Ah q10 ?_;refine Ai (tn_ ?_);refine wr_ ?_;refine Ab ?_;refine Af ?_;refine Ab ?_;obtain ⟨x13,e13,h⟩:=Ad h;refine Aa 7 ?_;refine rs0 (.telt (.pair .int (.pair .int .int)) x13 0) (zi (t:=.pair .int (.pair .int .int)) (xs:=a1_1) (k:=.i64) (m:=((l7_m16:Nat):Int)) (At _) e13) ?_;refine rsB 3 ?_;refine Aq (tn_ ?_);refine wr_ ?_;refine Ab ?_;obtain ⟨x15,f15,h⟩:=Ad h;obtain ⟨p15,b15,e15⟩:=Bi f15;obtain ⟨x16,f16,h⟩:=Ad h;obtain ⟨p16,b16,e16⟩:=Bi f16;obtain ⟨y17,h17,h⟩:=Ad h;refine Az 31 ?_;refine dz0 (.box (oi 1 1) 1) ?_;refine dzl (.own (oi 2 1) (.slice .int) 0 l7_m5_1.length) ?_;refine dz0 (.box (oi 7 5) 0) ?_;refine dzl (ai x13.1) ?_;refine ds0 (.elt (oi 2 1) x13.1.toNat 0) (zo (t:=.slice .int) (o:=oi 2 1) (len:=l7_m5_1.length) (k:=.i64) (m:=x13.1) p15 (Al e15)) ?_;refine dsl (.own (kid (oi 3 1) x13.1.toNat) .int 0 x15.length) (Bs (o:=oi 2 1) (p:=oi 3 1) (e1:=23) (u:=.int) (xss:=l7_m5_1) (row:=x15) (j:=x13.1.toNat) (by kernel_rfl) (by kernel_rfl) e15) ?_;refine dz0 (.box (oi 7 5) 0) ?_;refine dzl (ai x13.1) ?_;refine dz0 (ai a0) ?_;refine dz0 (.box (oi 1 1) 1) ?_;refine dzl (.own (oi 2 1) (.slice .int) 0 l7_m5_1.length) ?_;refine dz0 (.box (oi 7 5) 0) ?_;refine dzl (ai x13.1) ?_;refine ds0 (.elt (oi 2 1) x13.1.toNat 0) (zo (t:=.slice .int) (o:=oi 2 1) (len:=l7_m5_1.length) (k:=.i64) (m:=x13.1) p15 (Al e15)) ?_;refine dsl (.own (kid (oi 3 1) x13.1.toNat) .int 0 x15.length) (Bs (o:=oi 2 1) (p:=oi 3 1) (e1:=23) (u:=.int) (xss:=l7_m5_1) (row:=x15) (j:=x13.1.toNat) (by kernel_rfl) (by kernel_rfl) e15) ?_;refine dz0 (.box (oi 7 5) 0) ?_;refine dzl (ai x13.1) ?_;refine ds0 (.elt (kid (oi 3 1) x13.1.toNat) x13.1.toNat 0) (zo (t:=.int) (o:=kid (oi 3 1) x13.1.toNat) (len:=x15.length) (k:=.i64) (m:=x13.1) p16 (Al e16)) ?_;refine dsl (ai x16) (Ed (i:=kid (oi 3 1) x13.1.toNat) (j:=x13.1.toNat) (k:=0) (e:=3) (t:=.int) (xs:=x15) (by kernel_rfl) (Hs.trans (A0 (by kernel_rfl) e15)) e16 (by kernel_rfl)) ?_;refine dz0 (.box (oi 7 5) 2) ?_;refine dzl (ai x13.2.2) ?_;refine D4 (ai y17) [] [ai a0,ai x16,ai x13.2.2] _ (caps:=[]) (args0:=[ai a0,ai x16,ai x13.2.2]) trivial (by kernel_rfl) (Th h17) Tw ?_;refine ds0 (.elt (kid (oi 3 1) x13.1.toNat) x13.1.toNat 0) (zo (t:=.int) (o:=kid (oi 3 1) x13.1.toNat) (len:=x15.length) (k:=.i64) (m:=x13.1) p16 (Al e16)) ?_;refine Mx (kid (oi 3 1) x13.1.toNat) (kid (oi 3 1) x13.1.toNat) (.arr 3 .int (x15.set x13.1.toNat y17)) (Ep (i:=kid (oi 3 1) x13.1.toNat) (j:=x13.1.toNat) (k:=0) (e:=3) (t:=.int) (xs:=x15) (cs:=[ai y17]) (x1:=y17) (by kernel_rfl) (Hs.trans (A0 (by kernel_rfl) e15)) e16 (by kernel_rfl) (by kernel_rfl)) ?_;refine Ld (Hh (o:=oi 2 1) (p:=oi 3 1) (e1:=23) (e:=3) (u:=.int) (xss:=l7_m5_1) (k:=x13.1.toNat) (row:=x15) (row':=x15.set x13.1.toNat y17) (by kernel_rfl) rfl (by kernel_rfl) e15 List.length_set) ?_;refine Ft (Bd (by kernel_rfl)) (tn_ ?_);refine wr_ ?_;refine Ab ?_;obtain ⟨x19,f19,h⟩:=Ad h;obtain ⟨p19,b19,e19⟩:=Bi f19;obtain ⟨x20,f20,h⟩:=Ad h;obtain ⟨p20,b20,e20⟩:=Bi f20;obtain ⟨y21,h21,h⟩:=Ad h;refine Az 55 ?_;refine dz0 (.box (oi 1 1) 1) ?_;refine dzl (.own (oi 2 1) (.slice .int) 0 l7_m5_1.length) ?_;refine dz0 (.box (oi 7 5) 1) ?_;refine dzl (ai x13.2.1) ?_;refine ds0 (.elt (oi 2 1) x13.2.1.toNat 0) (zo (t:=.slice .int) (o:=oi 2 1) (len:=l7_m5_1.length) (k:=.i64) (m:=x13.2.1) p19 (Nat.lt_of_lt_of_le (Al e19) (Nat.le_of_eq (Eq.symm (Eq.trans (b:=l7_m5_1.length) rfl List.length_set.symm))))) ?_;refine dsl (.own (kid (oi 3 1) x13.2.1.toNat) .int 0 x19.length) (Bs (o:=oi 2 1) (p:=oi 3 1) (e1:=23) (u:=.int) (xss:=l7_m5_1.set x13.1.toNat (x15.set x13.1.toNat y17)) (row:=x19) (j:=x13.2.1.toNat) (by kernel_rfl) (by kernel_rfl) e19) ?_;refine dz0 (.box (oi 7 5) 1) ?_;refine dzl (ai x13.2.1) ?_;refine dz0 (ai a0) ?_;refine dz0 (.box (oi 1 1) 1) ?_;refine dzl (.own (oi 2 1) (.slice .int) 0 l7_m5_1.length) ?_;refine dz0 (.box (oi 7 5) 1) ?_;refine dzl (ai x13.2.1) ?_;refine ds0 (.elt (oi 2 1) x13.2.1.toNat 0) (zo (t:=.slice .int) (o:=oi 2 1) (len:=l7_m5_1.length) (k:=.i64) (m:=x13.2.1) p19 (Nat.lt_of_lt_of_le (Al e19) (Nat.le_of_eq (Eq.symm (Eq.trans (b:=l7_m5_1.length) rfl List.length_set.symm))))) ?_;refine dsl (.own (kid (oi 3 1) x13.2.1.toNat) .int 0 x19.length) (Bs (o:=oi 2 1) (p:=oi 3 1) (e1:=23) (u:=.int) (xss:=l7_m5_1.set x13.1.toNat (x15.set x13.1.toNat y17)) (row:=x19) (j:=x13.2.1.toNat) (by kernel_rfl) (by kernel_rfl) e19) ?_;refine dz0 (.box (oi 7 5) 1) ?_;refine dzl (ai x13.2.1) ?_;refine ds0 (.elt (kid (oi 3 1) x13.2.1.toNat) x13.2.1.toNat 0) (zo (t:=.int) (o:=kid (oi 3 1) x13.2.1.toNat) (len:=x19.length) (k:=.i64) (m:=x13.2.1) p20 (Al e20)) ?_;refine dsl (ai x20) (Ed (i:=kid (oi 3 1) x13.2.1.toNat) (j:=x13.2.1.toNat) (k:=0) (e:=3) (t:=.int) (xs:=x19) (by kernel_rfl) (Hs.trans (A0 (by kernel_rfl) e19)) e20 (by kernel_rfl)) ?_;refine dz0 (.box (oi 7 5) 2) ?_;refine dzl (ai x13.2.2) ?_;refine D4 (ai y21) [] [ai a0,ai x20,ai x13.2.2] _ (caps:=[]) (args0:=[ai a0,ai x20,ai x13.2.2]) trivial (by kernel_rfl) (Th h21) Tw ?_;refine ds0 (.elt (kid (oi 3 1) x13.2.1.toNat) x13.2.1.toNat 0) (zo (t:=.int) (o:=kid (oi 3 1) x13.2.1.toNat) (len:=x19.length) (k:=.i64) (m:=x13.2.1) p20 (Al e20)) ?_;refine Mx (kid (oi 3 1) x13.2.1.toNat) (kid (oi 3 1) x13.2.1.toNat) (.arr 3 .int (x19.set x13.2.1.toNat y21)) (Ep (i:=kid (oi 3 1) x13.2.1.toNat) (j:=x13.2.1.toNat) (k:=0) (e:=3) (t:=.int) (xs:=x19) (cs:=[ai y21]) (x1:=y21) (by kernel_rfl) (Hs.trans (A0 (by kernel_rfl) e19)) e20 (by kernel_rfl) (by kernel_rfl)) ?_;refine Ld (Hh (o:=oi 2 1) (p:=oi 3 1) (e1:=23) (e:=3) (u:=.int) (xss:=l7_m5_1.set x13.1.toNat (x15.set x13.1.toNat y17)) (k:=x13.2.1.toNat) (row:=x19) (row':=x19.set x13.2.1.toNat y21) (by kernel_rfl) rfl (by kernel_rfl) e19 List.length_set) ?_;refine Ft (Bd (by kernel_rfl)) (tn_ ?_);refine wr_ ?_;refine Ab ?_;obtain ⟨x23,f23,h⟩:=Ad h;obtain ⟨p23,b23,e23⟩:=Bi f23;obtain ⟨x24,f24,h⟩:=Ad h;obtain ⟨p24,b24,e24⟩:=Bi f24;obtain ⟨y25,h25,h⟩:=Ad h;refine Az 79 ?_;refine dz0 (.box (oi 1 1) 1) ?_;refine dzl (.own (oi 2 1) (.slice .int) 0 l7_m5_1.length) ?_;refine dz0 (.box (oi 7 5) 0) ?_;refine dzl (ai x13.1) ?_;refine ds0 (.elt (oi 2 1) x13.1.toNat 0) (zo (t:=.slice .int) (o:=oi 2 1) (len:=l7_m5_1.length) (k:=.i64) (m:=x13.1) p23 (Nat.lt_of_lt_of_le (Al e23) (Nat.le_of_eq (Eq.symm (Eq.trans (b:=(l7_m5_1.set x13.1.toNat (x15.set x13.1.toNat y17)).length) (Eq.trans (b:=l7_m5_1.length) rfl List.length_set.symm) List.length_set.symm))))) ?_;refine dsl (.own (kid (oi 3 1) x13.1.toNat) .int 0 x23.length) (Bs (o:=oi 2 1) (p:=oi 3 1) (e1:=23) (u:=.int) (xss:=(l7_m5_1.set x13.1.toNat (x15.set x13.1.toNat y17)).set x13.2.1.toNat (x19.set x13.2.1.toNat y21)) (row:=x23) (j:=x13.1.toNat) (by kernel_rfl) (by kernel_rfl) e23) ?_;refine dz0 (.box (oi 7 5) 1) ?_;refine dzl (ai x13.2.1) ?_;refine dz0 (ai a0) ?_;refine dz0 (.box (oi 1 1) 1) ?_;refine dzl (.own (oi 2 1) (.slice .int) 0 l7_m5_1.length) ?_;refine dz0 (.box (oi 7 5) 0) ?_;refine dzl (ai x13.1) ?_;refine ds0 (.elt (oi 2 1) x13.1.toNat 0) (zo (t:=.slice .int) (o:=oi 2 1) (len:=l7_m5_1.length) (k:=.i64) (m:=x13.1) p23 (Nat.lt_of_lt_of_le (Al e23) (Nat.le_of_eq (Eq.symm (Eq.trans (b:=(l7_m5_1.set x13.1.toNat (x15.set x13.1.toNat y17)).length) (Eq.trans (b:=l7_m5_1.length) rfl List.length_set.symm) List.length_set.symm))))) ?_;refine dsl (.own (kid (oi 3 1) x13.1.toNat) .int 0 x23.length) (Bs (o:=oi 2 1) (p:=oi 3 1) (e1:=23) (u:=.int) (xss:=(l7_m5_1.set x13.1.toNat (x15.set x13.1.toNat y17)).set x13.2.1.toNat (x19.set x13.2.1.toNat y21)) (row:=x23) (j:=x13.1.toNat) (by kernel_rfl) (by kernel_rfl) e23) ?_;refine dz0 (.box (oi 7 5) 1) ?_;refine dzl (ai x13.2.1) ?_;refine ds0 (.elt (kid (oi 3 1) x13.1.toNat) x13.2.1.toNat 0) (zo (t:=.int) (o:=kid (oi 3 1) x13.1.toNat) (len:=x23.length) (k:=.i64) (m:=x13.2.1) p24 (Al e24)) ?_;refine dsl (ai x24) (Ed (i:=kid (oi 3 1) x13.1.toNat) (j:=x13.2.1.toNat) (k:=0) (e:=3) (t:=.int) (xs:=x23) (by kernel_rfl) (Hs.trans (A0 (by kernel_rfl) e23)) e24 (by kernel_rfl)) ?_;refine dz0 (.box (oi 7 5) 2) ?_;refine dzl (ai x13.2.2) ?_;refine D4 (ai y25) [] [ai a0,ai x24,ai x13.2.2] _ (caps:=[]) (args0:=[ai a0,ai x24,ai x13.2.2]) trivial (by kernel_rfl) (Kt h25) Kq ?_;refine ds0 (.elt (kid (oi 3 1) x13.1.toNat) x13.2.1.toNat 0) (zo (t:=.int) (o:=kid (oi 3 1) x13.1.toNat) (len:=x23.length) (k:=.i64) (m:=x13.2.1) p24 (Al e24)) ?_;refine Mx (kid (oi 3 1) x13.1.toNat) (kid (oi 3 1) x13.1.toNat) (.arr 3 .int (x23.set x13.2.1.toNat y25)) (Ep (i:=kid (oi 3 1) x13.1.toNat) (j:=x13.2.1.toNat) (k:=0) (e:=3) (t:=.int) (xs:=x23) (cs:=[ai y25]) (x1:=y25) (by kernel_rfl) (Hs.trans (A0 (by kernel_rfl) e23)) e24 (by kernel_rfl) (by kernel_rfl)) ?_;refine Ld (Hh (o:=oi 2 1) (p:=oi 3 1) (e1:=23) (e:=3) (u:=.int) (xss:=(l7_m5_1.set x13.1.toNat (x15.set x13.1.toNat y17)).set x13.2.1.toNat (x19.set x13.2.1.toNat y21)) (k:=x13.1.toNat) (row:=x23) (row':=x23.set x13.2.1.toNat y25) (by kernel_rfl) rfl (by kernel_rfl) e23 List.length_set) ?_;refine Ft (Bd (by kernel_rfl)) (tn_ ?_);refine wr_ ?_;obtain ⟨x26,f26,h⟩:=Ad h;obtain ⟨p26,b26,e26⟩:=Bi f26;obtain ⟨x27,f27,h⟩:=Ad h;obtain ⟨p27,b27,e27⟩:=Bi f27;obtain ⟨y28,h28,h⟩:=Ad h;refine Az 103 ?_;refine dz0 (.box (oi 1 1) 1) ?_;refine dzl (.own (oi 2 1) (.slice .int) 0 l7_m5_1.length) ?_;refine dz0 (.box (oi 7 5) 1) ?_;refine dzl (ai x13.2.1) ?_;refine ds0 (.elt (oi 2 1) x13.2.1.toNat 0) (zo (t:=.slice .int) (o:=oi 2 1) (len:=l7_m5_1.length) (k:=.i64) (m:=x13.2.1) p26 (Nat.lt_of_lt_of_le (Al e26) (Nat.le_of_eq (Eq.symm (Eq.trans (b:=((l7_m5_1.set x13.1.toNat (x15.set x13.1.toNat y17)).set x13.2.1.toNat (x19.set x13.2.1.toNat y21)).length) (Eq.trans (b:=(l7_m5_1.set x13.1.toNat (x15.set x13.1.toNat y17)).length) (Eq.trans (b:=l7_m5_1.length) rfl List.length_set.symm) List.length_set.symm) List.length_set.symm))))) ?_;refine dsl (.own (kid (oi 3 1) x13.2.1.toNat) .int 0 x26.length) (Bs (o:=oi 2 1) (p:=oi 3 1) (e1:=23) (u:=.int) (xss:=((l7_m5_1.set x13.1.toNat (x15.set x13.1.toNat y17)).set x13.2.1.toNat (x19.set x13.2.1.toNat y21)).set x13.1.toNat (x23.set x13.2.1.toNat y25)) (row:=x26) (j:=x13.2.1.toNat) (by kernel_rfl) (by kernel_rfl) e26) ?_;refine dz0 (.box (oi 7 5) 0) ?_;refine dzl (ai x13.1) ?_;refine dz0 (ai a0) ?_;refine dz0 (.box (oi 1 1) 1) ?_;refine dzl (.own (oi 2 1) (.slice .int) 0 l7_m5_1.length) ?_;refine dz0 (.box (oi 7 5) 1) ?_;refine dzl (ai x13.2.1) ?_;refine ds0 (.elt (oi 2 1) x13.2.1.toNat 0) (zo (t:=.slice .int) (o:=oi 2 1) (len:=l7_m5_1.length) (k:=.i64) (m:=x13.2.1) p26 (Nat.lt_of_lt_of_le (Al e26) (Nat.le_of_eq (Eq.symm (Eq.trans (b:=((l7_m5_1.set x13.1.toNat (x15.set x13.1.toNat y17)).set x13.2.1.toNat (x19.set x13.2.1.toNat y21)).length) (Eq.trans (b:=(l7_m5_1.set x13.1.toNat (x15.set x13.1.toNat y17)).length) (Eq.trans (b:=l7_m5_1.length) rfl List.length_set.symm) List.length_set.symm) List.length_set.symm))))) ?_;refine dsl (.own (kid (oi 3 1) x13.2.1.toNat) .int 0 x26.length) (Bs (o:=oi 2 1) (p:=oi 3 1) (e1:=23) (u:=.int) (xss:=((l7_m5_1.set x13.1.toNat (x15.set x13.1.toNat y17)).set x13.2.1.toNat (x19.set x13.2.1.toNat y21)).set x13.1.toNat (x23.set x13.2.1.toNat y25)) (row:=x26) (j:=x13.2.1.toNat) (by kernel_rfl) (by kernel_rfl) e26) ?_;refine dz0 (.box (oi 7 5) 0) ?_;refine dzl (ai x13.1) ?_;refine ds0 (.elt (kid (oi 3 1) x13.2.1.toNat) x13.1.toNat 0) (zo (t:=.int) (o:=kid (oi 3 1) x13.2.1.toNat) (len:=x26.length) (k:=.i64) (m:=x13.1) p27 (Al e27)) ?_;refine dsl (ai x27) (Ed (i:=kid (oi 3 1) x13.2.1.toNat) (j:=x13.1.toNat) (k:=0) (e:=3) (t:=.int) (xs:=x26) (by kernel_rfl) (Hs.trans (A0 (by kernel_rfl) e26)) e27 (by kernel_rfl)) ?_;refine dz0 (.box (oi 7 5) 2) ?_;refine dzl (ai x13.2.2) ?_;refine D4 (ai y28) [] [ai a0,ai x27,ai x13.2.2] _ (caps:=[]) (args0:=[ai a0,ai x27,ai x13.2.2]) trivial (by kernel_rfl) (Kt h28) Kq ?_;refine ds0 (.elt (kid (oi 3 1) x13.2.1.toNat) x13.1.toNat 0) (zo (t:=.int) (o:=kid (oi 3 1) x13.2.1.toNat) (len:=x26.length) (k:=.i64) (m:=x13.1) p27 (Al e27)) ?_;refine Mx (kid (oi 3 1) x13.2.1.toNat) (kid (oi 3 1) x13.2.1.toNat) (.arr 3 .int (x26.set x13.1.toNat y28)) (Ep (i:=kid (oi 3 1) x13.2.1.toNat) (j:=x13.1.toNat) (k:=0) (e:=3) (t:=.int) (xs:=x26) (cs:=[ai y28]) (x1:=y28) (by kernel_rfl) (Hs.trans (A0 (by kernel_rfl) e26)) e27 (by kernel_rfl) (by kernel_rfl)) ?_;refine Ld (Hh (o:=oi 2 1) (p:=oi 3 1) (e1:=23) (e:=3) (u:=.int) (xss:=((l7_m5_1.set x13.1.toNat (x15.set x13.1.toNat y17)).set x13.2.1.toNat (x19.set x13.2.1.toNat y21)).set x13.1.toNat (x23.set x13.2.1.toNat y25)) (k:=x13.2.1.toNat) (row:=x26) (row':=x26.set x13.1.toNat y28) (by kernel_rfl) rfl (by kernel_rfl) e26 List.length_set) ?_;refine Ft (Bd (by kernel_rfl)) (bn_ (tn_ ?_));refine wr_ ?_;obtain ⟨g29,h⟩:=Am h;refine Aa 105 ?_;refine rs0 (ai ((l7_m16+1:Nat):Int)) (za g29) ?_;refine rsB 1 ?_;refine Aq (tn_ ?_);obtain rfl:=zj h;exact ⟨(l7_m16+1,(((l7_m5_1.set x13.1.toNat (x15.set x13.1.toNat y17)).set x13.2.1.toNat (x19.set x13.2.1.toNat y21)).set x13.1.toNat (x23.set x13.2.1.toNat y25)).set x13.2.1.toNat (x26.set x13.1.toNat y28)),_,(Dy (oi 1 1) (.cells 64 [ai a1_0,.own (oi 2 1) (.slice .int) 0 l7_m5_1.length]) (.cells 64 [ai a1_0,.own (oi 2 1) (.slice .int) 0 (((((l7_m5_1.set x13.1.toNat (x15.set x13.1.toNat y17)).set x13.2.1.toNat (x19.set x13.2.1.toNat y21)).set x13.1.toNat (x23.set x13.2.1.toNat y25)).set x13.2.1.toNat (x26.set x13.1.toNat y28)).length)]) (by kernel_rfl) (congrArg (fun z_=>(.cells 64 [ai a1_0,.own (oi 2 1) (.slice .int) 0 z_]:Ob)) ((Eq.trans (b:=(((l7_m5_1.set x13.1.toNat (x15.set x13.1.toNat y17)).set x13.2.1.toNat (x19.set x13.2.1.toNat y21)).set x13.1.toNat (x23.set x13.2.1.toNat y25)).length) (Eq.trans (b:=((l7_m5_1.set x13.1.toNat (x15.set x13.1.toNat y17)).set x13.2.1.toNat (x19.set x13.2.1.toNat y21)).length) (Eq.trans (b:=(l7_m5_1.set x13.1.toNat (x15.set x13.1.toNat y17)).length) (Eq.trans (b:=l7_m5_1.length) rfl List.length_set.symm) List.length_set.symm) List.length_set.symm) List.length_set.symm):l7_m5_1.length=((((l7_m5_1.set x13.1.toNat (x15.set x13.1.toNat y17)).set x13.2.1.toNat (x19.set x13.2.1.toNat y21)).set x13.1.toNat (x23.set x13.2.1.toNat y25)).set x13.2.1.toNat (x26.set x13.1.toNat y28)).length))).trans (Ac []),⟨l7_m16+1,(((l7_m5_1.set x13.1.toNat (x15.set x13.1.toNat y17)).set x13.2.1.toNat (x19.set x13.2.1.toNat y21)).set x13.1.toNat (x23.set x13.2.1.toNat y25)).set x13.2.1.toNat (x26.set x13.1.toNat y28),rfl,rfl⟩,hn7⟩
  have q10_:=of_decide_eq_false q10;refine Ag q10 ?_;refine Au (te_ (te_ (be_ (tn_ ?_))));obtain rfl:=zj h;have h:=hn7
  (try dsimp only at h);obtain rfl:=zj h;exact ⟨_,Ac [],rfl⟩
 rintro l5_m5_1 _ rfl h
 (try dsimp only at h);refine An ?_;refine Ao ?_;obtain rfl:=zj h;exact Gk [.agg [ai a1_0,.own (oi 1 1) (.slice .int) 0 l5_m5_1.length]] (Ac (tl:=[(4,.box (oi 0 1) 0)]) (g:=2) [(oi 1 1,oi 2 1),(oi 2 1,oi 3 1)])
def Hl:AC :=
 (.seq (rg [xo 28 (qb .lss (tm 27) (tm 26))])
 (.seq (.cond (tm 28)
  .skip
  (.exit 2))
 (.seq (.block 3 (.seq (rg [xo 29 (qx 3 (tm 25) (tm 27)),xo 30 (.i (.ld false 3 (tm 29))),xo 8 (.i (.alloc 81 [.int .i64 0,.int .i64 0,.int .i64 0])),xn (.st false 3 (tm 8) (tm 30))])
 (.seq (.region [xo 31 (qm (tm 5)),xo 32 (qf 0 (tm 8)),xo 33 (ql (tm 32)),xo 34 (qx 1 (tm 31) (tm 33)),xo 35 (ql (tm 34)),xo 36 (qf 0 (tm 8)),xo 37 (ql (tm 36)),xo 38 (qm (tm 1)),xo 39 (qm (tm 5)),xo 40 (qf 0 (tm 8)),xo 41 (ql (tm 40)),xo 42 (qx 1 (tm 39) (tm 41)),xo 43 (ql (tm 42)),xo 44 (qf 0 (tm 8)),xo 45 (ql (tm 44)),xo 46 (qx 1 (tm 43) (tm 45)),xo 47 (ql (tm 46)),xo 48 (qf 2 (tm 8)),xo 49 (ql (tm 48)),xo 50 (qb .add (tm 47) (tm 49)),xo 51 (qc 50 [tm 38,tm 50] [[],[]]),xo 52 (qx 1 (tm 35) (tm 37)),xn (qs (tm 52) (tm 51))] true [(2,20),(4,20),(6,20)])
 (.seq (.region [xo 53 (qm (tm 5)),xo 54 (qf 1 (tm 8)),xo 55 (ql (tm 54)),xo 56 (qx 1 (tm 53) (tm 55)),xo 57 (ql (tm 56)),xo 58 (qf 1 (tm 8)),xo 59 (ql (tm 58)),xo 60 (qm (tm 1)),xo 61 (qm (tm 5)),xo 62 (qf 1 (tm 8)),xo 63 (ql (tm 62)),xo 64 (qx 1 (tm 61) (tm 63)),xo 65 (ql (tm 64)),xo 66 (qf 1 (tm 8)),xo 67 (ql (tm 66)),xo 68 (qx 1 (tm 65) (tm 67)),xo 69 (ql (tm 68)),xo 70 (qf 2 (tm 8)),xo 71 (ql (tm 70)),xo 72 (qb .add (tm 69) (tm 71)),xo 73 (qc 50 [tm 60,tm 72] [[],[]]),xo 74 (qx 1 (tm 57) (tm 59)),xn (qs (tm 74) (tm 73))] true [(2,20),(4,20),(6,20)])
 (.seq (.region [xo 75 (qm (tm 5)),xo 76 (qf 0 (tm 8)),xo 77 (ql (tm 76)),xo 78 (qx 1 (tm 75) (tm 77)),xo 79 (ql (tm 78)),xo 80 (qf 1 (tm 8)),xo 81 (ql (tm 80)),xo 82 (qm (tm 1)),xo 83 (qm (tm 5)),xo 84 (qf 0 (tm 8)),xo 85 (ql (tm 84)),xo 86 (qx 1 (tm 83) (tm 85)),xo 87 (ql (tm 86)),xo 88 (qf 1 (tm 8)),xo 89 (ql (tm 88)),xo 90 (qx 1 (tm 87) (tm 89)),xo 91 (ql (tm 90)),xo 92 (qf 2 (tm 8)),xo 93 (ql (tm 92)),xo 94 (qb .sub (tm 91) (tm 93)),xo 95 (qc 50 [tm 82,tm 94] [[],[]]),xo 96 (qx 1 (tm 79) (tm 81)),xn (qs (tm 96) (tm 95))] true [(2,20),(4,20),(6,20)])
 (.region [xo 97 (qm (tm 5)),xo 98 (qf 1 (tm 8)),xo 99 (ql (tm 98)),xo 100 (qx 1 (tm 97) (tm 99)),xo 101 (ql (tm 100)),xo 102 (qf 0 (tm 8)),xo 103 (ql (tm 102)),xo 104 (qm (tm 1)),xo 105 (qm (tm 5)),xo 106 (qf 1 (tm 8)),xo 107 (ql (tm 106)),xo 108 (qx 1 (tm 105) (tm 107)),xo 109 (ql (tm 108)),xo 110 (qf 0 (tm 8)),xo 111 (ql (tm 110)),xo 112 (qx 1 (tm 109) (tm 111)),xo 113 (ql (tm 112)),xo 114 (qf 2 (tm 8)),xo 115 (ql (tm 114)),xo 116 (qb .sub (tm 113) (tm 115)),xo 117 (qc 50 [tm 104,tm 116] [[],[]]),xo 118 (qx 1 (tm 101) (tm 103)),xn (qs (tm 118) (tm 117))] true [(2,20),(4,20),(6,20)]))))))
 (rg [xo 119 (qb .add (tm 27) (ci 1)),xo 27 (qm (tm 119))]))))
def Hn:AC :=
 (.seq (rg [xo 15 (qb .lss (tm 14) (tm 13))])
 (.seq (.cond (tm 15)
  .skip
  (.exit 0))
 (.seq (.block 1 (.seq (rg [xo 16 (qm (tm 14)),xo 6 (qm (tm 16))])
 (rg [xo 17 (qm (tm 5)),xo 18 (qm (tm 6)),xo 19 (qf 0 (tm 2)),xo 20 (ql (tm 19)),xo 21 (qc 69 [tm 20] [[]]),xo 22 (qx 1 (tm 17) (tm 18)),xn (qs (tm 22) (tm 21))])))
 (rg [xo 23 (qb .add (tm 14) (ci 1)),xo 14 (qm (tm 23))]))))
def I4:AC :=
 (.seq (rg [xo 2 (.i (.box 34 (tm 0))),xo 4 (qm (.cst .nils))])
 (.seq (rg [xo 9 (qf 0 (tm 2)),xo 10 (ql (tm 9)),xo 11 (.makeV 23 (.slice .int) 24 [.nils] (tm 10) (tm 10)),xo 5 (qm (tm 11))])
 (.seq (.seq (rg [xo 12 (qm (tm 5)),xo 13 (.i (.len (tm 12))),xo 14 (qm (ci 0))])
 (.block 0 (.loop Hn)))
 (.seq (.seq (rg [xo 24 (qf 1 (tm 2)),xo 25 (ql (tm 24)),xo 26 (.i (.len (tm 25))),xo 27 (qm (ci 0))])
 (.block 2 (.loop Hl)))
 (.seq (rg [xo 120 (qm (tm 5)),xo 4 (qm (tm 120))])
 .ret)))))
def Nv:List Res:=[.tmp 4]
theorem Nx:Aw Tryd.prog Tryd.f68=some (I4,Nv):=by kernel_rfl
theorem Nh:A6 Tryd.prog 68=true:=by kernel_rfl
def Cf (a0_0:Int) (l7_m14:Nat) (l7_m5:List (List Int)):Option (Ctl (Nat×List (List Int)) (List (List Int))) :=
 cond (decide (((l7_m14:Nat):Int)<((a0_0.toNat:Nat):Int)))
 (Option.bind (Fg a0_0) fun y13 =>
 Option.bind (l7_m5[l7_m14]?) fun x14 =>
 og (l7_m14+1<4611686018427387904) <|
 some (Ctl.next (l7_m14+1,l7_m5.set l7_m14 y13)))
 (some (Ctl.out l7_m5))
def Ce (a0_1:List (Int×Int×Int)) (a1:Int) (l18_m27:Nat) (l18_m5:List (List Int)):Option (Ctl (Nat×List (List Int)) (List (List Int))) :=
 cond (decide (((l18_m27:Nat):Int)<((a0_1.length:Nat):Int)))
 (Option.bind (a0_1[l18_m27]?) fun x24 =>
 Option.bind (Ex l18_m5 x24.1) fun x26 =>
 Option.bind (Ex x26 x24.1) fun x27 =>
 Option.bind (E3 a1 (wI (x27+x24.2.2))) fun y28 =>
 Option.bind (Ex (l18_m5.set x24.1.toNat (x26.set x24.1.toNat y28)) x24.2.1) fun x30 =>
 Option.bind (Ex x30 x24.2.1) fun x31 =>
 Option.bind (E3 a1 (wI (x31+x24.2.2))) fun y32 =>
 Option.bind (Ex ((l18_m5.set x24.1.toNat (x26.set x24.1.toNat y28)).set x24.2.1.toNat (x30.set x24.2.1.toNat y32)) x24.1) fun x34 =>
 Option.bind (Ex x34 x24.2.1) fun x35 =>
 Option.bind (E3 a1 (wI (x35 - x24.2.2))) fun y36 =>
 Option.bind (Ex (((l18_m5.set x24.1.toNat (x26.set x24.1.toNat y28)).set x24.2.1.toNat (x30.set x24.2.1.toNat y32)).set x24.1.toNat (x34.set x24.2.1.toNat y36)) x24.2.1) fun x37 =>
 Option.bind (Ex x37 x24.1) fun x38 =>
 Option.bind (E3 a1 (wI (x38 - x24.2.2))) fun y39 =>
 og (l18_m27+1<4611686018427387904) <|
 some (Ctl.next (l18_m27+1,(((l18_m5.set x24.1.toNat (x26.set x24.1.toNat y28)).set x24.2.1.toNat (x30.set x24.2.1.toNat y32)).set x24.1.toNat (x34.set x24.2.1.toNat y36)).set x24.2.1.toNat (x37.set x24.1.toNat y39))))
 (some (Ctl.out l18_m5))
def Cs (a0_0:Int) (a0_1:List (Int×Int×Int)) (a0_2:List Int) (a0_3:List Int) (a1:Int):Option (List (List Int)) :=
 og (0<=a0_0∧a0_0<=a0_0∧a0_0<=1073741824∧(24:Int)*a0_0<=140737488355328) <|
Option.bind (Av (fun s_:Nat×List (List Int)=>Cf a0_0 s_.1 s_.2) 4611686018427387904 (0,List.replicate a0_0.toNat ([]:List Int))) fun l5_m5 =>
Option.bind (Av (fun s_:Nat×List (List Int)=>Ce a0_1 a1 s_.1 s_.2) 4611686018427387904 (0,l5_m5)) fun l16_m5 =>
some l16_m5
theorem Nf {a0_0:Int} {a0_1:List (Int×Int×Int)} {a0_2:List Int} {a0_3:List Int} {a1:Int} {r:List (List Int)} (h:Cs a0_0 a0_1 a0_2 a0_3 a1=some r):Fi Tryd.prog Tab 68 [.agg [ai a0_0,.tree (.pair .int (.pair .int .int)) a0_1,.tree .int a0_2,.tree .int a0_3],ai a1] [] (.own (oi 0 1) (.slice .int) 0 r.length) [(oi 0 1,.mat 23 (oi 1 1) .int r),(oi 1 1,.pool 3 .int r)]:=by
 refine B8 (by kernel_rfl) Tryd.func68 Nx (n:=121) (by kernel_rfl) (by simp) (tl:=[(0,.agg [ai a0_0,.tree (.pair .int (.pair .int .int)) a0_1,.tree .int a0_2,.tree .int a0_3]),(1,ai a1)]) rfl (by kernel_rfl) trivial ⟨⟨3,.tail _ (.head _)⟩,⟨trivial,trivial⟩⟩ ?_;unfold I4;unfold Cs at h;refine An ?_;refine Ab ?_;obtain ⟨g4,h⟩:=Am h;refine Aa 7 ?_;refine rz0 (.box (oi 2 1) 0) ?_;refine rzl (ai a0_0) ?_;refine Afw (.own (oi 176 5) (.slice .int) 0 a0_0.toNat) (oi 176 5) 23 3 .int (List.replicate a0_0.toNat ([]:List Int)) trivial (Zz (j:=a0_0.toNat) (k:=.i64) (k':=.i64) (m:=a0_0) (c:=a0_0) 3 (by kernel_rfl) (by kernel_rfl) g4 (by kernel_rfl) rfl) (by kernel_rfl) (by rw [List.length_replicate]) (by kernel_rfl) ?_;refine rsB 1 ?_;refine Aq (tn_ ?_);refine wr_ ?_;refine As h (fun (l5_m5:List (List Int)) S_=>S_=⟨Ap [(1,ai a1),(2,.box (oi 0 1) 0),(5,.own (oi 1 1) (.slice .int) 0 l5_m5.length)],Aj (Ar [(oi 0 1,.cells 34 [ai a0_0,.tree (.pair .int (.pair .int .int)) a0_1,.tree .int a0_2,.tree .int a0_3]),(oi 1 1,.mat 23 (oi 2 1) .int l5_m5),(oi 2 1,.pool 3 .int l5_m5)]),2⟩) ?_ ?_
 ·intro v_ h;refine An ?_;refine Af ?_;refine Ax h (fun t_ S_=>∃ (l7_m14:Nat),∃ (l7_m5:List (List Int)),t_=(l7_m14,l7_m5)∧S_=⟨Ap [(1,ai a1),(2,.box (oi 0 1) 0),(5,.own (oi 1 1) (.slice .int) 0 l7_m5.length),(13,ai ((a0_0.toNat:Nat):Int)),(14,ai ((l7_m14:Nat):Int))],Aj (Ar [(oi 0 1,.cells 34 [ai a0_0,.tree (.pair .int (.pair .int .int)) a0_1,.tree .int a0_2,.tree .int a0_3]),(oi 1 1,.mat 23 (oi 2 1) .int l7_m5),(oi 2 1,.pool 3 .int l7_m5)]),2⟩) ⟨_,(A9 5 (.own (oi 176 5) (.slice .int) 0 a0_0.toNat) (.own (oi 176 5) (.slice .int) 0 ((List.replicate a0_0.toNat ([]:List Int)).length)) (by kernel_rfl) (congrArg (fun z_=>((.own (oi 176 5) (.slice .int) 0 z_):AV)) (List.length_replicate.symm:a0_0.toNat=(List.replicate a0_0.toNat ([]:List Int)).length))).trans (Ac [(oi 0 1,oi 2 1),(oi 1 1,oi 176 5),(oi 2 1,oi 176 5)]),⟨0,List.replicate a0_0.toNat ([]:List Int),rfl,rfl⟩⟩ ?_;rintro n_ _ _ c_ ⟨l7_m14,l7_m5,rfl,rfl⟩ h hn7
  (try dsimp only at h);unfold Cf at h;unfold Hn;refine An ?_;refine Ab ?_;rcases Ae h with ⟨q10,h⟩ | ⟨q10,h⟩
  ·have q10_:=of_decide_eq_true q10;refine Ah q10 ?_;refine Ai (tn_ ?_);refine wr_ ?_;refine Ab ?_;refine Af ?_;refine An ?_;obtain ⟨y13,h13,h⟩:=Ad h;obtain ⟨x14,e14,h⟩:=Ad h;refine Aa 12 ?_;refine rz0 (.own (oi 1 1) (.slice .int) 0 l7_m5.length) ?_;refine rz0 (ai ((l7_m14:Nat):Int)) ?_;refine rz0 (.box (oi 0 1) 0) ?_;refine rzl (ai a0_0) ?_;refine zc (.own (oi 336 9) .int 0 y13.length) [(oi 336 9,some (.arr 3 .int y13))] [ai a0_0] (Ku h13) ?_;refine rs0 (.elt (oi 1 1) l7_m14 0) (zo (t:=.slice .int) (o:=oi 1 1) (len:=l7_m5.length) (k:=.i64) (m:=((l7_m14:Nat):Int)) (At _) (Al e14)) ?_;refine Nj (oi 1 1) (oi 1 1) (.vec 23 1 l7_m5.length ((hdL (oi 2 1) .int l7_m5).set l7_m14 (.own (oi 336 9) .int 0 y13.length))) (Tr (o:=oi 1 1) (e1:=23) (m:=l7_m5.length) (cs:=hdL (oi 2 1) .int l7_m5) (v:=.own (oi 336 9) .int 0 y13.length) (j:=l7_m14) (by kernel_rfl) (by kernel_rfl) (by kernel_rfl) rfl (by rw [D2]; exact Al e14)) ?_;refine Aq (bn_ (tn_ ?_));refine ⟨_,Ae0 (e1:=23) (e:=3) (u:=.int) (n:=l7_m5.length) (len:=y13.length) (row:=y13) (ys:=y13) (xss:=l7_m5) (j:=l7_m14) 9000 (oi 1 1) (oi 2 1) (oi 336 9) (by kernel_rfl) (by kernel_rfl) rfl (by kernel_rfl) (by kernel_rfl) (Pf rfl) (Oo rfl) (by kernel_rfl) (by kernel_rfl) (by kernel_rfl),?_⟩;obtain ⟨g15,h⟩:=Am h;refine Aa 15 ?_;refine rs0 (ai ((l7_m14+1:Nat):Int)) (za g15) ?_;refine rsB 1 ?_;refine Aq (tn_ ?_);obtain rfl:=zj h;exact ⟨(l7_m14+1,l7_m5.set l7_m14 y13),_,(A9 5 (.own (oi 1 1) (.slice .int) 0 l7_m5.length) (.own (oi 1 1) (.slice .int) 0 ((l7_m5.set l7_m14 y13).length)) (by kernel_rfl) (congrArg (fun z_=>((.own (oi 1 1) (.slice .int) 0 z_):AV)) ((Eq.trans (b:=l7_m5.length) rfl List.length_set.symm):l7_m5.length=(l7_m5.set l7_m14 y13).length))).trans (Ac [(oi 2 1,oi 9000 12)]),⟨l7_m14+1,l7_m5.set l7_m14 y13,rfl,rfl⟩,hn7⟩
  have q10_:=of_decide_eq_false q10;refine Ag q10 ?_;refine Au (te_ (te_ (be_ (tn_ ?_))));obtain rfl:=zj h;have h:=hn7
  (try dsimp only at h);obtain rfl:=zj h;exact ⟨_,Ac [],rfl⟩
 rintro l5_m5 _ rfl h
 (try dsimp only at h);refine As h (fun (l16_m5:List (List Int)) S_=>S_=⟨Ap [(5,.own (oi 0 1) (.slice .int) 0 l16_m5.length)],Aj (Ar [(oi 0 1,.mat 23 (oi 1 1) .int l16_m5),(oi 1 1,.pool 3 .int l16_m5)]),2⟩) ?_ ?_
 ·intro v_ h;refine An ?_;refine Af ?_;refine Ax h (fun t_ S_=>∃ (l18_m27:Nat),∃ (l18_m5:List (List Int)),t_=(l18_m27,l18_m5)∧S_=⟨Ap [(1,ai a1),(5,.own (oi 0 1) (.slice .int) 0 l18_m5.length),(25,.tree (.pair .int (.pair .int .int)) a0_1),(26,ai ((a0_1.length:Nat):Int)),(27,ai ((l18_m27:Nat):Int))],Aj (Ar [(oi 0 1,.mat 23 (oi 1 1) .int l18_m5),(oi 1 1,.pool 3 .int l18_m5)]),2⟩) ⟨_,Ac [(oi 0 1,oi 1 1),(oi 1 1,oi 2 1)],⟨0,l5_m5,rfl,rfl⟩⟩ ?_;rintro n_ _ _ c_ ⟨l18_m27,l18_m5,rfl,rfl⟩ h hn18
  (try dsimp only at h);unfold Ce at h;unfold Hl;refine An ?_;refine Ab ?_;rcases Ae h with ⟨q21,h⟩ | ⟨q21,h⟩
  ·have q21_:=of_decide_eq_true q21;refine Ah q21 ?_;refine Ai (tn_ ?_);refine wr_ ?_;refine Ab ?_;refine Af ?_;refine Ab ?_;obtain ⟨x24,e24,h⟩:=Ad h;refine Aa 7 ?_;refine rs0 (.telt (.pair .int (.pair .int .int)) x24 0) (zi (t:=.pair .int (.pair .int .int)) (xs:=a0_1) (k:=.i64) (m:=((l18_m27:Nat):Int)) (At _) e24) ?_;refine rsB 3 ?_;refine Aq (tn_ ?_);refine wr_ ?_;refine Ab ?_;obtain ⟨x26,f26,h⟩:=Ad h;obtain ⟨p26,b26,e26⟩:=Bi f26;obtain ⟨x27,f27,h⟩:=Ad h;obtain ⟨p27,b27,e27⟩:=Bi f27;obtain ⟨y28,h28,h⟩:=Ad h;refine Az 30 ?_;refine dz0 (.own (oi 0 1) (.slice .int) 0 l18_m5.length) ?_;refine dz0 (.box (oi 8 5) 0) ?_;refine dzl (ai x24.1) ?_;refine ds0 (.elt (oi 0 1) x24.1.toNat 0) (zo (t:=.slice .int) (o:=oi 0 1) (len:=l18_m5.length) (k:=.i64) (m:=x24.1) p26 (Al e26)) ?_;refine dsl (.own (kid (oi 1 1) x24.1.toNat) .int 0 x26.length) (Bs (o:=oi 0 1) (p:=oi 1 1) (e1:=23) (u:=.int) (xss:=l18_m5) (row:=x26) (j:=x24.1.toNat) (by kernel_rfl) (by kernel_rfl) e26) ?_;refine dz0 (.box (oi 8 5) 0) ?_;refine dzl (ai x24.1) ?_;refine dz0 (ai a1) ?_;refine dz0 (.own (oi 0 1) (.slice .int) 0 l18_m5.length) ?_;refine dz0 (.box (oi 8 5) 0) ?_;refine dzl (ai x24.1) ?_;refine ds0 (.elt (oi 0 1) x24.1.toNat 0) (zo (t:=.slice .int) (o:=oi 0 1) (len:=l18_m5.length) (k:=.i64) (m:=x24.1) p26 (Al e26)) ?_;refine dsl (.own (kid (oi 1 1) x24.1.toNat) .int 0 x26.length) (Bs (o:=oi 0 1) (p:=oi 1 1) (e1:=23) (u:=.int) (xss:=l18_m5) (row:=x26) (j:=x24.1.toNat) (by kernel_rfl) (by kernel_rfl) e26) ?_;refine dz0 (.box (oi 8 5) 0) ?_;refine dzl (ai x24.1) ?_;refine ds0 (.elt (kid (oi 1 1) x24.1.toNat) x24.1.toNat 0) (zo (t:=.int) (o:=kid (oi 1 1) x24.1.toNat) (len:=x26.length) (k:=.i64) (m:=x24.1) p27 (Al e27)) ?_;refine dsl (ai x27) (Ed (i:=kid (oi 1 1) x24.1.toNat) (j:=x24.1.toNat) (k:=0) (e:=3) (t:=.int) (xs:=x26) (by kernel_rfl) (Hs.trans (A0 (by kernel_rfl) e26)) e27 (by kernel_rfl)) ?_;refine dz0 (.box (oi 8 5) 2) ?_;refine dzl (ai x24.2.2) ?_;refine dz0 (ai (wI (x27+x24.2.2))) ?_;refine D4 (ai y28) [] [ai a1,ai (wI (x27+x24.2.2))] _ (caps:=[]) (args0:=[ai a1,ai (wI (x27+x24.2.2))]) trivial (by kernel_rfl) (Hw h28) K7 ?_;refine ds0 (.elt (kid (oi 1 1) x24.1.toNat) x24.1.toNat 0) (zo (t:=.int) (o:=kid (oi 1 1) x24.1.toNat) (len:=x26.length) (k:=.i64) (m:=x24.1) p27 (Al e27)) ?_;refine Mx (kid (oi 1 1) x24.1.toNat) (kid (oi 1 1) x24.1.toNat) (.arr 3 .int (x26.set x24.1.toNat y28)) (Ep (i:=kid (oi 1 1) x24.1.toNat) (j:=x24.1.toNat) (k:=0) (e:=3) (t:=.int) (xs:=x26) (cs:=[ai y28]) (x1:=y28) (by kernel_rfl) (Hs.trans (A0 (by kernel_rfl) e26)) e27 (by kernel_rfl) (by kernel_rfl)) ?_;refine Ld (Hh (o:=oi 0 1) (p:=oi 1 1) (e1:=23) (e:=3) (u:=.int) (xss:=l18_m5) (k:=x24.1.toNat) (row:=x26) (row':=x26.set x24.1.toNat y28) (by kernel_rfl) rfl (by kernel_rfl) e26 List.length_set) ?_;refine Ft (Bd (by kernel_rfl)) (tn_ ?_);refine wr_ ?_;refine Ab ?_;obtain ⟨x30,f30,h⟩:=Ad h;obtain ⟨p30,b30,e30⟩:=Bi f30;obtain ⟨x31,f31,h⟩:=Ad h;obtain ⟨p31,b31,e31⟩:=Bi f31;obtain ⟨y32,h32,h⟩:=Ad h;refine Az 53 ?_;refine dz0 (.own (oi 0 1) (.slice .int) 0 l18_m5.length) ?_;refine dz0 (.box (oi 8 5) 1) ?_;refine dzl (ai x24.2.1) ?_;refine ds0 (.elt (oi 0 1) x24.2.1.toNat 0) (zo (t:=.slice .int) (o:=oi 0 1) (len:=l18_m5.length) (k:=.i64) (m:=x24.2.1) p30 (Nat.lt_of_lt_of_le (Al e30) (Nat.le_of_eq (Eq.symm (Eq.trans (b:=l18_m5.length) rfl List.length_set.symm))))) ?_;refine dsl (.own (kid (oi 1 1) x24.2.1.toNat) .int 0 x30.length) (Bs (o:=oi 0 1) (p:=oi 1 1) (e1:=23) (u:=.int) (xss:=l18_m5.set x24.1.toNat (x26.set x24.1.toNat y28)) (row:=x30) (j:=x24.2.1.toNat) (by kernel_rfl) (by kernel_rfl) e30) ?_;refine dz0 (.box (oi 8 5) 1) ?_;refine dzl (ai x24.2.1) ?_;refine dz0 (ai a1) ?_;refine dz0 (.own (oi 0 1) (.slice .int) 0 l18_m5.length) ?_;refine dz0 (.box (oi 8 5) 1) ?_;refine dzl (ai x24.2.1) ?_;refine ds0 (.elt (oi 0 1) x24.2.1.toNat 0) (zo (t:=.slice .int) (o:=oi 0 1) (len:=l18_m5.length) (k:=.i64) (m:=x24.2.1) p30 (Nat.lt_of_lt_of_le (Al e30) (Nat.le_of_eq (Eq.symm (Eq.trans (b:=l18_m5.length) rfl List.length_set.symm))))) ?_;refine dsl (.own (kid (oi 1 1) x24.2.1.toNat) .int 0 x30.length) (Bs (o:=oi 0 1) (p:=oi 1 1) (e1:=23) (u:=.int) (xss:=l18_m5.set x24.1.toNat (x26.set x24.1.toNat y28)) (row:=x30) (j:=x24.2.1.toNat) (by kernel_rfl) (by kernel_rfl) e30) ?_;refine dz0 (.box (oi 8 5) 1) ?_;refine dzl (ai x24.2.1) ?_;refine ds0 (.elt (kid (oi 1 1) x24.2.1.toNat) x24.2.1.toNat 0) (zo (t:=.int) (o:=kid (oi 1 1) x24.2.1.toNat) (len:=x30.length) (k:=.i64) (m:=x24.2.1) p31 (Al e31)) ?_;refine dsl (ai x31) (Ed (i:=kid (oi 1 1) x24.2.1.toNat) (j:=x24.2.1.toNat) (k:=0) (e:=3) (t:=.int) (xs:=x30) (by kernel_rfl) (Hs.trans (A0 (by kernel_rfl) e30)) e31 (by kernel_rfl)) ?_;refine dz0 (.box (oi 8 5) 2) ?_;refine dzl (ai x24.2.2) ?_;refine dz0 (ai (wI (x31+x24.2.2))) ?_;refine D4 (ai y32) [] [ai a1,ai (wI (x31+x24.2.2))] _ (caps:=[]) (args0:=[ai a1,ai (wI (x31+x24.2.2))]) trivial (by kernel_rfl) (Hw h32) K7 ?_;refine ds0 (.elt (kid (oi 1 1) x24.2.1.toNat) x24.2.1.toNat 0) (zo (t:=.int) (o:=kid (oi 1 1) x24.2.1.toNat) (len:=x30.length) (k:=.i64) (m:=x24.2.1) p31 (Al e31)) ?_;refine Mx (kid (oi 1 1) x24.2.1.toNat) (kid (oi 1 1) x24.2.1.toNat) (.arr 3 .int (x30.set x24.2.1.toNat y32)) (Ep (i:=kid (oi 1 1) x24.2.1.toNat) (j:=x24.2.1.toNat) (k:=0) (e:=3) (t:=.int) (xs:=x30) (cs:=[ai y32]) (x1:=y32) (by kernel_rfl) (Hs.trans (A0 (by kernel_rfl) e30)) e31 (by kernel_rfl) (by kernel_rfl)) ?_;refine Ld (Hh (o:=oi 0 1) (p:=oi 1 1) (e1:=23) (e:=3) (u:=.int) (xss:=l18_m5.set x24.1.toNat (x26.set x24.1.toNat y28)) (k:=x24.2.1.toNat) (row:=x30) (row':=x30.set x24.2.1.toNat y32) (by kernel_rfl) rfl (by kernel_rfl) e30 List.length_set) ?_;refine Ft (Bd (by kernel_rfl)) (tn_ ?_);refine wr_ ?_;refine Ab ?_;obtain ⟨x34,f34,h⟩:=Ad h;obtain ⟨p34,b34,e34⟩:=Bi f34;obtain ⟨x35,f35,h⟩:=Ad h;obtain ⟨p35,b35,e35⟩:=Bi f35;obtain ⟨y36,h36,h⟩:=Ad h;refine Az 76 ?_;refine dz0 (.own (oi 0 1) (.slice .int) 0 l18_m5.length) ?_;refine dz0 (.box (oi 8 5) 0) ?_;refine dzl (ai x24.1) ?_;refine ds0 (.elt (oi 0 1) x24.1.toNat 0) (zo (t:=.slice .int) (o:=oi 0 1) (len:=l18_m5.length) (k:=.i64) (m:=x24.1) p34 (Nat.lt_of_lt_of_le (Al e34) (Nat.le_of_eq (Eq.symm (Eq.trans (b:=(l18_m5.set x24.1.toNat (x26.set x24.1.toNat y28)).length) (Eq.trans (b:=l18_m5.length) rfl List.length_set.symm) List.length_set.symm))))) ?_;refine dsl (.own (kid (oi 1 1) x24.1.toNat) .int 0 x34.length) (Bs (o:=oi 0 1) (p:=oi 1 1) (e1:=23) (u:=.int) (xss:=(l18_m5.set x24.1.toNat (x26.set x24.1.toNat y28)).set x24.2.1.toNat (x30.set x24.2.1.toNat y32)) (row:=x34) (j:=x24.1.toNat) (by kernel_rfl) (by kernel_rfl) e34) ?_;refine dz0 (.box (oi 8 5) 1) ?_;refine dzl (ai x24.2.1) ?_;refine dz0 (ai a1) ?_;refine dz0 (.own (oi 0 1) (.slice .int) 0 l18_m5.length) ?_;refine dz0 (.box (oi 8 5) 0) ?_;refine dzl (ai x24.1) ?_;refine ds0 (.elt (oi 0 1) x24.1.toNat 0) (zo (t:=.slice .int) (o:=oi 0 1) (len:=l18_m5.length) (k:=.i64) (m:=x24.1) p34 (Nat.lt_of_lt_of_le (Al e34) (Nat.le_of_eq (Eq.symm (Eq.trans (b:=(l18_m5.set x24.1.toNat (x26.set x24.1.toNat y28)).length) (Eq.trans (b:=l18_m5.length) rfl List.length_set.symm) List.length_set.symm))))) ?_;refine dsl (.own (kid (oi 1 1) x24.1.toNat) .int 0 x34.length) (Bs (o:=oi 0 1) (p:=oi 1 1) (e1:=23) (u:=.int) (xss:=(l18_m5.set x24.1.toNat (x26.set x24.1.toNat y28)).set x24.2.1.toNat (x30.set x24.2.1.toNat y32)) (row:=x34) (j:=x24.1.toNat) (by kernel_rfl) (by kernel_rfl) e34) ?_;refine dz0 (.box (oi 8 5) 1) ?_;refine dzl (ai x24.2.1) ?_;refine ds0 (.elt (kid (oi 1 1) x24.1.toNat) x24.2.1.toNat 0) (zo (t:=.int) (o:=kid (oi 1 1) x24.1.toNat) (len:=x34.length) (k:=.i64) (m:=x24.2.1) p35 (Al e35)) ?_;refine dsl (ai x35) (Ed (i:=kid (oi 1 1) x24.1.toNat) (j:=x24.2.1.toNat) (k:=0) (e:=3) (t:=.int) (xs:=x34) (by kernel_rfl) (Hs.trans (A0 (by kernel_rfl) e34)) e35 (by kernel_rfl)) ?_;refine dz0 (.box (oi 8 5) 2) ?_;refine dzl (ai x24.2.2) ?_;refine dz0 (ai (wI (x35 - x24.2.2))) ?_;refine D4 (ai y36) [] [ai a1,ai (wI (x35 - x24.2.2))] _ (caps:=[]) (args0:=[ai a1,ai (wI (x35 - x24.2.2))]) trivial (by kernel_rfl) (Hw h36) K7 ?_;refine ds0 (.elt (kid (oi 1 1) x24.1.toNat) x24.2.1.toNat 0) (zo (t:=.int) (o:=kid (oi 1 1) x24.1.toNat) (len:=x34.length) (k:=.i64) (m:=x24.2.1) p35 (Al e35)) ?_;refine Mx (kid (oi 1 1) x24.1.toNat) (kid (oi 1 1) x24.1.toNat) (.arr 3 .int (x34.set x24.2.1.toNat y36)) (Ep (i:=kid (oi 1 1) x24.1.toNat) (j:=x24.2.1.toNat) (k:=0) (e:=3) (t:=.int) (xs:=x34) (cs:=[ai y36]) (x1:=y36) (by kernel_rfl) (Hs.trans (A0 (by kernel_rfl) e34)) e35 (by kernel_rfl) (by kernel_rfl)) ?_;refine Ld (Hh (o:=oi 0 1) (p:=oi 1 1) (e1:=23) (e:=3) (u:=.int) (xss:=(l18_m5.set x24.1.toNat (x26.set x24.1.toNat y28)).set x24.2.1.toNat (x30.set x24.2.1.toNat y32)) (k:=x24.1.toNat) (row:=x34) (row':=x34.set x24.2.1.toNat y36) (by kernel_rfl) rfl (by kernel_rfl) e34 List.length_set) ?_;refine Ft (Bd (by kernel_rfl)) (tn_ ?_);refine wr_ ?_;obtain ⟨x37,f37,h⟩:=Ad h;obtain ⟨p37,b37,e37⟩:=Bi f37;obtain ⟨x38,f38,h⟩:=Ad h;obtain ⟨p38,b38,e38⟩:=Bi f38;obtain ⟨y39,h39,h⟩:=Ad h;refine Az 99 ?_;refine dz0 (.own (oi 0 1) (.slice .int) 0 l18_m5.length) ?_;refine dz0 (.box (oi 8 5) 1) ?_;refine dzl (ai x24.2.1) ?_;refine ds0 (.elt (oi 0 1) x24.2.1.toNat 0) (zo (t:=.slice .int) (o:=oi 0 1) (len:=l18_m5.length) (k:=.i64) (m:=x24.2.1) p37 (Nat.lt_of_lt_of_le (Al e37) (Nat.le_of_eq (Eq.symm (Eq.trans (b:=((l18_m5.set x24.1.toNat (x26.set x24.1.toNat y28)).set x24.2.1.toNat (x30.set x24.2.1.toNat y32)).length) (Eq.trans (b:=(l18_m5.set x24.1.toNat (x26.set x24.1.toNat y28)).length) (Eq.trans (b:=l18_m5.length) rfl List.length_set.symm) List.length_set.symm) List.length_set.symm))))) ?_;refine dsl (.own (kid (oi 1 1) x24.2.1.toNat) .int 0 x37.length) (Bs (o:=oi 0 1) (p:=oi 1 1) (e1:=23) (u:=.int) (xss:=((l18_m5.set x24.1.toNat (x26.set x24.1.toNat y28)).set x24.2.1.toNat (x30.set x24.2.1.toNat y32)).set x24.1.toNat (x34.set x24.2.1.toNat y36)) (row:=x37) (j:=x24.2.1.toNat) (by kernel_rfl) (by kernel_rfl) e37) ?_;refine dz0 (.box (oi 8 5) 0) ?_;refine dzl (ai x24.1) ?_;refine dz0 (ai a1) ?_;refine dz0 (.own (oi 0 1) (.slice .int) 0 l18_m5.length) ?_;refine dz0 (.box (oi 8 5) 1) ?_;refine dzl (ai x24.2.1) ?_;refine ds0 (.elt (oi 0 1) x24.2.1.toNat 0) (zo (t:=.slice .int) (o:=oi 0 1) (len:=l18_m5.length) (k:=.i64) (m:=x24.2.1) p37 (Nat.lt_of_lt_of_le (Al e37) (Nat.le_of_eq (Eq.symm (Eq.trans (b:=((l18_m5.set x24.1.toNat (x26.set x24.1.toNat y28)).set x24.2.1.toNat (x30.set x24.2.1.toNat y32)).length) (Eq.trans (b:=(l18_m5.set x24.1.toNat (x26.set x24.1.toNat y28)).length) (Eq.trans (b:=l18_m5.length) rfl List.length_set.symm) List.length_set.symm) List.length_set.symm))))) ?_;refine dsl (.own (kid (oi 1 1) x24.2.1.toNat) .int 0 x37.length) (Bs (o:=oi 0 1) (p:=oi 1 1) (e1:=23) (u:=.int) (xss:=((l18_m5.set x24.1.toNat (x26.set x24.1.toNat y28)).set x24.2.1.toNat (x30.set x24.2.1.toNat y32)).set x24.1.toNat (x34.set x24.2.1.toNat y36)) (row:=x37) (j:=x24.2.1.toNat) (by kernel_rfl) (by kernel_rfl) e37) ?_;refine dz0 (.box (oi 8 5) 0) ?_;refine dzl (ai x24.1) ?_;refine ds0 (.elt (kid (oi 1 1) x24.2.1.toNat) x24.1.toNat 0) (zo (t:=.int) (o:=kid (oi 1 1) x24.2.1.toNat) (len:=x37.length) (k:=.i64) (m:=x24.1) p38 (Al e38)) ?_;refine dsl (ai x38) (Ed (i:=kid (oi 1 1) x24.2.1.toNat) (j:=x24.1.toNat) (k:=0) (e:=3) (t:=.int) (xs:=x37) (by kernel_rfl) (Hs.trans (A0 (by kernel_rfl) e37)) e38 (by kernel_rfl)) ?_;refine dz0 (.box (oi 8 5) 2) ?_;refine dzl (ai x24.2.2) ?_;refine dz0 (ai (wI (x38 - x24.2.2))) ?_;refine D4 (ai y39) [] [ai a1,ai (wI (x38 - x24.2.2))] _ (caps:=[]) (args0:=[ai a1,ai (wI (x38 - x24.2.2))]) trivial (by kernel_rfl) (Hw h39) K7 ?_;refine ds0 (.elt (kid (oi 1 1) x24.2.1.toNat) x24.1.toNat 0) (zo (t:=.int) (o:=kid (oi 1 1) x24.2.1.toNat) (len:=x37.length) (k:=.i64) (m:=x24.1) p38 (Al e38)) ?_;refine Mx (kid (oi 1 1) x24.2.1.toNat) (kid (oi 1 1) x24.2.1.toNat) (.arr 3 .int (x37.set x24.1.toNat y39)) (Ep (i:=kid (oi 1 1) x24.2.1.toNat) (j:=x24.1.toNat) (k:=0) (e:=3) (t:=.int) (xs:=x37) (cs:=[ai y39]) (x1:=y39) (by kernel_rfl) (Hs.trans (A0 (by kernel_rfl) e37)) e38 (by kernel_rfl) (by kernel_rfl)) ?_;refine Ld (Hh (o:=oi 0 1) (p:=oi 1 1) (e1:=23) (e:=3) (u:=.int) (xss:=((l18_m5.set x24.1.toNat (x26.set x24.1.toNat y28)).set x24.2.1.toNat (x30.set x24.2.1.toNat y32)).set x24.1.toNat (x34.set x24.2.1.toNat y36)) (k:=x24.2.1.toNat) (row:=x37) (row':=x37.set x24.1.toNat y39) (by kernel_rfl) rfl (by kernel_rfl) e37 List.length_set) ?_;refine Ft (Bd (by kernel_rfl)) (bn_ (tn_ ?_));refine wr_ ?_;obtain ⟨g40,h⟩:=Am h;refine Aa 101 ?_;refine rs0 (ai ((l18_m27+1:Nat):Int)) (za g40) ?_;refine rsB 1 ?_;refine Aq (tn_ ?_);obtain rfl:=zj h;exact ⟨(l18_m27+1,(((l18_m5.set x24.1.toNat (x26.set x24.1.toNat y28)).set x24.2.1.toNat (x30.set x24.2.1.toNat y32)).set x24.1.toNat (x34.set x24.2.1.toNat y36)).set x24.2.1.toNat (x37.set x24.1.toNat y39)),_,(A9 5 (.own (oi 0 1) (.slice .int) 0 l18_m5.length) (.own (oi 0 1) (.slice .int) 0 (((((l18_m5.set x24.1.toNat (x26.set x24.1.toNat y28)).set x24.2.1.toNat (x30.set x24.2.1.toNat y32)).set x24.1.toNat (x34.set x24.2.1.toNat y36)).set x24.2.1.toNat (x37.set x24.1.toNat y39)).length)) (by kernel_rfl) (congrArg (fun z_=>((.own (oi 0 1) (.slice .int) 0 z_):AV)) ((Eq.trans (b:=(((l18_m5.set x24.1.toNat (x26.set x24.1.toNat y28)).set x24.2.1.toNat (x30.set x24.2.1.toNat y32)).set x24.1.toNat (x34.set x24.2.1.toNat y36)).length) (Eq.trans (b:=((l18_m5.set x24.1.toNat (x26.set x24.1.toNat y28)).set x24.2.1.toNat (x30.set x24.2.1.toNat y32)).length) (Eq.trans (b:=(l18_m5.set x24.1.toNat (x26.set x24.1.toNat y28)).length) (Eq.trans (b:=l18_m5.length) rfl List.length_set.symm) List.length_set.symm) List.length_set.symm) List.length_set.symm):l18_m5.length=((((l18_m5.set x24.1.toNat (x26.set x24.1.toNat y28)).set x24.2.1.toNat (x30.set x24.2.1.toNat y32)).set x24.1.toNat (x34.set x24.2.1.toNat y36)).set x24.2.1.toNat (x37.set x24.1.toNat y39)).length))).trans (Ac []),⟨l18_m27+1,(((l18_m5.set x24.1.toNat (x26.set x24.1.toNat y28)).set x24.2.1.toNat (x30.set x24.2.1.toNat y32)).set x24.1.toNat (x34.set x24.2.1.toNat y36)).set x24.2.1.toNat (x37.set x24.1.toNat y39),rfl,rfl⟩,hn18⟩
  have q21_:=of_decide_eq_false q21;refine Ag q21 ?_;refine Au (te_ (te_ (be_ (tn_ ?_))));obtain rfl:=zj h;have h:=hn18
  (try dsimp only at h);obtain rfl:=zj h;exact ⟨_,Ac [],rfl⟩
 rintro l16_m5 _ rfl h
 (try dsimp only at h);refine An ?_;refine Ao ?_;obtain rfl:=zj h;exact Gk [.own (oi 0 1) (.slice .int) 0 l16_m5.length] (Ac (tl:=[(4,.own (oi 0 1) (.slice .int) 0 l16_m5.length)]) (g:=2) [])
end
section
open Go.RowKit Go.Deep
theorem Ao5 {S:St} {ob' obD:Oid->Option Ob} {tm':Nat->AV} (h1:∀ i o,ob' i=some o->S.ob i=some o) (h2:∀ i o,obD i=some o->S.ob i=some o∧ob' i=none) (h3:∀ t,tm' t=S.tm t∨∃ n,gnd obD n (S.tm t)=some (tm' t)):Weak S ⟨tm',ob',S.gen⟩:=by
 intro G w0 B N a w hr;obtain ⟨σ,hm,hf,hB⟩:=hr.ex;have him:∀ b,imm S.ob σ b->imm ob' σ b:=fun b hb i o c s ho=>hb i o c s (h1 i o ho)
 have hL:Later σ σ (imm S.ob σ) (imm ob' σ) w w:=⟨fun _ _ h=>h,fun b _ hb=>him b hb,fun _ _ _=>rfl,Nat.le_refl _⟩
 refine ⟨⟨σ,⟨hm.below,hm.inv,hm.gen,hm.lt,hm.cap,fun i j b c s c' s' o o' hi hj=>hm.inj i j b c s c' s' o o' (h1 i o hi) (h1 j o' hj),fun i o l hi hl=>(hm.obs i o l (h1 i o hi) hl).later hL fun _ _ _ _=>rfl⟩,fun t=>?_,hB.trans hL⟩,hr.size,hr.defers,fun i hi=>?_⟩
 ·rcases h3 t with e | ⟨n,e⟩
  ·show AV.Rep σ (imm ob' σ) w (tm' t) _;rw [e];exact AV.Rep.later hL _ _ (hf t)
  ·refine Uz (ob:=obD) (lo:=w0.heap.size) (im:=imm S.ob σ) (fun i o l ho hl=>hm.obs i o l (h2 i o ho).1 hl) him (fun i o b c s ho hs j o' c' s' hj hs'=>?_) n _ _ _ e (hf t);have:=hm.inj i j b c s c' s' o o' (h2 i o ho).1 (h1 j o' hj) hs hs';subst this;rw [(h2 _ o ho).2] at hj;cases hj
 ·refine hr.obg i fun hn=>hi ?_
  cases ho:ob' i with
  | none=>exact ho
  | some o=>rw [h1 i o ho] at hn; cases hn
theorem Akg {tl:List (Nat×AV)} {ol:List (Oid×Option Ob)} {g:Nat} (d:Nat) (o p:Oid) {e1 e:TypeId} {u:Ty} {xss:List (List u.D)} {len:Nat} (hd:Ap tl d=.own o (.slice u) 0 len) (ho:Aj ol o=some (.vec e1 1 xss.length (hdL p u xss))) (hp:Fo ol p=some (.pool e u xss)) (hl:len=xss.length) :
  Weak ⟨Ap tl,Aj ol,g⟩ ⟨Ap ((d,.tree (.slice u) xss) :: tl),Aj ((o,none) :: (p,some (.pool e u [])) :: ol),g⟩:=by
 refine Ao5 (S:=⟨Ap tl,Aj ol,g⟩) (obD:=fun i=>if i=o∨(i.1.1=p.1.1∧i.2=p.2∧i.1.2≠0) then Aj ol i else none) (fun i x hx=>?_) (fun i x hx=>?_) fun t=>?_
 ·rw [Ls,Ju] at hx;split at hx
  ·cases hx
  ·split at hx
   ·cases hx
   ·exact hx
 ·split at hx
  ·rename_i hc;refine ⟨hx,?_⟩;rw [Ls,Ju];rcases hc with h | h
   ·rw [if_pos h]
   ·rw [if_pos h,ite_self]
  ·cases hx
 ·by_cases ht:t=d
  ·subst ht;refine .inr ⟨1,?_⟩;show gnd _ 1 (Ap tl t)=some (Ap _ t);rw [hd,show Ap ((t,AV.tree (.slice u) xss) :: tl) t=.tree (.slice u) xss from if_pos rfl];refine M6 (p:=p) (e1:=e1) (e:=e) ?_ (fun k row hx=>?_) hl
   ·rw [if_pos (.inl rfl)]; exact ho
   ·rw [if_pos (.inr ⟨rfl,rfl,by simp [kid]⟩)]; exact A0 hp hx
  ·exact .inl (if_neg ht)
end
section
open Go.RowKit Go.Deep
set_option maxRecDepth 4000
def O3:AC :=
 (.seq (.seq (rg [xo 4 (qm (tm 3)),xo 5 (qm (tm 0)),xo 6 (.i (.len (tm 5))),xo 7 (qb .lss (tm 4) (tm 6)),xo 8 (qm (tm 7)),⟨some 9,some (8,true),qm (tm 0)⟩,⟨some 10,some (8,true),qm (tm 3)⟩,⟨some 11,some (8,true),qx 1 (tm 9) (tm 10)⟩,⟨some 12,some (8,true),ql (tm 11)⟩,⟨some 13,some (8,true),qb .eql (tm 12) (ci 0)⟩,xo 14 (.i (.pick (tm 8) (tm 13) (cb false)))])
 (.cond (tm 14)
  .skip
  (.exit 0)))
 (.block 1 (rg [xo 15 (qm (tm 3)),xo 16 (qb .add (tm 15) (ci 1)),xo 3 (qm (tm 16))])))
def Tg:AC :=
 (.seq (rg [xo 2 (qm (ci 0))])
 (.seq (rg [xo 3 (qm (ci 0))])
 (.seq (.block 0 (.loop O3))
 (.seq (rg [xo 17 (qm (tm 3)),xo 2 (qm (tm 17))])
 .ret))))
def Ac4:List Res:=[.tmp 2]
theorem Adi:Aw Tryd.prog Tryd.f47=some (Tg,Ac4):=by kernel_rfl
theorem J0:A6 Tryd.prog 47=true:=by kernel_rfl
def Fy (a0:List Int) (l4_m3:Nat):Option (Ctl Nat Nat) :=
 Option.bind (cond (decide (((l4_m3:Nat):Int)<((a0.length:Nat):Int)))
  (Option.bind (a0[l4_m3]?) fun x8 =>
  some (x8==0))
  (some false)) fun l6_m14 =>
cond l6_m14
 (og (l4_m3+1<4611686018427387904) <|
 some (Ctl.next (l4_m3+1)))
 (some (Ctl.out l4_m3))
def Ee (a0:List Int):Option Int :=
 Option.bind (Av (fun s_:Nat=>Fy a0 s_) 4611686018427387904 0) fun l3_m3 =>
some ((l3_m3:Nat):Int)
def Aau (r:Int):RV:=⟨false,[(false,[.sc (.int .i64 r)])]⟩
theorem J2 {a0:List Int} {r:Int} (h:Ee a0=some r):Bm Tryd.prog Tab 47 [.tree .int a0] (Aau r):=by
 refine Ba (by kernel_rfl) Tryd.func47 Adi (n:=18) (by kernel_rfl) (by simp) (tl:=[(0,.tree .int a0)]) rfl ?_;unfold Tg;unfold Ee at h;refine An ?_;refine An ?_;refine As h (fun (l3_m3:Nat) S_=>S_=⟨Ap [(3,ai ((l3_m3:Nat):Int))],Aj (Ar []),2⟩) ?_ ?_
 ·intro v_ h;refine Af ?_;refine Ax h (fun (l4_m3:Nat) S_=>S_=⟨Ap [(0,.tree .int a0),(3,ai ((l4_m3:Nat):Int))],Aj (Ar []),2⟩) ⟨_,Ac [],rfl⟩ ?_;rintro n_ l4_m3 _ c_ rfl h hn4
  (try dsimp only at h);unfold Fy at h;unfold O3;refine Ab ?_;refine As h (fun (l6_m14:Bool) S_=>S_=⟨Ap [(0,.tree .int a0),(3,ai ((l4_m3:Nat):Int)),(14,.bool l6_m14)],Aj (Ar []),2⟩) ?_ ?_
  ·intro v_ h;rcases Ae h with ⟨q7,h⟩ | ⟨q7,h⟩
   ·have q7_:=of_decide_eq_true q7;obtain ⟨x8,e8,h⟩:=Ad h;refine Aa 13 ?_;refine rsB 5 ?_;refine rs0 (.tree .int a0) (zg q7) ?_;refine rs0 (ai ((l4_m3:Nat):Int)) (zg q7) ?_;refine rs0 (.telt .int x8 0) (Nk (by kernel_rfl) q7 (zi (t:=.int) (xs:=a0) (k:=.i64) (m:=((l4_m3:Nat):Int)) (At _) e8)) ?_;refine rs0 (ai x8) (zg q7) ?_;refine rs0 (.bool (x8==0)) (zg q7) ?_;refine rs0 (.bool (x8==0)) (zT q7) ?_;refine Aq (tn_ ?_);obtain rfl:=zj h;exact ⟨_,Ac [],rfl⟩
   have q7_:=of_decide_eq_false q7;refine Aa 13 ?_;refine rsB 5 ?_;refine zs q7 ?_;refine zs q7 ?_;refine zs q7 ?_;refine zs q7 ?_;refine zs q7 ?_;refine rs0 (.bool false) (zF q7) ?_;refine Aq (tn_ ?_);obtain rfl:=zj h;exact ⟨_,Ac [],rfl⟩
  rintro l6_m14 _ rfl h
  (try dsimp only at h);rcases Ae h with ⟨q9,h⟩ | ⟨q9,h⟩
  ·refine Ah q9 ?_;refine Ai (tn_ ?_);refine wr_ ?_;refine Af ?_;obtain ⟨g10,h⟩:=Am h;refine Aa 5 ?_;refine rsB 1 ?_;refine rs0 (ai ((l4_m3+1:Nat):Int)) (za g10) ?_;refine rsB 1 ?_;refine Aq (bn_ (tn_ ?_));obtain rfl:=zj h;exact ⟨l4_m3+1,_,Ac [],rfl,hn4⟩
  refine Ag q9 ?_;refine Au (te_ (te_ (be_ (tn_ ?_))));obtain rfl:=zj h;have h:=hn4
  (try dsimp only at h);obtain rfl:=zj h;exact ⟨_,Ac [],rfl⟩
 rintro l3_m3 _ rfl h
 (try dsimp only at h);refine An ?_;refine Ao ?_;obtain rfl:=zj h;exact Br [ai ((l3_m3:Nat):Int)] (A8 rfl zl Bc)
def O7:AC :=
 (.seq (rg [xo 63 (qb .lss (tm 62) (tm 61))])
 (.seq (.cond (tm 63)
  .skip
  (.exit 6))
 (.seq (.block 7 (.seq (rg [xo 64 (qm (tm 62)),xo 65 (qx 1 (tm 60) (tm 62)),xo 66 (ql (tm 65)),xo 15 (qm (tm 64)),xo 16 (qm (tm 66))])
 (.region [xo 67 (qm (tm 14)),xo 68 (qm (tm 7)),xo 69 (qm (tm 15)),xo 70 (qx 1 (tm 68) (tm 69)),xo 71 (ql (tm 70)),xo 72 (qc 47 [tm 71] [[some .int]]),xo 73 (qm (tm 0)),xo 74 (qm (tm 16)),xo 75 (qm (tm 13)),xo 76 (qx 1 (tm 74) (tm 75)),xo 77 (ql (tm 76)),xo 78 (qc 76 [tm 73,tm 77] [[],[]]),xo 79 (qx 1 (tm 67) (tm 72)),xn (qs (tm 79) (tm 78))] true [(5,10)])))
 (rg [xo 80 (qb .add (tm 62) (ci 1)),xo 62 (qm (tm 80))]))))
def Oe:AC :=
 (.seq (.seq (rg [xo 45 (qm (tm 13)),xo 46 (qm (tm 1)),xo 47 (qb .lss (tm 45) (tm 46))])
 (.cond (tm 47)
  .skip
  (.exit 4)))
 (.seq (.block 5 (.seq (.seq (rg [xo 50 (qm (tm 8)),xo 51 (qm (tm 13)),xo 52 (qx 1 (tm 50) (tm 51)),xo 53 (ql (tm 52)),xo 54 (qb .geq (tm 53) (ci 0))])
 (.cond (tm 54)
  (.exit 5)
  .skip))
 (.seq (rg [xo 55 (qm (tm 1)),xo 56 (.make 3 .int 8 (tm 55) (tm 55)),xo 14 (qm (tm 56))])
 (.seq (rg [xo 57 (qm (tm 14)),xo 58 (qm (tm 13)),xo 59 (qx 1 (tm 57) (tm 58)),xn (qs (tm 59) (ci 1))])
 (.seq (.seq (rg [xo 60 (qm (tm 7)),xo 61 (.i (.len (tm 60))),xo 62 (qm (ci 0))])
 (.block 6 (.loop O7)))
 (rg [xo 81 (qm (tm 12)),xo 82 (qm (tm 14)),xo 83 (.mkV 23 (.slice .int) 1 [tm 82]),xo 84 (.appV 23 (.slice .int) 24 (tm 81) (tm 83)),xo 12 (qm (tm 84))]))))))
 (rg [xo 48 (qm (tm 13)),xo 49 (qb .add (tm 48) (ci 1)),xo 13 (qm (tm 49))])))
def Ov:AC :=
 (.seq (rg [xo 35 (qb .lss (tm 34) (tm 33))])
 (.seq (.cond (tm 35)
  .skip
  (.exit 2))
 (.seq (.block 3 (.seq (rg [xo 36 (qm (tm 34)),xo 37 (qx 1 (tm 32) (tm 34)),xo 38 (ql (tm 37)),xo 10 (qm (tm 36)),xo 11 (qm (tm 38))])
 (rg [xo 39 (qm (tm 8)),xo 40 (qm (tm 11)),xo 41 (qc 47 [tm 40] [[some .int]]),xo 42 (qm (tm 10)),xo 43 (qx 1 (tm 39) (tm 41)),xn (qs (tm 43) (tm 42))])))
 (rg [xo 44 (qb .add (tm 34) (ci 1)),xo 34 (qm (tm 44))]))))
def O0:AC :=
 (.seq (rg [xo 26 (qb .lss (tm 25) (tm 24))])
 (.seq (.cond (tm 26)
  .skip
  (.exit 0))
 (.seq (.block 1 (.seq (rg [xo 27 (qm (tm 25)),xo 9 (qm (tm 27))])
 (rg [xo 28 (qm (tm 8)),xo 29 (qm (tm 9)),xo 30 (qx 1 (tm 28) (tm 29)),xn (qs (tm 30) (ci (-1)))])))
 (rg [xo 31 (qb .add (tm 25) (ci 1)),xo 25 (qm (tm 31))]))))
def Tm:AC :=
 (.seq (rg [xo 6 (qm (.cst .nils))])
 (.seq (rg [xo 17 (qm (tm 0)),xo 18 (qm (tm 1)),xo 19 (qm (tm 2)),xo 20 (qc 45 [tm 17,tm 18,tm 19] [[],[],[some (.slice .int)]]),xo 7 (qm (tm 20))])
 (.seq (rg [xo 21 (qm (tm 1)),xo 22 (.make 3 .int 8 (tm 21) (tm 21)),xo 8 (qm (tm 22))])
 (.seq (.seq (rg [xo 23 (qm (tm 8)),xo 24 (.i (.len (tm 23))),xo 25 (qm (ci 0))])
 (.block 0 (.loop O0)))
 (.seq (.seq (rg [xo 32 (qm (tm 7)),xo 33 (.i (.len (tm 32))),xo 34 (qm (ci 0))])
 (.block 2 (.loop Ov)))
 (.seq (rg [xo 12 (qm (.cst .nils))])
 (.seq (.seq (rg [xo 13 (qm (ci 0))])
 (.block 4 (.loop Oe)))
 (.seq (rg [xo 85 (qm (tm 0)),xo 86 (qm (tm 1)),xo 87 (qm (tm 12)),xo 88 (qc 45 [tm 85,tm 86,tm 87] [[],[],[some (.slice .int)]]),xo 6 (qm (tm 88))])
 .ret))))))))
def Acy:List Res:=[.tmp 6]
theorem Adm:Aw Tryd.prog Tryd.f43=some (Tm,Acy):=by kernel_rfl
theorem Rl:A6 Tryd.prog 43=true:=by kernel_rfl
def F4 (a1:Int) (l9_m25:Nat) (l9_m8:List Int):Option (Ctl (Nat×List Int) (List Int)) :=
 cond (decide (((l9_m25:Nat):Int)<((a1.toNat:Nat):Int)))
 (Option.bind (l9_m8[l9_m25]?) fun x15 =>
 og (l9_m25+1<4611686018427387904) <|
 some (Ctl.next (l9_m25+1,l9_m8.set l9_m25 (-1))))
 (some (Ctl.out l9_m8))
def Ge (y4:List (List Int)) (l19_m34:Nat) (l19_m8:List Int):Option (Ctl (Nat×List Int) (List Int)) :=
 cond (decide (((l19_m34:Nat):Int)<((y4.length:Nat):Int)))
 (Option.bind (y4[l19_m34]?) fun x25 =>
 Option.bind (Ee x25) fun y26 =>
 Option.bind (Ex l19_m8 y26) fun x27 =>
 og (l19_m34+1<4611686018427387904) <|
 some (Ctl.next (l19_m34+1,l19_m8.set y26.toNat ((l19_m34:Nat):Int))))
 (some (Ctl.out l19_m8))
def F7 (y4:List (List Int)) (l32_m13:Nat) (a0:Int) (l47_m62:Nat) (l47_m14:List Int):Option (Ctl (Nat×List Int) (List Int)) :=
 cond (decide (((l47_m62:Nat):Int)<((y4.length:Nat):Int)))
 (Option.bind (y4[l47_m62]?) fun x53 =>
 Option.bind (Ee x53) fun y54 =>
 Option.bind (x53[l32_m13]?) fun x55 =>
 Option.bind (Fh a0 x55) fun y56 =>
 Option.bind (Ex l47_m14 y54) fun x57 =>
 og (l47_m62+1<4611686018427387904) <|
 some (Ctl.next (l47_m62+1,l47_m14.set y54.toNat y56)))
 (some (Ctl.out l47_m14))
def Gg (a1:Int) (l17_m8:List Int) (y4:List (List Int)) (a0:Int) (l32_m13:Nat) (l32_m12:List (List Int)):Option (Ctl (Nat×List (List Int)) (List (List Int))) :=
 cond (decide (((l32_m13:Nat):Int)<a1))
 (Option.bind (Option.bind (l17_m8[l32_m13]?) fun x39 =>
  cond (decide (0<=x39))
   (some l32_m12)
   (og (0<=a1∧a1<=a1∧a1<=1073741824∧(8:Int)*a1<=140737488355328) <|
   Option.bind ((List.replicate a1.toNat (0:Int))[l32_m13]?) fun x44 =>
   Option.bind (Av (fun s_:Nat×List Int=>F7 y4 l32_m13 a0 s_.1 s_.2) 4611686018427387904 (0,(List.replicate a1.toNat (0:Int)).set l32_m13 1)) fun l45_m14 =>
   og (l32_m12.length+1<=1073741824∧(l32_m12.length+1)*24<=140737488355328) <|
   some (l32_m12++[l45_m14]))) fun l36_m12 =>
 og (l32_m13+1<4611686018427387904) <|
 some (Ctl.next (l32_m13+1,l36_m12)))
 (some (Ctl.out l32_m12))
def Fn (a0:Int) (a1:Int) (a2:List (List Int)):Option (List (List Int)) :=
 Option.bind (Dh a0 a1 a2) fun y4 =>
og (0<=a1∧a1<=a1∧a1<=1073741824∧(8:Int)*a1<=140737488355328) <|
Option.bind (Av (fun s_:Nat×List Int=>F4 a1 s_.1 s_.2) 4611686018427387904 (0,List.replicate a1.toNat (0:Int))) fun l7_m8 =>
Option.bind (Av (fun s_:Nat×List Int=>Ge y4 s_.1 s_.2) 4611686018427387904 (0,l7_m8)) fun l17_m8 =>
Option.bind (Av (fun s_:Nat×List (List Int)=>Gg a1 l17_m8 y4 a0 s_.1 s_.2) 4611686018427387904 (0,([]:List (List Int)))) fun l30_m12 =>
Option.bind (Dh a0 a1 l30_m12) fun y62 =>
some y62
theorem Rw {a0:Int} {a1:Int} {a2:List (List Int)} {r:List (List Int)} (h:Fn a0 a1 a2=some r):Fi Tryd.prog Tab 43 [ai a0,ai a1,.tree (.slice .int) a2] [] (.own (oi 0 1) (.slice .int) 0 r.length) [(oi 0 1,.mat 23 (oi 1 1) .int r),(oi 1 1,.pool 3 .int r)]:=by
 refine B8 (by kernel_rfl) Tryd.func43 Adm (n:=89) (by kernel_rfl) (by simp) (tl:=[(0,ai a0),(1,ai a1),(2,.tree (.slice .int) a2)]) rfl (by kernel_rfl) trivial ⟨⟨3,.tail _ (.head _)⟩,⟨trivial,trivial⟩⟩ ?_;unfold Tm;unfold Fn at h;refine An ?_;refine Ab ?_;obtain ⟨y4,h4,h⟩:=Ad h;refine Aa 7 ?_;refine rsB 3 ?_;refine C3 (.own (oi 320 5) (.slice .int) 0 y4.length) [(oi 320 5,some (.mat 23 (oi 321 5) .int y4)),(oi 321 5,some (.pool 3 .int y4))] [] [ai a0,ai a1,.tree (.slice .int) a2] (caps:=[]) trivial (Kn h4) Kh trivial (.cons (.ren (by kernel_rfl)) (.cons (.ren (by kernel_rfl)) (.cons (.ren (by kernel_rfl)) .nil))) (A7 (by kernel_rfl) (by kernel_rfl) trivial) ?_;refine rsB 1 ?_;refine Aq (tn_ ?_);refine wr_ ?_;refine Ab ?_;obtain ⟨g6,h⟩:=Am h;refine Aa 10 ?_;refine rsB 1 ?_;refine rs1 (.own (oi 22 8) .int 0 a1.toNat) (oi 22 8) (.arr 3 .int (List.replicate a1.toNat (0:Int))) (R1 (t:=.int) (k:=.i64) (k':=.i64) (m:=a1) (m':=a1) (by kernel_rfl) (by kernel_rfl) g6 rfl) ?_;refine rsB 1 ?_;refine Aq (tn_ ?_);refine wr_ ?_;refine As h (fun (l7_m8:List Int) S_=>S_=⟨Ap [(0,ai a0),(1,ai a1),(7,.own (oi 0 1) (.slice .int) 0 y4.length),(8,.own (oi 2 1) .int 0 l7_m8.length)],Aj (Ar [(oi 0 1,.mat 23 (oi 1 1) .int y4),(oi 1 1,.pool 3 .int y4),(oi 2 1,.arr 3 .int l7_m8)]),2⟩) ?_ ?_
 ·intro v_ h;refine An ?_;refine Af ?_;refine Ax h (fun t_ S_=>∃ (l9_m25:Nat),∃ (l9_m8:List Int),t_=(l9_m25,l9_m8)∧S_=⟨Ap [(0,ai a0),(1,ai a1),(7,.own (oi 0 1) (.slice .int) 0 y4.length),(8,.own (oi 2 1) .int 0 l9_m8.length),(24,ai ((a1.toNat:Nat):Int)),(25,ai ((l9_m25:Nat):Int))],Aj (Ar [(oi 0 1,.mat 23 (oi 1 1) .int y4),(oi 1 1,.pool 3 .int y4),(oi 2 1,.arr 3 .int l9_m8)]),2⟩) ⟨_,(A9 8 (.own (oi 22 8) .int 0 a1.toNat) (.own (oi 22 8) .int 0 ((List.replicate a1.toNat (0:Int)).length)) (by kernel_rfl) (congrArg (fun z_=>((.own (oi 22 8) .int 0 z_):AV)) (List.length_replicate.symm:a1.toNat=(List.replicate a1.toNat (0:Int)).length))).trans (Ac [(oi 0 1,oi 320 5),(oi 1 1,oi 321 5),(oi 2 1,oi 22 8)]),⟨0,List.replicate a1.toNat (0:Int),rfl,rfl⟩⟩ ?_;rintro n_ _ _ c_ ⟨l9_m25,l9_m8,rfl,rfl⟩ h hn9
  (try dsimp only at h);unfold F4 at h;unfold O0;refine An ?_;refine Ab ?_;rcases Ae h with ⟨q12,h⟩ | ⟨q12,h⟩
  ·have q12_:=of_decide_eq_true q12;refine Ah q12 ?_;refine Ai (tn_ ?_);refine wr_ ?_;refine Ab ?_;refine Af ?_;refine An ?_;obtain ⟨x15,e15,h⟩:=Ad h;refine Aa 9 ?_;refine rsB 2 ?_;refine rs0 (.elt (oi 2 1) l9_m25 0) (zo (t:=.int) (o:=oi 2 1) (len:=l9_m8.length) (k:=.i64) (m:=((l9_m25:Nat):Int)) (At _) (Al e15)) ?_;refine Nj (oi 2 1) (oi 2 1) (.arr 3 .int (l9_m8.set l9_m25 (-1))) (Ep (i:=oi 2 1) (j:=l9_m25) (k:=0) (e:=3) (t:=.int) (xs:=l9_m8) (cs:=[ai (-1)]) (x1:=-1) (by kernel_rfl) (by kernel_rfl) e15 (by kernel_rfl) (by kernel_rfl)) ?_;refine Aq (bn_ (tn_ ?_));refine wr_ ?_;obtain ⟨g16,h⟩:=Am h;refine Aa 11 ?_;refine rs0 (ai ((l9_m25+1:Nat):Int)) (za g16) ?_;refine rsB 1 ?_;refine Aq (tn_ ?_);obtain rfl:=zj h;exact ⟨(l9_m25+1,l9_m8.set l9_m25 (-1)),_,(A9 8 (.own (oi 2 1) .int 0 l9_m8.length) (.own (oi 2 1) .int 0 ((l9_m8.set l9_m25 (-1)).length)) (by kernel_rfl) (congrArg (fun z_=>((.own (oi 2 1) .int 0 z_):AV)) (((rfl:l9_m8.length=l9_m8.length).trans List.length_set.symm):l9_m8.length=(l9_m8.set l9_m25 (-1)).length))).trans (Ac []),⟨l9_m25+1,l9_m8.set l9_m25 (-1),rfl,rfl⟩,hn9⟩
  have q12_:=of_decide_eq_false q12;refine Ag q12 ?_;refine Au (te_ (te_ (be_ (tn_ ?_))));obtain rfl:=zj h;have h:=hn9
  (try dsimp only at h);obtain rfl:=zj h;exact ⟨_,Ac [],rfl⟩
 rintro l7_m8 _ rfl h
 (try dsimp only at h);refine As h (fun (l17_m8:List Int) S_=>S_=⟨Ap [(0,ai a0),(1,ai a1),(7,.own (oi 0 1) (.slice .int) 0 y4.length),(8,.own (oi 2 1) .int 0 l17_m8.length)],Aj (Ar [(oi 0 1,.mat 23 (oi 1 1) .int y4),(oi 1 1,.pool 3 .int y4),(oi 2 1,.arr 3 .int l17_m8)]),2⟩) ?_ ?_
 ·intro v_ h;refine An ?_;refine Af ?_;refine Ax h (fun t_ S_=>∃ (l19_m34:Nat),∃ (l19_m8:List Int),t_=(l19_m34,l19_m8)∧S_=⟨Ap [(0,ai a0),(1,ai a1),(7,.own (oi 0 1) (.slice .int) 0 y4.length),(8,.own (oi 2 1) .int 0 l19_m8.length),(32,.own (oi 0 1) (.slice .int) 0 y4.length),(33,ai ((y4.length:Nat):Int)),(34,ai ((l19_m34:Nat):Int))],Aj (Ar [(oi 0 1,.mat 23 (oi 1 1) .int y4),(oi 1 1,.pool 3 .int y4),(oi 2 1,.arr 3 .int l19_m8)]),2⟩) ⟨_,Ac [],⟨0,l7_m8,rfl,rfl⟩⟩ ?_;rintro n_ _ _ c_ ⟨l19_m34,l19_m8,rfl,rfl⟩ h hn19
  (try dsimp only at h);unfold Ge at h;unfold Ov;refine An ?_;refine Ab ?_;rcases Ae h with ⟨q22,h⟩ | ⟨q22,h⟩
  ·have q22_:=of_decide_eq_true q22;refine Ah q22 ?_;refine Ai (tn_ ?_);refine wr_ ?_;refine Ab ?_;refine Af ?_;refine Ab ?_;obtain ⟨x25,e25,h⟩:=Ad h;refine Aa 8 ?_;refine rsB 1 ?_;refine rs0 (.elt (oi 0 1) l19_m34 0) (zo (t:=.slice .int) (o:=oi 0 1) (len:=y4.length) (k:=.i64) (m:=((l19_m34:Nat):Int)) (At _) (Al e25)) ?_;refine rsl (.own (kid (oi 1 1) l19_m34) .int 0 x25.length) (Bs (o:=oi 0 1) (p:=oi 1 1) (e1:=23) (u:=.int) (xss:=y4) (row:=x25) (j:=l19_m34) (by kernel_rfl) (by kernel_rfl) e25) ?_;refine rsB 2 ?_;refine Aq (tn_ ?_);refine wr_ ?_;obtain ⟨y26,h26,h⟩:=Ad h;obtain ⟨x27,f27,h⟩:=Ad h;obtain ⟨p27,b27,e27⟩:=Bi f27;refine Aa 14 ?_;refine rsB 2 ?_;refine B9 (ai y26) [] [.own (kid (oi 1 1) l19_m34) .int 0 x25.length] _ (caps:=[]) (args0:=[.tree .int x25]) trivial (Ay (Bn (e:=3) (u:=.int) (xs:=x25) (A0 (by kernel_rfl) e25) rfl) Cj) (J2 h26) J0 ?_;refine rsB 1 ?_;refine rs0 (.elt (oi 2 1) y26.toNat 0) (zo (t:=.int) (o:=oi 2 1) (len:=l19_m8.length) (k:=.i64) (m:=y26) p27 (Al e27)) ?_;refine Nj (oi 2 1) (oi 2 1) (.arr 3 .int (l19_m8.set y26.toNat ((l19_m34:Nat):Int))) (Ep (i:=oi 2 1) (j:=y26.toNat) (k:=0) (e:=3) (t:=.int) (xs:=l19_m8) (cs:=[ai ((l19_m34:Nat):Int)]) (x1:=((l19_m34:Nat):Int)) (by kernel_rfl) (by kernel_rfl) e27 (by kernel_rfl) (by kernel_rfl)) ?_;refine Aq (bn_ (tn_ ?_));refine wr_ ?_;obtain ⟨g28,h⟩:=Am h;refine Aa 16 ?_;refine rs0 (ai ((l19_m34+1:Nat):Int)) (za g28) ?_;refine rsB 1 ?_;refine Aq (tn_ ?_);obtain rfl:=zj h;exact ⟨(l19_m34+1,l19_m8.set y26.toNat ((l19_m34:Nat):Int)),_,(A9 8 (.own (oi 2 1) .int 0 l19_m8.length) (.own (oi 2 1) .int 0 ((l19_m8.set y26.toNat ((l19_m34:Nat):Int)).length)) (by kernel_rfl) (congrArg (fun z_=>((.own (oi 2 1) .int 0 z_):AV)) (((rfl:l19_m8.length=l19_m8.length).trans List.length_set.symm):l19_m8.length=(l19_m8.set y26.toNat ((l19_m34:Nat):Int)).length))).trans (Ac []),⟨l19_m34+1,l19_m8.set y26.toNat ((l19_m34:Nat):Int),rfl,rfl⟩,hn19⟩
  have q22_:=of_decide_eq_false q22;refine Ag q22 ?_;refine Au (te_ (te_ (be_ (tn_ ?_))));obtain rfl:=zj h;have h:=hn19
  (try dsimp only at h);obtain rfl:=zj h;exact ⟨_,Ac [],rfl⟩
 rintro l17_m8 _ rfl h
 (try dsimp only at h);refine An ?_;refine As h (fun (l30_m12:List (List Int)) S_=>S_=⟨Ap [(0,ai a0),(1,ai a1),(12,.own (oi 0 1) (.slice .int) 0 l30_m12.length)],Aj (Ar [(oi 0 1,.mat 23 (oi 1 1) .int l30_m12),(oi 1 1,.pool 3 .int l30_m12)]),2⟩) ?_ ?_
 ·intro v_ h;refine An ?_;refine Af ?_;refine Ax h (fun t_ S_=>∃ (l32_m13:Nat),∃ (l32_m12:List (List Int)),t_=(l32_m13,l32_m12)∧S_=⟨Ap [(0,ai a0),(1,ai a1),(7,.own (oi 0 1) (.slice .int) 0 y4.length),(8,.own (oi 2 1) .int 0 l17_m8.length),(12,.own (oi 3 1) (.slice .int) 0 l32_m12.length),(13,ai ((l32_m13:Nat):Int))],Aj (Ar [(oi 0 1,.mat 23 (oi 1 1) .int y4),(oi 1 1,.pool 3 .int y4),(oi 2 1,.arr 3 .int l17_m8),(oi 3 1,.mat 23 (oi 4 1) .int l32_m12),(oi 4 1,.pool 3 .int l32_m12)]),2⟩) ⟨_,(Pr 12 23 (.slice .int) (by kernel_rfl)).trans ((Gt (e1:=23) (n:=0) 9000 (oi 12 4) 3 .int (by kernel_rfl) (by kernel_rfl) rfl (by kernel_rfl) (by kernel_rfl)).trans (Ac [(oi 3 1,oi 12 4),(oi 4 1,oi 9000 5)])),⟨0,([]:List (List Int)),rfl,rfl⟩⟩ ?_;rintro n_ _ _ c_ ⟨l32_m13,l32_m12,rfl,rfl⟩ h hn32
  (try dsimp only at h);unfold Gg at h;unfold Oe;refine Ab ?_;refine An ?_;rcases Ae h with ⟨q35,h⟩ | ⟨q35,h⟩
  ·have q35_:=of_decide_eq_true q35;refine Ah q35 ?_;refine Ai (tn_ ?_);refine wr_ ?_;refine As h (fun (l36_m12:List (List Int)) S_=>S_=⟨Ap [(0,ai a0),(1,ai a1),(7,.own (oi 0 1) (.slice .int) 0 y4.length),(8,.own (oi 2 1) .int 0 l17_m8.length),(12,.own (oi 3 1) (.slice .int) 0 l36_m12.length),(13,ai ((l32_m13:Nat):Int))],Aj (Ar [(oi 0 1,.mat 23 (oi 1 1) .int y4),(oi 1 1,.pool 3 .int y4),(oi 2 1,.arr 3 .int l17_m8),(oi 3 1,.mat 23 (oi 4 1) .int l36_m12),(oi 4 1,.pool 3 .int l36_m12)]),2⟩) ?_ ?_
   ·intro v_ h;refine Af ?_;refine Ab ?_;refine Ab ?_;obtain ⟨x39,e39,h⟩:=Ad h;refine Aa 10 ?_;refine rsB 2 ?_;refine rs0 (.elt (oi 2 1) l32_m13 0) (zo (t:=.int) (o:=oi 2 1) (len:=l17_m8.length) (k:=.i64) (m:=((l32_m13:Nat):Int)) (At _) (Al e39)) ?_;refine rsl (ai x39) (Ed (i:=oi 2 1) (j:=l32_m13) (k:=0) (e:=3) (t:=.int) (xs:=l17_m8) (by kernel_rfl) (by kernel_rfl) e39 (by kernel_rfl)) ?_;refine rsB 1 ?_;refine Aq (tn_ ?_);refine wr_ ?_;rcases Ae h with ⟨q40,h⟩ | ⟨q40,h⟩
    ·have q40_:=of_decide_eq_true q40;refine Ah q40 ?_;refine Au (te_ (be_ (tn_ ?_)));obtain rfl:=zj h;exact ⟨_,Ac [],rfl⟩
    have q40_:=of_decide_eq_false q40;refine Ag q40 ?_;refine Ai (tn_ ?_);refine wr_ ?_;refine Ab ?_;obtain ⟨g42,h⟩:=Am h;refine Aa 13 ?_;refine rsB 1 ?_;refine rs1 (.own (oi 56 11) .int 0 a1.toNat) (oi 56 11) (.arr 3 .int (List.replicate a1.toNat (0:Int))) (R1 (t:=.int) (k:=.i64) (k':=.i64) (m:=a1) (m':=a1) (by kernel_rfl) (by kernel_rfl) g42 rfl) ?_;refine rsB 1 ?_;refine Aq (tn_ ?_);refine wr_ ?_;refine Ab ?_;obtain ⟨x44,e44,h⟩:=Ad h;refine Aa 17 ?_;refine rsB 2 ?_;refine rs0 (.elt (oi 56 11) l32_m13 0) (zo (t:=.int) (o:=oi 56 11) (len:=a1.toNat) (k:=.i64) (m:=((l32_m13:Nat):Int)) (At _) (Nat.lt_of_lt_of_le (Al e44) (Nat.le_of_eq (Eq.symm List.length_replicate.symm)))) ?_;refine Nj (oi 56 11) (oi 56 11) (.arr 3 .int ((List.replicate a1.toNat (0:Int)).set l32_m13 1)) (Ep (i:=oi 56 11) (j:=l32_m13) (k:=0) (e:=3) (t:=.int) (xs:=List.replicate a1.toNat (0:Int)) (cs:=[ai 1]) (x1:=1) (by kernel_rfl) (by kernel_rfl) e44 (by kernel_rfl) (by kernel_rfl)) ?_;refine Aq (tn_ ?_);refine wr_ ?_;refine As h (fun (l45_m14:List Int) S_=>S_=⟨Ap [(0,ai a0),(1,ai a1),(7,.own (oi 0 1) (.slice .int) 0 y4.length),(8,.own (oi 2 1) .int 0 l17_m8.length),(12,.own (oi 3 1) (.slice .int) 0 l32_m12.length),(13,ai ((l32_m13:Nat):Int)),(14,.own (oi 5 1) .int 0 l45_m14.length)],Aj (Ar [(oi 0 1,.mat 23 (oi 1 1) .int y4),(oi 1 1,.pool 3 .int y4),(oi 2 1,.arr 3 .int l17_m8),(oi 3 1,.mat 23 (oi 4 1) .int l32_m12),(oi 4 1,.pool 3 .int l32_m12),(oi 5 1,.arr 3 .int l45_m14)]),2⟩) ?_ ?_
    ·intro v_ h;refine An ?_;refine Af ?_;refine Ax h (fun t_ S_=>∃ (l47_m62:Nat),∃ (l47_m14:List Int),t_=(l47_m62,l47_m14)∧S_=⟨Ap [(0,ai a0),(1,ai a1),(7,.own (oi 0 1) (.slice .int) 0 y4.length),(8,.own (oi 2 1) .int 0 l17_m8.length),(12,.own (oi 3 1) (.slice .int) 0 l32_m12.length),(13,ai ((l32_m13:Nat):Int)),(14,.own (oi 5 1) .int 0 l47_m14.length),(60,.own (oi 0 1) (.slice .int) 0 y4.length),(61,ai ((y4.length:Nat):Int)),(62,ai ((l47_m62:Nat):Int))],Aj (Ar [(oi 0 1,.mat 23 (oi 1 1) .int y4),(oi 1 1,.pool 3 .int y4),(oi 2 1,.arr 3 .int l17_m8),(oi 3 1,.mat 23 (oi 4 1) .int l32_m12),(oi 4 1,.pool 3 .int l32_m12),(oi 5 1,.arr 3 .int l47_m14)]),2⟩) ⟨_,(A9 14 (.own (oi 56 11) .int 0 a1.toNat) (.own (oi 56 11) .int 0 (((List.replicate a1.toNat (0:Int)).set l32_m13 1).length)) (by kernel_rfl) (congrArg (fun z_=>((.own (oi 56 11) .int 0 z_):AV)) ((List.length_replicate.symm.trans List.length_set.symm):a1.toNat=((List.replicate a1.toNat (0:Int)).set l32_m13 1).length))).trans (Ac [(oi 5 1,oi 56 11)]),⟨0,(List.replicate a1.toNat (0:Int)).set l32_m13 1,rfl,rfl⟩⟩ ?_;rintro n_ _ _ c_ ⟨l47_m62,l47_m14,rfl,rfl⟩ h hn47
     (try dsimp only at h);unfold F7 at h;unfold O7;refine An ?_;refine Ab ?_;rcases Ae h with ⟨q50,h⟩ | ⟨q50,h⟩
     ·have q50_:=of_decide_eq_true q50;refine Ah q50 ?_;refine Ai (tn_ ?_);refine wr_ ?_;refine Ab ?_;refine Af ?_;refine Ab ?_;obtain ⟨x53,e53,h⟩:=Ad h;refine Aa 8 ?_;refine rsB 1 ?_;refine rs0 (.elt (oi 0 1) l47_m62 0) (zo (t:=.slice .int) (o:=oi 0 1) (len:=y4.length) (k:=.i64) (m:=((l47_m62:Nat):Int)) (At _) (Al e53)) ?_;refine rsl (.own (kid (oi 1 1) l47_m62) .int 0 x53.length) (Bs (o:=oi 0 1) (p:=oi 1 1) (e1:=23) (u:=.int) (xss:=y4) (row:=x53) (j:=l47_m62) (by kernel_rfl) (by kernel_rfl) e53) ?_;refine rsB 2 ?_;refine Aq (tn_ ?_);refine wr_ ?_;obtain ⟨y54,h54,h⟩:=Ad h;obtain ⟨x55,e55,h⟩:=Ad h;obtain ⟨y56,h56,h⟩:=Ad h;obtain ⟨x57,f57,h⟩:=Ad h;obtain ⟨p57,b57,e57⟩:=Bi f57;refine Az 22 ?_;refine dz0 (.own (oi 5 1) .int 0 l47_m14.length) ?_;refine dz0 (.own (oi 0 1) (.slice .int) 0 y4.length) ?_;refine dz0 (ai ((l47_m62:Nat):Int)) ?_;refine ds0 (.elt (oi 0 1) l47_m62 0) (zo (t:=.slice .int) (o:=oi 0 1) (len:=y4.length) (k:=.i64) (m:=((l47_m62:Nat):Int)) (At _) (Al e53)) ?_;refine dsl (.own (kid (oi 1 1) l47_m62) .int 0 x53.length) (Bs (o:=oi 0 1) (p:=oi 1 1) (e1:=23) (u:=.int) (xss:=y4) (row:=x53) (j:=l47_m62) (by kernel_rfl) (by kernel_rfl) e53) ?_;refine D4 (ai y54) [] [.own (kid (oi 1 1) l47_m62) .int 0 x53.length] _ (caps:=[]) (args0:=[.tree .int x53]) trivial (Ay (Bn (e:=3) (u:=.int) (xs:=x53) ((Hk (H5 (t:=.int) (off:=0) (len:=x53.length) 0 rfl (by kernel_rfl))).trans (A0 (by kernel_rfl) e53)) rfl) Cj) (J2 h54) J0 ?_;refine dz0 (ai a0) ?_;refine dz0 (.own (kid (oi 1 1) l47_m62) .int 0 x53.length) ?_;refine dz0 (ai ((l32_m13:Nat):Int)) ?_;refine ds0 (.elt (kid (oi 1 1) l47_m62) l32_m13 0) (zo (t:=.int) (o:=kid (oi 1 1) l47_m62) (len:=x53.length) (k:=.i64) (m:=((l32_m13:Nat):Int)) (At _) (Al e55)) ?_;refine dsl (ai x55) (Ed (i:=kid (oi 1 1) l47_m62) (j:=l32_m13) (k:=0) (e:=3) (t:=.int) (xs:=x53) (by kernel_rfl) (Hs.trans (A0 (by kernel_rfl) e53)) e55 (by kernel_rfl)) ?_;refine D4 (ai y56) [] [ai a0,ai x55] _ (caps:=[]) (args0:=[ai a0,ai x55]) trivial (by kernel_rfl) (Nz h56) Tn ?_;refine ds0 (.elt (oi 5 1) y54.toNat 0) (zo (t:=.int) (o:=oi 5 1) (len:=l47_m14.length) (k:=.i64) (m:=y54) p57 (Al e57)) ?_;refine Mx (oi 5 1) (oi 5 1) (.arr 3 .int (l47_m14.set y54.toNat y56)) (Ep (i:=oi 5 1) (j:=y54.toNat) (k:=0) (e:=3) (t:=.int) (xs:=l47_m14) (cs:=[ai y56]) (x1:=y56) (by kernel_rfl) (by kernel_rfl) e57 (by kernel_rfl) (by kernel_rfl)) ?_;refine Ft (Bd (by kernel_rfl)) (bn_ (tn_ ?_));refine wr_ ?_;obtain ⟨g58,h⟩:=Am h;refine Aa 24 ?_;refine rs0 (ai ((l47_m62+1:Nat):Int)) (za g58) ?_;refine rsB 1 ?_;refine Aq (tn_ ?_);obtain rfl:=zj h;exact ⟨(l47_m62+1,l47_m14.set y54.toNat y56),_,(A9 14 (.own (oi 5 1) .int 0 l47_m14.length) (.own (oi 5 1) .int 0 ((l47_m14.set y54.toNat y56).length)) (by kernel_rfl) (congrArg (fun z_=>((.own (oi 5 1) .int 0 z_):AV)) (((rfl:l47_m14.length=l47_m14.length).trans List.length_set.symm):l47_m14.length=(l47_m14.set y54.toNat y56).length))).trans (Ac []),⟨l47_m62+1,l47_m14.set y54.toNat y56,rfl,rfl⟩,hn47⟩
     have q50_:=of_decide_eq_false q50;refine Ag q50 ?_;refine Au (te_ (te_ (be_ (tn_ ?_))));obtain rfl:=zj h;have h:=hn47
     (try dsimp only at h);obtain rfl:=zj h;exact ⟨_,Ac [],rfl⟩
    rintro l45_m14 _ rfl h
    (try dsimp only at h);obtain ⟨g59,h⟩:=Am h;refine Aa 7 ?_;refine rsB 2 ?_;refine Afp (.own (oi 83 4) (.slice .int) 0 1) (oi 83 4) (.vec 23 1 1 ([.own (oi 5 1) .int 0 l45_m14.length])) trivial (L7 (by kernel_rfl)) ?_;refine rs2 (.own (oi 3 5) (.slice .int) 0 (l32_m12.length+1)) (oi 3 1) (oi 3 5) (.vec 23 1 (l32_m12.length+1) (hdL (oi 4 1) .int l32_m12++[.own (oi 5 1) .int 0 l45_m14.length])) (Jf (u:=.int) (t':=.slice .int) (t2:=.slice .int) (o:=oi 3 1) (q:=oi 83 4) (e2:=23) (p:=oi 4 1) (xss:=l32_m12) (cs:=[.own (oi 5 1) .int 0 l45_m14.length]) (len:=l32_m12.length) (by kernel_rfl) (by kernel_rfl) rfl (by kernel_rfl) (by kernel_rfl) rfl g59) ?_;refine rsB 1 ?_;refine Aq (bn_ (tn_ ?_));obtain rfl:=zj h;exact ⟨_,(Fb (e1:=23) (e:=3) (u:=.int) (n:=l32_m12.length+1) (len:=l45_m14.length) (row:=l45_m14) (ys:=l45_m14) (xss:=l32_m12) 9000 (oi 3 5) (oi 4 1) (oi 5 1) (by kernel_rfl) (by kernel_rfl) rfl (by kernel_rfl) (by kernel_rfl) (Pf rfl) (Oo rfl) (by kernel_rfl) (by kernel_rfl) (by kernel_rfl)).trans ((A9 12 (.own (oi 3 5) (.slice .int) 0 (l32_m12.length+1)) (.own (oi 3 5) (.slice .int) 0 ((l32_m12++[l45_m14]).length)) (by kernel_rfl) (congrArg (fun z_=>((.own (oi 3 5) (.slice .int) 0 z_):AV)) ((by simp):l32_m12.length+1=(l32_m12++[l45_m14]).length))).trans (Ac [(oi 3 1,oi 3 5),(oi 4 1,oi 9000 7)])),rfl⟩
   rintro l36_m12 _ rfl h
   (try dsimp only at h);obtain ⟨g60,h⟩:=Am h;refine Aa 5 ?_;refine rsB 1 ?_;refine rs0 (ai ((l32_m13+1:Nat):Int)) (za g60) ?_;refine rsB 1 ?_;refine Aq (tn_ ?_);obtain rfl:=zj h;exact ⟨(l32_m13+1,l36_m12),_,Ac [],⟨l32_m13+1,l36_m12,rfl,rfl⟩,hn32⟩
  have q35_:=of_decide_eq_false q35;refine Ag q35 ?_;refine Au (te_ (te_ (be_ (tn_ ?_))));obtain rfl:=zj h;have h:=hn32
  (try dsimp only at h);obtain rfl:=zj h;exact ⟨_,Ac [(oi 0 1,oi 3 1),(oi 1 1,oi 4 1)],rfl⟩
 rintro l30_m12 _ rfl h
 (try dsimp only at h);refine Ab ?_;obtain ⟨y62,h62,h⟩:=Ad h;refine Aa 7 ?_;refine rsB 3 ?_;refine C3 (.own (oi 1408 5) (.slice .int) 0 y62.length) [(oi 1408 5,some (.mat 23 (oi 1409 5) .int y62)),(oi 1409 5,some (.pool 3 .int y62))] [] [ai a0,ai a1,.own (oi 0 1) (.slice .int) 0 l30_m12.length] (caps:=[]) trivial (Kn h62) Kh trivial (.cons (.ren (by kernel_rfl)) (.cons (.ren (by kernel_rfl)) (.cons (.gnd (by kernel_rfl) (M6 (p:=oi 1 1) (e1:=23) (e:=3) (u:=.int) (xss:=l30_m12) ((Np (by kernel_rfl) (by kernel_rfl) (by kernel_rfl)).trans (by kernel_rfl)) (Lt (by kernel_rfl) (by kernel_rfl) (Hb (by kernel_rfl)) (by kernel_rfl)) rfl)) .nil))) (A7 (by kernel_rfl) (by kernel_rfl) trivial) ?_;refine rsB 1 ?_;refine Aq (tn_ ?_);refine wr_ ?_;refine Ao ?_;obtain rfl:=zj h;exact Gk [.own (oi 0 1) (.slice .int) 0 y62.length] (Ac (tl:=[(6,.own (oi 0 1) (.slice .int) 0 y62.length)]) (g:=2) [(oi 0 1,oi 1408 5),(oi 1 1,oi 1409 5)])
def Yd:AC :=
 (.seq (rg [xo 4 (qm (.cst .nils))])
 (.seq (rg [xo 6 (qm (tm 0)),xo 7 (qc 69 [tm 6] [[]]),xo 5 (qm (tm 7))])
 (.seq (rg [xo 8 (qm (tm 5)),xo 9 (qm (tm 1)),xo 10 (qx 1 (tm 8) (tm 9)),xn (qs (tm 10) (ci 1))])
 (.seq (rg [xo 11 (qm (tm 5)),xo 4 (qm (tm 11))])
 .ret))))
def Ahp:List Res:=[.tmp 4]
theorem Ahl:Aw Tryd.prog Tryd.f82=some (Yd,Ahp):=by kernel_rfl
def Kv (a0:Int) (a1:Int):Option (List Int) :=
 Option.bind (Fg a0) fun y3 =>
Option.bind (Ex y3 a1) fun x5 =>
some (y3.set a1.toNat 1)
def Af2 (r:List Int):RV:=⟨false,[(false,[.new 3 .int r])]⟩
theorem Afc {a0:Int} {a1:Int} {r:List Int} (h:Kv a0 a1=some r):Bm Tryd.prog Tab 82 [ai a0,ai a1] (Af2 r):=by
 refine Ba (by kernel_rfl) Tryd.func82 Ahl (n:=12) (by kernel_rfl) (by simp) (tl:=[(0,ai a0),(1,ai a1)]) rfl ?_;unfold Yd;unfold Kv at h;refine An ?_;refine Ab ?_;obtain ⟨y3,h3,h⟩:=Ad h;refine Aa 5 ?_;refine rsB 1 ?_;refine zc (.own (oi 112 3) .int 0 y3.length) [(oi 112 3,some (.arr 3 .int y3))] [ai a0] (Ku h3) ?_;refine rsB 1 ?_;refine Aq (tn_ ?_);refine wr_ ?_;refine Ab ?_;obtain ⟨x5,f5,h⟩:=Ad h;obtain ⟨p5,b5,e5⟩:=Bi f5;refine Aa 9 ?_;refine rsB 2 ?_;refine rs0 (.elt (oi 112 3) a1.toNat 0) (zo (t:=.int) (o:=oi 112 3) (len:=y3.length) (k:=.i64) (m:=a1) p5 (Al e5)) ?_;refine Nj (oi 112 3) (oi 112 3) (.arr 3 .int (y3.set a1.toNat 1)) (Ep (i:=oi 112 3) (j:=a1.toNat) (k:=0) (e:=3) (t:=.int) (xs:=y3) (cs:=[ai 1]) (x1:=1) (by kernel_rfl) (by kernel_rfl) e5 (by kernel_rfl) (by kernel_rfl)) ?_;refine Aq (tn_ ?_);refine wr_ ?_;refine An ?_;refine Ao ?_;obtain rfl:=zj h;exact Br [.own (oi 112 3) .int 0 y3.length] (A8 rfl (Kb (by kernel_rfl) ((rfl:y3.length=y3.length).trans List.length_set.symm)) Bc)
end
section
open Go.RowKit Go.Deep
set_option maxRecDepth 4000
def Mr:AC :=
 (.seq (rg [xo 48 (qb .lss (tm 47) (tm 46))])
 (.seq (.cond (tm 48)
  .skip
  (.exit 4))
 (.seq (.block 5 (.seq (rg [xo 49 (qx 1 (tm 45) (tm 47)),xo 50 (ql (tm 49)),xo 12 (qm (tm 50))])
 (.seq (rg [xo 51 (qm (tm 12)),xo 52 (qm (tm 6)),xo 53 (qb .eql (tm 51) (tm 52))])
 (.cond (tm 53)
  (rg [xo 54 (qm (tm 8)),xo 55 (.mkS 3 .int [ci 1]),xo 56 (.append 3 .int 8 (tm 54) (tm 55)),xo 8 (qm (tm 56))])
  (rg [xo 57 (qm (tm 8)),xo 58 (.mkS 3 .int [ci 0]),xo 59 (.append 3 .int 8 (tm 57) (tm 58)),xo 8 (qm (tm 59))])))))
 (rg [xo 60 (qb .add (tm 47) (ci 1)),xo 47 (qm (tm 60))]))))
def Md:AC :=
 (.seq (rg [xo 29 (qb .lss (tm 28) (tm 27))])
 (.seq (.cond (tm 29)
  .skip
  (.exit 2))
 (.seq (.block 3 (.seq (rg [xo 30 (qx 1 (tm 26) (tm 28)),xo 31 (ql (tm 30)),xo 10 (qm (tm 31))])
 (.seq (rg [xo 32 (qm (tm 10)),xo 33 (qm (tm 6)),xo 34 (qb .eql (tm 32) (tm 33))])
 (.cond (tm 34)
  (rg [xo 35 (qm (tm 8)),xo 36 (qm (tm 0)),xo 37 (qb .sub (tm 36) (ci 1)),xo 38 (.mkS 3 .int [tm 37]),xo 39 (.append 3 .int 8 (tm 35) (tm 38)),xo 8 (qm (tm 39))])
  (rg [xo 40 (qm (tm 8)),xo 41 (.mkS 3 .int [ci 0]),xo 42 (.append 3 .int 8 (tm 40) (tm 41)),xo 8 (qm (tm 42))])))))
 (rg [xo 43 (qb .add (tm 28) (ci 1)),xo 28 (qm (tm 43))]))))
def Mn:AC :=
 (.seq (rg [xo 19 (qb .lss (tm 18) (tm 17))])
 (.seq (.cond (tm 19)
  .skip
  (.exit 0))
 (.seq (.block 1 (.seq (rg [xo 20 (qm (tm 18)),xo 21 (qx 1 (tm 16) (tm 18)),xo 22 (ql (tm 21)),xo 6 (qm (tm 20)),xo 7 (qm (tm 22))])
 (.seq (rg [xo 23 (qm (tm 7)),xo 24 (qc 41 [tm 23] [[some .int]]),xo 8 (qm (tm 24))])
 (.seq (.seq (rg [xo 25 (qf 2 (tm 3)),xo 26 (ql (tm 25)),xo 27 (.i (.len (tm 26))),xo 28 (qm (ci 0))])
 (.block 2 (.loop Md)))
 (.seq (.seq (rg [xo 44 (qf 3 (tm 3)),xo 45 (ql (tm 44)),xo 46 (.i (.len (tm 45))),xo 47 (qm (ci 0))])
 (.block 4 (.loop Mr)))
 (rg [xo 61 (qm (tm 5)),xo 62 (qm (tm 8)),xo 63 (.mkV 23 (.slice .int) 1 [tm 62]),xo 64 (.appV 23 (.slice .int) 24 (tm 61) (tm 63)),xo 5 (qm (tm 64))]))))))
 (rg [xo 65 (qb .add (tm 18) (ci 1)),xo 18 (qm (tm 65))]))))
def Qm:AC :=
 (.seq (rg [xo 3 (.i (.box 34 (tm 1))),xo 4 (qm (.cst .nils))])
 (.seq (rg [xo 5 (qm (.cst .nils))])
 (.seq (.seq (rg [xo 13 (qm (tm 0)),xo 14 (.i (.ld false 4 (tm 3))),⟨some 15,none,qc 73 [tm 13,tm 14] [[],[none,some (.pair .int (.pair .int .int)),some .int,some .int]]⟩,xo 16 (.i (.ofld true 1 1 (tm 15))),xo 17 (.i (.len (tm 16))),xo 18 (qm (ci 0))])
 (.block 0 (.loop Mn)))
 (.seq (rg [xo 66 (qm (tm 0)),xo 67 (qf 0 (tm 3)),xo 68 (ql (tm 67)),xo 69 (qf 2 (tm 3)),xo 70 (ql (tm 69)),xo 71 (.i (.len (tm 70))),xo 72 (qb .add (tm 68) (tm 71)),xo 73 (qf 3 (tm 3)),xo 74 (ql (tm 73)),xo 75 (.i (.len (tm 74))),xo 76 (qb .add (tm 72) (tm 75)),xo 77 (qm (tm 5)),xo 78 (qc 43 [tm 66,tm 76,tm 77] [[],[],[some (.slice .int)]]),xo 4 (qm (tm 78))])
 .ret))))
def Zh:List Res:=[.tmp 4]
theorem Y0:Aw Tryd.prog Tryd.f38=some (Qm,Zh):=by kernel_rfl
theorem Wl:A6 Tryd.prog 38=true:=by kernel_rfl
def El (a1_2:List Int) (l7_m18:Nat) (a0:Int) (l18_m28:Nat) (l18_m8:List Int):Option (Ctl (Nat×List Int) (List Int)) :=
 cond (decide (((l18_m28:Nat):Int)<((a1_2.length:Nat):Int)))
 (Option.bind (Option.bind (a1_2[l18_m28]?) fun x24 =>
  cond (x24==((l7_m18:Nat):Int))
   (og (l18_m8.length+1<=1073741824∧(l18_m8.length+1)*8<=140737488355328) <|
   some (l18_m8++([wI (a0 - 1)])))
   (og (l18_m8.length+1<=1073741824∧(l18_m8.length+1)*8<=140737488355328) <|
   some (l18_m8++([0])))) fun l22_m8 =>
 og (l18_m28+1<4611686018427387904) <|
 some (Ctl.next (l18_m28+1,l22_m8)))
 (some (Ctl.out l18_m8))
def Ev (a1_3:List Int) (l7_m18:Nat) (l32_m47:Nat) (l32_m8:List Int):Option (Ctl (Nat×List Int) (List Int)) :=
 cond (decide (((l32_m47:Nat):Int)<((a1_3.length:Nat):Int)))
 (Option.bind (Option.bind (a1_3[l32_m47]?) fun x38 =>
  cond (x38==((l7_m18:Nat):Int))
   (og (l32_m8.length+1<=1073741824∧(l32_m8.length+1)*8<=140737488355328) <|
   some (l32_m8++([1])))
   (og (l32_m8.length+1<=1073741824∧(l32_m8.length+1)*8<=140737488355328) <|
   some (l32_m8++([0])))) fun l36_m8 =>
 og (l32_m47+1<4611686018427387904) <|
 some (Ctl.next (l32_m47+1,l36_m8)))
 (some (Ctl.out l32_m8))
def Em (y6:List (List Int)) (a1_2:List Int) (a0:Int) (a1_3:List Int) (l7_m18:Nat) (l7_m5:List (List Int)):Option (Ctl (Nat×List (List Int)) (List (List Int))) :=
 cond (decide (((l7_m18:Nat):Int)<((y6.length:Nat):Int)))
 (Option.bind (Option.bind (y6[l7_m18]?) fun x13 =>
  Option.bind (Cw x13) fun y15 =>
  Option.bind (Av (fun s_:Nat×List Int=>El a1_2 l7_m18 a0 s_.1 s_.2) 4611686018427387904 (0,y15)) fun l16_m8 =>
  Option.bind (Av (fun s_:Nat×List Int=>Ev a1_3 l7_m18 s_.1 s_.2) 4611686018427387904 (0,l16_m8)) fun l30_m8 =>
  og (l7_m5.length+1<=1073741824∧(l7_m5.length+1)*24<=140737488355328) <|
  some (l7_m5++[l30_m8])) fun l11_m5 =>
 og (l7_m18+1<4611686018427387904) <|
 some (Ctl.next (l7_m18+1,l11_m5)))
 (some (Ctl.out l7_m5))
def E7 (a0:Int) (a1_0:Int) (a1_1:List (Int×Int×Int)) (a1_2:List Int) (a1_3:List Int):Option (List (List Int)) :=
 Option.bind (Option.bind (E0 a0 a1_0 a1_1 a1_2 a1_3) fun y6 =>
 Av (fun s_:Nat×List (List Int)=>Em y6 a1_2 a0 a1_3 s_.1 s_.2) 4611686018427387904 (0,([]:List (List Int)))) fun l4_m5 =>
Option.bind (Fn a0 (wI (wI (a1_0+((a1_2.length:Nat):Int))+((a1_3.length:Nat):Int))) l4_m5) fun y47 =>
some y47
theorem Xg {a0:Int} {a1_0:Int} {a1_1:List (Int×Int×Int)} {a1_2:List Int} {a1_3:List Int} {r:List (List Int)} (h:E7 a0 a1_0 a1_1 a1_2 a1_3=some r):Fi Tryd.prog Tab 38 [ai a0,.agg [ai a1_0,.tree (.pair .int (.pair .int .int)) a1_1,.tree .int a1_2,.tree .int a1_3]] [] (.own (oi 0 1) (.slice .int) 0 r.length) [(oi 0 1,.mat 23 (oi 1 1) .int r),(oi 1 1,.pool 3 .int r)]:=by
 refine B8 (by kernel_rfl) Tryd.func38 Y0 (n:=79) (by kernel_rfl) (by simp) (tl:=[(0,ai a0),(1,.agg [ai a1_0,.tree (.pair .int (.pair .int .int)) a1_1,.tree .int a1_2,.tree .int a1_3])]) rfl (by kernel_rfl) trivial ⟨⟨3,.tail _ (.head _)⟩,⟨trivial,trivial⟩⟩ ?_;unfold Qm;unfold E7 at h;refine An ?_;refine An ?_;refine As h (fun (l4_m5:List (List Int)) S_=>S_=⟨Ap [(0,ai a0),(3,.box (oi 0 1) 0),(5,.own (oi 1 1) (.slice .int) 0 l4_m5.length)],Aj (Ar [(oi 0 1,.cells 34 [ai a1_0,.tree (.pair .int (.pair .int .int)) a1_1,.tree .int a1_2,.tree .int a1_3]),(oi 1 1,.mat 23 (oi 2 1) .int l4_m5),(oi 2 1,.pool 3 .int l4_m5)]),2⟩) ?_ ?_
 ·intro v_ h;refine Ab ?_;obtain ⟨y6,h6,h⟩:=Ad h;refine Aa 10 ?_;refine rsB 2 ?_;refine C3 (.agg [ai a1_0,.own (oi 241 6) (.slice .int) 0 y6.length]) [(oi 240 6,some (.cells 64 [ai a1_0,.own (oi 241 6) (.slice .int) 0 y6.length])),(oi 241 6,some (.mat 23 (oi 242 6) .int y6)),(oi 242 6,some (.pool 3 .int y6))] [] [ai a0,.agg [ai a1_0,.tree (.pair .int (.pair .int .int)) a1_1,.tree .int a1_2,.tree .int a1_3]] (caps:=[]) trivial (So h6) Sn trivial (.cons (.ren (by kernel_rfl)) (.cons (.ren (by kernel_rfl)) .nil)) (A7 (by kernel_rfl) (by kernel_rfl) trivial) ?_;refine rsB 3 ?_;refine Aq (tn_ ?_);refine wr_ ?_;refine Af ?_;refine Ax h (fun t_ S_=>∃ (l7_m18:Nat),∃ (l7_m5:List (List Int)),t_=(l7_m18,l7_m5)∧S_=⟨Ap [(0,ai a0),(3,.box (oi 0 1) 0),(5,.own (oi 1 1) (.slice .int) 0 l7_m5.length),(16,.own (oi 3 1) (.slice .int) 0 y6.length),(17,ai ((y6.length:Nat):Int)),(18,ai ((l7_m18:Nat):Int))],Aj (Ar [(oi 0 1,.cells 34 [ai a1_0,.tree (.pair .int (.pair .int .int)) a1_1,.tree .int a1_2,.tree .int a1_3]),(oi 1 1,.mat 23 (oi 2 1) .int l7_m5),(oi 2 1,.pool 3 .int l7_m5),(oi 3 1,.mat 23 (oi 4 1) .int y6),(oi 4 1,.pool 3 .int y6)]),2⟩) ⟨_,(Pr 5 23 (.slice .int) (by kernel_rfl)).trans ((Gt (e1:=23) (n:=0) 9000 (oi 5 10) 3 .int (by kernel_rfl) (by kernel_rfl) rfl (by kernel_rfl) (by kernel_rfl)).trans (Ac [(oi 0 1,oi 3 1),(oi 1 1,oi 5 10),(oi 2 1,oi 9000 11),(oi 3 1,oi 241 6),(oi 4 1,oi 242 6)])),⟨0,([]:List (List Int)),rfl,rfl⟩⟩ ?_;rintro n_ _ _ c_ ⟨l7_m18,l7_m5,rfl,rfl⟩ h hn7
  (try dsimp only at h);unfold Em at h;unfold Mn;refine An ?_;refine Ab ?_;rcases Ae h with ⟨q10,h⟩ | ⟨q10,h⟩
  ·have q10_:=of_decide_eq_true q10;refine Ah q10 ?_;refine Ai (tn_ ?_);refine wr_ ?_;refine As h (fun (l11_m5:List (List Int)) S_=>S_=⟨Ap [(0,ai a0),(3,.box (oi 0 1) 0),(5,.own (oi 1 1) (.slice .int) 0 l11_m5.length),(16,.own (oi 3 1) (.slice .int) 0 y6.length),(17,ai ((y6.length:Nat):Int)),(18,ai ((l7_m18:Nat):Int))],Aj (Ar [(oi 0 1,.cells 34 [ai a1_0,.tree (.pair .int (.pair .int .int)) a1_1,.tree .int a1_2,.tree .int a1_3]),(oi 1 1,.mat 23 (oi 2 1) .int l11_m5),(oi 2 1,.pool 3 .int l11_m5),(oi 3 1,.mat 23 (oi 4 1) .int y6),(oi 4 1,.pool 3 .int y6)]),2⟩) ?_ ?_
   ·intro v_ h;refine Af ?_;refine Ab ?_;obtain ⟨x13,e13,h⟩:=Ad h;refine Aa 8 ?_;refine rsB 1 ?_;refine rs0 (.elt (oi 3 1) l7_m18 0) (zo (t:=.slice .int) (o:=oi 3 1) (len:=y6.length) (k:=.i64) (m:=((l7_m18:Nat):Int)) (At _) (Al e13)) ?_;refine rsl (.own (kid (oi 4 1) l7_m18) .int 0 x13.length) (Bs (o:=oi 3 1) (p:=oi 4 1) (e1:=23) (u:=.int) (xss:=y6) (row:=x13) (j:=l7_m18) (by kernel_rfl) (by kernel_rfl) e13) ?_;refine rsB 2 ?_;refine Aq (tn_ ?_);refine wr_ ?_;refine Ab ?_;obtain ⟨y15,h15,h⟩:=Ad h;refine Aa 11 ?_;refine rsB 1 ?_;refine B9 (.own (oi 384 9) .int 0 y15.length) [(oi 384 9,some (.arr 3 .int y15))] [.own (kid (oi 4 1) l7_m18) .int 0 x13.length] _ (caps:=[]) (args0:=[.tree .int x13]) trivial (Ay (Bn (e:=3) (u:=.int) (xs:=x13) (A0 (by kernel_rfl) e13) rfl) Cj) (Hc h15) Iu ?_;refine rsB 1 ?_;refine Aq (tn_ ?_);refine wr_ ?_;refine As h (fun (l16_m8:List Int) S_=>S_=⟨Ap [(0,ai a0),(3,.box (oi 0 1) 0),(5,.own (oi 1 1) (.slice .int) 0 l7_m5.length),(6,ai ((l7_m18:Nat):Int)),(8,.own (oi 3 1) .int 0 l16_m8.length),(16,.own (oi 4 1) (.slice .int) 0 y6.length),(17,ai ((y6.length:Nat):Int)),(18,ai ((l7_m18:Nat):Int))],Aj (Ar [(oi 0 1,.cells 34 [ai a1_0,.tree (.pair .int (.pair .int .int)) a1_1,.tree .int a1_2,.tree .int a1_3]),(oi 1 1,.mat 23 (oi 2 1) .int l7_m5),(oi 2 1,.pool 3 .int l7_m5),(oi 3 1,.arr 3 .int l16_m8),(oi 4 1,.mat 23 (oi 5 1) .int y6),(oi 5 1,.pool 3 .int y6)]),2⟩) ?_ ?_
    ·intro v_ h;refine An ?_;refine Af ?_;refine Ax h (fun t_ S_=>∃ (l18_m28:Nat),∃ (l18_m8:List Int),t_=(l18_m28,l18_m8)∧S_=⟨Ap [(0,ai a0),(3,.box (oi 0 1) 0),(5,.own (oi 1 1) (.slice .int) 0 l7_m5.length),(6,ai ((l7_m18:Nat):Int)),(8,.own (oi 3 1) .int 0 l18_m8.length),(16,.own (oi 4 1) (.slice .int) 0 y6.length),(17,ai ((y6.length:Nat):Int)),(18,ai ((l7_m18:Nat):Int)),(26,.tree .int a1_2),(27,ai ((a1_2.length:Nat):Int)),(28,ai ((l18_m28:Nat):Int))],Aj (Ar [(oi 0 1,.cells 34 [ai a1_0,.tree (.pair .int (.pair .int .int)) a1_1,.tree .int a1_2,.tree .int a1_3]),(oi 1 1,.mat 23 (oi 2 1) .int l7_m5),(oi 2 1,.pool 3 .int l7_m5),(oi 3 1,.arr 3 .int l18_m8),(oi 4 1,.mat 23 (oi 5 1) .int y6),(oi 5 1,.pool 3 .int y6)]),2⟩) ⟨_,Ac [(oi 3 1,oi 384 9),(oi 4 1,oi 3 1),(oi 5 1,oi 4 1)],⟨0,y15,rfl,rfl⟩⟩ ?_;rintro n_ _ _ c_ ⟨l18_m28,l18_m8,rfl,rfl⟩ h hn18
     (try dsimp only at h);unfold El at h;unfold Md;refine An ?_;refine Ab ?_;rcases Ae h with ⟨q21,h⟩ | ⟨q21,h⟩
     ·have q21_:=of_decide_eq_true q21;refine Ah q21 ?_;refine Ai (tn_ ?_);refine wr_ ?_;refine As h (fun (l22_m8:List Int) S_=>S_=⟨Ap [(0,ai a0),(3,.box (oi 0 1) 0),(5,.own (oi 1 1) (.slice .int) 0 l7_m5.length),(6,ai ((l7_m18:Nat):Int)),(8,.own (oi 3 1) .int 0 l22_m8.length),(16,.own (oi 4 1) (.slice .int) 0 y6.length),(17,ai ((y6.length:Nat):Int)),(18,ai ((l7_m18:Nat):Int)),(26,.tree .int a1_2),(27,ai ((a1_2.length:Nat):Int)),(28,ai ((l18_m28:Nat):Int))],Aj (Ar [(oi 0 1,.cells 34 [ai a1_0,.tree (.pair .int (.pair .int .int)) a1_1,.tree .int a1_2,.tree .int a1_3]),(oi 1 1,.mat 23 (oi 2 1) .int l7_m5),(oi 2 1,.pool 3 .int l7_m5),(oi 3 1,.arr 3 .int l22_m8),(oi 4 1,.mat 23 (oi 5 1) .int y6),(oi 5 1,.pool 3 .int y6)]),2⟩) ?_ ?_
      ·intro v_ h;refine Af ?_;refine Ab ?_;obtain ⟨x24,e24,h⟩:=Ad h;refine Aa 6 ?_;refine rs0 (.telt .int x24 0) (zi (t:=.int) (xs:=a1_2) (k:=.i64) (m:=((l18_m28:Nat):Int)) (At _) e24) ?_;refine rsB 2 ?_;refine Aq (tn_ ?_);refine wr_ ?_;refine An ?_;rcases Ae h with ⟨q26,h⟩ | ⟨q26,h⟩
       ·refine Ah q26 ?_;obtain ⟨g27,h⟩:=Am h;refine Aa 15 ?_;refine rsB 4 ?_;refine rs2 (.own (oi 3 13) .int 0 ((l18_m8++([wI (a0 - 1)])).length)) (oi 3 1) (oi 3 13) (.arr 3 .int (l18_m8++([wI (a0 - 1)]))) (It (t:=.int) (t':=.int) (xs:=l18_m8) (ys:=[wI (a0 - 1)]) (zs:=l18_m8++([wI (a0 - 1)])) (j:=oi 3 1) (len:=l18_m8.length) (c:=.own (oi 38 12) .int 0 1) (by kernel_rfl) (by kernel_rfl) rfl (by kernel_rfl) (Me (e:=3) (by kernel_rfl) rfl) rfl g27) ?_;refine rsB 1 ?_;refine Aq (bn_ (tn_ ?_));obtain rfl:=zj h;exact ⟨_,Ac [(oi 3 1,oi 3 13)],rfl⟩
       refine Ag q26 ?_;obtain ⟨g28,h⟩:=Am h;refine Aa 13 ?_;refine rsB 2 ?_;refine rs2 (.own (oi 3 11) .int 0 ((l18_m8++([0])).length)) (oi 3 1) (oi 3 11) (.arr 3 .int (l18_m8++([0]))) (It (t:=.int) (t':=.int) (xs:=l18_m8) (ys:=[0]) (zs:=l18_m8++([0])) (j:=oi 3 1) (len:=l18_m8.length) (c:=.own (oi 41 10) .int 0 1) (by kernel_rfl) (by kernel_rfl) rfl (by kernel_rfl) (Me (e:=3) (by kernel_rfl) rfl) rfl g28) ?_;refine rsB 1 ?_;refine Aq (bn_ (tn_ ?_));obtain rfl:=zj h;exact ⟨_,Ac [(oi 3 1,oi 3 11)],rfl⟩
      rintro l22_m8 _ rfl h
      (try dsimp only at h);obtain ⟨g29,h⟩:=Am h;refine Aa 4 ?_;refine rs0 (ai ((l18_m28+1:Nat):Int)) (za g29) ?_;refine rsB 1 ?_;refine Aq (tn_ ?_);obtain rfl:=zj h;exact ⟨(l18_m28+1,l22_m8),_,Ac [],⟨l18_m28+1,l22_m8,rfl,rfl⟩,hn18⟩
     have q21_:=of_decide_eq_false q21;refine Ag q21 ?_;refine Au (te_ (te_ (be_ (tn_ ?_))));obtain rfl:=zj h;have h:=hn18
     (try dsimp only at h);obtain rfl:=zj h;exact ⟨_,Ac [],rfl⟩
    rintro l16_m8 _ rfl h
    (try dsimp only at h);refine As h (fun (l30_m8:List Int) S_=>S_=⟨Ap [(0,ai a0),(3,.box (oi 0 1) 0),(5,.own (oi 1 1) (.slice .int) 0 l7_m5.length),(8,.own (oi 3 1) .int 0 l30_m8.length),(16,.own (oi 4 1) (.slice .int) 0 y6.length),(17,ai ((y6.length:Nat):Int)),(18,ai ((l7_m18:Nat):Int))],Aj (Ar [(oi 0 1,.cells 34 [ai a1_0,.tree (.pair .int (.pair .int .int)) a1_1,.tree .int a1_2,.tree .int a1_3]),(oi 1 1,.mat 23 (oi 2 1) .int l7_m5),(oi 2 1,.pool 3 .int l7_m5),(oi 3 1,.arr 3 .int l30_m8),(oi 4 1,.mat 23 (oi 5 1) .int y6),(oi 5 1,.pool 3 .int y6)]),2⟩) ?_ ?_
    ·intro v_ h;refine An ?_;refine Af ?_;refine Ax h (fun t_ S_=>∃ (l32_m47:Nat),∃ (l32_m8:List Int),t_=(l32_m47,l32_m8)∧S_=⟨Ap [(0,ai a0),(3,.box (oi 0 1) 0),(5,.own (oi 1 1) (.slice .int) 0 l7_m5.length),(6,ai ((l7_m18:Nat):Int)),(8,.own (oi 3 1) .int 0 l32_m8.length),(16,.own (oi 4 1) (.slice .int) 0 y6.length),(17,ai ((y6.length:Nat):Int)),(18,ai ((l7_m18:Nat):Int)),(45,.tree .int a1_3),(46,ai ((a1_3.length:Nat):Int)),(47,ai ((l32_m47:Nat):Int))],Aj (Ar [(oi 0 1,.cells 34 [ai a1_0,.tree (.pair .int (.pair .int .int)) a1_1,.tree .int a1_2,.tree .int a1_3]),(oi 1 1,.mat 23 (oi 2 1) .int l7_m5),(oi 2 1,.pool 3 .int l7_m5),(oi 3 1,.arr 3 .int l32_m8),(oi 4 1,.mat 23 (oi 5 1) .int y6),(oi 5 1,.pool 3 .int y6)]),2⟩) ⟨_,Ac [],⟨0,l16_m8,rfl,rfl⟩⟩ ?_;rintro n_ _ _ c_ ⟨l32_m47,l32_m8,rfl,rfl⟩ h hn32
     (try dsimp only at h);unfold Ev at h;unfold Mr;refine An ?_;refine Ab ?_;rcases Ae h with ⟨q35,h⟩ | ⟨q35,h⟩
     ·have q35_:=of_decide_eq_true q35;refine Ah q35 ?_;refine Ai (tn_ ?_);refine wr_ ?_;refine As h (fun (l36_m8:List Int) S_=>S_=⟨Ap [(0,ai a0),(3,.box (oi 0 1) 0),(5,.own (oi 1 1) (.slice .int) 0 l7_m5.length),(6,ai ((l7_m18:Nat):Int)),(8,.own (oi 3 1) .int 0 l36_m8.length),(16,.own (oi 4 1) (.slice .int) 0 y6.length),(17,ai ((y6.length:Nat):Int)),(18,ai ((l7_m18:Nat):Int)),(45,.tree .int a1_3),(46,ai ((a1_3.length:Nat):Int)),(47,ai ((l32_m47:Nat):Int))],Aj (Ar [(oi 0 1,.cells 34 [ai a1_0,.tree (.pair .int (.pair .int .int)) a1_1,.tree .int a1_2,.tree .int a1_3]),(oi 1 1,.mat 23 (oi 2 1) .int l7_m5),(oi 2 1,.pool 3 .int l7_m5),(oi 3 1,.arr 3 .int l36_m8),(oi 4 1,.mat 23 (oi 5 1) .int y6),(oi 5 1,.pool 3 .int y6)]),2⟩) ?_ ?_
      ·intro v_ h;refine Af ?_;refine Ab ?_;obtain ⟨x38,e38,h⟩:=Ad h;refine Aa 6 ?_;refine rs0 (.telt .int x38 0) (zi (t:=.int) (xs:=a1_3) (k:=.i64) (m:=((l32_m47:Nat):Int)) (At _) e38) ?_;refine rsB 2 ?_;refine Aq (tn_ ?_);refine wr_ ?_;refine An ?_;rcases Ae h with ⟨q40,h⟩ | ⟨q40,h⟩
       ·refine Ah q40 ?_;obtain ⟨g41,h⟩:=Am h;refine Aa 13 ?_;refine rsB 2 ?_;refine rs2 (.own (oi 3 11) .int 0 ((l32_m8++([1])).length)) (oi 3 1) (oi 3 11) (.arr 3 .int (l32_m8++([1]))) (It (t:=.int) (t':=.int) (xs:=l32_m8) (ys:=[1]) (zs:=l32_m8++([1])) (j:=oi 3 1) (len:=l32_m8.length) (c:=.own (oi 55 10) .int 0 1) (by kernel_rfl) (by kernel_rfl) rfl (by kernel_rfl) (Me (e:=3) (by kernel_rfl) rfl) rfl g41) ?_;refine rsB 1 ?_;refine Aq (bn_ (tn_ ?_));obtain rfl:=zj h;exact ⟨_,Ac [(oi 3 1,oi 3 11)],rfl⟩
       refine Ag q40 ?_;obtain ⟨g42,h⟩:=Am h;refine Aa 13 ?_;refine rsB 2 ?_;refine rs2 (.own (oi 3 11) .int 0 ((l32_m8++([0])).length)) (oi 3 1) (oi 3 11) (.arr 3 .int (l32_m8++([0]))) (It (t:=.int) (t':=.int) (xs:=l32_m8) (ys:=[0]) (zs:=l32_m8++([0])) (j:=oi 3 1) (len:=l32_m8.length) (c:=.own (oi 58 10) .int 0 1) (by kernel_rfl) (by kernel_rfl) rfl (by kernel_rfl) (Me (e:=3) (by kernel_rfl) rfl) rfl g42) ?_;refine rsB 1 ?_;refine Aq (bn_ (tn_ ?_));obtain rfl:=zj h;exact ⟨_,Ac [(oi 3 1,oi 3 11)],rfl⟩
      rintro l36_m8 _ rfl h
      (try dsimp only at h);obtain ⟨g43,h⟩:=Am h;refine Aa 4 ?_;refine rs0 (ai ((l32_m47+1:Nat):Int)) (za g43) ?_;refine rsB 1 ?_;refine Aq (tn_ ?_);obtain rfl:=zj h;exact ⟨(l32_m47+1,l36_m8),_,Ac [],⟨l32_m47+1,l36_m8,rfl,rfl⟩,hn32⟩
     have q35_:=of_decide_eq_false q35;refine Ag q35 ?_;refine Au (te_ (te_ (be_ (tn_ ?_))));obtain rfl:=zj h;have h:=hn32
     (try dsimp only at h);obtain rfl:=zj h;exact ⟨_,Ac [],rfl⟩
    rintro l30_m8 _ rfl h
    (try dsimp only at h);obtain ⟨g44,h⟩:=Am h;refine Aa 7 ?_;refine rsB 2 ?_;refine Afp (.own (oi 63 4) (.slice .int) 0 1) (oi 63 4) (.vec 23 1 1 ([.own (oi 3 1) .int 0 l30_m8.length])) trivial (L7 (by kernel_rfl)) ?_;refine rs2 (.own (oi 1 5) (.slice .int) 0 (l7_m5.length+1)) (oi 1 1) (oi 1 5) (.vec 23 1 (l7_m5.length+1) (hdL (oi 2 1) .int l7_m5++[.own (oi 3 1) .int 0 l30_m8.length])) (Jf (u:=.int) (t':=.slice .int) (t2:=.slice .int) (o:=oi 1 1) (q:=oi 63 4) (e2:=23) (p:=oi 2 1) (xss:=l7_m5) (cs:=[.own (oi 3 1) .int 0 l30_m8.length]) (len:=l7_m5.length) (by kernel_rfl) (by kernel_rfl) rfl (by kernel_rfl) (by kernel_rfl) rfl g44) ?_;refine rsB 1 ?_;refine Aq (bn_ (tn_ ?_));obtain rfl:=zj h;exact ⟨_,(Fb (e1:=23) (e:=3) (u:=.int) (n:=l7_m5.length+1) (len:=l30_m8.length) (row:=l30_m8) (ys:=l30_m8) (xss:=l7_m5) 9000 (oi 1 5) (oi 2 1) (oi 3 1) (by kernel_rfl) (by kernel_rfl) rfl (by kernel_rfl) (by kernel_rfl) (Pf rfl) (Oo rfl) (by kernel_rfl) (by kernel_rfl) (by kernel_rfl)).trans ((A9 5 (.own (oi 1 5) (.slice .int) 0 (l7_m5.length+1)) (.own (oi 1 5) (.slice .int) 0 ((l7_m5++[l30_m8]).length)) (by kernel_rfl) (congrArg (fun z_=>((.own (oi 1 5) (.slice .int) 0 z_):AV)) ((by simp):l7_m5.length+1=(l7_m5++[l30_m8]).length))).trans (Ac [(oi 1 1,oi 1 5),(oi 2 1,oi 9000 7),(oi 3 1,oi 4 1),(oi 4 1,oi 5 1)])),rfl⟩
   rintro l11_m5 _ rfl h
   (try dsimp only at h);obtain ⟨g45,h⟩:=Am h;refine Aa 4 ?_;refine rs0 (ai ((l7_m18+1:Nat):Int)) (za g45) ?_;refine rsB 1 ?_;refine Aq (tn_ ?_);obtain rfl:=zj h;exact ⟨(l7_m18+1,l11_m5),_,Ac [],⟨l7_m18+1,l11_m5,rfl,rfl⟩,hn7⟩
  have q10_:=of_decide_eq_false q10;refine Ag q10 ?_;refine Au (te_ (te_ (be_ (tn_ ?_))));obtain rfl:=zj h;have h:=hn7
  (try dsimp only at h);obtain rfl:=zj h;exact ⟨_,Ac [],rfl⟩
 rintro l4_m5 _ rfl h
 (try dsimp only at h);refine Ab ?_;obtain ⟨y47,h47,h⟩:=Ad h;refine Aa 16 ?_;refine rsB 12 ?_;refine C3 (.own (oi 1248 14) (.slice .int) 0 y47.length) [(oi 1248 14,some (.mat 23 (oi 1249 14) .int y47)),(oi 1249 14,some (.pool 3 .int y47))] [] [ai a0,ai (wI (wI (a1_0+((a1_2.length:Nat):Int))+((a1_3.length:Nat):Int))),.own (oi 1 1) (.slice .int) 0 l4_m5.length] (caps:=[]) trivial (Rw h47) Rl trivial (.cons (.ren (by kernel_rfl)) (.cons (.ren (by kernel_rfl)) (.cons (.gnd (by kernel_rfl) (M6 (p:=oi 2 1) (e1:=23) (e:=3) (u:=.int) (xss:=l4_m5) ((Np (by kernel_rfl) (by kernel_rfl) (by kernel_rfl)).trans (by kernel_rfl)) (Lt (by kernel_rfl) (by kernel_rfl) (Hb (by kernel_rfl)) (by kernel_rfl)) rfl)) .nil))) (A7 (by kernel_rfl) (by kernel_rfl) trivial) ?_;refine rsB 1 ?_;refine Aq (tn_ ?_);refine wr_ ?_;refine Ao ?_;obtain rfl:=zj h;exact Gk [.own (oi 0 1) (.slice .int) 0 y47.length] (Ac (tl:=[(4,.own (oi 0 1) (.slice .int) 0 y47.length)]) (g:=2) [(oi 0 1,oi 1248 14),(oi 1 1,oi 1249 14)])
def T0:AC :=
 (.seq (rg [xo 2 (.i (.box 34 (tm 0))),xo 4 (qm (.cst .nils))])
 (.seq (rg [xo 6 (qf 2 (tm 2)),xo 7 (ql (tm 6)),xo 8 (qm (tm 1)),xo 9 (qc 74 [tm 7,tm 8] [[some .int],[some .int]]),xo 5 (qm (tm 9))])
 (.seq (rg [xo 10 (qm (tm 5)),xo 11 (qm (tm 1)),xo 12 (qf 0 (tm 2)),xo 13 (ql (tm 12)),xo 14 (qf 0 (tm 2)),xo 15 (ql (tm 14)),xo 16 (qf 2 (tm 2)),xo 17 (ql (tm 16)),xo 18 (.i (.len (tm 17))),xo 19 (qb .add (tm 15) (tm 18)),xo 20 (.slice 1 (tm 11) (some (tm 13)) (some (tm 19)) none),xo 21 (.append 3 .int 8 (tm 10) (tm 20)),xo 5 (qm (tm 21))])
 (.seq (rg [xo 22 (qm (tm 5)),xo 23 (qf 3 (tm 2)),xo 24 (ql (tm 23)),xo 25 (qm (tm 1)),xo 26 (qc 74 [tm 24,tm 25] [[some .int],[some .int]]),xo 27 (.append 3 .int 8 (tm 22) (tm 26)),xo 5 (qm (tm 27))])
 (.seq (rg [xo 28 (qm (tm 5)),xo 29 (qm (tm 1)),xo 30 (qf 0 (tm 2)),xo 31 (ql (tm 30)),xo 32 (qf 2 (tm 2)),xo 33 (ql (tm 32)),xo 34 (.i (.len (tm 33))),xo 35 (qb .add (tm 31) (tm 34)),xo 36 (.slice 1 (tm 29) (some (tm 35)) none none),xo 37 (.append 3 .int 8 (tm 28) (tm 36)),xo 4 (qm (tm 37))])
 .ret)))))
def Acr:List Res:=[.tmp 4]
theorem Acx:Aw Tryd.prog Tryd.f39=some (T0,Acr):=by kernel_rfl
theorem Abb:A6 Tryd.prog 39=true:=by kernel_rfl
def I5 (a0_0:Int) (a0_1:List (Int×Int×Int)) (a0_2:List Int) (a0_3:List Int) (a1:List Int):Option (List Int) :=
 Option.bind (Hf a0_2 a1) fun y3 =>
og ((0:Int)<=a0_0∧a0_0<=wI (a0_0+((a0_2.length:Nat):Int))∧wI (a0_0+((a0_2.length:Nat):Int))<=((a1.length:Nat):Int)∧((a1.length:Nat):Int)<=((a1.length:Nat):Int)) <|
og (y3.length+(((a1.take ((wI (a0_0+((a0_2.length:Nat):Int))).toNat)).drop a0_0.toNat).length)<=1073741824∧(y3.length+(((a1.take ((wI (a0_0+((a0_2.length:Nat):Int))).toNat)).drop a0_0.toNat).length))*8<=140737488355328) <|
Option.bind (Hf a0_3 a1) fun y8 =>
og (((y3++((a1.take ((wI (a0_0+((a0_2.length:Nat):Int))).toNat)).drop a0_0.toNat)).length)+y8.length<=1073741824∧(((y3++((a1.take ((wI (a0_0+((a0_2.length:Nat):Int))).toNat)).drop a0_0.toNat)).length)+y8.length)*8<=140737488355328) <|
og ((0:Int)<=wI (a0_0+((a0_2.length:Nat):Int))∧wI (a0_0+((a0_2.length:Nat):Int))<=((a1.length:Nat):Int)∧((a1.length:Nat):Int)<=((a1.length:Nat):Int)∧((a1.length:Nat):Int)<=((a1.length:Nat):Int)) <|
og ((((y3++((a1.take ((wI (a0_0+((a0_2.length:Nat):Int))).toNat)).drop a0_0.toNat))++y8).length)+((a1.drop ((wI (a0_0+((a0_2.length:Nat):Int))).toNat)).length)<=1073741824∧((((y3++((a1.take ((wI (a0_0+((a0_2.length:Nat):Int))).toNat)).drop a0_0.toNat))++y8).length)+((a1.drop ((wI (a0_0+((a0_2.length:Nat):Int))).toNat)).length))*8<=140737488355328) <|
some (((y3++((a1.take ((wI (a0_0+((a0_2.length:Nat):Int))).toNat)).drop a0_0.toNat))++y8)++(a1.drop ((wI (a0_0+((a0_2.length:Nat):Int))).toNat)))
def Ace (r:List Int):RV:=⟨false,[(false,[.new 3 .int r])]⟩
theorem Abk {a0_0:Int} {a0_1:List (Int×Int×Int)} {a0_2:List Int} {a0_3:List Int} {a1:List Int} {r:List Int} (h:I5 a0_0 a0_1 a0_2 a0_3 a1=some r):Bm Tryd.prog Tab 39 [.agg [ai a0_0,.tree (.pair .int (.pair .int .int)) a0_1,.tree .int a0_2,.tree .int a0_3],.tree .int a1] (Ace r):=by
 refine Ba (by kernel_rfl) Tryd.func39 Acx (n:=38) (by kernel_rfl) (by simp) (tl:=[(0,.agg [ai a0_0,.tree (.pair .int (.pair .int .int)) a0_1,.tree .int a0_2,.tree .int a0_3]),(1,.tree .int a1)]) rfl ?_;unfold T0;unfold I5 at h;refine An ?_;refine Ab ?_;obtain ⟨y3,h3,h⟩:=Ad h;refine Aa 8 ?_;refine rsB 3 ?_;refine zc (.own (oi 144 6) .int 0 y3.length) [(oi 144 6,some (.arr 3 .int y3))] [.tree .int a0_2,.tree .int a1] (Rz h3) ?_;refine rsB 1 ?_;refine Aq (tn_ ?_);refine wr_ ?_;refine Ab ?_;obtain ⟨g5,h⟩:=Am h;obtain ⟨g6,h⟩:=Am h;refine Aa 21 ?_;refine rsB 10 ?_;refine rs0 (.tree .int ((a1.take ((wI (a0_0+((a0_2.length:Nat):Int))).toNat)).drop a0_0.toNat)) (Vg (t:=.int) (xs:=a1) (zs:=(a1.take ((wI (a0_0+((a0_2.length:Nat):Int))).toNat)).drop a0_0.toNat) (l:=a0_0) (h:=wI (a0_0+((a0_2.length:Nat):Int))) (m:=((a1.length:Nat):Int)) (by kernel_rfl) (by kernel_rfl) (by kernel_rfl) (by kernel_rfl) rfl g5 rfl) ?_;refine rs2 (.own (oi 144 19) .int 0 ((y3++((a1.take ((wI (a0_0+((a0_2.length:Nat):Int))).toNat)).drop a0_0.toNat)).length)) (oi 144 6) (oi 144 19) (.arr 3 .int (y3++((a1.take ((wI (a0_0+((a0_2.length:Nat):Int))).toNat)).drop a0_0.toNat))) (It (t:=.int) (t':=.int) (xs:=y3) (ys:=(a1.take ((wI (a0_0+((a0_2.length:Nat):Int))).toNat)).drop a0_0.toNat) (zs:=y3++((a1.take ((wI (a0_0+((a0_2.length:Nat):Int))).toNat)).drop a0_0.toNat)) (j:=oi 144 6) (len:=y3.length) (c:=.tree .int ((a1.take ((wI (a0_0+((a0_2.length:Nat):Int))).toNat)).drop a0_0.toNat)) (by kernel_rfl) (by kernel_rfl) rfl (by kernel_rfl) Ln rfl g6) ?_;refine rsB 1 ?_;refine Aq (tn_ ?_);refine wr_ ?_;refine Ab ?_;obtain ⟨y8,h8,h⟩:=Ad h;obtain ⟨g9,h⟩:=Am h;refine Aa 28 ?_;refine rsB 4 ?_;refine zc (.own (oi 416 25) .int 0 y8.length) [(oi 416 25,some (.arr 3 .int y8))] [.tree .int a0_3,.tree .int a1] (Rz h8) ?_;refine rs2 (.own (oi 144 26) .int 0 (((y3++((a1.take ((wI (a0_0+((a0_2.length:Nat):Int))).toNat)).drop a0_0.toNat))++y8).length)) (oi 144 19) (oi 144 26) (.arr 3 .int ((y3++((a1.take ((wI (a0_0+((a0_2.length:Nat):Int))).toNat)).drop a0_0.toNat))++y8)) (It (t:=.int) (t':=.int) (xs:=y3++((a1.take ((wI (a0_0+((a0_2.length:Nat):Int))).toNat)).drop a0_0.toNat)) (ys:=y8) (zs:=(y3++((a1.take ((wI (a0_0+((a0_2.length:Nat):Int))).toNat)).drop a0_0.toNat))++y8) (j:=oi 144 19) (len:=(y3++((a1.take ((wI (a0_0+((a0_2.length:Nat):Int))).toNat)).drop a0_0.toNat)).length) (c:=.own (oi 416 25) .int 0 y8.length) (by kernel_rfl) (by kernel_rfl) rfl (by kernel_rfl) (Me (e:=3) (by kernel_rfl) rfl) rfl g9) ?_;refine rsB 1 ?_;refine Aq (tn_ ?_);refine wr_ ?_;refine Ab ?_;obtain ⟨g11,h⟩:=Am h;obtain ⟨g12,h⟩:=Am h;refine Aa 39 ?_;refine rsB 8 ?_;refine rs0 (.tree .int (a1.drop ((wI (a0_0+((a0_2.length:Nat):Int))).toNat))) (Vg (t:=.int) (xs:=a1) (zs:=a1.drop ((wI (a0_0+((a0_2.length:Nat):Int))).toNat)) (l:=wI (a0_0+((a0_2.length:Nat):Int))) (h:=((a1.length:Nat):Int)) (m:=((a1.length:Nat):Int)) (by kernel_rfl) (by kernel_rfl) (by kernel_rfl) (by kernel_rfl) rfl g11 (by first | (rw [show ((a1.length:Nat):Int).toNat=a1.length from rfl,List.take_length]; done) | (rw [show ((a1.length:Nat):Int).toNat=a1.length from rfl,List.take_length]; rfl))) ?_;refine rs2 (.own (oi 144 37) .int 0 ((((y3++((a1.take ((wI (a0_0+((a0_2.length:Nat):Int))).toNat)).drop a0_0.toNat))++y8)++(a1.drop ((wI (a0_0+((a0_2.length:Nat):Int))).toNat))).length)) (oi 144 26) (oi 144 37) (.arr 3 .int (((y3++((a1.take ((wI (a0_0+((a0_2.length:Nat):Int))).toNat)).drop a0_0.toNat))++y8)++(a1.drop ((wI (a0_0+((a0_2.length:Nat):Int))).toNat)))) (It (t:=.int) (t':=.int) (xs:=(y3++((a1.take ((wI (a0_0+((a0_2.length:Nat):Int))).toNat)).drop a0_0.toNat))++y8) (ys:=a1.drop ((wI (a0_0+((a0_2.length:Nat):Int))).toNat)) (zs:=((y3++((a1.take ((wI (a0_0+((a0_2.length:Nat):Int))).toNat)).drop a0_0.toNat))++y8)++(a1.drop ((wI (a0_0+((a0_2.length:Nat):Int))).toNat))) (j:=oi 144 26) (len:=((y3++((a1.take ((wI (a0_0+((a0_2.length:Nat):Int))).toNat)).drop a0_0.toNat))++y8).length) (c:=.tree .int (a1.drop ((wI (a0_0+((a0_2.length:Nat):Int))).toNat))) (by kernel_rfl) (by kernel_rfl) rfl (by kernel_rfl) Ln rfl g12) ?_;refine rsB 1 ?_;refine Aq (tn_ ?_);refine wr_ ?_;refine Ao ?_;obtain rfl:=zj h;exact Br [.own (oi 144 37) .int 0 ((((y3++((a1.take ((wI (a0_0+((a0_2.length:Nat):Int))).toNat)).drop a0_0.toNat))++y8)++(a1.drop ((wI (a0_0+((a0_2.length:Nat):Int))).toNat))).length)] (A8 rfl (Kb (by kernel_rfl) rfl) Bc)
def Ot:AC :=
 (.seq (rg [xo 10 (qb .lss (tm 9) (tm 8))])
 (.seq (.cond (tm 10)
  .skip
  (.exit 0))
 (.seq (.block 1 (.seq (rg [xo 11 (qx 1 (tm 7) (tm 9)),xo 12 (ql (tm 11)),xo 5 (qm (tm 12))])
 (rg [xo 13 (qm (tm 3)),xo 14 (qm (tm 5)),xo 15 (.append 3 .int 8 (tm 13) (tm 14)),xo 3 (qm (tm 15))])))
 (rg [xo 16 (qb .add (tm 9) (ci 1)),xo 9 (qm (tm 16))]))))
def Tj:AC :=
 (.seq (rg [xo 2 (qm (.cst .nils))])
 (.seq (rg [xo 6 (.mkS 3 .int []),xo 3 (qm (tm 6))])
 (.seq (.seq (rg [xo 7 (qm (tm 0)),xo 8 (.i (.len (tm 7))),xo 9 (qm (ci 0))])
 (.block 0 (.loop Ot)))
 (.seq (rg [xo 17 (qm (tm 3)),xo 2 (qm (tm 17))])
 .ret))))
def Acq:List Res:=[.tmp 2]
theorem Ad1:Aw Tryd.prog Tryd.f26=some (Tj,Acq):=by kernel_rfl
theorem Abn:A6 Tryd.prog 26=true:=by kernel_rfl
def Ej (a0:List (List Int)) (l5_m9:Nat) (l5_m3:List Int):Option (Ctl (Nat×List Int) (List Int)) :=
 cond (decide (((l5_m9:Nat):Int)<((a0.length:Nat):Int)))
 (Option.bind (a0[l5_m9]?) fun x11 =>
 og (l5_m3.length+x11.length<=1073741824∧(l5_m3.length+x11.length)*8<=140737488355328) <|
 og (l5_m9+1<4611686018427387904) <|
 some (Ctl.next (l5_m9+1,l5_m3++x11)))
 (some (Ctl.out l5_m3))
def Ef (a0:List (List Int)):Option (List Int) :=
 Option.bind (Av (fun s_:Nat×List Int=>Ej a0 s_.1 s_.2) 4611686018427387904 (0,[])) fun l3_m3 =>
some l3_m3
def Aba (r:List Int):RV:=⟨false,[(false,[.new 3 .int r])]⟩
theorem R3 {a0:List (List Int)} {r:List Int} (h:Ef a0=some r):Bm Tryd.prog Tab 26 [.tree (.slice .int) a0] (Aba r):=by
 refine Ba (by kernel_rfl) Tryd.func26 Ad1 (n:=18) (by kernel_rfl) (by simp) (tl:=[(0,.tree (.slice .int) a0)]) rfl ?_;unfold Tj;unfold Ef at h;refine An ?_;refine An ?_;refine As h (fun (l3_m3:List Int) S_=>S_=⟨Ap [(3,.own (oi 0 1) .int 0 l3_m3.length)],Aj (Ar [(oi 0 1,.arr 3 .int l3_m3)]),2⟩) ?_ ?_
 ·intro v_ h;refine An ?_;refine Af ?_;refine Ax h (fun t_ S_=>∃ (l5_m9:Nat),∃ (l5_m3:List Int),t_=(l5_m9,l5_m3)∧S_=⟨Ap [(3,.own (oi 0 1) .int 0 l5_m3.length),(7,.tree (.slice .int) a0),(8,ai ((a0.length:Nat):Int)),(9,ai ((l5_m9:Nat):Int))],Aj (Ar [(oi 0 1,.arr 3 .int l5_m3)]),2⟩) ⟨_,Ac [(oi 0 1,oi 6 2)],⟨0,[],rfl,rfl⟩⟩ ?_;rintro n_ _ _ c_ ⟨l5_m9,l5_m3,rfl,rfl⟩ h hn5
  (try dsimp only at h);unfold Ej at h;unfold Ot;refine An ?_;refine Ab ?_;rcases Ae h with ⟨q8,h⟩ | ⟨q8,h⟩
  ·have q8_:=of_decide_eq_true q8;refine Ah q8 ?_;refine Ai (tn_ ?_);refine wr_ ?_;refine Ab ?_;refine Af ?_;refine Ab ?_;obtain ⟨x11,e11,h⟩:=Ad h;refine Aa 6 ?_;refine rs0 (.telt (.slice .int) x11 0) (zi (t:=.slice .int) (xs:=a0) (k:=.i64) (m:=((l5_m9:Nat):Int)) (At _) e11) ?_;refine rsB 2 ?_;refine Aq (tn_ ?_);refine wr_ ?_;obtain ⟨g12,h⟩:=Am h;refine Aa 10 ?_;refine rsB 2 ?_;refine rs2 (.own (oi 0 8) .int 0 ((l5_m3++x11).length)) (oi 0 1) (oi 0 8) (.arr 3 .int (l5_m3++x11)) (It (t:=.int) (t':=.int) (xs:=l5_m3) (ys:=x11) (zs:=l5_m3++x11) (j:=oi 0 1) (len:=l5_m3.length) (c:=.tree .int x11) (by kernel_rfl) (by kernel_rfl) rfl (by kernel_rfl) Ln rfl g12) ?_;refine rsB 1 ?_;refine Aq (bn_ (tn_ ?_));refine wr_ ?_;obtain ⟨g13,h⟩:=Am h;refine Aa 12 ?_;refine rs0 (ai ((l5_m9+1:Nat):Int)) (za g13) ?_;refine rsB 1 ?_;refine Aq (tn_ ?_);obtain rfl:=zj h;exact ⟨(l5_m9+1,l5_m3++x11),_,Ac [(oi 0 1,oi 0 8)],⟨l5_m9+1,l5_m3++x11,rfl,rfl⟩,hn5⟩
  have q8_:=of_decide_eq_false q8;refine Ag q8 ?_;refine Au (te_ (te_ (be_ (tn_ ?_))));obtain rfl:=zj h;have h:=hn5
  (try dsimp only at h);obtain rfl:=zj h;exact ⟨_,Ac [],rfl⟩
 rintro l3_m3 _ rfl h
 (try dsimp only at h);refine An ?_;refine Ao ?_;obtain rfl:=zj h;exact Br [.own (oi 0 1) .int 0 l3_m3.length] (A8 rfl (Kb (by kernel_rfl) rfl) Bc)
def Hy:AC :=
 (.seq (rg [xo 62 (qb .lss (tm 61) (tm 60))])
 (.seq (.cond (tm 62)
  .skip
  (.exit 4))
 (.seq (.block 5 (.seq (rg [xo 63 (qm (tm 61)),xo 64 (qx 1 (tm 59) (tm 61)),xo 65 (ql (tm 64)),xo 13 (qm (tm 63)),xo 14 (qm (tm 65))])
 (.seq (rg [xo 66 (qm (tm 14)),xo 67 (qm (tm 8)),xo 68 (qb .eql (tm 66) (tm 67))])
 (.cond (tm 68)
  (rg [xo 69 (qm (tm 10)),xo 70 (qf 0 (tm 2)),xo 71 (ql (tm 70)),xo 72 (qm (tm 5)),xo 73 (qb .add (tm 71) (tm 72)),xo 74 (qm (tm 13)),xo 75 (qb .add (tm 73) (tm 74)),xo 76 (qx 1 (tm 69) (tm 75)),xn (qs (tm 76) (ci 1))])
  .skip))))
 (rg [xo 77 (qb .add (tm 61) (ci 1)),xo 61 (qm (tm 77))]))))
def H8:AC :=
 (.seq (rg [xo 42 (qb .lss (tm 41) (tm 40))])
 (.seq (.cond (tm 42)
  .skip
  (.exit 2))
 (.seq (.block 3 (.seq (rg [xo 43 (qm (tm 41)),xo 44 (qx 1 (tm 39) (tm 41)),xo 45 (ql (tm 44)),xo 11 (qm (tm 43)),xo 12 (qm (tm 45))])
 (.seq (rg [xo 46 (qm (tm 12)),xo 47 (qm (tm 8)),xo 48 (qb .eql (tm 46) (tm 47))])
 (.cond (tm 48)
  (rg [xo 49 (qm (tm 10)),xo 50 (qf 0 (tm 2)),xo 51 (ql (tm 50)),xo 52 (qm (tm 11)),xo 53 (qb .add (tm 51) (tm 52)),xo 54 (qm (tm 1)),xo 55 (qb .sub (tm 54) (ci 1)),xo 56 (qx 1 (tm 49) (tm 53)),xn (qs (tm 56) (tm 55))])
  .skip))))
 (rg [xo 57 (qb .add (tm 41) (ci 1)),xo 41 (qm (tm 57))]))))
def Ht:AC :=
 (.seq (rg [xo 27 (qb .lss (tm 26) (tm 25))])
 (.seq (.cond (tm 27)
  .skip
  (.exit 0))
 (.seq (.block 1 (.seq (rg [xo 28 (qm (tm 26)),xo 29 (qx 1 (tm 24) (tm 26)),xo 30 (ql (tm 29)),xo 8 (qm (tm 28)),xo 9 (qm (tm 30))])
 (.seq (rg [xo 31 (qm (tm 9)),xo 32 (qm (tm 5)),xo 33 (qm (tm 6)),xo 34 (qb .add (tm 32) (tm 33)),xo 35 (qc 69 [tm 34] [[]]),xo 36 (.mkV 23 (.slice .int) 1 [tm 31,tm 35]),xo 37 (qc 26 [tm 36] [[some (.slice .int)]]),xo 10 (qm (tm 37))])
 (.seq (.seq (rg [xo 38 (qf 2 (tm 2)),xo 39 (ql (tm 38)),xo 40 (.i (.len (tm 39))),xo 41 (qm (ci 0))])
 (.block 2 (.loop H8)))
 (.seq (.seq (rg [xo 58 (qf 3 (tm 2)),xo 59 (ql (tm 58)),xo 60 (.i (.len (tm 59))),xo 61 (qm (ci 0))])
 (.block 4 (.loop Hy)))
 (rg [xo 78 (qm (tm 7)),xo 79 (qm (tm 10)),xo 80 (.mkV 23 (.slice .int) 1 [tm 79]),xo 81 (.appV 23 (.slice .int) 24 (tm 78) (tm 80)),xo 7 (qm (tm 81))]))))))
 (rg [xo 82 (qb .add (tm 26) (ci 1)),xo 26 (qm (tm 82))]))))
def Js:AC :=
 (.seq (rg [xo 2 (.i (.box 34 (tm 0))),xo 4 (qm (.cst .nils))])
 (.seq (.region [xo 15 (qf 2 (tm 2)),xo 16 (ql (tm 15)),xo 17 (.i (.len (tm 16))),xo 18 (qf 3 (tm 2)),xo 19 (ql (tm 18)),xo 20 (.i (.len (tm 19))),xo 5 (qm (tm 17)),xo 6 (qm (tm 20))] true [])
 (.seq (rg [xo 21 (.mkV 23 (.slice .int) 1 []),xo 7 (qm (tm 21))])
 (.seq (.seq (rg [xo 22 (.i (.ld false 4 (tm 2))),xo 23 (qm (tm 1)),⟨some 24,none,qc 68 [tm 22,tm 23] [[none,some (.pair .int (.pair .int .int)),some .int,some .int],[]]⟩,xo 25 (.i (.len (tm 24))),xo 26 (qm (ci 0))])
 (.block 0 (.loop Ht)))
 (.seq (rg [xo 83 (qm (tm 7)),xo 4 (qm (tm 83))])
 .ret)))))
def Pb:List Res:=[.tmp 4]
theorem Pq:Aw Tryd.prog Tryd.f29=some (Js,Pb):=by kernel_rfl
theorem N4:A6 Tryd.prog 29=true:=by kernel_rfl
def B4 (a0_2:List Int) (l8_m26:Nat) (a0_0:Int) (a1:Int) (l20_m41:Nat) (l20_m10:List Int):Option (Ctl (Nat×List Int) (List Int)) :=
 cond (decide (((l20_m41:Nat):Int)<((a0_2.length:Nat):Int)))
 (Option.bind (Option.bind (a0_2[l20_m41]?) fun x26 =>
  cond (x26==((l8_m26:Nat):Int))
   (Option.bind (Ex l20_m10 (wI (a0_0+((l20_m41:Nat):Int)))) fun x29 =>
   Option.bind (Ex l20_m10 (wI (a0_0+((l20_m41:Nat):Int)))) fun x30 =>
   some (l20_m10.set ((wI (a0_0+((l20_m41:Nat):Int))).toNat) (wI (a1 - 1))))
   (some l20_m10)) fun l24_m10 =>
 og (l20_m41+1<4611686018427387904) <|
 some (Ctl.next (l20_m41+1,l24_m10)))
 (some (Ctl.out l20_m10))
def B1 (a0_3:List Int) (l8_m26:Nat) (a0_0:Int) (a0_2:List Int) (l34_m61:Nat) (l34_m10:List Int):Option (Ctl (Nat×List Int) (List Int)) :=
 cond (decide (((l34_m61:Nat):Int)<((a0_3.length:Nat):Int)))
 (Option.bind (Option.bind (a0_3[l34_m61]?) fun x40 =>
  cond (x40==((l8_m26:Nat):Int))
   (Option.bind (Ex l34_m10 (wI (wI (a0_0+((a0_2.length:Nat):Int))+((l34_m61:Nat):Int)))) fun x43 =>
   Option.bind (Ex l34_m10 (wI (wI (a0_0+((a0_2.length:Nat):Int))+((l34_m61:Nat):Int)))) fun x44 =>
   some (l34_m10.set ((wI (wI (a0_0+((a0_2.length:Nat):Int))+((l34_m61:Nat):Int))).toNat) 1))
   (some l34_m10)) fun l38_m10 =>
 og (l34_m61+1<4611686018427387904) <|
 some (Ctl.next (l34_m61+1,l38_m10)))
 (some (Ctl.out l34_m10))
def Ck (y7:List (List Int)) (a0_2:List Int) (a0_3:List Int) (a0_0:Int) (a1:Int) (l8_m26:Nat) (l8_m7:List (List Int)):Option (Ctl (Nat×List (List Int)) (List (List Int))) :=
 cond (decide (((l8_m26:Nat):Int)<((y7.length:Nat):Int)))
 (Option.bind (Option.bind (y7[l8_m26]?) fun x14 =>
  Option.bind (Fg (wI (((a0_2.length:Nat):Int)+((a0_3.length:Nat):Int)))) fun y16 =>
  Option.bind (Ef ([x14,y16])) fun y17 =>
  Option.bind (Av (fun s_:Nat×List Int=>B4 a0_2 l8_m26 a0_0 a1 s_.1 s_.2) 4611686018427387904 (0,y17)) fun l18_m10 =>
  Option.bind (Av (fun s_:Nat×List Int=>B1 a0_3 l8_m26 a0_0 a0_2 s_.1 s_.2) 4611686018427387904 (0,l18_m10)) fun l32_m10 =>
  og (l8_m7.length+1<=1073741824∧(l8_m7.length+1)*24<=140737488355328) <|
  some (l8_m7++[l32_m10])) fun l12_m7 =>
 og (l8_m26+1<4611686018427387904) <|
 some (Ctl.next (l8_m26+1,l12_m7)))
 (some (Ctl.out l8_m7))
def B0 (a0_0:Int) (a0_1:List (Int×Int×Int)) (a0_2:List Int) (a0_3:List Int) (a1:Int):Option (List (List Int)) :=
 Option.bind (Option.bind (Cs a0_0 a0_1 a0_2 a0_3 a1) fun y7 =>
 Av (fun s_:Nat×List (List Int)=>Ck y7 a0_2 a0_3 a0_0 a1 s_.1 s_.2) 4611686018427387904 (0,([]:List (List Int)))) fun l5_m7 =>
some l5_m7
theorem N2 {a0_0:Int} {a0_1:List (Int×Int×Int)} {a0_2:List Int} {a0_3:List Int} {a1:Int} {r:List (List Int)} (h:B0 a0_0 a0_1 a0_2 a0_3 a1=some r):Fi Tryd.prog Tab 29 [.agg [ai a0_0,.tree (.pair .int (.pair .int .int)) a0_1,.tree .int a0_2,.tree .int a0_3],ai a1] [] (.own (oi 0 1) (.slice .int) 0 r.length) [(oi 0 1,.mat 23 (oi 1 1) .int r),(oi 1 1,.pool 3 .int r)]:=by
 refine B8 (by kernel_rfl) Tryd.func29 Pq (n:=84) (by kernel_rfl) (by simp) (tl:=[(0,.agg [ai a0_0,.tree (.pair .int (.pair .int .int)) a0_1,.tree .int a0_2,.tree .int a0_3]),(1,ai a1)]) rfl (by kernel_rfl) trivial ⟨⟨3,.tail _ (.head _)⟩,⟨trivial,trivial⟩⟩ ?_;unfold Js;unfold B0 at h;refine An ?_;refine Ab ?_;refine Az 11 ?_;refine dsB 8 ?_;refine Ft (Bd (by kernel_rfl)) (tn_ ?_);refine wr_ ?_;refine Ab ?_;refine Aa 13 ?_;refine Afp (.own (oi 21 11) (.slice .int) 0 0) (oi 21 11) (.vec 23 1 0 []) trivial (L7 (by kernel_rfl)) ?_;refine rsB 1 ?_;refine Aq (tn_ ?_);refine ⟨_,Gt (e1:=23) (n:=0) 9000 (oi 21 11) 3 .int (by kernel_rfl) (by kernel_rfl) rfl (by kernel_rfl) (by kernel_rfl),?_⟩;refine As h (fun (l5_m7:List (List Int)) S_=>S_=⟨Ap [(7,.own (oi 0 1) (.slice .int) 0 l5_m7.length)],Aj (Ar [(oi 0 1,.mat 23 (oi 1 1) .int l5_m7),(oi 1 1,.pool 3 .int l5_m7)]),2⟩) ?_ ?_
 ·intro v_ h;refine Ab ?_;obtain ⟨y7,h7,h⟩:=Ad h;refine Aa 19 ?_;refine rsB 2 ?_;refine C3 (.own (oi 384 16) (.slice .int) 0 y7.length) [(oi 384 16,some (.mat 23 (oi 385 16) .int y7)),(oi 385 16,some (.pool 3 .int y7))] [] [.agg [ai a0_0,.tree (.pair .int (.pair .int .int)) a0_1,.tree .int a0_2,.tree .int a0_3],ai a1] (caps:=[]) trivial (Nf h7) Nh trivial (.cons (.ren (by kernel_rfl)) (.cons (.ren (by kernel_rfl)) .nil)) (A7 (by kernel_rfl) (by kernel_rfl) trivial) ?_;refine rsB 2 ?_;refine Aq (tn_ ?_);refine ⟨_,Akg (e1:=23) (e:=3) (u:=.int) (xss:=y7) (len:=y7.length) 24 (oi 384 16) (oi 385 16) (by kernel_rfl) (by kernel_rfl) (by kernel_rfl) rfl,?_⟩;refine Af ?_;refine Ax h (fun t_ S_=>∃ (l8_m26:Nat),∃ (l8_m7:List (List Int)),t_=(l8_m26,l8_m7)∧S_=⟨Ap [(1,ai a1),(2,.box (oi 0 1) 0),(5,ai ((a0_2.length:Nat):Int)),(6,ai ((a0_3.length:Nat):Int)),(7,.own (oi 1 1) (.slice .int) 0 l8_m7.length),(24,.tree (.slice .int) y7),(25,ai ((y7.length:Nat):Int)),(26,ai ((l8_m26:Nat):Int))],Aj (Ar [(oi 0 1,.cells 34 [ai a0_0,.tree (.pair .int (.pair .int .int)) a0_1,.tree .int a0_2,.tree .int a0_3]),(oi 1 1,.mat 23 (oi 2 1) .int l8_m7),(oi 2 1,.pool 3 .int l8_m7)]),2⟩) ⟨_,Ac [(oi 0 1,oi 2 1),(oi 1 1,oi 21 11),(oi 2 1,oi 9000 13)],⟨0,([]:List (List Int)),rfl,rfl⟩⟩ ?_;rintro n_ _ _ c_ ⟨l8_m26,l8_m7,rfl,rfl⟩ h hn8
  (try dsimp only at h);unfold Ck at h;unfold Ht;refine An ?_;refine Ab ?_;rcases Ae h with ⟨q11,h⟩ | ⟨q11,h⟩
  ·have q11_:=of_decide_eq_true q11;refine Ah q11 ?_;refine Ai (tn_ ?_);refine wr_ ?_;refine As h (fun (l12_m7:List (List Int)) S_=>S_=⟨Ap [(1,ai a1),(2,.box (oi 0 1) 0),(5,ai ((a0_2.length:Nat):Int)),(6,ai ((a0_3.length:Nat):Int)),(7,.own (oi 1 1) (.slice .int) 0 l12_m7.length),(24,.tree (.slice .int) y7),(25,ai ((y7.length:Nat):Int)),(26,ai ((l8_m26:Nat):Int))],Aj (Ar [(oi 0 1,.cells 34 [ai a0_0,.tree (.pair .int (.pair .int .int)) a0_1,.tree .int a0_2,.tree .int a0_3]),(oi 1 1,.mat 23 (oi 2 1) .int l12_m7),(oi 2 1,.pool 3 .int l12_m7)]),2⟩) ?_ ?_
   ·intro v_ h;refine Af ?_;refine Ab ?_;obtain ⟨x14,e14,h⟩:=Ad h;refine Aa 8 ?_;refine rsB 1 ?_;refine rs0 (.telt (.slice .int) x14 0) (zi (t:=.slice .int) (xs:=y7) (k:=.i64) (m:=((l8_m26:Nat):Int)) (At _) e14) ?_;refine rsB 3 ?_;refine Aq (tn_ ?_);refine wr_ ?_;refine Ab ?_;obtain ⟨y16,h16,h⟩:=Ad h;obtain ⟨y17,h17,h⟩:=Ad h;refine Aa 16 ?_;refine rsB 4 ?_;refine zc (.own (oi 560 12) .int 0 y16.length) [(oi 560 12,some (.arr 3 .int y16))] [ai (wI (((a0_2.length:Nat):Int)+((a0_3.length:Nat):Int)))] (Ku h16) ?_;refine rsU (.tree (.slice .int) ([x14,y16])) [(oi 560 12,none)] (Asm (t:=.int) (yss:=[x14,y16]) (Vb (t:=.int) (c:=.tree .int x14) (ys:=x14) (by kernel_rfl) Ln (Vb (t:=.int) (c:=.own (oi 560 12) .int 0 y16.length) (ys:=y16) (by kernel_rfl) (Me (e:=3) (by kernel_rfl) rfl) Al9)) (by kernel_rfl)) ?_;refine zc (.own (oi 592 14) .int 0 y17.length) [(oi 592 14,some (.arr 3 .int y17))] [.tree (.slice .int) ([x14,y16])] (R3 h17) ?_;refine rsB 1 ?_;refine Aq (tn_ ?_);refine wr_ ?_;refine As h (fun (l18_m10:List Int) S_=>S_=⟨Ap [(1,ai a1),(2,.box (oi 0 1) 0),(5,ai ((a0_2.length:Nat):Int)),(6,ai ((a0_3.length:Nat):Int)),(7,.own (oi 1 1) (.slice .int) 0 l8_m7.length),(8,ai ((l8_m26:Nat):Int)),(10,.own (oi 3 1) .int 0 l18_m10.length),(24,.tree (.slice .int) y7),(25,ai ((y7.length:Nat):Int)),(26,ai ((l8_m26:Nat):Int))],Aj (Ar [(oi 0 1,.cells 34 [ai a0_0,.tree (.pair .int (.pair .int .int)) a0_1,.tree .int a0_2,.tree .int a0_3]),(oi 1 1,.mat 23 (oi 2 1) .int l8_m7),(oi 2 1,.pool 3 .int l8_m7),(oi 3 1,.arr 3 .int l18_m10)]),2⟩) ?_ ?_
    ·intro v_ h;refine An ?_;refine Af ?_;refine Ax h (fun t_ S_=>∃ (l20_m41:Nat),∃ (l20_m10:List Int),t_=(l20_m41,l20_m10)∧S_=⟨Ap [(1,ai a1),(2,.box (oi 0 1) 0),(5,ai ((a0_2.length:Nat):Int)),(6,ai ((a0_3.length:Nat):Int)),(7,.own (oi 1 1) (.slice .int) 0 l8_m7.length),(8,ai ((l8_m26:Nat):Int)),(10,.own (oi 3 1) .int 0 l20_m10.length),(24,.tree (.slice .int) y7),(25,ai ((y7.length:Nat):Int)),(26,ai ((l8_m26:Nat):Int)),(39,.tree .int a0_2),(40,ai ((a0_2.length:Nat):Int)),(41,ai ((l20_m41:Nat):Int))],Aj (Ar [(oi 0 1,.cells 34 [ai a0_0,.tree (.pair .int (.pair .int .int)) a0_1,.tree .int a0_2,.tree .int a0_3]),(oi 1 1,.mat 23 (oi 2 1) .int l8_m7),(oi 2 1,.pool 3 .int l8_m7),(oi 3 1,.arr 3 .int l20_m10)]),2⟩) ⟨_,Ac [(oi 3 1,oi 592 14)],⟨0,y17,rfl,rfl⟩⟩ ?_;rintro n_ _ _ c_ ⟨l20_m41,l20_m10,rfl,rfl⟩ h hn20
     (try dsimp only at h);unfold B4 at h;unfold H8;refine An ?_;refine Ab ?_;rcases Ae h with ⟨q23,h⟩ | ⟨q23,h⟩
     ·have q23_:=of_decide_eq_true q23;refine Ah q23 ?_;refine Ai (tn_ ?_);refine wr_ ?_;refine As h (fun (l24_m10:List Int) S_=>S_=⟨Ap [(1,ai a1),(2,.box (oi 0 1) 0),(5,ai ((a0_2.length:Nat):Int)),(6,ai ((a0_3.length:Nat):Int)),(7,.own (oi 1 1) (.slice .int) 0 l8_m7.length),(8,ai ((l8_m26:Nat):Int)),(10,.own (oi 3 1) .int 0 l24_m10.length),(24,.tree (.slice .int) y7),(25,ai ((y7.length:Nat):Int)),(26,ai ((l8_m26:Nat):Int)),(39,.tree .int a0_2),(40,ai ((a0_2.length:Nat):Int)),(41,ai ((l20_m41:Nat):Int))],Aj (Ar [(oi 0 1,.cells 34 [ai a0_0,.tree (.pair .int (.pair .int .int)) a0_1,.tree .int a0_2,.tree .int a0_3]),(oi 1 1,.mat 23 (oi 2 1) .int l8_m7),(oi 2 1,.pool 3 .int l8_m7),(oi 3 1,.arr 3 .int l24_m10)]),2⟩) ?_ ?_
      ·intro v_ h;refine Af ?_;refine Ab ?_;obtain ⟨x26,e26,h⟩:=Ad h;refine Aa 8 ?_;refine rsB 1 ?_;refine rs0 (.telt .int x26 0) (zi (t:=.int) (xs:=a0_2) (k:=.i64) (m:=((l20_m41:Nat):Int)) (At _) e26) ?_;refine rsB 3 ?_;refine Aq (tn_ ?_);refine wr_ ?_;refine An ?_;rcases Ae h with ⟨q28,h⟩ | ⟨q28,h⟩
       ·refine Ah q28 ?_;obtain ⟨x29,f29,h⟩:=Ad h;obtain ⟨p29,b29,e29⟩:=Bi f29;obtain ⟨x30,f30,h⟩:=Ad h;obtain ⟨p30,b30,e30⟩:=Bi f30;refine Aa 20 ?_;refine rsB 7 ?_;refine rs0 (.elt (oi 3 1) ((wI (a0_0+((l20_m41:Nat):Int))).toNat) 0) (zo (t:=.int) (o:=oi 3 1) (len:=l20_m10.length) (k:=.i64) (m:=wI (a0_0+((l20_m41:Nat):Int))) p29 (Al e29)) ?_;refine Nj (oi 3 1) (oi 3 1) (.arr 3 .int (l20_m10.set ((wI (a0_0+((l20_m41:Nat):Int))).toNat) (wI (a1 - 1)))) (Ep (i:=oi 3 1) (j:=(wI (a0_0+((l20_m41:Nat):Int))).toNat) (k:=0) (e:=3) (t:=.int) (xs:=l20_m10) (cs:=[ai (wI (a1 - 1))]) (x1:=wI (a1 - 1)) (by kernel_rfl) (by kernel_rfl) e30 (by kernel_rfl) (by kernel_rfl)) ?_;refine Aq (bn_ (tn_ ?_));obtain rfl:=zj h;exact ⟨_,(A9 10 (.own (oi 3 1) .int 0 l20_m10.length) (.own (oi 3 1) .int 0 ((l20_m10.set ((wI (a0_0+((l20_m41:Nat):Int))).toNat) (wI (a1 - 1))).length)) (by kernel_rfl) (congrArg (fun z_=>((.own (oi 3 1) .int 0 z_):AV)) (((rfl:l20_m10.length=l20_m10.length).trans List.length_set.symm):l20_m10.length=(l20_m10.set ((wI (a0_0+((l20_m41:Nat):Int))).toNat) (wI (a1 - 1))).length))).trans (Ac []),rfl⟩
       refine Ag q28 ?_;refine Ai (bn_ (tn_ ?_));obtain rfl:=zj h;exact ⟨_,Ac [],rfl⟩
      rintro l24_m10 _ rfl h
      (try dsimp only at h);obtain ⟨g31,h⟩:=Am h;refine Aa 4 ?_;refine rs0 (ai ((l20_m41+1:Nat):Int)) (za g31) ?_;refine rsB 1 ?_;refine Aq (tn_ ?_);obtain rfl:=zj h;exact ⟨(l20_m41+1,l24_m10),_,Ac [],⟨l20_m41+1,l24_m10,rfl,rfl⟩,hn20⟩
     have q23_:=of_decide_eq_false q23;refine Ag q23 ?_;refine Au (te_ (te_ (be_ (tn_ ?_))));obtain rfl:=zj h;have h:=hn20
     (try dsimp only at h);obtain rfl:=zj h;exact ⟨_,Ac [],rfl⟩
    rintro l18_m10 _ rfl h
    (try dsimp only at h);refine As h (fun (l32_m10:List Int) S_=>S_=⟨Ap [(1,ai a1),(2,.box (oi 0 1) 0),(5,ai ((a0_2.length:Nat):Int)),(6,ai ((a0_3.length:Nat):Int)),(7,.own (oi 1 1) (.slice .int) 0 l8_m7.length),(10,.own (oi 3 1) .int 0 l32_m10.length),(24,.tree (.slice .int) y7),(25,ai ((y7.length:Nat):Int)),(26,ai ((l8_m26:Nat):Int))],Aj (Ar [(oi 0 1,.cells 34 [ai a0_0,.tree (.pair .int (.pair .int .int)) a0_1,.tree .int a0_2,.tree .int a0_3]),(oi 1 1,.mat 23 (oi 2 1) .int l8_m7),(oi 2 1,.pool 3 .int l8_m7),(oi 3 1,.arr 3 .int l32_m10)]),2⟩) ?_ ?_
    ·intro v_ h;refine An ?_;refine Af ?_;refine Ax h (fun t_ S_=>∃ (l34_m61:Nat),∃ (l34_m10:List Int),t_=(l34_m61,l34_m10)∧S_=⟨Ap [(1,ai a1),(2,.box (oi 0 1) 0),(5,ai ((a0_2.length:Nat):Int)),(6,ai ((a0_3.length:Nat):Int)),(7,.own (oi 1 1) (.slice .int) 0 l8_m7.length),(8,ai ((l8_m26:Nat):Int)),(10,.own (oi 3 1) .int 0 l34_m10.length),(24,.tree (.slice .int) y7),(25,ai ((y7.length:Nat):Int)),(26,ai ((l8_m26:Nat):Int)),(59,.tree .int a0_3),(60,ai ((a0_3.length:Nat):Int)),(61,ai ((l34_m61:Nat):Int))],Aj (Ar [(oi 0 1,.cells 34 [ai a0_0,.tree (.pair .int (.pair .int .int)) a0_1,.tree .int a0_2,.tree .int a0_3]),(oi 1 1,.mat 23 (oi 2 1) .int l8_m7),(oi 2 1,.pool 3 .int l8_m7),(oi 3 1,.arr 3 .int l34_m10)]),2⟩) ⟨_,Ac [],⟨0,l18_m10,rfl,rfl⟩⟩ ?_;rintro n_ _ _ c_ ⟨l34_m61,l34_m10,rfl,rfl⟩ h hn34
     (try dsimp only at h);unfold B1 at h;unfold Hy;refine An ?_;refine Ab ?_;rcases Ae h with ⟨q37,h⟩ | ⟨q37,h⟩
     ·have q37_:=of_decide_eq_true q37;refine Ah q37 ?_;refine Ai (tn_ ?_);refine wr_ ?_;refine As h (fun (l38_m10:List Int) S_=>S_=⟨Ap [(1,ai a1),(2,.box (oi 0 1) 0),(5,ai ((a0_2.length:Nat):Int)),(6,ai ((a0_3.length:Nat):Int)),(7,.own (oi 1 1) (.slice .int) 0 l8_m7.length),(8,ai ((l8_m26:Nat):Int)),(10,.own (oi 3 1) .int 0 l38_m10.length),(24,.tree (.slice .int) y7),(25,ai ((y7.length:Nat):Int)),(26,ai ((l8_m26:Nat):Int)),(59,.tree .int a0_3),(60,ai ((a0_3.length:Nat):Int)),(61,ai ((l34_m61:Nat):Int))],Aj (Ar [(oi 0 1,.cells 34 [ai a0_0,.tree (.pair .int (.pair .int .int)) a0_1,.tree .int a0_2,.tree .int a0_3]),(oi 1 1,.mat 23 (oi 2 1) .int l8_m7),(oi 2 1,.pool 3 .int l8_m7),(oi 3 1,.arr 3 .int l38_m10)]),2⟩) ?_ ?_
      ·intro v_ h;refine Af ?_;refine Ab ?_;obtain ⟨x40,e40,h⟩:=Ad h;refine Aa 8 ?_;refine rsB 1 ?_;refine rs0 (.telt .int x40 0) (zi (t:=.int) (xs:=a0_3) (k:=.i64) (m:=((l34_m61:Nat):Int)) (At _) e40) ?_;refine rsB 3 ?_;refine Aq (tn_ ?_);refine wr_ ?_;refine An ?_;rcases Ae h with ⟨q42,h⟩ | ⟨q42,h⟩
       ·refine Ah q42 ?_;obtain ⟨x43,f43,h⟩:=Ad h;obtain ⟨p43,b43,e43⟩:=Bi f43;obtain ⟨x44,f44,h⟩:=Ad h;obtain ⟨p44,b44,e44⟩:=Bi f44;refine Aa 20 ?_;refine rsB 7 ?_;refine rs0 (.elt (oi 3 1) ((wI (wI (a0_0+((a0_2.length:Nat):Int))+((l34_m61:Nat):Int))).toNat) 0) (zo (t:=.int) (o:=oi 3 1) (len:=l34_m10.length) (k:=.i64) (m:=wI (wI (a0_0+((a0_2.length:Nat):Int))+((l34_m61:Nat):Int))) p43 (Al e43)) ?_;refine Nj (oi 3 1) (oi 3 1) (.arr 3 .int (l34_m10.set ((wI (wI (a0_0+((a0_2.length:Nat):Int))+((l34_m61:Nat):Int))).toNat) 1)) (Ep (i:=oi 3 1) (j:=(wI (wI (a0_0+((a0_2.length:Nat):Int))+((l34_m61:Nat):Int))).toNat) (k:=0) (e:=3) (t:=.int) (xs:=l34_m10) (cs:=[ai 1]) (x1:=1) (by kernel_rfl) (by kernel_rfl) e44 (by kernel_rfl) (by kernel_rfl)) ?_;refine Aq (bn_ (tn_ ?_));obtain rfl:=zj h;exact ⟨_,(A9 10 (.own (oi 3 1) .int 0 l34_m10.length) (.own (oi 3 1) .int 0 ((l34_m10.set ((wI (wI (a0_0+((a0_2.length:Nat):Int))+((l34_m61:Nat):Int))).toNat) 1).length)) (by kernel_rfl) (congrArg (fun z_=>((.own (oi 3 1) .int 0 z_):AV)) (((rfl:l34_m10.length=l34_m10.length).trans List.length_set.symm):l34_m10.length=(l34_m10.set ((wI (wI (a0_0+((a0_2.length:Nat):Int))+((l34_m61:Nat):Int))).toNat) 1).length))).trans (Ac []),rfl⟩
       refine Ag q42 ?_;refine Ai (bn_ (tn_ ?_));obtain rfl:=zj h;exact ⟨_,Ac [],rfl⟩
      rintro l38_m10 _ rfl h
      (try dsimp only at h);obtain ⟨g45,h⟩:=Am h;refine Aa 4 ?_;refine rs0 (ai ((l34_m61+1:Nat):Int)) (za g45) ?_;refine rsB 1 ?_;refine Aq (tn_ ?_);obtain rfl:=zj h;exact ⟨(l34_m61+1,l38_m10),_,Ac [],⟨l34_m61+1,l38_m10,rfl,rfl⟩,hn34⟩
     have q37_:=of_decide_eq_false q37;refine Ag q37 ?_;refine Au (te_ (te_ (be_ (tn_ ?_))));obtain rfl:=zj h;have h:=hn34
     (try dsimp only at h);obtain rfl:=zj h;exact ⟨_,Ac [],rfl⟩
    rintro l32_m10 _ rfl h
    (try dsimp only at h);obtain ⟨g46,h⟩:=Am h;refine Aa 7 ?_;refine rsB 2 ?_;refine Afp (.own (oi 80 4) (.slice .int) 0 1) (oi 80 4) (.vec 23 1 1 ([.own (oi 3 1) .int 0 l32_m10.length])) trivial (L7 (by kernel_rfl)) ?_;refine rs2 (.own (oi 1 5) (.slice .int) 0 (l8_m7.length+1)) (oi 1 1) (oi 1 5) (.vec 23 1 (l8_m7.length+1) (hdL (oi 2 1) .int l8_m7++[.own (oi 3 1) .int 0 l32_m10.length])) (Jf (u:=.int) (t':=.slice .int) (t2:=.slice .int) (o:=oi 1 1) (q:=oi 80 4) (e2:=23) (p:=oi 2 1) (xss:=l8_m7) (cs:=[.own (oi 3 1) .int 0 l32_m10.length]) (len:=l8_m7.length) (by kernel_rfl) (by kernel_rfl) rfl (by kernel_rfl) (by kernel_rfl) rfl g46) ?_;refine rsB 1 ?_;refine Aq (bn_ (tn_ ?_));obtain rfl:=zj h;exact ⟨_,(Fb (e1:=23) (e:=3) (u:=.int) (n:=l8_m7.length+1) (len:=l32_m10.length) (row:=l32_m10) (ys:=l32_m10) (xss:=l8_m7) 9000 (oi 1 5) (oi 2 1) (oi 3 1) (by kernel_rfl) (by kernel_rfl) rfl (by kernel_rfl) (by kernel_rfl) (Pf rfl) (Oo rfl) (by kernel_rfl) (by kernel_rfl) (by kernel_rfl)).trans ((A9 7 (.own (oi 1 5) (.slice .int) 0 (l8_m7.length+1)) (.own (oi 1 5) (.slice .int) 0 ((l8_m7++[l32_m10]).length)) (by kernel_rfl) (congrArg (fun z_=>((.own (oi 1 5) (.slice .int) 0 z_):AV)) ((by simp):l8_m7.length+1=(l8_m7++[l32_m10]).length))).trans (Ac [(oi 1 1,oi 1 5),(oi 2 1,oi 9000 7)])),rfl⟩
   rintro l12_m7 _ rfl h
   (try dsimp only at h);obtain ⟨g47,h⟩:=Am h;refine Aa 4 ?_;refine rs0 (ai ((l8_m26+1:Nat):Int)) (za g47) ?_;refine rsB 1 ?_;refine Aq (tn_ ?_);obtain rfl:=zj h;exact ⟨(l8_m26+1,l12_m7),_,Ac [],⟨l8_m26+1,l12_m7,rfl,rfl⟩,hn8⟩
  have q11_:=of_decide_eq_false q11;refine Ag q11 ?_;refine Au (te_ (te_ (be_ (tn_ ?_))));obtain rfl:=zj h;have h:=hn8
  (try dsimp only at h);obtain rfl:=zj h;exact ⟨_,Ac [(oi 0 1,oi 1 1),(oi 1 1,oi 2 1)],rfl⟩
 rintro l5_m7 _ rfl h
 (try dsimp only at h);refine An ?_;refine Ao ?_;obtain rfl:=zj h;exact Gk [.own (oi 0 1) (.slice .int) 0 l5_m7.length] (Ac (tl:=[(4,.own (oi 0 1) (.slice .int) 0 l5_m7.length)]) (g:=2) [])
end
end Go.Proofs.YtkaollfdhoaihaaDoor
