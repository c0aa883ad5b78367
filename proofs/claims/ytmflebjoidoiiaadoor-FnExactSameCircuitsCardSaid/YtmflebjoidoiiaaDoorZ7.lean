/- Lemmas on the program and on partial functions that stand in place of its code (part 7); no condition beyond those that each one states. -/
import Derived.Test.YtmflebjoidoiiaaDoorZ6
namespace Go.Proofs.YtmflebjoidoiiaaDoor
section
open Go.RowKit Go.Deep
set_option maxRecDepth 4000
def I7:AC :=
 (.seq (.seq (rg [xo 54 (qm (tm 9)),xo 55 (qf 1 (tm 5)),xo 56 (ql (tm 55)),xo 57 (qb .lss (tm 54) (tm 56))])
 (.cond (tm 57)
  .skip
  (.exit 2)))
 (.seq (.block 3 (.seq (.region [xo 61 (qm (tm 0)),xo 62 (.i (.ld false 3 (tm 3))),xo 63 (qf 0 (tm 5)),xo 64 (ql (tm 63)),xo 65 (.make 3 .int 8 (tm 64) (tm 64)),xo 66 (qf 1 (tm 5)),xo 67 (ql (tm 66)),xo 68 (qm (tm 9)),xo 69 (qc 59 [tm 67,tm 68] [[],[]]),⟨some 70,none,qc 58 [tm 61,tm 62,tm 65,tm 69] [[],[none,some T4,some .int],[some .int],[some .int]]⟩,xo 60 (qm (tm 70)),xo 71 (.i (.extr 0 (tm 60))),xo 72 (.i (.extr 1 (tm 60))),xo 10 (qm (tm 71)),xo 11 (qm (tm 72))] true [(1,8),(3,8),(4,8)])
 (.seq (.region [xo 73 (qf 4 (tm 5)),xo 74 (ql (tm 73)),xo 75 (qm (tm 10)),xo 76 (qc 41 [tm 75] [[some .int]]),xo 77 (.mkV 23 (.slice .int) 1 [tm 76]),xo 78 (.appV 23 (.slice .int) 24 (tm 74) (tm 77)),xo 79 (qf 4 (tm 5)),xn (qs (tm 79) (tm 78))] true [(1,3),(1,4)])
 (.region [xo 80 (qf 6 (tm 5)),xo 81 (ql (tm 80)),xo 82 (qm (tm 11)),xo 83 (qc 41 [tm 82] [[some .int]]),xo 84 (.mkV 23 (.slice .int) 1 [tm 83]),xo 85 (.appV 23 (.slice .int) 24 (tm 81) (tm 84)),xo 86 (qf 6 (tm 5)),xn (qs (tm 86) (tm 85))] true [(1,3),(1,4)]))))
 (rg [xo 58 (qm (tm 9)),xo 59 (qb .add (tm 58) (ci 1)),xo 9 (qm (tm 59))])))
def I9:AC :=
 (.seq (.seq (rg [xo 21 (qm (tm 6)),xo 22 (qf 0 (tm 5)),xo 23 (ql (tm 22)),xo 24 (qb .lss (tm 21) (tm 23))])
 (.cond (tm 24)
  .skip
  (.exit 0)))
 (.seq (.block 1 (.seq (.region [xo 28 (qm (tm 0)),xo 29 (.i (.ld false 3 (tm 3))),xo 30 (qf 0 (tm 5)),xo 31 (ql (tm 30)),xo 32 (qm (tm 6)),xo 33 (qc 59 [tm 31,tm 32] [[],[]]),xo 34 (qf 1 (tm 5)),xo 35 (ql (tm 34)),xo 36 (.make 3 .int 8 (tm 35) (tm 35)),⟨some 37,none,qc 58 [tm 28,tm 29,tm 33,tm 36] [[],[none,some T4,some .int],[some .int],[some .int]]⟩,xo 27 (qm (tm 37)),xo 38 (.i (.extr 0 (tm 27))),xo 39 (.i (.extr 1 (tm 27))),xo 7 (qm (tm 38)),xo 8 (qm (tm 39))] true [(1,5),(5,7),(5,8)])
 (.seq (.region [xo 40 (qf 3 (tm 5)),xo 41 (ql (tm 40)),xo 42 (qm (tm 7)),xo 43 (qc 41 [tm 42] [[some .int]]),xo 44 (.mkV 23 (.slice .int) 1 [tm 43]),xo 45 (.appV 23 (.slice .int) 24 (tm 41) (tm 44)),xo 46 (qf 3 (tm 5)),xn (qs (tm 46) (tm 45))] true [(1,3),(1,4)])
 (.region [xo 47 (qf 5 (tm 5)),xo 48 (ql (tm 47)),xo 49 (qm (tm 8)),xo 50 (qc 41 [tm 49] [[some .int]]),xo 51 (.mkV 23 (.slice .int) 1 [tm 50]),xo 52 (.appV 23 (.slice .int) 24 (tm 48) (tm 51)),xo 53 (qf 5 (tm 5)),xn (qs (tm 53) (tm 52))] true [(1,3),(1,4)]))))
 (rg [xo 25 (qm (tm 6)),xo 26 (qb .add (tm 25) (ci 1)),xo 6 (qm (tm 26))])))
def Ln:AC :=
 (.seq (rg [xo 3 (.i (.box 31 (tm 1))),xo 4 (.i (.alloc 41 [.int .i64 0,.int .i64 0,.int .i64 0,.nils,.nils,.nils,.nils]))])
 (.seq (.region [xo 12 (.i (.ld false 3 (tm 3))),⟨some 13,none,qc 38 [tm 12] [[none,some T4,some .int]]⟩,xo 14 (.i (.len (tm 13))),xo 15 (qf 0 (tm 3)),xo 16 (ql (tm 15)),xo 17 (qf 2 (tm 3)),xo 18 (ql (tm 17)),xo 19 (.i (.len (tm 18))),xo 20 (.build [.int .i64 0,.int .i64 0,.int .i64 0,.nils,.nils,.nils,.nils] [(0,1,tm 14),(1,1,tm 16),(2,1,tm 19)]),xo 5 (.i (.alloc 41 [.int .i64 0,.int .i64 0,.int .i64 0,.nils,.nils,.nils,.nils])),xn (.st false 7 (tm 5) (tm 20))] true [(1,4),(1,6),(1,9)])
 (.seq (.seq (rg [xo 6 (qm (ci 0))])
 (.block 0 (.loop I9)))
 (.seq (.seq (rg [xo 9 (qm (ci 0))])
 (.block 2 (.loop I7)))
 (.seq (rg [xo 87 (.i (.ld false 7 (tm 5))),xn (.st false 7 (tm 4) (tm 87))])
 .ret)))))
def S4:List Res:=[.cell 4 false 7]
theorem Sz:Aq Tryd.prog Tryd.f39=some (Ln,S4):=by kernel_rfl
theorem Ri:Ba Tryd.prog 39=true:=by kernel_rfl
def C8 (y3:List Int) (a1_0:Int) (a0:Int) (a1_1:List (Int×Int×Int×Int)) (a1_2:List Int) (l6_m6:Nat) (l6_m5_3:List (List Int)) (l6_m5_5:List (List Int)):Option (Ctl (Nat×List (List Int)×List (List Int)) (List (List Int)×List (List Int))) :=
 cond (decide (((l6_m6:Nat):Int)<((y3.length:Nat):Int)))
 (Option.bind (D2 ((y3.length:Nat):Int) ((l6_m6:Nat):Int)) fun y12 =>
 og (0<=a1_0∧a1_0<=a1_0∧a1_0<=1073741824∧(8:Int)*a1_0<=140737488355328) <|
 Option.bind (Ge a0 a1_0 a1_1 a1_2 y12 (List.replicate a1_0.toNat (0:Int))) fun y14 =>
 Option.bind (D1 y14.1) fun y16 =>
 og (l6_m5_3.length+1<=1073741824∧(l6_m5_3.length+1)*24<=140737488355328) <|
 Option.bind (D1 y14.2) fun y18 =>
 og (l6_m5_5.length+1<=1073741824∧(l6_m5_5.length+1)*24<=140737488355328) <|
 og (l6_m6+1<4611686018427387904) <|
 some (Ctl.next (l6_m6+1,l6_m5_3++[y16],l6_m5_5++[y18])))
 (some (Ctl.out (l6_m5_3,l6_m5_5)))
def Da (a1_0:Int) (y3:List Int) (a0:Int) (a1_1:List (Int×Int×Int×Int)) (a1_2:List Int) (l23_m9:Nat) (l23_m5_4:List (List Int)) (l23_m5_6:List (List Int)):Option (Ctl (Nat×List (List Int)×List (List Int)) (List (List Int)×List (List Int))) :=
 cond (decide (((l23_m9:Nat):Int)<a1_0))
 (og (0<=((y3.length:Nat):Int)∧((y3.length:Nat):Int)<=((y3.length:Nat):Int)∧((y3.length:Nat):Int)<=1073741824∧(8:Int)*((y3.length:Nat):Int)<=140737488355328) <|
 Option.bind (D2 a1_0 ((l23_m9:Nat):Int)) fun y30 =>
 Option.bind (Ge a0 a1_0 a1_1 a1_2 (List.replicate y3.length (0:Int)) y30) fun y31 =>
 Option.bind (D1 y31.1) fun y33 =>
 og (l23_m5_4.length+1<=1073741824∧(l23_m5_4.length+1)*24<=140737488355328) <|
 Option.bind (D1 y31.2) fun y35 =>
 og (l23_m5_6.length+1<=1073741824∧(l23_m5_6.length+1)*24<=140737488355328) <|
 og (l23_m9+1<4611686018427387904) <|
 some (Ctl.next (l23_m9+1,l23_m5_4++[y33],l23_m5_6++[y35])))
 (some (Ctl.out (l23_m5_4,l23_m5_6)))
def Fs (a0:Int) (a1_0:Int) (a1_1:List (Int×Int×Int×Int)) (a1_2:List Int):Option (Int×Int×Int×List (List Int)×List (List Int)×List (List Int)×List (List Int)) :=
 Option.bind (C0 a1_0 a1_1 a1_2) fun y3 =>
Option.bind (A3 (fun s_:Nat×List (List Int)×List (List Int)=>C8 y3 a1_0 a0 a1_1 a1_2 s_.1 s_.2.1 s_.2.2) 4611686018427387904 (0,([]:List (List Int)),([]:List (List Int)))) fun (l4_m5_3,l4_m5_5) =>
Option.bind (A3 (fun s_:Nat×List (List Int)×List (List Int)=>Da a1_0 y3 a0 a1_1 a1_2 s_.1 s_.2.1 s_.2.2) 4611686018427387904 (0,([]:List (List Int)),([]:List (List Int)))) fun (l21_m5_4,l21_m5_6) =>
some (((y3.length:Nat):Int),a1_0,((a1_2.length:Nat):Int),l4_m5_3,l21_m5_4,l4_m5_5,l21_m5_6)
def Rb (r:Int×Int×Int×List (List Int)×List (List Int)×List (List Int)×List (List Int)):RV:=⟨false,[(true,[.sc (.int .i64 r.1),.sc (.int .i64 r.2.1),.sc (.int .i64 r.2.2.1),.frz (.tree (.slice .int) r.2.2.2.1),.frz (.tree (.slice .int) r.2.2.2.2.1),.frz (.tree (.slice .int) r.2.2.2.2.2.1),.frz (.tree (.slice .int) r.2.2.2.2.2.2)])]⟩
theorem Rg {a0:Int} {a1_0:Int} {a1_1:List (Int×Int×Int×Int)} {a1_2:List Int} {r:Int×Int×Int×List (List Int)×List (List Int)×List (List Int)×List (List Int)} (h:Fs a0 a1_0 a1_1 a1_2=some r):A1 Tryd.prog Tab 39 [ai a0,.agg [ai a1_0,.tree T4 a1_1,.tree .int a1_2]] (Rb r):=by
 refine Gr (by kernel_rfl) Tryd.func39 Sz (n:=88) (by kernel_rfl) (by simp) (tl:=[(0,ai a0),(1,.agg [ai a1_0,.tree T4 a1_1,.tree .int a1_2])]) rfl fun nz_=>?_
 unfold Ln;unfold Fs at h;refine Al ?_;refine Ab ?_;obtain ⟨y3,h3,h⟩:=Ae h;refine Az 14 ?_;refine dzl (.agg [ai a1_0,.tree T4 a1_1,.tree .int a1_2]) ?_;refine Cp (.own (oi 208 4) .int 0 y3.length) [(oi 208 4,some (.arr 3 .int y3))] [.agg [ai a1_0,.tree T4 a1_1,.tree .int a1_2]] _ (caps:=[]) (args0:=[.agg [ai a1_0,.tree T4 a1_1,.tree .int a1_2]]) trivial (by kernel_rfl) (F7 (G1 h3)) Nk ?_;refine dz0 (ai ((y3.length:Nat):Int)) ?_;refine dz0 (.box (oi 3 1) 0) ?_;refine dzl (ai a1_0) ?_;refine dz0 (.box (oi 3 1) 2) ?_;refine dzl (.tree .int a1_2) ?_;refine dz0 (ai ((a1_2.length:Nat):Int)) ?_;refine dz0 (.agg [ai ((y3.length:Nat):Int),ai a1_0,ai ((a1_2.length:Nat):Int),.nils,.nils,.nils,.nils]) ?_;refine ds1 (.box (oi 5 12) 0) (oi 5 12) (.cells 41 [ai 0,ai 0,ai 0,.nils,.nils,.nils,.nils]) (by kernel_rfl) ?_;refine Kn (oi 5 12) (oi 5 12) (.cells 41 [ai ((y3.length:Nat):Int),ai a1_0,ai ((a1_2.length:Nat):Int),.nils,.nils,.nils,.nils]) (by kernel_rfl) ?_;refine Gg (Bg (by kernel_rfl)) (tn_ ?_);refine wr_ ?_;refine At h (fun t_ S_=>∃ (l4_m5_3:List (List Int)),∃ (l4_m5_5:List (List Int)),t_=(l4_m5_3,l4_m5_5)∧S_=⟨Am [(0,ai a0),(3,.box (oi 0 1) 0),(4,.box (oi 1 1) 0),(5,.box (oi 2 1) 0)],Ak (Ao [(oi 0 1,.cells 31 [ai a1_0,.tree T4 a1_1,.tree .int a1_2]),(oi 1 1,.cells 41 [ai 0,ai 0,ai 0,.nils,.nils,.nils,.nils]),(oi 2 1,.cells 41 [ai ((y3.length:Nat):Int),ai a1_0,ai ((a1_2.length:Nat):Int),.own (oi 3 1) (.slice .int) 0 l4_m5_3.length,.nils,.own (oi 5 1) (.slice .int) 0 l4_m5_5.length,.nils]),(oi 3 1,.mat 23 (oi 4 1) .int l4_m5_3),(oi 4 1,.pool 3 .int l4_m5_3),(oi 5 1,.mat 23 (oi 6 1) .int l4_m5_5),(oi 6 1,.pool 3 .int l4_m5_5)]),2⟩) ?_ ?_
 ·intro v_ h;refine Al ?_;refine Ai ?_;refine A4 h (fun t_ S_=>∃ (l6_m6:Nat),∃ (l6_m5_3:List (List Int)),∃ (l6_m5_5:List (List Int)),t_=(l6_m6,l6_m5_3,l6_m5_5)∧S_=⟨Am [(0,ai a0),(3,.box (oi 0 1) 0),(4,.box (oi 1 1) 0),(5,.box (oi 2 1) 0),(6,ai ((l6_m6:Nat):Int))],Ak (Ao [(oi 0 1,.cells 31 [ai a1_0,.tree T4 a1_1,.tree .int a1_2]),(oi 1 1,.cells 41 [ai 0,ai 0,ai 0,.nils,.nils,.nils,.nils]),(oi 2 1,.cells 41 [ai ((y3.length:Nat):Int),ai a1_0,ai ((a1_2.length:Nat):Int),.own (oi 3 1) (.slice .int) 0 l6_m5_3.length,.nils,.own (oi 5 1) (.slice .int) 0 l6_m5_5.length,.nils]),(oi 3 1,.mat 23 (oi 4 1) .int l6_m5_3),(oi 4 1,.pool 3 .int l6_m5_3),(oi 5 1,.mat 23 (oi 6 1) .int l6_m5_5),(oi 6 1,.pool 3 .int l6_m5_5)]),2⟩) ⟨_,(Cz 9000 (oi 5 12) 3 41 [ai ((y3.length:Nat):Int),ai a1_0,ai ((a1_2.length:Nat):Int),.nils,.nils,.nils,.nils] [ai ((y3.length:Nat):Int),ai a1_0,ai ((a1_2.length:Nat):Int),.own (oi 9000 15) (.slice .int) 0 0,.nils,.nils,.nils] 23 (.slice .int) (by kernel_rfl) (by kernel_rfl) (by kernel_rfl)).trans ((Ea (e1:=23) (n:=0) 9000 (oi 9000 15) 3 .int (by kernel_rfl) (by kernel_rfl) rfl (by kernel_rfl) (by kernel_rfl)).trans ((Cz 9002 (oi 5 12) 5 41 [ai ((y3.length:Nat):Int),ai a1_0,ai ((a1_2.length:Nat):Int),.own (oi 9000 15) (.slice .int) 0 0,.nils,.nils,.nils] [ai ((y3.length:Nat):Int),ai a1_0,ai ((a1_2.length:Nat):Int),.own (oi 9000 15) (.slice .int) 0 0,.nils,.own (oi 9002 17) (.slice .int) 0 0,.nils] 23 (.slice .int) (by kernel_rfl) (by kernel_rfl) (by kernel_rfl)).trans ((Ea (e1:=23) (n:=0) 9000 (oi 9002 17) 3 .int (by kernel_rfl) (by kernel_rfl) rfl (by kernel_rfl) (by kernel_rfl)).trans (Ac [(oi 0 1,oi 3 1),(oi 1 1,oi 4 2),(oi 2 1,oi 5 12),(oi 3 1,oi 9000 15),(oi 4 1,oi 9000 16),(oi 5 1,oi 9002 17),(oi 6 1,oi 9000 18)])))),⟨0,([]:List (List Int)),([]:List (List Int)),rfl,rfl⟩⟩ ?_;rintro n_ _ _ c_ ⟨l6_m6,l6_m5_3,l6_m5_5,rfl,rfl⟩ h hn6
  (try dsimp only at h);unfold C8 at h;unfold I9;refine Ab ?_;refine Al ?_;rcases Ad h with ⟨q9,h⟩ | ⟨q9,h⟩
  ·have q9_:=of_decide_eq_true q9;refine Ag q9 ?_;refine Aj (tn_ ?_);refine wr_ ?_;refine Ab ?_;refine Ai ?_;refine Ab ?_;obtain ⟨y12,h12,h⟩:=Ae h;obtain ⟨g13,h⟩:=As h;obtain ⟨y14,h14,h⟩:=Ae h;refine Az 21 ?_;refine dz0 (ai a0) ?_;refine dzl (.agg [ai a1_0,.tree T4 a1_1,.tree .int a1_2]) ?_;refine dz0 (.box (oi 2 1) 0) ?_;refine dzl (ai ((y3.length:Nat):Int)) ?_;refine dz0 (ai ((l6_m6:Nat):Int)) ?_;refine Cp (.own (oi 528 11) .int 0 y12.length) [(oi 528 11,some (.arr 3 .int y12))] [ai ((y3.length:Nat):Int),ai ((l6_m6:Nat):Int)] _ (caps:=[]) (args0:=[ai ((y3.length:Nat):Int),ai ((l6_m6:Nat):Int)]) trivial (by kernel_rfl) (F7 (Qd h12)) P1 ?_;refine dz0 (.box (oi 2 1) 1) ?_;refine dzl (ai a1_0) ?_;refine ds1 (.own (oi 36 14) .int 0 a1_0.toNat) (oi 36 14) (.arr 3 .int (List.replicate a1_0.toNat (0:Int))) (Mk (t:=.int) (k:=.i64) (k':=.i64) (m:=a1_0) (m':=a1_0) (by kernel_rfl) (by kernel_rfl) g13 rfl) ?_;refine Cp (.tup [.own (oi 592 15) .int 0 y14.1.length,.own (oi 593 15) .int 0 y14.2.length]) [(oi 592 15,some (.arr 3 .int y14.1)),(oi 593 15,some (.arr 3 .int y14.2))] [ai a0,.agg [ai a1_0,.tree T4 a1_1,.tree .int a1_2],.own (oi 528 11) .int 0 y12.length,.own (oi 36 14) .int 0 a1_0.toNat] _ (caps:=[]) (args0:=[ai a0,.agg [ai a1_0,.tree T4 a1_1,.tree .int a1_2],.tree .int y12,.tree .int (List.replicate a1_0.toNat (0:Int))]) trivial (A2 (by kernel_rfl) (A2 (by kernel_rfl) (A2 (B6 (e:=3) (by kernel_rfl) rfl) (A2 (B6 (e:=3) (by kernel_rfl) List.length_replicate.symm) C5)))) (F7 (P4 h14)) Qp ?_;refine dz0 (.tup [.own (oi 592 15) .int 0 y14.1.length,.own (oi 593 15) .int 0 y14.2.length]) ?_;refine dz0 (.own (oi 592 15) .int 0 y14.1.length) ?_;refine dz0 (.own (oi 593 15) .int 0 y14.2.length) ?_;refine dz0 (.own (oi 592 15) .int 0 y14.1.length) ?_;refine dz0 (.own (oi 593 15) .int 0 y14.2.length) ?_;refine Gg (Bg (by kernel_rfl)) (tn_ ?_);refine wr_ ?_;refine Ab ?_;obtain ⟨y16,h16,h⟩:=Ae h;obtain ⟨g17,h⟩:=As h;refine Az 29 ?_;refine dz0 (.box (oi 2 1) 3) ?_;refine dzl (.own (oi 3 1) (.slice .int) 0 l6_m5_3.length) ?_;refine dz0 (.own (oi 592 15) .int 0 y14.1.length) ?_;refine Cp (.own (oi 688 24) .int 0 y16.length) [(oi 688 24,some (.arr 3 .int y16))] [.own (oi 592 15) .int 0 y14.1.length] _ (caps:=[]) (args0:=[.tree .int y14.1]) trivial (A2 (B6 (e:=3) (by kernel_rfl) rfl) C5) (F7 (Hp h16)) Hg ?_;refine W0 (.own (oi 44 25) (.slice .int) 0 1) (oi 44 25) (.vec 23 1 1 ([.own (oi 688 24) .int 0 y16.length])) trivial (Ja (by kernel_rfl)) ?_;refine ds2 (.own (oi 3 26) (.slice .int) 0 (l6_m5_3.length+1)) (oi 3 1) (oi 3 26) (.vec 23 1 (l6_m5_3.length+1) (hdL (oi 4 1) .int l6_m5_3++[.own (oi 688 24) .int 0 y16.length])) (H1 (u:=.int) (t':=.slice .int) (t2:=.slice .int) (o:=oi 3 1) (q:=oi 44 25) (e2:=23) (p:=oi 4 1) (xss:=l6_m5_3) (cs:=[.own (oi 688 24) .int 0 y16.length]) (len:=l6_m5_3.length) (by kernel_rfl) (by kernel_rfl) rfl (by kernel_rfl) (by kernel_rfl) rfl g17) ?_;refine dz0 (.box (oi 2 1) 3) ?_;refine Kn (oi 2 1) (oi 2 1) (.cells 41 [ai ((y3.length:Nat):Int),ai a1_0,ai ((a1_2.length:Nat):Int),.own (oi 3 26) (.slice .int) 0 (l6_m5_3.length+1),.nils,.own (oi 5 1) (.slice .int) 0 l6_m5_5.length,.nils]) (by kernel_rfl) ?_;refine Gg (Bg (by kernel_rfl)) (tn_ ?_);refine ⟨_,En (e1:=23) (e:=3) (u:=.int) (n:=l6_m5_3.length+1) (len:=y16.length) (row:=y16) (ys:=y16) (xss:=l6_m5_3) 9000 (oi 3 26) (oi 4 1) (oi 688 24) (by kernel_rfl) (by kernel_rfl) rfl (by kernel_rfl) (by kernel_rfl) (Ol rfl) (Ow rfl) (by kernel_rfl) (by kernel_rfl) (by kernel_rfl),?_⟩;obtain ⟨y18,h18,h⟩:=Ae h;obtain ⟨g19,h⟩:=As h;refine Az 38 ?_;refine dz0 (.box (oi 2 1) 5) ?_;refine dzl (.own (oi 5 1) (.slice .int) 0 l6_m5_5.length) ?_;refine dz0 (.own (oi 593 15) .int 0 y14.2.length) ?_;refine Cp (.own (oi 800 33) .int 0 y18.length) [(oi 800 33,some (.arr 3 .int y18))] [.own (oi 593 15) .int 0 y14.2.length] _ (caps:=[]) (args0:=[.tree .int y14.2]) trivial (A2 (B6 (e:=3) (by kernel_rfl) rfl) C5) (F7 (Hp h18)) Hg ?_;refine W0 (.own (oi 51 34) (.slice .int) 0 1) (oi 51 34) (.vec 23 1 1 ([.own (oi 800 33) .int 0 y18.length])) trivial (Ja (by kernel_rfl)) ?_;refine ds2 (.own (oi 5 35) (.slice .int) 0 (l6_m5_5.length+1)) (oi 5 1) (oi 5 35) (.vec 23 1 (l6_m5_5.length+1) (hdL (oi 6 1) .int l6_m5_5++[.own (oi 800 33) .int 0 y18.length])) (H1 (u:=.int) (t':=.slice .int) (t2:=.slice .int) (o:=oi 5 1) (q:=oi 51 34) (e2:=23) (p:=oi 6 1) (xss:=l6_m5_5) (cs:=[.own (oi 800 33) .int 0 y18.length]) (len:=l6_m5_5.length) (by kernel_rfl) (by kernel_rfl) rfl (by kernel_rfl) (by kernel_rfl) rfl g19) ?_;refine dz0 (.box (oi 2 1) 5) ?_;refine Kn (oi 2 1) (oi 2 1) (.cells 41 [ai ((y3.length:Nat):Int),ai a1_0,ai ((a1_2.length:Nat):Int),.own (oi 3 26) (.slice .int) 0 (l6_m5_3.length+1),.nils,.own (oi 5 35) (.slice .int) 0 (l6_m5_5.length+1),.nils]) (by kernel_rfl) ?_;refine Gg (Bg (by kernel_rfl)) (bn_ (tn_ ?_));refine ⟨_,En (e1:=23) (e:=3) (u:=.int) (n:=l6_m5_5.length+1) (len:=y18.length) (row:=y18) (ys:=y18) (xss:=l6_m5_5) 9000 (oi 5 35) (oi 6 1) (oi 800 33) (by kernel_rfl) (by kernel_rfl) rfl (by kernel_rfl) (by kernel_rfl) (Ol rfl) (Ow rfl) (by kernel_rfl) (by kernel_rfl) (by kernel_rfl),?_⟩;obtain ⟨g20,h⟩:=As h;refine Aa 42 ?_;refine rz0 (ai ((l6_m6:Nat):Int)) ?_;refine rs0 (ai ((l6_m6+1:Nat):Int)) (za g20) ?_;refine rsB 1 ?_;refine Ap (tn_ ?_);obtain rfl:=zj h;exact ⟨(l6_m6+1,l6_m5_3++[y16],l6_m5_5++[y18]),_,(Jy (oi 2 1) (.cells 41 [ai ((y3.length:Nat):Int),ai a1_0,ai ((a1_2.length:Nat):Int),.own (oi 3 26) (.slice .int) 0 (l6_m5_3.length+1),.nils,.own (oi 5 35) (.slice .int) 0 (l6_m5_5.length+1),.nils]) (.cells 41 [ai ((y3.length:Nat):Int),ai a1_0,ai ((a1_2.length:Nat):Int),.own (oi 3 26) (.slice .int) 0 ((l6_m5_3++[y16]).length),.nils,.own (oi 5 35) (.slice .int) 0 (l6_m5_5.length+1),.nils]) (by kernel_rfl) (congrArg (fun z_=>(.cells 41 [ai ((y3.length:Nat):Int),ai a1_0,ai ((a1_2.length:Nat):Int),.own (oi 3 26) (.slice .int) 0 z_,.nils,.own (oi 5 35) (.slice .int) 0 (l6_m5_5.length+1),.nils]:Ob)) ((by simp):l6_m5_3.length+1=(l6_m5_3++[y16]).length))).trans ((Jy (oi 2 1) (.cells 41 [ai ((y3.length:Nat):Int),ai a1_0,ai ((a1_2.length:Nat):Int),.own (oi 3 26) (.slice .int) 0 ((l6_m5_3++[y16]).length),.nils,.own (oi 5 35) (.slice .int) 0 (l6_m5_5.length+1),.nils]) (.cells 41 [ai ((y3.length:Nat):Int),ai a1_0,ai ((a1_2.length:Nat):Int),.own (oi 3 26) (.slice .int) 0 ((l6_m5_3++[y16]).length),.nils,.own (oi 5 35) (.slice .int) 0 ((l6_m5_5++[y18]).length),.nils]) (by kernel_rfl) (congrArg (fun z_=>(.cells 41 [ai ((y3.length:Nat):Int),ai a1_0,ai ((a1_2.length:Nat):Int),.own (oi 3 26) (.slice .int) 0 ((l6_m5_3++[y16]).length),.nils,.own (oi 5 35) (.slice .int) 0 z_,.nils]:Ob)) ((by simp):l6_m5_5.length+1=(l6_m5_5++[y18]).length))).trans (Ac [(oi 3 1,oi 3 26),(oi 4 1,oi 9000 29),(oi 5 1,oi 5 35),(oi 6 1,oi 9000 38)])),⟨l6_m6+1,l6_m5_3++[y16],l6_m5_5++[y18],rfl,rfl⟩,hn6⟩
  have q9_:=of_decide_eq_false q9;refine Af q9 ?_;refine A0 (te_ (te_ (be_ (tn_ ?_))));obtain rfl:=zj h;have h:=hn6
  (try dsimp only at h);obtain rfl:=zj h;exact ⟨_,Ac [],⟨l6_m5_3,l6_m5_5,rfl,rfl⟩⟩
 rintro _ _ ⟨l4_m5_3,l4_m5_5,rfl,rfl⟩ h
 (try dsimp only at h);refine At h (fun t_ S_=>∃ (l21_m5_4:List (List Int)),∃ (l21_m5_6:List (List Int)),t_=(l21_m5_4,l21_m5_6)∧S_=⟨Am [(4,.box (oi 0 1) 0),(5,.box (oi 1 1) 0)],Ak (Ao [(oi 0 1,.cells 41 [ai 0,ai 0,ai 0,.nils,.nils,.nils,.nils]),(oi 1 1,.cells 41 [ai ((y3.length:Nat):Int),ai a1_0,ai ((a1_2.length:Nat):Int),.own (oi 2 1) (.slice .int) 0 l4_m5_3.length,.own (oi 4 1) (.slice .int) 0 l21_m5_4.length,.own (oi 6 1) (.slice .int) 0 l4_m5_5.length,.own (oi 8 1) (.slice .int) 0 l21_m5_6.length]),(oi 2 1,.mat 23 (oi 3 1) .int l4_m5_3),(oi 3 1,.pool 3 .int l4_m5_3),(oi 4 1,.mat 23 (oi 5 1) .int l21_m5_4),(oi 5 1,.pool 3 .int l21_m5_4),(oi 6 1,.mat 23 (oi 7 1) .int l4_m5_5),(oi 7 1,.pool 3 .int l4_m5_5),(oi 8 1,.mat 23 (oi 9 1) .int l21_m5_6),(oi 9 1,.pool 3 .int l21_m5_6)]),2⟩) ?_ ?_
 ·intro v_ h;refine Al ?_;refine Ai ?_;refine A4 h (fun t_ S_=>∃ (l23_m9:Nat),∃ (l23_m5_4:List (List Int)),∃ (l23_m5_6:List (List Int)),t_=(l23_m9,l23_m5_4,l23_m5_6)∧S_=⟨Am [(0,ai a0),(3,.box (oi 0 1) 0),(4,.box (oi 1 1) 0),(5,.box (oi 2 1) 0),(9,ai ((l23_m9:Nat):Int))],Ak (Ao [(oi 0 1,.cells 31 [ai a1_0,.tree T4 a1_1,.tree .int a1_2]),(oi 1 1,.cells 41 [ai 0,ai 0,ai 0,.nils,.nils,.nils,.nils]),(oi 2 1,.cells 41 [ai ((y3.length:Nat):Int),ai a1_0,ai ((a1_2.length:Nat):Int),.own (oi 3 1) (.slice .int) 0 l4_m5_3.length,.own (oi 5 1) (.slice .int) 0 l23_m5_4.length,.own (oi 7 1) (.slice .int) 0 l4_m5_5.length,.own (oi 9 1) (.slice .int) 0 l23_m5_6.length]),(oi 3 1,.mat 23 (oi 4 1) .int l4_m5_3),(oi 4 1,.pool 3 .int l4_m5_3),(oi 5 1,.mat 23 (oi 6 1) .int l23_m5_4),(oi 6 1,.pool 3 .int l23_m5_4),(oi 7 1,.mat 23 (oi 8 1) .int l4_m5_5),(oi 8 1,.pool 3 .int l4_m5_5),(oi 9 1,.mat 23 (oi 10 1) .int l23_m5_6),(oi 10 1,.pool 3 .int l23_m5_6)]),2⟩) ⟨_,(Cz 9000 (oi 2 1) 4 41 [ai ((y3.length:Nat):Int),ai a1_0,ai ((a1_2.length:Nat):Int),.own (oi 3 1) (.slice .int) 0 l4_m5_3.length,.nils,.own (oi 5 1) (.slice .int) 0 l4_m5_5.length,.nils] [ai ((y3.length:Nat):Int),ai a1_0,ai ((a1_2.length:Nat):Int),.own (oi 3 1) (.slice .int) 0 l4_m5_3.length,.own (oi 9000 3) (.slice .int) 0 0,.own (oi 5 1) (.slice .int) 0 l4_m5_5.length,.nils] 23 (.slice .int) (by kernel_rfl) (by kernel_rfl) (by kernel_rfl)).trans ((Ea (e1:=23) (n:=0) 9000 (oi 9000 3) 3 .int (by kernel_rfl) (by kernel_rfl) rfl (by kernel_rfl) (by kernel_rfl)).trans ((Cz 9002 (oi 2 1) 6 41 [ai ((y3.length:Nat):Int),ai a1_0,ai ((a1_2.length:Nat):Int),.own (oi 3 1) (.slice .int) 0 l4_m5_3.length,.own (oi 9000 3) (.slice .int) 0 0,.own (oi 5 1) (.slice .int) 0 l4_m5_5.length,.nils] [ai ((y3.length:Nat):Int),ai a1_0,ai ((a1_2.length:Nat):Int),.own (oi 3 1) (.slice .int) 0 l4_m5_3.length,.own (oi 9000 3) (.slice .int) 0 0,.own (oi 5 1) (.slice .int) 0 l4_m5_5.length,.own (oi 9002 5) (.slice .int) 0 0] 23 (.slice .int) (by kernel_rfl) (by kernel_rfl) (by kernel_rfl)).trans ((Ea (e1:=23) (n:=0) 9000 (oi 9002 5) 3 .int (by kernel_rfl) (by kernel_rfl) rfl (by kernel_rfl) (by kernel_rfl)).trans (Ac [(oi 5 1,oi 9000 3),(oi 6 1,oi 9000 4),(oi 7 1,oi 5 1),(oi 8 1,oi 6 1),(oi 9 1,oi 9002 5),(oi 10 1,oi 9000 6)])))),⟨0,([]:List (List Int)),([]:List (List Int)),rfl,rfl⟩⟩ ?_;rintro n_ _ _ c_ ⟨l23_m9,l23_m5_4,l23_m5_6,rfl,rfl⟩ h hn23
  (try dsimp only at h);unfold Da at h;unfold I7;refine Ab ?_;refine Al ?_;rcases Ad h with ⟨q26,h⟩ | ⟨q26,h⟩
  ·have q26_:=of_decide_eq_true q26;refine Ag q26 ?_;refine Aj (tn_ ?_);refine wr_ ?_;refine Ab ?_;refine Ai ?_;refine Ab ?_;obtain ⟨g29,h⟩:=As h;obtain ⟨y30,h30,h⟩:=Ae h;obtain ⟨y31,h31,h⟩:=Ae h;refine Az 21 ?_;refine dz0 (ai a0) ?_;refine dzl (.agg [ai a1_0,.tree T4 a1_1,.tree .int a1_2]) ?_;refine dz0 (.box (oi 2 1) 0) ?_;refine dzl (ai ((y3.length:Nat):Int)) ?_;refine ds1 (.own (oi 65 10) .int 0 y3.length) (oi 65 10) (.arr 3 .int (List.replicate y3.length (0:Int))) (Mk (t:=.int) (k:=.i64) (k':=.i64) (m:=((y3.length:Nat):Int)) (m':=((y3.length:Nat):Int)) (by kernel_rfl) (by kernel_rfl) g29 rfl) ?_;refine dz0 (.box (oi 2 1) 1) ?_;refine dzl (ai a1_0) ?_;refine dz0 (ai ((l23_m9:Nat):Int)) ?_;refine Cp (.own (oi 1104 14) .int 0 y30.length) [(oi 1104 14,some (.arr 3 .int y30))] [ai a1_0,ai ((l23_m9:Nat):Int)] _ (caps:=[]) (args0:=[ai a1_0,ai ((l23_m9:Nat):Int)]) trivial (by kernel_rfl) (F7 (Qd h30)) P1 ?_;refine Cp (.tup [.own (oi 1120 15) .int 0 y31.1.length,.own (oi 1121 15) .int 0 y31.2.length]) [(oi 1120 15,some (.arr 3 .int y31.1)),(oi 1121 15,some (.arr 3 .int y31.2))] [ai a0,.agg [ai a1_0,.tree T4 a1_1,.tree .int a1_2],.own (oi 65 10) .int 0 y3.length,.own (oi 1104 14) .int 0 y30.length] _ (caps:=[]) (args0:=[ai a0,.agg [ai a1_0,.tree T4 a1_1,.tree .int a1_2],.tree .int (List.replicate y3.length (0:Int)),.tree .int y30]) trivial (A2 (by kernel_rfl) (A2 (by kernel_rfl) (A2 (B6 (e:=3) (by kernel_rfl) List.length_replicate.symm) (A2 (B6 (e:=3) (by kernel_rfl) rfl) C5)))) (F7 (P4 h31)) Qp ?_;refine dz0 (.tup [.own (oi 1120 15) .int 0 y31.1.length,.own (oi 1121 15) .int 0 y31.2.length]) ?_;refine dz0 (.own (oi 1120 15) .int 0 y31.1.length) ?_;refine dz0 (.own (oi 1121 15) .int 0 y31.2.length) ?_;refine dz0 (.own (oi 1120 15) .int 0 y31.1.length) ?_;refine dz0 (.own (oi 1121 15) .int 0 y31.2.length) ?_;refine Gg (Bg (by kernel_rfl)) (tn_ ?_);refine wr_ ?_;refine Ab ?_;obtain ⟨y33,h33,h⟩:=Ae h;obtain ⟨g34,h⟩:=As h;refine Az 29 ?_;refine dz0 (.box (oi 2 1) 4) ?_;refine dzl (.own (oi 5 1) (.slice .int) 0 l23_m5_4.length) ?_;refine dz0 (.own (oi 1120 15) .int 0 y31.1.length) ?_;refine Cp (.own (oi 1216 24) .int 0 y33.length) [(oi 1216 24,some (.arr 3 .int y33))] [.own (oi 1120 15) .int 0 y31.1.length] _ (caps:=[]) (args0:=[.tree .int y31.1]) trivial (A2 (B6 (e:=3) (by kernel_rfl) rfl) C5) (F7 (Hp h33)) Hg ?_;refine W0 (.own (oi 77 25) (.slice .int) 0 1) (oi 77 25) (.vec 23 1 1 ([.own (oi 1216 24) .int 0 y33.length])) trivial (Ja (by kernel_rfl)) ?_;refine ds2 (.own (oi 5 26) (.slice .int) 0 (l23_m5_4.length+1)) (oi 5 1) (oi 5 26) (.vec 23 1 (l23_m5_4.length+1) (hdL (oi 6 1) .int l23_m5_4++[.own (oi 1216 24) .int 0 y33.length])) (H1 (u:=.int) (t':=.slice .int) (t2:=.slice .int) (o:=oi 5 1) (q:=oi 77 25) (e2:=23) (p:=oi 6 1) (xss:=l23_m5_4) (cs:=[.own (oi 1216 24) .int 0 y33.length]) (len:=l23_m5_4.length) (by kernel_rfl) (by kernel_rfl) rfl (by kernel_rfl) (by kernel_rfl) rfl g34) ?_;refine dz0 (.box (oi 2 1) 4) ?_;refine Kn (oi 2 1) (oi 2 1) (.cells 41 [ai ((y3.length:Nat):Int),ai a1_0,ai ((a1_2.length:Nat):Int),.own (oi 3 1) (.slice .int) 0 l4_m5_3.length,.own (oi 5 26) (.slice .int) 0 (l23_m5_4.length+1),.own (oi 7 1) (.slice .int) 0 l4_m5_5.length,.own (oi 9 1) (.slice .int) 0 l23_m5_6.length]) (by kernel_rfl) ?_;refine Gg (Bg (by kernel_rfl)) (tn_ ?_);refine ⟨_,En (e1:=23) (e:=3) (u:=.int) (n:=l23_m5_4.length+1) (len:=y33.length) (row:=y33) (ys:=y33) (xss:=l23_m5_4) 9000 (oi 5 26) (oi 6 1) (oi 1216 24) (by kernel_rfl) (by kernel_rfl) rfl (by kernel_rfl) (by kernel_rfl) (Ol rfl) (Ow rfl) (by kernel_rfl) (by kernel_rfl) (by kernel_rfl),?_⟩;obtain ⟨y35,h35,h⟩:=Ae h;obtain ⟨g36,h⟩:=As h;refine Az 38 ?_;refine dz0 (.box (oi 2 1) 6) ?_;refine dzl (.own (oi 9 1) (.slice .int) 0 l23_m5_6.length) ?_;refine dz0 (.own (oi 1121 15) .int 0 y31.2.length) ?_;refine Cp (.own (oi 1328 33) .int 0 y35.length) [(oi 1328 33,some (.arr 3 .int y35))] [.own (oi 1121 15) .int 0 y31.2.length] _ (caps:=[]) (args0:=[.tree .int y31.2]) trivial (A2 (B6 (e:=3) (by kernel_rfl) rfl) C5) (F7 (Hp h35)) Hg ?_;refine W0 (.own (oi 84 34) (.slice .int) 0 1) (oi 84 34) (.vec 23 1 1 ([.own (oi 1328 33) .int 0 y35.length])) trivial (Ja (by kernel_rfl)) ?_;refine ds2 (.own (oi 9 35) (.slice .int) 0 (l23_m5_6.length+1)) (oi 9 1) (oi 9 35) (.vec 23 1 (l23_m5_6.length+1) (hdL (oi 10 1) .int l23_m5_6++[.own (oi 1328 33) .int 0 y35.length])) (H1 (u:=.int) (t':=.slice .int) (t2:=.slice .int) (o:=oi 9 1) (q:=oi 84 34) (e2:=23) (p:=oi 10 1) (xss:=l23_m5_6) (cs:=[.own (oi 1328 33) .int 0 y35.length]) (len:=l23_m5_6.length) (by kernel_rfl) (by kernel_rfl) rfl (by kernel_rfl) (by kernel_rfl) rfl g36) ?_;refine dz0 (.box (oi 2 1) 6) ?_;refine Kn (oi 2 1) (oi 2 1) (.cells 41 [ai ((y3.length:Nat):Int),ai a1_0,ai ((a1_2.length:Nat):Int),.own (oi 3 1) (.slice .int) 0 l4_m5_3.length,.own (oi 5 26) (.slice .int) 0 (l23_m5_4.length+1),.own (oi 7 1) (.slice .int) 0 l4_m5_5.length,.own (oi 9 35) (.slice .int) 0 (l23_m5_6.length+1)]) (by kernel_rfl) ?_;refine Gg (Bg (by kernel_rfl)) (bn_ (tn_ ?_));refine ⟨_,En (e1:=23) (e:=3) (u:=.int) (n:=l23_m5_6.length+1) (len:=y35.length) (row:=y35) (ys:=y35) (xss:=l23_m5_6) 9000 (oi 9 35) (oi 10 1) (oi 1328 33) (by kernel_rfl) (by kernel_rfl) rfl (by kernel_rfl) (by kernel_rfl) (Ol rfl) (Ow rfl) (by kernel_rfl) (by kernel_rfl) (by kernel_rfl),?_⟩;obtain ⟨g37,h⟩:=As h;refine Aa 42 ?_;refine rz0 (ai ((l23_m9:Nat):Int)) ?_;refine rs0 (ai ((l23_m9+1:Nat):Int)) (za g37) ?_;refine rsB 1 ?_;refine Ap (tn_ ?_);obtain rfl:=zj h;exact ⟨(l23_m9+1,l23_m5_4++[y33],l23_m5_6++[y35]),_,(Jy (oi 2 1) (.cells 41 [ai ((y3.length:Nat):Int),ai a1_0,ai ((a1_2.length:Nat):Int),.own (oi 3 1) (.slice .int) 0 l4_m5_3.length,.own (oi 5 26) (.slice .int) 0 (l23_m5_4.length+1),.own (oi 7 1) (.slice .int) 0 l4_m5_5.length,.own (oi 9 35) (.slice .int) 0 (l23_m5_6.length+1)]) (.cells 41 [ai ((y3.length:Nat):Int),ai a1_0,ai ((a1_2.length:Nat):Int),.own (oi 3 1) (.slice .int) 0 l4_m5_3.length,.own (oi 5 26) (.slice .int) 0 ((l23_m5_4++[y33]).length),.own (oi 7 1) (.slice .int) 0 l4_m5_5.length,.own (oi 9 35) (.slice .int) 0 (l23_m5_6.length+1)]) (by kernel_rfl) (congrArg (fun z_=>(.cells 41 [ai ((y3.length:Nat):Int),ai a1_0,ai ((a1_2.length:Nat):Int),.own (oi 3 1) (.slice .int) 0 l4_m5_3.length,.own (oi 5 26) (.slice .int) 0 z_,.own (oi 7 1) (.slice .int) 0 l4_m5_5.length,.own (oi 9 35) (.slice .int) 0 (l23_m5_6.length+1)]:Ob)) ((by simp):l23_m5_4.length+1=(l23_m5_4++[y33]).length))).trans ((Jy (oi 2 1) (.cells 41 [ai ((y3.length:Nat):Int),ai a1_0,ai ((a1_2.length:Nat):Int),.own (oi 3 1) (.slice .int) 0 l4_m5_3.length,.own (oi 5 26) (.slice .int) 0 ((l23_m5_4++[y33]).length),.own (oi 7 1) (.slice .int) 0 l4_m5_5.length,.own (oi 9 35) (.slice .int) 0 (l23_m5_6.length+1)]) (.cells 41 [ai ((y3.length:Nat):Int),ai a1_0,ai ((a1_2.length:Nat):Int),.own (oi 3 1) (.slice .int) 0 l4_m5_3.length,.own (oi 5 26) (.slice .int) 0 ((l23_m5_4++[y33]).length),.own (oi 7 1) (.slice .int) 0 l4_m5_5.length,.own (oi 9 35) (.slice .int) 0 ((l23_m5_6++[y35]).length)]) (by kernel_rfl) (congrArg (fun z_=>(.cells 41 [ai ((y3.length:Nat):Int),ai a1_0,ai ((a1_2.length:Nat):Int),.own (oi 3 1) (.slice .int) 0 l4_m5_3.length,.own (oi 5 26) (.slice .int) 0 ((l23_m5_4++[y33]).length),.own (oi 7 1) (.slice .int) 0 l4_m5_5.length,.own (oi 9 35) (.slice .int) 0 z_]:Ob)) ((by simp):l23_m5_6.length+1=(l23_m5_6++[y35]).length))).trans (Ac [(oi 5 1,oi 5 26),(oi 6 1,oi 9000 29),(oi 9 1,oi 9 35),(oi 10 1,oi 9000 38)])),⟨l23_m9+1,l23_m5_4++[y33],l23_m5_6++[y35],rfl,rfl⟩,hn23⟩
  have q26_:=of_decide_eq_false q26;refine Af q26 ?_;refine A0 (te_ (te_ (be_ (tn_ ?_))));obtain rfl:=zj h;have h:=hn23
  (try dsimp only at h);obtain rfl:=zj h;exact ⟨_,Ac [(oi 0 1,oi 1 1),(oi 1 1,oi 2 1),(oi 2 1,oi 3 1),(oi 3 1,oi 4 1),(oi 4 1,oi 5 1),(oi 5 1,oi 6 1),(oi 6 1,oi 7 1),(oi 7 1,oi 8 1),(oi 8 1,oi 9 1),(oi 9 1,oi 10 1)],⟨l23_m5_4,l23_m5_6,rfl,rfl⟩⟩
 rintro _ _ ⟨l21_m5_4,l21_m5_6,rfl,rfl⟩ h
 (try dsimp only at h);refine Al ?_;refine Ah ?_;obtain rfl:=zj h;exact Lw [(true,[ai ((y3.length:Nat):Int),ai a1_0,ai ((a1_2.length:Nat):Int),.own (oi 2 1) (.slice .int) 0 l4_m5_3.length,.own (oi 4 1) (.slice .int) 0 l21_m5_4.length,.own (oi 6 1) (.slice .int) 0 l4_m5_5.length,.own (oi 8 1) (.slice .int) 0 l21_m5_6.length])] (Ky (Ax Cs (Ax Cs (Ax Cs (Ax (Bp (.mat (p:=oi 3 1) (e1:=23) (e:=3) (by kernel_rfl) (El (by kernel_rfl)) rfl)) (Ax (Bp (.mat (p:=oi 5 1) (e1:=23) (e:=3) (by kernel_rfl) (El (by kernel_rfl)) rfl)) (Ax (Bp (.mat (p:=oi 7 1) (e1:=23) (e:=3) (by kernel_rfl) (El (by kernel_rfl)) rfl)) (Ax (Bp (.mat (p:=oi 9 1) (e1:=23) (e:=3) (by kernel_rfl) (El (by kernel_rfl)) rfl)) K5))))))) Il)
def I6:AC :=
 (.seq (rg [xo 3 (.i (.box 31 (tm 1))),xo 4 (.i (.alloc 41 [.int .i64 0,.int .i64 0,.int .i64 0,.nils,.nils,.nils,.nils])),xo 5 (qm (cb false))])
 (.seq (.seq (rg [xo 6 (qm (tm 0)),xo 7 (.i (.ld false 3 (tm 3))),⟨some 8,none,qc 37 [tm 6,tm 7] [[],[none,some T4,some .int]]⟩,xo 9 (.i (.not (tm 8))),xo 10 (qm (tm 9)),⟨some 11,some (10,false),.i (.ld false 3 (tm 3))⟩,⟨some 12,some (10,false),qc 38 [tm 11] [[none,some T4,some .int]]⟩,⟨some 13,some (10,false),.i (.len (tm 12))⟩,⟨some 14,some (10,false),qb .gtr (tm 13) (ci 24)⟩,xo 15 (.i (.pick (tm 10) (cb true) (tm 14)))])
 (.cond (tm 15)
  (.seq (rg [xo 16 (.build [.int .i64 0,.int .i64 0,.int .i64 0,.nils,.nils,.nils,.nils] []),xn (.st false 7 (tm 4) (tm 16)),xo 5 (qm (cb false))])
  .ret)
  .skip))
 (.seq (rg [xo 17 (qm (tm 0)),xo 18 (.i (.ld false 3 (tm 3))),⟨some 19,none,qc 39 [tm 17,tm 18] [[],[none,some T4,some .int]]⟩,xn (.st false 7 (tm 4) (tm 19)),xo 5 (qm (cb true))])
 .ret)))
def O8:List Res:=[.cell 4 false 7,.tmp 5]
theorem Pb:Aq Tryd.prog Tryd.f24=some (I6,O8):=by kernel_rfl
theorem Iw:Ba Tryd.prog 24=true:=by kernel_rfl
def Ci (a0:Int) (a1_0:Int) (a1_1:List (Int×Int×Int×Int)) (a1_2:List Int):Option (Int×Int×Int×List (List Int)×List (List Int)×List (List Int)×List (List Int)×Bool) :=
 Option.bind (Option.bind (Hf a0 a1_0 a1_1 a1_2) fun y4 =>
 cond (!y4)
  (some true)
  (Option.bind (C0 a1_0 a1_1 a1_2) fun y6 =>
  some (decide (24<((y6.length:Nat):Int))))) fun l3_m15 =>
cond l3_m15
 (some (0,0,0,[],[],[],[],false))
 (Option.bind (Fs a0 a1_0 a1_1 a1_2) fun y10 =>
 some (y10.1,y10.2.1,y10.2.2.1,y10.2.2.2.1,y10.2.2.2.2.1,y10.2.2.2.2.2.1,y10.2.2.2.2.2.2,true))
def N3 (r:Int×Int×Int×List (List Int)×List (List Int)×List (List Int)×List (List Int)×Bool):RV:=⟨true,[(true,[.sc (.int .i64 r.1),.sc (.int .i64 r.2.1),.sc (.int .i64 r.2.2.1),.frz (.tree (.slice .int) r.2.2.2.1),.frz (.tree (.slice .int) r.2.2.2.2.1),.frz (.tree (.slice .int) r.2.2.2.2.2.1),.frz (.tree (.slice .int) r.2.2.2.2.2.2.1)]),(false,[.sc (.bool r.2.2.2.2.2.2.2)])]⟩
theorem Ir {a0:Int} {a1_0:Int} {a1_1:List (Int×Int×Int×Int)} {a1_2:List Int} {r:Int×Int×Int×List (List Int)×List (List Int)×List (List Int)×List (List Int)×Bool} (h:Ci a0 a1_0 a1_1 a1_2=some r):A1 Tryd.prog Tab 24 [ai a0,.agg [ai a1_0,.tree T4 a1_1,.tree .int a1_2]] (N3 r):=by
 refine Gr (by kernel_rfl) Tryd.func24 Pb (n:=20) (by kernel_rfl) (by simp) (tl:=[(0,ai a0),(1,.agg [ai a1_0,.tree T4 a1_1,.tree .int a1_2])]) rfl fun nz_=>?_
 unfold I6;unfold Ci at h;refine Al ?_;refine Ab ?_;refine At h (fun (l3_m15:Bool) S_=>S_=⟨Am [(0,ai a0),(3,.box (oi 0 1) 0),(4,.box (oi 1 1) 0),(15,.bool l3_m15)],Ak (Ao [(oi 0 1,.cells 31 [ai a1_0,.tree T4 a1_1,.tree .int a1_2]),(oi 1 1,.cells 41 [ai 0,ai 0,ai 0,.nils,.nils,.nils,.nils])]),2⟩) ?_ ?_
 ·intro v_ h;obtain ⟨y4,h4,h⟩:=Ae h;rcases Ad h with ⟨q5,h⟩ | ⟨q5,h⟩
  ·refine Aa 14 ?_;refine rz0 (ai a0) ?_;refine rzl (.agg [ai a1_0,.tree T4 a1_1,.tree .int a1_2]) ?_;refine Bk (.bool y4) [] [ai a0,.agg [ai a1_0,.tree T4 a1_1,.tree .int a1_2]] _ (caps:=[]) (args0:=[ai a0,.agg [ai a1_0,.tree T4 a1_1,.tree .int a1_2]]) trivial (by kernel_rfl) (F7 (Qm h4)) Pj ?_;refine rz0 (.bool (!y4)) ?_;refine rz0 (.bool (!y4)) ?_;refine zs q5 ?_;refine zs q5 ?_;refine zs q5 ?_;refine zs q5 ?_;refine rs0 (.bool true) (zT q5) ?_;refine Ap (tn_ ?_);obtain rfl:=zj h;exact ⟨_,Ac [(oi 0 1,oi 3 1),(oi 1 1,oi 4 2)],rfl⟩
  obtain ⟨y6,h6,h⟩:=Ae h;refine Aa 14 ?_;refine rz0 (ai a0) ?_;refine rzl (.agg [ai a1_0,.tree T4 a1_1,.tree .int a1_2]) ?_;refine Bk (.bool y4) [] [ai a0,.agg [ai a1_0,.tree T4 a1_1,.tree .int a1_2]] _ (caps:=[]) (args0:=[ai a0,.agg [ai a1_0,.tree T4 a1_1,.tree .int a1_2]]) trivial (by kernel_rfl) (F7 (Qm h4)) Pj ?_;refine rz0 (.bool (!y4)) ?_;refine rz0 (.bool (!y4)) ?_;refine rsl (.agg [ai a1_0,.tree T4 a1_1,.tree .int a1_2]) (zg q5) ?_;refine Bk (.own (oi 192 10) .int 0 y6.length) [(oi 192 10,some (.arr 3 .int y6))] [.agg [ai a1_0,.tree T4 a1_1,.tree .int a1_2]] _ (caps:=[]) (args0:=[.agg [ai a1_0,.tree T4 a1_1,.tree .int a1_2]]) (Bo (by kernel_rfl) q5) (by kernel_rfl) (F7 (G1 h6)) Nk ?_;refine rs0 (ai ((y6.length:Nat):Int)) (zg q5) ?_;refine rs0 (.bool (decide (24<((y6.length:Nat):Int)))) (zg q5) ?_;refine rs0 (.bool (decide (24<((y6.length:Nat):Int)))) (zF q5) ?_;refine Ap (tn_ ?_);obtain rfl:=zj h;exact ⟨_,Ac [(oi 0 1,oi 3 1),(oi 1 1,oi 4 2)],rfl⟩
 rintro l3_m15 _ rfl h
 (try dsimp only at h);rcases Ad h with ⟨q7,h⟩ | ⟨q7,h⟩
 ·refine Ag q7 ?_;refine Al ?_;refine Ah (tr_ ?_);obtain rfl:=zj h;exact Lw [(true,[ai 0,ai 0,ai 0,.nils,.nils,.nils,.nils]),(false,[.bool false])] (Ky (Ax Cs (Ax Cs (Ax Cs (Ax (Bp (t:=.slice .int) (xs:=[]) .nil) (Ax (Bp (t:=.slice .int) (xs:=[]) .nil) (Ax (Bp (t:=.slice .int) (xs:=[]) .nil) (Ax (Bp (t:=.slice .int) (xs:=[]) .nil) K5))))))) (Jg Cs Il))
 refine Af q7 ?_;refine Aj (tn_ ?_);refine wr_ ?_;refine Ab ?_;obtain ⟨y10,h10,h⟩:=Ae h;refine Aa 7 ?_;refine rz0 (ai a0) ?_;refine rzl (.agg [ai a1_0,.tree T4 a1_1,.tree .int a1_2]) ?_;refine Bk (.agg [ai y10.1,ai y10.2.1,ai y10.2.2.1,.ftr nz_ (.slice .int) y10.2.2.2.1,.ftr nz_ (.slice .int) y10.2.2.2.2.1,.ftr nz_ (.slice .int) y10.2.2.2.2.2.1,.ftr nz_ (.slice .int) y10.2.2.2.2.2.2]) [] [ai a0,.agg [ai a1_0,.tree T4 a1_1,.tree .int a1_2]] _ (caps:=[]) (args0:=[ai a0,.agg [ai a1_0,.tree T4 a1_1,.tree .int a1_2]]) trivial (by kernel_rfl) (Ni (Rg h10)) Ri ?_;refine rsB 2 ?_;refine Ap (tn_ ?_);refine wr_ ?_;refine Ah ?_;obtain rfl:=zj h;exact Lw [(true,[ai y10.1,ai y10.2.1,ai y10.2.2.1,.ftr nz_ (.slice .int) y10.2.2.2.1,.ftr nz_ (.slice .int) y10.2.2.2.2.1,.ftr nz_ (.slice .int) y10.2.2.2.2.2.1,.ftr nz_ (.slice .int) y10.2.2.2.2.2.2]),(false,[.bool true])] (Ky (Ax Cs (Ax Cs (Ax Cs (Ax (Bp .ftr) (Ax (Bp .ftr) (Ax (Bp .ftr) (Ax (Bp .ftr) K5))))))) (Jg Cs Il))
def Nl:AC :=
 (.seq (rg [xo 12 (qb .lss (tm 11) (tm 10))])
 (.seq (.cond (tm 12)
  .skip
  (.exit 0))
 (.seq (.block 1 (.seq (rg [xo 13 (qx 1 (tm 9) (tm 11)),xo 14 (ql (tm 13)),xo 8 (qm (tm 14))])
 (.seq (rg [xo 15 (qm (tm 8)),xo 16 (.i (.len (tm 15))),xo 17 (qm (tm 1)),xo 18 (qb .neq (tm 16) (tm 17)),xo 19 (qm (tm 18)),⟨some 20,some (19,false),qm (tm 0)⟩,⟨some 21,some (19,false),qm (tm 8)⟩,⟨some 22,some (19,false),qc 84 [tm 20,tm 21] [[],[some .int]]⟩,⟨some 23,some (19,false),.i (.not (tm 22))⟩,xo 24 (.i (.pick (tm 19) (cb true) (tm 23)))])
 (.cond (tm 24)
  (.seq (rg [xo 6 (qm (cb false))])
  .ret)
  .skip))))
 (rg [xo 25 (qb .add (tm 11) (ci 1)),xo 11 (qm (tm 25))]))))
def R9:AC :=
 (.seq (rg [xo 6 (qm (cb false))])
 (.seq (.seq (rg [xo 9 (qm (tm 2)),xo 10 (.i (.len (tm 9))),xo 11 (qm (ci 0))])
 (.block 0 (.loop Nl)))
 (.seq (rg [xo 6 (qm (cb true))])
 .ret)))
def Acr:List Res:=[.tmp 6]
theorem Acj:Aq Tryd.prog Tryd.f75=some (R9,Acr):=by kernel_rfl
theorem Yh:Ba Tryd.prog 75=true:=by kernel_rfl
def G2 (a2:List (List Int)) (a1:Int) (a0:Int) (l4_m11:Nat):Option (Ctl Nat (Ctl Unit Bool)) :=
 cond (decide (((l4_m11:Nat):Int)<((a2.length:Nat):Int)))
 (Option.bind (a2[l4_m11]?) fun x10 =>
 Option.bind (cond (((x10.length:Nat):Int) !=a1)
   (some true)
   (Option.bind (Jp a0 x10) fun y13 =>
   some (!y13))) fun l11_m24 =>
 cond l11_m24
  (some (Ctl.out (Ctl.out false)))
  (og (l4_m11+1<4611686018427387904) <|
  some (Ctl.next (l4_m11+1))))
 (some (Ctl.out (Ctl.next ())))
def Hk (a0:Int) (a1:Int) (a2:List (List Int)):Option Bool :=
 J4 (A3 (fun s_:Nat=>G2 a2 a1 a0 s_) 4611686018427387904 0) fun _ =>
some true
def Ye (r:Bool):RV:=⟨false,[(false,[.sc (.bool r)])]⟩
theorem Aau {a0:Int} {a1:Int} {a2:List (List Int)} {r:Bool} (h:Hk a0 a1 a2=some r):A1 Tryd.prog Tab 75 [ai a0,ai a1,.tree (.slice .int) a2] (Ye r):=by
 refine Av (by kernel_rfl) Tryd.func75 Acj (n:=26) (by kernel_rfl) (by simp) (tl:=[(0,ai a0),(1,ai a1),(2,.tree (.slice .int) a2)]) rfl ?_;unfold R9;unfold Hk at h;refine Al ?_;refine Db h (fun (_:Unit) S_=>S_=⟨Am [],Ak (Ao []),2⟩) ?_ ?_
 ·intro v_ h hk2;refine Al ?_;refine Ai ?_;refine A4 h (fun (l4_m11:Nat) S_=>S_=⟨Am [(0,ai a0),(1,ai a1),(9,.tree (.slice .int) a2),(10,ai ((a2.length:Nat):Int)),(11,ai ((l4_m11:Nat):Int))],Ak (Ao []),2⟩) ⟨_,Ac [],rfl⟩ ?_;rintro n_ l4_m11 _ c_ rfl h hn4
  (try dsimp only at h);unfold G2 at h;unfold Nl;refine Al ?_;refine Ab ?_;rcases Ad h with ⟨q7,h⟩ | ⟨q7,h⟩
  ·have q7_:=of_decide_eq_true q7;refine Ag q7 ?_;refine Aj (tn_ ?_);refine wr_ ?_;refine Ab ?_;refine Ai ?_;refine Ab ?_;obtain ⟨x10,e10,h⟩:=Ae h;refine Aa 6 ?_;refine rs0 (.telt (.slice .int) x10 0) (zi (t:=.slice .int) (xs:=a2) (k:=.i64) (m:=((l4_m11:Nat):Int)) (Bi _) e10) ?_;refine rsB 2 ?_;refine Ap (tn_ ?_);refine wr_ ?_;refine At h (fun (l11_m24:Bool) S_=>S_=⟨Am [(0,ai a0),(1,ai a1),(9,.tree (.slice .int) a2),(10,ai ((a2.length:Nat):Int)),(11,ai ((l4_m11:Nat):Int)),(24,.bool l11_m24)],Ak (Ao []),2⟩) ?_ ?_
   ·intro v_ h;rcases Ad h with ⟨q12,h⟩ | ⟨q12,h⟩
    ·refine Aa 16 ?_;refine rz0 (.tree .int x10) ?_;refine rz0 (ai ((x10.length:Nat):Int)) ?_;refine rz0 (ai a1) ?_;refine rz0 (.bool (((x10.length:Nat):Int) !=a1)) ?_;refine rz0 (.bool (((x10.length:Nat):Int) !=a1)) ?_;refine zs q12 ?_;refine zs q12 ?_;refine zs q12 ?_;refine zs q12 ?_;refine rs0 (.bool true) (zT q12) ?_;refine Ap (tn_ ?_);obtain rfl:=zj h;exact ⟨_,Ac [],rfl⟩
    obtain ⟨y13,h13,h⟩:=Ae h;refine Aa 16 ?_;refine rz0 (.tree .int x10) ?_;refine rz0 (ai ((x10.length:Nat):Int)) ?_;refine rz0 (ai a1) ?_;refine rz0 (.bool (((x10.length:Nat):Int) !=a1)) ?_;refine rz0 (.bool (((x10.length:Nat):Int) !=a1)) ?_;refine rs0 (ai a0) (zg q12) ?_;refine rs0 (.tree .int x10) (zg q12) ?_;refine Bk (.bool y13) [] [ai a0,.tree .int x10] _ (caps:=[]) (args0:=[ai a0,.tree .int x10]) (Bo (by kernel_rfl) q12) (by kernel_rfl) (Aem h13) Aev ?_;refine rs0 (.bool (!y13)) (zg q12) ?_;refine rs0 (.bool (!y13)) (zF q12) ?_;refine Ap (tn_ ?_);obtain rfl:=zj h;exact ⟨_,Ac [],rfl⟩
   rintro l11_m24 _ rfl h
   (try dsimp only at h);rcases Ad h with ⟨q14,h⟩ | ⟨q14,h⟩
   ·refine Ag q14 ?_;refine Al ?_;refine Ah (br_ (tr_ (tr_ (br_ (tr_ ?_)))));obtain rfl:=zj h;have h:=hn4
    (try dsimp only at h);obtain rfl:=zj h;have h:=hk2
    (try dsimp only at h);obtain rfl:=zj h;exact Bm [.bool false] (Aw rfl zl Ay)
   refine Af q14 ?_;refine Aj (bn_ (tn_ ?_));refine wr_ ?_;obtain ⟨g16,h⟩:=As h;refine Aa 4 ?_;refine rs0 (ai ((l4_m11+1:Nat):Int)) (za g16) ?_;refine rsB 1 ?_;refine Ap (tn_ ?_);obtain rfl:=zj h;exact ⟨l4_m11+1,_,Ac [],rfl,hn4⟩
  have q7_:=of_decide_eq_false q7;refine Af q7 ?_;refine A0 (te_ (te_ (be_ (tn_ ?_))));obtain rfl:=zj h;have h:=hn4
  (try dsimp only at h);obtain rfl:=zj h;exact ⟨(),_,rfl,Ac [],rfl⟩
 rintro _ _ rfl h
 (try dsimp only at h);refine Al ?_;refine Ah ?_;obtain rfl:=zj h;exact Bm [.bool true] (Aw rfl zl Ay)
def Pp:AC :=
 (.seq (rg [xo 8 (qm (cb false))])
 (.seq (rg [xo 9 (qm (tm 3)),xo 10 (.i (.len (tm 9))),xo 11 (qm (tm 1)),xo 12 (qb .eql (tm 10) (tm 11)),xo 13 (qm (tm 12)),⟨some 14,some (13,true),qm (tm 0)⟩,⟨some 15,some (13,true),qm (tm 2)⟩,⟨some 16,some (13,true),qm (tm 3)⟩,⟨some 17,some (13,true),qc 75 [tm 14,tm 15,tm 16] [[],[],[some (.slice .int)]]⟩,xo 18 (.i (.pick (tm 13) (tm 17) (cb false))),xo 8 (qm (tm 18))])
 .ret))
def Aaj:List Res:=[.tmp 8]
theorem Zg:Aq Tryd.prog Tryd.f60=some (Pp,Aaj):=by kernel_rfl
theorem Cd:Ba Tryd.prog 60=true:=by kernel_rfl
def Di (a0:Int) (a1:Int) (a2:Int) (a3:List (List Int)):Option Bool :=
 Option.bind (cond (((a3.length:Nat):Int)==a1)
  (Option.bind (Hk a0 a2 a3) fun y4 =>
  some y4)
  (some false)) fun l2_m8 =>
some l2_m8
def Ww (r:Bool):RV:=⟨false,[(false,[.sc (.bool r)])]⟩
theorem Cc {a0:Int} {a1:Int} {a2:Int} {a3:List (List Int)} {r:Bool} (h:Di a0 a1 a2 a3=some r):A1 Tryd.prog Tab 60 [ai a0,ai a1,ai a2,.tree (.slice .int) a3] (Ww r):=by
 refine Av (by kernel_rfl) Tryd.func60 Zg (n:=19) (by kernel_rfl) (by simp) (tl:=[(0,ai a0),(1,ai a1),(2,ai a2),(3,.tree (.slice .int) a3)]) rfl ?_;unfold Pp;unfold Di at h;refine Al ?_;refine At h (fun (l2_m8:Bool) S_=>S_=⟨Am [(8,.bool l2_m8)],Ak (Ao []),2⟩) ?_ ?_
 ·intro v_ h;rcases Ad h with ⟨q3,h⟩ | ⟨q3,h⟩
  ·obtain ⟨y4,h4,h⟩:=Ae h;refine Aa 13 ?_;refine rz0 (.tree (.slice .int) a3) ?_;refine rz0 (ai ((a3.length:Nat):Int)) ?_;refine rz0 (ai a1) ?_;refine rz0 (.bool (((a3.length:Nat):Int)==a1)) ?_;refine rz0 (.bool (((a3.length:Nat):Int)==a1)) ?_;refine rs0 (ai a0) (zg q3) ?_;refine rs0 (ai a2) (zg q3) ?_;refine rs0 (.tree (.slice .int) a3) (zg q3) ?_;refine Bk (.bool y4) [] [ai a0,ai a2,.tree (.slice .int) a3] _ (caps:=[]) (args0:=[ai a0,ai a2,.tree (.slice .int) a3]) (Bo (by kernel_rfl) q3) (by kernel_rfl) (Aau h4) Yh ?_;refine rs0 (.bool y4) (zT q3) ?_;refine rsB 1 ?_;refine Ap (tn_ ?_);obtain rfl:=zj h;exact ⟨_,Ac [],rfl⟩
  refine Aa 13 ?_;refine rz0 (.tree (.slice .int) a3) ?_;refine rz0 (ai ((a3.length:Nat):Int)) ?_;refine rz0 (ai a1) ?_;refine rz0 (.bool (((a3.length:Nat):Int)==a1)) ?_;refine rz0 (.bool (((a3.length:Nat):Int)==a1)) ?_;refine zs q3 ?_;refine zs q3 ?_;refine zs q3 ?_;refine zs q3 ?_;refine rs0 (.bool false) (zF q3) ?_;refine rsB 1 ?_;refine Ap (tn_ ?_);obtain rfl:=zj h;exact ⟨_,Ac [],rfl⟩
 rintro l2_m8 _ rfl h
 (try dsimp only at h);refine Ah ?_;obtain rfl:=zj h;exact Bm [.bool l2_m8] (Aw rfl zl Ay)
def Rv:AC :=
 (.seq (rg [xo 3 (.i (.box 41 (tm 1))),xo 4 (qm (cb false))])
 (.seq (rg [xo 5 (qm (tm 0)),xo 6 (qc 52 [tm 5] [[]]),xo 7 (qm (tm 6)),⟨some 8,some (7,true),qf 0 (tm 3)⟩,⟨some 9,some (7,true),ql (tm 8)⟩,⟨some 10,some (7,true),qc 53 [tm 9,ci 0,ci 24] [[],[],[]]⟩,xo 11 (.i (.pick (tm 7) (tm 10) (cb false))),xo 12 (qm (tm 11)),⟨some 13,some (12,true),qf 1 (tm 3)⟩,⟨some 14,some (12,true),ql (tm 13)⟩,⟨some 15,some (12,true),qc 53 [tm 14,ci 0,ci 8] [[],[],[]]⟩,xo 16 (.i (.pick (tm 12) (tm 15) (cb false))),xo 17 (qm (tm 16)),⟨some 18,some (17,true),qf 2 (tm 3)⟩,⟨some 19,some (17,true),ql (tm 18)⟩,⟨some 20,some (17,true),qc 53 [tm 19,ci 0,ci 8] [[],[],[]]⟩,xo 21 (.i (.pick (tm 17) (tm 20) (cb false))),xo 22 (qm (tm 21)),⟨some 23,some (22,true),qm (tm 0)⟩,⟨some 24,some (22,true),qf 0 (tm 3)⟩,⟨some 25,some (22,true),ql (tm 24)⟩,⟨some 26,some (22,true),qf 0 (tm 3)⟩,⟨some 27,some (22,true),ql (tm 26)⟩,⟨some 28,some (22,true),qf 3 (tm 3)⟩,⟨some 29,some (22,true),ql (tm 28)⟩,⟨some 30,some (22,true),qc 60 [tm 23,tm 25,tm 27,tm 29] [[],[],[],[some (.slice .int)]]⟩,xo 31 (.i (.pick (tm 22) (tm 30) (cb false))),xo 32 (qm (tm 31)),⟨some 33,some (32,true),qm (tm 0)⟩,⟨some 34,some (32,true),qf 1 (tm 3)⟩,⟨some 35,some (32,true),ql (tm 34)⟩,⟨some 36,some (32,true),qf 0 (tm 3)⟩,⟨some 37,some (32,true),ql (tm 36)⟩,⟨some 38,some (32,true),qf 4 (tm 3)⟩,⟨some 39,some (32,true),ql (tm 38)⟩,⟨some 40,some (32,true),qc 60 [tm 33,tm 35,tm 37,tm 39] [[],[],[],[some (.slice .int)]]⟩,xo 41 (.i (.pick (tm 32) (tm 40) (cb false))),xo 42 (qm (tm 41)),⟨some 43,some (42,true),qm (tm 0)⟩,⟨some 44,some (42,true),qf 0 (tm 3)⟩,⟨some 45,some (42,true),ql (tm 44)⟩,⟨some 46,some (42,true),qf 2 (tm 3)⟩,⟨some 47,some (42,true),ql (tm 46)⟩,⟨some 48,some (42,true),qf 5 (tm 3)⟩,⟨some 49,some (42,true),ql (tm 48)⟩,⟨some 50,some (42,true),qc 60 [tm 43,tm 45,tm 47,tm 49] [[],[],[],[some (.slice .int)]]⟩,xo 51 (.i (.pick (tm 42) (tm 50) (cb false))),xo 52 (qm (tm 51)),⟨some 53,some (52,true),qm (tm 0)⟩,⟨some 54,some (52,true),qf 1 (tm 3)⟩,⟨some 55,some (52,true),ql (tm 54)⟩,⟨some 56,some (52,true),qf 2 (tm 3)⟩,⟨some 57,some (52,true),ql (tm 56)⟩,⟨some 58,some (52,true),qf 6 (tm 3)⟩,⟨some 59,some (52,true),ql (tm 58)⟩,⟨some 60,some (52,true),qc 60 [tm 53,tm 55,tm 57,tm 59] [[],[],[],[some (.slice .int)]]⟩,xo 61 (.i (.pick (tm 52) (tm 60) (cb false))),xo 4 (qm (tm 61))])
 .ret))
def Abs:List Res:=[.tmp 4]
theorem Ab0:Aq Tryd.prog Tryd.f40=some (Rv,Abs):=by kernel_rfl
theorem Li:Ba Tryd.prog 40=true:=by kernel_rfl
def Gc (a0:Int) (a1_0:Int) (a1_1:Int) (a1_2:Int) (a1_3:List (List Int)) (a1_4:List (List Int)) (a1_5:List (List Int)) (a1_6:List (List Int)):Option Bool :=
 Option.bind (Option.bind (Gb a0) fun y3 =>
 cond y3
  (Option.bind (Co a1_0 0 24) fun y5 =>
  cond y5
   (Option.bind (Co a1_1 0 8) fun y7 =>
   cond y7
    (Option.bind (Co a1_2 0 8) fun y9 =>
    cond y9
     (Option.bind (Di a0 a1_0 a1_0 a1_3) fun y11 =>
     cond y11
      (Option.bind (Di a0 a1_1 a1_0 a1_4) fun y13 =>
      cond y13
       (Option.bind (Di a0 a1_0 a1_2 a1_5) fun y15 =>
       cond y15
        (Option.bind (Di a0 a1_1 a1_2 a1_6) fun y17 =>
        some y17)
        (some false))
       (some false))
      (some false))
     (some false))
    (some false))
   (some false))
  (some false)) fun l2_m4 =>
some l2_m4
def Aa2 (r:Bool):RV:=⟨false,[(false,[.sc (.bool r)])]⟩
set_option maxHeartbeats 1600000 in
theorem Eb {a0:Int} {a1_0:Int} {a1_1:Int} {a1_2:Int} {a1_3:List (List Int)} {a1_4:List (List Int)} {a1_5:List (List Int)} {a1_6:List (List Int)} {r:Bool} (h:Gc a0 a1_0 a1_1 a1_2 a1_3 a1_4 a1_5 a1_6=some r):A1 Tryd.prog Tab 40 [ai a0,.agg [ai a1_0,ai a1_1,ai a1_2,.tree (.slice .int) a1_3,.tree (.slice .int) a1_4,.tree (.slice .int) a1_5,.tree (.slice .int) a1_6]] (Aa2 r):=by
 refine Av (by kernel_rfl) Tryd.func40 Ab0 (n:=62) (by kernel_rfl) (by simp) (tl:=[(0,ai a0),(1,.agg [ai a1_0,ai a1_1,ai a1_2,.tree (.slice .int) a1_3,.tree (.slice .int) a1_4,.tree (.slice .int) a1_5,.tree (.slice .int) a1_6])]) rfl ?_;unfold Rv;unfold Gc at h;refine Al ?_;refine At h (fun (l2_m4:Bool) S_=>S_=⟨Am [(4,.bool l2_m4)],Ak (Ao []),2⟩) ?_ ?_
 ·intro v_ h;obtain ⟨y3,h3,h⟩:=Ae h;rcases Ad h with ⟨q4,h⟩ | ⟨q4,h⟩
  ·obtain ⟨y5,h5,h⟩:=Ae h;rcases Ad h with ⟨q6,h⟩ | ⟨q6,h⟩
   ·obtain ⟨y7,h7,h⟩:=Ae h;rcases Ad h with ⟨q8,h⟩ | ⟨q8,h⟩
    ·obtain ⟨y9,h9,h⟩:=Ae h;rcases Ad h with ⟨q10,h⟩ | ⟨q10,h⟩
     ·obtain ⟨y11,h11,h⟩:=Ae h;rcases Ad h with ⟨q12,h⟩ | ⟨q12,h⟩
      ·obtain ⟨y13,h13,h⟩:=Ae h;rcases Ad h with ⟨q14,h⟩ | ⟨q14,h⟩
       ·obtain ⟨y15,h15,h⟩:=Ae h;rcases Ad h with ⟨q16,h⟩ | ⟨q16,h⟩
        ·obtain ⟨y17,h17,h⟩:=Ae h;refine Aa 61 ?_;refine rz0 (ai a0) ?_;refine zc (.bool y3) [] [ai a0] (B1 h3) ?_;refine rz0 (.bool y3) ?_;refine rs0 (.box (oi 3 1) 0) (zg q4) ?_;refine rsl (ai a1_0) (zg q4) ?_;refine Bk (.bool y5) [] [ai a1_0,ai 0,ai 24] _ (caps:=[]) (args0:=[ai a1_0,ai 0,ai 24]) (Bo (by kernel_rfl) q4) (by kernel_rfl) (Bc h5) Bj ?_;refine rs0 (.bool y5) (zT q4) ?_;refine rz0 (.bool y5) ?_;refine rs0 (.box (oi 3 1) 1) (zg q6) ?_;refine rsl (ai a1_1) (zg q6) ?_;refine Bk (.bool y7) [] [ai a1_1,ai 0,ai 8] _ (caps:=[]) (args0:=[ai a1_1,ai 0,ai 8]) (Bo (by kernel_rfl) q6) (by kernel_rfl) (Bc h7) Bj ?_;refine rs0 (.bool y7) (zT q6) ?_;refine rz0 (.bool y7) ?_;refine rs0 (.box (oi 3 1) 2) (zg q8) ?_;refine rsl (ai a1_2) (zg q8) ?_;refine Bk (.bool y9) [] [ai a1_2,ai 0,ai 8] _ (caps:=[]) (args0:=[ai a1_2,ai 0,ai 8]) (Bo (by kernel_rfl) q8) (by kernel_rfl) (Bc h9) Bj ?_;refine rs0 (.bool y9) (zT q8) ?_;refine rz0 (.bool y9) ?_;refine rs0 (ai a0) (zg q10) ?_;refine rs0 (.box (oi 3 1) 0) (zg q10) ?_;refine rsl (ai a1_0) (zg q10) ?_;refine rs0 (.box (oi 3 1) 0) (zg q10) ?_;refine rsl (ai a1_0) (zg q10) ?_;refine rs0 (.box (oi 3 1) 3) (zg q10) ?_;refine rsl (.tree (.slice .int) a1_3) (zg q10) ?_;refine Bk (.bool y11) [] [ai a0,ai a1_0,ai a1_0,.tree (.slice .int) a1_3] _ (caps:=[]) (args0:=[ai a0,ai a1_0,ai a1_0,.tree (.slice .int) a1_3]) (Bo (by kernel_rfl) q10) (by kernel_rfl) (Cc h11) Cd ?_;refine rs0 (.bool y11) (zT q10) ?_;refine rz0 (.bool y11) ?_;refine rs0 (ai a0) (zg q12) ?_;refine rs0 (.box (oi 3 1) 1) (zg q12) ?_;refine rsl (ai a1_1) (zg q12) ?_;refine rs0 (.box (oi 3 1) 0) (zg q12) ?_;refine rsl (ai a1_0) (zg q12) ?_;refine rs0 (.box (oi 3 1) 4) (zg q12) ?_;refine rsl (.tree (.slice .int) a1_4) (zg q12) ?_;refine Bk (.bool y13) [] [ai a0,ai a1_1,ai a1_0,.tree (.slice .int) a1_4] _ (caps:=[]) (args0:=[ai a0,ai a1_1,ai a1_0,.tree (.slice .int) a1_4]) (Bo (by kernel_rfl) q12) (by kernel_rfl) (Cc h13) Cd ?_;refine rs0 (.bool y13) (zT q12) ?_;refine rz0 (.bool y13) ?_;refine rs0 (ai a0) (zg q14) ?_;refine rs0 (.box (oi 3 1) 0) (zg q14) ?_;refine rsl (ai a1_0) (zg q14) ?_;refine rs0 (.box (oi 3 1) 2) (zg q14) ?_;refine rsl (ai a1_2) (zg q14) ?_;refine rs0 (.box (oi 3 1) 5) (zg q14) ?_;refine rsl (.tree (.slice .int) a1_5) (zg q14) ?_;refine Bk (.bool y15) [] [ai a0,ai a1_0,ai a1_2,.tree (.slice .int) a1_5] _ (caps:=[]) (args0:=[ai a0,ai a1_0,ai a1_2,.tree (.slice .int) a1_5]) (Bo (by kernel_rfl) q14) (by kernel_rfl) (Cc h15) Cd ?_;refine rs0 (.bool y15) (zT q14) ?_;refine rz0 (.bool y15) ?_;refine rs0 (ai a0) (zg q16) ?_;refine rs0 (.box (oi 3 1) 1) (zg q16) ?_;refine rsl (ai a1_1) (zg q16) ?_;refine rs0 (.box (oi 3 1) 2) (zg q16) ?_;refine rsl (ai a1_2) (zg q16) ?_;refine rs0 (.box (oi 3 1) 6) (zg q16) ?_;refine rsl (.tree (.slice .int) a1_6) (zg q16) ?_;refine Bk (.bool y17) [] [ai a0,ai a1_1,ai a1_2,.tree (.slice .int) a1_6] _ (caps:=[]) (args0:=[ai a0,ai a1_1,ai a1_2,.tree (.slice .int) a1_6]) (Bo (by kernel_rfl) q16) (by kernel_rfl) (Cc h17) Cd ?_;refine rs0 (.bool y17) (zT q16) ?_;refine rsB 1 ?_;refine Ap (tn_ ?_);obtain rfl:=zj h;exact ⟨_,Ac [],rfl⟩
        refine Aa 61 ?_;refine rz0 (ai a0) ?_;refine zc (.bool y3) [] [ai a0] (B1 h3) ?_;refine rz0 (.bool y3) ?_;refine rs0 (.box (oi 3 1) 0) (zg q4) ?_;refine rsl (ai a1_0) (zg q4) ?_;refine Bk (.bool y5) [] [ai a1_0,ai 0,ai 24] _ (caps:=[]) (args0:=[ai a1_0,ai 0,ai 24]) (Bo (by kernel_rfl) q4) (by kernel_rfl) (Bc h5) Bj ?_;refine rs0 (.bool y5) (zT q4) ?_;refine rz0 (.bool y5) ?_;refine rs0 (.box (oi 3 1) 1) (zg q6) ?_;refine rsl (ai a1_1) (zg q6) ?_;refine Bk (.bool y7) [] [ai a1_1,ai 0,ai 8] _ (caps:=[]) (args0:=[ai a1_1,ai 0,ai 8]) (Bo (by kernel_rfl) q6) (by kernel_rfl) (Bc h7) Bj ?_;refine rs0 (.bool y7) (zT q6) ?_;refine rz0 (.bool y7) ?_;refine rs0 (.box (oi 3 1) 2) (zg q8) ?_;refine rsl (ai a1_2) (zg q8) ?_;refine Bk (.bool y9) [] [ai a1_2,ai 0,ai 8] _ (caps:=[]) (args0:=[ai a1_2,ai 0,ai 8]) (Bo (by kernel_rfl) q8) (by kernel_rfl) (Bc h9) Bj ?_;refine rs0 (.bool y9) (zT q8) ?_;refine rz0 (.bool y9) ?_;refine rs0 (ai a0) (zg q10) ?_;refine rs0 (.box (oi 3 1) 0) (zg q10) ?_;refine rsl (ai a1_0) (zg q10) ?_;refine rs0 (.box (oi 3 1) 0) (zg q10) ?_;refine rsl (ai a1_0) (zg q10) ?_;refine rs0 (.box (oi 3 1) 3) (zg q10) ?_;refine rsl (.tree (.slice .int) a1_3) (zg q10) ?_;refine Bk (.bool y11) [] [ai a0,ai a1_0,ai a1_0,.tree (.slice .int) a1_3] _ (caps:=[]) (args0:=[ai a0,ai a1_0,ai a1_0,.tree (.slice .int) a1_3]) (Bo (by kernel_rfl) q10) (by kernel_rfl) (Cc h11) Cd ?_;refine rs0 (.bool y11) (zT q10) ?_;refine rz0 (.bool y11) ?_;refine rs0 (ai a0) (zg q12) ?_;refine rs0 (.box (oi 3 1) 1) (zg q12) ?_;refine rsl (ai a1_1) (zg q12) ?_;refine rs0 (.box (oi 3 1) 0) (zg q12) ?_;refine rsl (ai a1_0) (zg q12) ?_;refine rs0 (.box (oi 3 1) 4) (zg q12) ?_;refine rsl (.tree (.slice .int) a1_4) (zg q12) ?_;refine Bk (.bool y13) [] [ai a0,ai a1_1,ai a1_0,.tree (.slice .int) a1_4] _ (caps:=[]) (args0:=[ai a0,ai a1_1,ai a1_0,.tree (.slice .int) a1_4]) (Bo (by kernel_rfl) q12) (by kernel_rfl) (Cc h13) Cd ?_;refine rs0 (.bool y13) (zT q12) ?_;refine rz0 (.bool y13) ?_;refine rs0 (ai a0) (zg q14) ?_;refine rs0 (.box (oi 3 1) 0) (zg q14) ?_;refine rsl (ai a1_0) (zg q14) ?_;refine rs0 (.box (oi 3 1) 2) (zg q14) ?_;refine rsl (ai a1_2) (zg q14) ?_;refine rs0 (.box (oi 3 1) 5) (zg q14) ?_;refine rsl (.tree (.slice .int) a1_5) (zg q14) ?_;refine Bk (.bool y15) [] [ai a0,ai a1_0,ai a1_2,.tree (.slice .int) a1_5] _ (caps:=[]) (args0:=[ai a0,ai a1_0,ai a1_2,.tree (.slice .int) a1_5]) (Bo (by kernel_rfl) q14) (by kernel_rfl) (Cc h15) Cd ?_;refine rs0 (.bool y15) (zT q14) ?_;refine rz0 (.bool y15) ?_;refine zs q16 ?_;refine zs q16 ?_;refine zs q16 ?_;refine zs q16 ?_;refine zs q16 ?_;refine zs q16 ?_;refine zs q16 ?_;refine zs q16 ?_;refine rs0 (.bool false) (zF q16) ?_;refine rsB 1 ?_;refine Ap (tn_ ?_);obtain rfl:=zj h;exact ⟨_,Ac [],rfl⟩
       refine Aa 61 ?_;refine rz0 (ai a0) ?_;refine zc (.bool y3) [] [ai a0] (B1 h3) ?_;refine rz0 (.bool y3) ?_;refine rs0 (.box (oi 3 1) 0) (zg q4) ?_;refine rsl (ai a1_0) (zg q4) ?_;refine Bk (.bool y5) [] [ai a1_0,ai 0,ai 24] _ (caps:=[]) (args0:=[ai a1_0,ai 0,ai 24]) (Bo (by kernel_rfl) q4) (by kernel_rfl) (Bc h5) Bj ?_;refine rs0 (.bool y5) (zT q4) ?_;refine rz0 (.bool y5) ?_;refine rs0 (.box (oi 3 1) 1) (zg q6) ?_;refine rsl (ai a1_1) (zg q6) ?_;refine Bk (.bool y7) [] [ai a1_1,ai 0,ai 8] _ (caps:=[]) (args0:=[ai a1_1,ai 0,ai 8]) (Bo (by kernel_rfl) q6) (by kernel_rfl) (Bc h7) Bj ?_;refine rs0 (.bool y7) (zT q6) ?_;refine rz0 (.bool y7) ?_;refine rs0 (.box (oi 3 1) 2) (zg q8) ?_;refine rsl (ai a1_2) (zg q8) ?_;refine Bk (.bool y9) [] [ai a1_2,ai 0,ai 8] _ (caps:=[]) (args0:=[ai a1_2,ai 0,ai 8]) (Bo (by kernel_rfl) q8) (by kernel_rfl) (Bc h9) Bj ?_;refine rs0 (.bool y9) (zT q8) ?_;refine rz0 (.bool y9) ?_;refine rs0 (ai a0) (zg q10) ?_;refine rs0 (.box (oi 3 1) 0) (zg q10) ?_;refine rsl (ai a1_0) (zg q10) ?_;refine rs0 (.box (oi 3 1) 0) (zg q10) ?_;refine rsl (ai a1_0) (zg q10) ?_;refine rs0 (.box (oi 3 1) 3) (zg q10) ?_;refine rsl (.tree (.slice .int) a1_3) (zg q10) ?_;refine Bk (.bool y11) [] [ai a0,ai a1_0,ai a1_0,.tree (.slice .int) a1_3] _ (caps:=[]) (args0:=[ai a0,ai a1_0,ai a1_0,.tree (.slice .int) a1_3]) (Bo (by kernel_rfl) q10) (by kernel_rfl) (Cc h11) Cd ?_;refine rs0 (.bool y11) (zT q10) ?_;refine rz0 (.bool y11) ?_;refine rs0 (ai a0) (zg q12) ?_;refine rs0 (.box (oi 3 1) 1) (zg q12) ?_;refine rsl (ai a1_1) (zg q12) ?_;refine rs0 (.box (oi 3 1) 0) (zg q12) ?_;refine rsl (ai a1_0) (zg q12) ?_;refine rs0 (.box (oi 3 1) 4) (zg q12) ?_;refine rsl (.tree (.slice .int) a1_4) (zg q12) ?_;refine Bk (.bool y13) [] [ai a0,ai a1_1,ai a1_0,.tree (.slice .int) a1_4] _ (caps:=[]) (args0:=[ai a0,ai a1_1,ai a1_0,.tree (.slice .int) a1_4]) (Bo (by kernel_rfl) q12) (by kernel_rfl) (Cc h13) Cd ?_;refine rs0 (.bool y13) (zT q12) ?_;refine rz0 (.bool y13) ?_;refine zs q14 ?_;refine zs q14 ?_;refine zs q14 ?_;refine zs q14 ?_;refine zs q14 ?_;refine zs q14 ?_;refine zs q14 ?_;refine zs q14 ?_;refine rs0 (.bool false) (zF q14) ?_;refine rsB 11 ?_;refine Ap (tn_ ?_);obtain rfl:=zj h;exact ⟨_,Ac [],rfl⟩
      refine Aa 61 ?_;refine rz0 (ai a0) ?_;refine zc (.bool y3) [] [ai a0] (B1 h3) ?_;refine rz0 (.bool y3) ?_;refine rs0 (.box (oi 3 1) 0) (zg q4) ?_;refine rsl (ai a1_0) (zg q4) ?_;refine Bk (.bool y5) [] [ai a1_0,ai 0,ai 24] _ (caps:=[]) (args0:=[ai a1_0,ai 0,ai 24]) (Bo (by kernel_rfl) q4) (by kernel_rfl) (Bc h5) Bj ?_;refine rs0 (.bool y5) (zT q4) ?_;refine rz0 (.bool y5) ?_;refine rs0 (.box (oi 3 1) 1) (zg q6) ?_;refine rsl (ai a1_1) (zg q6) ?_;refine Bk (.bool y7) [] [ai a1_1,ai 0,ai 8] _ (caps:=[]) (args0:=[ai a1_1,ai 0,ai 8]) (Bo (by kernel_rfl) q6) (by kernel_rfl) (Bc h7) Bj ?_;refine rs0 (.bool y7) (zT q6) ?_;refine rz0 (.bool y7) ?_;refine rs0 (.box (oi 3 1) 2) (zg q8) ?_;refine rsl (ai a1_2) (zg q8) ?_;refine Bk (.bool y9) [] [ai a1_2,ai 0,ai 8] _ (caps:=[]) (args0:=[ai a1_2,ai 0,ai 8]) (Bo (by kernel_rfl) q8) (by kernel_rfl) (Bc h9) Bj ?_;refine rs0 (.bool y9) (zT q8) ?_;refine rz0 (.bool y9) ?_;refine rs0 (ai a0) (zg q10) ?_;refine rs0 (.box (oi 3 1) 0) (zg q10) ?_;refine rsl (ai a1_0) (zg q10) ?_;refine rs0 (.box (oi 3 1) 0) (zg q10) ?_;refine rsl (ai a1_0) (zg q10) ?_;refine rs0 (.box (oi 3 1) 3) (zg q10) ?_;refine rsl (.tree (.slice .int) a1_3) (zg q10) ?_;refine Bk (.bool y11) [] [ai a0,ai a1_0,ai a1_0,.tree (.slice .int) a1_3] _ (caps:=[]) (args0:=[ai a0,ai a1_0,ai a1_0,.tree (.slice .int) a1_3]) (Bo (by kernel_rfl) q10) (by kernel_rfl) (Cc h11) Cd ?_;refine rs0 (.bool y11) (zT q10) ?_;refine rz0 (.bool y11) ?_;refine zs q12 ?_;refine zs q12 ?_;refine zs q12 ?_;refine zs q12 ?_;refine zs q12 ?_;refine zs q12 ?_;refine zs q12 ?_;refine zs q12 ?_;refine rs0 (.bool false) (zF q12) ?_;refine rsB 21 ?_;refine Ap (tn_ ?_);obtain rfl:=zj h;exact ⟨_,Ac [],rfl⟩
     refine Aa 61 ?_;refine rz0 (ai a0) ?_;refine zc (.bool y3) [] [ai a0] (B1 h3) ?_;refine rz0 (.bool y3) ?_;refine rs0 (.box (oi 3 1) 0) (zg q4) ?_;refine rsl (ai a1_0) (zg q4) ?_;refine Bk (.bool y5) [] [ai a1_0,ai 0,ai 24] _ (caps:=[]) (args0:=[ai a1_0,ai 0,ai 24]) (Bo (by kernel_rfl) q4) (by kernel_rfl) (Bc h5) Bj ?_;refine rs0 (.bool y5) (zT q4) ?_;refine rz0 (.bool y5) ?_;refine rs0 (.box (oi 3 1) 1) (zg q6) ?_;refine rsl (ai a1_1) (zg q6) ?_;refine Bk (.bool y7) [] [ai a1_1,ai 0,ai 8] _ (caps:=[]) (args0:=[ai a1_1,ai 0,ai 8]) (Bo (by kernel_rfl) q6) (by kernel_rfl) (Bc h7) Bj ?_;refine rs0 (.bool y7) (zT q6) ?_;refine rz0 (.bool y7) ?_;refine rs0 (.box (oi 3 1) 2) (zg q8) ?_;refine rsl (ai a1_2) (zg q8) ?_;refine Bk (.bool y9) [] [ai a1_2,ai 0,ai 8] _ (caps:=[]) (args0:=[ai a1_2,ai 0,ai 8]) (Bo (by kernel_rfl) q8) (by kernel_rfl) (Bc h9) Bj ?_;refine rs0 (.bool y9) (zT q8) ?_;refine rz0 (.bool y9) ?_;refine zs q10 ?_;refine zs q10 ?_;refine zs q10 ?_;refine zs q10 ?_;refine zs q10 ?_;refine zs q10 ?_;refine zs q10 ?_;refine zs q10 ?_;refine rs0 (.bool false) (zF q10) ?_;refine rsB 31 ?_;refine Ap (tn_ ?_);obtain rfl:=zj h;exact ⟨_,Ac [],rfl⟩
    refine Aa 61 ?_;refine rz0 (ai a0) ?_;refine zc (.bool y3) [] [ai a0] (B1 h3) ?_;refine rz0 (.bool y3) ?_;refine rs0 (.box (oi 3 1) 0) (zg q4) ?_;refine rsl (ai a1_0) (zg q4) ?_;refine Bk (.bool y5) [] [ai a1_0,ai 0,ai 24] _ (caps:=[]) (args0:=[ai a1_0,ai 0,ai 24]) (Bo (by kernel_rfl) q4) (by kernel_rfl) (Bc h5) Bj ?_;refine rs0 (.bool y5) (zT q4) ?_;refine rz0 (.bool y5) ?_;refine rs0 (.box (oi 3 1) 1) (zg q6) ?_;refine rsl (ai a1_1) (zg q6) ?_;refine Bk (.bool y7) [] [ai a1_1,ai 0,ai 8] _ (caps:=[]) (args0:=[ai a1_1,ai 0,ai 8]) (Bo (by kernel_rfl) q6) (by kernel_rfl) (Bc h7) Bj ?_;refine rs0 (.bool y7) (zT q6) ?_;refine rz0 (.bool y7) ?_;refine zs q8 ?_;refine zs q8 ?_;refine zs q8 ?_;refine rs0 (.bool false) (zF q8) ?_;refine rsB 41 ?_;refine Ap (tn_ ?_);obtain rfl:=zj h;exact ⟨_,Ac [],rfl⟩
   refine Aa 61 ?_;refine rz0 (ai a0) ?_;refine zc (.bool y3) [] [ai a0] (B1 h3) ?_;refine rz0 (.bool y3) ?_;refine rs0 (.box (oi 3 1) 0) (zg q4) ?_;refine rsl (ai a1_0) (zg q4) ?_;refine Bk (.bool y5) [] [ai a1_0,ai 0,ai 24] _ (caps:=[]) (args0:=[ai a1_0,ai 0,ai 24]) (Bo (by kernel_rfl) q4) (by kernel_rfl) (Bc h5) Bj ?_;refine rs0 (.bool y5) (zT q4) ?_;refine rz0 (.bool y5) ?_;refine zs q6 ?_;refine zs q6 ?_;refine zs q6 ?_;refine rs0 (.bool false) (zF q6) ?_;refine rsB 46 ?_;refine Ap (tn_ ?_);obtain rfl:=zj h;exact ⟨_,Ac [],rfl⟩
  refine Aa 61 ?_;refine rz0 (ai a0) ?_;refine zc (.bool y3) [] [ai a0] (B1 h3) ?_;refine rz0 (.bool y3) ?_;refine zs q4 ?_;refine zs q4 ?_;refine zs q4 ?_;refine rs0 (.bool false) (zF q4) ?_;refine rsB 51 ?_;refine Ap (tn_ ?_);obtain rfl:=zj h;exact ⟨_,Ac [],rfl⟩
 rintro l2_m4 _ rfl h
 (try dsimp only at h);refine Ah ?_;obtain rfl:=zj h;exact Bm [.bool l2_m4] (Aw rfl zl Ay)
def Tv:AC :=
 (.seq (rg [xo 4 (.i (.box 41 (tm 1))),xo 5 (.i (.box 41 (tm 2))),xo 6 (qm (cb false))])
 (.seq (rg [xo 7 (qm (tm 0)),xo 8 (.i (.ld false 7 (tm 4))),xo 9 (qc 40 [tm 7,tm 8] [[],[none,none,none,some (.slice .int),some (.slice .int),some (.slice .int),some (.slice .int)]]),xo 10 (qm (tm 9)),⟨some 11,some (10,true),qm (tm 0)⟩,⟨some 12,some (10,true),.i (.ld false 7 (tm 5))⟩,⟨some 13,some (10,true),qc 40 [tm 11,tm 12] [[],[none,none,none,some (.slice .int),some (.slice .int),some (.slice .int),some (.slice .int)]]⟩,xo 14 (.i (.pick (tm 10) (tm 13) (cb false))),xo 15 (qm (tm 14)),⟨some 16,some (15,true),qf 1 (tm 4)⟩,⟨some 17,some (15,true),ql (tm 16)⟩,⟨some 18,some (15,true),qf 1 (tm 5)⟩,⟨some 19,some (15,true),ql (tm 18)⟩,⟨some 20,some (15,true),qb .eql (tm 17) (tm 19)⟩,xo 21 (.i (.pick (tm 15) (tm 20) (cb false))),xo 22 (qm (tm 21)),⟨some 23,some (22,true),qf 2 (tm 4)⟩,⟨some 24,some (22,true),ql (tm 23)⟩,⟨some 25,some (22,true),qf 2 (tm 5)⟩,⟨some 26,some (22,true),ql (tm 25)⟩,⟨some 27,some (22,true),qb .eql (tm 24) (tm 26)⟩,xo 28 (.i (.pick (tm 22) (tm 27) (cb false))),xo 6 (qm (tm 28))])
 .ret))
def Aea:List Res:=[.tmp 6]
theorem Afh:Aq Tryd.prog Tryd.f25=some (Tv,Aea):=by kernel_rfl
theorem Abg:Ba Tryd.prog 25=true:=by kernel_rfl
def Id (a0:Int) (a1_0:Int) (a1_1:Int) (a1_2:Int) (a1_3:List (List Int)) (a1_4:List (List Int)) (a1_5:List (List Int)) (a1_6:List (List Int)) (a2_0:Int) (a2_1:Int) (a2_2:Int) (a2_3:List (List Int)) (a2_4:List (List Int)) (a2_5:List (List Int)) (a2_6:List (List Int)):Option Bool :=
 Option.bind (Option.bind (Gc a0 a1_0 a1_1 a1_2 a1_3 a1_4 a1_5 a1_6) fun y3 =>
 cond y3
  (Option.bind (Gc a0 a2_0 a2_1 a2_2 a2_3 a2_4 a2_5 a2_6) fun y5 =>
  cond y5
   (cond (a1_1==a2_1)
    (some (a1_2==a2_2))
    (some false))
   (some false))
  (some false)) fun l2_m6 =>
some l2_m6
def Acf (r:Bool):RV:=⟨false,[(false,[.sc (.bool r)])]⟩
theorem Ab5 {a0:Int} {a1_0:Int} {a1_1:Int} {a1_2:Int} {a1_3:List (List Int)} {a1_4:List (List Int)} {a1_5:List (List Int)} {a1_6:List (List Int)} {a2_0:Int} {a2_1:Int} {a2_2:Int} {a2_3:List (List Int)} {a2_4:List (List Int)} {a2_5:List (List Int)} {a2_6:List (List Int)} {r:Bool} (h:Id a0 a1_0 a1_1 a1_2 a1_3 a1_4 a1_5 a1_6 a2_0 a2_1 a2_2 a2_3 a2_4 a2_5 a2_6=some r):A1 Tryd.prog Tab 25 [ai a0,.agg [ai a1_0,ai a1_1,ai a1_2,.tree (.slice .int) a1_3,.tree (.slice .int) a1_4,.tree (.slice .int) a1_5,.tree (.slice .int) a1_6],.agg [ai a2_0,ai a2_1,ai a2_2,.tree (.slice .int) a2_3,.tree (.slice .int) a2_4,.tree (.slice .int) a2_5,.tree (.slice .int) a2_6]] (Acf r):=by
 refine Av (by kernel_rfl) Tryd.func25 Afh (n:=29) (by kernel_rfl) (by simp) (tl:=[(0,ai a0),(1,.agg [ai a1_0,ai a1_1,ai a1_2,.tree (.slice .int) a1_3,.tree (.slice .int) a1_4,.tree (.slice .int) a1_5,.tree (.slice .int) a1_6]),(2,.agg [ai a2_0,ai a2_1,ai a2_2,.tree (.slice .int) a2_3,.tree (.slice .int) a2_4,.tree (.slice .int) a2_5,.tree (.slice .int) a2_6])]) rfl ?_;unfold Tv;unfold Id at h;refine Al ?_;refine At h (fun (l2_m6:Bool) S_=>S_=⟨Am [(6,.bool l2_m6)],Ak (Ao []),2⟩) ?_ ?_
 ·intro v_ h;obtain ⟨y3,h3,h⟩:=Ae h;rcases Ad h with ⟨q4,h⟩ | ⟨q4,h⟩
  ·obtain ⟨y5,h5,h⟩:=Ae h;rcases Ad h with ⟨q6,h⟩ | ⟨q6,h⟩
   ·rcases Ad h with ⟨q7,h⟩ | ⟨q7,h⟩
    ·refine Aa 27 ?_;refine rz0 (ai a0) ?_;refine rzl (.agg [ai a1_0,ai a1_1,ai a1_2,.tree (.slice .int) a1_3,.tree (.slice .int) a1_4,.tree (.slice .int) a1_5,.tree (.slice .int) a1_6]) ?_;refine zc (.bool y3) [] [ai a0,.agg [ai a1_0,ai a1_1,ai a1_2,.tree (.slice .int) a1_3,.tree (.slice .int) a1_4,.tree (.slice .int) a1_5,.tree (.slice .int) a1_6]] (Eb h3) ?_;refine rz0 (.bool y3) ?_;refine rs0 (ai a0) (zg q4) ?_;refine rsl (.agg [ai a2_0,ai a2_1,ai a2_2,.tree (.slice .int) a2_3,.tree (.slice .int) a2_4,.tree (.slice .int) a2_5,.tree (.slice .int) a2_6]) (zg q4) ?_;refine Bk (.bool y5) [] [ai a0,.agg [ai a2_0,ai a2_1,ai a2_2,.tree (.slice .int) a2_3,.tree (.slice .int) a2_4,.tree (.slice .int) a2_5,.tree (.slice .int) a2_6]] _ (caps:=[]) (args0:=[ai a0,.agg [ai a2_0,ai a2_1,ai a2_2,.tree (.slice .int) a2_3,.tree (.slice .int) a2_4,.tree (.slice .int) a2_5,.tree (.slice .int) a2_6]]) (Bo (by kernel_rfl) q4) (by kernel_rfl) (Eb h5) Li ?_;refine rs0 (.bool y5) (zT q4) ?_;refine rz0 (.bool y5) ?_;refine rs0 (.box (oi 4 1) 1) (zg q6) ?_;refine rsl (ai a1_1) (zg q6) ?_;refine rs0 (.box (oi 5 2) 1) (zg q6) ?_;refine rsl (ai a2_1) (zg q6) ?_;refine rs0 (.bool (a1_1==a2_1)) (zg q6) ?_;refine rs0 (.bool (a1_1==a2_1)) (zT q6) ?_;refine rz0 (.bool (a1_1==a2_1)) ?_;refine rs0 (.box (oi 4 1) 2) (zg q7) ?_;refine rsl (ai a1_2) (zg q7) ?_;refine rs0 (.box (oi 5 2) 2) (zg q7) ?_;refine rsl (ai a2_2) (zg q7) ?_;refine rs0 (.bool (a1_2==a2_2)) (zg q7) ?_;refine rs0 (.bool (a1_2==a2_2)) (zT q7) ?_;refine rsB 1 ?_;refine Ap (tn_ ?_);obtain rfl:=zj h;exact ⟨_,Ac [],rfl⟩
    refine Aa 27 ?_;refine rz0 (ai a0) ?_;refine rzl (.agg [ai a1_0,ai a1_1,ai a1_2,.tree (.slice .int) a1_3,.tree (.slice .int) a1_4,.tree (.slice .int) a1_5,.tree (.slice .int) a1_6]) ?_;refine zc (.bool y3) [] [ai a0,.agg [ai a1_0,ai a1_1,ai a1_2,.tree (.slice .int) a1_3,.tree (.slice .int) a1_4,.tree (.slice .int) a1_5,.tree (.slice .int) a1_6]] (Eb h3) ?_;refine rz0 (.bool y3) ?_;refine rs0 (ai a0) (zg q4) ?_;refine rsl (.agg [ai a2_0,ai a2_1,ai a2_2,.tree (.slice .int) a2_3,.tree (.slice .int) a2_4,.tree (.slice .int) a2_5,.tree (.slice .int) a2_6]) (zg q4) ?_;refine Bk (.bool y5) [] [ai a0,.agg [ai a2_0,ai a2_1,ai a2_2,.tree (.slice .int) a2_3,.tree (.slice .int) a2_4,.tree (.slice .int) a2_5,.tree (.slice .int) a2_6]] _ (caps:=[]) (args0:=[ai a0,.agg [ai a2_0,ai a2_1,ai a2_2,.tree (.slice .int) a2_3,.tree (.slice .int) a2_4,.tree (.slice .int) a2_5,.tree (.slice .int) a2_6]]) (Bo (by kernel_rfl) q4) (by kernel_rfl) (Eb h5) Li ?_;refine rs0 (.bool y5) (zT q4) ?_;refine rz0 (.bool y5) ?_;refine rs0 (.box (oi 4 1) 1) (zg q6) ?_;refine rsl (ai a1_1) (zg q6) ?_;refine rs0 (.box (oi 5 2) 1) (zg q6) ?_;refine rsl (ai a2_1) (zg q6) ?_;refine rs0 (.bool (a1_1==a2_1)) (zg q6) ?_;refine rs0 (.bool (a1_1==a2_1)) (zT q6) ?_;refine rz0 (.bool (a1_1==a2_1)) ?_;refine zs q7 ?_;refine zs q7 ?_;refine zs q7 ?_;refine zs q7 ?_;refine zs q7 ?_;refine rs0 (.bool false) (zF q7) ?_;refine rsB 1 ?_;refine Ap (tn_ ?_);obtain rfl:=zj h;exact ⟨_,Ac [],rfl⟩
   refine Aa 27 ?_;refine rz0 (ai a0) ?_;refine rzl (.agg [ai a1_0,ai a1_1,ai a1_2,.tree (.slice .int) a1_3,.tree (.slice .int) a1_4,.tree (.slice .int) a1_5,.tree (.slice .int) a1_6]) ?_;refine zc (.bool y3) [] [ai a0,.agg [ai a1_0,ai a1_1,ai a1_2,.tree (.slice .int) a1_3,.tree (.slice .int) a1_4,.tree (.slice .int) a1_5,.tree (.slice .int) a1_6]] (Eb h3) ?_;refine rz0 (.bool y3) ?_;refine rs0 (ai a0) (zg q4) ?_;refine rsl (.agg [ai a2_0,ai a2_1,ai a2_2,.tree (.slice .int) a2_3,.tree (.slice .int) a2_4,.tree (.slice .int) a2_5,.tree (.slice .int) a2_6]) (zg q4) ?_;refine Bk (.bool y5) [] [ai a0,.agg [ai a2_0,ai a2_1,ai a2_2,.tree (.slice .int) a2_3,.tree (.slice .int) a2_4,.tree (.slice .int) a2_5,.tree (.slice .int) a2_6]] _ (caps:=[]) (args0:=[ai a0,.agg [ai a2_0,ai a2_1,ai a2_2,.tree (.slice .int) a2_3,.tree (.slice .int) a2_4,.tree (.slice .int) a2_5,.tree (.slice .int) a2_6]]) (Bo (by kernel_rfl) q4) (by kernel_rfl) (Eb h5) Li ?_;refine rs0 (.bool y5) (zT q4) ?_;refine rz0 (.bool y5) ?_;refine zs q6 ?_;refine zs q6 ?_;refine zs q6 ?_;refine zs q6 ?_;refine zs q6 ?_;refine rs0 (.bool false) (zF q6) ?_;refine rsB 8 ?_;refine Ap (tn_ ?_);obtain rfl:=zj h;exact ⟨_,Ac [],rfl⟩
  refine Aa 27 ?_;refine rz0 (ai a0) ?_;refine rzl (.agg [ai a1_0,ai a1_1,ai a1_2,.tree (.slice .int) a1_3,.tree (.slice .int) a1_4,.tree (.slice .int) a1_5,.tree (.slice .int) a1_6]) ?_;refine zc (.bool y3) [] [ai a0,.agg [ai a1_0,ai a1_1,ai a1_2,.tree (.slice .int) a1_3,.tree (.slice .int) a1_4,.tree (.slice .int) a1_5,.tree (.slice .int) a1_6]] (Eb h3) ?_;refine rz0 (.bool y3) ?_;refine zs q4 ?_;refine zs q4 ?_;refine zs q4 ?_;refine rs0 (.bool false) (zF q4) ?_;refine rsB 15 ?_;refine Ap (tn_ ?_);obtain rfl:=zj h;exact ⟨_,Ac [],rfl⟩
 rintro l2_m6 _ rfl h
 (try dsimp only at h);refine Ah ?_;obtain rfl:=zj h;exact Bm [.bool l2_m6] (Aw rfl zl Ay)
def Oh:AC :=
 (.seq (rg [xo 4 (.i (.box 31 (tm 1))),xo 5 (.i (.box 31 (tm 2))),xo 6 (.i (.alloc 41 [.int .i64 0,.int .i64 0,.int .i64 0,.nils,.nils,.nils,.nils])),xo 7 (.i (.alloc 41 [.int .i64 0,.int .i64 0,.int .i64 0,.nils,.nils,.nils,.nils])),xo 8 (qm (cb false))])
 (.seq (rg [xo 14 (qm (tm 0)),xo 15 (.i (.ld false 3 (tm 4))),⟨some 16,none,qc 24 [tm 14,tm 15] [[],[none,some T4,some .int]]⟩,xo 13 (qm (tm 16)),xo 17 (.i (.extr 0 (tm 13))),xo 18 (.i (.extr 1 (tm 13))),xo 9 (.i (.alloc 41 [.int .i64 0,.int .i64 0,.int .i64 0,.nils,.nils,.nils,.nils])),xn (.st false 7 (tm 9) (tm 17)),xo 10 (qm (tm 18))])
 (.seq (rg [xo 20 (qm (tm 0)),xo 21 (.i (.ld false 3 (tm 5))),⟨some 22,none,qc 24 [tm 20,tm 21] [[],[none,some T4,some .int]]⟩,xo 19 (qm (tm 22)),xo 23 (.i (.extr 0 (tm 19))),xo 24 (.i (.extr 1 (tm 19))),xo 11 (.i (.alloc 41 [.int .i64 0,.int .i64 0,.int .i64 0,.nils,.nils,.nils,.nils])),xn (.st false 7 (tm 11) (tm 23)),xo 12 (qm (tm 24))])
 (.seq (.region [xo 25 (.i (.ld false 7 (tm 9))),xo 26 (.i (.ld false 7 (tm 11))),xo 27 (qm (tm 10)),xo 28 (qm (tm 27)),⟨some 29,some (28,true),qm (tm 12)⟩,xo 30 (.i (.pick (tm 28) (tm 29) (cb false))),xo 31 (qm (tm 30)),⟨some 32,some (31,true),qm (tm 0)⟩,⟨some 33,some (31,true),.i (.ld false 7 (tm 9))⟩,⟨some 34,some (31,true),.i (.ld false 7 (tm 11))⟩,⟨some 35,some (31,true),qc 25 [tm 32,tm 33,tm 34] [[],[none,none,none,some (.slice .int),some (.slice .int),some (.slice .int),some (.slice .int)],[none,none,none,some (.slice .int),some (.slice .int),some (.slice .int),some (.slice .int)]]⟩,xo 36 (.i (.pick (tm 31) (tm 35) (cb false))),xn (.st false 7 (tm 6) (tm 25)),xn (.st false 7 (tm 7) (tm 26)),xo 8 (qm (tm 36))] true [(0,10),(1,10),(1,12)])
 .ret))))
def Wv:List Res:=[.cell 6 false 7,.cell 7 false 7,.tmp 8]
theorem Xg:Aq Tryd.prog Tryd.f14=some (Oh,Wv):=by kernel_rfl
def Ek (a0:Int) (a1_0:Int) (a1_1:List (Int×Int×Int×Int)) (a1_2:List Int) (a2_0:Int) (a2_1:List (Int×Int×Int×Int)) (a2_2:List Int):Option (Int×Int×Int×List (List Int)×List (List Int)×List (List Int)×List (List Int)×Int×Int×Int×List (List Int)×List (List Int)×List (List Int)×List (List Int)×Bool) :=
 Option.bind (Ci a0 a1_0 a1_1 a1_2) fun y3 =>
Option.bind (Ci a0 a2_0 a2_1 a2_2) fun y5 =>
Option.bind (cond y3.2.2.2.2.2.2.2
  (cond y5.2.2.2.2.2.2.2
   (Option.bind (Id a0 y3.1 y3.2.1 y3.2.2.1 y3.2.2.2.1 y3.2.2.2.2.1 y3.2.2.2.2.2.1 y3.2.2.2.2.2.2.1 y5.1 y5.2.1 y5.2.2.1 y5.2.2.2.1 y5.2.2.2.2.1 y5.2.2.2.2.2.1 y5.2.2.2.2.2.2.1) fun y9 =>
   some y9)
   (some false))
  (some false)) fun l6_m8 =>
some (y3.1,y3.2.1,y3.2.2.1,y3.2.2.2.1,y3.2.2.2.2.1,y3.2.2.2.2.2.1,y3.2.2.2.2.2.2.1,y5.1,y5.2.1,y5.2.2.1,y5.2.2.2.1,y5.2.2.2.2.1,y5.2.2.2.2.2.1,y5.2.2.2.2.2.2.1,l6_m8)
def Vq (r:Int×Int×Int×List (List Int)×List (List Int)×List (List Int)×List (List Int)×Int×Int×Int×List (List Int)×List (List Int)×List (List Int)×List (List Int)×Bool):RV:=⟨true,[(true,[.sc (.int .i64 r.1),.sc (.int .i64 r.2.1),.sc (.int .i64 r.2.2.1),.frz (.tree (.slice .int) r.2.2.2.1),.frz (.tree (.slice .int) r.2.2.2.2.1),.frz (.tree (.slice .int) r.2.2.2.2.2.1),.frz (.tree (.slice .int) r.2.2.2.2.2.2.1)]),(true,[.sc (.int .i64 r.2.2.2.2.2.2.2.1),.sc (.int .i64 r.2.2.2.2.2.2.2.2.1),.sc (.int .i64 r.2.2.2.2.2.2.2.2.2.1),.frz (.tree (.slice .int) r.2.2.2.2.2.2.2.2.2.2.1),.frz (.tree (.slice .int) r.2.2.2.2.2.2.2.2.2.2.2.1),.frz (.tree (.slice .int) r.2.2.2.2.2.2.2.2.2.2.2.2.1),.frz (.tree (.slice .int) r.2.2.2.2.2.2.2.2.2.2.2.2.2.1)]),(false,[.sc (.bool r.2.2.2.2.2.2.2.2.2.2.2.2.2.2)])]⟩
theorem Vk {a0:Int} {a1_0:Int} {a1_1:List (Int×Int×Int×Int)} {a1_2:List Int} {a2_0:Int} {a2_1:List (Int×Int×Int×Int)} {a2_2:List Int} {r:Int×Int×Int×List (List Int)×List (List Int)×List (List Int)×List (List Int)×Int×Int×Int×List (List Int)×List (List Int)×List (List Int)×List (List Int)×Bool} (h:Ek a0 a1_0 a1_1 a1_2 a2_0 a2_1 a2_2=some r):A1 Tryd.prog Tab 14 [ai a0,.agg [ai a1_0,.tree T4 a1_1,.tree .int a1_2],.agg [ai a2_0,.tree T4 a2_1,.tree .int a2_2]] (Vq r):=by
 refine Gr (by kernel_rfl) Tryd.func14 Xg (n:=37) (by kernel_rfl) (by simp) (tl:=[(0,ai a0),(1,.agg [ai a1_0,.tree T4 a1_1,.tree .int a1_2]),(2,.agg [ai a2_0,.tree T4 a2_1,.tree .int a2_2])]) rfl fun nz_=>?_
 unfold Oh;unfold Ek at h;refine Al ?_;refine Ab ?_;obtain ⟨y3,h3,h⟩:=Ae h;refine Aa 15 ?_;refine rz0 (ai a0) ?_;refine rzl (.agg [ai a1_0,.tree T4 a1_1,.tree .int a1_2]) ?_;refine Bk (.tup [.agg [ai y3.1,ai y3.2.1,ai y3.2.2.1,.ftr nz_ (.slice .int) y3.2.2.2.1,.ftr nz_ (.slice .int) y3.2.2.2.2.1,.ftr nz_ (.slice .int) y3.2.2.2.2.2.1,.ftr nz_ (.slice .int) y3.2.2.2.2.2.2.1],.bool y3.2.2.2.2.2.2.2]) [] [ai a0,.agg [ai a1_0,.tree T4 a1_1,.tree .int a1_2]] _ (caps:=[]) (args0:=[ai a0,.agg [ai a1_0,.tree T4 a1_1,.tree .int a1_2]]) trivial (by kernel_rfl) (Ni (Ir h3)) Iw ?_;refine rsB 6 ?_;refine Ap (tn_ ?_);refine wr_ ?_;refine Ab ?_;obtain ⟨y5,h5,h⟩:=Ae h;refine Aa 24 ?_;refine rz0 (ai a0) ?_;refine rzl (.agg [ai a2_0,.tree T4 a2_1,.tree .int a2_2]) ?_;refine Bk (.tup [.agg [ai y5.1,ai y5.2.1,ai y5.2.2.1,.ftr nz_ (.slice .int) y5.2.2.2.1,.ftr nz_ (.slice .int) y5.2.2.2.2.1,.ftr nz_ (.slice .int) y5.2.2.2.2.2.1,.ftr nz_ (.slice .int) y5.2.2.2.2.2.2.1],.bool y5.2.2.2.2.2.2.2]) [] [ai a0,.agg [ai a2_0,.tree T4 a2_1,.tree .int a2_2]] _ (caps:=[]) (args0:=[ai a0,.agg [ai a2_0,.tree T4 a2_1,.tree .int a2_2]]) trivial (by kernel_rfl) (Ni (Ir h5)) Iw ?_;refine rsB 6 ?_;refine Ap (tn_ ?_);refine wr_ ?_;refine At h (fun (l6_m8:Bool) S_=>S_=⟨Am [(6,.box (oi 0 1) 0),(7,.box (oi 1 1) 0),(8,.bool l6_m8)],Ak (Ao [(oi 0 1,.cells 41 [ai y3.1,ai y3.2.1,ai y3.2.2.1,.ftr nz_ (.slice .int) y3.2.2.2.1,.ftr nz_ (.slice .int) y3.2.2.2.2.1,.ftr nz_ (.slice .int) y3.2.2.2.2.2.1,.ftr nz_ (.slice .int) y3.2.2.2.2.2.2.1]),(oi 1 1,.cells 41 [ai y5.1,ai y5.2.1,ai y5.2.2.1,.ftr nz_ (.slice .int) y5.2.2.2.1,.ftr nz_ (.slice .int) y5.2.2.2.2.1,.ftr nz_ (.slice .int) y5.2.2.2.2.2.1,.ftr nz_ (.slice .int) y5.2.2.2.2.2.2.1])]),2⟩) ?_ ?_
 ·intro v_ h;rcases Ad h with ⟨q7,h⟩ | ⟨q7,h⟩
  ·rcases Ad h with ⟨q8,h⟩ | ⟨q8,h⟩
   ·obtain ⟨y9,h9,h⟩:=Ae h;refine Az 39 ?_;refine dzl (.agg [ai y3.1,ai y3.2.1,ai y3.2.2.1,.ftr nz_ (.slice .int) y3.2.2.2.1,.ftr nz_ (.slice .int) y3.2.2.2.2.1,.ftr nz_ (.slice .int) y3.2.2.2.2.2.1,.ftr nz_ (.slice .int) y3.2.2.2.2.2.2.1]) ?_;refine dzl (.agg [ai y5.1,ai y5.2.1,ai y5.2.2.1,.ftr nz_ (.slice .int) y5.2.2.2.1,.ftr nz_ (.slice .int) y5.2.2.2.2.1,.ftr nz_ (.slice .int) y5.2.2.2.2.2.1,.ftr nz_ (.slice .int) y5.2.2.2.2.2.2.1]) ?_;refine dz0 (.bool y3.2.2.2.2.2.2.2) ?_;refine dz0 (.bool y3.2.2.2.2.2.2.2) ?_;refine ds0 (.bool y5.2.2.2.2.2.2.2) (zg q7) ?_;refine ds0 (.bool y5.2.2.2.2.2.2.2) (zT q7) ?_;refine dz0 (.bool y5.2.2.2.2.2.2.2) ?_;refine ds0 (ai a0) (zg q8) ?_;refine dsl (.agg [ai y3.1,ai y3.2.1,ai y3.2.2.1,.ftr nz_ (.slice .int) y3.2.2.2.1,.ftr nz_ (.slice .int) y3.2.2.2.2.1,.ftr nz_ (.slice .int) y3.2.2.2.2.2.1,.ftr nz_ (.slice .int) y3.2.2.2.2.2.2.1]) (zg q8) ?_;refine dsl (.agg [ai y5.1,ai y5.2.1,ai y5.2.2.1,.ftr nz_ (.slice .int) y5.2.2.2.1,.ftr nz_ (.slice .int) y5.2.2.2.2.1,.ftr nz_ (.slice .int) y5.2.2.2.2.2.1,.ftr nz_ (.slice .int) y5.2.2.2.2.2.2.1]) (zg q8) ?_;refine Cp (.bool y9) [] [ai a0,.agg [ai y3.1,ai y3.2.1,ai y3.2.2.1,.ftr nz_ (.slice .int) y3.2.2.2.1,.ftr nz_ (.slice .int) y3.2.2.2.2.1,.ftr nz_ (.slice .int) y3.2.2.2.2.2.1,.ftr nz_ (.slice .int) y3.2.2.2.2.2.2.1],.agg [ai y5.1,ai y5.2.1,ai y5.2.2.1,.ftr nz_ (.slice .int) y5.2.2.2.1,.ftr nz_ (.slice .int) y5.2.2.2.2.1,.ftr nz_ (.slice .int) y5.2.2.2.2.2.1,.ftr nz_ (.slice .int) y5.2.2.2.2.2.2.1]] _ (caps:=[]) (args0:=[ai a0,.agg [ai y3.1,ai y3.2.1,ai y3.2.2.1,.tree (.slice .int) y3.2.2.2.1,.tree (.slice .int) y3.2.2.2.2.1,.tree (.slice .int) y3.2.2.2.2.2.1,.tree (.slice .int) y3.2.2.2.2.2.2.1],.agg [ai y5.1,ai y5.2.1,ai y5.2.2.1,.tree (.slice .int) y5.2.2.2.1,.tree (.slice .int) y5.2.2.2.2.1,.tree (.slice .int) y5.2.2.2.2.2.1,.tree (.slice .int) y5.2.2.2.2.2.2.1]]) (Bo (by kernel_rfl) q8) (by kernel_rfl) (F7 (Ab5 h9)) Abg ?_;refine ds0 (.bool y9) (zT q8) ?_;refine Kn (oi 6 3) (oi 6 3) (.cells 41 [ai y3.1,ai y3.2.1,ai y3.2.2.1,.ftr nz_ (.slice .int) y3.2.2.2.1,.ftr nz_ (.slice .int) y3.2.2.2.2.1,.ftr nz_ (.slice .int) y3.2.2.2.2.2.1,.ftr nz_ (.slice .int) y3.2.2.2.2.2.2.1]) (by kernel_rfl) ?_;refine Kn (oi 7 4) (oi 7 4) (.cells 41 [ai y5.1,ai y5.2.1,ai y5.2.2.1,.ftr nz_ (.slice .int) y5.2.2.2.1,.ftr nz_ (.slice .int) y5.2.2.2.2.1,.ftr nz_ (.slice .int) y5.2.2.2.2.2.1,.ftr nz_ (.slice .int) y5.2.2.2.2.2.2.1]) (by kernel_rfl) ?_;refine dz0 (.bool y9) ?_;refine Gg (Bg (by kernel_rfl)) (tn_ ?_);obtain rfl:=zj h;exact ⟨_,Ac [(oi 0 1,oi 6 3),(oi 1 1,oi 7 4)],rfl⟩
   refine Az 39 ?_;refine dzl (.agg [ai y3.1,ai y3.2.1,ai y3.2.2.1,.ftr nz_ (.slice .int) y3.2.2.2.1,.ftr nz_ (.slice .int) y3.2.2.2.2.1,.ftr nz_ (.slice .int) y3.2.2.2.2.2.1,.ftr nz_ (.slice .int) y3.2.2.2.2.2.2.1]) ?_;refine dzl (.agg [ai y5.1,ai y5.2.1,ai y5.2.2.1,.ftr nz_ (.slice .int) y5.2.2.2.1,.ftr nz_ (.slice .int) y5.2.2.2.2.1,.ftr nz_ (.slice .int) y5.2.2.2.2.2.1,.ftr nz_ (.slice .int) y5.2.2.2.2.2.2.1]) ?_;refine dz0 (.bool y3.2.2.2.2.2.2.2) ?_;refine dz0 (.bool y3.2.2.2.2.2.2.2) ?_;refine ds0 (.bool y5.2.2.2.2.2.2.2) (zg q7) ?_;refine ds0 (.bool y5.2.2.2.2.2.2.2) (zT q7) ?_;refine dz0 (.bool y5.2.2.2.2.2.2.2) ?_;refine ds0 (.tup []) (S8 (by kernel_rfl) q8) ?_;refine ds0 (.tup []) (S8 (by kernel_rfl) q8) ?_;refine ds0 (.tup []) (S8 (by kernel_rfl) q8) ?_;refine ds0 (.tup []) (S8 (by kernel_rfl) q8) ?_;refine ds0 (.bool false) (zF q8) ?_;refine Kn (oi 6 3) (oi 6 3) (.cells 41 [ai y3.1,ai y3.2.1,ai y3.2.2.1,.ftr nz_ (.slice .int) y3.2.2.2.1,.ftr nz_ (.slice .int) y3.2.2.2.2.1,.ftr nz_ (.slice .int) y3.2.2.2.2.2.1,.ftr nz_ (.slice .int) y3.2.2.2.2.2.2.1]) (by kernel_rfl) ?_;refine Kn (oi 7 4) (oi 7 4) (.cells 41 [ai y5.1,ai y5.2.1,ai y5.2.2.1,.ftr nz_ (.slice .int) y5.2.2.2.1,.ftr nz_ (.slice .int) y5.2.2.2.2.1,.ftr nz_ (.slice .int) y5.2.2.2.2.2.1,.ftr nz_ (.slice .int) y5.2.2.2.2.2.2.1]) (by kernel_rfl) ?_;refine dz0 (.bool false) ?_;refine Gg (Bg (by kernel_rfl)) (tn_ ?_);obtain rfl:=zj h;exact ⟨_,Ac [(oi 0 1,oi 6 3),(oi 1 1,oi 7 4)],rfl⟩
  refine Az 39 ?_;refine dzl (.agg [ai y3.1,ai y3.2.1,ai y3.2.2.1,.ftr nz_ (.slice .int) y3.2.2.2.1,.ftr nz_ (.slice .int) y3.2.2.2.2.1,.ftr nz_ (.slice .int) y3.2.2.2.2.2.1,.ftr nz_ (.slice .int) y3.2.2.2.2.2.2.1]) ?_;refine dzl (.agg [ai y5.1,ai y5.2.1,ai y5.2.2.1,.ftr nz_ (.slice .int) y5.2.2.2.1,.ftr nz_ (.slice .int) y5.2.2.2.2.1,.ftr nz_ (.slice .int) y5.2.2.2.2.2.1,.ftr nz_ (.slice .int) y5.2.2.2.2.2.2.1]) ?_;refine dz0 (.bool y3.2.2.2.2.2.2.2) ?_;refine dz0 (.bool y3.2.2.2.2.2.2.2) ?_;refine ds0 (.tup []) (S8 (by kernel_rfl) q7) ?_;refine ds0 (.bool false) (zF q7) ?_;refine dz0 (.bool false) ?_;refine dz0 (.tup []) ?_;refine dz0 (.tup []) ?_;refine dz0 (.tup []) ?_;refine dz0 (.tup []) ?_;refine dz0 (.bool false) ?_;refine Kn (oi 6 3) (oi 6 3) (.cells 41 [ai y3.1,ai y3.2.1,ai y3.2.2.1,.ftr nz_ (.slice .int) y3.2.2.2.1,.ftr nz_ (.slice .int) y3.2.2.2.2.1,.ftr nz_ (.slice .int) y3.2.2.2.2.2.1,.ftr nz_ (.slice .int) y3.2.2.2.2.2.2.1]) (by kernel_rfl) ?_;refine Kn (oi 7 4) (oi 7 4) (.cells 41 [ai y5.1,ai y5.2.1,ai y5.2.2.1,.ftr nz_ (.slice .int) y5.2.2.2.1,.ftr nz_ (.slice .int) y5.2.2.2.2.1,.ftr nz_ (.slice .int) y5.2.2.2.2.2.1,.ftr nz_ (.slice .int) y5.2.2.2.2.2.2.1]) (by kernel_rfl) ?_;refine dz0 (.bool false) ?_;refine Gg (Bg (by kernel_rfl)) (tn_ ?_);obtain rfl:=zj h;exact ⟨_,Ac [(oi 0 1,oi 6 3),(oi 1 1,oi 7 4)],rfl⟩
 rintro l6_m8 _ rfl h
 (try dsimp only at h);refine Ah ?_;obtain rfl:=zj h;exact Lw [(true,[ai y3.1,ai y3.2.1,ai y3.2.2.1,.ftr nz_ (.slice .int) y3.2.2.2.1,.ftr nz_ (.slice .int) y3.2.2.2.2.1,.ftr nz_ (.slice .int) y3.2.2.2.2.2.1,.ftr nz_ (.slice .int) y3.2.2.2.2.2.2.1]),(true,[ai y5.1,ai y5.2.1,ai y5.2.2.1,.ftr nz_ (.slice .int) y5.2.2.2.1,.ftr nz_ (.slice .int) y5.2.2.2.2.1,.ftr nz_ (.slice .int) y5.2.2.2.2.2.1,.ftr nz_ (.slice .int) y5.2.2.2.2.2.2.1]),(false,[.bool l6_m8])] (Ky (Ax Cs (Ax Cs (Ax Cs (Ax (Bp .ftr) (Ax (Bp .ftr) (Ax (Bp .ftr) (Ax (Bp .ftr) K5))))))) (Ky (Ax Cs (Ax Cs (Ax Cs (Ax (Bp .ftr) (Ax (Bp .ftr) (Ax (Bp .ftr) (Ax (Bp .ftr) K5))))))) (Jg Cs Il)))
def Hi:AC :=
 (.seq (rg [xo 59 (qb .lss (tm 58) (tm 57))])
 (.seq (.cond (tm 59)
  .skip
  (.exit 2))
 (.seq (.block 3 (.seq (rg [xo 60 (qm (tm 58)),xo 11 (qm (tm 60))])
 (.seq (.region [xo 62 (.i (.ld false 3 (tm 3))),xo 63 (qm (tm 0)),xo 64 (qm (tm 6)),xo 65 (qc 47 [tm 64] [[]]),xo 66 (qf 0 (tm 3)),xo 67 (ql (tm 66)),xo 68 (qm (tm 11)),xo 69 (qc 46 [tm 67,tm 68] [[],[]]),⟨some 70,none,qc 45 [tm 62,tm 63,tm 65,tm 69] [[none,some T4,some .int],[],[some .int],[some .int]]⟩,xo 61 (qm (tm 70)),xo 71 (.i (.extr 0 (tm 61))),xo 72 (.i (.extr 1 (tm 61))),xo 12 (qm (tm 71)),xo 13 (qm (tm 72))] true [(0,3),(3,5),(0,7)])
 (.region [xo 73 (qf 4 (tm 7)),xo 74 (ql (tm 73)),xo 75 (qm (tm 12)),xo 76 (.mkV 23 (.slice .int) 1 [tm 75]),xo 77 (.appV 23 (.slice .int) 24 (tm 74) (tm 76)),xo 78 (qf 6 (tm 7)),xo 79 (ql (tm 78)),xo 80 (qm (tm 13)),xo 81 (.mkV 23 (.slice .int) 1 [tm 80]),xo 82 (.appV 23 (.slice .int) 24 (tm 79) (tm 81)),xo 83 (qf 4 (tm 7)),xn (qs (tm 83) (tm 77)),xo 84 (qf 6 (tm 7)),xn (qs (tm 84) (tm 82))] true [(1,3),(3,6),(4,6),(1,8),(3,8),(4,8),(6,8)]))))
 (rg [xo 85 (qb .add (tm 58) (ci 1)),xo 58 (qm (tm 85))]))))
def Hl:AC :=
 (.seq (rg [xo 29 (qb .lss (tm 28) (tm 27))])
 (.seq (.cond (tm 29)
  .skip
  (.exit 0))
 (.seq (.block 1 (.seq (rg [xo 30 (qm (tm 28)),xo 8 (qm (tm 30))])
 (.seq (.region [xo 32 (.i (.ld false 3 (tm 3))),xo 33 (qm (tm 0)),xo 34 (qm (tm 6)),xo 35 (qm (tm 8)),xo 36 (qc 46 [tm 34,tm 35] [[],[]]),xo 37 (qf 0 (tm 3)),xo 38 (ql (tm 37)),xo 39 (qc 47 [tm 38] [[]]),⟨some 40,none,qc 45 [tm 32,tm 33,tm 36,tm 39] [[none,some T4,some .int],[],[some .int],[some .int]]⟩,xo 31 (qm (tm 40)),xo 41 (.i (.extr 0 (tm 31))),xo 42 (.i (.extr 1 (tm 31))),xo 9 (qm (tm 41)),xo 10 (qm (tm 42))] true [(0,4),(4,6),(0,7)])
 (.region [xo 43 (qf 3 (tm 7)),xo 44 (ql (tm 43)),xo 45 (qm (tm 9)),xo 46 (.mkV 23 (.slice .int) 1 [tm 45]),xo 47 (.appV 23 (.slice .int) 24 (tm 44) (tm 46)),xo 48 (qf 5 (tm 7)),xo 49 (ql (tm 48)),xo 50 (qm (tm 10)),xo 51 (.mkV 23 (.slice .int) 1 [tm 50]),xo 52 (.appV 23 (.slice .int) 24 (tm 49) (tm 51)),xo 53 (qf 3 (tm 7)),xn (qs (tm 53) (tm 47)),xo 54 (qf 5 (tm 7)),xn (qs (tm 54) (tm 52))] true [(1,3),(3,6),(4,6),(1,8),(3,8),(4,8),(6,8)]))))
 (rg [xo 55 (qb .add (tm 28) (ci 1)),xo 28 (qm (tm 55))]))))
def I3:AC :=
 (.seq (rg [xo 3 (.i (.box 31 (tm 1))),xo 4 (.i (.alloc 41 [.int .i64 0,.int .i64 0,.int .i64 0,.nils,.nils,.nils,.nils])),xo 5 (qm (cb false))])
 (.seq (rg [xo 14 (.i (.ld false 3 (tm 3))),⟨some 15,none,qc 44 [tm 14] [[none,some T4,some .int]]⟩,xo 16 (.i (.len (tm 15))),xo 6 (qm (tm 16))])
 (.seq (.seq (rg [xo 17 (qm (tm 6)),xo 18 (qb .gtr (tm 17) (ci 24))])
 (.cond (tm 18)
  (.seq (rg [xo 19 (.build [.int .i64 0,.int .i64 0,.int .i64 0,.nils,.nils,.nils,.nils] []),xn (.st false 7 (tm 4) (tm 19)),xo 5 (qm (cb false))])
  .ret)
  .skip))
 (.seq (rg [xo 20 (qm (tm 6)),xo 21 (qf 0 (tm 3)),xo 22 (ql (tm 21)),xo 23 (qf 2 (tm 3)),xo 24 (ql (tm 23)),xo 25 (.i (.len (tm 24))),xo 26 (.build [.int .i64 0,.int .i64 0,.int .i64 0,.nils,.nils,.nils,.nils] [(0,1,tm 20),(1,1,tm 22),(2,1,tm 25)]),xo 7 (.i (.alloc 41 [.int .i64 0,.int .i64 0,.int .i64 0,.nils,.nils,.nils,.nils])),xn (.st false 7 (tm 7) (tm 26))])
 (.seq (.seq (rg [xo 27 (qm (tm 6)),xo 28 (qm (ci 0))])
 (.block 0 (.loop Hl)))
 (.seq (.seq (rg [xo 56 (qf 0 (tm 3)),xo 57 (ql (tm 56)),xo 58 (qm (ci 0))])
 (.block 2 (.loop Hi)))
 (.seq (rg [xo 86 (.i (.ld false 7 (tm 7))),xn (.st false 7 (tm 4) (tm 86)),xo 5 (qm (cb true))])
 .ret)))))))
def O4:List Res:=[.cell 4 false 7,.tmp 5]
theorem O9:Aq Tryd.prog Tryd.f30=some (I3,O4):=by kernel_rfl
theorem Iy:Ba Tryd.prog 30=true:=by kernel_rfl
def Cj (y3:List Int) (a1_0:Int) (a1_1:List (Int×Int×Int×Int)) (a1_2:List Int) (a0:Int) (l11_m28:Nat) (l11_m7_3:List (List Int)) (l11_m7_5:List (List Int)):Option (Ctl (Nat×List (List Int)×List (List Int)) (List (List Int)×List (List Int))) :=
 cond (decide (((l11_m28:Nat):Int)<((y3.length:Nat):Int)))
 (Option.bind (Fp ((y3.length:Nat):Int) ((l11_m28:Nat):Int)) fun y18 =>
 Option.bind (De a1_0) fun y19 =>
 Option.bind (Cy a1_0 a1_1 a1_2 a0 y18 y19) fun y20 =>
 og (l11_m7_3.length+1<=1073741824∧(l11_m7_3.length+1)*24<=140737488355328) <|
 og (l11_m7_5.length+1<=1073741824∧(l11_m7_5.length+1)*24<=140737488355328) <|
 og (l11_m28+1<4611686018427387904) <|
 some (Ctl.next (l11_m28+1,l11_m7_3++[y20.1],l11_m7_5++[y20.2])))
 (some (Ctl.out (l11_m7_3,l11_m7_5)))
def Ck (a1_0:Int) (y3:List Int) (a1_1:List (Int×Int×Int×Int)) (a1_2:List Int) (a0:Int) (l26_m58:Nat) (l26_m7_4:List (List Int)) (l26_m7_6:List (List Int)):Option (Ctl (Nat×List (List Int)×List (List Int)) (List (List Int)×List (List Int))) :=
 cond (decide (((l26_m58:Nat):Int)<a1_0))
 (Option.bind (De ((y3.length:Nat):Int)) fun y33 =>
 Option.bind (Fp a1_0 ((l26_m58:Nat):Int)) fun y34 =>
 Option.bind (Cy a1_0 a1_1 a1_2 a0 y33 y34) fun y35 =>
 og (l26_m7_4.length+1<=1073741824∧(l26_m7_4.length+1)*24<=140737488355328) <|
 og (l26_m7_6.length+1<=1073741824∧(l26_m7_6.length+1)*24<=140737488355328) <|
 og (l26_m58+1<4611686018427387904) <|
 some (Ctl.next (l26_m58+1,l26_m7_4++[y35.1],l26_m7_6++[y35.2])))
 (some (Ctl.out (l26_m7_4,l26_m7_6)))
def Ch (a0:Int) (a1_0:Int) (a1_1:List (Int×Int×Int×Int)) (a1_2:List Int):Option (Int×Int×Int×List (List Int)×List (List Int)×List (List Int)×List (List Int)×Bool) :=
 Option.bind (C9 a1_0 a1_1 a1_2) fun y3 =>
cond (decide (24<((y3.length:Nat):Int)))
 (some (0,0,0,[],[],[],[],false))
 (Option.bind (A3 (fun s_:Nat×List (List Int)×List (List Int)=>Cj y3 a1_0 a1_1 a1_2 a0 s_.1 s_.2.1 s_.2.2) 4611686018427387904 (0,([]:List (List Int)),([]:List (List Int)))) fun (l9_m7_3,l9_m7_5) =>
 Option.bind (A3 (fun s_:Nat×List (List Int)×List (List Int)=>Ck a1_0 y3 a1_1 a1_2 a0 s_.1 s_.2.1 s_.2.2) 4611686018427387904 (0,([]:List (List Int)),([]:List (List Int)))) fun (l24_m7_4,l24_m7_6) =>
 some (((y3.length:Nat):Int),a1_0,((a1_2.length:Nat):Int),l9_m7_3,l24_m7_4,l9_m7_5,l24_m7_6,true))
def Oa (r:Int×Int×Int×List (List Int)×List (List Int)×List (List Int)×List (List Int)×Bool):RV:=⟨true,[(true,[.sc (.int .i64 r.1),.sc (.int .i64 r.2.1),.sc (.int .i64 r.2.2.1),.frz (.tree (.slice .int) r.2.2.2.1),.frz (.tree (.slice .int) r.2.2.2.2.1),.frz (.tree (.slice .int) r.2.2.2.2.2.1),.frz (.tree (.slice .int) r.2.2.2.2.2.2.1)]),(false,[.sc (.bool r.2.2.2.2.2.2.2)])]⟩
theorem Ie {a0:Int} {a1_0:Int} {a1_1:List (Int×Int×Int×Int)} {a1_2:List Int} {r:Int×Int×Int×List (List Int)×List (List Int)×List (List Int)×List (List Int)×Bool} (h:Ch a0 a1_0 a1_1 a1_2=some r):A1 Tryd.prog Tab 30 [ai a0,.agg [ai a1_0,.tree T4 a1_1,.tree .int a1_2]] (Oa r):=by
 refine Gr (by kernel_rfl) Tryd.func30 O9 (n:=87) (by kernel_rfl) (by simp) (tl:=[(0,ai a0),(1,.agg [ai a1_0,.tree T4 a1_1,.tree .int a1_2])]) rfl fun nz_=>?_
 unfold I3;unfold Ch at h;refine Al ?_;refine Ab ?_;obtain ⟨y3,h3,h⟩:=Ae h;refine Aa 8 ?_;refine rzl (.agg [ai a1_0,.tree T4 a1_1,.tree .int a1_2]) ?_;refine Bk (.own (oi 240 5) .int 0 y3.length) [(oi 240 5,some (.arr 3 .int y3))] [.agg [ai a1_0,.tree T4 a1_1,.tree .int a1_2]] _ (caps:=[]) (args0:=[.agg [ai a1_0,.tree T4 a1_1,.tree .int a1_2]]) trivial (by kernel_rfl) (F7 (Iq h3)) N5 ?_;refine rsB 2 ?_;refine Ap (tn_ ?_);refine wr_ ?_;refine Ab ?_;refine Al ?_;rcases Ad h with ⟨q6,h⟩ | ⟨q6,h⟩
 ·have q6_:=of_decide_eq_true q6;refine Ag q6 ?_;refine Al ?_;refine Ah (tr_ ?_);obtain rfl:=zj h;exact Lw [(true,[ai 0,ai 0,ai 0,.nils,.nils,.nils,.nils]),(false,[.bool false])] (Ky (Ax Cs (Ax Cs (Ax Cs (Ax (Bp (t:=.slice .int) (xs:=[]) .nil) (Ax (Bp (t:=.slice .int) (xs:=[]) .nil) (Ax (Bp (t:=.slice .int) (xs:=[]) .nil) (Ax (Bp (t:=.slice .int) (xs:=[]) .nil) K5))))))) (Jg Cs Il))
 have q6_:=of_decide_eq_false q6;refine Af q6 ?_;refine Aj (tn_ ?_);refine wr_ ?_;refine Al ?_;refine At h (fun t_ S_=>∃ (l9_m7_3:List (List Int)),∃ (l9_m7_5:List (List Int)),t_=(l9_m7_3,l9_m7_5)∧S_=⟨Am [(0,ai a0),(3,.box (oi 0 1) 0),(4,.box (oi 1 1) 0),(6,ai ((y3.length:Nat):Int)),(7,.box (oi 2 1) 0)],Ak (Ao [(oi 0 1,.cells 31 [ai a1_0,.tree T4 a1_1,.tree .int a1_2]),(oi 1 1,.cells 41 [ai 0,ai 0,ai 0,.nils,.nils,.nils,.nils]),(oi 2 1,.cells 41 [ai ((y3.length:Nat):Int),ai a1_0,ai ((a1_2.length:Nat):Int),.own (oi 3 1) (.slice .int) 0 l9_m7_3.length,.nils,.own (oi 5 1) (.slice .int) 0 l9_m7_5.length,.nils]),(oi 3 1,.mat 23 (oi 4 1) .int l9_m7_3),(oi 4 1,.pool 3 .int l9_m7_3),(oi 5 1,.mat 23 (oi 6 1) .int l9_m7_5),(oi 6 1,.pool 3 .int l9_m7_5)]),2⟩) ?_ ?_
 ·intro v_ h;refine Al ?_;refine Ai ?_;refine A4 h (fun t_ S_=>∃ (l11_m28:Nat),∃ (l11_m7_3:List (List Int)),∃ (l11_m7_5:List (List Int)),t_=(l11_m28,l11_m7_3,l11_m7_5)∧S_=⟨Am [(0,ai a0),(3,.box (oi 0 1) 0),(4,.box (oi 1 1) 0),(6,ai ((y3.length:Nat):Int)),(7,.box (oi 2 1) 0),(27,ai ((y3.length:Nat):Int)),(28,ai ((l11_m28:Nat):Int))],Ak (Ao [(oi 0 1,.cells 31 [ai a1_0,.tree T4 a1_1,.tree .int a1_2]),(oi 1 1,.cells 41 [ai 0,ai 0,ai 0,.nils,.nils,.nils,.nils]),(oi 2 1,.cells 41 [ai ((y3.length:Nat):Int),ai a1_0,ai ((a1_2.length:Nat):Int),.own (oi 3 1) (.slice .int) 0 l11_m7_3.length,.nils,.own (oi 5 1) (.slice .int) 0 l11_m7_5.length,.nils]),(oi 3 1,.mat 23 (oi 4 1) .int l11_m7_3),(oi 4 1,.pool 3 .int l11_m7_3),(oi 5 1,.mat 23 (oi 6 1) .int l11_m7_5),(oi 6 1,.pool 3 .int l11_m7_5)]),2⟩) ⟨_,(Cz 9000 (oi 7 17) 3 41 [ai ((y3.length:Nat):Int),ai a1_0,ai ((a1_2.length:Nat):Int),.nils,.nils,.nils,.nils] [ai ((y3.length:Nat):Int),ai a1_0,ai ((a1_2.length:Nat):Int),.own (oi 9000 21) (.slice .int) 0 0,.nils,.nils,.nils] 23 (.slice .int) (by kernel_rfl) (by kernel_rfl) (by kernel_rfl)).trans ((Ea (e1:=23) (n:=0) 9000 (oi 9000 21) 3 .int (by kernel_rfl) (by kernel_rfl) rfl (by kernel_rfl) (by kernel_rfl)).trans ((Cz 9002 (oi 7 17) 5 41 [ai ((y3.length:Nat):Int),ai a1_0,ai ((a1_2.length:Nat):Int),.own (oi 9000 21) (.slice .int) 0 0,.nils,.nils,.nils] [ai ((y3.length:Nat):Int),ai a1_0,ai ((a1_2.length:Nat):Int),.own (oi 9000 21) (.slice .int) 0 0,.nils,.own (oi 9002 23) (.slice .int) 0 0,.nils] 23 (.slice .int) (by kernel_rfl) (by kernel_rfl) (by kernel_rfl)).trans ((Ea (e1:=23) (n:=0) 9000 (oi 9002 23) 3 .int (by kernel_rfl) (by kernel_rfl) rfl (by kernel_rfl) (by kernel_rfl)).trans (Ac [(oi 0 1,oi 3 1),(oi 1 1,oi 4 2),(oi 2 1,oi 7 17),(oi 3 1,oi 9000 21),(oi 4 1,oi 9000 22),(oi 5 1,oi 9002 23),(oi 6 1,oi 9000 24)])))),⟨0,([]:List (List Int)),([]:List (List Int)),rfl,rfl⟩⟩ ?_;rintro n_ _ _ c_ ⟨l11_m28,l11_m7_3,l11_m7_5,rfl,rfl⟩ h hn11
  (try dsimp only at h);unfold Cj at h;unfold Hl;refine Al ?_;refine Ab ?_;rcases Ad h with ⟨q14,h⟩ | ⟨q14,h⟩
  ·have q14_:=of_decide_eq_true q14;refine Ag q14 ?_;refine Aj (tn_ ?_);refine wr_ ?_;refine Ab ?_;refine Ai ?_;refine Al ?_;refine Ab ?_;obtain ⟨y18,h18,h⟩:=Ae h;obtain ⟨y19,h19,h⟩:=Ae h;obtain ⟨y20,h20,h⟩:=Ae h;refine Az 19 ?_;refine dzl (.agg [ai a1_0,.tree T4 a1_1,.tree .int a1_2]) ?_;refine dz0 (ai a0) ?_;refine dz0 (ai ((y3.length:Nat):Int)) ?_;refine dz0 (ai ((l11_m28:Nat):Int)) ?_;refine Cp (.own (oi 576 9) .int 0 y18.length) [(oi 576 9,some (.arr 3 .int y18))] [ai ((y3.length:Nat):Int),ai ((l11_m28:Nat):Int)] _ (caps:=[]) (args0:=[ai ((y3.length:Nat):Int),ai ((l11_m28:Nat):Int)]) trivial (by kernel_rfl) (F7 (Tf h18)) Ug ?_;refine dz0 (.box (oi 0 1) 0) ?_;refine dzl (ai a1_0) ?_;refine Cp (.own (oi 624 12) .int 0 y19.length) [(oi 624 12,some (.arr 3 .int y19))] [ai a1_0] _ (caps:=[]) (args0:=[ai a1_0]) trivial (by kernel_rfl) (F7 (Gd h19)) R0 ?_;refine Cp (.tup [.own (oi 640 13) .int 0 y20.1.length,.own (oi 641 13) .int 0 y20.2.length]) [(oi 640 13,some (.arr 3 .int y20.1)),(oi 641 13,some (.arr 3 .int y20.2))] [.agg [ai a1_0,.tree T4 a1_1,.tree .int a1_2],ai a0,.own (oi 576 9) .int 0 y18.length,.own (oi 624 12) .int 0 y19.length] _ (caps:=[]) (args0:=[.agg [ai a1_0,.tree T4 a1_1,.tree .int a1_2],ai a0,.tree .int y18,.tree .int y19]) trivial (A2 (by kernel_rfl) (A2 (by kernel_rfl) (A2 (B6 (e:=3) (by kernel_rfl) rfl) (A2 (B6 (e:=3) (by kernel_rfl) rfl) C5)))) (F7 (Jm h20)) Jz ?_;refine dz0 (.tup [.own (oi 640 13) .int 0 y20.1.length,.own (oi 641 13) .int 0 y20.2.length]) ?_;refine dz0 (.own (oi 640 13) .int 0 y20.1.length) ?_;refine dz0 (.own (oi 641 13) .int 0 y20.2.length) ?_;refine dz0 (.own (oi 640 13) .int 0 y20.1.length) ?_;refine dz0 (.own (oi 641 13) .int 0 y20.2.length) ?_;refine Gg (Bg (by kernel_rfl)) (tn_ ?_);refine wr_ ?_;obtain ⟨g21,h⟩:=As h;obtain ⟨g22,h⟩:=As h;refine Az 33 ?_;refine dz0 (.box (oi 2 1) 3) ?_;refine dzl (.own (oi 3 1) (.slice .int) 0 l11_m7_3.length) ?_;refine dz0 (.own (oi 640 13) .int 0 y20.1.length) ?_;refine W0 (.own (oi 46 22) (.slice .int) 0 1) (oi 46 22) (.vec 23 1 1 ([.own (oi 640 13) .int 0 y20.1.length])) trivial (Ja (by kernel_rfl)) ?_;refine ds2 (.own (oi 3 23) (.slice .int) 0 (l11_m7_3.length+1)) (oi 3 1) (oi 3 23) (.vec 23 1 (l11_m7_3.length+1) (hdL (oi 4 1) .int l11_m7_3++[.own (oi 640 13) .int 0 y20.1.length])) (H1 (u:=.int) (t':=.slice .int) (t2:=.slice .int) (o:=oi 3 1) (q:=oi 46 22) (e2:=23) (p:=oi 4 1) (xss:=l11_m7_3) (cs:=[.own (oi 640 13) .int 0 y20.1.length]) (len:=l11_m7_3.length) (by kernel_rfl) (by kernel_rfl) rfl (by kernel_rfl) (by kernel_rfl) rfl g21) ?_;refine dz0 (.box (oi 2 1) 5) ?_;refine dzl (.own (oi 5 1) (.slice .int) 0 l11_m7_5.length) ?_;refine dz0 (.own (oi 641 13) .int 0 y20.2.length) ?_;refine W0 (.own (oi 51 27) (.slice .int) 0 1) (oi 51 27) (.vec 23 1 1 ([.own (oi 641 13) .int 0 y20.2.length])) trivial (Ja (by kernel_rfl)) ?_;refine ds2 (.own (oi 5 28) (.slice .int) 0 (l11_m7_5.length+1)) (oi 5 1) (oi 5 28) (.vec 23 1 (l11_m7_5.length+1) (hdL (oi 6 1) .int l11_m7_5++[.own (oi 641 13) .int 0 y20.2.length])) (H1 (u:=.int) (t':=.slice .int) (t2:=.slice .int) (o:=oi 5 1) (q:=oi 51 27) (e2:=23) (p:=oi 6 1) (xss:=l11_m7_5) (cs:=[.own (oi 641 13) .int 0 y20.2.length]) (len:=l11_m7_5.length) (by kernel_rfl) (by kernel_rfl) rfl (by kernel_rfl) (by kernel_rfl) rfl g22) ?_;refine dz0 (.box (oi 2 1) 3) ?_;refine Kn (oi 2 1) (oi 2 1) (.cells 41 [ai ((y3.length:Nat):Int),ai a1_0,ai ((a1_2.length:Nat):Int),.own (oi 3 23) (.slice .int) 0 (l11_m7_3.length+1),.nils,.own (oi 5 1) (.slice .int) 0 l11_m7_5.length,.nils]) (by kernel_rfl) ?_;refine dz0 (.box (oi 2 1) 5) ?_;refine Kn (oi 2 1) (oi 2 1) (.cells 41 [ai ((y3.length:Nat):Int),ai a1_0,ai ((a1_2.length:Nat):Int),.own (oi 3 23) (.slice .int) 0 (l11_m7_3.length+1),.nils,.own (oi 5 28) (.slice .int) 0 (l11_m7_5.length+1),.nils]) (by kernel_rfl) ?_;refine Gg (Bg (by kernel_rfl)) (bn_ (tn_ ?_));refine ⟨_,(En (e1:=23) (e:=3) (u:=.int) (n:=l11_m7_3.length+1) (len:=y20.1.length) (row:=y20.1) (ys:=y20.1) (xss:=l11_m7_3) 9000 (oi 3 23) (oi 4 1) (oi 640 13) (by kernel_rfl) (by kernel_rfl) rfl (by kernel_rfl) (by kernel_rfl) (Ol rfl) (Ow rfl) (by kernel_rfl) (by kernel_rfl) (by kernel_rfl)).trans (En (e1:=23) (e:=3) (u:=.int) (n:=l11_m7_5.length+1) (len:=y20.2.length) (row:=y20.2) (ys:=y20.2) (xss:=l11_m7_5) 9000 (oi 5 28) (oi 6 1) (oi 641 13) (by kernel_rfl) (by kernel_rfl) rfl (by kernel_rfl) (by kernel_rfl) (Ol rfl) (Ow rfl) (by kernel_rfl) (by kernel_rfl) (by kernel_rfl)),?_⟩;obtain ⟨g23,h⟩:=As h;refine Aa 37 ?_;refine rs0 (ai ((l11_m28+1:Nat):Int)) (za g23) ?_;refine rsB 1 ?_;refine Ap (tn_ ?_);obtain rfl:=zj h;exact ⟨(l11_m28+1,l11_m7_3++[y20.1],l11_m7_5++[y20.2]),_,(Jy (oi 2 1) (.cells 41 [ai ((y3.length:Nat):Int),ai a1_0,ai ((a1_2.length:Nat):Int),.own (oi 3 23) (.slice .int) 0 (l11_m7_3.length+1),.nils,.own (oi 5 28) (.slice .int) 0 (l11_m7_5.length+1),.nils]) (.cells 41 [ai ((y3.length:Nat):Int),ai a1_0,ai ((a1_2.length:Nat):Int),.own (oi 3 23) (.slice .int) 0 ((l11_m7_3++[y20.1]).length),.nils,.own (oi 5 28) (.slice .int) 0 (l11_m7_5.length+1),.nils]) (by kernel_rfl) (congrArg (fun z_=>(.cells 41 [ai ((y3.length:Nat):Int),ai a1_0,ai ((a1_2.length:Nat):Int),.own (oi 3 23) (.slice .int) 0 z_,.nils,.own (oi 5 28) (.slice .int) 0 (l11_m7_5.length+1),.nils]:Ob)) ((by simp):l11_m7_3.length+1=(l11_m7_3++[y20.1]).length))).trans ((Jy (oi 2 1) (.cells 41 [ai ((y3.length:Nat):Int),ai a1_0,ai ((a1_2.length:Nat):Int),.own (oi 3 23) (.slice .int) 0 ((l11_m7_3++[y20.1]).length),.nils,.own (oi 5 28) (.slice .int) 0 (l11_m7_5.length+1),.nils]) (.cells 41 [ai ((y3.length:Nat):Int),ai a1_0,ai ((a1_2.length:Nat):Int),.own (oi 3 23) (.slice .int) 0 ((l11_m7_3++[y20.1]).length),.nils,.own (oi 5 28) (.slice .int) 0 ((l11_m7_5++[y20.2]).length),.nils]) (by kernel_rfl) (congrArg (fun z_=>(.cells 41 [ai ((y3.length:Nat):Int),ai a1_0,ai ((a1_2.length:Nat):Int),.own (oi 3 23) (.slice .int) 0 ((l11_m7_3++[y20.1]).length),.nils,.own (oi 5 28) (.slice .int) 0 z_,.nils]:Ob)) ((by simp):l11_m7_5.length+1=(l11_m7_5++[y20.2]).length))).trans (Ac [(oi 3 1,oi 3 23),(oi 4 1,oi 9000 33),(oi 5 1,oi 5 28),(oi 6 1,oi 9000 34)])),⟨l11_m28+1,l11_m7_3++[y20.1],l11_m7_5++[y20.2],rfl,rfl⟩,hn11⟩
  have q14_:=of_decide_eq_false q14;refine Af q14 ?_;refine A0 (te_ (te_ (be_ (tn_ ?_))));obtain rfl:=zj h;have h:=hn11
  (try dsimp only at h);obtain rfl:=zj h;exact ⟨_,Ac [],⟨l11_m7_3,l11_m7_5,rfl,rfl⟩⟩
 rintro _ _ ⟨l9_m7_3,l9_m7_5,rfl,rfl⟩ h
 (try dsimp only at h);refine At h (fun t_ S_=>∃ (l24_m7_4:List (List Int)),∃ (l24_m7_6:List (List Int)),t_=(l24_m7_4,l24_m7_6)∧S_=⟨Am [(4,.box (oi 0 1) 0),(7,.box (oi 1 1) 0)],Ak (Ao [(oi 0 1,.cells 41 [ai 0,ai 0,ai 0,.nils,.nils,.nils,.nils]),(oi 1 1,.cells 41 [ai ((y3.length:Nat):Int),ai a1_0,ai ((a1_2.length:Nat):Int),.own (oi 2 1) (.slice .int) 0 l9_m7_3.length,.own (oi 4 1) (.slice .int) 0 l24_m7_4.length,.own (oi 6 1) (.slice .int) 0 l9_m7_5.length,.own (oi 8 1) (.slice .int) 0 l24_m7_6.length]),(oi 2 1,.mat 23 (oi 3 1) .int l9_m7_3),(oi 3 1,.pool 3 .int l9_m7_3),(oi 4 1,.mat 23 (oi 5 1) .int l24_m7_4),(oi 5 1,.pool 3 .int l24_m7_4),(oi 6 1,.mat 23 (oi 7 1) .int l9_m7_5),(oi 7 1,.pool 3 .int l9_m7_5),(oi 8 1,.mat 23 (oi 9 1) .int l24_m7_6),(oi 9 1,.pool 3 .int l24_m7_6)]),2⟩) ?_ ?_
 ·intro v_ h;refine Al ?_;refine Ai ?_;refine A4 h (fun t_ S_=>∃ (l26_m58:Nat),∃ (l26_m7_4:List (List Int)),∃ (l26_m7_6:List (List Int)),t_=(l26_m58,l26_m7_4,l26_m7_6)∧S_=⟨Am [(0,ai a0),(3,.box (oi 0 1) 0),(4,.box (oi 1 1) 0),(6,ai ((y3.length:Nat):Int)),(7,.box (oi 2 1) 0),(57,ai a1_0),(58,ai ((l26_m58:Nat):Int))],Ak (Ao [(oi 0 1,.cells 31 [ai a1_0,.tree T4 a1_1,.tree .int a1_2]),(oi 1 1,.cells 41 [ai 0,ai 0,ai 0,.nils,.nils,.nils,.nils]),(oi 2 1,.cells 41 [ai ((y3.length:Nat):Int),ai a1_0,ai ((a1_2.length:Nat):Int),.own (oi 3 1) (.slice .int) 0 l9_m7_3.length,.own (oi 5 1) (.slice .int) 0 l26_m7_4.length,.own (oi 7 1) (.slice .int) 0 l9_m7_5.length,.own (oi 9 1) (.slice .int) 0 l26_m7_6.length]),(oi 3 1,.mat 23 (oi 4 1) .int l9_m7_3),(oi 4 1,.pool 3 .int l9_m7_3),(oi 5 1,.mat 23 (oi 6 1) .int l26_m7_4),(oi 6 1,.pool 3 .int l26_m7_4),(oi 7 1,.mat 23 (oi 8 1) .int l9_m7_5),(oi 8 1,.pool 3 .int l9_m7_5),(oi 9 1,.mat 23 (oi 10 1) .int l26_m7_6),(oi 10 1,.pool 3 .int l26_m7_6)]),2⟩) ⟨_,(Cz 9000 (oi 2 1) 4 41 [ai ((y3.length:Nat):Int),ai a1_0,ai ((a1_2.length:Nat):Int),.own (oi 3 1) (.slice .int) 0 l9_m7_3.length,.nils,.own (oi 5 1) (.slice .int) 0 l9_m7_5.length,.nils] [ai ((y3.length:Nat):Int),ai a1_0,ai ((a1_2.length:Nat):Int),.own (oi 3 1) (.slice .int) 0 l9_m7_3.length,.own (oi 9000 5) (.slice .int) 0 0,.own (oi 5 1) (.slice .int) 0 l9_m7_5.length,.nils] 23 (.slice .int) (by kernel_rfl) (by kernel_rfl) (by kernel_rfl)).trans ((Ea (e1:=23) (n:=0) 9000 (oi 9000 5) 3 .int (by kernel_rfl) (by kernel_rfl) rfl (by kernel_rfl) (by kernel_rfl)).trans ((Cz 9002 (oi 2 1) 6 41 [ai ((y3.length:Nat):Int),ai a1_0,ai ((a1_2.length:Nat):Int),.own (oi 3 1) (.slice .int) 0 l9_m7_3.length,.own (oi 9000 5) (.slice .int) 0 0,.own (oi 5 1) (.slice .int) 0 l9_m7_5.length,.nils] [ai ((y3.length:Nat):Int),ai a1_0,ai ((a1_2.length:Nat):Int),.own (oi 3 1) (.slice .int) 0 l9_m7_3.length,.own (oi 9000 5) (.slice .int) 0 0,.own (oi 5 1) (.slice .int) 0 l9_m7_5.length,.own (oi 9002 7) (.slice .int) 0 0] 23 (.slice .int) (by kernel_rfl) (by kernel_rfl) (by kernel_rfl)).trans ((Ea (e1:=23) (n:=0) 9000 (oi 9002 7) 3 .int (by kernel_rfl) (by kernel_rfl) rfl (by kernel_rfl) (by kernel_rfl)).trans (Ac [(oi 5 1,oi 9000 5),(oi 6 1,oi 9000 6),(oi 7 1,oi 5 1),(oi 8 1,oi 6 1),(oi 9 1,oi 9002 7),(oi 10 1,oi 9000 8)])))),⟨0,([]:List (List Int)),([]:List (List Int)),rfl,rfl⟩⟩ ?_;rintro n_ _ _ c_ ⟨l26_m58,l26_m7_4,l26_m7_6,rfl,rfl⟩ h hn26
  (try dsimp only at h);unfold Ck at h;unfold Hi;refine Al ?_;refine Ab ?_;rcases Ad h with ⟨q29,h⟩ | ⟨q29,h⟩
  ·have q29_:=of_decide_eq_true q29;refine Ag q29 ?_;refine Aj (tn_ ?_);refine wr_ ?_;refine Ab ?_;refine Ai ?_;refine Al ?_;refine Ab ?_;obtain ⟨y33,h33,h⟩:=Ae h;obtain ⟨y34,h34,h⟩:=Ae h;obtain ⟨y35,h35,h⟩:=Ae h;refine Az 19 ?_;refine dzl (.agg [ai a1_0,.tree T4 a1_1,.tree .int a1_2]) ?_;refine dz0 (ai a0) ?_;refine dz0 (ai ((y3.length:Nat):Int)) ?_;refine Cp (.own (oi 1040 8) .int 0 y33.length) [(oi 1040 8,some (.arr 3 .int y33))] [ai ((y3.length:Nat):Int)] _ (caps:=[]) (args0:=[ai ((y3.length:Nat):Int)]) trivial (by kernel_rfl) (F7 (Gd h33)) R0 ?_;refine dz0 (.box (oi 0 1) 0) ?_;refine dzl (ai a1_0) ?_;refine dz0 (ai ((l26_m58:Nat):Int)) ?_;refine Cp (.own (oi 1104 12) .int 0 y34.length) [(oi 1104 12,some (.arr 3 .int y34))] [ai a1_0,ai ((l26_m58:Nat):Int)] _ (caps:=[]) (args0:=[ai a1_0,ai ((l26_m58:Nat):Int)]) trivial (by kernel_rfl) (F7 (Tf h34)) Ug ?_;refine Cp (.tup [.own (oi 1120 13) .int 0 y35.1.length,.own (oi 1121 13) .int 0 y35.2.length]) [(oi 1120 13,some (.arr 3 .int y35.1)),(oi 1121 13,some (.arr 3 .int y35.2))] [.agg [ai a1_0,.tree T4 a1_1,.tree .int a1_2],ai a0,.own (oi 1040 8) .int 0 y33.length,.own (oi 1104 12) .int 0 y34.length] _ (caps:=[]) (args0:=[.agg [ai a1_0,.tree T4 a1_1,.tree .int a1_2],ai a0,.tree .int y33,.tree .int y34]) trivial (A2 (by kernel_rfl) (A2 (by kernel_rfl) (A2 (B6 (e:=3) (by kernel_rfl) rfl) (A2 (B6 (e:=3) (by kernel_rfl) rfl) C5)))) (F7 (Jm h35)) Jz ?_;refine dz0 (.tup [.own (oi 1120 13) .int 0 y35.1.length,.own (oi 1121 13) .int 0 y35.2.length]) ?_;refine dz0 (.own (oi 1120 13) .int 0 y35.1.length) ?_;refine dz0 (.own (oi 1121 13) .int 0 y35.2.length) ?_;refine dz0 (.own (oi 1120 13) .int 0 y35.1.length) ?_;refine dz0 (.own (oi 1121 13) .int 0 y35.2.length) ?_;refine Gg (Bg (by kernel_rfl)) (tn_ ?_);refine wr_ ?_;obtain ⟨g36,h⟩:=As h;obtain ⟨g37,h⟩:=As h;refine Az 33 ?_;refine dz0 (.box (oi 2 1) 4) ?_;refine dzl (.own (oi 5 1) (.slice .int) 0 l26_m7_4.length) ?_;refine dz0 (.own (oi 1120 13) .int 0 y35.1.length) ?_;refine W0 (.own (oi 76 22) (.slice .int) 0 1) (oi 76 22) (.vec 23 1 1 ([.own (oi 1120 13) .int 0 y35.1.length])) trivial (Ja (by kernel_rfl)) ?_;refine ds2 (.own (oi 5 23) (.slice .int) 0 (l26_m7_4.length+1)) (oi 5 1) (oi 5 23) (.vec 23 1 (l26_m7_4.length+1) (hdL (oi 6 1) .int l26_m7_4++[.own (oi 1120 13) .int 0 y35.1.length])) (H1 (u:=.int) (t':=.slice .int) (t2:=.slice .int) (o:=oi 5 1) (q:=oi 76 22) (e2:=23) (p:=oi 6 1) (xss:=l26_m7_4) (cs:=[.own (oi 1120 13) .int 0 y35.1.length]) (len:=l26_m7_4.length) (by kernel_rfl) (by kernel_rfl) rfl (by kernel_rfl) (by kernel_rfl) rfl g36) ?_;refine dz0 (.box (oi 2 1) 6) ?_;refine dzl (.own (oi 9 1) (.slice .int) 0 l26_m7_6.length) ?_;refine dz0 (.own (oi 1121 13) .int 0 y35.2.length) ?_;refine W0 (.own (oi 81 27) (.slice .int) 0 1) (oi 81 27) (.vec 23 1 1 ([.own (oi 1121 13) .int 0 y35.2.length])) trivial (Ja (by kernel_rfl)) ?_;refine ds2 (.own (oi 9 28) (.slice .int) 0 (l26_m7_6.length+1)) (oi 9 1) (oi 9 28) (.vec 23 1 (l26_m7_6.length+1) (hdL (oi 10 1) .int l26_m7_6++[.own (oi 1121 13) .int 0 y35.2.length])) (H1 (u:=.int) (t':=.slice .int) (t2:=.slice .int) (o:=oi 9 1) (q:=oi 81 27) (e2:=23) (p:=oi 10 1) (xss:=l26_m7_6) (cs:=[.own (oi 1121 13) .int 0 y35.2.length]) (len:=l26_m7_6.length) (by kernel_rfl) (by kernel_rfl) rfl (by kernel_rfl) (by kernel_rfl) rfl g37) ?_;refine dz0 (.box (oi 2 1) 4) ?_;refine Kn (oi 2 1) (oi 2 1) (.cells 41 [ai ((y3.length:Nat):Int),ai a1_0,ai ((a1_2.length:Nat):Int),.own (oi 3 1) (.slice .int) 0 l9_m7_3.length,.own (oi 5 23) (.slice .int) 0 (l26_m7_4.length+1),.own (oi 7 1) (.slice .int) 0 l9_m7_5.length,.own (oi 9 1) (.slice .int) 0 l26_m7_6.length]) (by kernel_rfl) ?_;refine dz0 (.box (oi 2 1) 6) ?_;refine Kn (oi 2 1) (oi 2 1) (.cells 41 [ai ((y3.length:Nat):Int),ai a1_0,ai ((a1_2.length:Nat):Int),.own (oi 3 1) (.slice .int) 0 l9_m7_3.length,.own (oi 5 23) (.slice .int) 0 (l26_m7_4.length+1),.own (oi 7 1) (.slice .int) 0 l9_m7_5.length,.own (oi 9 28) (.slice .int) 0 (l26_m7_6.length+1)]) (by kernel_rfl) ?_;refine Gg (Bg (by kernel_rfl)) (bn_ (tn_ ?_));refine ⟨_,(En (e1:=23) (e:=3) (u:=.int) (n:=l26_m7_4.length+1) (len:=y35.1.length) (row:=y35.1) (ys:=y35.1) (xss:=l26_m7_4) 9000 (oi 5 23) (oi 6 1) (oi 1120 13) (by kernel_rfl) (by kernel_rfl) rfl (by kernel_rfl) (by kernel_rfl) (Ol rfl) (Ow rfl) (by kernel_rfl) (by kernel_rfl) (by kernel_rfl)).trans (En (e1:=23) (e:=3) (u:=.int) (n:=l26_m7_6.length+1) (len:=y35.2.length) (row:=y35.2) (ys:=y35.2) (xss:=l26_m7_6) 9000 (oi 9 28) (oi 10 1) (oi 1121 13) (by kernel_rfl) (by kernel_rfl) rfl (by kernel_rfl) (by kernel_rfl) (Ol rfl) (Ow rfl) (by kernel_rfl) (by kernel_rfl) (by kernel_rfl)),?_⟩;obtain ⟨g38,h⟩:=As h;refine Aa 37 ?_;refine rs0 (ai ((l26_m58+1:Nat):Int)) (za g38) ?_;refine rsB 1 ?_;refine Ap (tn_ ?_);obtain rfl:=zj h;exact ⟨(l26_m58+1,l26_m7_4++[y35.1],l26_m7_6++[y35.2]),_,(Jy (oi 2 1) (.cells 41 [ai ((y3.length:Nat):Int),ai a1_0,ai ((a1_2.length:Nat):Int),.own (oi 3 1) (.slice .int) 0 l9_m7_3.length,.own (oi 5 23) (.slice .int) 0 (l26_m7_4.length+1),.own (oi 7 1) (.slice .int) 0 l9_m7_5.length,.own (oi 9 28) (.slice .int) 0 (l26_m7_6.length+1)]) (.cells 41 [ai ((y3.length:Nat):Int),ai a1_0,ai ((a1_2.length:Nat):Int),.own (oi 3 1) (.slice .int) 0 l9_m7_3.length,.own (oi 5 23) (.slice .int) 0 ((l26_m7_4++[y35.1]).length),.own (oi 7 1) (.slice .int) 0 l9_m7_5.length,.own (oi 9 28) (.slice .int) 0 (l26_m7_6.length+1)]) (by kernel_rfl) (congrArg (fun z_=>(.cells 41 [ai ((y3.length:Nat):Int),ai a1_0,ai ((a1_2.length:Nat):Int),.own (oi 3 1) (.slice .int) 0 l9_m7_3.length,.own (oi 5 23) (.slice .int) 0 z_,.own (oi 7 1) (.slice .int) 0 l9_m7_5.length,.own (oi 9 28) (.slice .int) 0 (l26_m7_6.length+1)]:Ob)) ((by simp):l26_m7_4.length+1=(l26_m7_4++[y35.1]).length))).trans ((Jy (oi 2 1) (.cells 41 [ai ((y3.length:Nat):Int),ai a1_0,ai ((a1_2.length:Nat):Int),.own (oi 3 1) (.slice .int) 0 l9_m7_3.length,.own (oi 5 23) (.slice .int) 0 ((l26_m7_4++[y35.1]).length),.own (oi 7 1) (.slice .int) 0 l9_m7_5.length,.own (oi 9 28) (.slice .int) 0 (l26_m7_6.length+1)]) (.cells 41 [ai ((y3.length:Nat):Int),ai a1_0,ai ((a1_2.length:Nat):Int),.own (oi 3 1) (.slice .int) 0 l9_m7_3.length,.own (oi 5 23) (.slice .int) 0 ((l26_m7_4++[y35.1]).length),.own (oi 7 1) (.slice .int) 0 l9_m7_5.length,.own (oi 9 28) (.slice .int) 0 ((l26_m7_6++[y35.2]).length)]) (by kernel_rfl) (congrArg (fun z_=>(.cells 41 [ai ((y3.length:Nat):Int),ai a1_0,ai ((a1_2.length:Nat):Int),.own (oi 3 1) (.slice .int) 0 l9_m7_3.length,.own (oi 5 23) (.slice .int) 0 ((l26_m7_4++[y35.1]).length),.own (oi 7 1) (.slice .int) 0 l9_m7_5.length,.own (oi 9 28) (.slice .int) 0 z_]:Ob)) ((by simp):l26_m7_6.length+1=(l26_m7_6++[y35.2]).length))).trans (Ac [(oi 5 1,oi 5 23),(oi 6 1,oi 9000 33),(oi 9 1,oi 9 28),(oi 10 1,oi 9000 34)])),⟨l26_m58+1,l26_m7_4++[y35.1],l26_m7_6++[y35.2],rfl,rfl⟩,hn26⟩
  have q29_:=of_decide_eq_false q29;refine Af q29 ?_;refine A0 (te_ (te_ (be_ (tn_ ?_))));obtain rfl:=zj h;have h:=hn26
  (try dsimp only at h);obtain rfl:=zj h;exact ⟨_,Ac [(oi 0 1,oi 1 1),(oi 1 1,oi 2 1),(oi 2 1,oi 3 1),(oi 3 1,oi 4 1),(oi 4 1,oi 5 1),(oi 5 1,oi 6 1),(oi 6 1,oi 7 1),(oi 7 1,oi 8 1),(oi 8 1,oi 9 1),(oi 9 1,oi 10 1)],⟨l26_m7_4,l26_m7_6,rfl,rfl⟩⟩
 rintro _ _ ⟨l24_m7_4,l24_m7_6,rfl,rfl⟩ h
 (try dsimp only at h);refine Al ?_;refine Ah ?_;obtain rfl:=zj h;exact Lw [(true,[ai ((y3.length:Nat):Int),ai a1_0,ai ((a1_2.length:Nat):Int),.own (oi 2 1) (.slice .int) 0 l9_m7_3.length,.own (oi 4 1) (.slice .int) 0 l24_m7_4.length,.own (oi 6 1) (.slice .int) 0 l9_m7_5.length,.own (oi 8 1) (.slice .int) 0 l24_m7_6.length]),(false,[.bool true])] (Ky (Ax Cs (Ax Cs (Ax Cs (Ax (Bp (.mat (p:=oi 3 1) (e1:=23) (e:=3) (by kernel_rfl) (El (by kernel_rfl)) rfl)) (Ax (Bp (.mat (p:=oi 5 1) (e1:=23) (e:=3) (by kernel_rfl) (El (by kernel_rfl)) rfl)) (Ax (Bp (.mat (p:=oi 7 1) (e1:=23) (e:=3) (by kernel_rfl) (El (by kernel_rfl)) rfl)) (Ax (Bp (.mat (p:=oi 9 1) (e1:=23) (e:=3) (by kernel_rfl) (El (by kernel_rfl)) rfl)) K5))))))) (Jg Cs Il))
def K3:AC :=
 (.seq (rg [xo 4 (.i (.box 31 (tm 1))),xo 5 (.i (.box 31 (tm 2))),xo 6 (qm (cb false))])
 (.seq (rg [xo 7 (qm (tm 0)),xo 8 (.i (.ld false 3 (tm 4))),⟨some 9,none,qc 43 [tm 7,tm 8] [[],[none,some T4,some .int]]⟩,xo 10 (qm (tm 9)),⟨some 11,some (10,true),qm (tm 0)⟩,⟨some 12,some (10,true),.i (.ld false 3 (tm 5))⟩,⟨some 13,some (10,true),qc 43 [tm 11,tm 12] [[],[none,some T4,some .int]]⟩,xo 14 (.i (.pick (tm 10) (tm 13) (cb false))),xo 15 (qm (tm 14)),⟨some 16,some (15,true),qf 0 (tm 4)⟩,⟨some 17,some (15,true),ql (tm 16)⟩,⟨some 18,some (15,true),qf 0 (tm 5)⟩,⟨some 19,some (15,true),ql (tm 18)⟩,⟨some 20,some (15,true),qb .eql (tm 17) (tm 19)⟩,xo 21 (.i (.pick (tm 15) (tm 20) (cb false))),xo 22 (qm (tm 21)),⟨some 23,some (22,true),qf 2 (tm 4)⟩,⟨some 24,some (22,true),ql (tm 23)⟩,⟨some 25,some (22,true),.i (.len (tm 24))⟩,⟨some 26,some (22,true),qf 2 (tm 5)⟩,⟨some 27,some (22,true),ql (tm 26)⟩,⟨some 28,some (22,true),.i (.len (tm 27))⟩,⟨some 29,some (22,true),qb .eql (tm 25) (tm 28)⟩,xo 30 (.i (.pick (tm 22) (tm 29) (cb false))),xo 6 (qm (tm 30))])
 .ret))
def S7:List Res:=[.tmp 6]
theorem Sq:Aq Tryd.prog Tryd.f29=some (K3,S7):=by kernel_rfl
theorem Rp:Ba Tryd.prog 29=true:=by kernel_rfl
def Fv (a0:Int) (a1_0:Int) (a1_1:List (Int×Int×Int×Int)) (a1_2:List Int) (a2_0:Int) (a2_1:List (Int×Int×Int×Int)) (a2_2:List Int):Option Bool :=
 Option.bind (Option.bind (D4 a0 a1_0 a1_1 a1_2) fun y3 =>
 cond y3
  (Option.bind (D4 a0 a2_0 a2_1 a2_2) fun y5 =>
  cond y5
   (cond (a1_0==a2_0)
    (some (((a1_2.length:Nat):Int)==((a2_2.length:Nat):Int)))
    (some false))
   (some false))
  (some false)) fun l2_m6 =>
some l2_m6
def Re (r:Bool):RV:=⟨false,[(false,[.sc (.bool r)])]⟩
theorem Rc {a0:Int} {a1_0:Int} {a1_1:List (Int×Int×Int×Int)} {a1_2:List Int} {a2_0:Int} {a2_1:List (Int×Int×Int×Int)} {a2_2:List Int} {r:Bool} (h:Fv a0 a1_0 a1_1 a1_2 a2_0 a2_1 a2_2=some r):A1 Tryd.prog Tab 29 [ai a0,.agg [ai a1_0,.tree T4 a1_1,.tree .int a1_2],.agg [ai a2_0,.tree T4 a2_1,.tree .int a2_2]] (Re r):=by
 refine Av (by kernel_rfl) Tryd.func29 Sq (n:=31) (by kernel_rfl) (by simp) (tl:=[(0,ai a0),(1,.agg [ai a1_0,.tree T4 a1_1,.tree .int a1_2]),(2,.agg [ai a2_0,.tree T4 a2_1,.tree .int a2_2])]) rfl ?_;unfold K3;unfold Fv at h;refine Al ?_;refine At h (fun (l2_m6:Bool) S_=>S_=⟨Am [(6,.bool l2_m6)],Ak (Ao []),2⟩) ?_ ?_
 ·intro v_ h;obtain ⟨y3,h3,h⟩:=Ae h;rcases Ad h with ⟨q4,h⟩ | ⟨q4,h⟩
  ·obtain ⟨y5,h5,h⟩:=Ae h;rcases Ad h with ⟨q6,h⟩ | ⟨q6,h⟩
   ·rcases Ad h with ⟨q7,h⟩ | ⟨q7,h⟩
    ·refine Aa 29 ?_;refine rz0 (ai a0) ?_;refine rzl (.agg [ai a1_0,.tree T4 a1_1,.tree .int a1_2]) ?_;refine zc (.bool y3) [] [ai a0,.agg [ai a1_0,.tree T4 a1_1,.tree .int a1_2]] (Cw h3) ?_;refine rz0 (.bool y3) ?_;refine rs0 (ai a0) (zg q4) ?_;refine rsl (.agg [ai a2_0,.tree T4 a2_1,.tree .int a2_2]) (zg q4) ?_;refine Bk (.bool y5) [] [ai a0,.agg [ai a2_0,.tree T4 a2_1,.tree .int a2_2]] _ (caps:=[]) (args0:=[ai a0,.agg [ai a2_0,.tree T4 a2_1,.tree .int a2_2]]) (Bo (by kernel_rfl) q4) (by kernel_rfl) (Cw h5) It ?_;refine rs0 (.bool y5) (zT q4) ?_;refine rz0 (.bool y5) ?_;refine rs0 (.box (oi 4 1) 0) (zg q6) ?_;refine rsl (ai a1_0) (zg q6) ?_;refine rs0 (.box (oi 5 2) 0) (zg q6) ?_;refine rsl (ai a2_0) (zg q6) ?_;refine rs0 (.bool (a1_0==a2_0)) (zg q6) ?_;refine rs0 (.bool (a1_0==a2_0)) (zT q6) ?_;refine rz0 (.bool (a1_0==a2_0)) ?_;refine rs0 (.box (oi 4 1) 2) (zg q7) ?_;refine rsl (.tree .int a1_2) (zg q7) ?_;refine rs0 (ai ((a1_2.length:Nat):Int)) (zg q7) ?_;refine rs0 (.box (oi 5 2) 2) (zg q7) ?_;refine rsl (.tree .int a2_2) (zg q7) ?_;refine rs0 (ai ((a2_2.length:Nat):Int)) (zg q7) ?_;refine rs0 (.bool (((a1_2.length:Nat):Int)==((a2_2.length:Nat):Int))) (zg q7) ?_;refine rs0 (.bool (((a1_2.length:Nat):Int)==((a2_2.length:Nat):Int))) (zT q7) ?_;refine rsB 1 ?_;refine Ap (tn_ ?_);obtain rfl:=zj h;exact ⟨_,Ac [],rfl⟩
    refine Aa 29 ?_;refine rz0 (ai a0) ?_;refine rzl (.agg [ai a1_0,.tree T4 a1_1,.tree .int a1_2]) ?_;refine zc (.bool y3) [] [ai a0,.agg [ai a1_0,.tree T4 a1_1,.tree .int a1_2]] (Cw h3) ?_;refine rz0 (.bool y3) ?_;refine rs0 (ai a0) (zg q4) ?_;refine rsl (.agg [ai a2_0,.tree T4 a2_1,.tree .int a2_2]) (zg q4) ?_;refine Bk (.bool y5) [] [ai a0,.agg [ai a2_0,.tree T4 a2_1,.tree .int a2_2]] _ (caps:=[]) (args0:=[ai a0,.agg [ai a2_0,.tree T4 a2_1,.tree .int a2_2]]) (Bo (by kernel_rfl) q4) (by kernel_rfl) (Cw h5) It ?_;refine rs0 (.bool y5) (zT q4) ?_;refine rz0 (.bool y5) ?_;refine rs0 (.box (oi 4 1) 0) (zg q6) ?_;refine rsl (ai a1_0) (zg q6) ?_;refine rs0 (.box (oi 5 2) 0) (zg q6) ?_;refine rsl (ai a2_0) (zg q6) ?_;refine rs0 (.bool (a1_0==a2_0)) (zg q6) ?_;refine rs0 (.bool (a1_0==a2_0)) (zT q6) ?_;refine rz0 (.bool (a1_0==a2_0)) ?_;refine zs q7 ?_;refine zs q7 ?_;refine zs q7 ?_;refine zs q7 ?_;refine zs q7 ?_;refine zs q7 ?_;refine zs q7 ?_;refine rs0 (.bool false) (zF q7) ?_;refine rsB 1 ?_;refine Ap (tn_ ?_);obtain rfl:=zj h;exact ⟨_,Ac [],rfl⟩
   refine Aa 29 ?_;refine rz0 (ai a0) ?_;refine rzl (.agg [ai a1_0,.tree T4 a1_1,.tree .int a1_2]) ?_;refine zc (.bool y3) [] [ai a0,.agg [ai a1_0,.tree T4 a1_1,.tree .int a1_2]] (Cw h3) ?_;refine rz0 (.bool y3) ?_;refine rs0 (ai a0) (zg q4) ?_;refine rsl (.agg [ai a2_0,.tree T4 a2_1,.tree .int a2_2]) (zg q4) ?_;refine Bk (.bool y5) [] [ai a0,.agg [ai a2_0,.tree T4 a2_1,.tree .int a2_2]] _ (caps:=[]) (args0:=[ai a0,.agg [ai a2_0,.tree T4 a2_1,.tree .int a2_2]]) (Bo (by kernel_rfl) q4) (by kernel_rfl) (Cw h5) It ?_;refine rs0 (.bool y5) (zT q4) ?_;refine rz0 (.bool y5) ?_;refine zs q6 ?_;refine zs q6 ?_;refine zs q6 ?_;refine zs q6 ?_;refine zs q6 ?_;refine rs0 (.bool false) (zF q6) ?_;refine rsB 10 ?_;refine Ap (tn_ ?_);obtain rfl:=zj h;exact ⟨_,Ac [],rfl⟩
  refine Aa 29 ?_;refine rz0 (ai a0) ?_;refine rzl (.agg [ai a1_0,.tree T4 a1_1,.tree .int a1_2]) ?_;refine zc (.bool y3) [] [ai a0,.agg [ai a1_0,.tree T4 a1_1,.tree .int a1_2]] (Cw h3) ?_;refine rz0 (.bool y3) ?_;refine zs q4 ?_;refine zs q4 ?_;refine zs q4 ?_;refine rs0 (.bool false) (zF q4) ?_;refine rsB 17 ?_;refine Ap (tn_ ?_);obtain rfl:=zj h;exact ⟨_,Ac [],rfl⟩
 rintro l2_m6 _ rfl h
 (try dsimp only at h);refine Ah ?_;obtain rfl:=zj h;exact Bm [.bool l2_m6] (Aw rfl zl Ay)
def Ot:AC :=
 (.seq (rg [xo 4 (.i (.box 31 (tm 1))),xo 5 (.i (.box 31 (tm 2))),xo 6 (.i (.alloc 41 [.int .i64 0,.int .i64 0,.int .i64 0,.nils,.nils,.nils,.nils])),xo 7 (.i (.alloc 41 [.int .i64 0,.int .i64 0,.int .i64 0,.nils,.nils,.nils,.nils])),xo 8 (qm (cb false))])
 (.seq (.seq (rg [xo 13 (qm (tm 0)),xo 14 (.i (.ld false 3 (tm 4))),xo 15 (.i (.ld false 3 (tm 5))),⟨some 16,none,qc 29 [tm 13,tm 14,tm 15] [[],[none,some T4,some .int],[none,some T4,some .int]]⟩,xo 17 (.i (.not (tm 16)))])
 (.cond (tm 17)
  (.seq (rg [xo 18 (.build [.int .i64 0,.int .i64 0,.int .i64 0,.nils,.nils,.nils,.nils] []),xo 19 (.build [.int .i64 0,.int .i64 0,.int .i64 0,.nils,.nils,.nils,.nils] []),xn (.st false 7 (tm 6) (tm 18)),xn (.st false 7 (tm 7) (tm 19)),xo 8 (qm (cb false))])
  .ret)
  .skip))
 (.seq (rg [xo 21 (qm (tm 0)),xo 22 (.i (.ld false 3 (tm 4))),⟨some 23,none,qc 30 [tm 21,tm 22] [[],[none,some T4,some .int]]⟩,xo 20 (qm (tm 23)),xo 24 (.i (.extr 0 (tm 20))),xo 25 (.i (.extr 1 (tm 20))),xo 9 (.i (.alloc 41 [.int .i64 0,.int .i64 0,.int .i64 0,.nils,.nils,.nils,.nils])),xn (.st false 7 (tm 9) (tm 24)),xo 10 (qm (tm 25))])
 (.seq (rg [xo 27 (qm (tm 0)),xo 28 (.i (.ld false 3 (tm 5))),⟨some 29,none,qc 30 [tm 27,tm 28] [[],[none,some T4,some .int]]⟩,xo 26 (qm (tm 29)),xo 30 (.i (.extr 0 (tm 26))),xo 31 (.i (.extr 1 (tm 26))),xo 11 (.i (.alloc 41 [.int .i64 0,.int .i64 0,.int .i64 0,.nils,.nils,.nils,.nils])),xn (.st false 7 (tm 11) (tm 30)),xo 12 (qm (tm 31))])
 (.seq (.region [xo 32 (.i (.ld false 7 (tm 9))),xo 33 (.i (.ld false 7 (tm 11))),xo 34 (qm (tm 10)),xo 35 (qm (tm 34)),⟨some 36,some (35,true),qm (tm 12)⟩,xo 37 (.i (.pick (tm 35) (tm 36) (cb false))),xn (.st false 7 (tm 6) (tm 32)),xn (.st false 7 (tm 7) (tm 33)),xo 8 (qm (tm 37))] true [(1,6)])
 .ret)))))
def Xh:List Res:=[.cell 6 false 7,.cell 7 false 7,.tmp 8]
theorem W9:Aq Tryd.prog Tryd.f18=some (Ot,Xh):=by kernel_rfl
def Em (a0:Int) (a1_0:Int) (a1_1:List (Int×Int×Int×Int)) (a1_2:List Int) (a2_0:Int) (a2_1:List (Int×Int×Int×Int)) (a2_2:List Int):Option (Int×Int×Int×List (List Int)×List (List Int)×List (List Int)×List (List Int)×Int×Int×Int×List (List Int)×List (List Int)×List (List Int)×List (List Int)×Bool) :=
 Option.bind (Fv a0 a1_0 a1_1 a1_2 a2_0 a2_1 a2_2) fun y4 =>
cond (!y4)
 (some (0,0,0,[],[],[],[],0,0,0,[],[],[],[],false))
 (Option.bind (Ch a0 a1_0 a1_1 a1_2) fun y8 =>
 Option.bind (Ch a0 a2_0 a2_1 a2_2) fun y10 =>
 Option.bind (cond y8.2.2.2.2.2.2.2
   (some y10.2.2.2.2.2.2.2)
   (some false)) fun l11_m8 =>
 some (y8.1,y8.2.1,y8.2.2.1,y8.2.2.2.1,y8.2.2.2.2.1,y8.2.2.2.2.2.1,y8.2.2.2.2.2.2.1,y10.1,y10.2.1,y10.2.2.1,y10.2.2.2.1,y10.2.2.2.2.1,y10.2.2.2.2.2.1,y10.2.2.2.2.2.2.1,l11_m8))
def Vn (r:Int×Int×Int×List (List Int)×List (List Int)×List (List Int)×List (List Int)×Int×Int×Int×List (List Int)×List (List Int)×List (List Int)×List (List Int)×Bool):RV:=⟨true,[(true,[.sc (.int .i64 r.1),.sc (.int .i64 r.2.1),.sc (.int .i64 r.2.2.1),.frz (.tree (.slice .int) r.2.2.2.1),.frz (.tree (.slice .int) r.2.2.2.2.1),.frz (.tree (.slice .int) r.2.2.2.2.2.1),.frz (.tree (.slice .int) r.2.2.2.2.2.2.1)]),(true,[.sc (.int .i64 r.2.2.2.2.2.2.2.1),.sc (.int .i64 r.2.2.2.2.2.2.2.2.1),.sc (.int .i64 r.2.2.2.2.2.2.2.2.2.1),.frz (.tree (.slice .int) r.2.2.2.2.2.2.2.2.2.2.1),.frz (.tree (.slice .int) r.2.2.2.2.2.2.2.2.2.2.2.1),.frz (.tree (.slice .int) r.2.2.2.2.2.2.2.2.2.2.2.2.1),.frz (.tree (.slice .int) r.2.2.2.2.2.2.2.2.2.2.2.2.2.1)]),(false,[.sc (.bool r.2.2.2.2.2.2.2.2.2.2.2.2.2.2)])]⟩
theorem U5 {a0:Int} {a1_0:Int} {a1_1:List (Int×Int×Int×Int)} {a1_2:List Int} {a2_0:Int} {a2_1:List (Int×Int×Int×Int)} {a2_2:List Int} {r:Int×Int×Int×List (List Int)×List (List Int)×List (List Int)×List (List Int)×Int×Int×Int×List (List Int)×List (List Int)×List (List Int)×List (List Int)×Bool} (h:Em a0 a1_0 a1_1 a1_2 a2_0 a2_1 a2_2=some r):A1 Tryd.prog Tab 18 [ai a0,.agg [ai a1_0,.tree T4 a1_1,.tree .int a1_2],.agg [ai a2_0,.tree T4 a2_1,.tree .int a2_2]] (Vn r):=by
 refine Gr (by kernel_rfl) Tryd.func18 W9 (n:=38) (by kernel_rfl) (by simp) (tl:=[(0,ai a0),(1,.agg [ai a1_0,.tree T4 a1_1,.tree .int a1_2]),(2,.agg [ai a2_0,.tree T4 a2_1,.tree .int a2_2])]) rfl fun nz_=>?_
 unfold Ot;unfold Em at h;refine Al ?_;refine Ab ?_;refine Ab ?_;obtain ⟨y4,h4,h⟩:=Ae h;refine Aa 11 ?_;refine rz0 (ai a0) ?_;refine rzl (.agg [ai a1_0,.tree T4 a1_1,.tree .int a1_2]) ?_;refine rzl (.agg [ai a2_0,.tree T4 a2_1,.tree .int a2_2]) ?_;refine Bk (.bool y4) [] [ai a0,.agg [ai a1_0,.tree T4 a1_1,.tree .int a1_2],.agg [ai a2_0,.tree T4 a2_1,.tree .int a2_2]] _ (caps:=[]) (args0:=[ai a0,.agg [ai a1_0,.tree T4 a1_1,.tree .int a1_2],.agg [ai a2_0,.tree T4 a2_1,.tree .int a2_2]]) trivial (by kernel_rfl) (F7 (Rc h4)) Rp ?_;refine rsB 1 ?_;refine Ap (tn_ ?_);refine wr_ ?_;rcases Ad h with ⟨q5,h⟩ | ⟨q5,h⟩
 ·refine Ag q5 ?_;refine Al ?_;refine Ah (tr_ ?_);obtain rfl:=zj h;exact Lw [(true,[ai 0,ai 0,ai 0,.nils,.nils,.nils,.nils]),(true,[ai 0,ai 0,ai 0,.nils,.nils,.nils,.nils]),(false,[.bool false])] (Ky (Ax Cs (Ax Cs (Ax Cs (Ax (Bp (t:=.slice .int) (xs:=[]) .nil) (Ax (Bp (t:=.slice .int) (xs:=[]) .nil) (Ax (Bp (t:=.slice .int) (xs:=[]) .nil) (Ax (Bp (t:=.slice .int) (xs:=[]) .nil) K5))))))) (Ky (Ax Cs (Ax Cs (Ax Cs (Ax (Bp (t:=.slice .int) (xs:=[]) .nil) (Ax (Bp (t:=.slice .int) (xs:=[]) .nil) (Ax (Bp (t:=.slice .int) (xs:=[]) .nil) (Ax (Bp (t:=.slice .int) (xs:=[]) .nil) K5))))))) (Jg Cs Il)))
 refine Af q5 ?_;refine Aj (tn_ ?_);refine wr_ ?_;refine Ab ?_;obtain ⟨y8,h8,h⟩:=Ae h;refine Aa 20 ?_;refine rz0 (ai a0) ?_;refine rzl (.agg [ai a1_0,.tree T4 a1_1,.tree .int a1_2]) ?_;refine Bk (.tup [.agg [ai y8.1,ai y8.2.1,ai y8.2.2.1,.ftr nz_ (.slice .int) y8.2.2.2.1,.ftr nz_ (.slice .int) y8.2.2.2.2.1,.ftr nz_ (.slice .int) y8.2.2.2.2.2.1,.ftr nz_ (.slice .int) y8.2.2.2.2.2.2.1],.bool y8.2.2.2.2.2.2.2]) [] [ai a0,.agg [ai a1_0,.tree T4 a1_1,.tree .int a1_2]] _ (caps:=[]) (args0:=[ai a0,.agg [ai a1_0,.tree T4 a1_1,.tree .int a1_2]]) trivial (by kernel_rfl) (Ni (Ie h8)) Iy ?_;refine rsB 6 ?_;refine Ap (tn_ ?_);refine wr_ ?_;refine Ab ?_;obtain ⟨y10,h10,h⟩:=Ae h;refine Aa 29 ?_;refine rz0 (ai a0) ?_;refine rzl (.agg [ai a2_0,.tree T4 a2_1,.tree .int a2_2]) ?_;refine Bk (.tup [.agg [ai y10.1,ai y10.2.1,ai y10.2.2.1,.ftr nz_ (.slice .int) y10.2.2.2.1,.ftr nz_ (.slice .int) y10.2.2.2.2.1,.ftr nz_ (.slice .int) y10.2.2.2.2.2.1,.ftr nz_ (.slice .int) y10.2.2.2.2.2.2.1],.bool y10.2.2.2.2.2.2.2]) [] [ai a0,.agg [ai a2_0,.tree T4 a2_1,.tree .int a2_2]] _ (caps:=[]) (args0:=[ai a0,.agg [ai a2_0,.tree T4 a2_1,.tree .int a2_2]]) trivial (by kernel_rfl) (Ni (Ie h10)) Iy ?_;refine rsB 6 ?_;refine Ap (tn_ ?_);refine wr_ ?_;refine At h (fun (l11_m8:Bool) S_=>S_=⟨Am [(6,.box (oi 0 1) 0),(7,.box (oi 1 1) 0),(8,.bool l11_m8)],Ak (Ao [(oi 0 1,.cells 41 [ai y8.1,ai y8.2.1,ai y8.2.2.1,.ftr nz_ (.slice .int) y8.2.2.2.1,.ftr nz_ (.slice .int) y8.2.2.2.2.1,.ftr nz_ (.slice .int) y8.2.2.2.2.2.1,.ftr nz_ (.slice .int) y8.2.2.2.2.2.2.1]),(oi 1 1,.cells 41 [ai y10.1,ai y10.2.1,ai y10.2.2.1,.ftr nz_ (.slice .int) y10.2.2.2.1,.ftr nz_ (.slice .int) y10.2.2.2.2.1,.ftr nz_ (.slice .int) y10.2.2.2.2.2.1,.ftr nz_ (.slice .int) y10.2.2.2.2.2.2.1])]),2⟩) ?_ ?_
 ·intro v_ h;rcases Ad h with ⟨q12,h⟩ | ⟨q12,h⟩
  ·refine Az 38 ?_;refine dzl (.agg [ai y8.1,ai y8.2.1,ai y8.2.2.1,.ftr nz_ (.slice .int) y8.2.2.2.1,.ftr nz_ (.slice .int) y8.2.2.2.2.1,.ftr nz_ (.slice .int) y8.2.2.2.2.2.1,.ftr nz_ (.slice .int) y8.2.2.2.2.2.2.1]) ?_;refine dzl (.agg [ai y10.1,ai y10.2.1,ai y10.2.2.1,.ftr nz_ (.slice .int) y10.2.2.2.1,.ftr nz_ (.slice .int) y10.2.2.2.2.1,.ftr nz_ (.slice .int) y10.2.2.2.2.2.1,.ftr nz_ (.slice .int) y10.2.2.2.2.2.2.1]) ?_;refine dz0 (.bool y8.2.2.2.2.2.2.2) ?_;refine dz0 (.bool y8.2.2.2.2.2.2.2) ?_;refine ds0 (.bool y10.2.2.2.2.2.2.2) (zg q12) ?_;refine ds0 (.bool y10.2.2.2.2.2.2.2) (zT q12) ?_;refine Kn (oi 6 3) (oi 6 3) (.cells 41 [ai y8.1,ai y8.2.1,ai y8.2.2.1,.ftr nz_ (.slice .int) y8.2.2.2.1,.ftr nz_ (.slice .int) y8.2.2.2.2.1,.ftr nz_ (.slice .int) y8.2.2.2.2.2.1,.ftr nz_ (.slice .int) y8.2.2.2.2.2.2.1]) (by kernel_rfl) ?_;refine Kn (oi 7 4) (oi 7 4) (.cells 41 [ai y10.1,ai y10.2.1,ai y10.2.2.1,.ftr nz_ (.slice .int) y10.2.2.2.1,.ftr nz_ (.slice .int) y10.2.2.2.2.1,.ftr nz_ (.slice .int) y10.2.2.2.2.2.1,.ftr nz_ (.slice .int) y10.2.2.2.2.2.2.1]) (by kernel_rfl) ?_;refine dz0 (.bool y10.2.2.2.2.2.2.2) ?_;refine Gg (Bg (by kernel_rfl)) (tn_ ?_);obtain rfl:=zj h;exact ⟨_,Ac [(oi 0 1,oi 6 3),(oi 1 1,oi 7 4)],rfl⟩
  refine Az 38 ?_;refine dzl (.agg [ai y8.1,ai y8.2.1,ai y8.2.2.1,.ftr nz_ (.slice .int) y8.2.2.2.1,.ftr nz_ (.slice .int) y8.2.2.2.2.1,.ftr nz_ (.slice .int) y8.2.2.2.2.2.1,.ftr nz_ (.slice .int) y8.2.2.2.2.2.2.1]) ?_;refine dzl (.agg [ai y10.1,ai y10.2.1,ai y10.2.2.1,.ftr nz_ (.slice .int) y10.2.2.2.1,.ftr nz_ (.slice .int) y10.2.2.2.2.1,.ftr nz_ (.slice .int) y10.2.2.2.2.2.1,.ftr nz_ (.slice .int) y10.2.2.2.2.2.2.1]) ?_;refine dz0 (.bool y8.2.2.2.2.2.2.2) ?_;refine dz0 (.bool y8.2.2.2.2.2.2.2) ?_;refine ds0 (.tup []) (S8 (by kernel_rfl) q12) ?_;refine ds0 (.bool false) (zF q12) ?_;refine Kn (oi 6 3) (oi 6 3) (.cells 41 [ai y8.1,ai y8.2.1,ai y8.2.2.1,.ftr nz_ (.slice .int) y8.2.2.2.1,.ftr nz_ (.slice .int) y8.2.2.2.2.1,.ftr nz_ (.slice .int) y8.2.2.2.2.2.1,.ftr nz_ (.slice .int) y8.2.2.2.2.2.2.1]) (by kernel_rfl) ?_;refine Kn (oi 7 4) (oi 7 4) (.cells 41 [ai y10.1,ai y10.2.1,ai y10.2.2.1,.ftr nz_ (.slice .int) y10.2.2.2.1,.ftr nz_ (.slice .int) y10.2.2.2.2.1,.ftr nz_ (.slice .int) y10.2.2.2.2.2.1,.ftr nz_ (.slice .int) y10.2.2.2.2.2.2.1]) (by kernel_rfl) ?_;refine dz0 (.bool false) ?_;refine Gg (Bg (by kernel_rfl)) (tn_ ?_);obtain rfl:=zj h;exact ⟨_,Ac [(oi 0 1,oi 6 3),(oi 1 1,oi 7 4)],rfl⟩
 rintro l11_m8 _ rfl h
 (try dsimp only at h);refine Ah ?_;obtain rfl:=zj h;exact Lw [(true,[ai y8.1,ai y8.2.1,ai y8.2.2.1,.ftr nz_ (.slice .int) y8.2.2.2.1,.ftr nz_ (.slice .int) y8.2.2.2.2.1,.ftr nz_ (.slice .int) y8.2.2.2.2.2.1,.ftr nz_ (.slice .int) y8.2.2.2.2.2.2.1]),(true,[ai y10.1,ai y10.2.1,ai y10.2.2.1,.ftr nz_ (.slice .int) y10.2.2.2.1,.ftr nz_ (.slice .int) y10.2.2.2.2.1,.ftr nz_ (.slice .int) y10.2.2.2.2.2.1,.ftr nz_ (.slice .int) y10.2.2.2.2.2.2.1]),(false,[.bool l11_m8])] (Ky (Ax Cs (Ax Cs (Ax Cs (Ax (Bp .ftr) (Ax (Bp .ftr) (Ax (Bp .ftr) (Ax (Bp .ftr) K5))))))) (Ky (Ax Cs (Ax Cs (Ax Cs (Ax (Bp .ftr) (Ax (Bp .ftr) (Ax (Bp .ftr) (Ax (Bp .ftr) K5))))))) (Jg Cs Il)))
end
section
open Go.RowKit Go.Deep
set_option maxRecDepth 4000
def M4:AC :=
 (.seq (rg [xo 28 (qb .lss (tm 27) (tm 26))])
 (.seq (.cond (tm 28)
  .skip
  (.exit 0))
 (.seq (.block 1 (.seq (rg [xo 29 (qm (tm 27)),xo 10 (qm (tm 29))])
 (.seq (.region [xo 30 (qm (tm 8)),xo 31 (qm (tm 10)),xo 32 (qx 2 (tm 30) (tm 31)),xo 33 (qf 1 (tm 32)),xo 34 (ql (tm 33)),xo 35 (qm (tm 9)),xo 36 (qm (tm 10)),xo 37 (qx 2 (tm 35) (tm 36)),xo 38 (qf 1 (tm 37)),xo 39 (ql (tm 38)),xo 40 (qc 34 [tm 34,tm 39] [[some (.slice .int)],[some (.slice .int)]]),xo 41 (.i (.not (tm 40)))] true [])
 (.cond (tm 41)
  (.seq (rg [xo 6 (qm (cb false))])
  .ret)
  .skip))))
 (rg [xo 42 (qb .add (tm 27) (ci 1)),xo 27 (qm (tm 42))]))))
def Rr:AC :=
 (.seq (rg [xo 4 (.i (.box 41 (tm 1))),xo 5 (.i (.box 41 (tm 2))),xo 6 (qm (cb false))])
 (.seq (rg [xo 11 (qf 0 (tm 4)),xo 12 (ql (tm 11)),xo 13 (qf 0 (tm 5)),xo 14 (ql (tm 13)),xo 15 (qb .add (tm 12) (tm 14)),xo 16 (qb .add (tm 15) (ci 1)),xo 7 (qm (tm 16))])
 (.seq (.region [xo 17 (qm (tm 0)),xo 18 (.i (.ld false 7 (tm 4))),xo 19 (qm (tm 7)),xo 20 (qc 15 [tm 17,tm 18,tm 19] [[],[none,none,none,some (.slice .int),some (.slice .int),some (.slice .int),some (.slice .int)],[]]),xo 21 (qm (tm 0)),xo 22 (.i (.ld false 7 (tm 5))),xo 23 (qm (tm 7)),xo 24 (qc 15 [tm 21,tm 22,tm 23] [[],[none,none,none,some (.slice .int),some (.slice .int),some (.slice .int),some (.slice .int)],[]]),xo 8 (qm (tm 20)),xo 9 (qm (tm 24))] true [(3,5)])
 (.seq (.seq (rg [xo 25 (qm (tm 8)),xo 26 (.i (.len (tm 25))),xo 27 (qm (ci 0))])
 (.block 0 (.loop M4)))
 (.seq (rg [xo 6 (qm (cb true))])
 .ret)))))
def Abq:List Res:=[.tmp 6]
theorem Acb:Aq Tryd.prog Tryd.f22=some (Rr,Abq):=by kernel_rfl
def Fd (y4:List (Int×List (List Int))) (y5:List (Int×List (List Int))) (l8_m27:Nat):Option (Ctl Nat (Ctl Unit Bool)) :=
 cond (decide (((l8_m27:Nat):Int)<((y4.length:Nat):Int)))
 (Option.bind (y4[l8_m27]?) fun x15 =>
 Option.bind (y5[l8_m27]?) fun x16 =>
 Option.bind (Hd x15.2 x16.2) fun y17 =>
 cond (!y17)
  (some (Ctl.out (Ctl.out false)))
  (og (l8_m27+1<4611686018427387904) <|
  some (Ctl.next (l8_m27+1))))
 (some (Ctl.out (Ctl.next ())))
def Hh (a0:Int) (a1_0:Int) (a1_1:Int) (a1_2:Int) (a1_3:List (List Int)) (a1_4:List (List Int)) (a1_5:List (List Int)) (a1_6:List (List Int)) (a2_0:Int) (a2_1:Int) (a2_2:Int) (a2_3:List (List Int)) (a2_4:List (List Int)) (a2_5:List (List Int)) (a2_6:List (List Int)):Option Bool :=
 Option.bind (Ei a0 a1_0 a1_1 a1_2 a1_3 a1_4 a1_5 a1_6 (wI (wI (a1_0+a2_0)+1))) fun y4 =>
Option.bind (Ei a0 a2_0 a2_1 a2_2 a2_3 a2_4 a2_5 a2_6 (wI (wI (a1_0+a2_0)+1))) fun y5 =>
J4 (A3 (fun s_:Nat=>Fd y4 y5 s_) 4611686018427387904 0) fun _ =>
some true
def Zs (r:Bool):RV:=⟨false,[(false,[.sc (.bool r)])]⟩
theorem Aa5 {a0:Int} {a1_0:Int} {a1_1:Int} {a1_2:Int} {a1_3:List (List Int)} {a1_4:List (List Int)} {a1_5:List (List Int)} {a1_6:List (List Int)} {a2_0:Int} {a2_1:Int} {a2_2:Int} {a2_3:List (List Int)} {a2_4:List (List Int)} {a2_5:List (List Int)} {a2_6:List (List Int)} {r:Bool} (h:Hh a0 a1_0 a1_1 a1_2 a1_3 a1_4 a1_5 a1_6 a2_0 a2_1 a2_2 a2_3 a2_4 a2_5 a2_6=some r):A1 Tryd.prog Tab 22 [ai a0,.agg [ai a1_0,ai a1_1,ai a1_2,.tree (.slice .int) a1_3,.tree (.slice .int) a1_4,.tree (.slice .int) a1_5,.tree (.slice .int) a1_6],.agg [ai a2_0,ai a2_1,ai a2_2,.tree (.slice .int) a2_3,.tree (.slice .int) a2_4,.tree (.slice .int) a2_5,.tree (.slice .int) a2_6]] (Zs r):=by
 refine Av (by kernel_rfl) Tryd.func22 Acb (n:=43) (by kernel_rfl) (by simp) (tl:=[(0,ai a0),(1,.agg [ai a1_0,ai a1_1,ai a1_2,.tree (.slice .int) a1_3,.tree (.slice .int) a1_4,.tree (.slice .int) a1_5,.tree (.slice .int) a1_6]),(2,.agg [ai a2_0,ai a2_1,ai a2_2,.tree (.slice .int) a2_3,.tree (.slice .int) a2_4,.tree (.slice .int) a2_5,.tree (.slice .int) a2_6])]) rfl ?_;unfold Rr;unfold Hh at h;refine Al ?_;refine Al ?_;refine Ab ?_;obtain ⟨y4,h4,h⟩:=Ae h;obtain ⟨y5,h5,h⟩:=Ae h;refine Az 21 ?_;refine dz0 (ai a0) ?_;refine dzl (.agg [ai a1_0,ai a1_1,ai a1_2,.tree (.slice .int) a1_3,.tree (.slice .int) a1_4,.tree (.slice .int) a1_5,.tree (.slice .int) a1_6]) ?_;refine dz0 (ai (wI (wI (a1_0+a2_0)+1))) ?_;refine Cp (.tree (.pair .int (.slice (.slice .int))) y4) [] [ai a0,.agg [ai a1_0,ai a1_1,ai a1_2,.tree (.slice .int) a1_3,.tree (.slice .int) a1_4,.tree (.slice .int) a1_5,.tree (.slice .int) a1_6],ai (wI (wI (a1_0+a2_0)+1))] _ (caps:=[]) (args0:=[ai a0,.agg [ai a1_0,ai a1_1,ai a1_2,.tree (.slice .int) a1_3,.tree (.slice .int) a1_4,.tree (.slice .int) a1_5,.tree (.slice .int) a1_6],ai (wI (wI (a1_0+a2_0)+1))]) trivial (by kernel_rfl) (M6 h4) Nb ?_;refine dz0 (ai a0) ?_;refine dzl (.agg [ai a2_0,ai a2_1,ai a2_2,.tree (.slice .int) a2_3,.tree (.slice .int) a2_4,.tree (.slice .int) a2_5,.tree (.slice .int) a2_6]) ?_;refine dz0 (ai (wI (wI (a1_0+a2_0)+1))) ?_;refine Cp (.tree (.pair .int (.slice (.slice .int))) y5) [] [ai a0,.agg [ai a2_0,ai a2_1,ai a2_2,.tree (.slice .int) a2_3,.tree (.slice .int) a2_4,.tree (.slice .int) a2_5,.tree (.slice .int) a2_6],ai (wI (wI (a1_0+a2_0)+1))] _ (caps:=[]) (args0:=[ai a0,.agg [ai a2_0,ai a2_1,ai a2_2,.tree (.slice .int) a2_3,.tree (.slice .int) a2_4,.tree (.slice .int) a2_5,.tree (.slice .int) a2_6],ai (wI (wI (a1_0+a2_0)+1))]) trivial (by kernel_rfl) (M6 h5) Nb ?_;refine dz0 (.tree (.pair .int (.slice (.slice .int))) y4) ?_;refine dz0 (.tree (.pair .int (.slice (.slice .int))) y5) ?_;refine Gg (Bg (by kernel_rfl)) (tn_ ?_);refine wr_ ?_;refine Db h (fun (_:Unit) S_=>S_=⟨Am [],Ak (Ao []),2⟩) ?_ ?_
 ·intro v_ h hk6;refine Al ?_;refine Ai ?_;refine A4 h (fun (l8_m27:Nat) S_=>S_=⟨Am [(8,.tree (.pair .int (.slice (.slice .int))) y4),(9,.tree (.pair .int (.slice (.slice .int))) y5),(26,ai ((y4.length:Nat):Int)),(27,ai ((l8_m27:Nat):Int))],Ak (Ao []),2⟩) ⟨_,Ac [],rfl⟩ ?_;rintro n_ l8_m27 _ c_ rfl h hn8
  (try dsimp only at h);unfold Fd at h;unfold M4;refine Al ?_;refine Ab ?_;rcases Ad h with ⟨q11,h⟩ | ⟨q11,h⟩
  ·have q11_:=of_decide_eq_true q11;refine Ag q11 ?_;refine Aj (tn_ ?_);refine wr_ ?_;refine Ab ?_;refine Ai ?_;refine Al ?_;refine Ab ?_;obtain ⟨x15,e15,h⟩:=Ae h;obtain ⟨x16,e16,h⟩:=Ae h;obtain ⟨y17,h17,h⟩:=Ae h;refine Az 17 ?_;refine dz0 (.tree (.pair .int (.slice (.slice .int))) y4) ?_;refine dz0 (ai ((l8_m27:Nat):Int)) ?_;refine ds0 (.telt (.pair .int (.slice (.slice .int))) x15 0) (zi (t:=.pair .int (.slice (.slice .int))) (xs:=y4) (k:=.i64) (m:=((l8_m27:Nat):Int)) (Bi _) e15) ?_;refine dz0 (.telt (.pair .int (.slice (.slice .int))) x15 1) ?_;refine dz0 (.tree (.slice .int) x15.2) ?_;refine dz0 (.tree (.pair .int (.slice (.slice .int))) y5) ?_;refine dz0 (ai ((l8_m27:Nat):Int)) ?_;refine ds0 (.telt (.pair .int (.slice (.slice .int))) x16 0) (zi (t:=.pair .int (.slice (.slice .int))) (xs:=y5) (k:=.i64) (m:=((l8_m27:Nat):Int)) (Bi _) e16) ?_;refine dz0 (.telt (.pair .int (.slice (.slice .int))) x16 1) ?_;refine dz0 (.tree (.slice .int) x16.2) ?_;refine Cp (.bool y17) [] [.tree (.slice .int) x15.2,.tree (.slice .int) x16.2] _ (caps:=[]) (args0:=[.tree (.slice .int) x15.2,.tree (.slice .int) x16.2]) trivial (by kernel_rfl) (Y0 h17) Yt ?_;refine dz0 (.bool (!y17)) ?_;refine Gg (Bg (by kernel_rfl)) (tn_ ?_);refine wr_ ?_;rcases Ad h with ⟨q18,h⟩ | ⟨q18,h⟩
   ·refine Ag q18 ?_;refine Al ?_;refine Ah (br_ (tr_ (tr_ (br_ (tr_ ?_)))));obtain rfl:=zj h;have h:=hn8
    (try dsimp only at h);obtain rfl:=zj h;have h:=hk6
    (try dsimp only at h);obtain rfl:=zj h;exact Bm [.bool false] (Aw rfl zl Ay)
   refine Af q18 ?_;refine Aj (bn_ (tn_ ?_));refine wr_ ?_;obtain ⟨g20,h⟩:=As h;refine Aa 19 ?_;refine rs0 (ai ((l8_m27+1:Nat):Int)) (za g20) ?_;refine rsB 1 ?_;refine Ap (tn_ ?_);obtain rfl:=zj h;exact ⟨l8_m27+1,_,Ac [],rfl,hn8⟩
  have q11_:=of_decide_eq_false q11;refine Af q11 ?_;refine A0 (te_ (te_ (be_ (tn_ ?_))));obtain rfl:=zj h;have h:=hn8
  (try dsimp only at h);obtain rfl:=zj h;exact ⟨(),_,rfl,Ac [],rfl⟩
 rintro _ _ rfl h
 (try dsimp only at h);refine Al ?_;refine Ah ?_;obtain rfl:=zj h;exact Bm [.bool true] (Aw rfl zl Ay)
def G6:AC :=
 (.seq (rg [xo 14 (qb .lss (tm 13) (tm 12))])
 (.seq (.cond (tm 14)
  .skip
  (.exit 0))
 (.seq (.block 1 (.seq (rg [xo 15 (qm (tm 13)),xo 5 (qm (tm 15))])
 (.seq (.region [xo 16 (qm (tm 0)),xo 17 (qm (tm 5)),xo 18 (qx 1 (tm 16) (tm 17)),xo 19 (ql (tm 18)),xo 20 (qm (tm 1)),xo 21 (qm (tm 5)),xo 22 (qx 1 (tm 20) (tm 21)),xo 23 (ql (tm 22)),xo 24 (qb .neq (tm 19) (tm 23))] true [])
 (.cond (tm 24)
  (.seq (rg [xo 4 (qm (cb false))])
  .ret)
  .skip))))
 (rg [xo 25 (qb .add (tm 13) (ci 1)),xo 13 (qm (tm 25))]))))
def Ij:AC :=
 (.seq (rg [xo 4 (qm (cb false))])
 (.seq (.seq (rg [xo 6 (qm (tm 0)),xo 7 (.i (.len (tm 6))),xo 8 (qm (tm 1)),xo 9 (.i (.len (tm 8))),xo 10 (qb .neq (tm 7) (tm 9))])
 (.cond (tm 10)
  (.seq (rg [xo 4 (qm (cb false))])
  .ret)
  .skip))
 (.seq (.seq (rg [xo 11 (qm (tm 0)),xo 12 (.i (.len (tm 11))),xo 13 (qm (ci 0))])
 (.block 0 (.loop G6)))
 (.seq (rg [xo 4 (qm (cb true))])
 .ret))))
def Ny:List Res:=[.tmp 4]
theorem N6:Aq Tryd.prog Tryd.f70=some (Ij,Ny):=by kernel_rfl
def Cf (a0:List Int) (a1:List Int) (l8_m13:Nat):Option (Ctl Nat (Ctl Unit Bool)) :=
 cond (decide (((l8_m13:Nat):Int)<((a0.length:Nat):Int)))
 (Option.bind (a0[l8_m13]?) fun x15 =>
 Option.bind (a1[l8_m13]?) fun x16 =>
 cond (x15 !=x16)
  (some (Ctl.out (Ctl.out false)))
  (og (l8_m13+1<4611686018427387904) <|
  some (Ctl.next (l8_m13+1))))
 (some (Ctl.out (Ctl.next ())))
def Cv (a0:List Int) (a1:List Int):Option Bool :=
 cond (((a0.length:Nat):Int) !=((a1.length:Nat):Int))
 (some false)
 (J4 (A3 (fun s_:Nat=>Cf a0 a1 s_) 4611686018427387904 0) fun _ =>
 some true)
def Mu (r:Bool):RV:=⟨false,[(false,[.sc (.bool r)])]⟩
theorem Mz {a0:List Int} {a1:List Int} {r:Bool} (h:Cv a0 a1=some r):A1 Tryd.prog Tab 70 [.tree .int a0,.tree .int a1] (Mu r):=by
 refine Av (by kernel_rfl) Tryd.func70 N6 (n:=26) (by kernel_rfl) (by simp) (tl:=[(0,.tree .int a0),(1,.tree .int a1)]) rfl ?_;unfold Ij;unfold Cv at h;refine Al ?_;refine Ab ?_;refine Al ?_;rcases Ad h with ⟨q4,h⟩ | ⟨q4,h⟩
 ·refine Ag q4 ?_;refine Al ?_;refine Ah (tr_ ?_);obtain rfl:=zj h;exact Bm [.bool false] (Aw rfl zl Ay)
 refine Af q4 ?_;refine Aj (tn_ ?_);refine wr_ ?_;refine Db h (fun (_:Unit) S_=>S_=⟨Am [],Ak (Ao []),2⟩) ?_ ?_
 ·intro v_ h hk6;refine Al ?_;refine Ai ?_;refine A4 h (fun (l8_m13:Nat) S_=>S_=⟨Am [(0,.tree .int a0),(1,.tree .int a1),(12,ai ((a0.length:Nat):Int)),(13,ai ((l8_m13:Nat):Int))],Ak (Ao []),2⟩) ⟨_,Ac [],rfl⟩ ?_;rintro n_ l8_m13 _ c_ rfl h hn8
  (try dsimp only at h);unfold Cf at h;unfold G6;refine Al ?_;refine Ab ?_;rcases Ad h with ⟨q11,h⟩ | ⟨q11,h⟩
  ·have q11_:=of_decide_eq_true q11;refine Ag q11 ?_;refine Aj (tn_ ?_);refine wr_ ?_;refine Ab ?_;refine Ai ?_;refine Al ?_;refine Ab ?_;obtain ⟨x15,e15,h⟩:=Ae h;obtain ⟨x16,e16,h⟩:=Ae h;refine Az 14 ?_;refine dz0 (.tree .int a0) ?_;refine dz0 (ai ((l8_m13:Nat):Int)) ?_;refine ds0 (.telt .int x15 0) (zi (t:=.int) (xs:=a0) (k:=.i64) (m:=((l8_m13:Nat):Int)) (Bi _) e15) ?_;refine dz0 (ai x15) ?_;refine dz0 (.tree .int a1) ?_;refine dz0 (ai ((l8_m13:Nat):Int)) ?_;refine ds0 (.telt .int x16 0) (zi (t:=.int) (xs:=a1) (k:=.i64) (m:=((l8_m13:Nat):Int)) (Bi _) e16) ?_;refine dz0 (ai x16) ?_;refine dz0 (.bool (x15 !=x16)) ?_;refine Gg (Bg (by kernel_rfl)) (tn_ ?_);refine wr_ ?_;rcases Ad h with ⟨q17,h⟩ | ⟨q17,h⟩
   ·refine Ag q17 ?_;refine Al ?_;refine Ah (br_ (tr_ (tr_ (br_ (tr_ ?_)))));obtain rfl:=zj h;have h:=hn8
    (try dsimp only at h);obtain rfl:=zj h;have h:=hk6
    (try dsimp only at h);obtain rfl:=zj h;exact Bm [.bool false] (Aw rfl zl Ay)
   refine Af q17 ?_;refine Aj (bn_ (tn_ ?_));refine wr_ ?_;obtain ⟨g19,h⟩:=As h;refine Aa 16 ?_;refine rs0 (ai ((l8_m13+1:Nat):Int)) (za g19) ?_;refine rsB 1 ?_;refine Ap (tn_ ?_);obtain rfl:=zj h;exact ⟨l8_m13+1,_,Ac [],rfl,hn8⟩
  have q11_:=of_decide_eq_false q11;refine Af q11 ?_;refine A0 (te_ (te_ (be_ (tn_ ?_))));obtain rfl:=zj h;have h:=hn8
  (try dsimp only at h);obtain rfl:=zj h;exact ⟨(),_,rfl,Ac [],rfl⟩
 rintro _ _ rfl h
 (try dsimp only at h);refine Al ?_;refine Ah ?_;obtain rfl:=zj h;exact Bm [.bool true] (Aw rfl zl Ay)
def Dv:AC :=
 (.seq (rg [xo 18 (qb .lss (tm 17) (tm 16))])
 (.seq (.cond (tm 18)
  .skip
  (.exit 0))
 (.seq (.block 1 (.seq (rg [xo 19 (qm (tm 17)),xo 20 (qx 1 (tm 15) (tm 17)),xo 21 (ql (tm 20)),xo 7 (qm (tm 19)),xo 8 (qm (tm 21))])
 (.seq (rg [xo 22 (qm (tm 1)),xo 23 (qm (tm 7)),xo 24 (qx 1 (tm 22) (tm 23)),xo 25 (ql (tm 24)),xo 9 (qm (tm 25))])
 (.seq (rg [xo 26 (qm (tm 2)),xo 27 (qm (tm 8)),xo 28 (qm (tm 9)),xo 29 (.call (tm 26) [tm 27,tm 28] [[some .int],[some .int]]),xo 30 (.i (.not (tm 29)))])
 (.cond (tm 30)
  (.seq (rg [xo 6 (qm (cb false))])
  .ret)
  .skip)))))
 (rg [xo 31 (qb .add (tm 17) (ci 1)),xo 17 (qm (tm 31))]))))
def Ed:AC :=
 (.seq (rg [xo 6 (qm (cb false))])
 (.seq (.seq (rg [xo 10 (qm (tm 0)),xo 11 (.i (.len (tm 10))),xo 12 (qm (tm 1)),xo 13 (.i (.len (tm 12))),xo 14 (qb .neq (tm 11) (tm 13))])
 (.cond (tm 14)
  (.seq (rg [xo 6 (qm (cb false))])
  .ret)
  .skip))
 (.seq (.seq (rg [xo 15 (qm (tm 0)),xo 16 (.i (.len (tm 15))),xo 17 (qm (ci 0))])
 (.block 0 (.loop Dv)))
 (.seq (rg [xo 6 (qm (cb true))])
 .ret))))
def H4:List Res:=[.tmp 6]
theorem H2:Aq Tryd.prog Tryd.f69=some (Ed,H4):=by kernel_rfl
def A5 (a0:List (List Int)) (a1:List (List Int)) (l8_m17:Nat):Option (Ctl Nat (Ctl Unit Bool)) :=
 cond (decide (((l8_m17:Nat):Int)<((a0.length:Nat):Int)))
 (Option.bind (a0[l8_m17]?) fun x14 =>
 Option.bind (a1[l8_m17]?) fun x16 =>
 Option.bind (Cv x14 x16) fun y18 =>
 cond (!y18)
  (some (Ctl.out (Ctl.out false)))
  (og (l8_m17+1<4611686018427387904) <|
  some (Ctl.next (l8_m17+1))))
 (some (Ctl.out (Ctl.next ())))
def A7 (a0:List (List Int)) (a1:List (List Int)):Option Bool :=
 cond (((a0.length:Nat):Int) !=((a1.length:Nat):Int))
 (some false)
 (J4 (A3 (fun s_:Nat=>A5 a0 a1 s_) 4611686018427387904 0) fun _ =>
 some true)
def C4 (r:Bool):RV:=⟨false,[(false,[.sc (.bool r)])]⟩
theorem C2 {a0:List (List Int)} {a1:List (List Int)} {r:Bool} (h:A7 a0 a1=some r):A1 Tryd.prog Tab 69 [.tree (.slice .int) a0,.tree (.slice .int) a1,.fn 70 []] (C4 r):=by
 refine Av (by kernel_rfl) Tryd.func69 H2 (n:=32) (by kernel_rfl) (by simp) (tl:=[(0,.tree (.slice .int) a0),(1,.tree (.slice .int) a1),(2,.fn 70 [])]) rfl ?_;unfold Ed;unfold A7 at h;refine Al ?_;refine Ab ?_;refine Al ?_;rcases Ad h with ⟨q4,h⟩ | ⟨q4,h⟩
 ·refine Ag q4 ?_;refine Al ?_;refine Ah (tr_ ?_);obtain rfl:=zj h;exact Bm [.bool false] (Aw rfl zl Ay)
 refine Af q4 ?_;refine Aj (tn_ ?_);refine wr_ ?_;refine Db h (fun (_:Unit) S_=>S_=⟨Am [],Ak (Ao []),2⟩) ?_ ?_
 ·intro v_ h hk6;refine Al ?_;refine Ai ?_;refine A4 h (fun (l8_m17:Nat) S_=>S_=⟨Am [(1,.tree (.slice .int) a1),(2,.fn 70 []),(15,.tree (.slice .int) a0),(16,ai ((a0.length:Nat):Int)),(17,ai ((l8_m17:Nat):Int))],Ak (Ao []),2⟩) ⟨_,Ac [],rfl⟩ ?_;rintro n_ l8_m17 _ c_ rfl h hn8
  (try dsimp only at h);unfold A5 at h;unfold Dv;refine Al ?_;refine Ab ?_;rcases Ad h with ⟨q11,h⟩ | ⟨q11,h⟩
  ·have q11_:=of_decide_eq_true q11;refine Ag q11 ?_;refine Aj (tn_ ?_);refine wr_ ?_;refine Ab ?_;refine Ai ?_;refine Ab ?_;obtain ⟨x14,e14,h⟩:=Ae h;refine Aa 8 ?_;refine rz0 (ai ((l8_m17:Nat):Int)) ?_;refine rs0 (.telt (.slice .int) x14 0) (zi (t:=.slice .int) (xs:=a0) (k:=.i64) (m:=((l8_m17:Nat):Int)) (Bi _) e14) ?_;refine rsB 3 ?_;refine Ap (tn_ ?_);refine wr_ ?_;refine Ab ?_;obtain ⟨x16,e16,h⟩:=Ae h;refine Aa 13 ?_;refine rz0 (.tree (.slice .int) a1) ?_;refine rz0 (ai ((l8_m17:Nat):Int)) ?_;refine rs0 (.telt (.slice .int) x16 0) (zi (t:=.slice .int) (xs:=a1) (k:=.i64) (m:=((l8_m17:Nat):Int)) (Bi _) e16) ?_;refine rsB 2 ?_;refine Ap (tn_ ?_);refine wr_ ?_;refine Ab ?_;obtain ⟨y18,h18,h⟩:=Ae h;refine Aa 18 ?_;refine rz0 (.fn 70 []) ?_;refine rz0 (.tree .int x14) ?_;refine rz0 (.tree .int x16) ?_;refine zc (.bool y18) [] [.tree .int x14,.tree .int x16] (Mz h18) ?_;refine rsB 1 ?_;refine Ap (tn_ ?_);refine wr_ ?_;rcases Ad h with ⟨q19,h⟩ | ⟨q19,h⟩
   ·refine Ag q19 ?_;refine Al ?_;refine Ah (br_ (tr_ (tr_ (br_ (tr_ ?_)))));obtain rfl:=zj h;have h:=hn8
    (try dsimp only at h);obtain rfl:=zj h;have h:=hk6
    (try dsimp only at h);obtain rfl:=zj h;exact Bm [.bool false] (Aw rfl zl Ay)
   refine Af q19 ?_;refine Aj (bn_ (tn_ ?_));refine wr_ ?_;obtain ⟨g21,h⟩:=As h;refine Aa 20 ?_;refine rs0 (ai ((l8_m17+1:Nat):Int)) (za g21) ?_;refine rsB 1 ?_;refine Ap (tn_ ?_);obtain rfl:=zj h;exact ⟨l8_m17+1,_,Ac [],rfl,hn8⟩
  have q11_:=of_decide_eq_false q11;refine Af q11 ?_;refine A0 (te_ (te_ (be_ (tn_ ?_))));obtain rfl:=zj h;have h:=hn8
  (try dsimp only at h);obtain rfl:=zj h;exact ⟨(),_,rfl,Ac [],rfl⟩
 rintro _ _ rfl h
 (try dsimp only at h);refine Al ?_;refine Ah ?_;obtain rfl:=zj h;exact Bm [.bool true] (Aw rfl zl Ay)
def Oq:AC :=
 (.seq (rg [xo 4 (qm (cb false))])
 (.seq (rg [xo 5 (qm (tm 0)),xo 6 (qm (tm 1)),xo 7 (qc 69 [tm 5,tm 6,.cst (.fn 70 [])] [[some (.slice .int)],[some (.slice .int)],[]]),xo 4 (qm (tm 7))])
 .ret))
def W8:List Res:=[.tmp 4]
theorem Wo:Aq Tryd.prog Tryd.f51=some (Oq,W8):=by kernel_rfl
theorem Vg:Ba Tryd.prog 51=true:=by kernel_rfl
def Hx (a0:List (List Int)) (a1:List (List Int)):Option Bool :=
 Option.bind (A7 a0 a1) fun y3 =>
some y3
def Vc (r:Bool):RV:=⟨false,[(false,[.sc (.bool r)])]⟩
theorem U0 {a0:List (List Int)} {a1:List (List Int)} {r:Bool} (h:Hx a0 a1=some r):A1 Tryd.prog Tab 51 [.tree (.slice .int) a0,.tree (.slice .int) a1] (Vc r):=by
 refine Av (by kernel_rfl) Tryd.func51 Wo (n:=8) (by kernel_rfl) (by simp) (tl:=[(0,.tree (.slice .int) a0),(1,.tree (.slice .int) a1)]) rfl ?_;unfold Oq;unfold Hx at h;refine Al ?_;refine Ab ?_;obtain ⟨y3,h3,h⟩:=Ae h;refine Aa 6 ?_;refine rz0 (.tree (.slice .int) a0) ?_;refine rz0 (.tree (.slice .int) a1) ?_;refine zc (.bool y3) [] [.tree (.slice .int) a0,.tree (.slice .int) a1,.fn 70 []] (C2 h3) ?_;refine rsB 1 ?_;refine Ap (tn_ ?_);refine wr_ ?_;refine Ah ?_;obtain rfl:=zj h;exact Bm [.bool y3] (Aw rfl zl Ay)
def Jr:AC :=
 (.seq (rg [xo 2 (.i (.box 47 (tm 0))),xo 3 (.i (.box 47 (tm 1))),xo 4 (qm (cb false))])
 (.seq (rg [xo 5 (qf 0 (tm 2)),xo 6 (ql (tm 5)),xo 7 (qf 0 (tm 3)),xo 8 (ql (tm 7)),xo 9 (qb .eql (tm 6) (tm 8)),xo 10 (qm (tm 9)),⟨some 11,some (10,true),qf 1 (tm 2)⟩,⟨some 12,some (10,true),ql (tm 11)⟩,⟨some 13,some (10,true),qf 1 (tm 3)⟩,⟨some 14,some (10,true),ql (tm 13)⟩,⟨some 15,some (10,true),qc 51 [tm 12,tm 14] [[some (.slice .int)],[some (.slice .int)]]⟩,xo 16 (.i (.pick (tm 10) (tm 15) (cb false))),xo 4 (qm (tm 16))])
 .ret))
def Pt:List Res:=[.tmp 4]
theorem Pn:Aq Tryd.prog Tryd.f36=some (Jr,Pt):=by kernel_rfl
def Dn (a0_0:Int) (a0_1:List (List Int)) (a1_0:Int) (a1_1:List (List Int)):Option Bool :=
 Option.bind (cond (a0_0==a1_0)
  (Option.bind (Hx a0_1 a1_1) fun y4 =>
  some y4)
  (some false)) fun l2_m4 =>
some l2_m4
def O2 (r:Bool):RV:=⟨false,[(false,[.sc (.bool r)])]⟩
theorem O1 {a0_0:Int} {a0_1:List (List Int)} {a1_0:Int} {a1_1:List (List Int)} {r:Bool} (h:Dn a0_0 a0_1 a1_0 a1_1=some r):A1 Tryd.prog Tab 36 [.agg [ai a0_0,.tree (.slice .int) a0_1],.agg [ai a1_0,.tree (.slice .int) a1_1]] (O2 r):=by
 refine Av (by kernel_rfl) Tryd.func36 Pn (n:=17) (by kernel_rfl) (by simp) (tl:=[(0,.agg [ai a0_0,.tree (.slice .int) a0_1]),(1,.agg [ai a1_0,.tree (.slice .int) a1_1])]) rfl ?_;unfold Jr;unfold Dn at h;refine Al ?_;refine At h (fun (l2_m4:Bool) S_=>S_=⟨Am [(4,.bool l2_m4)],Ak (Ao []),2⟩) ?_ ?_
 ·intro v_ h;rcases Ad h with ⟨q3,h⟩ | ⟨q3,h⟩
  ·obtain ⟨y4,h4,h⟩:=Ae h;refine Aa 17 ?_;refine rz0 (.box (oi 2 1) 0) ?_;refine rzl (ai a0_0) ?_;refine rz0 (.box (oi 3 2) 0) ?_;refine rzl (ai a1_0) ?_;refine rz0 (.bool (a0_0==a1_0)) ?_;refine rz0 (.bool (a0_0==a1_0)) ?_;refine rs0 (.box (oi 2 1) 1) (zg q3) ?_;refine rsl (.tree (.slice .int) a0_1) (zg q3) ?_;refine rs0 (.box (oi 3 2) 1) (zg q3) ?_;refine rsl (.tree (.slice .int) a1_1) (zg q3) ?_;refine Bk (.bool y4) [] [.tree (.slice .int) a0_1,.tree (.slice .int) a1_1] _ (caps:=[]) (args0:=[.tree (.slice .int) a0_1,.tree (.slice .int) a1_1]) (Bo (by kernel_rfl) q3) (by kernel_rfl) (U0 h4) Vg ?_;refine rs0 (.bool y4) (zT q3) ?_;refine rsB 1 ?_;refine Ap (tn_ ?_);obtain rfl:=zj h;exact ⟨_,Ac [],rfl⟩
  refine Aa 17 ?_;refine rz0 (.box (oi 2 1) 0) ?_;refine rzl (ai a0_0) ?_;refine rz0 (.box (oi 3 2) 0) ?_;refine rzl (ai a1_0) ?_;refine rz0 (.bool (a0_0==a1_0)) ?_;refine rz0 (.bool (a0_0==a1_0)) ?_;refine zs q3 ?_;refine zs q3 ?_;refine zs q3 ?_;refine zs q3 ?_;refine zs q3 ?_;refine rs0 (.bool false) (zF q3) ?_;refine rsB 1 ?_;refine Ap (tn_ ?_);obtain rfl:=zj h;exact ⟨_,Ac [],rfl⟩
 rintro l2_m4 _ rfl h
 (try dsimp only at h);refine Ah ?_;obtain rfl:=zj h;exact Bm [.bool l2_m4] (Aw rfl zl Ay)
def Bq:AC :=
 (.seq (rg [xo 18 (qb .lss (tm 17) (tm 16))])
 (.seq (.cond (tm 18)
  .skip
  (.exit 0))
 (.seq (.block 1 (.seq (rg [xo 19 (qm (tm 17)),xo 20 (qx 2 (tm 15) (tm 17)),xo 21 (.i (.ld false 2 (tm 20))),xo 8 (.i (.alloc 47 [.int .i64 0,.nils])),xo 7 (qm (tm 19)),xn (.st false 2 (tm 8) (tm 21))])
 (.seq (rg [xo 22 (qm (tm 1)),xo 23 (qm (tm 7)),xo 24 (qx 2 (tm 22) (tm 23)),xo 25 (.i (.ld false 2 (tm 24))),xo 9 (.i (.alloc 47 [.int .i64 0,.nils])),xn (.st false 2 (tm 9) (tm 25))])
 (.seq (rg [xo 26 (qm (tm 2)),xo 27 (.i (.ld false 2 (tm 8))),xo 28 (.i (.ld false 2 (tm 9))),xo 29 (.call (tm 26) [tm 27,tm 28] [[none,some (.slice .int)],[none,some (.slice .int)]]),xo 30 (.i (.not (tm 29)))])
 (.cond (tm 30)
  (.seq (rg [xo 6 (qm (cb false))])
  .ret)
  .skip)))))
 (rg [xo 31 (qb .add (tm 17) (ci 1)),xo 17 (qm (tm 31))]))))
def Bt:AC :=
 (.seq (rg [xo 6 (qm (cb false))])
 (.seq (.seq (rg [xo 10 (qm (tm 0)),xo 11 (.i (.len (tm 10))),xo 12 (qm (tm 1)),xo 13 (.i (.len (tm 12))),xo 14 (qb .neq (tm 11) (tm 13))])
 (.cond (tm 14)
  (.seq (rg [xo 6 (qm (cb false))])
  .ret)
  .skip))
 (.seq (.seq (rg [xo 15 (qm (tm 0)),xo 16 (.i (.len (tm 15))),xo 17 (qm (ci 0))])
 (.block 0 (.loop Bq)))
 (.seq (rg [xo 6 (qm (cb true))])
 .ret))))
def Cm:List Res:=[.tmp 6]
theorem Cn:Aq Tryd.prog Tryd.f35=some (Bt,Cm):=by kernel_rfl
theorem Cl:Ba Tryd.prog 35=true:=by kernel_rfl
def An (a0:List (Int×List (List Int))) (a1:List (Int×List (List Int))) (l8_m17:Nat):Option (Ctl Nat (Ctl Unit Bool)) :=
 cond (decide (((l8_m17:Nat):Int)<((a0.length:Nat):Int)))
 (Option.bind (a0[l8_m17]?) fun x14 =>
 Option.bind (a1[l8_m17]?) fun x16 =>
 Option.bind (Dn x14.1 x14.2 x16.1 x16.2) fun y18 =>
 cond (!y18)
  (some (Ctl.out (Ctl.out false)))
  (og (l8_m17+1<4611686018427387904) <|
  some (Ctl.next (l8_m17+1))))
 (some (Ctl.out (Ctl.next ())))
def Au (a0:List (Int×List (List Int))) (a1:List (Int×List (List Int))):Option Bool :=
 cond (((a0.length:Nat):Int) !=((a1.length:Nat):Int))
 (some false)
 (J4 (A3 (fun s_:Nat=>An a0 a1 s_) 4611686018427387904 0) fun _ =>
 some true)
def Bz (r:Bool):RV:=⟨false,[(false,[.sc (.bool r)])]⟩
theorem Bx {a0:List (Int×List (List Int))} {a1:List (Int×List (List Int))} {r:Bool} (h:Au a0 a1=some r):A1 Tryd.prog Tab 35 [.tree (.pair .int (.slice (.slice .int))) a0,.tree (.pair .int (.slice (.slice .int))) a1,.fn 36 []] (Bz r):=by
 refine Av (by kernel_rfl) Tryd.func35 Cn (n:=32) (by kernel_rfl) (by simp) (tl:=[(0,.tree (.pair .int (.slice (.slice .int))) a0),(1,.tree (.pair .int (.slice (.slice .int))) a1),(2,.fn 36 [])]) rfl ?_;unfold Bt;unfold Au at h;refine Al ?_;refine Ab ?_;refine Al ?_;rcases Ad h with ⟨q4,h⟩ | ⟨q4,h⟩
 ·refine Ag q4 ?_;refine Al ?_;refine Ah (tr_ ?_);obtain rfl:=zj h;exact Bm [.bool false] (Aw rfl zl Ay)
 refine Af q4 ?_;refine Aj (tn_ ?_);refine wr_ ?_;refine Db h (fun (_:Unit) S_=>S_=⟨Am [],Ak (Ao []),2⟩) ?_ ?_
 ·intro v_ h hk6;refine Al ?_;refine Ai ?_;refine A4 h (fun (l8_m17:Nat) S_=>S_=⟨Am [(1,.tree (.pair .int (.slice (.slice .int))) a1),(2,.fn 36 []),(15,.tree (.pair .int (.slice (.slice .int))) a0),(16,ai ((a0.length:Nat):Int)),(17,ai ((l8_m17:Nat):Int))],Ak (Ao []),2⟩) ⟨_,Ac [],rfl⟩ ?_;rintro n_ l8_m17 _ c_ rfl h hn8
  (try dsimp only at h);unfold An at h;unfold Bq;refine Al ?_;refine Ab ?_;rcases Ad h with ⟨q11,h⟩ | ⟨q11,h⟩
  ·have q11_:=of_decide_eq_true q11;refine Ag q11 ?_;refine Aj (tn_ ?_);refine wr_ ?_;refine Ab ?_;refine Ai ?_;refine Ab ?_;obtain ⟨x14,e14,h⟩:=Ae h;refine Aa 9 ?_;refine rz0 (ai ((l8_m17:Nat):Int)) ?_;refine rs0 (.telt (.pair .int (.slice (.slice .int))) x14 0) (zi (t:=.pair .int (.slice (.slice .int))) (xs:=a0) (k:=.i64) (m:=((l8_m17:Nat):Int)) (Bi _) e14) ?_;refine rsB 4 ?_;refine Ap (tn_ ?_);refine wr_ ?_;refine Ab ?_;obtain ⟨x16,e16,h⟩:=Ae h;refine Aa 15 ?_;refine rz0 (.tree (.pair .int (.slice (.slice .int))) a1) ?_;refine rz0 (ai ((l8_m17:Nat):Int)) ?_;refine rs0 (.telt (.pair .int (.slice (.slice .int))) x16 0) (zi (t:=.pair .int (.slice (.slice .int))) (xs:=a1) (k:=.i64) (m:=((l8_m17:Nat):Int)) (Bi _) e16) ?_;refine rsB 3 ?_;refine Ap (tn_ ?_);refine wr_ ?_;refine Ab ?_;obtain ⟨y18,h18,h⟩:=Ae h;refine Aa 20 ?_;refine rz0 (.fn 36 []) ?_;refine rzl (.agg [ai x14.1,.tree (.slice .int) x14.2]) ?_;refine rzl (.agg [ai x16.1,.tree (.slice .int) x16.2]) ?_;refine zc (.bool y18) [] [.agg [ai x14.1,.tree (.slice .int) x14.2],.agg [ai x16.1,.tree (.slice .int) x16.2]] (O1 h18) ?_;refine rsB 1 ?_;refine Ap (tn_ ?_);refine wr_ ?_;rcases Ad h with ⟨q19,h⟩ | ⟨q19,h⟩
   ·refine Ag q19 ?_;refine Al ?_;refine Ah (br_ (tr_ (tr_ (br_ (tr_ ?_)))));obtain rfl:=zj h;have h:=hn8
    (try dsimp only at h);obtain rfl:=zj h;have h:=hk6
    (try dsimp only at h);obtain rfl:=zj h;exact Bm [.bool false] (Aw rfl zl Ay)
   refine Af q19 ?_;refine Aj (bn_ (tn_ ?_));refine wr_ ?_;obtain ⟨g21,h⟩:=As h;refine Aa 22 ?_;refine rs0 (ai ((l8_m17+1:Nat):Int)) (za g21) ?_;refine rsB 1 ?_;refine Ap (tn_ ?_);obtain rfl:=zj h;exact ⟨l8_m17+1,_,Ac [],rfl,hn8⟩
  have q11_:=of_decide_eq_false q11;refine Af q11 ?_;refine A0 (te_ (te_ (be_ (tn_ ?_))));obtain rfl:=zj h;have h:=hn8
  (try dsimp only at h);obtain rfl:=zj h;exact ⟨(),_,rfl,Ac [],rfl⟩
 rintro _ _ rfl h
 (try dsimp only at h);refine Al ?_;refine Ah ?_;obtain rfl:=zj h;exact Bm [.bool true] (Aw rfl zl Ay)
def K2:AC :=
 (.seq (rg [xo 4 (.i (.box 41 (tm 1))),xo 5 (.i (.box 41 (tm 2))),xo 6 (qm (cb false))])
 (.seq (rg [xo 8 (qf 0 (tm 4)),xo 9 (ql (tm 8)),xo 10 (qf 0 (tm 5)),xo 11 (ql (tm 10)),xo 12 (qb .add (tm 9) (tm 11)),xo 13 (qb .add (tm 12) (ci 1)),xo 7 (qm (tm 13))])
 (.seq (.region [xo 14 (.i (.ld false 7 (tm 4))),xo 15 (qm (tm 0)),xo 16 (qm (tm 7)),xo 17 (qc 19 [tm 14,tm 15,tm 16] [[none,none,none,some (.slice .int),some (.slice .int),some (.slice .int),some (.slice .int)],[],[]]),xo 18 (.i (.ld false 7 (tm 5))),xo 19 (qm (tm 0)),xo 20 (qm (tm 7)),xo 21 (qc 19 [tm 18,tm 19,tm 20] [[none,none,none,some (.slice .int),some (.slice .int),some (.slice .int),some (.slice .int)],[],[]]),⟨some 22,none,qc 35 [tm 17,tm 21,.cst (.fn 36 [])] [[some (.pair .int (.slice (.slice .int)))],[some (.pair .int (.slice (.slice .int)))],[]]⟩,xo 6 (qm (tm 22))] true [(3,4)])
 .ret)))
def Sg:List Res:=[.tmp 6]
theorem S5:Aq Tryd.prog Tryd.f23=some (K2,Sg):=by kernel_rfl
def Ee (a0:Int) (a1_0:Int) (a1_1:Int) (a1_2:Int) (a1_3:List (List Int)) (a1_4:List (List Int)) (a1_5:List (List Int)) (a1_6:List (List Int)) (a2_0:Int) (a2_1:Int) (a2_2:Int) (a2_3:List (List Int)) (a2_4:List (List Int)) (a2_5:List (List Int)) (a2_6:List (List Int)):Option Bool :=
 Option.bind (B5 a1_0 a1_1 a1_2 a1_3 a1_4 a1_5 a1_6 a0 (wI (wI (a1_0+a2_0)+1))) fun y4 =>
Option.bind (B5 a2_0 a2_1 a2_2 a2_3 a2_4 a2_5 a2_6 a0 (wI (wI (a1_0+a2_0)+1))) fun y5 =>
Option.bind (Au y4 y5) fun y6 =>
some y6
def Rj (r:Bool):RV:=⟨false,[(false,[.sc (.bool r)])]⟩
theorem Rm {a0:Int} {a1_0:Int} {a1_1:Int} {a1_2:Int} {a1_3:List (List Int)} {a1_4:List (List Int)} {a1_5:List (List Int)} {a1_6:List (List Int)} {a2_0:Int} {a2_1:Int} {a2_2:Int} {a2_3:List (List Int)} {a2_4:List (List Int)} {a2_5:List (List Int)} {a2_6:List (List Int)} {r:Bool} (h:Ee a0 a1_0 a1_1 a1_2 a1_3 a1_4 a1_5 a1_6 a2_0 a2_1 a2_2 a2_3 a2_4 a2_5 a2_6=some r):A1 Tryd.prog Tab 23 [ai a0,.agg [ai a1_0,ai a1_1,ai a1_2,.tree (.slice .int) a1_3,.tree (.slice .int) a1_4,.tree (.slice .int) a1_5,.tree (.slice .int) a1_6],.agg [ai a2_0,ai a2_1,ai a2_2,.tree (.slice .int) a2_3,.tree (.slice .int) a2_4,.tree (.slice .int) a2_5,.tree (.slice .int) a2_6]] (Rj r):=by
 refine Av (by kernel_rfl) Tryd.func23 S5 (n:=23) (by kernel_rfl) (by simp) (tl:=[(0,ai a0),(1,.agg [ai a1_0,ai a1_1,ai a1_2,.tree (.slice .int) a1_3,.tree (.slice .int) a1_4,.tree (.slice .int) a1_5,.tree (.slice .int) a1_6]),(2,.agg [ai a2_0,ai a2_1,ai a2_2,.tree (.slice .int) a2_3,.tree (.slice .int) a2_4,.tree (.slice .int) a2_5,.tree (.slice .int) a2_6])]) rfl ?_;unfold K2;unfold Ee at h;refine Al ?_;refine Al ?_;refine Ab ?_;obtain ⟨y4,h4,h⟩:=Ae h;obtain ⟨y5,h5,h⟩:=Ae h;obtain ⟨y6,h6,h⟩:=Ae h;refine Az 21 ?_;refine dzl (.agg [ai a1_0,ai a1_1,ai a1_2,.tree (.slice .int) a1_3,.tree (.slice .int) a1_4,.tree (.slice .int) a1_5,.tree (.slice .int) a1_6]) ?_;refine dz0 (ai a0) ?_;refine dz0 (ai (wI (wI (a1_0+a2_0)+1))) ?_;refine Cp (.tree (.pair .int (.slice (.slice .int))) y4) [] [.agg [ai a1_0,ai a1_1,ai a1_2,.tree (.slice .int) a1_3,.tree (.slice .int) a1_4,.tree (.slice .int) a1_5,.tree (.slice .int) a1_6],ai a0,ai (wI (wI (a1_0+a2_0)+1))] _ (caps:=[]) (args0:=[.agg [ai a1_0,ai a1_1,ai a1_2,.tree (.slice .int) a1_3,.tree (.slice .int) a1_4,.tree (.slice .int) a1_5,.tree (.slice .int) a1_6],ai a0,ai (wI (wI (a1_0+a2_0)+1))]) trivial (by kernel_rfl) (G4 h4) G5 ?_;refine dzl (.agg [ai a2_0,ai a2_1,ai a2_2,.tree (.slice .int) a2_3,.tree (.slice .int) a2_4,.tree (.slice .int) a2_5,.tree (.slice .int) a2_6]) ?_;refine dz0 (ai a0) ?_;refine dz0 (ai (wI (wI (a1_0+a2_0)+1))) ?_;refine Cp (.tree (.pair .int (.slice (.slice .int))) y5) [] [.agg [ai a2_0,ai a2_1,ai a2_2,.tree (.slice .int) a2_3,.tree (.slice .int) a2_4,.tree (.slice .int) a2_5,.tree (.slice .int) a2_6],ai a0,ai (wI (wI (a1_0+a2_0)+1))] _ (caps:=[]) (args0:=[.agg [ai a2_0,ai a2_1,ai a2_2,.tree (.slice .int) a2_3,.tree (.slice .int) a2_4,.tree (.slice .int) a2_5,.tree (.slice .int) a2_6],ai a0,ai (wI (wI (a1_0+a2_0)+1))]) trivial (by kernel_rfl) (G4 h5) G5 ?_;refine Cp (.bool y6) [] [.tree (.pair .int (.slice (.slice .int))) y4,.tree (.pair .int (.slice (.slice .int))) y5,.fn 36 []] _ (caps:=[]) (args0:=[.tree (.pair .int (.slice (.slice .int))) y4,.tree (.pair .int (.slice (.slice .int))) y5,.fn 36 []]) trivial (by kernel_rfl) (Bx h6) Cl ?_;refine dz0 (.bool y6) ?_;refine Gg (Bg (by kernel_rfl)) (tn_ ?_);refine wr_ ?_;refine Ah ?_;obtain rfl:=zj h;exact Bm [.bool y6] (Aw rfl zl Ay)
def Kc:AC :=
 (.seq (rg [xo 4 (.i (.box 31 (tm 1))),xo 5 (.i (.box 31 (tm 2))),xo 6 (qm (cb false)),xo 7 (qm (cb false))])
 (.seq (rg [xo 12 (qm (tm 0)),xo 13 (.i (.ld false 3 (tm 4))),xo 14 (.i (.ld false 3 (tm 5))),⟨some 15,none,qc 18 [tm 12,tm 13,tm 14] [[],[none,some T4,some .int],[none,some T4,some .int]]⟩,xo 11 (qm (tm 15)),xo 16 (.i (.extr 0 (tm 11))),xo 17 (.i (.extr 1 (tm 11))),xo 18 (.i (.extr 2 (tm 11))),xo 8 (.i (.alloc 41 [.int .i64 0,.int .i64 0,.int .i64 0,.nils,.nils,.nils,.nils])),xo 9 (.i (.alloc 41 [.int .i64 0,.int .i64 0,.int .i64 0,.nils,.nils,.nils,.nils])),xn (.st false 7 (tm 8) (tm 16)),xn (.st false 7 (tm 9) (tm 17)),xo 10 (qm (tm 18))])
 (.seq (.seq (rg [xo 19 (qm (tm 10)),xo 20 (.i (.not (tm 19)))])
 (.cond (tm 20)
  (.seq (rg [xo 6 (qm (cb false)),xo 7 (qm (cb false))])
  .ret)
  .skip))
 (.seq (rg [xo 21 (qm (tm 0)),xo 22 (.i (.ld false 7 (tm 8))),xo 23 (.i (.ld false 7 (tm 9))),xo 24 (qc 23 [tm 21,tm 22,tm 23] [[],[none,none,none,some (.slice .int),some (.slice .int),some (.slice .int),some (.slice .int)],[none,none,none,some (.slice .int),some (.slice .int),some (.slice .int),some (.slice .int)]]),xo 6 (qm (tm 24)),xo 7 (qm (cb true))])
 .ret))))
def Rd:List Res:=[.tmp 6,.tmp 7]
theorem Ra:Aq Tryd.prog Tryd.f11=some (Kc,Rd):=by kernel_rfl
theorem Qs:Ba Tryd.prog 11=true:=by kernel_rfl
def Dy (a0:Int) (a1_0:Int) (a1_1:List (Int×Int×Int×Int)) (a1_2:List Int) (a2_0:Int) (a2_1:List (Int×Int×Int×Int)) (a2_2:List Int):Option (Bool×Bool) :=
 Option.bind (Em a0 a1_0 a1_1 a1_2 a2_0 a2_1 a2_2) fun y3 =>
cond (!y3.2.2.2.2.2.2.2.2.2.2.2.2.2.2)
 (some (false,false))
 (Option.bind (Ee a0 y3.1 y3.2.1 y3.2.2.1 y3.2.2.2.1 y3.2.2.2.2.1 y3.2.2.2.2.2.1 y3.2.2.2.2.2.2.1 y3.2.2.2.2.2.2.2.1 y3.2.2.2.2.2.2.2.2.1 y3.2.2.2.2.2.2.2.2.2.1 y3.2.2.2.2.2.2.2.2.2.2.1 y3.2.2.2.2.2.2.2.2.2.2.2.1 y3.2.2.2.2.2.2.2.2.2.2.2.2.1 y3.2.2.2.2.2.2.2.2.2.2.2.2.2.1) fun y9 =>
 some (y9,true))
def Pk (r:Bool×Bool):RV:=⟨true,[(false,[.sc (.bool r.1)]),(false,[.sc (.bool r.2)])]⟩
theorem Qi {a0:Int} {a1_0:Int} {a1_1:List (Int×Int×Int×Int)} {a1_2:List Int} {a2_0:Int} {a2_1:List (Int×Int×Int×Int)} {a2_2:List Int} {r:Bool×Bool} (h:Dy a0 a1_0 a1_1 a1_2 a2_0 a2_1 a2_2=some r):A1 Tryd.prog Tab 11 [ai a0,.agg [ai a1_0,.tree T4 a1_1,.tree .int a1_2],.agg [ai a2_0,.tree T4 a2_1,.tree .int a2_2]] (Pk r):=by
 refine Av (by kernel_rfl) Tryd.func11 Ra (n:=25) (by kernel_rfl) (by simp) (tl:=[(0,ai a0),(1,.agg [ai a1_0,.tree T4 a1_1,.tree .int a1_2]),(2,.agg [ai a2_0,.tree T4 a2_1,.tree .int a2_2])]) rfl ?_;unfold Kc;unfold Dy at h;refine Al ?_;refine Ab ?_;obtain ⟨y3,h3,h⟩:=Ae h;refine Aa 18 ?_;refine rz0 (ai a0) ?_;refine rzl (.agg [ai a1_0,.tree T4 a1_1,.tree .int a1_2]) ?_;refine rzl (.agg [ai a2_0,.tree T4 a2_1,.tree .int a2_2]) ?_;refine zc (.tup [.agg [ai y3.1,ai y3.2.1,ai y3.2.2.1,.tree (.slice .int) y3.2.2.2.1,.tree (.slice .int) y3.2.2.2.2.1,.tree (.slice .int) y3.2.2.2.2.2.1,.tree (.slice .int) y3.2.2.2.2.2.2.1],.agg [ai y3.2.2.2.2.2.2.2.1,ai y3.2.2.2.2.2.2.2.2.1,ai y3.2.2.2.2.2.2.2.2.2.1,.tree (.slice .int) y3.2.2.2.2.2.2.2.2.2.2.1,.tree (.slice .int) y3.2.2.2.2.2.2.2.2.2.2.2.1,.tree (.slice .int) y3.2.2.2.2.2.2.2.2.2.2.2.2.1,.tree (.slice .int) y3.2.2.2.2.2.2.2.2.2.2.2.2.2.1],.bool y3.2.2.2.2.2.2.2.2.2.2.2.2.2.2]) [] [ai a0,.agg [ai a1_0,.tree T4 a1_1,.tree .int a1_2],.agg [ai a2_0,.tree T4 a2_1,.tree .int a2_2]] (U5 h3) ?_;refine rsB 9 ?_;refine Ap (tn_ ?_);refine wr_ ?_;refine Ab ?_;refine Al ?_;rcases Ad h with ⟨q6,h⟩ | ⟨q6,h⟩
 ·refine Ag q6 ?_;refine Al ?_;refine Ah (tr_ ?_);obtain rfl:=zj h;exact Bm [.bool false,.bool false] (Aw rfl zl (Aw rfl zl Ay))
 refine Af q6 ?_;refine Aj (tn_ ?_);refine wr_ ?_;refine Ab ?_;obtain ⟨y9,h9,h⟩:=Ae h;refine Aa 26 ?_;refine rz0 (ai a0) ?_;refine rzl (.agg [ai y3.1,ai y3.2.1,ai y3.2.2.1,.tree (.slice .int) y3.2.2.2.1,.tree (.slice .int) y3.2.2.2.2.1,.tree (.slice .int) y3.2.2.2.2.2.1,.tree (.slice .int) y3.2.2.2.2.2.2.1]) ?_;refine rzl (.agg [ai y3.2.2.2.2.2.2.2.1,ai y3.2.2.2.2.2.2.2.2.1,ai y3.2.2.2.2.2.2.2.2.2.1,.tree (.slice .int) y3.2.2.2.2.2.2.2.2.2.2.1,.tree (.slice .int) y3.2.2.2.2.2.2.2.2.2.2.2.1,.tree (.slice .int) y3.2.2.2.2.2.2.2.2.2.2.2.2.1,.tree (.slice .int) y3.2.2.2.2.2.2.2.2.2.2.2.2.2.1]) ?_;refine zc (.bool y9) [] [ai a0,.agg [ai y3.1,ai y3.2.1,ai y3.2.2.1,.tree (.slice .int) y3.2.2.2.1,.tree (.slice .int) y3.2.2.2.2.1,.tree (.slice .int) y3.2.2.2.2.2.1,.tree (.slice .int) y3.2.2.2.2.2.2.1],.agg [ai y3.2.2.2.2.2.2.2.1,ai y3.2.2.2.2.2.2.2.2.1,ai y3.2.2.2.2.2.2.2.2.2.1,.tree (.slice .int) y3.2.2.2.2.2.2.2.2.2.2.1,.tree (.slice .int) y3.2.2.2.2.2.2.2.2.2.2.2.1,.tree (.slice .int) y3.2.2.2.2.2.2.2.2.2.2.2.2.1,.tree (.slice .int) y3.2.2.2.2.2.2.2.2.2.2.2.2.2.1]] (Rm h9) ?_;refine rsB 2 ?_;refine Ap (tn_ ?_);refine wr_ ?_;refine Ah ?_;obtain rfl:=zj h;exact Bm [.bool y9,.bool true] (Aw rfl zl (Aw rfl zl Ay))
def Ke:AC :=
 (.seq (rg [xo 4 (.i (.box 31 (tm 1))),xo 5 (.i (.box 31 (tm 2))),xo 6 (qm (cb false)),xo 7 (qm (cb false))])
 (.seq (rg [xo 12 (qm (tm 0)),xo 13 (.i (.ld false 3 (tm 4))),xo 14 (.i (.ld false 3 (tm 5))),⟨some 15,none,qc 14 [tm 12,tm 13,tm 14] [[],[none,some T4,some .int],[none,some T4,some .int]]⟩,xo 11 (qm (tm 15)),xo 16 (.i (.extr 0 (tm 11))),xo 17 (.i (.extr 1 (tm 11))),xo 18 (.i (.extr 2 (tm 11))),xo 8 (.i (.alloc 41 [.int .i64 0,.int .i64 0,.int .i64 0,.nils,.nils,.nils,.nils])),xo 9 (.i (.alloc 41 [.int .i64 0,.int .i64 0,.int .i64 0,.nils,.nils,.nils,.nils])),xn (.st false 7 (tm 8) (tm 16)),xn (.st false 7 (tm 9) (tm 17)),xo 10 (qm (tm 18))])
 (.seq (.seq (rg [xo 19 (qm (tm 10)),xo 20 (.i (.not (tm 19)))])
 (.cond (tm 20)
  (.seq (rg [xo 6 (qm (cb false)),xo 7 (qm (cb false))])
  .ret)
  .skip))
 (.seq (rg [xo 21 (qm (tm 0)),xo 22 (.i (.ld false 7 (tm 8))),xo 23 (.i (.ld false 7 (tm 9))),xo 24 (qc 22 [tm 21,tm 22,tm 23] [[],[none,none,none,some (.slice .int),some (.slice .int),some (.slice .int),some (.slice .int)],[none,none,none,some (.slice .int),some (.slice .int),some (.slice .int),some (.slice .int)]]),xo 6 (qm (tm 24)),xo 7 (qm (cb true))])
 .ret))))
def Rf:List Res:=[.tmp 6,.tmp 7]
theorem Rn:Aq Tryd.prog Tryd.f10=some (Ke,Rf):=by kernel_rfl
theorem P3:Ba Tryd.prog 10=true:=by kernel_rfl
def Dz (a0:Int) (a1_0:Int) (a1_1:List (Int×Int×Int×Int)) (a1_2:List Int) (a2_0:Int) (a2_1:List (Int×Int×Int×Int)) (a2_2:List Int):Option (Bool×Bool) :=
 Option.bind (Ek a0 a1_0 a1_1 a1_2 a2_0 a2_1 a2_2) fun y3 =>
cond (!y3.2.2.2.2.2.2.2.2.2.2.2.2.2.2)
 (some (false,false))
 (Option.bind (Hh a0 y3.1 y3.2.1 y3.2.2.1 y3.2.2.2.1 y3.2.2.2.2.1 y3.2.2.2.2.2.1 y3.2.2.2.2.2.2.1 y3.2.2.2.2.2.2.2.1 y3.2.2.2.2.2.2.2.2.1 y3.2.2.2.2.2.2.2.2.2.1 y3.2.2.2.2.2.2.2.2.2.2.1 y3.2.2.2.2.2.2.2.2.2.2.2.1 y3.2.2.2.2.2.2.2.2.2.2.2.2.1 y3.2.2.2.2.2.2.2.2.2.2.2.2.2.1) fun y9 =>
 some (y9,true))
def Qk (r:Bool×Bool):RV:=⟨true,[(false,[.sc (.bool r.1)]),(false,[.sc (.bool r.2)])]⟩
theorem Qo {a0:Int} {a1_0:Int} {a1_1:List (Int×Int×Int×Int)} {a1_2:List Int} {a2_0:Int} {a2_1:List (Int×Int×Int×Int)} {a2_2:List Int} {r:Bool×Bool} (h:Dz a0 a1_0 a1_1 a1_2 a2_0 a2_1 a2_2=some r):A1 Tryd.prog Tab 10 [ai a0,.agg [ai a1_0,.tree T4 a1_1,.tree .int a1_2],.agg [ai a2_0,.tree T4 a2_1,.tree .int a2_2]] (Qk r):=by
 refine Av (by kernel_rfl) Tryd.func10 Rn (n:=25) (by kernel_rfl) (by simp) (tl:=[(0,ai a0),(1,.agg [ai a1_0,.tree T4 a1_1,.tree .int a1_2]),(2,.agg [ai a2_0,.tree T4 a2_1,.tree .int a2_2])]) rfl ?_;unfold Ke;unfold Dz at h;refine Al ?_;refine Ab ?_;obtain ⟨y3,h3,h⟩:=Ae h;refine Aa 18 ?_;refine rz0 (ai a0) ?_;refine rzl (.agg [ai a1_0,.tree T4 a1_1,.tree .int a1_2]) ?_;refine rzl (.agg [ai a2_0,.tree T4 a2_1,.tree .int a2_2]) ?_;refine zc (.tup [.agg [ai y3.1,ai y3.2.1,ai y3.2.2.1,.tree (.slice .int) y3.2.2.2.1,.tree (.slice .int) y3.2.2.2.2.1,.tree (.slice .int) y3.2.2.2.2.2.1,.tree (.slice .int) y3.2.2.2.2.2.2.1],.agg [ai y3.2.2.2.2.2.2.2.1,ai y3.2.2.2.2.2.2.2.2.1,ai y3.2.2.2.2.2.2.2.2.2.1,.tree (.slice .int) y3.2.2.2.2.2.2.2.2.2.2.1,.tree (.slice .int) y3.2.2.2.2.2.2.2.2.2.2.2.1,.tree (.slice .int) y3.2.2.2.2.2.2.2.2.2.2.2.2.1,.tree (.slice .int) y3.2.2.2.2.2.2.2.2.2.2.2.2.2.1],.bool y3.2.2.2.2.2.2.2.2.2.2.2.2.2.2]) [] [ai a0,.agg [ai a1_0,.tree T4 a1_1,.tree .int a1_2],.agg [ai a2_0,.tree T4 a2_1,.tree .int a2_2]] (Vk h3) ?_;refine rsB 9 ?_;refine Ap (tn_ ?_);refine wr_ ?_;refine Ab ?_;refine Al ?_;rcases Ad h with ⟨q6,h⟩ | ⟨q6,h⟩
 ·refine Ag q6 ?_;refine Al ?_;refine Ah (tr_ ?_);obtain rfl:=zj h;exact Bm [.bool false,.bool false] (Aw rfl zl (Aw rfl zl Ay))
 refine Af q6 ?_;refine Aj (tn_ ?_);refine wr_ ?_;refine Ab ?_;obtain ⟨y9,h9,h⟩:=Ae h;refine Aa 26 ?_;refine rz0 (ai a0) ?_;refine rzl (.agg [ai y3.1,ai y3.2.1,ai y3.2.2.1,.tree (.slice .int) y3.2.2.2.1,.tree (.slice .int) y3.2.2.2.2.1,.tree (.slice .int) y3.2.2.2.2.2.1,.tree (.slice .int) y3.2.2.2.2.2.2.1]) ?_;refine rzl (.agg [ai y3.2.2.2.2.2.2.2.1,ai y3.2.2.2.2.2.2.2.2.1,ai y3.2.2.2.2.2.2.2.2.2.1,.tree (.slice .int) y3.2.2.2.2.2.2.2.2.2.2.1,.tree (.slice .int) y3.2.2.2.2.2.2.2.2.2.2.2.1,.tree (.slice .int) y3.2.2.2.2.2.2.2.2.2.2.2.2.1,.tree (.slice .int) y3.2.2.2.2.2.2.2.2.2.2.2.2.2.1]) ?_;refine zc (.bool y9) [] [ai a0,.agg [ai y3.1,ai y3.2.1,ai y3.2.2.1,.tree (.slice .int) y3.2.2.2.1,.tree (.slice .int) y3.2.2.2.2.1,.tree (.slice .int) y3.2.2.2.2.2.1,.tree (.slice .int) y3.2.2.2.2.2.2.1],.agg [ai y3.2.2.2.2.2.2.2.1,ai y3.2.2.2.2.2.2.2.2.1,ai y3.2.2.2.2.2.2.2.2.2.1,.tree (.slice .int) y3.2.2.2.2.2.2.2.2.2.2.1,.tree (.slice .int) y3.2.2.2.2.2.2.2.2.2.2.2.1,.tree (.slice .int) y3.2.2.2.2.2.2.2.2.2.2.2.2.1,.tree (.slice .int) y3.2.2.2.2.2.2.2.2.2.2.2.2.2.1]] (Aa5 h9) ?_;refine rsB 2 ?_;refine Ap (tn_ ?_);refine wr_ ?_;refine Ah ?_;obtain rfl:=zj h;exact Bm [.bool y9,.bool true] (Aw rfl zl (Aw rfl zl Ay))
def Gm:AC :=
 (.seq (rg [xo 4 (.i (.box 25 (tm 1))),xo 5 (.i (.box 25 (tm 2))),xo 6 (qm (cb false))])
 (.seq (rg [xo 7 (qm (ci 1048576))])
 (.seq (rg [xo 14 (.i (.ld false 3 (tm 4))),xo 15 (qm (tm 7)),⟨some 16,none,qc 5 [tm 14,tm 15] [[none,some T4,some .int],[]]⟩,xo 7 (qm (tm 16))])
 (.seq (.seq (rg [xo 17 (qm (tm 7)),xo 18 (qb .lss (tm 17) (ci 0))])
 (.cond (tm 18)
  (.seq (rg [xo 6 (qm (cb true))])
  .ret)
  .skip))
 (.seq (rg [xo 19 (.i (.ld false 3 (tm 5))),xo 20 (qm (tm 7)),⟨some 21,none,qc 5 [tm 19,tm 20] [[none,some T4,some .int],[]]⟩,xo 7 (qm (tm 21))])
 (.seq (.seq (rg [xo 22 (qm (tm 7)),xo 23 (qb .lss (tm 22) (ci 0))])
 (.cond (tm 23)
  (.seq (rg [xo 6 (qm (cb true))])
  .ret)
  .skip))
 (.seq (.region [xo 25 (qm (tm 0)),xo 26 (.i (.ld false 3 (tm 4))),⟨some 27,none,qc 7 [tm 26] [[none,some T4,some .int]]⟩,xo 28 (.i (.ld false 3 (tm 5))),⟨some 29,none,qc 7 [tm 28] [[none,some T4,some .int]]⟩,⟨some 30,none,qc 10 [tm 25,tm 27,tm 29] [[],[none,some T4,some .int],[none,some T4,some .int]]⟩,xo 24 (qm (tm 30)),xo 31 (.i (.extr 0 (tm 24))),xo 32 (.i (.extr 1 (tm 24))),xo 8 (qm (tm 31)),xo 9 (qm (tm 32))] true [(2,3)])
 (.seq (rg [xo 33 (.i (.ld false 3 (tm 4))),⟨some 34,none,qc 7 [tm 33] [[none,some T4,some .int]]⟩,xo 10 (.i (.alloc 31 [.int .i64 0,.nils,.nils])),xn (.st false 3 (tm 10) (tm 34))])
 (.seq (rg [xo 35 (.i (.ld false 3 (tm 5))),⟨some 36,none,qc 7 [tm 35] [[none,some T4,some .int]]⟩,xo 11 (.i (.alloc 31 [.int .i64 0,.nils,.nils])),xn (.st false 3 (tm 11) (tm 36))])
 (.seq (rg [xo 38 (qm (tm 0)),xo 39 (.i (.ld false 3 (tm 10))),xo 40 (.i (.ld false 3 (tm 11))),⟨some 41,none,qc 11 [tm 38,tm 39,tm 40] [[],[none,some T4,some .int],[none,some T4,some .int]]⟩,xo 37 (qm (tm 41)),xo 42 (.i (.extr 0 (tm 37))),xo 43 (.i (.extr 1 (tm 37))),xo 12 (qm (tm 42)),xo 13 (qm (tm 43))])
 (.seq (.seq (rg [xo 44 (qm (tm 12)),xo 45 (qm (tm 8)),xo 46 (.i (.cmp true 0 (tm 44) (tm 45))),xo 47 (qm (tm 46)),⟨some 48,some (47,false),qm (tm 13)⟩,⟨some 49,some (47,false),qm (tm 9)⟩,⟨some 50,some (47,false),.i (.cmp true 0 (tm 48) (tm 49))⟩,xo 51 (.i (.pick (tm 47) (cb true) (tm 50)))])
 (.cond (tm 51)
  (.seq (rg [xo 6 (qm (cb false))])
  .ret)
  .skip))
 (.seq (.seq (.region [xo 52 (.i (.ld false 3 (tm 10))),xo 53 (.i (.ld false 3 (tm 4))),⟨some 54,none,qc 7 [tm 53] [[none,some T4,some .int]]⟩,⟨some 55,none,qc 9 [tm 52,tm 54] [[none,some T4,some .int],[none,some T4,some .int]]⟩,xo 56 (.i (.not (tm 55)))] true [(0,2)])
 (.cond (tm 56)
  (.seq (rg [xo 6 (qm (cb false))])
  .ret)
  .skip))
 (.seq (.seq (.region [xo 57 (.i (.ld false 3 (tm 11))),xo 58 (.i (.ld false 3 (tm 5))),⟨some 59,none,qc 7 [tm 58] [[none,some T4,some .int]]⟩,⟨some 60,none,qc 9 [tm 57,tm 59] [[none,some T4,some .int],[none,some T4,some .int]]⟩,xo 61 (.i (.not (tm 60)))] true [(0,2)])
 (.cond (tm 61)
  (.seq (rg [xo 6 (qm (cb false))])
  .ret)
  .skip))
 (.seq (rg [xo 6 (qm (cb true))])
 .ret))))))))))))))
def Ll:List Res:=[.tmp 6]
theorem Ku:Aq Tryd.prog Tryd.f4=some (Gm,Ll):=by kernel_rfl
def Cb (a0:Int) (a1_0:Int) (a1_1:List (Int×Int×Int×Int)) (a1_2:List Int) (a2_0:Int) (a2_1:List (Int×Int×Int×Int)) (a2_2:List Int):Option Bool :=
 Option.bind (D7 a1_0 a1_1 a1_2 1048576) fun y4 =>
cond (decide (y4<0))
 (some true)
 (Option.bind (D7 a2_0 a2_1 a2_2 y4) fun y10 =>
 cond (decide (y10<0))
  (some true)
  (Option.bind (B4 a1_0 a1_1 a1_2) fun y16 =>
  Option.bind (B4 a2_0 a2_1 a2_2) fun y17 =>
  Option.bind (Dz a0 y16.1 y16.2.1 y16.2.2 y17.1 y17.2.1 y17.2.2) fun y18 =>
  Option.bind (B4 a1_0 a1_1 a1_2) fun y20 =>
  Option.bind (B4 a2_0 a2_1 a2_2) fun y22 =>
  Option.bind (Dy a0 y20.1 y20.2.1 y20.2.2 y22.1 y22.2.1 y22.2.2) fun y24 =>
  Option.bind (cond (y24.1 !=y18.1)
    (some true)
    (some (y24.2 !=y18.2))) fun l26_m51 =>
  cond l26_m51
   (some false)
   (Option.bind (B4 a1_0 a1_1 a1_2) fun y32 =>
   Option.bind (D8 y20.1 y20.2.1 y20.2.2 y32.1 y32.2.1 y32.2.2) fun y33 =>
   cond (!y33)
    (some false)
    (Option.bind (B4 a2_0 a2_1 a2_2) fun y38 =>
    Option.bind (D8 y22.1 y22.2.1 y22.2.2 y38.1 y38.2.1 y38.2.2) fun y39 =>
    cond (!y39)
     (some false)
     (some true)))))
def Kg (r:Bool):RV:=⟨false,[(false,[.sc (.bool r)])]⟩
theorem Kh {a0:Int} {a1_0:Int} {a1_1:List (Int×Int×Int×Int)} {a1_2:List Int} {a2_0:Int} {a2_1:List (Int×Int×Int×Int)} {a2_2:List Int} {r:Bool} (h:Cb a0 a1_0 a1_1 a1_2 a2_0 a2_1 a2_2=some r):A1 Tryd.prog Tab 4 [ai a0,.agg [ai a1_0,.tree T4 a1_1,.tree .int a1_2],.agg [ai a2_0,.tree T4 a2_1,.tree .int a2_2]] (Kg r):=by
 refine Av (by kernel_rfl) Tryd.func4 Ku (n:=62) (by kernel_rfl) (by simp) (tl:=[(0,ai a0),(1,.agg [ai a1_0,.tree T4 a1_1,.tree .int a1_2]),(2,.agg [ai a2_0,.tree T4 a2_1,.tree .int a2_2])]) rfl ?_;unfold Gm;unfold Cb at h;refine Al ?_;refine Al ?_;refine Ab ?_;obtain ⟨y4,h4,h⟩:=Ae h;refine Aa 9 ?_;refine rzl (.agg [ai a1_0,.tree T4 a1_1,.tree .int a1_2]) ?_;refine rz0 (ai 1048576) ?_;refine zc (ai y4) [] [.agg [ai a1_0,.tree T4 a1_1,.tree .int a1_2],ai 1048576] (Lt h4) ?_;refine rsB 1 ?_;refine Ap (tn_ ?_);refine wr_ ?_;refine Ab ?_;refine Al ?_;rcases Ad h with ⟨q7,h⟩ | ⟨q7,h⟩
 ·have q7_:=of_decide_eq_true q7;refine Ag q7 ?_;refine Al ?_;refine Ah (tr_ ?_);obtain rfl:=zj h;exact Bm [.bool true] (Aw rfl zl Ay)
 have q7_:=of_decide_eq_false q7;refine Af q7 ?_;refine Aj (tn_ ?_);refine wr_ ?_;refine Ab ?_;obtain ⟨y10,h10,h⟩:=Ae h;refine Aa 15 ?_;refine rzl (.agg [ai a2_0,.tree T4 a2_1,.tree .int a2_2]) ?_;refine rz0 (ai y4) ?_;refine zc (ai y10) [] [.agg [ai a2_0,.tree T4 a2_1,.tree .int a2_2],ai y4] (Lt h10) ?_;refine rsB 1 ?_;refine Ap (tn_ ?_);refine wr_ ?_;refine Ab ?_;refine Al ?_;rcases Ad h with ⟨q13,h⟩ | ⟨q13,h⟩
 ·have q13_:=of_decide_eq_true q13;refine Ag q13 ?_;refine Al ?_;refine Ah (tr_ ?_);obtain rfl:=zj h;exact Bm [.bool true] (Aw rfl zl Ay)
 have q13_:=of_decide_eq_false q13;refine Af q13 ?_;refine Aj (tn_ ?_);refine wr_ ?_;refine Ab ?_;obtain ⟨y16,h16,h⟩:=Ae h;obtain ⟨y17,h17,h⟩:=Ae h;obtain ⟨y18,h18,h⟩:=Ae h;refine Az 28 ?_;refine dz0 (ai a0) ?_;refine dzl (.agg [ai a1_0,.tree T4 a1_1,.tree .int a1_2]) ?_;refine Cp (.agg [ai y16.1,.own (oi 432 19) T4 0 y16.2.1.length,.own (oi 433 19) .int 0 y16.2.2.length]) [(oi 432 19,some (.arr 59 T4 y16.2.1)),(oi 433 19,some (.arr 3 .int y16.2.2))] [.agg [ai a1_0,.tree T4 a1_1,.tree .int a1_2]] _ (caps:=[]) (args0:=[.agg [ai a1_0,.tree T4 a1_1,.tree .int a1_2]]) trivial (by kernel_rfl) (Dr h16) Gh ?_;refine dzl (.agg [ai a2_0,.tree T4 a2_1,.tree .int a2_2]) ?_;refine Cp (.agg [ai y17.1,.own (oi 464 21) T4 0 y17.2.1.length,.own (oi 465 21) .int 0 y17.2.2.length]) [(oi 464 21,some (.arr 59 T4 y17.2.1)),(oi 465 21,some (.arr 3 .int y17.2.2))] [.agg [ai a2_0,.tree T4 a2_1,.tree .int a2_2]] _ (caps:=[]) (args0:=[.agg [ai a2_0,.tree T4 a2_1,.tree .int a2_2]]) trivial (by kernel_rfl) (Dr h17) Gh ?_;refine Cp (.tup [.bool y18.1,.bool y18.2]) [] [ai a0,.agg [ai y16.1,.own (oi 432 19) T4 0 y16.2.1.length,.own (oi 433 19) .int 0 y16.2.2.length],.agg [ai y17.1,.own (oi 464 21) T4 0 y17.2.1.length,.own (oi 465 21) .int 0 y17.2.2.length]] _ (caps:=[]) (args0:=[ai a0,.agg [ai y16.1,.tree T4 y16.2.1,.tree .int y16.2.2],.agg [ai y17.1,.tree T4 y17.2.1,.tree .int y17.2.2]]) trivial (A2 (by kernel_rfl) (A2 (Qr (A2 (by kernel_rfl) (A2 (B6 (e:=59) (by kernel_rfl) rfl) (A2 (B6 (e:=3) (by kernel_rfl) rfl) C5)))) (A2 (Qr (A2 (by kernel_rfl) (A2 (B6 (e:=59) (by kernel_rfl) rfl) (A2 (B6 (e:=3) (by kernel_rfl) rfl) C5)))) C5))) (Qo h18) P3 ?_;refine dz0 (.tup [.bool y18.1,.bool y18.2]) ?_;refine dz0 (.bool y18.1) ?_;refine dz0 (.bool y18.2) ?_;refine dz0 (.bool y18.1) ?_;refine dz0 (.bool y18.2) ?_;refine Gg (Bg (by kernel_rfl)) (tn_ ?_);refine wr_ ?_;refine Ab ?_;obtain ⟨y20,h20,h⟩:=Ae h;refine Aa 32 ?_;refine rzl (.agg [ai a1_0,.tree T4 a1_1,.tree .int a1_2]) ?_;refine zc (.agg [ai y20.1,.own (oi 544 29) T4 0 y20.2.1.length,.own (oi 545 29) .int 0 y20.2.2.length]) [(oi 544 29,some (.arr 59 T4 y20.2.1)),(oi 545 29,some (.arr 3 .int y20.2.2))] [.agg [ai a1_0,.tree T4 a1_1,.tree .int a1_2]] (Dr h20) ?_;refine rsB 2 ?_;refine Ap (tn_ ?_);refine wr_ ?_;refine Ab ?_;obtain ⟨y22,h22,h⟩:=Ae h;refine Aa 36 ?_;refine rzl (.agg [ai a2_0,.tree T4 a2_1,.tree .int a2_2]) ?_;refine zc (.agg [ai y22.1,.own (oi 576 33) T4 0 y22.2.1.length,.own (oi 577 33) .int 0 y22.2.2.length]) [(oi 576 33,some (.arr 59 T4 y22.2.1)),(oi 577 33,some (.arr 3 .int y22.2.2))] [.agg [ai a2_0,.tree T4 a2_1,.tree .int a2_2]] (Dr h22) ?_;refine rsB 2 ?_;refine Ap (tn_ ?_);refine wr_ ?_;refine Ab ?_;obtain ⟨y24,h24,h⟩:=Ae h;refine Aa 45 ?_;refine rz0 (ai a0) ?_;refine rzl (.agg [ai y20.1,.own (oi 544 29) T4 0 y20.2.1.length,.own (oi 545 29) .int 0 y20.2.2.length]) ?_;refine rzl (.agg [ai y22.1,.own (oi 576 33) T4 0 y22.2.1.length,.own (oi 577 33) .int 0 y22.2.2.length]) ?_;refine Bk (.tup [.bool y24.1,.bool y24.2]) [] [ai a0,.agg [ai y20.1,.own (oi 544 29) T4 0 y20.2.1.length,.own (oi 545 29) .int 0 y20.2.2.length],.agg [ai y22.1,.own (oi 576 33) T4 0 y22.2.1.length,.own (oi 577 33) .int 0 y22.2.2.length]] _ (caps:=[]) (args0:=[ai a0,.agg [ai y20.1,.tree T4 y20.2.1,.tree .int y20.2.2],.agg [ai y22.1,.tree T4 y22.2.1,.tree .int y22.2.2]]) trivial (A2 (by kernel_rfl) (A2 (Qr (A2 (by kernel_rfl) (A2 (B6 (e:=59) (by kernel_rfl) rfl) (A2 (B6 (e:=3) (by kernel_rfl) rfl) C5)))) (A2 (Qr (A2 (by kernel_rfl) (A2 (B6 (e:=59) (by kernel_rfl) rfl) (A2 (B6 (e:=3) (by kernel_rfl) rfl) C5)))) C5))) (Qi h24) Qs ?_;refine rsB 5 ?_;refine Ap (tn_ ?_);refine wr_ ?_;refine Ab ?_;refine At h (fun (l26_m51:Bool) S_=>S_=⟨Am [(4,.box (oi 0 1) 0),(5,.box (oi 1 1) 0),(10,.box (oi 2 1) 0),(11,.box (oi 3 1) 0),(51,.bool l26_m51)],Ak (Ao [(oi 0 1,.cells 25 [ai a1_0,.tree T4 a1_1,.tree .int a1_2]),(oi 1 1,.cells 25 [ai a2_0,.tree T4 a2_1,.tree .int a2_2]),(oi 2 1,.cells 31 [ai y20.1,.own (oi 4 1) T4 0 y20.2.1.length,.own (oi 5 1) .int 0 y20.2.2.length]),(oi 3 1,.cells 31 [ai y22.1,.own (oi 6 1) T4 0 y22.2.1.length,.own (oi 7 1) .int 0 y22.2.2.length]),(oi 4 1,.arr 59 T4 y20.2.1),(oi 5 1,.arr 3 .int y20.2.2),(oi 6 1,.arr 59 T4 y22.2.1),(oi 7 1,.arr 3 .int y22.2.2)]),2⟩) ?_ ?_
 ·intro v_ h;rcases Ad h with ⟨q27,h⟩ | ⟨q27,h⟩
  ·refine Aa 53 ?_;refine rz0 (.bool y24.1) ?_;refine rz0 (.bool y18.1) ?_;refine rz0 (.bool (y24.1 !=y18.1)) ?_;refine rz0 (.bool (y24.1 !=y18.1)) ?_;refine zs q27 ?_;refine zs q27 ?_;refine zs q27 ?_;refine rs0 (.bool true) (zT q27) ?_;refine Ap (tn_ ?_);obtain rfl:=zj h;exact ⟨_,Ac [(oi 0 1,oi 4 1),(oi 1 1,oi 5 2),(oi 2 1,oi 10 30),(oi 4 1,oi 544 29),(oi 5 1,oi 545 29),(oi 3 1,oi 11 34),(oi 6 1,oi 576 33),(oi 7 1,oi 577 33)],rfl⟩
  refine Aa 53 ?_;refine rz0 (.bool y24.1) ?_;refine rz0 (.bool y18.1) ?_;refine rz0 (.bool (y24.1 !=y18.1)) ?_;refine rz0 (.bool (y24.1 !=y18.1)) ?_;refine rs0 (.bool y24.2) (zg q27) ?_;refine rs0 (.bool y18.2) (zg q27) ?_;refine rs0 (.bool (y24.2 !=y18.2)) (zg q27) ?_;refine rs0 (.bool (y24.2 !=y18.2)) (zF q27) ?_;refine Ap (tn_ ?_);obtain rfl:=zj h;exact ⟨_,Ac [(oi 0 1,oi 4 1),(oi 1 1,oi 5 2),(oi 2 1,oi 10 30),(oi 4 1,oi 544 29),(oi 5 1,oi 545 29),(oi 3 1,oi 11 34),(oi 6 1,oi 576 33),(oi 7 1,oi 577 33)],rfl⟩
 rintro l26_m51 _ rfl h
 (try dsimp only at h);rcases Ad h with ⟨q28,h⟩ | ⟨q28,h⟩
 ·refine Ag q28 ?_;refine Al ?_;refine Ah (tr_ ?_);obtain rfl:=zj h;exact Bm [.bool false] (Aw rfl zl Ay)
 refine Af q28 ?_;refine Aj (tn_ ?_);refine wr_ ?_;refine Ab ?_;refine Ab ?_;obtain ⟨y32,h32,h⟩:=Ae h;obtain ⟨y33,h33,h⟩:=Ae h;refine Az 7 ?_;refine dzl (.agg [ai y20.1,.own (oi 4 1) T4 0 y20.2.1.length,.own (oi 5 1) .int 0 y20.2.2.length]) ?_;refine dzl (.agg [ai a1_0,.tree T4 a1_1,.tree .int a1_2]) ?_;refine Cp (.agg [ai y32.1,.own (oi 864 4) T4 0 y32.2.1.length,.own (oi 865 4) .int 0 y32.2.2.length]) [(oi 864 4,some (.arr 59 T4 y32.2.1)),(oi 865 4,some (.arr 3 .int y32.2.2))] [.agg [ai a1_0,.tree T4 a1_1,.tree .int a1_2]] _ (caps:=[]) (args0:=[.agg [ai a1_0,.tree T4 a1_1,.tree .int a1_2]]) trivial (by kernel_rfl) (Dr h32) Gh ?_;refine Cp (.bool y33) [] [.agg [ai y20.1,.own (oi 4 1) T4 0 y20.2.1.length,.own (oi 5 1) .int 0 y20.2.2.length],.agg [ai y32.1,.own (oi 864 4) T4 0 y32.2.1.length,.own (oi 865 4) .int 0 y32.2.2.length]] _ (caps:=[]) (args0:=[.agg [ai y20.1,.tree T4 y20.2.1,.tree .int y20.2.2],.agg [ai y32.1,.tree T4 y32.2.1,.tree .int y32.2.2]]) trivial (A2 (Qr (A2 (by kernel_rfl) (A2 (B6 (e:=59) (by kernel_rfl) rfl) (A2 (B6 (e:=3) (by kernel_rfl) rfl) C5)))) (A2 (Qr (A2 (by kernel_rfl) (A2 (B6 (e:=59) (by kernel_rfl) rfl) (A2 (B6 (e:=3) (by kernel_rfl) rfl) C5)))) C5)) (L4 h33) Mb ?_;refine dz0 (.bool (!y33)) ?_;refine Gg (Bg (by kernel_rfl)) (tn_ ?_);refine wr_ ?_;rcases Ad h with ⟨q34,h⟩ | ⟨q34,h⟩
 ·refine Ag q34 ?_;refine Al ?_;refine Ah (tr_ ?_);obtain rfl:=zj h;exact Bm [.bool false] (Aw rfl zl Ay)
 refine Af q34 ?_;refine Aj (tn_ ?_);refine wr_ ?_;refine Ab ?_;refine Ab ?_;obtain ⟨y38,h38,h⟩:=Ae h;obtain ⟨y39,h39,h⟩:=Ae h;refine Az 12 ?_;refine dzl (.agg [ai y22.1,.own (oi 6 1) T4 0 y22.2.1.length,.own (oi 7 1) .int 0 y22.2.2.length]) ?_;refine dzl (.agg [ai a2_0,.tree T4 a2_1,.tree .int a2_2]) ?_;refine Cp (.agg [ai y38.1,.own (oi 944 9) T4 0 y38.2.1.length,.own (oi 945 9) .int 0 y38.2.2.length]) [(oi 944 9,some (.arr 59 T4 y38.2.1)),(oi 945 9,some (.arr 3 .int y38.2.2))] [.agg [ai a2_0,.tree T4 a2_1,.tree .int a2_2]] _ (caps:=[]) (args0:=[.agg [ai a2_0,.tree T4 a2_1,.tree .int a2_2]]) trivial (by kernel_rfl) (Dr h38) Gh ?_;refine Cp (.bool y39) [] [.agg [ai y22.1,.own (oi 6 1) T4 0 y22.2.1.length,.own (oi 7 1) .int 0 y22.2.2.length],.agg [ai y38.1,.own (oi 944 9) T4 0 y38.2.1.length,.own (oi 945 9) .int 0 y38.2.2.length]] _ (caps:=[]) (args0:=[.agg [ai y22.1,.tree T4 y22.2.1,.tree .int y22.2.2],.agg [ai y38.1,.tree T4 y38.2.1,.tree .int y38.2.2]]) trivial (A2 (Qr (A2 (by kernel_rfl) (A2 (B6 (e:=59) (by kernel_rfl) rfl) (A2 (B6 (e:=3) (by kernel_rfl) rfl) C5)))) (A2 (Qr (A2 (by kernel_rfl) (A2 (B6 (e:=59) (by kernel_rfl) rfl) (A2 (B6 (e:=3) (by kernel_rfl) rfl) C5)))) C5)) (L4 h39) Mb ?_;refine dz0 (.bool (!y39)) ?_;refine Gg (Bg (by kernel_rfl)) (tn_ ?_);refine wr_ ?_;rcases Ad h with ⟨q40,h⟩ | ⟨q40,h⟩
 ·refine Ag q40 ?_;refine Al ?_;refine Ah (tr_ ?_);obtain rfl:=zj h;exact Bm [.bool false] (Aw rfl zl Ay)
 refine Af q40 ?_;refine Aj (tn_ ?_);refine wr_ ?_;refine Al ?_;refine Ah ?_;obtain rfl:=zj h;exact Bm [.bool true] (Aw rfl zl Ay)
end
section
section
variable {α β σ ρ:Type}
theorem Ad2 {body:σ->Option (Ctl σ ρ)} {Post:ρ->Prop} (n:Nat) (I:Nat->σ->Prop)
  (hs:∀ i s,i<n->I i s->(∃ s',body s=some (.next s')∧I (i+1) s')∨∃ r,body s=some (.out r)∧Post r) (he:∀ s,I n s->∃ r,body s=some (.out r)∧Post r) :
  ∀ (F k:Nat) (s:σ),k<=n->n - k<F->I k s->∃ r,A3 body F s=some r∧Post r
 | 0,_,_,_,h,_=>by omega
 | F+1,k,s,hk,h,hi=>by
  have key:(∃ r,body s=some (.out r)∧Post r)->∃ r,A3 body (F+1) s=some r∧Post r:=by
   rintro ⟨r,h1,h2⟩;exact ⟨r,by simp only [A3,h1,obs,Ctl.then],h2⟩
  rcases Nat.lt_or_ge k n with hlt | hge
  ·rcases hs k s hlt hi with ⟨s',h1,h2⟩ | h
   ·obtain ⟨r,h3,h4⟩:=Ad2 n I hs he F (k+1) s' hlt (by omega) h2;exact ⟨r,by simp only [A3,h1,obs,Ctl.then]; exact h3,h4⟩
   ·exact key h
  ·obtain rfl:k=n:=by omega
   exact key (he s hi)
theorem N1 {body:σ->Option (Ctl σ ρ)} {Post:ρ->Prop} (n:Nat) (I:Nat->σ->Prop) {F:Nat} (hn:n<F) {s0:σ} (h0:I 0 s0)
  (hs:∀ i s,i<n->I i s->(∃ s',body s=some (.next s')∧I (i+1) s')∨∃ r,body s=some (.out r)∧Post r) (he:∀ s,I n s->∃ r,body s=some (.out r)∧Post r):∃ r,A3 body F s0=some r∧Post r :=
 Ad2 n I hs he F 0 s0 (Nat.zero_le _) (by omega) h0
theorem Hs {body:σ->Option (Ctl σ ρ)} (n:Nat) (I:Nat->σ->Prop) {F:Nat} (hn:n<F) {s0:σ} (r:ρ) (h0:I 0 s0)
  (hs:∀ i s,i<n->I i s->(∃ s',body s=some (.next s')∧I (i+1) s')∨body s=some (.out r)) (he:∀ s,I n s->body s=some (.out r)):A3 body F s0=some r:=by
 obtain ⟨r',h1,rfl⟩:=N1 (Post:=fun r'=>r'=r) n I hn h0 (fun i s hi hI=>(hs i s hi hI).imp id fun h=>⟨r,h,rfl⟩) (fun s h=>⟨r,he s h,rfl⟩);exact h1
theorem B3 {body:σ->Option (Ctl σ ρ)} (n:Nat) (S:Nat->σ) {F:Nat} (hn:n<F) {s0:σ} (r:ρ) (h0:s0=S 0) (hs:∀ i,i<n->body (S i)=some (.next (S (i+1)))) (he:body (S n)=some (.out r)):A3 body F s0=some r:=by
 subst h0;refine Hs n (fun i s=>s=S i) hn r rfl (fun i s hi e=>.inl ?_) (fun s e=>by subst e; exact he);subst e;exact ⟨_,hs i hi,rfl⟩
theorem Qw {body:Nat->Option (Ctl Nat ρ)} (xs:List α) (q:α->Bool) (good bad:ρ) {F:Nat} (hn:xs.length<F) (hs:∀ i x,xs[i]? =some x->body i=some (if q x then .next (i+1) else .out bad)) (he:body xs.length=some (.out good)):A3 body F 0=some (if xs.all q then good else bad):=by
 refine Hs xs.length (fun i s=>s=i∧(xs.take i).all q=true) hn _ ⟨rfl,by simp⟩ ?_ ?_
 ·rintro i s hi ⟨hsi,hq⟩;subst s;have hx:=gEg hi;rw [hs i _ hx];cases hc:q xs[i]
  ·refine .inr ?_
   have:xs.all q=false:=by
    rw [Bool.eq_false_iff];intro ha;rw [List.all_eq_true] at ha;rw [ha _ (List.getElem_mem hi)] at hc;cases hc
   rw [this]; rfl
  ·refine .inl ⟨i+1,rfl,rfl,?_⟩;rw [List.take_add_one,List.all_append,hq,hx];simp [hc]
 ·rintro s ⟨rfl,hq⟩;rw [List.take_length] at hq;rw [he,hq]; rfl
theorem Ajz {body:Nat->Option (Ctl Nat ρ)} (xs:List α) (q:α->Bool) (none_:ρ) (g:Nat->ρ) {F:Nat} (hn:xs.length<F) (hs:∀ i x,xs[i]? =some x->body i=some (if q x then .out (g i) else .next (i+1))) (he:body xs.length=some (.out none_)) :
  (xs.any q=true∧∃ i,i<xs.length∧A3 body F 0=some (g i))∨(xs.any q=false∧A3 body F 0=some none_):=by
 have key:∃ r,A3 body F 0=some r∧((xs.any q=true∧∃ i,i<xs.length∧r=g i)∨(xs.any q=false∧r=none_)):=by
  refine N1 xs.length (fun i s=>s=i∧(xs.take i).any q=false) hn ⟨rfl,by simp⟩ ?_ ?_
  ·rintro i s hi ⟨hsi,hq⟩;subst s;have hx:=gEg hi;rw [hs i _ hx];cases hc:q xs[i]
   ·refine .inl ⟨i+1,rfl,rfl,?_⟩;rw [List.take_add_one,List.any_append,hq,hx];simp [hc]
   ·exact .inr ⟨_,rfl,.inl ⟨List.any_eq_true.2 ⟨_,List.getElem_mem hi,hc⟩,i,hi,rfl⟩⟩
  ·rintro s ⟨hsi,hq⟩;subst hsi;rw [List.take_length] at hq;exact ⟨_,he,.inr ⟨hq,rfl⟩⟩
 obtain ⟨r,h,⟨h1,i,hi,rfl⟩ | ⟨h1,rfl⟩⟩:=key
 ·exact .inl ⟨h1,i,hi,h⟩
 ·exact .inr ⟨h1,h⟩
theorem Jf {body:Nat×List β->Option (Ctl (Nat×List β) ρ)} (xs:List α) (f:α->β) (ys:List β) {F:Nat} (hn:xs.length<F) (r:ρ) (hs:∀ i x,xs[i]? =some x->body (i,ys++(xs.take i).map f)=some (.next (i+1,(ys++(xs.take i).map f)++[f x]))) (he:body (xs.length,ys++xs.map f)=some (.out r)):A3 body F (0,ys)=some r:=by
 refine B3 xs.length (fun i=>(i,ys++(xs.take i).map f)) hn r (by simp) (fun i hi=>?_) (by rw [List.take_length]; exact he);have hx:=gEg hi;rw [hs i _ hx,List.take_add_one,hx];simp only [List.map_append,Option.toList,List.map_cons,List.map_nil,List.append_assoc]
theorem Qx {xs:List α} {d:α} {i:Nat} (h:i<xs.length):(xs.take i++List.replicate (xs.length - i) d)[i]? =some d:=by
 have h1:(xs.take i).length=i:=by rw [List.length_take]; omega
 rw [List.getElem?_append_right (by omega),h1,Nat.sub_self,List.getElem?_replicate,if_pos (by omega)]
theorem Q1 {xs:List α} {d x:α} {i:Nat} (h:xs[i]? =some x):(xs.take i++List.replicate (xs.length - i) d).set i x=xs.take (i+1)++List.replicate (xs.length - (i+1)) d:=by
 have hi:=(gSi.1 h).1;have e:xs.length - i=(xs.length - (i+1))+1:=by omega
 rw [List.take_add_one,h,e,List.replicate_succ,List.set_append,if_neg (by simp; omega)];simp [Nat.min_eq_left (Nat.le_of_lt hi)]
theorem Akd {xs ys:List α} {i:Nat} (h:i<xs.length) (hl:ys.length=i):(ys++xs.drop i)[i]? =some xs[i]:=by
 rw [List.getElem?_append_right (by omega),hl];simp [List.getElem?_drop,h]
theorem Aku {xs ys:List α} {y:α} {i:Nat} (h:i<xs.length) (hl:ys.length=i):(ys++xs.drop i).set i y=(ys++[y])++xs.drop (i+1):=by
 rw [List.set_append,if_neg (by omega),hl,Nat.sub_self,List.drop_eq_getElem_cons h,List.append_assoc];rfl
end
theorem Eh {n:Int} (h1: -9223372036854775808<=n) (h2:n<9223372036854775808):wI n=n:=Go.IntWalk.i64_in _ (by omega)
theorem Bw {p:Prop} [Decidable p] (h:p):decide p=true:=decide_eq_true h
theorem Bu {p:Prop} [Decidable p] (h:¬ p):decide p=false:=decide_eq_false h
end
section
theorem Akz {α:Type} (q:α->Bool) (l:List α):(!l.any fun x=> !q x)=l.all q:=by
 induction l with
 | nil=>rfl
 | cons x l ih=>simp only [List.any_cons,List.all_cons,Bool.not_or,Bool.not_not,ih]
theorem Xk (b:Bool):J4 (some (if b then Ctl.next () else Ctl.out false)) (fun _:Unit=>some true)=some b:=by cases b <;> rfl
theorem Qq (x lo hi:Int):Co x lo hi=some (inR x lo hi):=by
 unfold Co inR;by_cases h:lo<=x <;> simp [h]
theorem Yb (x lo hi:Int):D3 x lo hi=some (inR x lo hi):=by
 unfold D3 inR;by_cases h:lo<=x <;> simp [h]
theorem Aeh (xs:List Int) (lo hi:Int) (hx:xs.length<=1099511627776):Ft xs lo hi=some (xs.all fun x=>inR x lo hi):=by
 unfold Ft;rw [Qw xs (fun x=>inR x lo hi) (.next ()) (.out false) (by omega) (fun i x h=>?_) ?_,Xk]
 ·unfold Hz;rw [Bu (by omega),cond_false]
 ·have:=Bn h;unfold Hz;rw [Bw (by omega),cond_true,h,obs,Qq,obs,Ar (by omega)];cases inR x lo hi <;> rfl
theorem Aa8 (xs:List Int) (n:Int) (hn: -1000000000<=n∧n<=1000000000) (hx:xs.length<=1099511627776):Ej xs n=some (xs.all fun x=>inR x 0 (n - 1)):=by
 unfold Ej;rw [Qw xs (fun x=>inR x 0 (n - 1)) (.next ()) (.out false) (by omega) (fun i x h=>?_) ?_,Xk]
 ·unfold Fx;rw [Bu (by omega),cond_false]
 ·have:=Bn h;unfold Fx;rw [Bw (by omega),cond_true,h,obs,Eh (by omega) (by omega),Yb,obs,Ar (by omega)];cases inR x 0 (n - 1) <;> rfl
theorem An9 {p:Int} (h:inR p 2 97=false):isF p=false:=by rcases Aj8.1 h with h | h <;> simp [isF] <;> omega
theorem Ahk (p:Int):Gb p=some (isF p):=by
 unfold Gb;rw [Qq,obs];cases hr:inR p 2 97
 ·rw [An9 hr]; rfl
 rw [Bool.not_true,cond_false];obtain ⟨h1,h2⟩:=Ep.1 hr;obtain ⟨n,rfl⟩:=Int.eq_ofNat_of_zero_le (show 0<=p by omega)
 have h:A3 (fun s_:Nat=>E3 n s_) 4611686018427387904 2=some (if isF n then .next () else .out false):=by
  refine Hs 8 (fun i s=>s=i+2∧Ac9 n s=true) (by omega) _ ⟨rfl,by simp [Ac9,List.range_succ]⟩ ?_ ?_
  ·rintro i s hi ⟨hs,hd⟩;unfold E3;have hm:((s:Int)*(s:Int))=((s*s:Nat):Int):=by simp
   have hss:s*s<=9*9:=Nat.mul_le_mul (by omega) (by omega);rw [hm,Eh (by omega) (by omega)];by_cases hle:s*s<=n
   ·rw [Bw (by omega),cond_true,Ar (by omega),show Int.tmod (n:Int) (s:Int)=((n % s:Nat):Int) from by rw [Int.tmod_eq_emod_of_nonneg (by omega)]; rfl];by_cases h0:n % s=0
    ·refine .inr ?_;rw [h0,An6 n (by omega) s (by omega) (by omega) hle h0]; rfl
    ·refine .inl ⟨s+1,?_,by omega,Ail hd h0⟩;rw [show (((n % s:Nat):Int)==0)=false from by rw [beq_eq_false_iff_ne]; omega,cond_false,Ar (by omega)]
   ·refine .inr ?_;rw [Bu (by omega),cond_false,Add n (by omega) (by omega) s (by omega) hd (by omega)]; rfl
  ·rintro s ⟨hs,hd⟩;obtain rfl:s=10:=by omega
   unfold E3;rw [show wI (((10:Nat):Int)*((10:Nat):Int))=100 from Eh (by omega) (by omega),Bu (by omega),cond_false,Add n (by omega) (by omega) 10 (by omega) hd (by omega)]; rfl
 rw [h,Xk]
theorem Ahg (p x:Int):Fj p x=some (inR x 0 (p - 1)):=by
 unfold Fj inR;by_cases h:0<=x
 ·simp [h,show (x<p↔x<=p - 1) by omega]
 ·simp [h]
theorem Apq (p:Int) (xs:List Int) (hp:2<=p∧p<=97) (hx:xs.length<=1099511627776):Jp p xs=some (xs.all fun x=>inR x 0 (p - 1)):=by
 unfold Jp;rw [Eh (by omega) (by omega),Aeh _ _ _ hx]; rfl
theorem Amr {p x:Int} (hp:2<=p∧p<=97):H3 p x=some (x % p):=by
 unfold H3;rw [Ar (by omega)]
 have e1:x.tmod p=if 0<=x∨x % p=0 then x % p else x % p - p:=by
  simp only [Int.tmod_eq_emod,Int.dvd_iff_emod_eq_zero];split <;> simp <;> omega
 have h1:=Int.emod_nonneg x (show p≠0 by omega);have h2:=Int.emod_lt_of_pos x (show 0<p by omega);by_cases h:x.tmod p<0
 ·rw [Bw h,cond_true,obs,Eh (by omega) (by omega)];congr 1;split at e1 <;> omega
 ·rw [Bu h,cond_false,obs];congr 1;split at e1 <;> omega
theorem Qy {n:Int} (h:0<=n∧n<=1000000):De n=some (List.replicate n.toNat 0):=by
 unfold De;rw [Ar (by omega)]
theorem Anf (xs:List Int) (h:xs.length<=1000000):Io xs=some xs:=by
 unfold Io;rw [Ar (by omega)]
theorem Un (xs:List Int) (h:xs.length<=1000000):D1 xs=some xs:=by
 unfold D1;rw [Ar (by omega)]
theorem Anv {p x y:Int} (hp:2<=p∧p<=97) (hx:0<=x∧x<p) (hy:0<=y∧y<p):Ii p x y=some ((x+y) % p):=by
 unfold Ii;rw [Ar (by omega),Eh (by omega) (by omega),Int.tmod_eq_emod_of_nonneg (by omega)]
theorem Ad7 {p x y:Int} (hp:2<=p∧p<=97) (hx:0<=x∧x<p) (hy:0<=y∧y<p):0<=x*y∧x*y<=10000:=by
 refine ⟨Int.mul_nonneg hx.1 hy.1,?_⟩;have h1:x*y<=97*y:=Int.mul_le_mul_of_nonneg_right (by omega) hy.1;omega
theorem An7 {p x y:Int} (hp:2<=p∧p<=97) (hx:0<=x∧x<p) (hy:0<=y∧y<p):Iu p x y=some ((x*y) % p):=by
 have:=Ad7 hp hx hy;unfold Iu;rw [Ar (by omega),Eh (by omega) (by omega),Int.tmod_eq_emod_of_nonneg (by omega)]
end
end Go.Proofs.YtmflebjoidoiiaaDoor
