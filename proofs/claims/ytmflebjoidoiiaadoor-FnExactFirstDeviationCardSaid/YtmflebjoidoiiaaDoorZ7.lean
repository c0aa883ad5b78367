/- Lemmas on the program and on partial functions that stand in place of its code (part 7); no condition beyond those that each one states. -/
import Derived.Test.YtmflebjoidoiiaaDoorZ6
import Derived.Deep.RegionHeld3
namespace Go.Proofs.YtmflebjoidoiiaaDoor
section
open Go.RowKit Go.Deep
set_option maxRecDepth 4000
def Gp:AC :=
 (.seq (rg [xo 67 (qb .lss (tm 66) (tm 65))])
 (.seq (.cond (tm 67)
  .skip
  (.exit 4))
 (.seq (.block 5 (.seq (rg [xo 68 (qm (tm 66)),xo 18 (qm (tm 68))])
 (.seq (.region [xo 69 (qm (tm 14)),xo 70 (qm (tm 16)),xo 71 (qx 2 (tm 69) (tm 70)),xo 72 (qf 1 (tm 71)),xo 73 (ql (tm 72)),xo 74 (qm (tm 17)),xo 75 (qx 1 (tm 73) (tm 74)),xo 76 (ql (tm 75)),xo 77 (qm (tm 18)),xo 78 (qx 1 (tm 76) (tm 77)),xo 79 (ql (tm 78)),xo 80 (qm (tm 15)),xo 81 (qm (tm 16)),xo 82 (qx 2 (tm 80) (tm 81)),xo 83 (qf 1 (tm 82)),xo 84 (ql (tm 83)),xo 85 (qm (tm 17)),xo 86 (qx 1 (tm 84) (tm 85)),xo 87 (ql (tm 86)),xo 88 (qm (tm 18)),xo 89 (qx 1 (tm 87) (tm 88)),xo 90 (ql (tm 89)),xo 91 (qb .neq (tm 79) (tm 90))] true [])
 (.cond (tm 91)
  (.seq (rg [xo 92 (qm (tm 16)),xo 93 (qm (tm 17)),xo 94 (qm (tm 18)),xo 6 (qm (tm 92)),xo 7 (qm (tm 93)),xo 8 (qm (tm 94)),xo 9 (qm (cb true))])
  .ret)
  .skip))))
 (rg [xo 95 (qb .add (tm 66) (ci 1)),xo 66 (qm (tm 95))]))))
def Hf:AC :=
 (.seq (rg [xo 55 (qb .lss (tm 54) (tm 53))])
 (.seq (.cond (tm 55)
  .skip
  (.exit 2))
 (.seq (.block 3 (.seq (rg [xo 56 (qm (tm 54)),xo 17 (qm (tm 56))])
 (.seq (rg [xo 57 (qm (tm 14)),xo 58 (qm (tm 16)),xo 59 (qx 2 (tm 57) (tm 58)),xo 60 (qf 1 (tm 59)),xo 61 (ql (tm 60)),xo 62 (qm (tm 17)),xo 63 (qx 1 (tm 61) (tm 62)),xo 64 (ql (tm 63)),xo 65 (.i (.len (tm 64))),xo 66 (qm (ci 0))])
 (.block 4 (.loop Gp)))))
 (rg [xo 96 (qb .add (tm 54) (ci 1)),xo 54 (qm (tm 96))]))))
def Hd:AC :=
 (.seq (rg [xo 46 (qb .lss (tm 45) (tm 44))])
 (.seq (.cond (tm 46)
  .skip
  (.exit 0))
 (.seq (.block 1 (.seq (rg [xo 47 (qm (tm 45)),xo 16 (qm (tm 47))])
 (.seq (rg [xo 48 (qm (tm 14)),xo 49 (qm (tm 16)),xo 50 (qx 2 (tm 48) (tm 49)),xo 51 (qf 1 (tm 50)),xo 52 (ql (tm 51)),xo 53 (.i (.len (tm 52))),xo 54 (qm (ci 0))])
 (.block 2 (.loop Hf)))))
 (rg [xo 97 (qb .add (tm 45) (ci 1)),xo 45 (qm (tm 97))]))))
def Ir:AC :=
 (.seq (rg [xo 4 (.i (.box 31 (tm 1))),xo 5 (.i (.box 31 (tm 2))),xo 6 (qm (ci 0)),xo 7 (qm (ci 0)),xo 8 (qm (ci 0)),xo 9 (qm (cb false))])
 (.seq (rg [xo 20 (qm (tm 0)),xo 21 (.i (.ld false 3 (tm 4))),xo 22 (.i (.ld false 3 (tm 5))),⟨some 23,none,qc 14 [tm 20,tm 21,tm 22] [[],[none,some T4,some .int],[none,some T4,some .int]]⟩,xo 19 (qm (tm 23)),xo 24 (.i (.extr 0 (tm 19))),xo 25 (.i (.extr 1 (tm 19))),xo 26 (.i (.extr 2 (tm 19))),xo 10 (.i (.alloc 41 [.int .i64 0,.int .i64 0,.int .i64 0,.nils,.nils,.nils,.nils])),xo 11 (.i (.alloc 41 [.int .i64 0,.int .i64 0,.int .i64 0,.nils,.nils,.nils,.nils])),xn (.st false 7 (tm 10) (tm 24)),xn (.st false 7 (tm 11) (tm 25)),xo 12 (qm (tm 26))])
 (.seq (.seq (rg [xo 27 (qm (tm 12)),xo 28 (.i (.not (tm 27)))])
 (.cond (tm 28)
  (.seq (rg [xo 6 (qm (ci 0)),xo 7 (qm (ci 0)),xo 8 (qm (ci 0)),xo 9 (qm (cb false))])
  .ret)
  .skip))
 (.seq (rg [xo 29 (qf 0 (tm 10)),xo 30 (ql (tm 29)),xo 31 (qf 0 (tm 11)),xo 32 (ql (tm 31)),xo 33 (qb .add (tm 30) (tm 32)),xo 34 (qb .add (tm 33) (ci 1)),xo 13 (qm (tm 34))])
 (.seq (.region [xo 35 (qm (tm 0)),xo 36 (.i (.ld false 7 (tm 10))),xo 37 (qm (tm 13)),xo 38 (qc 15 [tm 35,tm 36,tm 37] [[],[none,none,none,some (.slice .int),some (.slice .int),some (.slice .int),some (.slice .int)],[]]),xo 39 (qm (tm 0)),xo 40 (.i (.ld false 7 (tm 11))),xo 41 (qm (tm 13)),xo 42 (qc 15 [tm 39,tm 40,tm 41] [[],[none,none,none,some (.slice .int),some (.slice .int),some (.slice .int),some (.slice .int)],[]]),xo 14 (qm (tm 38)),xo 15 (qm (tm 42))] true [(3,5)])
 (.seq (.seq (rg [xo 43 (qm (tm 14)),xo 44 (.i (.len (tm 43))),xo 45 (qm (ci 0))])
 (.block 0 (.loop Hd)))
 (.seq (rg [xo 6 (qm (ci 0)),xo 7 (qm (ci 0)),xo 8 (qm (ci 0)),xo 9 (qm (cb false))])
 .ret)))))))
def Ok:List Res:=[.tmp 6,.tmp 7,.tmp 8,.tmp 9]
theorem Oc:Ar Tryd.prog Tryd.f6=some (Ir,Ok):=by kernel_rfl
theorem Nr:A6 Tryd.prog 6=true:=by kernel_rfl
def Cc (x29:List Int) (y11:List (Int×List (List Int))) (l14_m45:Nat) (l22_m54:Nat) (l30_m66:Nat):Option (Ctl Nat (Ctl Unit (Ctl Nat (Ctl Unit (Ctl Nat (Ctl Unit (Int×Int×Int×Bool))))))) :=
 cond (decide (((l30_m66:Nat):Int)<((x29.length:Nat):Int)))
 (Option.bind (x29[l30_m66]?) fun x37 =>
 Option.bind (y11[l14_m45]?) fun x38 =>
 Option.bind (x38.2[l22_m54]?) fun x39 =>
 Option.bind (x39[l30_m66]?) fun x40 =>
 cond (x37 !=x40)
  (some (Ctl.out (Ctl.out (Ctl.out (Ctl.out (Ctl.out (Ctl.out (((l14_m45:Nat):Int),((l22_m54:Nat):Int),((l30_m66:Nat):Int),true))))))))
  (og (l30_m66+1<4611686018427387904) <|
  some (Ctl.next (l30_m66+1))))
 (some (Ctl.out (Ctl.next ())))
def Cf (x21:Int×List (List Int)) (y11:List (Int×List (List Int))) (l14_m45:Nat) (l22_m54:Nat):Option (Ctl Nat (Ctl Unit (Ctl Nat (Ctl Unit (Int×Int×Int×Bool))))) :=
 cond (decide (((l22_m54:Nat):Int)<((x21.2.length:Nat):Int)))
 (Ix (Option.bind (x21.2[l22_m54]?) fun x29 =>
  Ay (fun s_:Nat=>Cc x29 y11 l14_m45 l22_m54 s_) 4611686018427387904 0) fun _ =>
 og (l22_m54+1<4611686018427387904) <|
 some (Ctl.next (l22_m54+1)))
 (some (Ctl.out (Ctl.next ())))
def Bm (y10:List (Int×List (List Int))) (y11:List (Int×List (List Int))) (l14_m45:Nat):Option (Ctl Nat (Ctl Unit (Int×Int×Int×Bool))) :=
 cond (decide (((l14_m45:Nat):Int)<((y10.length:Nat):Int)))
 (Ix (Option.bind (y10[l14_m45]?) fun x21 =>
  Ay (fun s_:Nat=>Cf x21 y11 l14_m45 s_) 4611686018427387904 0) fun _ =>
 og (l14_m45+1<4611686018427387904) <|
 some (Ctl.next (l14_m45+1)))
 (some (Ctl.out (Ctl.next ())))
def Cy (a0:Int) (a1_0:Int) (a1_1:List (Int×Int×Int×Int)) (a1_2:List Int) (a2_0:Int) (a2_1:List (Int×Int×Int×Int)) (a2_2:List Int):Option (Int×Int×Int×Bool) :=
 Option.bind (D5 a0 a1_0 a1_1 a1_2 a2_0 a2_1 a2_2) fun y3 =>
cond (!y3.2.2.2.2.2.2.2.2.2.2.2.2.2.2)
 (some (0,0,0,false))
 (Option.bind (D8 a0 y3.1 y3.2.1 y3.2.2.1 y3.2.2.2.1 y3.2.2.2.2.1 y3.2.2.2.2.2.1 y3.2.2.2.2.2.2.1 (wI (wI (y3.1+y3.2.2.2.2.2.2.2.1)+1))) fun y10 =>
 Option.bind (D8 a0 y3.2.2.2.2.2.2.2.1 y3.2.2.2.2.2.2.2.2.1 y3.2.2.2.2.2.2.2.2.2.1 y3.2.2.2.2.2.2.2.2.2.2.1 y3.2.2.2.2.2.2.2.2.2.2.2.1 y3.2.2.2.2.2.2.2.2.2.2.2.2.1 y3.2.2.2.2.2.2.2.2.2.2.2.2.2.1 (wI (wI (y3.1+y3.2.2.2.2.2.2.2.1)+1))) fun y11 =>
 Ix (Ay (fun s_:Nat=>Bm y10 y11 s_) 4611686018427387904 0) fun _ =>
 some (0,0,0,false))
def Ne (r:Int×Int×Int×Bool):RV:=⟨true,[(false,[.sc (.int .i64 r.1)]),(false,[.sc (.int .i64 r.2.1)]),(false,[.sc (.int .i64 r.2.2.1)]),(false,[.sc (.bool r.2.2.2)])]⟩
set_option maxHeartbeats 1600000 in
theorem Nq {a0:Int} {a1_0:Int} {a1_1:List (Int×Int×Int×Int)} {a1_2:List Int} {a2_0:Int} {a2_1:List (Int×Int×Int×Int)} {a2_2:List Int} {r:Int×Int×Int×Bool} (h:Cy a0 a1_0 a1_1 a1_2 a2_0 a2_1 a2_2=some r):A4 Tryd.prog Tab 6 [ai a0,.agg [ai a1_0,.tree T4 a1_1,.tree .int a1_2],.agg [ai a2_0,.tree T4 a2_1,.tree .int a2_2]] (Ne r):=by
 refine A0 (by kernel_rfl) Tryd.func6 Oc (n:=98) (by kernel_rfl) (by simp) (tl:=[(0,ai a0),(1,.agg [ai a1_0,.tree T4 a1_1,.tree .int a1_2]),(2,.agg [ai a2_0,.tree T4 a2_1,.tree .int a2_2])]) rfl ?_;unfold Ir;unfold Cy at h;refine Al ?_;refine Ab ?_;obtain ⟨y3,h3,h⟩:=Ae h;refine Aa 20 ?_;refine rz0 (ai a0) ?_;refine rzl (.agg [ai a1_0,.tree T4 a1_1,.tree .int a1_2]) ?_;refine rzl (.agg [ai a2_0,.tree T4 a2_1,.tree .int a2_2]) ?_;refine zc (.tup [.agg [ai y3.1,ai y3.2.1,ai y3.2.2.1,.tree (.slice .int) y3.2.2.2.1,.tree (.slice .int) y3.2.2.2.2.1,.tree (.slice .int) y3.2.2.2.2.2.1,.tree (.slice .int) y3.2.2.2.2.2.2.1],.agg [ai y3.2.2.2.2.2.2.2.1,ai y3.2.2.2.2.2.2.2.2.1,ai y3.2.2.2.2.2.2.2.2.2.1,.tree (.slice .int) y3.2.2.2.2.2.2.2.2.2.2.1,.tree (.slice .int) y3.2.2.2.2.2.2.2.2.2.2.2.1,.tree (.slice .int) y3.2.2.2.2.2.2.2.2.2.2.2.2.1,.tree (.slice .int) y3.2.2.2.2.2.2.2.2.2.2.2.2.2.1],.bool y3.2.2.2.2.2.2.2.2.2.2.2.2.2.2]) [] [ai a0,.agg [ai a1_0,.tree T4 a1_1,.tree .int a1_2],.agg [ai a2_0,.tree T4 a2_1,.tree .int a2_2]] (Tt h3) ?_;refine rsB 9 ?_;refine Ao (tn_ ?_);refine wr_ ?_;refine Ab ?_;refine Al ?_;rcases Ad h with ⟨q6,h⟩ | ⟨q6,h⟩
 ·refine Ag q6 ?_;refine Al ?_;refine Aj (tr_ ?_);obtain rfl:=zj h;exact Bk [ai 0,ai 0,ai 0,.bool false] (At rfl zl (At rfl zl (At rfl zl (At rfl zl A5))))
 refine Af q6 ?_;refine Ai (tn_ ?_);refine wr_ ?_;refine Al ?_;refine Ab ?_;obtain ⟨y10,h10,h⟩:=Ae h;obtain ⟨y11,h11,h⟩:=Ae h;refine A1 39 ?_;refine dz0 (ai a0) ?_;refine dzl (.agg [ai y3.1,ai y3.2.1,ai y3.2.2.1,.tree (.slice .int) y3.2.2.2.1,.tree (.slice .int) y3.2.2.2.2.1,.tree (.slice .int) y3.2.2.2.2.2.1,.tree (.slice .int) y3.2.2.2.2.2.2.1]) ?_;refine dz0 (ai (wI (wI (y3.1+y3.2.2.2.2.2.2.2.1)+1))) ?_;refine Cq (.tree (.pair .int (.slice (.slice .int))) y10) [] [ai a0,.agg [ai y3.1,ai y3.2.1,ai y3.2.2.1,.tree (.slice .int) y3.2.2.2.1,.tree (.slice .int) y3.2.2.2.2.1,.tree (.slice .int) y3.2.2.2.2.2.1,.tree (.slice .int) y3.2.2.2.2.2.2.1],ai (wI (wI (y3.1+y3.2.2.2.2.2.2.2.1)+1))] _ (caps:=[]) (args0:=[ai a0,.agg [ai y3.1,ai y3.2.1,ai y3.2.2.1,.tree (.slice .int) y3.2.2.2.1,.tree (.slice .int) y3.2.2.2.2.1,.tree (.slice .int) y3.2.2.2.2.2.1,.tree (.slice .int) y3.2.2.2.2.2.2.1],ai (wI (wI (y3.1+y3.2.2.2.2.2.2.2.1)+1))]) trivial (by kernel_rfl) (Mc h10) L7 ?_;refine dz0 (ai a0) ?_;refine dzl (.agg [ai y3.2.2.2.2.2.2.2.1,ai y3.2.2.2.2.2.2.2.2.1,ai y3.2.2.2.2.2.2.2.2.2.1,.tree (.slice .int) y3.2.2.2.2.2.2.2.2.2.2.1,.tree (.slice .int) y3.2.2.2.2.2.2.2.2.2.2.2.1,.tree (.slice .int) y3.2.2.2.2.2.2.2.2.2.2.2.2.1,.tree (.slice .int) y3.2.2.2.2.2.2.2.2.2.2.2.2.2.1]) ?_;refine dz0 (ai (wI (wI (y3.1+y3.2.2.2.2.2.2.2.1)+1))) ?_;refine Cq (.tree (.pair .int (.slice (.slice .int))) y11) [] [ai a0,.agg [ai y3.2.2.2.2.2.2.2.1,ai y3.2.2.2.2.2.2.2.2.1,ai y3.2.2.2.2.2.2.2.2.2.1,.tree (.slice .int) y3.2.2.2.2.2.2.2.2.2.2.1,.tree (.slice .int) y3.2.2.2.2.2.2.2.2.2.2.2.1,.tree (.slice .int) y3.2.2.2.2.2.2.2.2.2.2.2.2.1,.tree (.slice .int) y3.2.2.2.2.2.2.2.2.2.2.2.2.2.1],ai (wI (wI (y3.1+y3.2.2.2.2.2.2.2.1)+1))] _ (caps:=[]) (args0:=[ai a0,.agg [ai y3.2.2.2.2.2.2.2.1,ai y3.2.2.2.2.2.2.2.2.1,ai y3.2.2.2.2.2.2.2.2.2.1,.tree (.slice .int) y3.2.2.2.2.2.2.2.2.2.2.1,.tree (.slice .int) y3.2.2.2.2.2.2.2.2.2.2.2.1,.tree (.slice .int) y3.2.2.2.2.2.2.2.2.2.2.2.2.1,.tree (.slice .int) y3.2.2.2.2.2.2.2.2.2.2.2.2.2.1],ai (wI (wI (y3.1+y3.2.2.2.2.2.2.2.1)+1))]) trivial (by kernel_rfl) (Mc h11) L7 ?_;refine dz0 (.tree (.pair .int (.slice (.slice .int))) y10) ?_;refine dz0 (.tree (.pair .int (.slice (.slice .int))) y11) ?_;refine Gj (Bi (by kernel_rfl)) (tn_ ?_);refine wr_ ?_;refine C0 h (fun (_:Unit) S_=>S_=⟨Am [],Ak (An []),2⟩) ?_ ?_
 ·intro v_ h hk12;refine Al ?_;refine Ah ?_;refine Ax h (fun (l14_m45:Nat) S_=>S_=⟨Am [(14,.tree (.pair .int (.slice (.slice .int))) y10),(15,.tree (.pair .int (.slice (.slice .int))) y11),(44,ai ((y10.length:Nat):Int)),(45,ai ((l14_m45:Nat):Int))],Ak (An []),2⟩) ⟨_,Ac [],rfl⟩ ?_;rintro n_ l14_m45 _ c_ rfl h hn14
  (try dsimp only at h);unfold Bm at h;unfold Hd;refine Al ?_;refine Ab ?_;rcases Ad h with ⟨q17,h⟩ | ⟨q17,h⟩
  ·have q17_:=of_decide_eq_true q17;refine Ag q17 ?_;refine Ai (tn_ ?_);refine wr_ ?_;refine C0 h (fun (_:Unit) S_=>S_=⟨Am [(14,.tree (.pair .int (.slice (.slice .int))) y10),(15,.tree (.pair .int (.slice (.slice .int))) y11),(44,ai ((y10.length:Nat):Int)),(45,ai ((l14_m45:Nat):Int))],Ak (An []),2⟩) ?_ ?_
   ·intro v_ h hk18;refine Ah ?_;refine Al ?_;refine Ab ?_;obtain ⟨x21,e21,h⟩:=Ae h;refine Aa 12 ?_;refine rz0 (.tree (.pair .int (.slice (.slice .int))) y10) ?_;refine rz0 (ai ((l14_m45:Nat):Int)) ?_;refine rs0 (.telt (.pair .int (.slice (.slice .int))) x21 0) (zi (t:=.pair .int (.slice (.slice .int))) (xs:=y10) (k:=.i64) (m:=((l14_m45:Nat):Int)) (Ba _) e21) ?_;refine rsB 4 ?_;refine Ao (tn_ ?_);refine wr_ ?_;refine Ah ?_;refine Ax h (fun (l22_m54:Nat) S_=>S_=⟨Am [(14,.tree (.pair .int (.slice (.slice .int))) y10),(15,.tree (.pair .int (.slice (.slice .int))) y11),(16,ai ((l14_m45:Nat):Int)),(44,ai ((y10.length:Nat):Int)),(45,ai ((l14_m45:Nat):Int)),(53,ai ((x21.2.length:Nat):Int)),(54,ai ((l22_m54:Nat):Int))],Ak (An []),2⟩) ⟨_,Ac [],rfl⟩ ?_;rintro n_ l22_m54 _ c_ rfl h hn22
    (try dsimp only at h);unfold Cf at h;unfold Hf;refine Al ?_;refine Ab ?_;rcases Ad h with ⟨q25,h⟩ | ⟨q25,h⟩
    ·have q25_:=of_decide_eq_true q25;refine Ag q25 ?_;refine Ai (tn_ ?_);refine wr_ ?_;refine C0 h (fun (_:Unit) S_=>S_=⟨Am [(14,.tree (.pair .int (.slice (.slice .int))) y10),(15,.tree (.pair .int (.slice (.slice .int))) y11),(16,ai ((l14_m45:Nat):Int)),(44,ai ((y10.length:Nat):Int)),(45,ai ((l14_m45:Nat):Int)),(53,ai ((x21.2.length:Nat):Int)),(54,ai ((l22_m54:Nat):Int))],Ak (An []),2⟩) ?_ ?_
     ·intro v_ h hk26;refine Ah ?_;refine Al ?_;refine Ab ?_;obtain ⟨x29,e29,h⟩:=Ae h;refine Aa 15 ?_;refine rz0 (.tree (.pair .int (.slice (.slice .int))) y10) ?_;refine rz0 (ai ((l14_m45:Nat):Int)) ?_;refine rs0 (.telt (.pair .int (.slice (.slice .int))) x21 0) (zi (t:=.pair .int (.slice (.slice .int))) (xs:=y10) (k:=.i64) (m:=((l14_m45:Nat):Int)) (Ba _) e21) ?_;refine rz0 (.telt (.pair .int (.slice (.slice .int))) x21 1) ?_;refine rz0 (.tree (.slice .int) x21.2) ?_;refine rz0 (ai ((l22_m54:Nat):Int)) ?_;refine rs0 (.telt (.slice .int) x29 0) (zi (t:=.slice .int) (xs:=x21.2) (k:=.i64) (m:=((l22_m54:Nat):Int)) (Ba _) e29) ?_;refine rsB 3 ?_;refine Ao (tn_ ?_);refine wr_ ?_;refine Ah ?_;refine Ax h (fun (l30_m66:Nat) S_=>S_=⟨Am [(14,.tree (.pair .int (.slice (.slice .int))) y10),(15,.tree (.pair .int (.slice (.slice .int))) y11),(16,ai ((l14_m45:Nat):Int)),(17,ai ((l22_m54:Nat):Int)),(44,ai ((y10.length:Nat):Int)),(45,ai ((l14_m45:Nat):Int)),(53,ai ((x21.2.length:Nat):Int)),(54,ai ((l22_m54:Nat):Int)),(65,ai ((x29.length:Nat):Int)),(66,ai ((l30_m66:Nat):Int))],Ak (An []),2⟩) ⟨_,Ac [],rfl⟩ ?_;rintro n_ l30_m66 _ c_ rfl h hn30
      (try dsimp only at h);unfold Cc at h;unfold Gp;refine Al ?_;refine Ab ?_;rcases Ad h with ⟨q33,h⟩ | ⟨q33,h⟩
      ·have q33_:=of_decide_eq_true q33;refine Ag q33 ?_;refine Ai (tn_ ?_);refine wr_ ?_;refine Ab ?_;refine Ah ?_;refine Al ?_;refine Ab ?_;obtain ⟨x37,e37,h⟩:=Ae h;obtain ⟨x38,e38,h⟩:=Ae h;obtain ⟨x39,e39,h⟩:=Ae h;obtain ⟨x40,e40,h⟩:=Ae h;refine A1 28 ?_;refine dz0 (.tree (.pair .int (.slice (.slice .int))) y10) ?_;refine dz0 (ai ((l14_m45:Nat):Int)) ?_;refine ds0 (.telt (.pair .int (.slice (.slice .int))) x21 0) (zi (t:=.pair .int (.slice (.slice .int))) (xs:=y10) (k:=.i64) (m:=((l14_m45:Nat):Int)) (Ba _) e21) ?_;refine dz0 (.telt (.pair .int (.slice (.slice .int))) x21 1) ?_;refine dz0 (.tree (.slice .int) x21.2) ?_;refine dz0 (ai ((l22_m54:Nat):Int)) ?_;refine ds0 (.telt (.slice .int) x29 0) (zi (t:=.slice .int) (xs:=x21.2) (k:=.i64) (m:=((l22_m54:Nat):Int)) (Ba _) e29) ?_;refine dz0 (.tree .int x29) ?_;refine dz0 (ai ((l30_m66:Nat):Int)) ?_;refine ds0 (.telt .int x37 0) (zi (t:=.int) (xs:=x29) (k:=.i64) (m:=((l30_m66:Nat):Int)) (Ba _) e37) ?_;refine dz0 (ai x37) ?_;refine dz0 (.tree (.pair .int (.slice (.slice .int))) y11) ?_;refine dz0 (ai ((l14_m45:Nat):Int)) ?_;refine ds0 (.telt (.pair .int (.slice (.slice .int))) x38 0) (zi (t:=.pair .int (.slice (.slice .int))) (xs:=y11) (k:=.i64) (m:=((l14_m45:Nat):Int)) (Ba _) e38) ?_;refine dz0 (.telt (.pair .int (.slice (.slice .int))) x38 1) ?_;refine dz0 (.tree (.slice .int) x38.2) ?_;refine dz0 (ai ((l22_m54:Nat):Int)) ?_;refine ds0 (.telt (.slice .int) x39 0) (zi (t:=.slice .int) (xs:=x38.2) (k:=.i64) (m:=((l22_m54:Nat):Int)) (Ba _) e39) ?_;refine dz0 (.tree .int x39) ?_;refine dz0 (ai ((l30_m66:Nat):Int)) ?_;refine ds0 (.telt .int x40 0) (zi (t:=.int) (xs:=x39) (k:=.i64) (m:=((l30_m66:Nat):Int)) (Ba _) e40) ?_;refine dz0 (ai x40) ?_;refine dz0 (.bool (x37 !=x40)) ?_;refine Gj (Bi (by kernel_rfl)) (tn_ ?_);refine wr_ ?_;rcases Ad h with ⟨q41,h⟩ | ⟨q41,h⟩
       ·refine Ag q41 ?_;refine Al ?_;refine Aj (br_ (tr_ (tr_ (br_ (br_ (tr_ (tr_ (br_ (br_ (tr_ (tr_ (br_ (tr_ ?_)))))))))))));obtain rfl:=zj h;have h:=hn30
        (try dsimp only at h);obtain rfl:=zj h;have h:=hk26
        (try dsimp only at h);obtain rfl:=zj h;have h:=hn22
        (try dsimp only at h);obtain rfl:=zj h;have h:=hk18
        (try dsimp only at h);obtain rfl:=zj h;have h:=hn14
        (try dsimp only at h);obtain rfl:=zj h;have h:=hk12
        (try dsimp only at h);obtain rfl:=zj h;exact Bk [ai ((l14_m45:Nat):Int),ai ((l22_m54:Nat):Int),ai ((l30_m66:Nat):Int),.bool true] (At rfl zl (At rfl zl (At rfl zl (At rfl zl A5))))
       refine Af q41 ?_;refine Ai (bn_ (tn_ ?_));refine wr_ ?_;obtain ⟨g43,h⟩:=Aq h;refine Aa 30 ?_;refine rs0 (ai ((l30_m66+1:Nat):Int)) (za g43) ?_;refine rsB 1 ?_;refine Ao (tn_ ?_);obtain rfl:=zj h;exact ⟨l30_m66+1,_,Ac [],rfl,hn30⟩
      have q33_:=of_decide_eq_false q33;refine Af q33 ?_;refine Av (te_ (te_ (be_ (bn_ (tn_ ?_)))));obtain rfl:=zj h;have h:=hn30
      (try dsimp only at h);obtain rfl:=zj h;exact ⟨(),_,rfl,Ac [],rfl⟩
     rintro _ _ rfl h
     (try dsimp only at h);obtain ⟨g44,h⟩:=Aq h;refine Aa 4 ?_;refine rs0 (ai ((l22_m54+1:Nat):Int)) (za g44) ?_;refine rsB 1 ?_;refine Ao (tn_ ?_);obtain rfl:=zj h;exact ⟨l22_m54+1,_,Ac [],rfl,hn22⟩
    have q25_:=of_decide_eq_false q25;refine Af q25 ?_;refine Av (te_ (te_ (be_ (bn_ (tn_ ?_)))));obtain rfl:=zj h;have h:=hn22
    (try dsimp only at h);obtain rfl:=zj h;exact ⟨(),_,rfl,Ac [],rfl⟩
   rintro _ _ rfl h
   (try dsimp only at h);obtain ⟨g45,h⟩:=Aq h;refine Aa 4 ?_;refine rs0 (ai ((l14_m45+1:Nat):Int)) (za g45) ?_;refine rsB 1 ?_;refine Ao (tn_ ?_);obtain rfl:=zj h;exact ⟨l14_m45+1,_,Ac [],rfl,hn14⟩
  have q17_:=of_decide_eq_false q17;refine Af q17 ?_;refine Av (te_ (te_ (be_ (tn_ ?_))));obtain rfl:=zj h;have h:=hn14
  (try dsimp only at h);obtain rfl:=zj h;exact ⟨(),_,rfl,Ac [],rfl⟩
 rintro _ _ rfl h
 (try dsimp only at h);refine Al ?_;refine Aj ?_;obtain rfl:=zj h;exact Bk [ai 0,ai 0,ai 0,.bool false] (At rfl zl (At rfl zl (At rfl zl (At rfl zl A5))))
def Gs:AC :=
 (.seq (rg [xo 63 (qb .lss (tm 62) (tm 61))])
 (.seq (.cond (tm 63)
  .skip
  (.exit 4))
 (.seq (.block 5 (.seq (rg [xo 64 (qm (tm 62)),xo 65 (qx 1 (tm 60) (tm 62)),xo 66 (ql (tm 65)),xo 19 (qm (tm 64)),xo 20 (qm (tm 66))])
 (.seq (rg [xo 67 (qm (tm 20)),xo 68 (qm (tm 15)),xo 69 (qm (tm 16)),xo 70 (qx 2 (tm 68) (tm 69)),xo 71 (qf 1 (tm 70)),xo 72 (ql (tm 71)),xo 73 (qm (tm 17)),xo 74 (qx 1 (tm 72) (tm 73)),xo 75 (ql (tm 74)),xo 76 (qm (tm 19)),xo 77 (qx 1 (tm 75) (tm 76)),xo 78 (ql (tm 77)),xo 79 (qb .neq (tm 67) (tm 78))])
 (.cond (tm 79)
  (.seq (rg [xo 80 (qm (tm 16)),xo 81 (qm (tm 17)),xo 82 (qm (tm 19)),xo 6 (qm (tm 80)),xo 7 (qm (tm 81)),xo 8 (qm (tm 82)),xo 9 (qm (cb true))])
  .ret)
  .skip))))
 (rg [xo 83 (qb .add (tm 62) (ci 1)),xo 62 (qm (tm 83))]))))
def Gx:AC :=
 (.seq (rg [xo 56 (qb .lss (tm 55) (tm 54))])
 (.seq (.cond (tm 56)
  .skip
  (.exit 2))
 (.seq (.block 3 (.seq (rg [xo 57 (qm (tm 55)),xo 58 (qx 1 (tm 53) (tm 55)),xo 59 (ql (tm 58)),xo 17 (qm (tm 57)),xo 18 (qm (tm 59))])
 (.seq (rg [xo 60 (qm (tm 18)),xo 61 (.i (.len (tm 60))),xo 62 (qm (ci 0))])
 (.block 4 (.loop Gs)))))
 (rg [xo 84 (qb .add (tm 55) (ci 1)),xo 55 (qm (tm 84))]))))
def G3:AC :=
 (.seq (rg [xo 47 (qb .lss (tm 46) (tm 45))])
 (.seq (.cond (tm 47)
  .skip
  (.exit 0))
 (.seq (.block 1 (.seq (rg [xo 48 (qm (tm 46)),xo 16 (qm (tm 48))])
 (.seq (rg [xo 49 (qm (tm 14)),xo 50 (qm (tm 16)),xo 51 (qx 2 (tm 49) (tm 50)),xo 52 (qf 1 (tm 51)),xo 53 (ql (tm 52)),xo 54 (.i (.len (tm 53))),xo 55 (qm (ci 0))])
 (.block 2 (.loop Gx)))))
 (rg [xo 85 (qb .add (tm 46) (ci 1)),xo 46 (qm (tm 85))]))))
def Ip:AC :=
 (.seq (rg [xo 4 (.i (.box 31 (tm 1))),xo 5 (.i (.box 31 (tm 2))),xo 6 (qm (ci 0)),xo 7 (qm (ci 0)),xo 8 (qm (ci 0)),xo 9 (qm (cb false))])
 (.seq (rg [xo 22 (qm (tm 0)),xo 23 (.i (.ld false 3 (tm 4))),xo 24 (.i (.ld false 3 (tm 5))),⟨some 25,none,qc 18 [tm 22,tm 23,tm 24] [[],[none,some T4,some .int],[none,some T4,some .int]]⟩,xo 21 (qm (tm 25)),xo 26 (.i (.extr 0 (tm 21))),xo 27 (.i (.extr 1 (tm 21))),xo 28 (.i (.extr 2 (tm 21))),xo 10 (.i (.alloc 41 [.int .i64 0,.int .i64 0,.int .i64 0,.nils,.nils,.nils,.nils])),xo 11 (.i (.alloc 41 [.int .i64 0,.int .i64 0,.int .i64 0,.nils,.nils,.nils,.nils])),xn (.st false 7 (tm 10) (tm 26)),xn (.st false 7 (tm 11) (tm 27)),xo 12 (qm (tm 28))])
 (.seq (.seq (rg [xo 29 (qm (tm 12)),xo 30 (.i (.not (tm 29)))])
 (.cond (tm 30)
  (.seq (rg [xo 6 (qm (ci 0)),xo 7 (qm (ci 0)),xo 8 (qm (ci 0)),xo 9 (qm (cb false))])
  .ret)
  .skip))
 (.seq (rg [xo 31 (qf 0 (tm 10)),xo 32 (ql (tm 31)),xo 33 (qf 0 (tm 11)),xo 34 (ql (tm 33)),xo 35 (qb .add (tm 32) (tm 34)),xo 36 (qb .add (tm 35) (ci 1)),xo 13 (qm (tm 36))])
 (.seq (.region [xo 37 (.i (.ld false 7 (tm 10))),xo 38 (qm (tm 0)),xo 39 (qm (tm 13)),xo 40 (qc 19 [tm 37,tm 38,tm 39] [[none,none,none,some (.slice .int),some (.slice .int),some (.slice .int),some (.slice .int)],[],[]]),xo 41 (.i (.ld false 7 (tm 11))),xo 42 (qm (tm 0)),xo 43 (qm (tm 13)),xo 44 (qc 19 [tm 41,tm 42,tm 43] [[none,none,none,some (.slice .int),some (.slice .int),some (.slice .int),some (.slice .int)],[],[]]),xo 14 (qm (tm 40)),xo 15 (qm (tm 44))] true [(3,4)])
 (.seq (.seq (rg [xo 45 (qm (tm 13)),xo 46 (qm (ci 0))])
 (.block 0 (.loop G3)))
 (.seq (rg [xo 6 (qm (ci 0)),xo 7 (qm (ci 0)),xo 8 (qm (ci 0)),xo 9 (qm (cb false))])
 .ret)))))))
def Oh:List Res:=[.tmp 6,.tmp 7,.tmp 8,.tmp 9]
theorem On:Ar Tryd.prog Tryd.f8=some (Ip,Oh):=by kernel_rfl
theorem Ns:A6 Tryd.prog 8=true:=by kernel_rfl
def G1 (x28:List Int) (y11:List (Int×List (List Int))) (l14_m46:Nat) (l22_m55:Nat) (l30_m62:Nat):Option (Ctl Nat (Ctl Unit (Ctl Nat (Ctl Unit (Ctl Nat (Ctl Unit (Int×Int×Int×Bool))))))) :=
 cond (decide (((l30_m62:Nat):Int)<((x28.length:Nat):Int)))
 (Option.bind (x28[l30_m62]?) fun x36 =>
 Option.bind (y11[l14_m46]?) fun x38 =>
 Option.bind (x38.2[l22_m55]?) fun x39 =>
 Option.bind (x39[l30_m62]?) fun x40 =>
 cond (x36 !=x40)
  (some (Ctl.out (Ctl.out (Ctl.out (Ctl.out (Ctl.out (Ctl.out (((l14_m46:Nat):Int),((l22_m55:Nat):Int),((l30_m62:Nat):Int),true))))))))
  (og (l30_m62+1<4611686018427387904) <|
  some (Ctl.next (l30_m62+1))))
 (some (Ctl.out (Ctl.next ())))
def Gw (x21:Int×List (List Int)) (y11:List (Int×List (List Int))) (l14_m46:Nat) (l22_m55:Nat):Option (Ctl Nat (Ctl Unit (Ctl Nat (Ctl Unit (Int×Int×Int×Bool))))) :=
 cond (decide (((l22_m55:Nat):Int)<((x21.2.length:Nat):Int)))
 (Ix (Option.bind (x21.2[l22_m55]?) fun x28 =>
  Ay (fun s_:Nat=>G1 x28 y11 l14_m46 l22_m55 s_) 4611686018427387904 0) fun _ =>
 og (l22_m55+1<4611686018427387904) <|
 some (Ctl.next (l22_m55+1)))
 (some (Ctl.out (Ctl.next ())))
def Cd (y3:Int×Int×Int×List (List Int)×List (List Int)×List (List Int)×List (List Int)×Int×Int×Int×List (List Int)×List (List Int)×List (List Int)×List (List Int)×Bool) (y10:List (Int×List (List Int))) (y11:List (Int×List (List Int))) (l14_m46:Nat):Option (Ctl Nat (Ctl Unit (Int×Int×Int×Bool))) :=
 cond (decide (((l14_m46:Nat):Int)<wI (wI (y3.1+y3.2.2.2.2.2.2.2.1)+1)))
 (Ix (Option.bind (y10[l14_m46]?) fun x21 =>
  Ay (fun s_:Nat=>Gw x21 y11 l14_m46 s_) 4611686018427387904 0) fun _ =>
 og (l14_m46+1<4611686018427387904) <|
 some (Ctl.next (l14_m46+1)))
 (some (Ctl.out (Ctl.next ())))
def Cz (a0:Int) (a1_0:Int) (a1_1:List (Int×Int×Int×Int)) (a1_2:List Int) (a2_0:Int) (a2_1:List (Int×Int×Int×Int)) (a2_2:List Int):Option (Int×Int×Int×Bool) :=
 Option.bind (D3 a0 a1_0 a1_1 a1_2 a2_0 a2_1 a2_2) fun y3 =>
cond (!y3.2.2.2.2.2.2.2.2.2.2.2.2.2.2)
 (some (0,0,0,false))
 (Option.bind (Bx y3.1 y3.2.1 y3.2.2.1 y3.2.2.2.1 y3.2.2.2.2.1 y3.2.2.2.2.2.1 y3.2.2.2.2.2.2.1 a0 (wI (wI (y3.1+y3.2.2.2.2.2.2.2.1)+1))) fun y10 =>
 Option.bind (Bx y3.2.2.2.2.2.2.2.1 y3.2.2.2.2.2.2.2.2.1 y3.2.2.2.2.2.2.2.2.2.1 y3.2.2.2.2.2.2.2.2.2.2.1 y3.2.2.2.2.2.2.2.2.2.2.2.1 y3.2.2.2.2.2.2.2.2.2.2.2.2.1 y3.2.2.2.2.2.2.2.2.2.2.2.2.2.1 a0 (wI (wI (y3.1+y3.2.2.2.2.2.2.2.1)+1))) fun y11 =>
 Ix (Ay (fun s_:Nat=>Cd y3 y10 y11 s_) 4611686018427387904 0) fun _ =>
 some (0,0,0,false))
def Nm (r:Int×Int×Int×Bool):RV:=⟨true,[(false,[.sc (.int .i64 r.1)]),(false,[.sc (.int .i64 r.2.1)]),(false,[.sc (.int .i64 r.2.2.1)]),(false,[.sc (.bool r.2.2.2)])]⟩
set_option maxHeartbeats 1600000 in
theorem M7 {a0:Int} {a1_0:Int} {a1_1:List (Int×Int×Int×Int)} {a1_2:List Int} {a2_0:Int} {a2_1:List (Int×Int×Int×Int)} {a2_2:List Int} {r:Int×Int×Int×Bool} (h:Cz a0 a1_0 a1_1 a1_2 a2_0 a2_1 a2_2=some r):A4 Tryd.prog Tab 8 [ai a0,.agg [ai a1_0,.tree T4 a1_1,.tree .int a1_2],.agg [ai a2_0,.tree T4 a2_1,.tree .int a2_2]] (Nm r):=by
 refine A0 (by kernel_rfl) Tryd.func8 On (n:=86) (by kernel_rfl) (by simp) (tl:=[(0,ai a0),(1,.agg [ai a1_0,.tree T4 a1_1,.tree .int a1_2]),(2,.agg [ai a2_0,.tree T4 a2_1,.tree .int a2_2])]) rfl ?_;unfold Ip;unfold Cz at h;refine Al ?_;refine Ab ?_;obtain ⟨y3,h3,h⟩:=Ae h;refine Aa 20 ?_;refine rz0 (ai a0) ?_;refine rzl (.agg [ai a1_0,.tree T4 a1_1,.tree .int a1_2]) ?_;refine rzl (.agg [ai a2_0,.tree T4 a2_1,.tree .int a2_2]) ?_;refine zc (.tup [.agg [ai y3.1,ai y3.2.1,ai y3.2.2.1,.tree (.slice .int) y3.2.2.2.1,.tree (.slice .int) y3.2.2.2.2.1,.tree (.slice .int) y3.2.2.2.2.2.1,.tree (.slice .int) y3.2.2.2.2.2.2.1],.agg [ai y3.2.2.2.2.2.2.2.1,ai y3.2.2.2.2.2.2.2.2.1,ai y3.2.2.2.2.2.2.2.2.2.1,.tree (.slice .int) y3.2.2.2.2.2.2.2.2.2.2.1,.tree (.slice .int) y3.2.2.2.2.2.2.2.2.2.2.2.1,.tree (.slice .int) y3.2.2.2.2.2.2.2.2.2.2.2.2.1,.tree (.slice .int) y3.2.2.2.2.2.2.2.2.2.2.2.2.2.1],.bool y3.2.2.2.2.2.2.2.2.2.2.2.2.2.2]) [] [ai a0,.agg [ai a1_0,.tree T4 a1_1,.tree .int a1_2],.agg [ai a2_0,.tree T4 a2_1,.tree .int a2_2]] (Um h3) ?_;refine rsB 9 ?_;refine Ao (tn_ ?_);refine wr_ ?_;refine Ab ?_;refine Al ?_;rcases Ad h with ⟨q6,h⟩ | ⟨q6,h⟩
 ·refine Ag q6 ?_;refine Al ?_;refine Aj (tr_ ?_);obtain rfl:=zj h;exact Bk [ai 0,ai 0,ai 0,.bool false] (At rfl zl (At rfl zl (At rfl zl (At rfl zl A5))))
 refine Af q6 ?_;refine Ai (tn_ ?_);refine wr_ ?_;refine Al ?_;refine Ab ?_;obtain ⟨y10,h10,h⟩:=Ae h;obtain ⟨y11,h11,h⟩:=Ae h;refine A1 39 ?_;refine dzl (.agg [ai y3.1,ai y3.2.1,ai y3.2.2.1,.tree (.slice .int) y3.2.2.2.1,.tree (.slice .int) y3.2.2.2.2.1,.tree (.slice .int) y3.2.2.2.2.2.1,.tree (.slice .int) y3.2.2.2.2.2.2.1]) ?_;refine dz0 (ai a0) ?_;refine dz0 (ai (wI (wI (y3.1+y3.2.2.2.2.2.2.2.1)+1))) ?_;refine Cq (.tree (.pair .int (.slice (.slice .int))) y10) [] [.agg [ai y3.1,ai y3.2.1,ai y3.2.2.1,.tree (.slice .int) y3.2.2.2.1,.tree (.slice .int) y3.2.2.2.2.1,.tree (.slice .int) y3.2.2.2.2.2.1,.tree (.slice .int) y3.2.2.2.2.2.2.1],ai a0,ai (wI (wI (y3.1+y3.2.2.2.2.2.2.2.1)+1))] _ (caps:=[]) (args0:=[.agg [ai y3.1,ai y3.2.1,ai y3.2.2.1,.tree (.slice .int) y3.2.2.2.1,.tree (.slice .int) y3.2.2.2.2.1,.tree (.slice .int) y3.2.2.2.2.2.1,.tree (.slice .int) y3.2.2.2.2.2.2.1],ai a0,ai (wI (wI (y3.1+y3.2.2.2.2.2.2.2.1)+1))]) trivial (by kernel_rfl) (Gk h10) Gl ?_;refine dzl (.agg [ai y3.2.2.2.2.2.2.2.1,ai y3.2.2.2.2.2.2.2.2.1,ai y3.2.2.2.2.2.2.2.2.2.1,.tree (.slice .int) y3.2.2.2.2.2.2.2.2.2.2.1,.tree (.slice .int) y3.2.2.2.2.2.2.2.2.2.2.2.1,.tree (.slice .int) y3.2.2.2.2.2.2.2.2.2.2.2.2.1,.tree (.slice .int) y3.2.2.2.2.2.2.2.2.2.2.2.2.2.1]) ?_;refine dz0 (ai a0) ?_;refine dz0 (ai (wI (wI (y3.1+y3.2.2.2.2.2.2.2.1)+1))) ?_;refine Cq (.tree (.pair .int (.slice (.slice .int))) y11) [] [.agg [ai y3.2.2.2.2.2.2.2.1,ai y3.2.2.2.2.2.2.2.2.1,ai y3.2.2.2.2.2.2.2.2.2.1,.tree (.slice .int) y3.2.2.2.2.2.2.2.2.2.2.1,.tree (.slice .int) y3.2.2.2.2.2.2.2.2.2.2.2.1,.tree (.slice .int) y3.2.2.2.2.2.2.2.2.2.2.2.2.1,.tree (.slice .int) y3.2.2.2.2.2.2.2.2.2.2.2.2.2.1],ai a0,ai (wI (wI (y3.1+y3.2.2.2.2.2.2.2.1)+1))] _ (caps:=[]) (args0:=[.agg [ai y3.2.2.2.2.2.2.2.1,ai y3.2.2.2.2.2.2.2.2.1,ai y3.2.2.2.2.2.2.2.2.2.1,.tree (.slice .int) y3.2.2.2.2.2.2.2.2.2.2.1,.tree (.slice .int) y3.2.2.2.2.2.2.2.2.2.2.2.1,.tree (.slice .int) y3.2.2.2.2.2.2.2.2.2.2.2.2.1,.tree (.slice .int) y3.2.2.2.2.2.2.2.2.2.2.2.2.2.1],ai a0,ai (wI (wI (y3.1+y3.2.2.2.2.2.2.2.1)+1))]) trivial (by kernel_rfl) (Gk h11) Gl ?_;refine dz0 (.tree (.pair .int (.slice (.slice .int))) y10) ?_;refine dz0 (.tree (.pair .int (.slice (.slice .int))) y11) ?_;refine Gj (Bi (by kernel_rfl)) (tn_ ?_);refine wr_ ?_;refine C0 h (fun (_:Unit) S_=>S_=⟨Am [],Ak (An []),2⟩) ?_ ?_
 ·intro v_ h hk12;refine Al ?_;refine Ah ?_;refine Ax h (fun (l14_m46:Nat) S_=>S_=⟨Am [(14,.tree (.pair .int (.slice (.slice .int))) y10),(15,.tree (.pair .int (.slice (.slice .int))) y11),(45,ai (wI (wI (y3.1+y3.2.2.2.2.2.2.2.1)+1))),(46,ai ((l14_m46:Nat):Int))],Ak (An []),2⟩) ⟨_,Ac [],rfl⟩ ?_;rintro n_ l14_m46 _ c_ rfl h hn14
  (try dsimp only at h);unfold Cd at h;unfold G3;refine Al ?_;refine Ab ?_;rcases Ad h with ⟨q17,h⟩ | ⟨q17,h⟩
  ·have q17_:=of_decide_eq_true q17;refine Ag q17 ?_;refine Ai (tn_ ?_);refine wr_ ?_;refine C0 h (fun (_:Unit) S_=>S_=⟨Am [(14,.tree (.pair .int (.slice (.slice .int))) y10),(15,.tree (.pair .int (.slice (.slice .int))) y11),(45,ai (wI (wI (y3.1+y3.2.2.2.2.2.2.2.1)+1))),(46,ai ((l14_m46:Nat):Int))],Ak (An []),2⟩) ?_ ?_
   ·intro v_ h hk18;refine Ah ?_;refine Al ?_;refine Ab ?_;obtain ⟨x21,e21,h⟩:=Ae h;refine Aa 12 ?_;refine rz0 (.tree (.pair .int (.slice (.slice .int))) y10) ?_;refine rz0 (ai ((l14_m46:Nat):Int)) ?_;refine rs0 (.telt (.pair .int (.slice (.slice .int))) x21 0) (zi (t:=.pair .int (.slice (.slice .int))) (xs:=y10) (k:=.i64) (m:=((l14_m46:Nat):Int)) (Ba _) e21) ?_;refine rsB 4 ?_;refine Ao (tn_ ?_);refine wr_ ?_;refine Ah ?_;refine Ax h (fun (l22_m55:Nat) S_=>S_=⟨Am [(14,.tree (.pair .int (.slice (.slice .int))) y10),(15,.tree (.pair .int (.slice (.slice .int))) y11),(16,ai ((l14_m46:Nat):Int)),(45,ai (wI (wI (y3.1+y3.2.2.2.2.2.2.2.1)+1))),(46,ai ((l14_m46:Nat):Int)),(53,.tree (.slice .int) x21.2),(54,ai ((x21.2.length:Nat):Int)),(55,ai ((l22_m55:Nat):Int))],Ak (An []),2⟩) ⟨_,Ac [],rfl⟩ ?_;rintro n_ l22_m55 _ c_ rfl h hn22
    (try dsimp only at h);unfold Gw at h;unfold Gx;refine Al ?_;refine Ab ?_;rcases Ad h with ⟨q25,h⟩ | ⟨q25,h⟩
    ·have q25_:=of_decide_eq_true q25;refine Ag q25 ?_;refine Ai (tn_ ?_);refine wr_ ?_;refine C0 h (fun (_:Unit) S_=>S_=⟨Am [(14,.tree (.pair .int (.slice (.slice .int))) y10),(15,.tree (.pair .int (.slice (.slice .int))) y11),(16,ai ((l14_m46:Nat):Int)),(45,ai (wI (wI (y3.1+y3.2.2.2.2.2.2.2.1)+1))),(46,ai ((l14_m46:Nat):Int)),(53,.tree (.slice .int) x21.2),(54,ai ((x21.2.length:Nat):Int)),(55,ai ((l22_m55:Nat):Int))],Ak (An []),2⟩) ?_ ?_
     ·intro v_ h hk26;refine Ah ?_;refine Ab ?_;obtain ⟨x28,e28,h⟩:=Ae h;refine Aa 8 ?_;refine rz0 (ai ((l22_m55:Nat):Int)) ?_;refine rs0 (.telt (.slice .int) x28 0) (zi (t:=.slice .int) (xs:=x21.2) (k:=.i64) (m:=((l22_m55:Nat):Int)) (Ba _) e28) ?_;refine rsB 3 ?_;refine Ao (tn_ ?_);refine wr_ ?_;refine Al ?_;refine Ah ?_;refine Ax h (fun (l30_m62:Nat) S_=>S_=⟨Am [(14,.tree (.pair .int (.slice (.slice .int))) y10),(15,.tree (.pair .int (.slice (.slice .int))) y11),(16,ai ((l14_m46:Nat):Int)),(17,ai ((l22_m55:Nat):Int)),(45,ai (wI (wI (y3.1+y3.2.2.2.2.2.2.2.1)+1))),(46,ai ((l14_m46:Nat):Int)),(53,.tree (.slice .int) x21.2),(54,ai ((x21.2.length:Nat):Int)),(55,ai ((l22_m55:Nat):Int)),(60,.tree .int x28),(61,ai ((x28.length:Nat):Int)),(62,ai ((l30_m62:Nat):Int))],Ak (An []),2⟩) ⟨_,Ac [],rfl⟩ ?_;rintro n_ l30_m62 _ c_ rfl h hn30
      (try dsimp only at h);unfold G1 at h;unfold Gs;refine Al ?_;refine Ab ?_;rcases Ad h with ⟨q33,h⟩ | ⟨q33,h⟩
      ·have q33_:=of_decide_eq_true q33;refine Ag q33 ?_;refine Ai (tn_ ?_);refine wr_ ?_;refine Ab ?_;refine Ah ?_;refine Ab ?_;obtain ⟨x36,e36,h⟩:=Ae h;refine Aa 8 ?_;refine rz0 (ai ((l30_m62:Nat):Int)) ?_;refine rs0 (.telt .int x36 0) (zi (t:=.int) (xs:=x28) (k:=.i64) (m:=((l30_m62:Nat):Int)) (Ba _) e36) ?_;refine rsB 3 ?_;refine Ao (tn_ ?_);refine wr_ ?_;refine Ab ?_;obtain ⟨x38,e38,h⟩:=Ae h;obtain ⟨x39,e39,h⟩:=Ae h;obtain ⟨x40,e40,h⟩:=Ae h;refine Aa 21 ?_;refine rz0 (ai x36) ?_;refine rz0 (.tree (.pair .int (.slice (.slice .int))) y11) ?_;refine rz0 (ai ((l14_m46:Nat):Int)) ?_;refine rs0 (.telt (.pair .int (.slice (.slice .int))) x38 0) (zi (t:=.pair .int (.slice (.slice .int))) (xs:=y11) (k:=.i64) (m:=((l14_m46:Nat):Int)) (Ba _) e38) ?_;refine rz0 (.telt (.pair .int (.slice (.slice .int))) x38 1) ?_;refine rz0 (.tree (.slice .int) x38.2) ?_;refine rz0 (ai ((l22_m55:Nat):Int)) ?_;refine rs0 (.telt (.slice .int) x39 0) (zi (t:=.slice .int) (xs:=x38.2) (k:=.i64) (m:=((l22_m55:Nat):Int)) (Ba _) e39) ?_;refine rz0 (.tree .int x39) ?_;refine rz0 (ai ((l30_m62:Nat):Int)) ?_;refine rs0 (.telt .int x40 0) (zi (t:=.int) (xs:=x39) (k:=.i64) (m:=((l30_m62:Nat):Int)) (Ba _) e40) ?_;refine rsB 2 ?_;refine Ao (tn_ ?_);refine wr_ ?_;rcases Ad h with ⟨q41,h⟩ | ⟨q41,h⟩
       ·refine Ag q41 ?_;refine Al ?_;refine Aj (br_ (tr_ (tr_ (br_ (br_ (tr_ (tr_ (br_ (br_ (tr_ (tr_ (br_ (tr_ ?_)))))))))))));obtain rfl:=zj h;have h:=hn30
        (try dsimp only at h);obtain rfl:=zj h;have h:=hk26
        (try dsimp only at h);obtain rfl:=zj h;have h:=hn22
        (try dsimp only at h);obtain rfl:=zj h;have h:=hk18
        (try dsimp only at h);obtain rfl:=zj h;have h:=hn14
        (try dsimp only at h);obtain rfl:=zj h;have h:=hk12
        (try dsimp only at h);obtain rfl:=zj h;exact Bk [ai ((l14_m46:Nat):Int),ai ((l22_m55:Nat):Int),ai ((l30_m62:Nat):Int),.bool true] (At rfl zl (At rfl zl (At rfl zl (At rfl zl A5))))
       refine Af q41 ?_;refine Ai (bn_ (tn_ ?_));refine wr_ ?_;obtain ⟨g43,h⟩:=Aq h;refine Aa 23 ?_;refine rs0 (ai ((l30_m62+1:Nat):Int)) (za g43) ?_;refine rsB 1 ?_;refine Ao (tn_ ?_);obtain rfl:=zj h;exact ⟨l30_m62+1,_,Ac [],rfl,hn30⟩
      have q33_:=of_decide_eq_false q33;refine Af q33 ?_;refine Av (te_ (te_ (be_ (bn_ (tn_ ?_)))));obtain rfl:=zj h;have h:=hn30
      (try dsimp only at h);obtain rfl:=zj h;exact ⟨(),_,rfl,Ac [],rfl⟩
     rintro _ _ rfl h
     (try dsimp only at h);obtain ⟨g44,h⟩:=Aq h;refine Aa 4 ?_;refine rs0 (ai ((l22_m55+1:Nat):Int)) (za g44) ?_;refine rsB 1 ?_;refine Ao (tn_ ?_);obtain rfl:=zj h;exact ⟨l22_m55+1,_,Ac [],rfl,hn22⟩
    have q25_:=of_decide_eq_false q25;refine Af q25 ?_;refine Av (te_ (te_ (be_ (bn_ (tn_ ?_)))));obtain rfl:=zj h;have h:=hn22
    (try dsimp only at h);obtain rfl:=zj h;exact ⟨(),_,rfl,Ac [],rfl⟩
   rintro _ _ rfl h
   (try dsimp only at h);obtain ⟨g45,h⟩:=Aq h;refine Aa 4 ?_;refine rs0 (ai ((l14_m46+1:Nat):Int)) (za g45) ?_;refine rsB 1 ?_;refine Ao (tn_ ?_);obtain rfl:=zj h;exact ⟨l14_m46+1,_,Ac [],rfl,hn14⟩
  have q17_:=of_decide_eq_false q17;refine Af q17 ?_;refine Av (te_ (te_ (be_ (tn_ ?_))));obtain rfl:=zj h;have h:=hn14
  (try dsimp only at h);obtain rfl:=zj h;exact ⟨(),_,rfl,Ac [],rfl⟩
 rintro _ _ rfl h
 (try dsimp only at h);refine Al ?_;refine Aj ?_;obtain rfl:=zj h;exact Bk [ai 0,ai 0,ai 0,.bool false] (At rfl zl (At rfl zl (At rfl zl (At rfl zl A5))))
def Fk:AC :=
 (.seq (rg [xo 4 (.i (.box 25 (tm 1))),xo 5 (.i (.box 25 (tm 2))),xo 6 (qm (cb false))])
 (.seq (rg [xo 7 (qm (ci 1048576))])
 (.seq (rg [xo 18 (.i (.ld false 3 (tm 4))),xo 19 (qm (tm 7)),⟨some 20,none,qc 5 [tm 18,tm 19] [[none,some T4,some .int],[]]⟩,xo 7 (qm (tm 20))])
 (.seq (.seq (rg [xo 21 (qm (tm 7)),xo 22 (qb .lss (tm 21) (ci 0))])
 (.cond (tm 22)
  (.seq (rg [xo 6 (qm (cb true))])
  .ret)
  .skip))
 (.seq (rg [xo 23 (.i (.ld false 3 (tm 5))),xo 24 (qm (tm 7)),⟨some 25,none,qc 5 [tm 23,tm 24] [[none,some T4,some .int],[]]⟩,xo 7 (qm (tm 25))])
 (.seq (.seq (rg [xo 26 (qm (tm 7)),xo 27 (qb .lss (tm 26) (ci 0))])
 (.cond (tm 27)
  (.seq (rg [xo 6 (qm (cb true))])
  .ret)
  .skip))
 (.seq (.region [xo 29 (qm (tm 0)),xo 30 (.i (.ld false 3 (tm 4))),⟨some 31,none,qc 7 [tm 30] [[none,some T4,some .int]]⟩,xo 32 (.i (.ld false 3 (tm 5))),⟨some 33,none,qc 7 [tm 32] [[none,some T4,some .int]]⟩,⟨some 34,none,qc 6 [tm 29,tm 31,tm 33] [[],[none,some T4,some .int],[none,some T4,some .int]]⟩,xo 28 (qm (tm 34)),xo 35 (.i (.extr 0 (tm 28))),xo 36 (.i (.extr 1 (tm 28))),xo 37 (.i (.extr 2 (tm 28))),xo 38 (.i (.extr 3 (tm 28))),xo 8 (qm (tm 35)),xo 9 (qm (tm 36)),xo 10 (qm (tm 37)),xo 11 (qm (tm 38))] true [(2,3)])
 (.seq (rg [xo 39 (.i (.ld false 3 (tm 4))),⟨some 40,none,qc 7 [tm 39] [[none,some T4,some .int]]⟩,xo 12 (.i (.alloc 31 [.int .i64 0,.nils,.nils])),xn (.st false 3 (tm 12) (tm 40))])
 (.seq (rg [xo 41 (.i (.ld false 3 (tm 5))),⟨some 42,none,qc 7 [tm 41] [[none,some T4,some .int]]⟩,xo 13 (.i (.alloc 31 [.int .i64 0,.nils,.nils])),xn (.st false 3 (tm 13) (tm 42))])
 (.seq (rg [xo 44 (qm (tm 0)),xo 45 (.i (.ld false 3 (tm 12))),xo 46 (.i (.ld false 3 (tm 13))),⟨some 47,none,qc 8 [tm 44,tm 45,tm 46] [[],[none,some T4,some .int],[none,some T4,some .int]]⟩,xo 43 (qm (tm 47)),xo 48 (.i (.extr 0 (tm 43))),xo 49 (.i (.extr 1 (tm 43))),xo 50 (.i (.extr 2 (tm 43))),xo 51 (.i (.extr 3 (tm 43))),xo 14 (qm (tm 48)),xo 15 (qm (tm 49)),xo 16 (qm (tm 50)),xo 17 (qm (tm 51))])
 (.seq (.seq (rg [xo 52 (qm (tm 14)),xo 53 (qm (tm 8)),xo 54 (qb .neq (tm 52) (tm 53)),xo 55 (qm (tm 54)),⟨some 56,some (55,false),qm (tm 15)⟩,⟨some 57,some (55,false),qm (tm 9)⟩,⟨some 58,some (55,false),qb .neq (tm 56) (tm 57)⟩,xo 59 (.i (.pick (tm 55) (cb true) (tm 58))),xo 60 (qm (tm 59)),⟨some 61,some (60,false),qm (tm 16)⟩,⟨some 62,some (60,false),qm (tm 10)⟩,⟨some 63,some (60,false),qb .neq (tm 61) (tm 62)⟩,xo 64 (.i (.pick (tm 60) (cb true) (tm 63))),xo 65 (qm (tm 64)),⟨some 66,some (65,false),qm (tm 17)⟩,⟨some 67,some (65,false),qm (tm 11)⟩,⟨some 68,some (65,false),.i (.cmp true 0 (tm 66) (tm 67))⟩,xo 69 (.i (.pick (tm 65) (cb true) (tm 68)))])
 (.cond (tm 69)
  (.seq (rg [xo 6 (qm (cb false))])
  .ret)
  .skip))
 (.seq (.seq (.region [xo 70 (.i (.ld false 3 (tm 12))),xo 71 (.i (.ld false 3 (tm 4))),⟨some 72,none,qc 7 [tm 71] [[none,some T4,some .int]]⟩,⟨some 73,none,qc 9 [tm 70,tm 72] [[none,some T4,some .int],[none,some T4,some .int]]⟩,xo 74 (.i (.not (tm 73)))] true [(0,2)])
 (.cond (tm 74)
  (.seq (rg [xo 6 (qm (cb false))])
  .ret)
  .skip))
 (.seq (.seq (.region [xo 75 (.i (.ld false 3 (tm 13))),xo 76 (.i (.ld false 3 (tm 5))),⟨some 77,none,qc 7 [tm 76] [[none,some T4,some .int]]⟩,⟨some 78,none,qc 9 [tm 75,tm 77] [[none,some T4,some .int],[none,some T4,some .int]]⟩,xo 79 (.i (.not (tm 78)))] true [(0,2)])
 (.cond (tm 79)
  (.seq (rg [xo 6 (qm (cb false))])
  .ret)
  .skip))
 (.seq (rg [xo 6 (qm (cb true))])
 .ret))))))))))))))
def Ju:List Res:=[.tmp 6]
theorem Jr:Ar Tryd.prog Tryd.f3=some (Fk,Ju):=by kernel_rfl
def Bw (a0:Int) (a1_0:Int) (a1_1:List (Int×Int×Int×Int)) (a1_2:List Int) (a2_0:Int) (a2_1:List (Int×Int×Int×Int)) (a2_2:List Int):Option Bool :=
 Option.bind (Dr a1_0 a1_1 a1_2 1048576) fun y4 =>
cond (decide (y4<0))
 (some true)
 (Option.bind (Dr a2_0 a2_1 a2_2 y4) fun y10 =>
 cond (decide (y10<0))
  (some true)
  (Option.bind (Bz a1_0 a1_1 a1_2) fun y16 =>
  Option.bind (Bz a2_0 a2_1 a2_2) fun y17 =>
  Option.bind (Cy a0 y16.1 y16.2.1 y16.2.2 y17.1 y17.2.1 y17.2.2) fun y18 =>
  Option.bind (Bz a1_0 a1_1 a1_2) fun y20 =>
  Option.bind (Bz a2_0 a2_1 a2_2) fun y22 =>
  Option.bind (Cz a0 y20.1 y20.2.1 y20.2.2 y22.1 y22.2.1 y22.2.2) fun y24 =>
  Option.bind (cond (y24.1 !=y18.1)
    (some true)
    (cond (y24.2.1 !=y18.2.1)
     (some true)
     (cond (y24.2.2.1 !=y18.2.2.1)
      (some true)
      (some (y24.2.2.2 !=y18.2.2.2))))) fun l26_m69 =>
  cond l26_m69
   (some false)
   (Option.bind (Bz a1_0 a1_1 a1_2) fun y34 =>
   Option.bind (Du y20.1 y20.2.1 y20.2.2 y34.1 y34.2.1 y34.2.2) fun y35 =>
   cond (!y35)
    (some false)
    (Option.bind (Bz a2_0 a2_1 a2_2) fun y40 =>
    Option.bind (Du y22.1 y22.2.1 y22.2.2 y40.1 y40.2.1 y40.2.2) fun y41 =>
    cond (!y41)
     (some false)
     (some true)))))
def Jf (r:Bool):RV:=⟨false,[(false,[.sc (.bool r)])]⟩
set_option maxHeartbeats 1600000 in
theorem Jb {a0:Int} {a1_0:Int} {a1_1:List (Int×Int×Int×Int)} {a1_2:List Int} {a2_0:Int} {a2_1:List (Int×Int×Int×Int)} {a2_2:List Int} {r:Bool} (h:Bw a0 a1_0 a1_1 a1_2 a2_0 a2_1 a2_2=some r):A4 Tryd.prog Tab 3 [ai a0,.agg [ai a1_0,.tree T4 a1_1,.tree .int a1_2],.agg [ai a2_0,.tree T4 a2_1,.tree .int a2_2]] (Jf r):=by
 refine A0 (by kernel_rfl) Tryd.func3 Jr (n:=80) (by kernel_rfl) (by simp) (tl:=[(0,ai a0),(1,.agg [ai a1_0,.tree T4 a1_1,.tree .int a1_2]),(2,.agg [ai a2_0,.tree T4 a2_1,.tree .int a2_2])]) rfl ?_;unfold Fk;unfold Bw at h;refine Al ?_;refine Al ?_;refine Ab ?_;obtain ⟨y4,h4,h⟩:=Ae h;refine Aa 9 ?_;refine rzl (.agg [ai a1_0,.tree T4 a1_1,.tree .int a1_2]) ?_;refine rz0 (ai 1048576) ?_;refine zc (ai y4) [] [.agg [ai a1_0,.tree T4 a1_1,.tree .int a1_2],ai 1048576] (Ln h4) ?_;refine rsB 1 ?_;refine Ao (tn_ ?_);refine wr_ ?_;refine Ab ?_;refine Al ?_;rcases Ad h with ⟨q7,h⟩ | ⟨q7,h⟩
 ·have q7_:=of_decide_eq_true q7;refine Ag q7 ?_;refine Al ?_;refine Aj (tr_ ?_);obtain rfl:=zj h;exact Bk [.bool true] (At rfl zl A5)
 have q7_:=of_decide_eq_false q7;refine Af q7 ?_;refine Ai (tn_ ?_);refine wr_ ?_;refine Ab ?_;obtain ⟨y10,h10,h⟩:=Ae h;refine Aa 15 ?_;refine rzl (.agg [ai a2_0,.tree T4 a2_1,.tree .int a2_2]) ?_;refine rz0 (ai y4) ?_;refine zc (ai y10) [] [.agg [ai a2_0,.tree T4 a2_1,.tree .int a2_2],ai y4] (Ln h10) ?_;refine rsB 1 ?_;refine Ao (tn_ ?_);refine wr_ ?_;refine Ab ?_;refine Al ?_;rcases Ad h with ⟨q13,h⟩ | ⟨q13,h⟩
 ·have q13_:=of_decide_eq_true q13;refine Ag q13 ?_;refine Al ?_;refine Aj (tr_ ?_);obtain rfl:=zj h;exact Bk [.bool true] (At rfl zl A5)
 have q13_:=of_decide_eq_false q13;refine Af q13 ?_;refine Ai (tn_ ?_);refine wr_ ?_;refine Ab ?_;obtain ⟨y16,h16,h⟩:=Ae h;obtain ⟨y17,h17,h⟩:=Ae h;obtain ⟨y18,h18,h⟩:=Ae h;refine A1 32 ?_;refine dz0 (ai a0) ?_;refine dzl (.agg [ai a1_0,.tree T4 a1_1,.tree .int a1_2]) ?_;refine Cq (.agg [ai y16.1,.own (oi 496 19) T4 0 y16.2.1.length,.own (oi 497 19) .int 0 y16.2.2.length]) [(oi 496 19,some (.arr 59 T4 y16.2.1)),(oi 497 19,some (.arr 3 .int y16.2.2))] [.agg [ai a1_0,.tree T4 a1_1,.tree .int a1_2]] _ (caps:=[]) (args0:=[.agg [ai a1_0,.tree T4 a1_1,.tree .int a1_2]]) trivial (by kernel_rfl) (Dg h16) F0 ?_;refine dzl (.agg [ai a2_0,.tree T4 a2_1,.tree .int a2_2]) ?_;refine Cq (.agg [ai y17.1,.own (oi 528 21) T4 0 y17.2.1.length,.own (oi 529 21) .int 0 y17.2.2.length]) [(oi 528 21,some (.arr 59 T4 y17.2.1)),(oi 529 21,some (.arr 3 .int y17.2.2))] [.agg [ai a2_0,.tree T4 a2_1,.tree .int a2_2]] _ (caps:=[]) (args0:=[.agg [ai a2_0,.tree T4 a2_1,.tree .int a2_2]]) trivial (by kernel_rfl) (Dg h17) F0 ?_;refine Cq (.tup [ai y18.1,ai y18.2.1,ai y18.2.2.1,.bool y18.2.2.2]) [] [ai a0,.agg [ai y16.1,.own (oi 496 19) T4 0 y16.2.1.length,.own (oi 497 19) .int 0 y16.2.2.length],.agg [ai y17.1,.own (oi 528 21) T4 0 y17.2.1.length,.own (oi 529 21) .int 0 y17.2.2.length]] _ (caps:=[]) (args0:=[ai a0,.agg [ai y16.1,.tree T4 y16.2.1,.tree .int y16.2.2],.agg [ai y17.1,.tree T4 y17.2.1,.tree .int y17.2.2]]) trivial (Aw (by kernel_rfl) (Aw (Pa (Aw (by kernel_rfl) (Aw (B1 (e:=59) (by kernel_rfl) rfl) (Aw (B1 (e:=3) (by kernel_rfl) rfl) Cw)))) (Aw (Pa (Aw (by kernel_rfl) (Aw (B1 (e:=59) (by kernel_rfl) rfl) (Aw (B1 (e:=3) (by kernel_rfl) rfl) Cw)))) Cw))) (Nq h18) Nr ?_;refine dz0 (.tup [ai y18.1,ai y18.2.1,ai y18.2.2.1,.bool y18.2.2.2]) ?_;refine dz0 (ai y18.1) ?_;refine dz0 (ai y18.2.1) ?_;refine dz0 (ai y18.2.2.1) ?_;refine dz0 (.bool y18.2.2.2) ?_;refine dz0 (ai y18.1) ?_;refine dz0 (ai y18.2.1) ?_;refine dz0 (ai y18.2.2.1) ?_;refine dz0 (.bool y18.2.2.2) ?_;refine Gj (Bi (by kernel_rfl)) (tn_ ?_);refine wr_ ?_;refine Ab ?_;obtain ⟨y20,h20,h⟩:=Ae h;refine Aa 36 ?_;refine rzl (.agg [ai a1_0,.tree T4 a1_1,.tree .int a1_2]) ?_;refine zc (.agg [ai y20.1,.own (oi 640 33) T4 0 y20.2.1.length,.own (oi 641 33) .int 0 y20.2.2.length]) [(oi 640 33,some (.arr 59 T4 y20.2.1)),(oi 641 33,some (.arr 3 .int y20.2.2))] [.agg [ai a1_0,.tree T4 a1_1,.tree .int a1_2]] (Dg h20) ?_;refine rsB 2 ?_;refine Ao (tn_ ?_);refine wr_ ?_;refine Ab ?_;obtain ⟨y22,h22,h⟩:=Ae h;refine Aa 40 ?_;refine rzl (.agg [ai a2_0,.tree T4 a2_1,.tree .int a2_2]) ?_;refine zc (.agg [ai y22.1,.own (oi 672 37) T4 0 y22.2.1.length,.own (oi 673 37) .int 0 y22.2.2.length]) [(oi 672 37,some (.arr 59 T4 y22.2.1)),(oi 673 37,some (.arr 3 .int y22.2.2))] [.agg [ai a2_0,.tree T4 a2_1,.tree .int a2_2]] (Dg h22) ?_;refine rsB 2 ?_;refine Ao (tn_ ?_);refine wr_ ?_;refine Ab ?_;obtain ⟨y24,h24,h⟩:=Ae h;refine Aa 53 ?_;refine rz0 (ai a0) ?_;refine rzl (.agg [ai y20.1,.own (oi 640 33) T4 0 y20.2.1.length,.own (oi 641 33) .int 0 y20.2.2.length]) ?_;refine rzl (.agg [ai y22.1,.own (oi 672 37) T4 0 y22.2.1.length,.own (oi 673 37) .int 0 y22.2.2.length]) ?_;refine Bh (.tup [ai y24.1,ai y24.2.1,ai y24.2.2.1,.bool y24.2.2.2]) [] [ai a0,.agg [ai y20.1,.own (oi 640 33) T4 0 y20.2.1.length,.own (oi 641 33) .int 0 y20.2.2.length],.agg [ai y22.1,.own (oi 672 37) T4 0 y22.2.1.length,.own (oi 673 37) .int 0 y22.2.2.length]] _ (caps:=[]) (args0:=[ai a0,.agg [ai y20.1,.tree T4 y20.2.1,.tree .int y20.2.2],.agg [ai y22.1,.tree T4 y22.2.1,.tree .int y22.2.2]]) trivial (Aw (by kernel_rfl) (Aw (Pa (Aw (by kernel_rfl) (Aw (B1 (e:=59) (by kernel_rfl) rfl) (Aw (B1 (e:=3) (by kernel_rfl) rfl) Cw)))) (Aw (Pa (Aw (by kernel_rfl) (Aw (B1 (e:=59) (by kernel_rfl) rfl) (Aw (B1 (e:=3) (by kernel_rfl) rfl) Cw)))) Cw))) (M7 h24) Ns ?_;refine rsB 9 ?_;refine Ao (tn_ ?_);refine wr_ ?_;refine Ab ?_;refine As h (fun (l26_m69:Bool) S_=>S_=⟨Am [(4,.box (oi 0 1) 0),(5,.box (oi 1 1) 0),(12,.box (oi 2 1) 0),(13,.box (oi 3 1) 0),(69,.bool l26_m69)],Ak (An [(oi 0 1,.cells 25 [ai a1_0,.tree T4 a1_1,.tree .int a1_2]),(oi 1 1,.cells 25 [ai a2_0,.tree T4 a2_1,.tree .int a2_2]),(oi 2 1,.cells 31 [ai y20.1,.own (oi 4 1) T4 0 y20.2.1.length,.own (oi 5 1) .int 0 y20.2.2.length]),(oi 3 1,.cells 31 [ai y22.1,.own (oi 6 1) T4 0 y22.2.1.length,.own (oi 7 1) .int 0 y22.2.2.length]),(oi 4 1,.arr 59 T4 y20.2.1),(oi 5 1,.arr 3 .int y20.2.2),(oi 6 1,.arr 59 T4 y22.2.1),(oi 7 1,.arr 3 .int y22.2.2)]),2⟩) ?_ ?_
 ·intro v_ h;rcases Ad h with ⟨q27,h⟩ | ⟨q27,h⟩
  ·refine Aa 71 ?_;refine rz0 (ai y24.1) ?_;refine rz0 (ai y18.1) ?_;refine rz0 (.bool (y24.1 !=y18.1)) ?_;refine rz0 (.bool (y24.1 !=y18.1)) ?_;refine zs q27 ?_;refine zs q27 ?_;refine zs q27 ?_;refine rs0 (.bool true) (zT q27) ?_;refine rsB 10 ?_;refine Ao (tn_ ?_);obtain rfl:=zj h;exact ⟨_,Ac [(oi 0 1,oi 4 1),(oi 1 1,oi 5 2),(oi 2 1,oi 12 34),(oi 4 1,oi 640 33),(oi 5 1,oi 641 33),(oi 3 1,oi 13 38),(oi 6 1,oi 672 37),(oi 7 1,oi 673 37)],rfl⟩
  rcases Ad h with ⟨q28,h⟩ | ⟨q28,h⟩
  ·refine Aa 71 ?_;refine rz0 (ai y24.1) ?_;refine rz0 (ai y18.1) ?_;refine rz0 (.bool (y24.1 !=y18.1)) ?_;refine rz0 (.bool (y24.1 !=y18.1)) ?_;refine rs0 (ai y24.2.1) (zg q27) ?_;refine rs0 (ai y18.2.1) (zg q27) ?_;refine rs0 (.bool (y24.2.1 !=y18.2.1)) (zg q27) ?_;refine rs0 (.bool (y24.2.1 !=y18.2.1)) (zF q27) ?_;refine rz0 (.bool (y24.2.1 !=y18.2.1)) ?_;refine zs q28 ?_;refine zs q28 ?_;refine zs q28 ?_;refine rs0 (.bool true) (zT q28) ?_;refine rsB 5 ?_;refine Ao (tn_ ?_);obtain rfl:=zj h;exact ⟨_,Ac [(oi 0 1,oi 4 1),(oi 1 1,oi 5 2),(oi 2 1,oi 12 34),(oi 4 1,oi 640 33),(oi 5 1,oi 641 33),(oi 3 1,oi 13 38),(oi 6 1,oi 672 37),(oi 7 1,oi 673 37)],rfl⟩
  rcases Ad h with ⟨q29,h⟩ | ⟨q29,h⟩
  ·refine Aa 71 ?_;refine rz0 (ai y24.1) ?_;refine rz0 (ai y18.1) ?_;refine rz0 (.bool (y24.1 !=y18.1)) ?_;refine rz0 (.bool (y24.1 !=y18.1)) ?_;refine rs0 (ai y24.2.1) (zg q27) ?_;refine rs0 (ai y18.2.1) (zg q27) ?_;refine rs0 (.bool (y24.2.1 !=y18.2.1)) (zg q27) ?_;refine rs0 (.bool (y24.2.1 !=y18.2.1)) (zF q27) ?_;refine rz0 (.bool (y24.2.1 !=y18.2.1)) ?_;refine rs0 (ai y24.2.2.1) (zg q28) ?_;refine rs0 (ai y18.2.2.1) (zg q28) ?_;refine rs0 (.bool (y24.2.2.1 !=y18.2.2.1)) (zg q28) ?_;refine rs0 (.bool (y24.2.2.1 !=y18.2.2.1)) (zF q28) ?_;refine rz0 (.bool (y24.2.2.1 !=y18.2.2.1)) ?_;refine zs q29 ?_;refine zs q29 ?_;refine zs q29 ?_;refine rs0 (.bool true) (zT q29) ?_;refine Ao (tn_ ?_);obtain rfl:=zj h;exact ⟨_,Ac [(oi 0 1,oi 4 1),(oi 1 1,oi 5 2),(oi 2 1,oi 12 34),(oi 4 1,oi 640 33),(oi 5 1,oi 641 33),(oi 3 1,oi 13 38),(oi 6 1,oi 672 37),(oi 7 1,oi 673 37)],rfl⟩
  refine Aa 71 ?_;refine rz0 (ai y24.1) ?_;refine rz0 (ai y18.1) ?_;refine rz0 (.bool (y24.1 !=y18.1)) ?_;refine rz0 (.bool (y24.1 !=y18.1)) ?_;refine rs0 (ai y24.2.1) (zg q27) ?_;refine rs0 (ai y18.2.1) (zg q27) ?_;refine rs0 (.bool (y24.2.1 !=y18.2.1)) (zg q27) ?_;refine rs0 (.bool (y24.2.1 !=y18.2.1)) (zF q27) ?_;refine rz0 (.bool (y24.2.1 !=y18.2.1)) ?_;refine rs0 (ai y24.2.2.1) (zg q28) ?_;refine rs0 (ai y18.2.2.1) (zg q28) ?_;refine rs0 (.bool (y24.2.2.1 !=y18.2.2.1)) (zg q28) ?_;refine rs0 (.bool (y24.2.2.1 !=y18.2.2.1)) (zF q28) ?_;refine rz0 (.bool (y24.2.2.1 !=y18.2.2.1)) ?_;refine rs0 (.bool y24.2.2.2) (zg q29) ?_;refine rs0 (.bool y18.2.2.2) (zg q29) ?_;refine rs0 (.bool (y24.2.2.2 !=y18.2.2.2)) (zg q29) ?_;refine rs0 (.bool (y24.2.2.2 !=y18.2.2.2)) (zF q29) ?_;refine Ao (tn_ ?_);obtain rfl:=zj h;exact ⟨_,Ac [(oi 0 1,oi 4 1),(oi 1 1,oi 5 2),(oi 2 1,oi 12 34),(oi 4 1,oi 640 33),(oi 5 1,oi 641 33),(oi 3 1,oi 13 38),(oi 6 1,oi 672 37),(oi 7 1,oi 673 37)],rfl⟩
 rintro l26_m69 _ rfl h
 (try dsimp only at h);rcases Ad h with ⟨q30,h⟩ | ⟨q30,h⟩
 ·refine Ag q30 ?_;refine Al ?_;refine Aj (tr_ ?_);obtain rfl:=zj h;exact Bk [.bool false] (At rfl zl A5)
 refine Af q30 ?_;refine Ai (tn_ ?_);refine wr_ ?_;refine Ab ?_;refine Ab ?_;obtain ⟨y34,h34,h⟩:=Ae h;obtain ⟨y35,h35,h⟩:=Ae h;refine A1 7 ?_;refine dzl (.agg [ai y20.1,.own (oi 4 1) T4 0 y20.2.1.length,.own (oi 5 1) .int 0 y20.2.2.length]) ?_;refine dzl (.agg [ai a1_0,.tree T4 a1_1,.tree .int a1_2]) ?_;refine Cq (.agg [ai y34.1,.own (oi 1152 4) T4 0 y34.2.1.length,.own (oi 1153 4) .int 0 y34.2.2.length]) [(oi 1152 4,some (.arr 59 T4 y34.2.1)),(oi 1153 4,some (.arr 3 .int y34.2.2))] [.agg [ai a1_0,.tree T4 a1_1,.tree .int a1_2]] _ (caps:=[]) (args0:=[.agg [ai a1_0,.tree T4 a1_1,.tree .int a1_2]]) trivial (by kernel_rfl) (Dg h34) F0 ?_;refine Cq (.bool y35) [] [.agg [ai y20.1,.own (oi 4 1) T4 0 y20.2.1.length,.own (oi 5 1) .int 0 y20.2.2.length],.agg [ai y34.1,.own (oi 1152 4) T4 0 y34.2.1.length,.own (oi 1153 4) .int 0 y34.2.2.length]] _ (caps:=[]) (args0:=[.agg [ai y20.1,.tree T4 y20.2.1,.tree .int y20.2.2],.agg [ai y34.1,.tree T4 y34.2.1,.tree .int y34.2.2]]) trivial (Aw (Pa (Aw (by kernel_rfl) (Aw (B1 (e:=59) (by kernel_rfl) rfl) (Aw (B1 (e:=3) (by kernel_rfl) rfl) Cw)))) (Aw (Pa (Aw (by kernel_rfl) (Aw (B1 (e:=59) (by kernel_rfl) rfl) (Aw (B1 (e:=3) (by kernel_rfl) rfl) Cw)))) Cw)) (Lc h35) Lo ?_;refine dz0 (.bool (!y35)) ?_;refine Gj (Bi (by kernel_rfl)) (tn_ ?_);refine wr_ ?_;rcases Ad h with ⟨q36,h⟩ | ⟨q36,h⟩
 ·refine Ag q36 ?_;refine Al ?_;refine Aj (tr_ ?_);obtain rfl:=zj h;exact Bk [.bool false] (At rfl zl A5)
 refine Af q36 ?_;refine Ai (tn_ ?_);refine wr_ ?_;refine Ab ?_;refine Ab ?_;obtain ⟨y40,h40,h⟩:=Ae h;obtain ⟨y41,h41,h⟩:=Ae h;refine A1 12 ?_;refine dzl (.agg [ai y22.1,.own (oi 6 1) T4 0 y22.2.1.length,.own (oi 7 1) .int 0 y22.2.2.length]) ?_;refine dzl (.agg [ai a2_0,.tree T4 a2_1,.tree .int a2_2]) ?_;refine Cq (.agg [ai y40.1,.own (oi 1232 9) T4 0 y40.2.1.length,.own (oi 1233 9) .int 0 y40.2.2.length]) [(oi 1232 9,some (.arr 59 T4 y40.2.1)),(oi 1233 9,some (.arr 3 .int y40.2.2))] [.agg [ai a2_0,.tree T4 a2_1,.tree .int a2_2]] _ (caps:=[]) (args0:=[.agg [ai a2_0,.tree T4 a2_1,.tree .int a2_2]]) trivial (by kernel_rfl) (Dg h40) F0 ?_;refine Cq (.bool y41) [] [.agg [ai y22.1,.own (oi 6 1) T4 0 y22.2.1.length,.own (oi 7 1) .int 0 y22.2.2.length],.agg [ai y40.1,.own (oi 1232 9) T4 0 y40.2.1.length,.own (oi 1233 9) .int 0 y40.2.2.length]] _ (caps:=[]) (args0:=[.agg [ai y22.1,.tree T4 y22.2.1,.tree .int y22.2.2],.agg [ai y40.1,.tree T4 y40.2.1,.tree .int y40.2.2]]) trivial (Aw (Pa (Aw (by kernel_rfl) (Aw (B1 (e:=59) (by kernel_rfl) rfl) (Aw (B1 (e:=3) (by kernel_rfl) rfl) Cw)))) (Aw (Pa (Aw (by kernel_rfl) (Aw (B1 (e:=59) (by kernel_rfl) rfl) (Aw (B1 (e:=3) (by kernel_rfl) rfl) Cw)))) Cw)) (Lc h41) Lo ?_;refine dz0 (.bool (!y41)) ?_;refine Gj (Bi (by kernel_rfl)) (tn_ ?_);refine wr_ ?_;rcases Ad h with ⟨q42,h⟩ | ⟨q42,h⟩
 ·refine Ag q42 ?_;refine Al ?_;refine Aj (tr_ ?_);obtain rfl:=zj h;exact Bk [.bool false] (At rfl zl A5)
 refine Af q42 ?_;refine Ai (tn_ ?_);refine wr_ ?_;refine Al ?_;refine Aj ?_;obtain rfl:=zj h;exact Bk [.bool true] (At rfl zl A5)
end
section
section
variable {α β σ ρ:Type}
theorem Abx {body:σ->Option (Ctl σ ρ)} {Post:ρ->Prop} (n:Nat) (I:Nat->σ->Prop)
  (hs:∀ i s,i<n->I i s->(∃ s',body s=some (.next s')∧I (i+1) s')∨∃ r,body s=some (.out r)∧Post r) (he:∀ s,I n s->∃ r,body s=some (.out r)∧Post r) :
  ∀ (F k:Nat) (s:σ),k<=n->n - k<F->I k s->∃ r,Ay body F s=some r∧Post r
 | 0,_,_,_,h,_=>by omega
 | F+1,k,s,hk,h,hi=>by
  have key:(∃ r,body s=some (.out r)∧Post r)->∃ r,Ay body (F+1) s=some r∧Post r:=by
   rintro ⟨r,h1,h2⟩;exact ⟨r,by simp only [Ay,h1,obs,Ctl.then],h2⟩
  rcases Nat.lt_or_ge k n with hlt | hge
  ·rcases hs k s hlt hi with ⟨s',h1,h2⟩ | h
   ·obtain ⟨r,h3,h4⟩:=Abx n I hs he F (k+1) s' hlt (by omega) h2;exact ⟨r,by simp only [Ay,h1,obs,Ctl.then]; exact h3,h4⟩
   ·exact key h
  ·obtain rfl:k=n:=by omega
   exact key (he s hi)
theorem Hn {body:σ->Option (Ctl σ ρ)} {Post:ρ->Prop} (n:Nat) (I:Nat->σ->Prop) {F:Nat} (hn:n<F) {s0:σ} (h0:I 0 s0)
  (hs:∀ i s,i<n->I i s->(∃ s',body s=some (.next s')∧I (i+1) s')∨∃ r,body s=some (.out r)∧Post r) (he:∀ s,I n s->∃ r,body s=some (.out r)∧Post r):∃ r,Ay body F s0=some r∧Post r :=
 Abx n I hs he F 0 s0 (Nat.zero_le _) (by omega) h0
theorem Sg {body:σ->Option (Ctl σ ρ)} (n:Nat) (I:Nat->σ->Prop) {F:Nat} (hn:n<F) {s0:σ} (r:ρ) (h0:I 0 s0)
  (hs:∀ i s,i<n->I i s->(∃ s',body s=some (.next s')∧I (i+1) s')∨body s=some (.out r)) (he:∀ s,I n s->body s=some (.out r)):Ay body F s0=some r:=by
 obtain ⟨r',h1,rfl⟩:=Hn (Post:=fun r'=>r'=r) n I hn h0 (fun i s hi hI=>(hs i s hi hI).imp id fun h=>⟨r,h,rfl⟩) (fun s h=>⟨r,he s h,rfl⟩);exact h1
theorem Bu {body:σ->Option (Ctl σ ρ)} (n:Nat) (S:Nat->σ) {F:Nat} (hn:n<F) {s0:σ} (r:ρ) (h0:s0=S 0) (hs:∀ i,i<n->body (S i)=some (.next (S (i+1)))) (he:body (S n)=some (.out r)):Ay body F s0=some r:=by
 subst h0;refine Sg n (fun i s=>s=S i) hn r rfl (fun i s hi e=>.inl ?_) (fun s e=>by subst e; exact he);subst e;exact ⟨_,hs i hi,rfl⟩
theorem Qd {body:Nat->Option (Ctl Nat ρ)} (xs:List α) (q:α->Bool) (good bad:ρ) {F:Nat} (hn:xs.length<F) (hs:∀ i x,xs[i]? =some x->body i=some (if q x then .next (i+1) else .out bad)) (he:body xs.length=some (.out good)):Ay body F 0=some (if xs.all q then good else bad):=by
 refine Sg xs.length (fun i s=>s=i∧(xs.take i).all q=true) hn _ ⟨rfl,by simp⟩ ?_ ?_
 ·rintro i s hi ⟨hsi,hq⟩;subst s;have hx:=gEg hi;rw [hs i _ hx];cases hc:q xs[i]
  ·refine .inr ?_
   have:xs.all q=false:=by
    rw [Bool.eq_false_iff];intro ha;rw [List.all_eq_true] at ha;rw [ha _ (List.getElem_mem hi)] at hc;cases hc
   rw [this]; rfl
  ·refine .inl ⟨i+1,rfl,rfl,?_⟩;rw [List.take_add_one,List.all_append,hq,hx];simp [hc]
 ·rintro s ⟨rfl,hq⟩;rw [List.take_length] at hq;rw [he,hq]; rfl
theorem Air {body:Nat->Option (Ctl Nat ρ)} (xs:List α) (q:α->Bool) (none_:ρ) (g:Nat->ρ) {F:Nat} (hn:xs.length<F) (hs:∀ i x,xs[i]? =some x->body i=some (if q x then .out (g i) else .next (i+1))) (he:body xs.length=some (.out none_)) :
  (xs.any q=true∧∃ i,i<xs.length∧Ay body F 0=some (g i))∨(xs.any q=false∧Ay body F 0=some none_):=by
 have key:∃ r,Ay body F 0=some r∧((xs.any q=true∧∃ i,i<xs.length∧r=g i)∨(xs.any q=false∧r=none_)):=by
  refine Hn xs.length (fun i s=>s=i∧(xs.take i).any q=false) hn ⟨rfl,by simp⟩ ?_ ?_
  ·rintro i s hi ⟨hsi,hq⟩;subst s;have hx:=gEg hi;rw [hs i _ hx];cases hc:q xs[i]
   ·refine .inl ⟨i+1,rfl,rfl,?_⟩;rw [List.take_add_one,List.any_append,hq,hx];simp [hc]
   ·exact .inr ⟨_,rfl,.inl ⟨List.any_eq_true.2 ⟨_,List.getElem_mem hi,hc⟩,i,hi,rfl⟩⟩
  ·rintro s ⟨hsi,hq⟩;subst hsi;rw [List.take_length] at hq;exact ⟨_,he,.inr ⟨hq,rfl⟩⟩
 obtain ⟨r,h,⟨h1,i,hi,rfl⟩ | ⟨h1,rfl⟩⟩:=key
 ·exact .inl ⟨h1,i,hi,h⟩
 ·exact .inr ⟨h1,h⟩
theorem Iw {body:Nat×List β->Option (Ctl (Nat×List β) ρ)} (xs:List α) (f:α->β) (ys:List β) {F:Nat} (hn:xs.length<F) (r:ρ) (hs:∀ i x,xs[i]? =some x->body (i,ys++(xs.take i).map f)=some (.next (i+1,(ys++(xs.take i).map f)++[f x]))) (he:body (xs.length,ys++xs.map f)=some (.out r)):Ay body F (0,ys)=some r:=by
 refine Bu xs.length (fun i=>(i,ys++(xs.take i).map f)) hn r (by simp) (fun i hi=>?_) (by rw [List.take_length]; exact he);have hx:=gEg hi;rw [hs i _ hx,List.take_add_one,hx];simp only [List.map_append,Option.toList,List.map_cons,List.map_nil,List.append_assoc]
theorem P0 {xs:List α} {d:α} {i:Nat} (h:i<xs.length):(xs.take i++List.replicate (xs.length - i) d)[i]? =some d:=by
 have h1:(xs.take i).length=i:=by rw [List.length_take]; omega
 rw [List.getElem?_append_right (by omega),h1,Nat.sub_self,List.getElem?_replicate,if_pos (by omega)]
theorem P7 {xs:List α} {d x:α} {i:Nat} (h:xs[i]? =some x):(xs.take i++List.replicate (xs.length - i) d).set i x=xs.take (i+1)++List.replicate (xs.length - (i+1)) d:=by
 have hi:=(gSi.1 h).1;have e:xs.length - i=(xs.length - (i+1))+1:=by omega
 rw [List.take_add_one,h,e,List.replicate_succ,List.set_append,if_neg (by simp; omega)];simp [Nat.min_eq_left (Nat.le_of_lt hi)]
theorem Aiv {xs ys:List α} {i:Nat} (h:i<xs.length) (hl:ys.length=i):(ys++xs.drop i)[i]? =some xs[i]:=by
 rw [List.getElem?_append_right (by omega),hl];simp [List.getElem?_drop,h]
theorem Ain {xs ys:List α} {y:α} {i:Nat} (h:i<xs.length) (hl:ys.length=i):(ys++xs.drop i).set i y=(ys++[y])++xs.drop (i+1):=by
 rw [List.set_append,if_neg (by omega),hl,Nat.sub_self,List.drop_eq_getElem_cons h,List.append_assoc];rfl
end
theorem D2 {n:Int} (h1: -9223372036854775808<=n) (h2:n<9223372036854775808):wI n=n:=Go.IntWalk.i64_in _ (by omega)
theorem Br {p:Prop} [Decidable p] (h:p):decide p=true:=decide_eq_true h
theorem Bq {p:Prop} [Decidable p] (h:¬ p):decide p=false:=decide_eq_false h
end
section
theorem Aj8 {α:Type} (q:α->Bool) (l:List α):(!l.any fun x=> !q x)=l.all q:=by
 induction l with
 | nil=>rfl
 | cons x l ih=>simp only [List.any_cons,List.all_cons,Bool.not_or,Bool.not_not,ih]
theorem Wh (b:Bool):Ix (some (if b then Ctl.next () else Ctl.out false)) (fun _:Unit=>some true)=some b:=by cases b <;> rfl
theorem O5 (x lo hi:Int):Ch x lo hi=some (inR x lo hi):=by
 unfold Ch inR;by_cases h:lo<=x <;> simp [h]
theorem Yx (x lo hi:Int):Dp x lo hi=some (inR x lo hi):=by
 unfold Dp inR;by_cases h:lo<=x <;> simp [h]
theorem Aco (xs:List Int) (lo hi:Int) (hx:xs.length<=1099511627776):Fi xs lo hi=some (xs.all fun x=>inR x lo hi):=by
 unfold Fi;rw [Qd xs (fun x=>inR x lo hi) (.next ()) (.out false) (by omega) (fun i x h=>?_) ?_,Wh]
 ·unfold Hi;rw [Bq (by omega),cond_false]
 ·have:=Be h;unfold Hi;rw [Br (by omega),cond_true,h,obs,O5,obs,Ap (by omega)];cases inR x lo hi <;> rfl
theorem Wt (xs:List Int) (n:Int) (hn: -1000000000<=n∧n<=1000000000) (hx:xs.length<=1099511627776):D7 xs n=some (xs.all fun x=>inR x 0 (n - 1)):=by
 unfold D7;rw [Qd xs (fun x=>inR x 0 (n - 1)) (.next ()) (.out false) (by omega) (fun i x h=>?_) ?_,Wh]
 ·unfold Fc;rw [Bq (by omega),cond_false]
 ·have:=Be h;unfold Fc;rw [Br (by omega),cond_true,h,obs,D2 (by omega) (by omega),Yx,obs,Ap (by omega)];cases inR x 0 (n - 1) <;> rfl
theorem Amf {p:Int} (h:inR p 2 97=false):isF p=false:=by rcases Aio.1 h with h | h <;> simp [isF] <;> omega
theorem Afr (p:Int):Fs p=some (isF p):=by
 unfold Fs;rw [O5,obs];cases hr:inR p 2 97
 ·rw [Amf hr]; rfl
 rw [Bool.not_true,cond_false];obtain ⟨h1,h2⟩:=Ef.1 hr;obtain ⟨n,rfl⟩:=Int.eq_ofNat_of_zero_le (show 0<=p by omega)
 have h:Ay (fun s_:Nat=>Ex n s_) 4611686018427387904 2=some (if isF n then .next () else .out false):=by
  refine Sg 8 (fun i s=>s=i+2∧Aca n s=true) (by omega) _ ⟨rfl,by simp [Aca,List.range_succ]⟩ ?_ ?_
  ·rintro i s hi ⟨hs,hd⟩;unfold Ex;have hm:((s:Int)*(s:Int))=((s*s:Nat):Int):=by simp
   have hss:s*s<=9*9:=Nat.mul_le_mul (by omega) (by omega);rw [hm,D2 (by omega) (by omega)];by_cases hle:s*s<=n
   ·rw [Br (by omega),cond_true,Ap (by omega),show Int.tmod (n:Int) (s:Int)=((n % s:Nat):Int) from by rw [Int.tmod_eq_emod_of_nonneg (by omega)]; rfl];by_cases h0:n % s=0
    ·refine .inr ?_;rw [h0,Al0 n (by omega) s (by omega) (by omega) hle h0]; rfl
    ·refine .inl ⟨s+1,?_,by omega,Agb hd h0⟩;rw [show (((n % s:Nat):Int)==0)=false from by rw [beq_eq_false_iff_ne]; omega,cond_false,Ap (by omega)]
   ·refine .inr ?_;rw [Bq (by omega),cond_false,Abs n (by omega) (by omega) s (by omega) hd (by omega)]; rfl
  ·rintro s ⟨hs,hd⟩;obtain rfl:s=10:=by omega
   unfold Ex;rw [show wI (((10:Nat):Int)*((10:Nat):Int))=100 from D2 (by omega) (by omega),Bq (by omega),cond_false,Abs n (by omega) (by omega) 10 (by omega) hd (by omega)]; rfl
 rw [h,Wh]
theorem Aek (p x:Int):E3 p x=some (inR x 0 (p - 1)):=by
 unfold E3 inR;by_cases h:0<=x
 ·simp [h,show (x<p↔x<=p - 1) by omega]
 ·simp [h]
theorem Am1 (p:Int) (xs:List Int) (hp:2<=p∧p<=97) (hx:xs.length<=1099511627776):Ji p xs=some (xs.all fun x=>inR x 0 (p - 1)):=by
 unfold Ji;rw [D2 (by omega) (by omega),Aco _ _ _ hx]; rfl
theorem Aka {p x:Int} (hp:2<=p∧p<=97):Ho p x=some (x % p):=by
 unfold Ho;rw [Ap (by omega)]
 have e1:x.tmod p=if 0<=x∨x % p=0 then x % p else x % p - p:=by
  simp only [Int.tmod_eq_emod,Int.dvd_iff_emod_eq_zero];split <;> simp <;> omega
 have h1:=Int.emod_nonneg x (show p≠0 by omega);have h2:=Int.emod_lt_of_pos x (show 0<p by omega);by_cases h:x.tmod p<0
 ·rw [Br h,cond_true,obs,D2 (by omega) (by omega)];congr 1;split at e1 <;> omega
 ·rw [Bq h,cond_false,obs];congr 1;split at e1 <;> omega
theorem P4 {n:Int} (h:0<=n∧n<=1000000):C6 n=some (List.replicate n.toNat 0):=by
 unfold C6;rw [Ap (by omega)]
theorem Alz (xs:List Int) (h:xs.length<=1000000):H8 xs=some xs:=by
 unfold H8;rw [Ap (by omega)]
theorem S4 (xs:List Int) (h:xs.length<=1000000):Dn xs=some xs:=by
 unfold Dn;rw [Ap (by omega)]
theorem Als {p x y:Int} (hp:2<=p∧p<=97) (hx:0<=x∧x<p) (hy:0<=y∧y<p):H6 p x y=some ((x+y) % p):=by
 unfold H6;rw [Ap (by omega),D2 (by omega) (by omega),Int.tmod_eq_emod_of_nonneg (by omega)]
theorem Acj {p x y:Int} (hp:2<=p∧p<=97) (hx:0<=x∧x<p) (hy:0<=y∧y<p):0<=x*y∧x*y<=10000:=by
 refine ⟨Int.mul_nonneg hx.1 hy.1,?_⟩;have h1:x*y<=97*y:=Int.mul_le_mul_of_nonneg_right (by omega) hy.1;omega
theorem Ame {p x y:Int} (hp:2<=p∧p<=97) (hx:0<=x∧x<p) (hy:0<=y∧y<p):H4 p x y=some ((x*y) % p):=by
 have:=Acj hp hx hy;unfold H4;rw [Ap (by omega),D2 (by omega) (by omega),Int.tmod_eq_emod_of_nonneg (by omega)]
end
section
theorem Ags {ρ:Type} {body:Nat->Option (Ctl Nat ρ)} (n:Nat) (q:Nat->Bool) (nn:ρ) (g:Nat->ρ) (hn:n<4611686018427387904) (hs:∀ i,i<n->body i=some (if q i then .out (g i) else .next (i+1))) (he:body n=some (.out nn)) :
  Ay body 4611686018427387904 0=some (match (List.range n).find? q with | some i=>g i | none=>nn):=by
 refine Sg n (fun i s=>s=i∧∀ j,j<i->q j=false) hn _ ⟨rfl,fun j h=>by omega⟩ ?_ ?_
 ·rintro i s hi ⟨hsi,hq⟩;subst s;rw [hs i hi];cases hc:q i
  ·refine .inl ⟨i+1,rfl,rfl,fun j hj=>?_⟩;rcases Nat.lt_or_ge j i with h | h
   ·exact hq j h
   ·obtain rfl:j=i:=by omega
    exact hc
  ·refine .inr ?_;have:(List.range n).find? q=some i:=List.find?_range_eq_some.2 ⟨hc,List.mem_range.2 hi,fun j hj=>by rw [hq j hj]; rfl⟩;rw [this]; rfl
 ·rintro s ⟨hsi,hq⟩;subst s;have:(List.range n).find? q=none:=List.find?_range_eq_none.2 fun j hj=>by rw [hq j hj]; rfl
  rw [this,he]
abbrev Gt:=Int×Int×Int×Int
def opG (e:Gt):List Int:=if e.1=3 then [e.2.1,e.2.2.1] else if e.1=4∨e.1=5 then [e.2.1] else []
def cmG (e:Gt):Bool:=e.1==3||e.1==4
def He (p n i:Int) (e:Gt):Bool :=
 (opG e).all (fun x=>inR x 0 (n - 1))&&((e.1==3||e.2.2.1==0) &&
 (if e.1=1 then inR e.2.2.2 0 (i - 1)&&e.2.1==0 else if e.1=2 then e.2.2.2==0&&e.2.1==0 else if e.1=3∨e.1=5 then e.2.2.2==0 else if e.1=4 then inR e.2.2.2 0 (p - 1) else false))
theorem Na (e:Gt):Dk e.1 e.2.1 e.2.2.1 e.2.2.2=some (opG e):=by
 unfold Dk opG;by_cases h3:e.1=3
 ·simp [h3]
 by_cases h4:e.1=4
 ·simp [h4]
 by_cases h5:e.1=5
 ·simp [h5]
 have b3:=beq_eq_false_iff_ne.2 h3;have b4:=beq_eq_false_iff_ne.2 h4;have b5:=beq_eq_false_iff_ne.2 h5;simp [b3,b4,b5,h3,h4,h5]
theorem Ww (e:Gt):C9 e.1 e.2.1 e.2.2.1 e.2.2.2=some (opG e):=Na e
theorem S9 (e:Gt):Dj e.1 e.2.1 e.2.2.1 e.2.2.2=some (cmG e):=by
 unfold Dj cmG;cases e.1==3 <;> rfl
theorem Ah5 (e:Gt):Di e.1 e.2.1 e.2.2.1 e.2.2.2=some (if cmG e then opG e else []):=by
 unfold Di cmG;rw [Ww];cases e.1==3 <;> cases e.1==4 <;> rfl
theorem V9 (e:Gt):(opG e).length<=2:=by
 unfold opG; split
 ·simp
 split <;> simp
section
variable {p i n:Int} {gs:List Gt} {outs:List Int}
theorem Aj7 (hp:2<=p∧p<=97) (hi:0<=i∧i<=8) (hn:1<=n∧n<=40) (e:Gt):Hh p e.1 e.2.1 e.2.2.1 e.2.2.2 i n=some (He p n i e):=by
 have ho:=V9 e;unfold Hh He;rw [Na,obs,D2 (n:=n - 1) (by omega) (by omega),Aco _ _ _ (by omega),obs,D2 (n:=i - 1) (by omega) (by omega),D2 (n:=p - 1) (by omega) (by omega),O5,O5];generalize (opG e).all (fun x=>inR x 0 (n - 1))=ok;obtain ⟨e1,e2,e3,e4⟩:=e;dsimp only;cases ok
 ·rfl
 by_cases h3:e1=3
 ·subst h3; cases e4==0 <;> rfl
 have b3:=beq_eq_false_iff_ne.2 h3;have n3:(e1 !=3)=true:=bne_iff_ne.2 h3;cases hB:e3==0
 ·have:(e3 !=0)=true:=by simp [bne,hB]
  simp [n3,b3,this]
 have hB':(e3 !=0)=false:=by simp [bne,hB]
 by_cases h1:e1=1
 ·subst h1; cases inR e4 0 (i - 1) <;> cases e2==0 <;> simp [hB']
 by_cases h2:e1=2
 ·subst h2; cases e4==0 <;> cases e2==0 <;> simp [hB']
 by_cases h5:e1=5
 ·subst h5; cases e4==0 <;> simp [hB']
 by_cases h4:e1=4
 ·subst h4; cases inR e4 0 (p - 1) <;> simp [hB']
 have b1:=beq_eq_false_iff_ne.2 h1;have b2:=beq_eq_false_iff_ne.2 h2;have b4:=beq_eq_false_iff_ne.2 h4;have b5:=beq_eq_false_iff_ne.2 h5;simp [n3,b1,b2,b3,b4,b5,h1,h2,h3,h4,h5,hB']
theorem Ai9 (hp:2<=p∧p<=97) (hi:0<=i∧i<=8) (hn:1<=gs.length∧gs.length<=40) (e:Gt):Cx i gs outs p e.1 e.2.1 e.2.2.1 e.2.2.2=some (He p gs.length i e):=by
 have ho:=V9 e;unfold Cx He;rw [Ww,obs,Wt _ _ (by omega) (by omega),obs,D2 (n:=i - 1) (by omega) (by omega),Yx,Aek];generalize (opG e).all (fun x=>inR x 0 ((gs.length:Nat) - 1))=ok;obtain ⟨e1,e2,e3,e4⟩:=e;dsimp only;cases ok
 ·rfl
 by_cases h3:e1=3
 ·subst h3; cases e4==0 <;> rfl
 have b3:=beq_eq_false_iff_ne.2 h3;by_cases h1:e1=1
 ·subst h1; cases inR e4 0 (i - 1) <;> cases e2==0 <;> cases e3==0 <;> simp
 by_cases h2:e1=2
 ·subst h2
  have:([2,e2,e3,e4]==([2,0,0,0]:List Int))=(e3==0&&(e4==0&&e2==0)):=by
   have h0:([2,e2,e3,e4]==([2,0,0,0]:List Int))=((2:Int)==2&&(e2==0&&(e3==0&&(e4==0&&true)))):=rfl;rw [h0];cases e2==0 <;> cases e3==0 <;> cases e4==0 <;> rfl
  simp [this]
 by_cases h5:e1=5
 ·subst h5; cases e3==0 <;> cases e4==0 <;> simp
 by_cases h4:e1=4
 ·subst h4; cases e3==0 <;> cases inR e4 0 (p - 1) <;> simp
 have b1:=beq_eq_false_iff_ne.2 h1;have b2:=beq_eq_false_iff_ne.2 h2;have b4:=beq_eq_false_iff_ne.2 h4;have b5:=beq_eq_false_iff_ne.2 h5;simp [b1,b2,b3,b4,b5,h1,h2,h3,h4,h5]
def okG (gs:List Gt):Prop:=∀ e∈gs,∀ x∈opG e,0<=x∧x<gs.length
def rdy (gs:List Gt) (dn:List Bool) (k:Nat):Bool :=
 match gs[k]? with
 | some e=> !(dn.getD k true)&&(opG e).all fun x=>dn.getD x.toNat false
 | none=>false
def nxt (gs:List Gt) (dn:List Bool):Option Nat:=(List.range gs.length).find? (rdy gs dn)
def enc:Option Nat->Int
 | some j=>j
 | none=> -1
def run (gs:List Gt):Nat->List Bool->List Int×List Bool
 | 0,dn=>([],dn)
 | f+1,dn=>match nxt gs dn with
  | none=>([],dn)
  | some j=>((j:Int) :: (run gs f (dn.set j true)).1,(run gs f (dn.set j true)).2)
theorem K4 {dn:List Bool} {j:Nat} (h:nxt gs dn=some j):j<gs.length∧rdy gs dn j=true:=by
 have:=List.find?_range_eq_some.1 h;exact ⟨List.mem_range.1 this.2.1,this.1⟩
theorem T6 {dn:List Bool} {j:Nat} (h:rdy gs dn j=true) (hl:dn.length=gs.length):dn[j]? =some false:=by
 unfold rdy at h;split at h
 ·simp only [Bool.and_eq_true,Bool.not_eq_true'] at h;have:=h.1;rw [gDg] at this;cases hd:dn[j]? with
  | none=>rw [hd] at this; cases this
  | some b=>rw [hd] at this; simp at this; rw [this]
 ·cases h
theorem Qa {dn:List Bool} {j:Nat} (h:dn[j]? =some false):(dn.set j true).count false+1=dn.count false:=by
 obtain ⟨hj,he⟩:=gSi.1 h;rw [List.count_set hj,he];have:=List.count_pos_iff.2 (he▸List.getElem_mem hj);simp; omega
theorem Ue:∀ (m:Nat) (dn:List Bool),dn.length=gs.length->dn.count false<=m->(run gs m dn).1.length+(run gs m dn).2.count false=dn.count false
 | 0,dn,_,_=>by simp [run]
 | m+1,dn,hl,hm=>by
  unfold run;cases hx:nxt gs dn with
  | none=>simp
  | some j =>
   obtain ⟨h1,h2⟩:=K4 hx;have hc:=Qa (T6 h2 hl);have:=Ue m (dn.set j true) (by simp [hl]) (by omega);simp only [List.length_cons];omega
theorem Aly {m:Nat} {dn:List Bool} (hl:dn.length=gs.length) (hm:dn.count false<=m):(run gs m dn).1.length<=gs.length:=by
 have h1:=Ue m dn hl hm;have h2:dn.count false<=dn.length:=List.count_le_length;omega
theorem Add {ys:List Int} {dn:List Bool} (hy:∀ x∈ys,0<=x∧x<dn.length) (hl:ys.length<=2):Ay (fun s_:Bool×Nat=>D9 ys dn s_.1 s_.2) 4611686018427387904 (true,0)=some (ys.all fun x=>dn.getD x.toNat false):=by
 refine Bu ys.length (fun k=>((ys.take k).all fun x=>dn.getD x.toNat false,k)) (by omega) _ (by simp) (fun k hk=>?_) ?_
 ·have hg:=gEg hk;have hx:=hy _ (List.getElem_mem hk)
  try dsimp only
  unfold D9;rw [Br (by omega),cond_true,hg,obs,List.take_add_one,hg,List.all_append];have hd:=gEg (l:=dn) (i:=ys[k].toNat) (by omega);cases hb:(ys.take k).all fun x=>dn.getD x.toNat false
  ·simp [Ap (show k+1<4611686018427387904 by omega)]
  ·rw [cond_true,Jo hx.1,hd,obs,obs,Ap (by omega)];simp [gDg,hd]
 ·try dsimp only
  unfold D9;rw [Bq (by omega),cond_false,List.take_length]
theorem Ad6 {dn:List Bool} (hg:okG gs) (hl:dn.length=gs.length) (hn:gs.length<=40):Ay (fun s_:Int×Nat=>Eb gs dn s_.1 s_.2) 4611686018427387904 (-1,0)=some (enc (nxt gs dn)):=by
 refine Bu gs.length (fun k=>(enc ((List.range k).find? (rdy gs dn)),k)) (by omega) _ rfl (fun k hk=>?_) ?_
 ·have he:=gEg hk;have ho:=hg _ (List.getElem_mem hk);generalize gs[k]=e at he ho;have hd:=gEg (l:=dn) (i:=k) (by omega)
  have hr:rdy gs dn k=(!dn[k]&&(opG e).all fun x=>dn.getD x.toNat false):=by
   unfold rdy;rw [he];simp [gDg,hd]
  have hf:(List.range (k+1)).find? (rdy gs dn)=((List.range k).find? (rdy gs dn)).or (if rdy gs dn k then some k else none):=by
   rw [List.range_succ,List.find?_append];congr 1;rw [List.find?_singleton]
  have hk1:k+1<4611686018427387904:=by omega
  try dsimp only
  unfold Eb;rw [Br (by omega),cond_true,he,obs,hd,obs,Na,obs,Add (by rw [hl]; exact ho) (V9 e),obs,hf];cases hp:(List.range k).find? (rdy gs dn) with
  | some j =>
   have:decide ((0:Int)<=enc (some j))=true:=decide_eq_true (by simp [enc]);cases dn[k] <;> simp [this,Ap hk1]
  | none =>
   have:decide ((0:Int)<=enc none)=false:=decide_eq_false (by simp [enc]);rw [this,Option.none_or,hr];cases dn[k]
   ·cases (opG e).all fun x=>dn.getD x.toNat false <;> simp [Ap hk1,enc]
   ·simp [Ap hk1,enc]
 ·try dsimp only
  unfold Eb;rw [Bq (by omega),cond_false]; rfl
theorem U8 {α β:Type} {body:α->Option (Ctl α β)} {F:Nat} {s s':α} (h:body s=some (.next s')):Ay body (F+1) s=Ay body F s':=by simp only [Ay,h,obs,Ctl.then]
theorem Rd {α β:Type} {body:α->Option (Ctl α β)} {F:Nat} {s:α} {r:β} (h:body s=some (.out r)):Ay body (F+1) s=some r:=by simp only [Ay,h,obs,Ctl.then]
theorem R5 (hg:okG gs) (hn:gs.length<=40):∀ (m:Nat) (dn:List Bool) (out:List Int) (F:Nat),dn.length=gs.length->dn.count false<=m->out.length+m<=1000->m+1<=F->Ay (fun s_:List Int×List Bool=>Ec gs s_.1 s_.2) F (out,dn)=some (out++(run gs m dn).1)
 | m,dn,out,F,hl,hm,ho,hF=>by
  obtain ⟨F,rfl⟩:∃ F',F=F'+1:=⟨F - 1,by omega⟩
  have hb:Ec gs out dn=match nxt gs dn with | none=>some (Ctl.out out) | some j=>some (Ctl.next (out++[(j:Int)],dn.set j true)):=by
   unfold Ec;rw [Ad6 hg hl hn,obs];cases hx:nxt gs dn with
   | none=>rw [Br (by simp [enc]),cond_true]
   | some j =>
    obtain ⟨h1,h2⟩:=K4 hx;have hd:=T6 h2 hl;rw [Bq (by simp [enc]),cond_false];simp only [enc];rw [Jo (by omega),Int.toNat_natCast,hd,obs,Ap (by omega)]
  cases hx:nxt gs dn with
  | none =>
   rw [hx] at hb;rw [Rd (r:=out) hb];cases m <;> simp [run,hx]
  | some j =>
   rw [hx] at hb;obtain ⟨h1,h2⟩:=K4 hx;have hc:=Qa (T6 h2 hl);rw [U8 (s':=(out++[(j:Int)],dn.set j true)) hb];cases m with
   | zero=>omega
   | succ m =>
    rw [R5 hg hn m (dn.set j true) (out++[(j:Int)]) F (by simp [hl]) (by omega) (by simp; omega) (by omega)];simp [run,hx]
def dn0 (gs:List Gt):List Bool:=gs.map fun e=> !cmG e
def Rl (gs:List Gt):List Int×List Bool:=run gs gs.length (dn0 gs)
theorem Ab2 (hg:okG gs) (hn:gs.length<=40):Et i gs outs=some (Rl gs).1:=by
 unfold Et;rw [Ap (by omega)]
 have h:Ay (fun s_:Nat×List Bool=>Eh gs s_.1 s_.2) 4611686018427387904 (0,List.replicate gs.length (false:Bool))=some (dn0 gs):=by
  have hl:(dn0 gs).length=gs.length:=by simp [dn0]
  refine Bu gs.length (fun k=>(k,(dn0 gs).take k++List.replicate ((dn0 gs).length - k) false)) (by omega) _ (by simp [hl]) (fun k hk=>?_) ?_
  ·have hx:=gEg hk;have hd:(dn0 gs)[k]? =some (!cmG gs[k]):=by simp [dn0,hk]
   try dsimp only
   unfold Eh;rw [Br (by omega),cond_true,hx,obs,S9,obs,P0 (by omega),obs,Ap (by omega),P7 hd]
  ·try dsimp only
   unfold Eh;rw [Bq (by omega),cond_false,hl];simp [List.take_of_length_le,hl]
 have hc:(dn0 gs).count false<=gs.length:=Nat.le_trans List.count_le_length (by simp [dn0]);rw [h,obs,R5 hg hn gs.length (dn0 gs) [] _ (by simp [dn0]) hc (by simp; omega) (by omega)];rfl
def Ud (dn:List Bool):Bool:=dn.all id
def Q1 (p i:Int) (gs:List Gt) (outs:List Int):Bool :=
 isF p&&(inR i 0 8&&(inR gs.length 1 40&&(decide (outs.length<=8)&&((outs.all fun x=>inR x 0 ((gs.length:Nat) - 1))&&(gs.all (He p gs.length i)&&Ud (Rl gs).2)))))
theorem Wp {dn:List Bool}:dn.count false=0↔Ud dn=true:=by
 rw [List.count_eq_zero];unfold Ud;rw [List.all_eq_true];constructor
 ·intro h b hb;cases b
  ·exact absurd hb h
  ·rfl
 ·intro h hf;have:=h _ hf;cases this
theorem Acn (h:gs.all (He p gs.length i)=true):okG gs:=fun e he x hx=>by
 have:=List.all_eq_true.1 h e he;simp only [He,Bool.and_eq_true,List.all_eq_true,Ef] at this;have:=this.1 x hx;omega
theorem Aaj:∀ k,k<=gs.length->((gs.take k).map fun e=> !cmG e).count false=(gs.take k).countP cmG:=by
 intro k _;rw [List.count_eq_countP,List.countP_map];congr 1;funext e;cases h:cmG e <;> simp [h]
theorem Akm (hl:gs.length<=1099511627776) (ho:outs.length<=1099511627776):G4 p i gs outs=some (Q1 p i gs outs):=by
 unfold G4 Q1;simp only [Afr,O5,obs];cases hp:isF p
 ·rfl
 cases hi:inR i 0 8
 ·rfl
 cases hn:inR gs.length 1 40
 ·rfl
 have hn':=Ef.1 hn;by_cases hs:8<outs.length
 ·simp only [Bool.not_true,cond_false,obs,Br (show (8:Int)<((outs.length:Nat):Int) by omega),cond_true,Bq (show ¬ outs.length<=8 by omega),Bool.and_false,Bool.false_and]
 rw [D2 (by omega) (by omega),Aco _ _ _ (by omega)];simp only [Bool.not_true,cond_false,obs,Bq (show ¬ (8:Int)<((outs.length:Nat):Int) by omega),Br (show outs.length<=8 by omega),Bool.true_and];cases hio:outs.all fun x=>inR x 0 ((gs.length:Nat) - 1)
 ·rfl
 simp only [Bool.not_true,cond_false,Bool.true_and];have hF:=Pm hp;have hI:=Ef.1 hi
 have key:∃ r,Ay (fun s_:Nat×Nat=>Ev gs p i s_.1 s_.2) 4611686018427387904 (0,0)=some r∧((gs.all (He p gs.length i)=true∧r=Ctl.next (gs.countP cmG))∨(gs.all (He p gs.length i)=false∧r=Ctl.out false)):=by
  refine Hn (Post:=fun r=>(gs.all (He p gs.length i)=true∧r=Ctl.next (gs.countP cmG))∨(gs.all (He p gs.length i)=false∧r=Ctl.out false)) gs.length (fun k s=>s.2=k∧s.1=(gs.take k).countP cmG∧(gs.take k).all (He p gs.length i)=true) (by omega) ⟨rfl,by simp,by simp⟩ ?_ ?_
  ·rintro k ⟨c,k'⟩ hk ⟨h1,h2,h3⟩;dsimp only at h1 h2 h3 ⊢;subst k' c;have hx:=gEg hk;have hcl:(gs.take k).countP cmG<=k:=Nat.le_trans List.countP_le_length (by rw [List.length_take]; omega);unfold Ev;rw [Br (by omega),cond_true,hx,obs,Aj7 hF hI (by omega),obs];cases hgb:He p gs.length i gs[k]
   ·refine .inr ⟨Ctl.out false,rfl,.inr ⟨?_,rfl⟩⟩;rw [Bool.eq_false_iff];intro ha;rw [List.all_eq_true.1 ha _ (List.getElem_mem hk)] at hgb;cases hgb
   ·refine .inl ⟨((gs.take (k+1)).countP cmG,k+1),?_,rfl,rfl,?_⟩
    ·rw [Bool.not_true,cond_false,S9,obs,List.take_add_one,hx,List.countP_append];cases hc:cmG gs[k]
     ·simp [Ix,Ctl.then,Ap (show k+1<4611686018427387904 by omega),hc]
     ·have h4:(gs.take k).countP cmG+1<4611686018427387904:=by omega
      simp [Ix,Ctl.then,Ap (show k+1<4611686018427387904 by omega),Ap h4,hc]
    ·rw [List.take_add_one,hx,List.all_append,h3]; simp [hgb]
  ·rintro ⟨c,k'⟩ ⟨h1,h2,h3⟩;dsimp only at h1 h2 h3 ⊢;subst k' c;rw [List.take_length] at h3 ⊢;refine ⟨_,?_,.inl ⟨h3,rfl⟩⟩;unfold Ev;rw [Bq (by omega),cond_false]
 obtain ⟨r,hr,⟨h1,rfl⟩ | ⟨h1,rfl⟩⟩:=key
 ·rw [hr,h1,Bool.true_and];have hg:=Acn h1;simp only [Ix,obs,Ctl.then];rw [Ab2 hg (by omega),obs];congr 1;have hc:=Ue (gs:=gs) gs.length (dn0 gs) (by simp [dn0]) (Nat.le_trans List.count_le_length (by simp [dn0]));have h0:=Aaj (gs:=gs) gs.length (Nat.le_refl _);rw [List.take_length] at h0;have h0:(dn0 gs).count false=gs.countP cmG:=h0;rw [h0] at hc;have hA:=Wp (dn:=(Rl gs).2);unfold Rl at hA ⊢;cases hT:Ud (run gs gs.length (dn0 gs)).2
  ·rw [beq_eq_false_iff_ne];intro e;have:(run gs gs.length (dn0 gs)).2.count false=0:=by omega
   rw [hA.1 this] at hT; cases hT
  ·rw [beq_iff_eq];have:=hA.2 hT;omega
 ·rw [hr,h1]; rfl
end
end
section
section
variable {p i:Int} {gs:List Gt} {outs:List Int}
structure RelM (gs:List Gt) (dn:List Bool) (es:List (Int×Bool)):Prop where
 len:dn.length=gs.length
 get:∀ k:Nat,k<gs.length->C4 es (k:Int)=if dn.getD k true=true then none else some true
 keys:∀ e∈es,∃ k:Nat,k<gs.length∧e.1=(k:Int)
 cm:∀ (k:Nat) (e:Gt),gs[k]? =some e->dn.getD k true=false->cmG e=true
theorem RelM.open_ {dn:List Bool} {es:List (Int×Bool)} (h:RelM gs dn es) {k:Nat} (hk:k<gs.length):(C4 es (k:Int)).getD false= !dn.getD k true:=by
 rw [h.get k hk];cases dn.getD k true <;> rfl
theorem RelM.empty {dn:List Bool} (h:RelM gs dn []):Ud dn=true:=by
 unfold Ud;rw [List.all_eq_true];intro b hb;obtain ⟨k,hk,he⟩:=List.mem_iff_getElem.1 hb;have:=h.get k (by rw [← h.len]; exact hk);rw [gDg,gEg hk,he] at this;cases b
 ·simp [C4] at this
 ·rfl
theorem RelM.some_ {dn:List Bool} {x:Int×Bool} {es:List (Int×Bool)} (h:RelM gs dn (x :: es)):Ud dn=false:=by
 obtain ⟨k,hk,he⟩:=h.keys x (List.mem_cons_self ..);have h1:=h.get k hk;have h2:C4 (x :: es) (k:Int)=some x.2:=by simp [C4,he]
 rw [h2] at h1
 have h3:dn.getD k true=false:=by
  cases hd:dn.getD k true
  ·rfl
  ·rw [hd] at h1; cases h1
 rw [Bool.eq_false_iff];intro ha;unfold Ud at ha;have hkl:k<dn.length:=by rw [h.len]; exact hk
 rw [gDg,gEg hkl] at h3;have:=List.all_eq_true.1 ha _ (List.getElem_mem hkl);simp at h3 this;rw [h3] at this; cases this
theorem Yw {dn:List Bool} {j k:Nat} (hj:j<dn.length):(dn.set j true).getD k true=if k=j then true else dn.getD k true:=by
 rw [gDg,gDg,List.getElem?_set];by_cases e:k=j
 ·subst e; simp [hj]
 ·rw [if_neg (fun h=>e h.symm),if_neg e]
theorem RelM.del {dn:List Bool} {es:List (Int×Bool)} (h:RelM gs dn es) {j:Nat} (hj:j<gs.length):RelM gs (dn.set j true) (Ii es (j:Int)):=by
 have hjl:j<dn.length:=by rw [h.len]; exact hj
 refine ⟨by simp [h.len],fun k hk=>?_,fun e he=>h.keys e (List.mem_filter.1 he).1,fun k e hk hd=>?_⟩
 ·rw [Yw hjl];by_cases e:k=j
  ·subst e; rw [Lw]; simp
  ·rw [Hz (by omega),h.get k hk,if_neg e]
 ·rw [Yw hjl] at hd;by_cases e':k=j
  ·rw [if_pos e'] at hd; cases hd
  ·rw [if_neg e'] at hd; exact h.cm k e hk hd
theorem Am4 {n:Int} (h:0<=n∧n<=1000):I7 n=some ((List.range n.toNat).map fun k:Nat=>(k:Int)):=by
 unfold I7;rw [P4 (by omega),obs];have hl:((List.range n.toNat).map fun k:Nat=>(k:Int)).length=n.toNat:=by simp
 have key:Ay (fun s_:Nat×List Int=>Gb (List.replicate n.toNat 0) s_.1 s_.2) 4611686018427387904 (0,List.replicate n.toNat (0:Int))=some ((List.range n.toNat).map fun k:Nat=>(k:Int)):=by
  refine Bu n.toNat (fun k=>(k,((List.range n.toNat).map fun k:Nat=>(k:Int)).take k++List.replicate (((List.range n.toNat).map fun k:Nat=>(k:Int)).length - k) 0)) (by omega) _ (by simp) (fun k hk=>?_) ?_
  ·have hx:((List.range n.toNat).map fun k:Nat=>(k:Int))[k]? =some (k:Int):=by simp [hk]
   try dsimp only
   unfold Gb;rw [Br (by simp; omega),cond_true,P0 (by omega),obs,Ap (by omega),P7 hx]
  ·try dsimp only
   unfold Gb;rw [Bq (by simp),cond_false];simp [List.take_of_length_le]
 rw [key]; rfl
theorem Af1 {ys:List Int} {dn:List Bool} {es:List (Int×Bool)} (h:RelM gs dn es) (hn:gs.length<=40) (hy:∀ x∈ys,0<=x∧x<gs.length) (hl:ys.length<=2):A2 ys es=some (!ys.all fun x=>dn.getD x.toNat false):=by
 unfold A2 Bd
 have:=Air (body:=fun s_:Nat=>A3 ys es s_) ys (fun x=> !dn.getD x.toNat false) (.next ()) (fun i=>.out (i:Int)) (F:=4611686018427387904) (by omega) (fun j x hx=>by
  have:=Be hx;have hr:=hy x (List.mem_of_getElem? hx);have ho:=h.open_ (k:=x.toNat) (by omega);have hkl:x.toNat<dn.length:=by rw [h.len]; omega
  have hd:dn.getD x.toNat true=dn.getD x.toNat false:=by
   rw [gDg,gDg,gEg hkl]; rfl
  rw [show ((x.toNat:Nat):Int)=x by omega,hd] at ho;unfold A3 Ci;rw [Br (by omega),cond_true,hx,obs,Ap (by unfold H3; omega),ho,obs,Ap (by omega)];cases dn.getD x.toNat false <;> rfl) (by
  unfold A3;rw [Bq (by omega),cond_false])
 have hnot:(ys.any fun x=> !dn.getD x.toNat false)= !ys.all fun x=>dn.getD x.toNat false:=by
  rw [← Aj8,Bool.not_not]
 rw [← hnot];rcases this with ⟨h1,i,hi,h2⟩ | ⟨h1,h2⟩
 ·rw [h2,h1];show some (decide (0<=(i:Int)))=_;rw [Br (by omega)]
 ·rw [h2,h1]; rfl
theorem Ai0 {dn:List Bool} {es:List (Int×Bool)} (h:RelM gs dn es) (hg:okG gs) (hn:gs.length<=40) {k:Nat} (hk:k<gs.length):B8 (k:Int) es i gs outs=some (rdy gs dn k):=by
 unfold B8;have he:=gEg hk;have ho:=hg _ (List.getElem_mem hk);have hc:=h.cm k gs[k] he;generalize gs[k]=e at he ho hc;have hr:rdy gs dn k=(!dn.getD k true&&(opG e).all fun x=>dn.getD x.toNat false):=by unfold rdy; rw [he]
 rw [Ap (by unfold H3; omega),h.open_ hk,hr];cases hd:dn.getD k true
 ·have hcm:=hc hd;rw [Bool.not_false,cond_true,Jo (by omega),Int.toNat_natCast,he,obs,Ah5,obs,hcm,if_pos rfl,Af1 h hn ho (V9 e)];simp
 ·rfl
theorem Anr {dn:List Bool} {es:List (Int×Bool)} (h:RelM gs dn es) (hg:okG gs) (hn:gs.length<=40):A7 ((List.range gs.length).map fun k:Nat=>(k:Int)) es i gs outs=some (enc (nxt gs dn)):=by
 unfold A7;rw [Ags gs.length (rdy gs dn) (.next ()) (fun k=>.out (k:Int)) (by omega) (fun k hk=>?_) ?_]
 ·unfold nxt;cases (List.range gs.length).find? (rdy gs dn) <;> rfl
 ·unfold Bc;rw [Bq (by simp),cond_false]
 ·have hx:((List.range gs.length).map fun k:Nat=>(k:Int))[k]? =some (k:Int):=by simp [hk]
  unfold Bc;rw [Br (by simp; omega),cond_true,hx,obs,Ai0 h hg hn hk,obs,Ap (by omega)];cases rdy gs dn k <;> rfl
theorem Zj (hg:okG gs) (hn:gs.length<=40):∀ (m:Nat) (dn:List Bool) (es:List (Int×Bool)) (out:List Int) (F:Nat),RelM gs dn es->dn.count false<=m->out.length+m<=1000->m+1<=F ->
  Ay (fun s_:List Int×(List (Int×Bool))=>Bs gs i outs s_.1 s_.2) F (out,es)=some (if Ud (run gs m dn).2=true then Ctl.next (out++(run gs m dn).1) else Ctl.out ([],false))
 | m,dn,es,out,F,h,hm,ho,hF=>by
  obtain ⟨F,rfl⟩:∃ F',F=F'+1:=⟨F - 1,by omega⟩
  cases es with
  | nil =>
   have hA:=h.empty
   have hx:nxt gs dn=none:=by
    cases hx:nxt gs dn with
    | none=>rfl
    | some j =>
     obtain ⟨_,h2⟩:=K4 hx;have:=T6 h2 h.len;have:=Qa this;have:=Wp.2 hA;omega
   have hr:run gs m dn=([],dn):=by cases m <;> simp [run,hx]
   rw [hr,hA,if_pos rfl,List.append_nil,Rd (r:=Ctl.next out)];unfold Bs;rw [Bq (by simp),cond_false]
  | cons x es =>
   have hA:=h.some_
   have hb:Bs gs i outs out (x :: es)=match nxt gs dn with | none=>some (Ctl.out (Ctl.out ([],false))) | some j=>some (Ctl.next (out++[(j:Int)],Ii (x :: es) (j:Int))):=by
    unfold Bs;rw [Br (by rw [List.length_cons]; omega),cond_true,Am4 (by omega),obs,Int.toNat_natCast,Anr h hg hn,obs];cases hx:nxt gs dn with
    | none=>rw [Br (by simp [enc]),cond_true]
    | some j =>
     obtain ⟨h1,h2⟩:=K4 hx;rw [Bq (by simp [enc]),cond_false,Ap (by simp only [enc,H3]; omega),Ap (by omega)];rfl
   cases hx:nxt gs dn with
   | none =>
    rw [hx] at hb;have hr:run gs m dn=([],dn):=by cases m <;> simp [run,hx]
    rw [hr,hA,Rd (r:=Ctl.out ([],false)) hb];rfl
   | some j =>
    rw [hx] at hb;obtain ⟨h1,h2⟩:=K4 hx;have hc:=Qa (T6 h2 h.len);rw [U8 (s':=(out++[(j:Int)],Ii (x :: es) (j:Int))) hb];cases m with
    | zero=>omega
    | succ m =>
     rw [Zj hg hn m (dn.set j true) (Ii (x :: es) (j:Int)) (out++[(j:Int)]) F (h.del h1) (by omega) (by simp; omega) (by omega)];simp [run,hx]
theorem Agg (hn:gs.length<=40):∃ es,Ay (fun s_:Nat×(List (Int×Bool))=>Bv gs s_.1 s_.2) 4611686018427387904 (0,[])=some es∧RelM gs (dn0 gs) es:=by
 have key:∃ es,Ay (fun s_:Nat×(List (Int×Bool))=>Bv gs s_.1 s_.2) 4611686018427387904 (0,[])=some es∧((∀ k:Nat,k<gs.length->C4 es (k:Int)=if (dn0 gs).getD k true=true then none else some true)∧∀ e∈es,∃ k:Nat,k<gs.length∧e.1=(k:Int)):=by
  refine Hn (Post:=fun es=>(∀ k:Nat,k<gs.length->C4 es (k:Int)=if (dn0 gs).getD k true=true then none else some true)∧∀ e∈es,∃ k:Nat,k<gs.length∧e.1=(k:Int)) gs.length
   (fun (j:Nat) (s:Nat×(List (Int×Bool)))=>s.1=j∧s.2.length<=j∧(∀ k:Nat,C4 s.2 (k:Int)=if k<j∧(dn0 gs).getD k true=false then some true else none)∧∀ e∈s.2,∃ k:Nat,k<gs.length∧e.1=(k:Int)) (by omega) ⟨rfl,by simp,fun k=>by simp [C4],by simp⟩ ?_ ?_
  ·rintro j ⟨j',es⟩ hj ⟨h1,h2,h3,h4⟩;dsimp only at h1 h2 h3 h4 ⊢;subst j';have hx:=gEg hj;have hd:(dn0 gs).getD j true= !cmG gs[j]:=by simp [dn0,gDg,hx]
   have ho:∀ e:Gt,cmG e=true->0<(opG e).length:=fun e he=>by
    simp only [cmG,Bool.or_eq_true,beq_iff_eq] at he;unfold opG;rcases he with he | he
    ·simp [he]
    ·rw [if_neg (by omega),if_pos (.inl he)]; simp
   generalize gs[j]=e at hx hd;have hj1:j+1<4611686018427387904:=by omega
   unfold Bv;rw [Br (by omega),cond_true,hx,obs,Ah5,obs];refine .inl ?_;cases hc:cmG e
   ·refine ⟨(j+1,es),by simp [Ap hj1],rfl,by dsimp only; omega,fun k=>?_,h4⟩;dsimp only;rw [h3 k];by_cases hk:k=j
    ·subst hk; rw [hd,hc]; simp
    ·simp only [show (k<j+1↔k<j) by omega]
   ·have hp:=ho e hc;have hg2:H3 ((j:Nat):Int)∧es.length<1073741824:=⟨by unfold H3; omega,by omega⟩
    refine ⟨(j+1,Qh es (j:Int) true),?_,rfl,?_,fun k=>?_,fun x hx=>?_⟩
    ·rw [if_pos rfl,Br (by omega),cond_true,Ap hg2,obs,Ap hj1]
    ·have:(Ii es (j:Int)).length<=es.length:=List.length_filter_le _ _;simp only [Qh,List.length_cons]; omega
    ·dsimp only;by_cases hk:k=j
     ·subst hk; rw [Lz,hd,hc]; simp
     ·rw [K1 (by omega),h3 k];simp only [show (k<j+1↔k<j) by omega]
    ·rcases List.mem_cons.1 hx with rfl | hx
     ·exact ⟨j,hj,rfl⟩
     ·exact h4 x (List.mem_filter.1 hx).1
  ·rintro ⟨j',es⟩ ⟨h1,h2,h3,h4⟩;dsimp only at h1 h2 h3 h4 ⊢;subst j';refine ⟨es,?_,fun k hk=>?_,h4⟩
   ·unfold Bv;rw [Bq (by omega),cond_false]
   ·rw [h3 k];cases (dn0 gs).getD k true <;> simp [hk]
 obtain ⟨es,h1,h2,h3⟩:=key;refine ⟨es,h1,by simp [dn0],h2,h3,fun k e hk hd=>?_⟩;have:(dn0 gs).getD k true= !cmG e:=by simp [dn0,gDg,hk]
 rw [this] at hd
 simpa using hd
theorem Xb (hg:okG gs) (hn:gs.length<=40):B4 i gs outs=some (if Ud (Rl gs).2=true then ((Rl gs).1,true) else ([],false)):=by
 unfold B4;obtain ⟨es,h1,h2⟩:=Agg hn;have hc:(dn0 gs).count false<=gs.length:=Nat.le_trans List.count_le_length (by simp [dn0]);rw [h1,obs,Zj hg hn gs.length (dn0 gs) es [] _ h2 hc (by simp; omega) (by omega)];unfold Rl;cases Ud (run gs gs.length (dn0 gs)).2 <;> rfl
theorem U5 (hl:gs.length<=1099511627776) (ho:outs.length<=1099511627776):Dv p i gs outs=some (Q1 p i gs outs):=by
 unfold Dv Q1 Ke;simp only [Yx,obs];cases hp:isF p
 ·rfl
 cases hi:inR i 0 8
 ·rfl
 cases hn:inR gs.length 1 40
 ·rfl
 have hn':=Ef.1 hn;by_cases hs:8<outs.length
 ·simp only [Bool.not_true,cond_false,obs,Br (show (8:Int)<((outs.length:Nat):Int) by omega),cond_true,Bq (show ¬ outs.length<=8 by omega),Bool.and_false,Bool.false_and]
 rw [Wt _ _ (by omega) (by omega)];simp only [Bool.not_true,cond_false,obs,Bq (show ¬ (8:Int)<((outs.length:Nat):Int) by omega),Br (show outs.length<=8 by omega),Bool.true_and];cases hio:outs.all fun x=>inR x 0 ((gs.length:Nat) - 1)
 ·rfl
 simp only [Bool.not_true,cond_false,Bool.true_and];have hF:=Pm hp;have hI:=Ef.1 hi;rw [Qd gs (He p gs.length i) (.next ()) (.out false) (by omega) (fun k x h=>?_) ?_]
 ·cases hgb:gs.all (He p gs.length i)
  ·rfl
  ·have hg:=Acn hgb;simp only [if_true,Ix,obs,Ctl.then];rw [Xb hg (by omega),obs];cases Ud (Rl gs).2 <;> rfl
 ·unfold Em;rw [Bq (by omega),cond_false]
 ·have:=Be h;unfold Em;rw [Br (by omega),cond_true,h,obs,Ai9 hF hI (by omega),obs,Ap (by omega)];cases He p gs.length i x <;> rfl
end
end
section
section
variable {p i:Int} {gs:List Gt} {outs:List Int}
structure Hq (p i:Int) (gs:List Gt) (outs:List Int):Prop where
 fp:isF p=true
 hp:2<=p∧p<=97
 hi:0<=i∧i<=8
 hn:1<=gs.length∧gs.length<=40
 ho:outs.length<=8
 io:∀ x∈outs,0<=x∧x<gs.length
 ga:gs.all (He p gs.length i)=true
 al:Ud (Rl gs).2=true
theorem Ua:Q1 p i gs outs=true↔Hq p i gs outs:=by
 simp only [Q1,Bool.and_eq_true,decide_eq_true_eq,Ef];constructor
 ·rintro ⟨h1,h2,h3,h4,h5,h6,h7⟩;refine ⟨h1,Pm h1,h2,by omega,h4,fun x hx=>?_,h6,h7⟩;have:=Ef.1 (List.all_eq_true.1 h5 x hx);omega
 ·rintro ⟨h1,_,h2,h3,h4,h5,h6,h7⟩;refine ⟨h1,h2,by omega,h4,List.all_eq_true.2 fun x hx=>Ef.2 ?_,h6,h7⟩;have:=h5 x hx;omega
end
def gtD (l:List Int) (x:Int):Int:=l.getD x.toNat 0
theorem Ea {l:List Int} {x:Int} (h:0<=x∧x<l.length):Gv l x=some (gtD l x):=by
 have hx:x.toNat<l.length:=by omega
 rw [Jo h.1,gtD,gDg,gEg hx]; rfl
theorem Yt {l:List Int} {x:Int} (h:0<=x∧x<l.length):l[x.toNat]? =some (gtD l x):=by
 rw [← Jo h.1,Ea h]
section
variable {p i:Int} {gs:List Gt} {outs:List Int}
theorem U7 {n:Int} {e:Gt} (h:He p n i e=true) (h1:e.1=1):0<=e.2.2.2∧e.2.2.2<i:=by
 simp only [He,Bool.and_eq_true] at h;obtain ⟨_,_,h⟩:=h;rw [if_pos h1,Bool.and_eq_true,Ef] at h;omega
def gtG (gs:List Gt) (x:Int):Gt:=gs.getD x.toNat (0,0,0,0)
theorem W3 {x:Int} (h:0<=x∧x<gs.length):Gv gs x=some (gtG gs x):=by
 have hx:x.toNat<gs.length:=by omega
 rw [Jo h.1,gtG,gDg,gEg hx]; rfl
theorem Wb {x:Int} (h:0<=x∧x<gs.length):gtG gs x∈gs:=by
 have hx:x.toNat<gs.length:=by omega
 rw [gtG,gDg,gEg hx];exact List.getElem_mem hx
theorem T1 {n:Int} {e:Gt} (h:He p n i e=true):(∀ x∈opG e,0<=x∧x<n)∧(e.1≠3->e.2.2.1=0)∧(e.1=4->0<=e.2.2.2∧e.2.2.2<p):=by
 simp only [He,Bool.and_eq_true,List.all_eq_true,Ef,Bool.or_eq_true,beq_iff_eq] at h;obtain ⟨h1,h2,h3⟩:=h;refine ⟨fun x hx=>by have:=h1 x hx; omega,fun h=>by omega,fun h4=>?_⟩;rw [if_neg (by omega),if_neg (by omega),if_neg (by omega),if_pos h4,Ef] at h3;omega
end
end
section
def inP (p:Int) (l:List Int):Prop:=∀ x∈l,0<=x∧x<p
theorem L1 {p:Int} {l:List Int} (h:inP p l) {x:Int} (hx:0<=x∧x<l.length):0<=gtD l x∧gtD l x<p:=by
 have hx':x.toNat<l.length:=by omega
 rw [gtD,gDg,gEg hx'];exact h _ (List.getElem_mem hx')
theorem Aeb {p:Int} {l:List Int} (h:inP p l) {k:Nat} {v:Int} (hv:0<=v∧v<p):inP p (l.set k v):=fun y hy=>by
 rcases List.mem_or_eq_of_mem_set hy with h1 | rfl
 ·exact h y h1
 ·exact hv
def Cj (ps:List (Nat×Int)) (v:List Int):List Int:=ps.foldl (fun v e=>v.set e.1 e.2) v
theorem Ep:∀ (ps:List (Nat×Int)) (v:List Int),(Cj ps v).length=v.length
 | [],_=>rfl
 | a :: ps,v=>by
  show (Cj ps (v.set a.1 a.2)).length=_;rw [Ep ps,List.length_set]
theorem Abu:∀ (ps:List (Nat×Int)) (v:List Int) (i:Nat) (x:Int),(∀ a∈ps,a.1≠i)->Cj ps (v.set i x)=(Cj ps v).set i x
 | [],_,_,_,_=>rfl
 | a :: ps,v,i,x,h=>by
  show Cj ps ((v.set i x).set a.1 a.2)=(Cj ps (v.set a.1 a.2)).set i x;rw [List.set_comm _ _ (fun e=>h a (List.mem_cons_self ..) e.symm),Abu ps _ i x fun b hb=>h b (List.mem_cons_of_mem _ hb)]
theorem Y9:∀ (qs ps:List (Nat×Int)) (v:List Int),(∀ a∈ps,∀ b∈qs,a.1≠b.1)->Cj ps (Cj qs v)=Cj qs (Cj ps v)
 | [],_,_,_=>rfl
 | b :: qs,ps,v,h=>by
  show Cj ps (Cj qs (v.set b.1 b.2))=Cj qs ((Cj ps v).set b.1 b.2);rw [Y9 qs ps _ fun a ha c hc=>h a ha c (List.mem_cons_of_mem _ hc),Abu ps v b.1 b.2 fun a ha=>h a ha b (List.mem_cons_self ..)]
theorem Ab6 (ps qs:List (Nat×Int)) (v:List Int):Cj (ps++qs) v=Cj qs (Cj ps v):=List.foldl_append
theorem T0 {p:Int}:∀ (ps:List (Nat×Int)) (v:List Int),(∀ a∈ps,0<=a.2∧a.2<p)->inP p v->inP p (Cj ps v)
 | [],_,_,h=>h
 | a :: ps,v,ha,h=>T0 ps _ (fun b hb=>ha b (List.mem_cons_of_mem _ hb)) (Aeb h (ha a (List.mem_cons_self ..)))
section
variable {p i:Int} {gs:List Gt} {outs st ins:List Int}
theorem Adr {k:Nat} {e:Gt} (h:gs[k]? =some e):gtG gs (k:Int)=e:=by
 rw [gtG,Int.toNat_natCast,gDg,h]; rfl
def dlL (gs:List Gt) (k:Nat):List Int:=((List.range k).map fun t:Nat=>(t:Int)).filter fun x=>(gtG gs x).1==5
def dl (gs:List Gt):List Int:=dlL gs gs.length
theorem Ala (k:Nat):dlL gs (k+1)=dlL gs k++(if (gtG gs (k:Int)).1==5 then [(k:Int)] else []):=by
 unfold dlL;rw [List.range_succ,List.map_append,List.filter_append];congr 1;simp only [List.map_cons,List.map_nil,List.filter_cons,List.filter_nil]
theorem J6 (k:Nat):(dlL gs k).length<=k:=by
 refine Nat.le_trans (List.length_filter_le _ _) ?_;simp
theorem Zb {x:Int} (h:x∈dl gs):(0<=x∧x<gs.length)∧(gtG gs x).1=5:=by
 unfold dl dlL at h;obtain ⟨h1,h2⟩:=List.mem_filter.1 h;obtain ⟨t,ht,rfl⟩:=List.mem_map.1 h1;have:=List.mem_range.1 ht;exact ⟨by omega,by simpa using h2⟩
theorem Nj (hn:gs.length<=40):Cp i gs outs=some (dl gs):=by
 unfold Cp;rw [Bu (s0:=(0,[])) gs.length (fun k=>(k,dlL gs k)) (by omega) (dl gs) rfl (fun k hk=>?_) ?_]
 ·rfl
 ·try dsimp only
  unfold Fa;rw [Bq (by omega),cond_false]; rfl
 ·have hx:=gEg hk;have hg:=Adr hx;have hl:=J6 (gs:=gs) k;have ho:(dlL gs k).length+1<=1073741824∧((dlL gs k).length+1)*8<=140737488355328:=by omega
  try dsimp only
  unfold Fa;rw [Br (by omega),cond_true,hx,obs,Ala,hg];cases hb:gs[k].1==5
  ·simp [Ap (show k+1<4611686018427387904 by omega)]
  ·simp only [cond_true,if_true];rw [Ap ho,obs,Ap (by omega)]
theorem Afy (hn:gs.length<=40):C3 i gs outs=some (dl gs):=Nj (i:=i) (outs:=outs) hn
def psA (gs:List Gt) (ins:List Int) (k:Nat):List (Nat×Int):=((List.range k).filter fun j:Nat=>(gtG gs (j:Int)).1==1).map fun j:Nat=>(j,gtD ins (gtG gs (j:Int)).2.2.2)
theorem Aj0 (k:Nat):psA gs ins (k+1)=psA gs ins k++(if (gtG gs (k:Int)).1==1 then [(k,gtD ins (gtG gs (k:Int)).2.2.2)] else []):=by
 unfold psA;rw [List.range_succ,List.filter_append,List.map_append];congr 1;simp only [List.filter_cons,List.filter_nil];cases (gtG gs (k:Int)).1==1 <;> rfl
def psB (ds st:List Int) (k:Nat):List (Nat×Int):=(List.range k).map fun t:Nat=>((gtD ds (t:Int)).toNat,gtD st (t:Int))
theorem Ajd {ds:List Int} (k:Nat):psB ds st (k+1)=psB ds st k++[((gtD ds (k:Int)).toNat,gtD st (k:Int))]:=by
 unfold psB;rw [List.range_succ,List.map_append]; rfl
theorem Ah3 (G:Hq p i gs outs) (hi:((ins.length:Nat):Int)=i) {v:List Int} (hv:v.length=gs.length):Ay (fun s_:Nat×List Int=>Ew gs ins s_.1 s_.2) 4611686018427387904 (0,v)=some (Cj (psA gs ins gs.length) v):=by
 have hn:=G.hn;refine Bu gs.length (fun k=>(k,Cj (psA gs ins k) v)) (by omega) _ rfl (fun k hk=>?_) ?_
 ·have hx:=gEg hk;have hg:=Adr hx;have hb:=List.all_eq_true.1 G.ga _ (List.getElem_mem hk);have hin:=U7 hb;generalize gs[k]=e at hx hg hin;have hl:(Cj (psA gs ins k) v).length=gs.length:=by rw [Ep,hv]
  try dsimp only
  unfold Ew;rw [Br (by omega),cond_true,hx,obs,Aj0,hg,Ab6];by_cases h1:e.1=1
  ·have hval:=hin h1;rw [Ea (l:=ins) (by omega),gEg (by omega)];simp only [h1,beq_self_eq_true,cond_true,obs,if_true];rw [Ap (by omega)];rfl
  ·have b1:=beq_eq_false_iff_ne.2 h1;simp only [b1,cond_false,obs];rw [Ap (by omega)];rfl
 ·try dsimp only
  unfold Ew;rw [Bq (by omega),cond_false]
theorem Ah7 {ds:List Int} (hn:gs.length<=40) (hd:∀ x∈ds,0<=x∧x<gs.length) (hs:st.length=ds.length) (hdl:ds.length<=40) {v:List Int} (hv:v.length=gs.length):Ay (fun s_:Nat×List Int=>Eo ds st s_.1 s_.2) 4611686018427387904 (0,v)=some (Cj (psB ds st ds.length) v):=by
 refine Bu ds.length (fun k=>(k,Cj (psB ds st k) v)) (by omega) _ rfl (fun k hk=>?_) ?_
 ·have h1:ds[k]? =some (gtD ds (k:Int)):=by have:=Yt (l:=ds) (x:=(k:Int)) (by omega); rwa [Int.toNat_natCast] at this
  have h2:st[k]? =some (gtD st (k:Int)):=by have:=Yt (l:=st) (x:=(k:Int)) (by omega); rwa [Int.toNat_natCast] at this
  have hr:=hd _ (List.mem_of_getElem? h1);have hl:(Cj (psB ds st k) v).length=gs.length:=by rw [Ep,hv]
  try dsimp only
  unfold Eo;rw [Br (by omega),cond_true,h1,obs,h2,obs,Ea (by omega),obs,Ap (by omega),Ajd,Ab6];rfl
 ·try dsimp only
  unfold Eo;rw [Bq (by omega),cond_false]
def G8 (p:Int) (gs:List Gt) (v:List Int) (x:Int):List Int :=
 if (gtG gs x).1=3 then v.set x.toNat ((gtD v (gtG gs x).2.1+gtD v (gtG gs x).2.2.1) % p) else v.set x.toNat (((gtG gs x).2.2.2*gtD v (gtG gs x).2.1) % p)
theorem Ai3 (v:List Int) (x:Int):(G8 p gs v x).length=v.length:=by unfold G8; split <;> simp
theorem Aix (hp:2<=p) {v:List Int} (h:inP p v) (x:Int):inP p (G8 p gs v x):=by
 have m1:∀ x:Int,0<=x % p∧x % p<p:=fun x=>⟨Int.emod_nonneg x (by omega),Int.emod_lt_of_pos x (by omega)⟩
 unfold G8; split <;> exact Aeb h (m1 _)
theorem P3:∀ (os v:List Int),(os.foldl (G8 p gs) v).length=v.length
 | [],_=>rfl
 | x :: os,v=>by rw [List.foldl_cons,P3 os,Ai3]
theorem Qf (hp:2<=p):∀ (os v:List Int),inP p v->inP p (os.foldl (G8 p gs) v)
 | [],_,h=>h
 | x :: os,v,h=>by rw [List.foldl_cons]; exact Qf hp os _ (Aix hp h x)
def okO (gs:List Gt) (os:List Int):Prop:=∀ x∈os,(0<=x∧x<gs.length)∧cmG (gtG gs x)=true
theorem Ak1:∀ (m:Nat) (dn:List Bool),dn.length=gs.length->(∀ (k:Nat) (e:Gt),gs[k]? =some e->dn.getD k true=false->cmG e=true)->okO gs (run gs m dn).1
 | 0,_,_,_=>fun x hx=>by cases hx
 | m+1,dn,hl,hc=>by
  unfold run;cases hx:nxt gs dn with
  | none=>exact fun x hx=>by cases hx
  | some j =>
   obtain ⟨h1,h2⟩:=K4 hx;have hd:=T6 h2 hl;intro x hx;rcases List.mem_cons.1 hx with rfl | hx
   ·have he:=gEg h1;refine ⟨by omega,?_⟩;rw [Adr he];exact hc j _ he (by rw [gDg,hd]; rfl)
   ·refine Ak1 m (dn.set j true) (by simp [hl]) (fun k e hk hdk=>?_) x hx;rw [Yw (by omega)] at hdk;by_cases e':k=j
    ·rw [if_pos e'] at hdk; cases hdk
    ·rw [if_neg e'] at hdk; exact hc k e hk hdk
theorem Ak9:okO gs (Rl gs).1:=Ak1 gs.length (dn0 gs) (by simp [dn0]) fun k e hk hd=>by
 have:(dn0 gs).getD k true= !cmG e:=by simp [dn0,gDg,hk]
 rw [this] at hd
 simpa using hd
theorem Ahz (hn:gs.length<=40):(Rl gs).1.length<=40:=by
 have:=Aly (gs:=gs) (m:=gs.length) (dn:=dn0 gs) (by simp [dn0]) (Nat.le_trans List.count_le_length (by simp [dn0]));unfold Rl; omega
theorem Ahi (G:Hq p i gs outs) {x:Int} (hx:0<=x∧x<gs.length) (hc:cmG (gtG gs x)=true):((gtG gs x).1=3∧(0<=(gtG gs x).2.1∧(gtG gs x).2.1<gs.length)∧0<=(gtG gs x).2.2.1∧(gtG gs x).2.2.1<gs.length)∨((gtG gs x).1=4∧(0<=(gtG gs x).2.1∧(gtG gs x).2.1<gs.length)∧0<=(gtG gs x).2.2.2∧(gtG gs x).2.2.2<p):=by
 have hb:=T1 (List.all_eq_true.1 G.ga _ (Wb hx));generalize gtG gs x=e at hb hc;simp only [cmG,Bool.or_eq_true,beq_iff_eq] at hc;rcases hc with h3 | h4
 ·exact .inl ⟨h3,hb.1 _ (by simp [opG,h3]),hb.1 _ (by simp [opG,h3])⟩
 ·exact .inr ⟨h4,hb.1 _ (by simp [opG,h4]),hb.2.2 h4⟩
theorem Amg (G:Hq p i gs outs) {os v:List Int} (hok:okO gs os) (hol:os.length<=40) (hv:v.length=gs.length) (hvP:inP p v):Ay (fun s_:Nat×List Int=>Dt os gs p s_.1 s_.2) 4611686018427387904 (0,v)=some (os.foldl (G8 p gs) v):=by
 have hn:=G.hn; have hp:=G.hp;rw [Bu (s0:=(0,v)) os.length (fun k=>(k,(os.take k).foldl (G8 p gs) v)) (by omega) (os.foldl (G8 p gs) v) (by simp) (fun k hk=>?_) ?_]
 ·try dsimp only
  unfold Dt;rw [Bq (by omega),cond_false,List.take_length]
 ·have hx:=gEg hk;obtain ⟨hr,hc⟩:=hok _ (List.getElem_mem hk);generalize os[k]=x at hx hr hc;have hgo:=Ahi G hr hc;have hl:=P3 (p:=p) (gs:=gs) (os.take k) v;have hP:=Qf (gs:=gs) hp.1 (os.take k) v hvP;rw [List.take_add_one,hx,List.foldl_append];generalize (os.take k).foldl (G8 p gs) v=u at hl hP;show Dt os gs p k u=some (Ctl.next (k+1,G8 p gs u x));unfold Dt G8;rw [Br (by omega),cond_true,hx,obs,W3 hr,obs,Ea (l:=u) (x:=x) (by omega)];generalize gtG gs x=e at hgo;rcases hgo with ⟨h3,hA,hB⟩ | ⟨h4,hA,hV⟩
  ·rw [Ea (l:=u) (x:=e.2.1) (by omega),Ea (l:=u) (x:=e.2.2.1) (by omega),if_pos h3];simp only [h3,beq_self_eq_true,cond_true,obs];rw [Als hp (L1 hP (by omega)) (L1 hP (by omega)),obs,obs,Ap (by omega)]
  ·have h3:e.1≠3:=by omega
   have b3:=beq_eq_false_iff_ne.2 h3;rw [Ea (l:=u) (x:=e.2.1) (by omega),if_neg h3,b3,cond_false,obs,Ame hp hV (L1 hP (by omega)),obs,obs,obs,Ap (by omega)]
theorem Ajk (G:Hq p i gs outs) {os v:List Int} {b:Bool} (hok:okO gs os) (hol:os.length<=40) (hv:v.length=gs.length) (hvP:inP p v):Ay (fun s_:Nat×List Int=>B7 (os,b) gs p s_.1 s_.2) 4611686018427387904 (0,v)=some (os.foldl (G8 p gs) v):=by
 have hn:=G.hn; have hp:=G.hp;rw [Bu (s0:=(0,v)) os.length (fun k=>(k,(os.take k).foldl (G8 p gs) v)) (by omega) (os.foldl (G8 p gs) v) (by simp) (fun k hk=>?_) ?_]
 ·unfold B7;dsimp only;rw [Bq (by omega),cond_false,List.take_length]
 ·have hx:=gEg hk;obtain ⟨hr,hc⟩:=hok _ (List.getElem_mem hk);generalize os[k]=x at hx hr hc;have hgo:=Ahi G hr hc;have hl:=P3 (p:=p) (gs:=gs) (os.take k) v;have hP:=Qf (gs:=gs) hp.1 (os.take k) v hvP;rw [List.take_add_one,hx,List.foldl_append];generalize (os.take k).foldl (G8 p gs) v=u at hl hP;show B7 (os,b) gs p k u=some (Ctl.next (k+1,G8 p gs u x));unfold B7 G8;dsimp only;rw [Br (by omega),cond_true,hx,obs,W3 hr,obs,Ea (l:=u) (x:=x) (by omega)];generalize gtG gs x=e at hgo;rcases hgo with ⟨h3,hA,hB⟩ | ⟨h4,hA,hV⟩
  ·have q1:=L1 hP (x:=e.2.1) (by omega);have q2:=L1 hP (x:=e.2.2.1) (by omega);rw [Ea (l:=u) (x:=e.2.1) (by omega),Ea (l:=u) (x:=e.2.2.1) (by omega),if_pos h3];simp only [h3,beq_self_eq_true,cond_true,obs];rw [D2 (n:=gtD u e.2.1+gtD u e.2.2.1) (by omega) (by omega),Aka hp,obs,obs,Ap (by omega)]
  ·have h3:e.1≠3:=by omega
   have b3:=beq_eq_false_iff_ne.2 h3;have q1:=L1 hP (x:=e.2.1) (by omega);have hm:=Acj hp hV q1;rw [Ea (l:=u) (x:=e.2.1) (by omega),if_neg h3,b3,cond_false,obs,D2 (n:=e.2.2.2*gtD u e.2.1) (by omega) (by omega),Aka hp,obs,obs,obs,Ap (by omega)]
def Vb (gs:List Gt) (v:List Int):List Int:=(dl gs).map fun d=>gtD v (gtG gs d).2.1
theorem Ahg (G:Hq p i gs outs) {v:List Int} (hv:v.length=gs.length):Ay (fun s_:Nat×List Int=>E1 (dl gs) gs v s_.1 s_.2) 4611686018427387904 (0,[])=some ([]++Vb gs v):=by
 have hn:=G.hn;have hdl:(dl gs).length<=40:=Nat.le_trans (J6 _) hn.2;refine Iw (dl gs) (fun d=>gtD v (gtG gs d).2.1) [] (by omega) _ (fun j d h=>?_) ?_
 ·have hlt:=Be h;obtain ⟨hr,h5⟩:=Zb (List.mem_of_getElem? h);have hb:=T1 (List.all_eq_true.1 G.ga _ (Wb hr));have hA:=hb.1 (gtG gs d).2.1 (by simp [opG,h5])
  try dsimp only
  unfold E1;rw [Br (by omega),cond_true,h,obs,W3 hr,obs,Ea (by omega),obs,Ap (by simp; omega),Ap (by omega)]
 ·try dsimp only
  unfold E1;rw [Bq (by omega),cond_false]; rfl
theorem Aoa {v:List Int} (ho:outs.length<=8) (hi:∀ x∈outs,0<=x∧x<v.length):Gr outs v=some (outs.map (gtD v)):=by
 unfold Gr
 have key:Ay (fun s_:Nat×List Int=>E2 outs v s_.1 s_.2) 4611686018427387904 (0,[])=some ([]++outs.map (gtD v)):=by
  refine Iw outs (gtD v) [] (by omega) _ (fun j x h=>?_) ?_
  ·have hlt:=Be h;have h1:=hi x (List.mem_of_getElem? h)
   try dsimp only
   unfold E2;rw [Br (by omega),cond_true,h,obs,Ea h1,obs,Ap (by simp; omega),Ap (by omega)]
  ·try dsimp only
   unfold E2;rw [Bq (by omega),cond_false]
 rw [key]; rfl
theorem Ajr {v:List Int} (ho:outs.length<=8) (hi:∀ x∈outs,0<=x∧x<v.length):Hc v outs=some (outs.map (gtD v)):=by
 unfold Hc;rw [Ap (by omega)]
 have key:Ay (fun s_:Nat×List Int=>En outs v s_.1 s_.2) 4611686018427387904 (0,List.replicate 0 (0:Int))=some ([]++outs.map (gtD v)):=by
  refine Iw outs (gtD v) [] (by omega) _ (fun j x h=>?_) ?_
  ·have hlt:=Be h;have h1:=hi x (List.mem_of_getElem? h)
   try dsimp only
   unfold En;rw [Br (by omega),cond_true,h,obs,Ea h1,obs,Ap (by simp; omega),Ap (by omega)]
  ·try dsimp only
   unfold En;rw [Bq (by omega),cond_false]
 rw [key]; rfl
def Uo (p:Int) (gs:List Gt) (st ins:List Int):List Int:=(Rl gs).1.foldl (G8 p gs) (Cj (psB (dl gs) st (dl gs).length) (Cj (psA gs ins gs.length) (List.replicate gs.length 0)))
theorem Ahk {a:Nat×Int} (h:a∈psA gs ins gs.length):∃ j:Nat,j<gs.length∧(gtG gs (j:Int)).1=1∧a=(j,gtD ins (gtG gs (j:Int)).2.2.2):=by
 unfold psA at h;obtain ⟨j,hj,rfl⟩:=List.mem_map.1 h;obtain ⟨h1,h2⟩:=List.mem_filter.1 hj;exact ⟨j,List.mem_range.1 h1,by simpa using h2,rfl⟩
theorem Ahn {a:Nat×Int} (hs:st.length=(dl gs).length) (h:a∈psB (dl gs) st (dl gs).length):∃ d,d∈dl gs∧a.1=d.toNat∧∃ t:Nat,t<st.length∧a.2=gtD st (t:Int):=by
 unfold psB at h;obtain ⟨t,ht,rfl⟩:=List.mem_map.1 h;have ht:=List.mem_range.1 ht;refine ⟨gtD (dl gs) (t:Int),?_,rfl,t,by omega,rfl⟩;have:=Yt (l:=dl gs) (x:=(t:Int)) (by omega);exact List.mem_of_getElem? this
theorem Alu (hs:st.length=(dl gs).length) (v:List Int):Cj (psA gs ins gs.length) (Cj (psB (dl gs) st (dl gs).length) v)=Cj (psB (dl gs) st (dl gs).length) (Cj (psA gs ins gs.length) v):=by
 refine Y9 _ _ _ fun a ha b hb e=>?_
 obtain ⟨j,hj,h1,rfl⟩:=Ahk ha;obtain ⟨d,hd,hb1,_⟩:=Ahn hs hb;obtain ⟨hr,h5⟩:=Zb hd;dsimp only at e;have:(j:Int)=d:=by omega
 rw [this,h5] at h1;omega
theorem Ag1 (G:Hq p i gs outs) (hs:st.length=(dl gs).length) (hsP:inP p st) (hi:((ins.length:Nat):Int)=i) (hiP:inP p ins):inP p (Cj (psB (dl gs) st (dl gs).length) (Cj (psA gs ins gs.length) (List.replicate gs.length 0))):=by
 have hp:=G.hp;refine T0 _ _ (fun a ha=>?_) (T0 _ _ (fun a ha=>?_) fun x hx=>?_)
 ·obtain ⟨_,_,_,t,ht,e⟩:=Ahn hs ha;rw [e]; exact L1 hsP (by omega)
 ·obtain ⟨j,hj,h1,rfl⟩:=Ahk ha;have hb:=List.all_eq_true.1 G.ga _ (Wb (gs:=gs) (x:=(j:Int)) (by omega));have:=U7 hb h1;exact L1 hiP (by omega)
 ·obtain rfl:=List.eq_of_mem_replicate hx; omega
theorem Ov:(Uo p gs st ins).length=gs.length:=by
 unfold Uo;rw [P3,Ep,Ep,List.length_replicate]
theorem Afs (G:Hq p i gs outs) (hs:st.length=(dl gs).length) (hsP:inP p st) (hi:((ins.length:Nat):Int)=i) (hiP:inP p ins):Fr p i gs outs st ins=some (Vb gs (Uo p gs st ins),outs.map (gtD (Uo p gs st ins))):=by
 have hn:=G.hn;have hdl:(dl gs).length<=40:=Nat.le_trans (J6 _) hn.2;unfold Fr
 rw [Ap (by omega),Ah3 G hi (by simp),obs,Nj hn.2,obs,Ah7 hn.2 (fun x hx=>(Zb hx).1) hs hdl (by rw [Ep]; simp),obs,
  Ab2 (Acn G.ga) hn.2,obs,Amg G Ak9 (Ahz hn.2) (by rw [Ep,Ep]; simp) (Ag1 G hs hsP hi hiP),obs]
 have hv:(List.foldl (G8 p gs) (Cj (psB (dl gs) st (dl gs).length) (Cj (psA gs ins gs.length) (List.replicate gs.length 0))) (Rl gs).1)=Uo p gs st ins:=rfl;rw [hv,obs,Ahg G Ov,obs,Aoa G.ho (by rw [Ov]; exact G.io)];rfl
theorem U9 (G:Hq p i gs outs) (hs:st.length=(dl gs).length) (hsP:inP p st) (hi:((ins.length:Nat):Int)=i) (hiP:inP p ins):Co i gs outs p st ins=some (Vb gs (Uo p gs st ins),outs.map (gtD (Uo p gs st ins))):=by
 have hn:=G.hn;have hdl:(dl gs).length<=40:=Nat.le_trans (J6 _) hn.2;have hB:Ay (fun s_:Nat×List Int=>Fb (dl gs) st s_.1 s_.2) 4611686018427387904 (0,List.replicate gs.length 0)=some (Cj (psB (dl gs) st (dl gs).length) (List.replicate gs.length 0)):=Ah7 hn.2 (fun x hx=>(Zb hx).1) hs hdl (by simp);have hA:Ay (fun s_:Nat×List Int=>E9 gs ins s_.1 s_.2) 4611686018427387904 (0,Cj (psB (dl gs) st (dl gs).length) (List.replicate gs.length 0))=some (Cj (psA gs ins gs.length) (Cj (psB (dl gs) st (dl gs).length) (List.replicate gs.length 0))):=Ah3 G hi (by rw [Ep]; simp);have hN:Ay (fun s_:Nat×List Int=>Fd (dl gs) gs (Uo p gs st ins) s_.1 s_.2) 4611686018427387904 (0,[])=some ([]++Vb gs (Uo p gs st ins)):=Ahg G Ov;unfold Co
 rw [P4 (by omega),obs,Afy hn.2,obs,Int.toNat_natCast,hB,obs,hA,obs,Alu hs,Xb (Acn G.ga) hn.2,if_pos G.al,obs,
  Ajk G Ak9 (Ahz hn.2) (by rw [Ep,Ep]; simp) (Ag1 G hs hsP hi hiP),obs]
 have hv:(List.foldl (G8 p gs) (Cj (psB (dl gs) st (dl gs).length) (Cj (psA gs ins gs.length) (List.replicate gs.length 0))) (Rl gs).1)=Uo p gs st ins:=rfl;rw [hv,hN,obs,Ajr G.ho (by rw [Ov]; exact G.io)];rfl
end
end
section
def uV (n k:Nat):List Int:=(List.replicate n 0).set k 1
theorem Tr (n k:Nat):(uV n k).length=n:=by simp [uV]
theorem Rk {p:Int} (hp:2<=p) (n:Nat):inP p (List.replicate n 0):=fun x hx=>by obtain rfl:=(List.mem_replicate.1 hx).2; omega
theorem Ts {p:Int} (hp:2<=p) (n k:Nat):inP p (uV n k):=Aeb (Rk hp n) (by omega)
theorem Aey {a b:Int} (h:0<=b∧b<a) (ha:a<=1000):Dq a b=some (uV a.toNat b.toNat):=by
 unfold Dq;rw [Ap (by omega),Jo h.1,List.getElem?_replicate,if_pos (by omega),obs]; rfl
theorem Aj9 {a b:Int} (h:0<=b∧b<a) (ha:a<=1000):E5 a b=some (uV a.toNat b.toNat):=by
 unfold E5;rw [P4 (by omega),obs,Jo h.1,List.getElem?_replicate,if_pos (by omega),obs]; rfl
section
variable {p i:Int} {gs:List Gt} {outs:List Int}
def nxO (p:Int) (gs:List Gt) (outs st ins:List Int):List Int×List Int:=(Vb gs (Uo p gs st ins),outs.map (gtD (Uo p gs st ins)))
def Alr (p i:Int) (gs:List Gt) (outs:List Int) (k:Nat):List Int×List Int:=nxO p gs outs (uV (dl gs).length k) (List.replicate i.toNat 0)
def Alp (p i:Int) (gs:List Gt) (outs:List Int) (k:Nat):List Int×List Int:=nxO p gs outs (List.replicate (dl gs).length 0) (uV i.toNat k)
def Aaz (p i:Int) (gs:List Gt) (outs:List Int) (n:Nat):List (List Int):=(List.range n).map fun k=>(Alr p i gs outs k).1
def Aa8 (p i:Int) (gs:List Gt) (outs:List Int) (n:Nat):List (List Int):=(List.range n).map fun k=>(Alr p i gs outs k).2
def Abe (p i:Int) (gs:List Gt) (outs:List Int) (n:Nat):List (List Int):=(List.range n).map fun k=>(Alp p i gs outs k).1
def Zw (p i:Int) (gs:List Gt) (outs:List Int) (n:Nat):List (List Int):=(List.range n).map fun k=>(Alp p i gs outs k).2
theorem R3 {α:Type} (f:Nat->α) (k:Nat):(List.range (k+1)).map f=(List.range k).map f++[f k]:=by rw [List.range_succ,List.map_append]; rfl
theorem Hk {α:Type} (f:Nat->α) (k:Nat):((List.range k).map f).length=k:=by simp
theorem Ajs (G:Hq p i gs outs) (st ins:List Int):(nxO p gs outs st ins).1.length<=40∧(nxO p gs outs st ins).2.length<=8:=by
 refine ⟨?_,?_⟩
 ·show (Vb gs _).length<=40;unfold Vb;rw [List.length_map];exact Nat.le_trans (J6 _) G.hn.2
 ·show (outs.map _).length<=8;rw [List.length_map]; exact G.ho
theorem Anv (G:Hq p i gs outs):Ay (fun s_:Nat×List (List Int)×List (List Int)=>C2 (dl gs) i p gs outs s_.1 s_.2.1 s_.2.2) 4611686018427387904 (0,[],[])=some (Aaz p i gs outs (dl gs).length,Aa8 p i gs outs (dl gs).length):=by
 have hi:=G.hi; have hn:=G.hn; have hp:=G.hp;have hdl:(dl gs).length<=40:=Nat.le_trans (J6 _) hn.2;refine Bu (dl gs).length (fun k=>(k,Aaz p i gs outs k,Aa8 p i gs outs k)) (by omega) _ rfl (fun k hk=>?_) ?_
 ·have hs:=Afs (st:=uV (dl gs).length k) (ins:=List.replicate i.toNat 0) G (Tr _ _) (Ts hp.1 _ _) (by simp; omega) (Rk hp.1 _);have hl:=Ajs G (uV (dl gs).length k) (List.replicate i.toNat 0);have hu:Dq (((dl gs).length:Nat):Int) ((k:Nat):Int)=some (uV (dl gs).length k):=Aey (by omega) (by omega)
  try dsimp only
  unfold C2;rw [Br (by omega),cond_true,hu,obs,Ap (by omega),hs,obs,S4 _ (by have:=hl.1; show (nxO p gs outs _ _).1.length<=_; omega),obs,Ap (by simp only [Aaz,Hk]; omega),S4 _ (by have:=hl.2; show (nxO p gs outs _ _).2.length<=_; omega),obs,Ap (by simp only [Aa8,Hk]; omega),Ap (by omega)];simp only [Aaz,Aa8,R3]; rfl
 ·try dsimp only
  unfold C2;rw [Bq (by omega),cond_false]
theorem Anu (G:Hq p i gs outs):Ay (fun s_:Nat×List (List Int)×List (List Int)=>Cb (dl gs) i gs outs p s_.1 s_.2.1 s_.2.2) 4611686018427387904 (0,[],[])=some (Aaz p i gs outs (dl gs).length,Aa8 p i gs outs (dl gs).length):=by
 have hi:=G.hi; have hn:=G.hn; have hp:=G.hp;have hdl:(dl gs).length<=40:=Nat.le_trans (J6 _) hn.2;refine Bu (dl gs).length (fun k=>(k,Aaz p i gs outs k,Aa8 p i gs outs k)) (by omega) _ rfl (fun k hk=>?_) ?_
 ·have hs:=U9 (st:=uV (dl gs).length k) (ins:=List.replicate i.toNat 0) G (Tr _ _) (Ts hp.1 _ _) (by simp; omega) (Rk hp.1 _);have hu:E5 (((dl gs).length:Nat):Int) ((k:Nat):Int)=some (uV (dl gs).length k):=Aj9 (by omega) (by omega)
  try dsimp only
  unfold Cb;rw [Br (by omega),cond_true,hu,obs,P4 (by omega),obs,hs,obs,Ap (by simp only [Aaz,Hk]; omega),Ap (by simp only [Aa8,Hk]; omega),Ap (by omega)];simp only [Aaz,Aa8,R3]; rfl
 ·try dsimp only
  unfold Cb;rw [Bq (by omega),cond_false]
theorem Anz (G:Hq p i gs outs):Ay (fun s_:Nat×List (List Int)×List (List Int)=>C1 i (dl gs) p gs outs s_.1 s_.2.1 s_.2.2) 4611686018427387904 (0,[],[])=some (Abe p i gs outs i.toNat,Zw p i gs outs i.toNat):=by
 have hi:=G.hi; have hn:=G.hn; have hp:=G.hp;have hdl:(dl gs).length<=40:=Nat.le_trans (J6 _) hn.2;refine Bu i.toNat (fun k=>(k,Abe p i gs outs k,Zw p i gs outs k)) (by omega) _ rfl (fun k hk=>?_) ?_
 ·have hs:=Afs (st:=List.replicate (dl gs).length 0) (ins:=uV i.toNat k) G (by simp) (Rk hp.1 _) (by rw [Tr]; omega) (Ts hp.1 _ _);have hl:=Ajs G (List.replicate (dl gs).length 0) (uV i.toNat k);have hu:Dq i ((k:Nat):Int)=some (uV i.toNat k):=Aey (by omega) (by omega)
  try dsimp only
  unfold C1;rw [Br (by omega),cond_true,Ap (by omega),hu,obs,hs,obs,S4 _ (by have:=hl.1; show (nxO p gs outs _ _).1.length<=_; omega),obs,Ap (by simp only [Abe,Hk]; omega),S4 _ (by have:=hl.2; show (nxO p gs outs _ _).2.length<=_; omega),obs,Ap (by simp only [Zw,Hk]; omega),Ap (by omega)];simp only [Abe,Zw,R3]; rfl
 ·try dsimp only
  unfold C1;rw [Bq (by omega),cond_false]
theorem Any (G:Hq p i gs outs):Ay (fun s_:Nat×List (List Int)×List (List Int)=>Ce i (dl gs) gs outs p s_.1 s_.2.1 s_.2.2) 4611686018427387904 (0,[],[])=some (Abe p i gs outs i.toNat,Zw p i gs outs i.toNat):=by
 have hi:=G.hi; have hn:=G.hn; have hp:=G.hp;have hdl:(dl gs).length<=40:=Nat.le_trans (J6 _) hn.2;refine Bu i.toNat (fun k=>(k,Abe p i gs outs k,Zw p i gs outs k)) (by omega) _ rfl (fun k hk=>?_) ?_
 ·have hs:=U9 (st:=List.replicate (dl gs).length 0) (ins:=uV i.toNat k) G (by simp) (Rk hp.1 _) (by rw [Tr]; omega) (Ts hp.1 _ _);have hu:E5 i ((k:Nat):Int)=some (uV i.toNat k):=Aj9 (by omega) (by omega)
  try dsimp only
  unfold Ce;rw [Br (by omega),cond_true,P4 (by omega),obs,hu,obs,Int.toNat_natCast,hs,obs,Ap (by simp only [Abe,Hk]; omega),Ap (by simp only [Zw,Hk]; omega),Ap (by omega)];simp only [Abe,Zw,R3]; rfl
 ·try dsimp only
  unfold Ce;rw [Bq (by omega),cond_false]
end
end
section
def inV (p:Int) (x:List Int):Prop:=∀ a,a∈x->0<=a∧a<p
def Ta (p:Int) (w:Nat) (x:List Int):Prop:=x.length=w∧inV p x
def Lt (p:Int) (w:Nat) (m:List (List Int)):Prop:=∀ x,x∈m->Ta p w x
theorem Amx {p x:Int} (hp:2<=p):0<=x % p∧x % p<p:=⟨Int.emod_nonneg x (by omega),Int.emod_lt_of_pos x (by omega)⟩
theorem Ak8 {α β γ:Type} {f:α->β->γ}:∀ {x:List α} {v:List β} {c:γ},c∈List.zipWith f x v->∃ a b,c=f a b
 | [],_,_,h=>by simp at h
 | _ :: _,[],_,h=>by simp at h
 | a :: x,b :: v,c,h=>by
  rw [List.zipWith_cons_cons,List.mem_cons] at h;rcases h with h | h
  ·exact ⟨a,b,h⟩
  ·exact Ak8 h
theorem Wl {α:Type} {m:List α} {i:Nat} {d x:α} (h:m[i]? =some x):m.getD i d=x:=by rw [gDg,h]; rfl
theorem Ak5 {m:List (List Int)} {i:Nat} (h:i<m.length):m.getD i []∈m:=by
 rw [gDg,gEg h]; exact List.getElem_mem h
end
section
def Amn (b:Nat) (xss:List (List Int)):Prop:=∀ x∈xss,x.length<=b
def Ajc (p n:Int) (b:List (List Int)):Bool:=b.all fun x=>((x.length:Nat):Int)==n&&x.all fun a=>inR a 0 (p - 1)
theorem Wk {a lo hi:Int}:inR a lo hi=true↔lo<=a∧a<=hi:=by simp [inR]
theorem Ag9 {ρ:Type} {body:Nat×List Int->Option (Ctl (Nat×List Int) ρ)} {x y:List Int} {o:ρ} (hl:y.length=x.length) (hb:x.length<4611686018427387904)
  (hs:∀ j (h:j<x.length) (z:List Int),z[j]? =some x[j]->body (j,z)=some (.next (j+1,z.set j (y[j]'(by omega))))) (he:body (x.length,y)=some (.out o)) :
  Ay body 4611686018427387904 (0,x)=some o:=by
 refine Bu x.length (fun j=>(j,y.take j++x.drop j)) hb _ rfl (fun j hj=>?_) ?_
 ·have h1:(y.take j).length=j:=by rw [List.length_take]; omega
  rw [hs j hj _ (Aiv hj h1),Ain hj h1,List.take_add_one,gEg (by omega)]; rfl
 ·rw [List.drop_length,List.append_nil,← hl,List.take_length,hl]; exact he
theorem Abk {p:Int} {w j:Nat} {x:List Int} (hx:Ta p w x) (hj:j<x.length):0<=x[j]∧x[j]<p:=hx.2 _ (List.getElem_mem hj)
section
variable {p:Int} {n:Nat} {m:List (List Int)}
def spV (p:Int) (n:Nat) (m:List (List Int)) (c:List Int):Nat->List Int
 | 0=>List.replicate n 0
 | i+1=>List.zipWith (fun a x=>(a+c.getD i 0*x) % p) (spV p n m c i) (m.getD i [])
theorem To {c:List Int} (hp:2<=p) (hm:Lt p n m):∀ i,i<=m.length->Ta p n (spV p n m c i)
 | 0,_=>⟨by simp [spV],fun a ha=>by obtain rfl:=(List.mem_replicate.1 ha).2; omega⟩
 | i+1,hi=>by
  have h1:=To (c:=c) hp hm i (by omega);have h2:=hm _ (Ak5 (show i<m.length by omega));refine ⟨by unfold spV; rw [List.length_zipWith,h1.1,h2.1]; omega,fun a ha=>?_⟩;obtain ⟨b,d,rfl⟩:=Ak8 ha;exact Amx hp
theorem All {c:List Int} (hp:2<=p∧p<=97) (hm:Lt p n m) (hc:Ta p m.length c) (hn:n<=1000) (hl:m.length<=1000):H9 p (n:Int) m c=some (spV p n m c m.length):=by
 unfold H9;rw [Ap (by omega),Int.toNat_natCast]
 have key:Ay (fun s_:Nat×List Int=>Fp m c p s_.1 s_.2) 4611686018427387904 (0,List.replicate n 0)=some (spV p n m c m.length):=by
  refine Bu m.length (fun i=>(i,spV p n m c i)) (by omega) _ rfl (fun i hi=>?_) ?_
  ·have h1:=To (c:=c) hp.1 hm i (by omega);have h2:=hm _ (List.getElem_mem hi);have hl1:=h1.1;have hl2:=h2.1;have hcc:=hc.1;have hci:=Abk hc (j:=i) (by omega)
   have hin:Ay (fun s_:Nat×List Int=>Fm m[i] c i p s_.1 s_.2) 4611686018427387904 (0,spV p n m c i)=some (spV p n m c (i+1)):=by
    have hv:=To (c:=c) hp.1 hm (i+1) (by omega);have hvl:=hv.1;refine Ag9 (y:=spV p n m c (i+1)) (by omega) (by omega) (fun j hj z hz=>?_) ?_
    ·have a1:=Abk h1 hj;have a2:=Abk h2 (j:=j) (by omega);have a3:=Acj hp hci a2
     try dsimp only
     unfold Fm;rw [Br (by omega),cond_true,gEg (show j<m[i].length by omega),obs,hz,obs,gEg (show i<c.length by omega),obs,Ap (by omega),Ap (by omega),D2 (n:=c[i]'(by omega)*m[i][j]'(by omega)) (by omega) (by omega),D2 (by omega) (by omega),Int.tmod_eq_emod_of_nonneg (by omega)];congr 4;simp only [spV,List.getElem_zipWith,Wl (gEg (show i<c.length by omega)),Wl (m:=m) (gEg hi)]
    ·try dsimp only
     unfold Fm;rw [Bq (by omega),cond_false]
   try dsimp only
   unfold Fp;rw [Br (by omega),cond_true,gEg hi,obs,hin,obs,Ap (by omega)]
  ·try dsimp only
   unfold Fp;rw [Bq (by omega),cond_false]
 rw [key,obs]
theorem Am0 {w:Nat} {x v:List Int} {f:Int} (hp:2<=p∧p<=97) (hx:Ta p w x) (hv:Ta p w v) (hw:w<=100000) (hf:0<=f∧f<p) :
  Fo p x f v=some (List.zipWith (fun a b=>(a+f*b) % p) x v):=by
 have hl:=hx.1;have hl':=hv.1;unfold Fo;refine Ag9 (y:=List.zipWith (fun a b=>(a+f*b) % p) x v) (by simp; omega) (by omega) (fun j hj z hz=>?_) ?_
 ·have h1:=Abk hx hj;have h2:=Abk hv (j:=j) (by omega);have h3:=Acj hp hf h2
  try dsimp only
  unfold Fg;rw [Br (by omega),cond_true,gEg (show j<v.length by omega),obs,hz,obs,D2 (n:=f*v[j]) (by omega) (by omega),D2 (by omega) (by omega),Aka hp,obs,Ap (by omega)];simp
 ·try dsimp only
  unfold Fg;rw [Bq (by omega),cond_false]
theorem Aiy {c:List Int} (hp:2<=p∧p<=97) (hm:Lt p n m) (hc:Ta p m.length c) (hn:n<=1000) (hl:m.length<=1000):F2 p c m (n:Int)=some (spV p n m c m.length):=by
 unfold F2;rw [P4 (by omega),obs,Int.toNat_natCast]
 have key:Ay (fun s_:Nat×List Int=>Ej m c p s_.1 s_.2) 4611686018427387904 (0,List.replicate n 0)=some (spV p n m c m.length):=by
  refine Bu m.length (fun i=>(i,spV p n m c i)) (by omega) _ rfl (fun i hi=>?_) ?_
  ·have h1:=To (c:=c) hp.1 hm i (by omega);have h1':=(To (c:=c) hp.1 hm (i+1) (by omega)).1;have h2:=hm _ (List.getElem_mem hi);have hcl:=hc.1;have hci:=Abk hc (j:=i) (by omega)
   have e:List.zipWith (fun a b=>(a+c[i]*b) % p) (spV p n m c i) m[i]=spV p n m c (i+1):=by
    simp only [spV,Wl (gEg (show i<c.length by omega)),Wl (m:=m) (gEg hi)]
   have h1l:=h1.1
   try dsimp only
   unfold Ej;rw [Br (by omega),cond_true,gEg hi,obs,gEg (show i<c.length by omega),obs,Am0 hp h1 h2 (by omega) hci,obs,e,Ap (by omega),Ap (by omega)]
  ·try dsimp only
   unfold Ej;rw [Bq (by omega),cond_false]
 rw [key,obs]
def Aar (p:Int) (n:Nat) (x m:List (List Int)):List (List Int):=x.map fun v=>spV p n m v m.length
theorem Aha {x:List (List Int)} (hp:2<=p) (hm:Lt p n m):Lt p n (Aar p n x m):=fun y hy=>by
 obtain ⟨v,_,rfl⟩:=List.mem_map.1 hy;exact To hp hm _ (Nat.le_refl _)
theorem Ah9 {x:List (List Int)}:(Aar p n x m).length=x.length:=by simp [Aar]
theorem Ace {x:List (List Int)} (hp:2<=p∧p<=97) (hm:Lt p n m) (hx:Lt p m.length x) (hn:n<=1000) (hl:m.length<=1000) (hxl:x.length<=1000):Es p (n:Int) x m=some (Aar p n x m):=by
 unfold Es
 have key:Ay (fun s_:Nat×List (List Int)=>Eg x p n m s_.1 s_.2) 4611686018427387904 (0,[])=some ([]++Aar p n x m):=by
  refine Iw x (fun v=>spV p n m v m.length) [] (by omega) _ (fun j v h=>?_) ?_
  ·have:=Be h
   try dsimp only
   unfold Eg;rw [Br (by omega),cond_true,h,obs,All hp hm (hx _ (List.mem_of_getElem? h)) hn hl,obs,Ap (by simp; omega),Ap (by omega)]
  ·try dsimp only
   unfold Eg;rw [Bq (by omega),cond_false]; rfl
 rw [key]; rfl
theorem Ab7 {x:List (List Int)} (hp:2<=p∧p<=97) (hm:Lt p n m) (hx:Lt p m.length x) (hn:n<=1000) (hl:m.length<=1000) (hxl:x.length<=1000):E4 p x m (n:Int)=some (Aar p n x m):=by
 unfold E4
 have key:Ay (fun s_:Nat×List (List Int)=>Ee x p m n s_.1 s_.2) 4611686018427387904 (0,[])=some ([]++Aar p n x m):=by
  refine Iw x (fun v=>spV p n m v m.length) [] (by omega) _ (fun j v h=>?_) ?_
  ·have:=Be h
   try dsimp only
   unfold Ee;rw [Br (by omega),cond_true,h,obs,Aiy hp hm (hx _ (List.mem_of_getElem? h)) hn hl,obs,Ap (by simp; omega),Ap (by omega)]
  ·try dsimp only
   unfold Ee;rw [Bq (by omega),cond_false]; rfl
 rw [key]; rfl
theorem Aev (hm:Lt p n m) (hn:n<=1000) (hl:m.length<=1000):Fu m=some m:=by
 unfold Fu
 have key:Ay (fun s_:Nat×List (List Int)=>E0 m s_.1 s_.2) 4611686018427387904 (0,[])=some ([]++m.map id):=by
  refine Iw m id [] (by omega) _ (fun j v h=>?_) ?_
  ·have:=Be h;have hv:=(hm _ (List.mem_of_getElem? h)).1
   try dsimp only
   unfold E0;rw [Br (by omega),cond_true,h,obs,S4 _ (by omega),obs,Ap (by simp; omega),Ap (by omega)]; rfl
  ·try dsimp only
   unfold E0;rw [Bq (by omega),cond_false]
 rw [key,List.map_id]; rfl
theorem Afw (hm:Lt p n m) (hn:n<=1000) (hl:m.length<=1000):Fw m=some m:=by
 unfold Fw;rw [Ap (by omega)]
 have key:Ay (fun s_:Nat×List (List Int)=>Ez m s_.1 s_.2) 4611686018427387904 (0,List.replicate 0 [])=some ([]++m.map id):=by
  refine Iw m id [] (by omega) _ (fun j v h=>?_) ?_
  ·have:=Be h;have hv:=(hm _ (List.mem_of_getElem? h)).1
   try dsimp only
   unfold Ez;rw [Br (by omega),cond_true,h,obs,Alz _ (by omega),obs,Ap (by simp; omega),Ap (by omega)]; rfl
  ·try dsimp only
   unfold Ez;rw [Bq (by omega),cond_false]
 rw [key,List.map_id]; rfl
end
def mkX (p:Int) (st:Nat) (A B:List (List Int)):Nat->List (List Int)
 | 0=>B
 | k+1=>Aar p st (mkX p st A B k) A
def mkE (p:Int) (st ou:Nat) (A B C D:List (List Int)):Nat->Int×List (List Int)
 | 0=>((ou:Nat),D)
 | k+1=>((ou:Nat),Aar p ou (mkX p st A B k) C)
def mkV (p:Int) (st ou:Nat) (A B C D:List (List Int)) (n:Nat):List (Int×List (List Int)):=(List.range n).map (mkE p st ou A B C D)
structure Vd (p:Int) (st ins ou:Nat) (A B C D:List (List Int)):Prop where
 hp:isF p=true
 hs:st<=24
 hi:ins<=8
 ho:ou<=8
 lA:A.length=st
 lB:B.length=ins
 lC:C.length=st
 lD:D.length=ins
 mA:Lt p st A
 mB:Lt p st B
 mC:Lt p ou C
 mD:Lt p ou D
section
variable {p:Int} {st ins ou:Nat} {A B C D:List (List Int)}
theorem Wc (h:Vd p st ins ou A B C D):∀ k,Lt p st (mkX p st A B k)∧(mkX p st A B k).length=ins
 | 0=>⟨h.mB,h.lB⟩
 | k+1=>⟨Aha (Pm h.hp).1 h.mA,by rw [mkX,Ah9]; exact (Wc h k).2⟩
theorem Ahf (h:Vd p st ins ou A B C D):∀ k,Lt p ou (mkE p st ou A B C D k).2∧(mkE p st ou A B C D k).2.length=ins
 | 0=>⟨h.mD,h.lD⟩
 | k+1=>⟨Aha (Pm h.hp).1 h.mC,by show (Aar p ou (mkX p st A B k) C).length=_; rw [Ah9]; exact (Wc h k).2⟩
theorem S8 {n:Nat}:(mkV p st ou A B C D n).length=n:=by simp [mkV]
theorem Th {n:Nat}:mkV p st ou A B C D (n+1)=mkV p st ou A B C D n++[mkE p st ou A B C D n]:=by simp only [mkV,List.range_succ,List.map_append]; rfl
theorem Akb {n k:Nat} (hk:k<n):(mkV p st ou A B C D n)[k]? =some (mkE p st ou A B C D k):=by
 unfold mkV; rw [List.getElem?_map,List.getElem?_range hk]; rfl
theorem Yg {n:Nat} (h:Vd p st ins ou A B C D) (hn:n<=1000):D8 p (st:Int) (ins:Int) (ou:Int) A B C D (n:Int)=some (mkV p st ou A B C D n):=by
 have hp:=Pm h.hp;have g1:=h.hs;have g2:=h.hi;have g3:=h.ho;have lA:=h.lA;have lB:=h.lB;have lC:=h.lC;have lD:=h.lD;unfold D8;rw [Aev h.mB (by omega) (by omega),obs]
 have key:Ay (fun s_:List (List Int)×Nat×List (Int×List (List Int))=>Dz n D ou p C st A s_.1 s_.2.1 s_.2.2) 4611686018427387904 (B,0,[])=some (mkV p st ou A B C D n):=by
  refine Bu n (fun k=>(mkX p st A B (k - 1),k,mkV p st ou A B C D k)) (by omega) _ rfl (fun k hk=>?_) ?_
  ·have hl:=S8 (p:=p) (st:=st) (ou:=ou) (A:=A) (B:=B) (C:=C) (D:=D) (n:=k)
   try dsimp only
   unfold Dz;rw [Br (by omega),cond_true];cases k with
   | zero=>rw [show (((0:Nat):Int)==0)=true from rfl,cond_true,Aev h.mD (by omega) (by omega),obs,Ap (by omega),obs]; dsimp only; rw [Ap (by omega),Th]; rfl
   | succ k =>
    have hX:=Wc h k;have hXl:=hX.2;rw [show (((k+1:Nat):Int)==0)=false from by rw [beq_eq_false_iff_ne]; omega,cond_false,Nat.add_sub_cancel,Ace hp h.mC (by rw [lC]; exact hX.1) (by omega) (by omega) (by omega),obs,Ap (by omega),Ace hp h.mA (by rw [lA]; exact hX.1) (by omega) (by omega) (by omega),obs,obs];dsimp only;rw [Ap (by omega),Th (n:=k+1)]; rfl
  ·try dsimp only
   unfold Dz;rw [Bq (by omega),cond_false]
 rw [key]; rfl
theorem Ae0 {n:Nat} (h:Vd p st ins ou A B C D) (hn:n<=1000):Bx (st:Int) (ins:Int) (ou:Int) A B C D p (n:Int)=some (mkV p st ou A B C D n):=by
 have hp:=Pm h.hp;have g1:=h.hs;have g2:=h.hi;have g3:=h.ho;have lA:=h.lA;have lB:=h.lB;have lC:=h.lC;have lD:=h.lD;unfold Bx;rw [Afw h.mB (by omega) (by omega),obs]
 have key:Ay (fun s_:List (List Int)×Nat×List (Int×List (List Int))=>B2 n D ou p C A st s_.1 s_.2.1 s_.2.2) 4611686018427387904 (B,0,[])=some (mkV p st ou A B C D n):=by
  refine Bu n (fun k=>(mkX p st A B (k - 1),k,mkV p st ou A B C D k)) (by omega) _ rfl (fun k hk=>?_) ?_
  ·have hl:=S8 (p:=p) (st:=st) (ou:=ou) (A:=A) (B:=B) (C:=C) (D:=D) (n:=k)
   try dsimp only
   unfold B2;rw [Br (by omega),cond_true];cases k with
   | zero=>rw [show (((0:Nat):Int)==0)=true from rfl,cond_true,Afw h.mD (by omega) (by omega),obs,Ap (by omega),obs]; dsimp only; rw [Ap (by omega),Th]; rfl
   | succ k =>
    have hX:=Wc h k;have hXl:=hX.2;rw [show (((k+1:Nat):Int)==0)=false from by rw [beq_eq_false_iff_ne]; omega,cond_false,Nat.add_sub_cancel,Ab7 hp h.mC (by rw [lC]; exact hX.1) (by omega) (by omega) (by omega),obs,Ap (by omega),Ab7 hp h.mA (by rw [lA]; exact hX.1) (by omega) (by omega) (by omega),obs,obs];dsimp only;rw [Ap (by omega),Th (n:=k+1)]; rfl
  ·try dsimp only
   unfold B2;rw [Bq (by omega),cond_false]
 rw [key]; rfl
end
end
section
theorem Ajl (p n:Int) (b:List (List Int)) (hp:2<=p∧p<=97) (hb:b.length<=1048576) (hr:Amn 1048576 b):Gu p n b=some (Ajc p n b):=by
 unfold Gu;rw [Qd b (fun x=>((x.length:Nat):Int)==n&&x.all fun a=>inR a 0 (p - 1)) (.next ()) (.out false) (by omega) (fun i x h=>?_) ?_,Wh]; rfl
 ·unfold Gg;rw [Bq (by omega),cond_false]
 ·have:=Be h;have hx:=hr x (List.mem_of_getElem? h);unfold Gg;rw [Br (by omega),cond_true,h,obs];cases hc:((x.length:Nat):Int)==n
  ·rw [show (((x.length:Nat):Int) !=n)=true by simp only [bne,hc,Bool.not_false],cond_true,obs,cond_true,Bool.false_and]; rfl
  ·rw [show (((x.length:Nat):Int) !=n)=false by simp only [bne,hc,Bool.not_true],cond_false,Am1 p x hp (by omega),obs,obs,Bool.true_and,Ap (by omega)];cases x.all fun a=>inR a 0 (p - 1) <;> rfl
section
variable {p i:Int} {gs:List Gt} {outs:List Int}
theorem Ak0 {st ins:List Int} (G:Hq p i gs outs) (hs:st.length=(dl gs).length) (hsP:inP p st) (hi:((ins.length:Nat):Int)=i) (hiP:inP p ins):inP p (Uo p gs st ins) :=
 Qf G.hp.1 _ _ (Ag1 G hs hsP hi hiP)
theorem Ajw {st ins:List Int} (G:Hq p i gs outs) (hs:st.length=(dl gs).length) (hsP:inP p st) (hi:((ins.length:Nat):Int)=i) (hiP:inP p ins):Ta p (dl gs).length (nxO p gs outs st ins).1∧Ta p outs.length (nxO p gs outs st ins).2:=by
 have hv:=Ak0 G hs hsP hi hiP;have hl:=Ov (p:=p) (gs:=gs) (st:=st) (ins:=ins);refine ⟨⟨by simp [nxO,Vb],fun a ha=>?_⟩,⟨by simp [nxO],fun a ha=>?_⟩⟩
 ·obtain ⟨d,hd,rfl⟩:=List.mem_map.1 ha;obtain ⟨hr,h5⟩:=Zb hd;have hb:=T1 (List.all_eq_true.1 G.ga _ (Wb hr));have hA:=hb.1 (gtG gs d).2.1 (by simp [opG,h5]);exact L1 hv (by omega)
 ·obtain ⟨d,hd,rfl⟩:=List.mem_map.1 ha;have:=G.io d hd;exact L1 hv (by omega)
theorem Ae2 (G:Hq p i gs outs) (k:Nat):Ta p (dl gs).length (Alr p i gs outs k).1∧Ta p outs.length (Alr p i gs outs k).2:=by
 have hi:=G.hi;exact Ajw G (Tr _ _) (Ts G.hp.1 _ _) (by simp; omega) (Rk G.hp.1 _)
theorem Afh (G:Hq p i gs outs) (k:Nat):Ta p (dl gs).length (Alp p i gs outs k).1∧Ta p outs.length (Alp p i gs outs k).2:=by
 have hi:=G.hi;exact Ajw G (by simp) (Rk G.hp.1 _) (by rw [Tr]; omega) (Ts G.hp.1 _ _)
theorem Wa {w n:Nat} {f:Nat->List Int} (h:∀ k,Ta p w (f k)):Lt p w ((List.range n).map f):=fun x hx=>by
 obtain ⟨k,_,rfl⟩:=List.mem_map.1 hx; exact h k
abbrev Zp:=Int×Int×Int×List (List Int)×List (List Int)×List (List Int)×List (List Int)
abbrev ZpB:=Int×Int×Int×List (List Int)×List (List Int)×List (List Int)×List (List Int)×Bool
def zB (z:Zp) (b:Bool):ZpB:=(z.1,z.2.1,z.2.2.1,z.2.2.2.1,z.2.2.2.2.1,z.2.2.2.2.2.1,z.2.2.2.2.2.2,b)
def z0:ZpB:=(0,0,0,[],[],[],[],false)
def Akp (p i:Int) (gs:List Gt) (outs:List Int):Zp:=(((dl gs).length:Nat),i,((outs.length:Nat):Int),Aaz p i gs outs (dl gs).length,Abe p i gs outs i.toNat,Aa8 p i gs outs (dl gs).length,Zw p i gs outs i.toNat)
theorem J7 (G:Hq p i gs outs) (h:(dl gs).length<=24):Vd p (dl gs).length i.toNat outs.length (Aaz p i gs outs (dl gs).length) (Abe p i gs outs i.toNat) (Aa8 p i gs outs (dl gs).length) (Zw p i gs outs i.toNat):=by
 have hi:=G.hi;exact ⟨G.fp,h,by omega,G.ho,Hk _ _,Hk _ _,Hk _ _,Hk _ _,Wa fun k=>(Ae2 G k).1,Wa fun k=>(Afh G k).1,Wa fun k=>(Ae2 G k).2,Wa fun k=>(Afh G k).2⟩
theorem W8 (h1:gs.length<=1073741824) (h2:outs.length<=1073741824):Ca p i gs outs=some (if Q1 p i gs outs=true∧(dl gs).length<=24 then zB (Akp p i gs outs) true else z0):=by
 unfold Ca;rw [Akm (by omega) (by omega),obs];cases hc:Q1 p i gs outs
 ·rfl
 have G:=Ua.1 hc;have hn:=G.hn;rw [Bool.not_true,cond_false,Nj hn.2,obs,obs];by_cases h:(dl gs).length<=24
 ·rw [Bq (by omega),cond_false,if_pos ⟨rfl,h⟩];unfold Fh;rw [Nj hn.2,obs,Anv G,obs];dsimp only;rw [Anz G]; rfl
 ·rw [Br (by omega),cond_true,if_neg (by simp [h])]; rfl
theorem Yl (G:Hq p i gs outs):B9 p i gs outs=some (if (dl gs).length<=24 then zB (Akp p i gs outs) true else z0):=by
 have hn:=G.hn;unfold B9;rw [Afy hn.2,obs];by_cases h:(dl gs).length<=24
 ·rw [Bq (by omega),cond_false,if_pos h,Anu G,obs];dsimp only;rw [Any G]; rfl
 ·rw [Br (by omega),cond_true,if_neg h]; rfl
theorem Aki {n:Nat} {m:List (List Int)} (h:Lt p n m):Ajc p n m=true:=by
 unfold Ajc;refine List.all_eq_true.2 fun x hx=>?_
 have:=h x hx;simp only [Bool.and_eq_true,beq_iff_eq,List.all_eq_true,Wk];exact ⟨by rw [this.1],fun a ha=>by have:=this.2 a ha; omega⟩
theorem Aip {n:Nat} {m:List (List Int)} (hn:n<=1048576) (h:Lt p n m):Amn 1048576 m:=fun x hx=>by rw [(h x hx).1]; exact hn
theorem Pz {r n:Nat} {m:List (List Int)} (hp:2<=p∧p<=97) (hr:m.length=r) (hr2:r<=1000) (hn:n<=1000) (h:Lt p n m):Dd p (r:Int) (n:Int) m=some true:=by
 unfold Dd;rw [hr,beq_self_eq_true,cond_true,Ajl p n m hp (by omega) (Aip (by omega) h),Aki h]; rfl
theorem Se {st ins ou:Nat} {A B C D:List (List Int)} (h:Vd p st ins ou A B C D):Ft p (st:Int) (ins:Int) (ou:Int) A B C D=some true:=by
 have hp:=Pm h.hp;have h1:=h.hs;have h2:=h.hi;have h3:=h.ho;unfold Ft
 rw [Afr,h.hp,obs,cond_true,O5,Wk.2 (by omega),obs,cond_true,O5,Wk.2 (by omega),obs,cond_true,O5,Wk.2 (by omega),obs,cond_true,
  Pz hp h.lA (by omega) (by omega) h.mA,obs,cond_true,Pz hp h.lB (by omega) (by omega) h.mB,obs,cond_true,Pz hp h.lC (by omega) (by omega) h.mC,obs,cond_true,Pz hp h.lD (by omega) (by omega) h.mD]; rfl
abbrev Zz:=Int×Int×Int×List (List Int)×List (List Int)×List (List Int)×List (List Int)×Int×Int×Int×List (List Int)×List (List Int)×List (List Int)×List (List Int)×Bool
theorem Anx {j:Int} {hs:List Gt} {outz:List Int} (h1:gs.length<=1073741824) (h2:outs.length<=1073741824) (h3:hs.length<=1073741824) (h4:outz.length<=1073741824) :
  (∃ z z':Zz,D5 p i gs outs j hs outz=some z∧D3 p i gs outs j hs outz=some z'∧z.2.2.2.2.2.2.2.2.2.2.2.2.2.2=false∧z'.2.2.2.2.2.2.2.2.2.2.2.2.2.2=false) ∨
  ∃ st su ins ou:Nat,∃ A B C D A' B' C' D':List (List Int),Vd p st ins ou A B C D∧Vd p su ins ou A' B' C' D' ∧
   D5 p i gs outs j hs outz=some ((st:Int),(ins:Int),(ou:Int),A,B,C,D,(su:Int),(ins:Int),(ou:Int),A',B',C',D',true) ∧
   D3 p i gs outs j hs outz=some ((st:Int),(ins:Int),(ou:Int),A,B,C,D,(su:Int),(ins:Int),(ou:Int),A',B',C',D',true):=by
 unfold D5 D3 Fe;rw [W8 h1 h2,obs,W8 h3 h4,obs,U5 (by omega) (by omega),obs];cases hc:Q1 p i gs outs
 ·exact .inl ⟨_,_,rfl,rfl,rfl,rfl⟩
 have G:=Ua.1 hc;rw [cond_true,U5 (by omega) (by omega),obs];cases hd:Q1 p j hs outz
 ·by_cases h:(dl gs).length<=24
  ·rw [if_pos ⟨rfl,h⟩]; exact .inl ⟨_,_,rfl,rfl,rfl,rfl⟩
  ·rw [if_neg (by simp [h])]; exact .inl ⟨_,_,rfl,rfl,rfl,rfl⟩
 have H:=Ua.1 hd;have hi:=G.hi;have hj:=H.hi;rw [cond_true];by_cases e:i=j∧outs.length=outz.length
 ·obtain ⟨rfl,e2⟩:=e;rw [beq_self_eq_true,cond_true,e2,beq_self_eq_true,obs,obs,Bool.not_true,cond_false,Yl G,obs,Yl H,obs];by_cases h:(dl gs).length<=24
  ·by_cases h':(dl hs).length<=24
   ·refine .inr ⟨(dl gs).length,(dl hs).length,i.toNat,outs.length,_,_,_,_,_,_,_,_,J7 G h,e2▸J7 H h',?_,?_⟩
    ·rw [if_pos ⟨rfl,h⟩,if_pos ⟨rfl,h'⟩];dsimp only [zB,Akp];have g1:=Se (J7 G h);have g2:=Se (J7 H h');rw [show ((i.toNat:Nat):Int)=i by omega] at g1 g2 ⊢;unfold H0;rw [g1,obs,cond_true,g2,obs,cond_true,beq_self_eq_true,cond_true,e2,beq_self_eq_true]; rfl
    ·rw [if_pos h,if_pos h'];dsimp only [zB,Akp];rw [show ((i.toNat:Nat):Int)=i by omega,e2]; rfl
   ·rw [if_pos ⟨rfl,h⟩,if_neg (by simp [h']),if_pos h,if_neg h']; exact .inl ⟨_,_,rfl,rfl,rfl,rfl⟩
  ·rw [if_neg (by simp [h]),if_neg h];by_cases h':(dl hs).length<=24
   ·rw [if_pos ⟨rfl,h'⟩,if_pos h']; exact .inl ⟨_,_,rfl,rfl,rfl,rfl⟩
   ·rw [if_neg (by simp [h']),if_neg h']; exact .inl ⟨_,_,rfl,rfl,rfl,rfl⟩
 ·have e':(i==j&&((outs.length:Nat):Int)==((outz.length:Nat):Int))=false:=by
   rw [Bool.eq_false_iff]; intro hh;simp only [Bool.and_eq_true,beq_iff_eq] at hh;exact e ⟨hh.1,by omega⟩
  have ec:cond (i==j) (some (((outs.length:Nat):Int)==((outz.length:Nat):Int))) (some false)=some false:=by
   cases h1:i==j
   ·rfl
   ·rw [h1,Bool.true_and] at e'; rw [e']; rfl
  rw [ec,obs,obs,Bool.not_false,cond_true];by_cases h:(dl gs).length<=24
  ·by_cases h':(dl hs).length<=24
   ·rw [if_pos ⟨rfl,h⟩,if_pos ⟨rfl,h'⟩];dsimp only [zB,Akp];have g1:=Se (J7 G h);have g2:=Se (J7 H h');rw [show ((i.toNat:Nat):Int)=i by omega] at g1;rw [show ((j.toNat:Nat):Int)=j by omega] at g2;unfold H0;rw [g1,obs,cond_true,g2,obs,cond_true,ec]; exact .inl ⟨_,_,rfl,rfl,rfl,rfl⟩
   ·rw [if_pos ⟨rfl,h⟩,if_neg (by simp [h'])]; exact .inl ⟨_,_,rfl,rfl,rfl,rfl⟩
  ·rw [if_neg (by simp [h])]; exact .inl ⟨_,_,rfl,rfl,rfl,rfl⟩
end
end
section
def szV (v:Int) (n:Nat):Int:=if v<n then -1 else v - n
theorem Akk (xs:List Int) {v:Int} (hv:0<=v∧v<=1048576) (hx:xs.length<=9223372036854775807):Gy xs v=some (szV v xs.length):=by
 unfold Gy szV;rw [D2 (by omega) (by omega)];by_cases h:v<xs.length
 ·rw [Br (by omega),if_pos h]; rfl
 ·rw [Bq (by omega),if_neg h]; rfl
theorem Aj4 (xs:List Int) (hx:xs.length<=1073741824):G7 xs=some xs:=by
 unfold G7;rw [Ap (by omega)]
 have h:Ay (fun s_:Nat×List Int=>Ey xs s_.1 s_.2) 4611686018427387904 (0,List.replicate xs.length (0:Int))=some xs:=by
  refine Bu xs.length (fun i=>(i,xs.take i++List.replicate (xs.length - i) 0)) (by omega) xs (by simp) (fun i hi=>?_) ?_
  ·have hx:=gEg hi
   try dsimp only
   unfold Ey;rw [Br (by omega),cond_true,hx,obs,P0 hi,obs,Ap (by omega),P7 hx]
  ·try dsimp only
   unfold Ey;rw [Bq (by omega),cond_false];simp
 rw [h]; rfl
theorem Ajj (xs:List Int) (hx:xs.length<=1073741824):Gz xs xs=some true:=by
 unfold Gz
 have h:Ay (fun s_:Nat=>Eu xs xs s_) 4611686018427387904 0=some (.next ()):=by
  refine Bu xs.length (fun i=>i) (by omega) _ rfl (fun i hi=>?_) ?_
  ·have hx:=gEg hi
   try dsimp only
   unfold Eu;rw [Br (by omega),cond_true,hx,obs,obs,bne_self_eq_false,cond_false,Ap (by omega)]
  ·try dsimp only
   unfold Eu;rw [Bq (by omega),cond_false]
 rw [h,bne_self_eq_false,cond_false]; rfl
theorem Aiq (xs:List (Int×Int×Int×Int)) {v:Int} (hv:0<=v∧v<=1048576) (hx:xs.length<=9223372036854775807):F7 xs v=some (szV v xs.length):=by
 unfold F7 szV;rw [D2 (by omega) (by omega)];by_cases h:v<xs.length
 ·rw [Br (by omega),if_pos h]; rfl
 ·rw [Bq (by omega),if_neg h]; rfl
theorem Ais (xs:List (Int×Int×Int×Int)) (hx:xs.length<=1073741824):F8 xs=some xs:=by
 unfold F8;rw [Ap (by omega)]
 have h:Ay (fun s_:Nat×List (Int×Int×Int×Int)=>Ed xs s_.1 s_.2) 4611686018427387904 (0,List.replicate xs.length ((0,0,0,0):Int×Int×Int×Int))=some xs:=by
  refine Bu xs.length (fun i=>(i,xs.take i++List.replicate (xs.length - i) (0,0,0,0))) (by omega) xs (by simp) (fun i hi=>?_) ?_
  ·have hx:=gEg hi
   try dsimp only
   unfold Ed I4;rw [Br (by omega),cond_true,hx,obs,obs,P0 hi,obs,Ap (by omega),P7 hx]
  ·try dsimp only
   unfold Ed;rw [Bq (by omega),cond_false];simp
 rw [h]; rfl
theorem Aik (xs:List (Int×Int×Int×Int)) (hx:xs.length<=1073741824):Gf xs xs=some true:=by
 unfold Gf
 have h:Ay (fun s_:Nat=>Ek xs xs s_) 4611686018427387904 0=some (.next ()):=by
  refine Bu xs.length (fun i=>i) (by omega) _ rfl (fun i hi=>?_) ?_
  ·have hx:=gEg hi
   try dsimp only
   unfold Ek I5;rw [Br (by omega),cond_true,hx,obs,obs];simp only [bne_self_eq_false,cond_false,obs,Bool.not_true];rw [Ap (by omega)]
  ·try dsimp only
   unfold Ek;rw [Bq (by omega),cond_false]
 rw [h,bne_self_eq_false,cond_false]; rfl
theorem U3 (n0:Int) (s1:List (Int×Int×Int×Int)) (s2:List Int) {v:Int} (hv:0<=v∧v<=1048576) (hs1:s1.length<=9223372036854775807) (hs2:s2.length<=9223372036854775807):Dr n0 s1 s2 v=some (szV v (s1.length+s2.length)):=by
 unfold Dr;rw [Aiq s1 (by omega) hs1,obs];by_cases h0:v<s1.length
 ·rw [show szV v s1.length= -1 from if_pos h0,show szV v (s1.length+s2.length)= -1 from if_pos (by omega)]; rfl
 rw [show szV v s1.length=v - s1.length from if_neg h0,Bq (by omega),cond_false];rw [Akk s2 (by omega) hs2,obs];by_cases h1:v - s1.length<s2.length
 ·rw [show szV (v - s1.length) s2.length= -1 from if_pos h1,show szV v (s1.length+s2.length)= -1 from if_pos (by omega)]; rfl
 rw [show szV (v - s1.length) s2.length=v - s1.length - s2.length from if_neg h1,Bq (by omega),cond_false,show szV v (s1.length+s2.length)=v - s1.length - s2.length from by unfold szV; rw [if_neg (by omega)]; omega]
theorem Vg (n0:Int) (s1:List (Int×Int×Int×Int)) (s2:List Int) (hs1:s1.length<=1073741824) (hs2:s2.length<=1073741824):Bz n0 s1 s2=some (n0,s1,s2):=by
 unfold Bz;rw [Ais s1 hs1,Aj4 s2 hs2]; rfl
theorem Va (n0:Int) (s1:List (Int×Int×Int×Int)) (s2:List Int) (hs1:s1.length<=1073741824) (hs2:s2.length<=1073741824):Du n0 s1 s2 n0 s1 s2=some true:=by
 unfold Du;simp only [Aik s1 hs1,Ajj s2 hs2,bne_self_eq_false,cond_false,obs,Bool.not_true]
end
section
section
variable {xs ys:List (Int×List (List Int))} {k i:Nat}
theorem Aoh {x y:List Int} {Y:Int×List (List Int)} (hY:ys[k]? =some Y) (hy:Y.2[i]? =some y) (hl:x.length<=y.length) (hx:x.length<=1000) :
  ∃ c,Ay (fun s_:Nat=>Cc x ys k i s_) 4611686018427387904 0=some c∧(c=.next ()∨∃ r,c=.out (.out (.out (.out (.out r))))):=by
 refine Hn (Post:=fun c=>c=Ctl.next ()∨∃ r,c=Ctl.out (Ctl.out (Ctl.out (Ctl.out (Ctl.out r))))) x.length (fun j s=>s=j) (by omega) rfl ?_ ?_
 ·intro j s hj hs;subst hs;unfold Cc;rw [Br (by omega),cond_true,gEg hj,obs,hY,obs,hy,obs,gEg (show s<y.length by omega),obs];cases x[s] !=y[s]'(by omega)
  ·exact .inl ⟨s+1,by rw [cond_false,Ap (by omega)],rfl⟩
  ·exact .inr ⟨_,rfl,.inr ⟨_,rfl⟩⟩
 ·intro s hs;subst hs;unfold Cc;rw [Bq (by omega),cond_false];exact ⟨_,rfl,.inl rfl⟩
theorem Aof {X Y:Int×List (List Int)} (hY:ys[k]? =some Y) (hl:X.2.length<=1000) (h:∀ (i:Nat) (x:List Int),X.2[i]? =some x->∃ y:List Int,Y.2[i]? =some y∧x.length<=y.length∧x.length<=1000) :
  ∃ c,Ay (fun s_:Nat=>Cf X ys k s_) 4611686018427387904 0=some c∧(c=.next ()∨∃ r,c=.out (.out (.out r))):=by
 refine Hn (Post:=fun c=>c=Ctl.next ()∨∃ r,c=Ctl.out (Ctl.out (Ctl.out r))) X.2.length (fun j s=>s=j) (by omega) rfl ?_ ?_
 ·intro j s hj hs;subst hs;have hx:=gEg hj;obtain ⟨y,h1,h2,h3⟩:=h _ _ hx;obtain ⟨c,hc,hP⟩:=Aoh (i:=s) hY h1 h2 h3;unfold Cf;rw [Br (by omega),cond_true,hx,obs,hc];rcases hP with rfl | ⟨r,rfl⟩
  ·exact .inl ⟨s+1,by simp only [Ix,obs,Ctl.then]; rw [Ap (by omega)],rfl⟩
  ·exact .inr ⟨_,rfl,.inr ⟨_,rfl⟩⟩
 ·intro s hs;subst hs;unfold Cf;rw [Bq (by omega),cond_false];exact ⟨_,rfl,.inl rfl⟩
theorem Aog (hl:xs.length<=1000) (h:∀ (k:Nat) (X:Int×List (List Int)),xs[k]? =some X->∃ Y:Int×List (List Int),ys[k]? =some Y∧X.2.length<=1000∧∀ (i:Nat) (x:List Int),X.2[i]? =some x->∃ y:List Int,Y.2[i]? =some y∧x.length<=y.length∧x.length<=1000) :
  ∃ c,Ay (fun s_:Nat=>Bm xs ys s_) 4611686018427387904 0=some c∧(c=.next ()∨∃ r,c=.out r):=by
 refine Hn (Post:=fun c=>c=Ctl.next ()∨∃ r,c=Ctl.out r) xs.length (fun j s=>s=j) (by omega) rfl ?_ ?_
 ·intro j s hj hs;subst hs;have hx:=gEg hj;obtain ⟨Y,h1,h2,h3⟩:=h _ _ hx;obtain ⟨c,hc,hP⟩:=Aof (k:=s) h1 h2 h3;unfold Bm;rw [Br (by omega),cond_true,hx,obs,hc];rcases hP with rfl | ⟨r,rfl⟩
  ·exact .inl ⟨s+1,by simp only [Ix,obs,Ctl.then]; rw [Ap (by omega)],rfl⟩
  ·exact .inr ⟨_,rfl,.inr ⟨_,rfl⟩⟩
 ·intro s hs;subst hs;unfold Bm;rw [Bq (by omega),cond_false];exact ⟨_,rfl,.inl rfl⟩
end
theorem An4 {p i j:Int} {gs hs:List Gt} {outs outz:List Int} (h1:gs.length<=1073741824) (h2:outs.length<=1073741824) (h3:hs.length<=1073741824) (h4:outz.length<=1073741824) :
  ∃ v:Int×Int×Int×Bool,Cy p i gs outs j hs outz=some v∧Cz p i gs outs j hs outz=some v:=by
 unfold Cy Cz;rcases Anx (p:=p) (i:=i) (gs:=gs) (outs:=outs) (j:=j) (hs:=hs) (outz:=outz) h1 h2 h3 h4 with ⟨z,z',e1,e2,f1,f2⟩ | ⟨st,su,ins,ou,A,B,C,D,A',B',C',D',g1,g2,e1,e2⟩
 ·rw [e1,e2,obs,obs,f1,f2]; exact ⟨_,rfl,rfl⟩
 ·rw [e1,e2,obs,obs];have k1:=g1.hs;have k2:=g2.hs;have k3:=g1.hi;have k4:=g1.ho
  have hn:wI (wI ((st:Int)+(su:Int))+1)=((st+su+1:Nat):Int):=by
   rw [D2 (n:=(st:Int)+su) (by omega) (by omega),D2 (by omega) (by omega)]; omega
  dsimp only;rw [hn,Yg g1 (by omega),obs,Yg g2 (by omega),obs,Ae0 g1 (by omega),obs,Ae0 g2 (by omega),obs]
  have e:∀ s,Cd ((st:Int),(ins:Int),(ou:Int),A,B,C,D,(su:Int),(ins:Int),(ou:Int),A',B',C',D',true) (mkV p st ou A B C D (st+su+1)) (mkV p su ou A' B' C' D' (st+su+1)) s=Bm (mkV p st ou A B C D (st+su+1)) (mkV p su ou A' B' C' D' (st+su+1)) s:=fun s=>by
   unfold Cd Bm;dsimp only;rw [hn,S8]; rfl
  rw [show (fun s_:Nat=>Cd ((st:Int),(ins:Int),(ou:Int),A,B,C,D,(su:Int),(ins:Int),(ou:Int),A',B',C',D',true) (mkV p st ou A B C D (st+su+1)) (mkV p su ou A' B' C' D' (st+su+1)) s_)=fun s_:Nat=>Bm (mkV p st ou A B C D (st+su+1)) (mkV p su ou A' B' C' D' (st+su+1)) s_ from funext e]
  obtain ⟨c,hc,hP⟩:=Aog (xs:=mkV p st ou A B C D (st+su+1)) (ys:=mkV p su ou A' B' C' D' (st+su+1)) (by rw [S8]; omega) (fun k X hX=>by
   have hk:=Be hX;rw [S8] at hk;rw [Akb hk] at hX;obtain rfl:=osj hX;have m1:=Ahf g1 k;have m2:=Ahf g2 k;refine ⟨_,Akb hk,by omega,fun i x hx=>?_⟩;have hi:=Be hx;have q1:=(m1.1 _ (List.mem_of_getElem? hx)).1;have q2:=(m2.1 _ (List.getElem_mem (show i<_ by omega))).1;exact ⟨_,gEg (by omega),by omega,by omega⟩)
  rw [hc];rcases hP with rfl | ⟨r,rfl⟩ <;> exact ⟨_,rfl,rfl⟩
theorem Aje {p i j:Int} {gs hs:List Gt} {outs outz:List Int} (h1:gs.length<=9223372036854775807) (h2:outs.length<=9223372036854775807) (h3:hs.length<=9223372036854775807) (h4:outz.length<=9223372036854775807):Bw p i gs outs j hs outz=some true:=by
 unfold Bw;rw [U3 i gs outs (by omega) h1 h2,obs];by_cases e0:(1048576:Int)<((gs.length+outs.length:Nat):Int)
 ·rw [show szV 1048576 (gs.length+outs.length)= -1 from if_pos e0]; rfl
 rw [show szV 1048576 (gs.length+outs.length)=1048576 - ((gs.length+outs.length:Nat):Int) from if_neg e0,Bq (by omega),cond_false,U3 j hs outz (by omega) h3 h4,obs];by_cases e1:(1048576 - ((gs.length+outs.length:Nat):Int))<((hs.length+outz.length:Nat):Int)
 ·rw [show szV (1048576 - ((gs.length+outs.length:Nat):Int)) (hs.length+outz.length)= -1 from if_pos e1]; rfl
 rw [show szV (1048576 - ((gs.length+outs.length:Nat):Int)) (hs.length+outz.length)=1048576 - ((gs.length+outs.length:Nat):Int) - ((hs.length+outz.length:Nat):Int) from if_neg e1,Bq (by omega),cond_false];have h1:gs.length<=1073741824:=by omega
 have h2:outs.length<=1073741824:=by omega
 have h3:hs.length<=1073741824:=by omega
 have h4:outz.length<=1073741824:=by omega
 obtain ⟨v,k1,k2⟩:=An4 (p:=p) (i:=i) (j:=j) h1 h2 h3 h4;simp only [Vg i gs outs h1 h2,Vg j hs outz h3 h4,k1,k2,obs,Va i gs outs h1 h2,Va j hs outz h3 h4,bne_self_eq_false,Bool.not_true,cond_false]
end
section
open Go.RowKit Go.Deep
theorem firstDeviation_walk (p:Int) (aInputs:Int) (aGates:List (Int×Int×Int×Int)) (A_aGates:Option Addr) (c_aGates:Nat) (l_aGates:List Addr) (aOutputs:List (Int)) (A_aOutputs:Option Addr) (c_aOutputs:Nat) (l_aOutputs:List Addr) (bInputs:Int) (bGates:List (Int×Int×Int×Int)) (A_bGates:Option Addr) (c_bGates:Nat) (l_bGates:List Addr) (bOutputs:List (Int)) (A_bOutputs:Option Addr) (c_bOutputs:Nat) (l_bOutputs:List Addr) (w:World) (_i_p: -9223372036854775808<=p∧p<=9223372036854775807) (_i_aInputs: -9223372036854775808<=aInputs∧aInputs<=9223372036854775807) (s_aGates:Sl (fun _=>True) w (.pair .int (.pair .int (.pair .int .int))) A_aGates c_aGates aGates l_aGates) (_i_aGates:Ty.In (.slice (.pair .int (.pair .int (.pair .int .int)))) aGates) (s_aOutputs:Sl (fun _=>True) w .int A_aOutputs c_aOutputs aOutputs l_aOutputs) (_i_aOutputs:Ty.In (.slice .int) aOutputs) (_i_bInputs: -9223372036854775808<=bInputs∧bInputs<=9223372036854775807) (s_bGates:Sl (fun _=>True) w (.pair .int (.pair .int (.pair .int .int))) A_bGates c_bGates bGates l_bGates) (_i_bGates:Ty.In (.slice (.pair .int (.pair .int (.pair .int .int)))) bGates) (s_bOutputs:Sl (fun _=>True) w .int A_bOutputs c_bOutputs bOutputs l_bOutputs) (_i_bOutputs:Ty.In (.slice .int) bOutputs) (tab:Tab w) :
  Calls Tryd.prog 3 #[.int .i64 p,.agg #[.int .i64 aInputs,.slice A_aGates aGates.length c_aGates,.slice A_aOutputs aOutputs.length c_aOutputs],.agg #[.int .i64 bInputs,.slice A_bGates bGates.length c_bGates,.slice A_bOutputs bOutputs.length c_bOutputs]] w fun e w'=>e=.returned (.bool true)∧Below w.heap.size w w':=by
 have hl:Bw p aInputs aGates aOutputs bInputs bGates bOutputs=some true:=Aje (Acr s_aGates).2 (Acr s_aOutputs).2 (Acr s_bGates).2 (Acr s_bOutputs).2;refine (Jb hl w (fun _=>True) [.int .i64 p,.agg #[.int .i64 aInputs,.slice A_aGates aGates.length c_aGates,.slice A_aOutputs aOutputs.length c_aOutputs],.agg #[.int .i64 bInputs,.slice A_bGates bGates.length c_bGates,.slice A_bOutputs bOutputs.length c_bOutputs]] (fun w' hb=>tab.below hb) ⟨_,_,rfl,rfl,⟨_,_,rfl,⟨_,rfl,⟨_,_,rfl,rfl,⟨_,_,rfl,⟨A_aGates,c_aGates,l_aGates,rfl,s_aGates⟩,⟨_,_,rfl,⟨A_aOutputs,c_aOutputs,l_aOutputs,rfl,s_aOutputs⟩,rfl⟩⟩⟩⟩,⟨_,_,rfl,⟨_,rfl,⟨_,_,rfl,rfl,⟨_,_,rfl,⟨A_bGates,c_bGates,l_bGates,rfl,s_bGates⟩,⟨_,_,rfl,⟨A_bOutputs,c_bOutputs,l_bOutputs,rfl,s_bOutputs⟩,rfl⟩⟩⟩⟩,rfl⟩⟩⟩).mono ?_;rintro e w' ⟨u,rfl,hb,us,ls,h1,_,rfl⟩;obtain ⟨u1,us1,rfl,h2,_,rfl,rfl⟩:=h1;obtain rfl:u1=.bool true:=h2;exact ⟨rfl,hb⟩
end
end Go.Proofs.YtmflebjoidoiiaaDoor
