/- Lemmas on the program and on partial functions that stand in place of its code (part 5); no condition beyond those that each one states. -/
import Derived.Test.YtkaollfdhoaihaaDoorZ4
namespace Go.Proofs.YtkaollfdhoaihaaDoor
section
open Go.RowKit Go.Deep
set_option maxRecDepth 4000
def Oh:AC :=
 (.seq (rg [xo 56 (qb .lss (tm 55) (tm 54))])
 (.seq (.cond (tm 56)
  .skip
  (.exit 0))
 (.seq (.block 1 (.seq (rg [xo 57 (qx 3 (tm 53) (tm 55)),xo 58 (.i (.ld false 3 (tm 57))),xo 6 (.i (.alloc 81 [.int .i64 0,.int .i64 0,.int .i64 0])),xn (.st false 3 (tm 6) (tm 58))])
 (.seq (rg [xo 59 (qf 0 (tm 6)),xo 60 (ql (tm 59)),xo 61 (qf 0 (tm 3)),xo 62 (ql (tm 61)),xo 63 (qb .sub (tm 62) (ci 1)),xo 64 (qc 55 [tm 60,ci 0,tm 63] [[],[],[]]),xo 65 (.i (.not (tm 64))),xo 66 (qm (tm 65)),⟨some 67,some (66,false),qf 1 (tm 6)⟩,⟨some 68,some (66,false),ql (tm 67)⟩,⟨some 69,some (66,false),qf 0 (tm 3)⟩,⟨some 70,some (66,false),ql (tm 69)⟩,⟨some 71,some (66,false),qb .sub (tm 70) (ci 1)⟩,⟨some 72,some (66,false),qc 55 [tm 68,ci 0,tm 71] [[],[],[]]⟩,⟨some 73,some (66,false),.i (.not (tm 72))⟩,xo 74 (.i (.pick (tm 66) (cb true) (tm 73))),xo 75 (qm (tm 74)),⟨some 76,some (75,false),qf 0 (tm 6)⟩,⟨some 77,some (75,false),ql (tm 76)⟩,⟨some 78,some (75,false),qf 1 (tm 6)⟩,⟨some 79,some (75,false),ql (tm 78)⟩,⟨some 80,some (75,false),qb .eql (tm 77) (tm 79)⟩,xo 81 (.i (.pick (tm 75) (cb true) (tm 80))),xo 82 (qm (tm 81)),⟨some 83,some (82,false),qf 2 (tm 6)⟩,⟨some 84,some (82,false),ql (tm 83)⟩,⟨some 85,some (82,false),qm (tm 0)⟩,⟨some 86,some (82,false),qb .sub (tm 85) (ci 1)⟩,⟨some 87,some (82,false),qc 55 [tm 84,ci 1,tm 86] [[],[],[]]⟩,⟨some 88,some (82,false),.i (.not (tm 87))⟩,xo 89 (.i (.pick (tm 82) (cb true) (tm 88)))])
 (.cond (tm 89)
  (.seq (rg [xo 4 (qm (cb false))])
  .ret)
  .skip))))
 (rg [xo 90 (qb .add (tm 55) (ci 1)),xo 55 (qm (tm 90))]))))
def Tt:AC :=
 (.seq (rg [xo 3 (.i (.box 34 (tm 1))),xo 4 (qm (cb false))])
 (.seq (.seq (rg [xo 7 (qm (tm 0)),xo 8 (qc 54 [tm 7] [[]]),xo 9 (.i (.not (tm 8))),xo 10 (qm (tm 9)),⟨some 11,some (10,false),qf 0 (tm 3)⟩,⟨some 12,some (10,false),ql (tm 11)⟩,⟨some 13,some (10,false),qc 55 [tm 12,ci 1,ci 20] [[],[],[]]⟩,⟨some 14,some (10,false),.i (.not (tm 13))⟩,xo 15 (.i (.pick (tm 10) (cb true) (tm 14))),xo 16 (qm (tm 15)),⟨some 17,some (16,false),qf 1 (tm 3)⟩,⟨some 18,some (16,false),ql (tm 17)⟩,⟨some 19,some (16,false),.i (.len (tm 18))⟩,⟨some 20,some (16,false),qb .gtr (tm 19) (ci 60)⟩,xo 21 (.i (.pick (tm 16) (cb true) (tm 20))),xo 22 (qm (tm 21)),⟨some 23,some (22,false),qf 2 (tm 3)⟩,⟨some 24,some (22,false),ql (tm 23)⟩,⟨some 25,some (22,false),.i (.len (tm 24))⟩,⟨some 26,some (22,false),qb .gtr (tm 25) (ci 6)⟩,xo 27 (.i (.pick (tm 22) (cb true) (tm 26))),xo 28 (qm (tm 27)),⟨some 29,some (28,false),qf 3 (tm 3)⟩,⟨some 30,some (28,false),ql (tm 29)⟩,⟨some 31,some (28,false),.i (.len (tm 30))⟩,⟨some 32,some (28,false),qb .gtr (tm 31) (ci 6)⟩,xo 33 (.i (.pick (tm 28) (cb true) (tm 32))),xo 34 (qm (tm 33)),⟨some 35,some (34,false),qf 2 (tm 3)⟩,⟨some 36,some (34,false),ql (tm 35)⟩,⟨some 37,some (34,false),qf 0 (tm 3)⟩,⟨some 38,some (34,false),ql (tm 37)⟩,⟨some 39,some (34,false),qb .sub (tm 38) (ci 1)⟩,⟨some 40,some (34,false),qc 56 [tm 36,ci 0,tm 39] [[some .int],[],[]]⟩,⟨some 41,some (34,false),.i (.not (tm 40))⟩,xo 42 (.i (.pick (tm 34) (cb true) (tm 41))),xo 43 (qm (tm 42)),⟨some 44,some (43,false),qf 3 (tm 3)⟩,⟨some 45,some (43,false),ql (tm 44)⟩,⟨some 46,some (43,false),qf 0 (tm 3)⟩,⟨some 47,some (43,false),ql (tm 46)⟩,⟨some 48,some (43,false),qb .sub (tm 47) (ci 1)⟩,⟨some 49,some (43,false),qc 56 [tm 45,ci 0,tm 48] [[some .int],[],[]]⟩,⟨some 50,some (43,false),.i (.not (tm 49))⟩,xo 51 (.i (.pick (tm 43) (cb true) (tm 50)))])
 (.cond (tm 51)
  (.seq (rg [xo 4 (qm (cb false))])
  .ret)
  .skip))
 (.seq (.seq (rg [xo 52 (qf 1 (tm 3)),xo 53 (ql (tm 52)),xo 54 (.i (.len (tm 53))),xo 55 (qm (ci 0))])
 (.block 0 (.loop Oh)))
 (.seq (rg [xo 4 (qm (cb true))])
 .ret))))
def Ac2:List Res:=[.tmp 4]
theorem Adp:Aw Tryd.prog Tryd.f22=some (Tt,Ac2):=by kernel_rfl
def Ii (a1_1:List (Int×Int×Int)) (a1_0:Int) (a0:Int) (l18_m55:Nat):Option (Ctl Nat (Ctl Unit Bool)) :=
 cond (decide (((l18_m55:Nat):Int)<((a1_1.length:Nat):Int)))
 (Option.bind (a1_1[l18_m55]?) fun x24 =>
 Option.bind (Option.bind (Ec x24.1 0 (wI (a1_0 - 1))) fun y26 =>
  cond (!y26)
   (some true)
   (Option.bind (Ec x24.2.1 0 (wI (a1_0 - 1))) fun y28 =>
   cond (!y28)
    (some true)
    (cond (x24.1==x24.2.1)
     (some true)
     (Option.bind (Ec x24.2.2 1 (wI (a0 - 1))) fun y31 =>
     some (!y31))))) fun l25_m89 =>
 cond l25_m89
  (some (Ctl.out (Ctl.out false)))
  (og (l18_m55+1<4611686018427387904) <|
  some (Ctl.next (l18_m55+1))))
 (some (Ctl.out (Ctl.next ())))
def I7 (a0:Int) (a1_0:Int) (a1_1:List (Int×Int×Int)) (a1_2:List Int) (a1_3:List Int):Option Bool :=
 Option.bind (Option.bind (Iw a0) fun y4 =>
 cond (!y4)
  (some true)
  (Option.bind (Ec a1_0 1 20) fun y6 =>
  cond (!y6)
   (some true)
   (cond (decide (60<((a1_1.length:Nat):Int)))
    (some true)
    (cond (decide (6<((a1_2.length:Nat):Int)))
     (some true)
     (cond (decide (6<((a1_3.length:Nat):Int)))
      (some true)
      (Option.bind (Fc a1_2 0 (wI (a1_0 - 1))) fun y11 =>
      cond (!y11)
       (some true)
       (Option.bind (Fc a1_3 0 (wI (a1_0 - 1))) fun y13 =>
       some (!y13)))))))) fun l3_m51 =>
cond l3_m51
 (some false)
 (Ud (Av (fun s_:Nat=>Ii a1_1 a1_0 a0 s_) 4611686018427387904 0) fun _ =>
 some true)
def Abi (r:Bool):RV:=⟨false,[(false,[.sc (.bool r)])]⟩
set_option maxHeartbeats 1600000 in
theorem H3 {a0:Int} {a1_0:Int} {a1_1:List (Int×Int×Int)} {a1_2:List Int} {a1_3:List Int} {r:Bool} (h:I7 a0 a1_0 a1_1 a1_2 a1_3=some r):Bm Tryd.prog Tab 22 [ai a0,.agg [ai a1_0,.tree (.pair .int (.pair .int .int)) a1_1,.tree .int a1_2,.tree .int a1_3]] (Abi r):=by
 refine Ba (by kernel_rfl) Tryd.func22 Adp (n:=91) (by kernel_rfl) (by simp) (tl:=[(0,ai a0),(1,.agg [ai a1_0,.tree (.pair .int (.pair .int .int)) a1_1,.tree .int a1_2,.tree .int a1_3])]) rfl ?_;unfold Tt;unfold I7 at h;refine An ?_;refine Ab ?_;refine As h (fun (l3_m51:Bool) S_=>S_=⟨Ap [(0,ai a0),(3,.box (oi 0 1) 0),(51,.bool l3_m51)],Aj (Ar [(oi 0 1,.cells 34 [ai a1_0,.tree (.pair .int (.pair .int .int)) a1_1,.tree .int a1_2,.tree .int a1_3])]),2⟩) ?_ ?_
 ·intro v_ h;obtain ⟨y4,h4,h⟩:=Ad h;rcases Ae h with ⟨q5,h⟩ | ⟨q5,h⟩
  ·refine Aa 48 ?_;refine rz0 (ai a0) ?_;refine zc (.bool y4) [] [ai a0] (Eu h4) ?_;refine rz0 (.bool (!y4)) ?_;refine rz0 (.bool (!y4)) ?_;refine zs q5 ?_;refine zs q5 ?_;refine zs q5 ?_;refine zs q5 ?_;refine rs0 (.bool true) (zT q5) ?_;refine rsB 36 ?_;refine Aq (tn_ ?_);obtain rfl:=zj h;exact ⟨_,Ac [(oi 0 1,oi 3 1)],rfl⟩
  obtain ⟨y6,h6,h⟩:=Ad h;rcases Ae h with ⟨q7,h⟩ | ⟨q7,h⟩
  ·refine Aa 48 ?_;refine rz0 (ai a0) ?_;refine zc (.bool y4) [] [ai a0] (Eu h4) ?_;refine rz0 (.bool (!y4)) ?_;refine rz0 (.bool (!y4)) ?_;refine rs0 (.box (oi 3 1) 0) (zg q5) ?_;refine rsl (ai a1_0) (zg q5) ?_;refine B9 (.bool y6) [] [ai a1_0,ai 1,ai 20] _ (caps:=[]) (args0:=[ai a1_0,ai 1,ai 20]) (C9 (by kernel_rfl) q5) (by kernel_rfl) (Bz h6) Ds ?_;refine rs0 (.bool (!y6)) (zg q5) ?_;refine rs0 (.bool (!y6)) (zF q5) ?_;refine rz0 (.bool (!y6)) ?_;refine zs q7 ?_;refine zs q7 ?_;refine zs q7 ?_;refine zs q7 ?_;refine rs0 (.bool true) (zT q7) ?_;refine rsB 30 ?_;refine Aq (tn_ ?_);obtain rfl:=zj h;exact ⟨_,Ac [(oi 0 1,oi 3 1)],rfl⟩
  rcases Ae h with ⟨q8,h⟩ | ⟨q8,h⟩
  ·have q8_:=of_decide_eq_true q8;refine Aa 48 ?_;refine rz0 (ai a0) ?_;refine zc (.bool y4) [] [ai a0] (Eu h4) ?_;refine rz0 (.bool (!y4)) ?_;refine rz0 (.bool (!y4)) ?_;refine rs0 (.box (oi 3 1) 0) (zg q5) ?_;refine rsl (ai a1_0) (zg q5) ?_;refine B9 (.bool y6) [] [ai a1_0,ai 1,ai 20] _ (caps:=[]) (args0:=[ai a1_0,ai 1,ai 20]) (C9 (by kernel_rfl) q5) (by kernel_rfl) (Bz h6) Ds ?_;refine rs0 (.bool (!y6)) (zg q5) ?_;refine rs0 (.bool (!y6)) (zF q5) ?_;refine rz0 (.bool (!y6)) ?_;refine rs0 (.box (oi 3 1) 1) (zg q7) ?_;refine rsl (.tree (.pair .int (.pair .int .int)) a1_1) (zg q7) ?_;refine rs0 (ai ((a1_1.length:Nat):Int)) (zg q7) ?_;refine rs0 (.bool (decide (60<((a1_1.length:Nat):Int)))) (zg q7) ?_;refine rs0 (.bool (decide (60<((a1_1.length:Nat):Int)))) (zF q7) ?_;refine rz0 (.bool (decide (60<((a1_1.length:Nat):Int)))) ?_;refine zs q8 ?_;refine zs q8 ?_;refine zs q8 ?_;refine zs q8 ?_;refine rs0 (.bool true) (zT q8) ?_;refine rsB 24 ?_;refine Aq (tn_ ?_);obtain rfl:=zj h;exact ⟨_,Ac [(oi 0 1,oi 3 1)],rfl⟩
  have q8_:=of_decide_eq_false q8;rcases Ae h with ⟨q9,h⟩ | ⟨q9,h⟩
  ·have q9_:=of_decide_eq_true q9;refine Aa 48 ?_;refine rz0 (ai a0) ?_;refine zc (.bool y4) [] [ai a0] (Eu h4) ?_;refine rz0 (.bool (!y4)) ?_;refine rz0 (.bool (!y4)) ?_;refine rs0 (.box (oi 3 1) 0) (zg q5) ?_;refine rsl (ai a1_0) (zg q5) ?_;refine B9 (.bool y6) [] [ai a1_0,ai 1,ai 20] _ (caps:=[]) (args0:=[ai a1_0,ai 1,ai 20]) (C9 (by kernel_rfl) q5) (by kernel_rfl) (Bz h6) Ds ?_;refine rs0 (.bool (!y6)) (zg q5) ?_;refine rs0 (.bool (!y6)) (zF q5) ?_;refine rz0 (.bool (!y6)) ?_;refine rs0 (.box (oi 3 1) 1) (zg q7) ?_;refine rsl (.tree (.pair .int (.pair .int .int)) a1_1) (zg q7) ?_;refine rs0 (ai ((a1_1.length:Nat):Int)) (zg q7) ?_;refine rs0 (.bool (decide (60<((a1_1.length:Nat):Int)))) (zg q7) ?_;refine rs0 (.bool (decide (60<((a1_1.length:Nat):Int)))) (zF q7) ?_;refine rz0 (.bool (decide (60<((a1_1.length:Nat):Int)))) ?_;refine rs0 (.box (oi 3 1) 2) (zg q8) ?_;refine rsl (.tree .int a1_2) (zg q8) ?_;refine rs0 (ai ((a1_2.length:Nat):Int)) (zg q8) ?_;refine rs0 (.bool (decide (6<((a1_2.length:Nat):Int)))) (zg q8) ?_;refine rs0 (.bool (decide (6<((a1_2.length:Nat):Int)))) (zF q8) ?_;refine rz0 (.bool (decide (6<((a1_2.length:Nat):Int)))) ?_;refine zs q9 ?_;refine zs q9 ?_;refine zs q9 ?_;refine zs q9 ?_;refine rs0 (.bool true) (zT q9) ?_;refine rsB 18 ?_;refine Aq (tn_ ?_);obtain rfl:=zj h;exact ⟨_,Ac [(oi 0 1,oi 3 1)],rfl⟩
  have q9_:=of_decide_eq_false q9;rcases Ae h with ⟨q10,h⟩ | ⟨q10,h⟩
  ·have q10_:=of_decide_eq_true q10;refine Aa 48 ?_;refine rz0 (ai a0) ?_;refine zc (.bool y4) [] [ai a0] (Eu h4) ?_;refine rz0 (.bool (!y4)) ?_;refine rz0 (.bool (!y4)) ?_;refine rs0 (.box (oi 3 1) 0) (zg q5) ?_;refine rsl (ai a1_0) (zg q5) ?_;refine B9 (.bool y6) [] [ai a1_0,ai 1,ai 20] _ (caps:=[]) (args0:=[ai a1_0,ai 1,ai 20]) (C9 (by kernel_rfl) q5) (by kernel_rfl) (Bz h6) Ds ?_;refine rs0 (.bool (!y6)) (zg q5) ?_;refine rs0 (.bool (!y6)) (zF q5) ?_;refine rz0 (.bool (!y6)) ?_;refine rs0 (.box (oi 3 1) 1) (zg q7) ?_;refine rsl (.tree (.pair .int (.pair .int .int)) a1_1) (zg q7) ?_;refine rs0 (ai ((a1_1.length:Nat):Int)) (zg q7) ?_;refine rs0 (.bool (decide (60<((a1_1.length:Nat):Int)))) (zg q7) ?_;refine rs0 (.bool (decide (60<((a1_1.length:Nat):Int)))) (zF q7) ?_;refine rz0 (.bool (decide (60<((a1_1.length:Nat):Int)))) ?_;refine rs0 (.box (oi 3 1) 2) (zg q8) ?_;refine rsl (.tree .int a1_2) (zg q8) ?_;refine rs0 (ai ((a1_2.length:Nat):Int)) (zg q8) ?_;refine rs0 (.bool (decide (6<((a1_2.length:Nat):Int)))) (zg q8) ?_;refine rs0 (.bool (decide (6<((a1_2.length:Nat):Int)))) (zF q8) ?_;refine rz0 (.bool (decide (6<((a1_2.length:Nat):Int)))) ?_;refine rs0 (.box (oi 3 1) 3) (zg q9) ?_;refine rsl (.tree .int a1_3) (zg q9) ?_;refine rs0 (ai ((a1_3.length:Nat):Int)) (zg q9) ?_;refine rs0 (.bool (decide (6<((a1_3.length:Nat):Int)))) (zg q9) ?_;refine rs0 (.bool (decide (6<((a1_3.length:Nat):Int)))) (zF q9) ?_;refine rz0 (.bool (decide (6<((a1_3.length:Nat):Int)))) ?_;refine zs q10 ?_;refine zs q10 ?_;refine zs q10 ?_;refine zs q10 ?_;refine zs q10 ?_;refine zs q10 ?_;refine zs q10 ?_;refine rs0 (.bool true) (zT q10) ?_;refine rsB 9 ?_;refine Aq (tn_ ?_);obtain rfl:=zj h;exact ⟨_,Ac [(oi 0 1,oi 3 1)],rfl⟩
  have q10_:=of_decide_eq_false q10;obtain ⟨y11,h11,h⟩:=Ad h;rcases Ae h with ⟨q12,h⟩ | ⟨q12,h⟩
  ·refine Aa 48 ?_;refine rz0 (ai a0) ?_;refine zc (.bool y4) [] [ai a0] (Eu h4) ?_;refine rz0 (.bool (!y4)) ?_;refine rz0 (.bool (!y4)) ?_;refine rs0 (.box (oi 3 1) 0) (zg q5) ?_;refine rsl (ai a1_0) (zg q5) ?_;refine B9 (.bool y6) [] [ai a1_0,ai 1,ai 20] _ (caps:=[]) (args0:=[ai a1_0,ai 1,ai 20]) (C9 (by kernel_rfl) q5) (by kernel_rfl) (Bz h6) Ds ?_;refine rs0 (.bool (!y6)) (zg q5) ?_;refine rs0 (.bool (!y6)) (zF q5) ?_;refine rz0 (.bool (!y6)) ?_;refine rs0 (.box (oi 3 1) 1) (zg q7) ?_;refine rsl (.tree (.pair .int (.pair .int .int)) a1_1) (zg q7) ?_;refine rs0 (ai ((a1_1.length:Nat):Int)) (zg q7) ?_;refine rs0 (.bool (decide (60<((a1_1.length:Nat):Int)))) (zg q7) ?_;refine rs0 (.bool (decide (60<((a1_1.length:Nat):Int)))) (zF q7) ?_;refine rz0 (.bool (decide (60<((a1_1.length:Nat):Int)))) ?_;refine rs0 (.box (oi 3 1) 2) (zg q8) ?_;refine rsl (.tree .int a1_2) (zg q8) ?_;refine rs0 (ai ((a1_2.length:Nat):Int)) (zg q8) ?_;refine rs0 (.bool (decide (6<((a1_2.length:Nat):Int)))) (zg q8) ?_;refine rs0 (.bool (decide (6<((a1_2.length:Nat):Int)))) (zF q8) ?_;refine rz0 (.bool (decide (6<((a1_2.length:Nat):Int)))) ?_;refine rs0 (.box (oi 3 1) 3) (zg q9) ?_;refine rsl (.tree .int a1_3) (zg q9) ?_;refine rs0 (ai ((a1_3.length:Nat):Int)) (zg q9) ?_;refine rs0 (.bool (decide (6<((a1_3.length:Nat):Int)))) (zg q9) ?_;refine rs0 (.bool (decide (6<((a1_3.length:Nat):Int)))) (zF q9) ?_;refine rz0 (.bool (decide (6<((a1_3.length:Nat):Int)))) ?_;refine rs0 (.box (oi 3 1) 2) (zg q10) ?_;refine rsl (.tree .int a1_2) (zg q10) ?_;refine rs0 (.box (oi 3 1) 0) (zg q10) ?_;refine rsl (ai a1_0) (zg q10) ?_;refine rs0 (ai (wI (a1_0 - 1))) (zg q10) ?_;refine B9 (.bool y11) [] [.tree .int a1_2,ai 0,ai (wI (a1_0 - 1))] _ (caps:=[]) (args0:=[.tree .int a1_2,ai 0,ai (wI (a1_0 - 1))]) (C9 (by kernel_rfl) q10) (by kernel_rfl) (Jc h11) Kr ?_;refine rs0 (.bool (!y11)) (zg q10) ?_;refine rs0 (.bool (!y11)) (zF q10) ?_;refine rz0 (.bool (!y11)) ?_;refine zs q12 ?_;refine zs q12 ?_;refine zs q12 ?_;refine zs q12 ?_;refine zs q12 ?_;refine zs q12 ?_;refine zs q12 ?_;refine rs0 (.bool true) (zT q12) ?_;refine Aq (tn_ ?_);obtain rfl:=zj h;exact ⟨_,Ac [(oi 0 1,oi 3 1)],rfl⟩
  obtain ⟨y13,h13,h⟩:=Ad h;refine Aa 48 ?_;refine rz0 (ai a0) ?_;refine zc (.bool y4) [] [ai a0] (Eu h4) ?_;refine rz0 (.bool (!y4)) ?_;refine rz0 (.bool (!y4)) ?_;refine rs0 (.box (oi 3 1) 0) (zg q5) ?_;refine rsl (ai a1_0) (zg q5) ?_;refine B9 (.bool y6) [] [ai a1_0,ai 1,ai 20] _ (caps:=[]) (args0:=[ai a1_0,ai 1,ai 20]) (C9 (by kernel_rfl) q5) (by kernel_rfl) (Bz h6) Ds ?_;refine rs0 (.bool (!y6)) (zg q5) ?_;refine rs0 (.bool (!y6)) (zF q5) ?_;refine rz0 (.bool (!y6)) ?_;refine rs0 (.box (oi 3 1) 1) (zg q7) ?_;refine rsl (.tree (.pair .int (.pair .int .int)) a1_1) (zg q7) ?_;refine rs0 (ai ((a1_1.length:Nat):Int)) (zg q7) ?_;refine rs0 (.bool (decide (60<((a1_1.length:Nat):Int)))) (zg q7) ?_;refine rs0 (.bool (decide (60<((a1_1.length:Nat):Int)))) (zF q7) ?_;refine rz0 (.bool (decide (60<((a1_1.length:Nat):Int)))) ?_;refine rs0 (.box (oi 3 1) 2) (zg q8) ?_;refine rsl (.tree .int a1_2) (zg q8) ?_;refine rs0 (ai ((a1_2.length:Nat):Int)) (zg q8) ?_;refine rs0 (.bool (decide (6<((a1_2.length:Nat):Int)))) (zg q8) ?_;refine rs0 (.bool (decide (6<((a1_2.length:Nat):Int)))) (zF q8) ?_;refine rz0 (.bool (decide (6<((a1_2.length:Nat):Int)))) ?_;refine rs0 (.box (oi 3 1) 3) (zg q9) ?_;refine rsl (.tree .int a1_3) (zg q9) ?_;refine rs0 (ai ((a1_3.length:Nat):Int)) (zg q9) ?_;refine rs0 (.bool (decide (6<((a1_3.length:Nat):Int)))) (zg q9) ?_;refine rs0 (.bool (decide (6<((a1_3.length:Nat):Int)))) (zF q9) ?_;refine rz0 (.bool (decide (6<((a1_3.length:Nat):Int)))) ?_;refine rs0 (.box (oi 3 1) 2) (zg q10) ?_;refine rsl (.tree .int a1_2) (zg q10) ?_;refine rs0 (.box (oi 3 1) 0) (zg q10) ?_;refine rsl (ai a1_0) (zg q10) ?_;refine rs0 (ai (wI (a1_0 - 1))) (zg q10) ?_;refine B9 (.bool y11) [] [.tree .int a1_2,ai 0,ai (wI (a1_0 - 1))] _ (caps:=[]) (args0:=[.tree .int a1_2,ai 0,ai (wI (a1_0 - 1))]) (C9 (by kernel_rfl) q10) (by kernel_rfl) (Jc h11) Kr ?_;refine rs0 (.bool (!y11)) (zg q10) ?_;refine rs0 (.bool (!y11)) (zF q10) ?_;refine rz0 (.bool (!y11)) ?_;refine rs0 (.box (oi 3 1) 3) (zg q12) ?_;refine rsl (.tree .int a1_3) (zg q12) ?_;refine rs0 (.box (oi 3 1) 0) (zg q12) ?_;refine rsl (ai a1_0) (zg q12) ?_;refine rs0 (ai (wI (a1_0 - 1))) (zg q12) ?_;refine B9 (.bool y13) [] [.tree .int a1_3,ai 0,ai (wI (a1_0 - 1))] _ (caps:=[]) (args0:=[.tree .int a1_3,ai 0,ai (wI (a1_0 - 1))]) (C9 (by kernel_rfl) q12) (by kernel_rfl) (Jc h13) Kr ?_;refine rs0 (.bool (!y13)) (zg q12) ?_;refine rs0 (.bool (!y13)) (zF q12) ?_;refine Aq (tn_ ?_);obtain rfl:=zj h;exact ⟨_,Ac [(oi 0 1,oi 3 1)],rfl⟩
 rintro l3_m51 _ rfl h
 (try dsimp only at h);rcases Ae h with ⟨q14,h⟩ | ⟨q14,h⟩
 ·refine Ah q14 ?_;refine An ?_;refine Ao (tr_ ?_);obtain rfl:=zj h;exact Br [.bool false] (A8 rfl zl Bc)
 refine Ag q14 ?_;refine Ai (tn_ ?_);refine wr_ ?_;refine G8 h (fun (_:Unit) S_=>S_=⟨Ap [],Aj (Ar []),2⟩) ?_ ?_
 ·intro v_ h hk16;refine An ?_;refine Af ?_;refine Ax h (fun (l18_m55:Nat) S_=>S_=⟨Ap [(0,ai a0),(3,.box (oi 0 1) 0),(53,.tree (.pair .int (.pair .int .int)) a1_1),(54,ai ((a1_1.length:Nat):Int)),(55,ai ((l18_m55:Nat):Int))],Aj (Ar [(oi 0 1,.cells 34 [ai a1_0,.tree (.pair .int (.pair .int .int)) a1_1,.tree .int a1_2,.tree .int a1_3])]),2⟩) ⟨_,Ac [],rfl⟩ ?_;rintro n_ l18_m55 _ c_ rfl h hn18
  (try dsimp only at h);unfold Ii at h;unfold Oh;refine An ?_;refine Ab ?_;rcases Ae h with ⟨q21,h⟩ | ⟨q21,h⟩
  ·have q21_:=of_decide_eq_true q21;refine Ah q21 ?_;refine Ai (tn_ ?_);refine wr_ ?_;refine Ab ?_;refine Af ?_;refine Ab ?_;obtain ⟨x24,e24,h⟩:=Ad h;refine Aa 7 ?_;refine rs0 (.telt (.pair .int (.pair .int .int)) x24 0) (zi (t:=.pair .int (.pair .int .int)) (xs:=a1_1) (k:=.i64) (m:=((l18_m55:Nat):Int)) (At _) e24) ?_;refine rsB 3 ?_;refine Aq (tn_ ?_);refine wr_ ?_;refine As h (fun (l25_m89:Bool) S_=>S_=⟨Ap [(0,ai a0),(3,.box (oi 0 1) 0),(53,.tree (.pair .int (.pair .int .int)) a1_1),(54,ai ((a1_1.length:Nat):Int)),(55,ai ((l18_m55:Nat):Int)),(89,.bool l25_m89)],Aj (Ar [(oi 0 1,.cells 34 [ai a1_0,.tree (.pair .int (.pair .int .int)) a1_1,.tree .int a1_2,.tree .int a1_3])]),2⟩) ?_ ?_
   ·intro v_ h;obtain ⟨y26,h26,h⟩:=Ad h;rcases Ae h with ⟨q27,h⟩ | ⟨q27,h⟩
    ·refine Aa 38 ?_;refine rz0 (.box (oi 6 5) 0) ?_;refine rzl (ai x24.1) ?_;refine rz0 (.box (oi 0 1) 0) ?_;refine rzl (ai a1_0) ?_;refine rz0 (ai (wI (a1_0 - 1))) ?_;refine zc (.bool y26) [] [ai x24.1,ai 0,ai (wI (a1_0 - 1))] (Bz h26) ?_;refine rz0 (.bool (!y26)) ?_;refine rz0 (.bool (!y26)) ?_;refine zs q27 ?_;refine zs q27 ?_;refine zs q27 ?_;refine zs q27 ?_;refine zs q27 ?_;refine zs q27 ?_;refine zs q27 ?_;refine rs0 (.bool true) (zT q27) ?_;refine rsB 15 ?_;refine Aq (tn_ ?_);obtain rfl:=zj h;exact ⟨_,Ac [],rfl⟩
    obtain ⟨y28,h28,h⟩:=Ad h;rcases Ae h with ⟨q29,h⟩ | ⟨q29,h⟩
    ·refine Aa 38 ?_;refine rz0 (.box (oi 6 5) 0) ?_;refine rzl (ai x24.1) ?_;refine rz0 (.box (oi 0 1) 0) ?_;refine rzl (ai a1_0) ?_;refine rz0 (ai (wI (a1_0 - 1))) ?_;refine zc (.bool y26) [] [ai x24.1,ai 0,ai (wI (a1_0 - 1))] (Bz h26) ?_;refine rz0 (.bool (!y26)) ?_;refine rz0 (.bool (!y26)) ?_;refine rs0 (.box (oi 6 5) 1) (zg q27) ?_;refine rsl (ai x24.2.1) (zg q27) ?_;refine rs0 (.box (oi 0 1) 0) (zg q27) ?_;refine rsl (ai a1_0) (zg q27) ?_;refine rs0 (ai (wI (a1_0 - 1))) (zg q27) ?_;refine B9 (.bool y28) [] [ai x24.2.1,ai 0,ai (wI (a1_0 - 1))] _ (caps:=[]) (args0:=[ai x24.2.1,ai 0,ai (wI (a1_0 - 1))]) (C9 (by kernel_rfl) q27) (by kernel_rfl) (Bz h28) Ds ?_;refine rs0 (.bool (!y28)) (zg q27) ?_;refine rs0 (.bool (!y28)) (zF q27) ?_;refine rz0 (.bool (!y28)) ?_;refine zs q29 ?_;refine zs q29 ?_;refine zs q29 ?_;refine zs q29 ?_;refine zs q29 ?_;refine rs0 (.bool true) (zT q29) ?_;refine rsB 8 ?_;refine Aq (tn_ ?_);obtain rfl:=zj h;exact ⟨_,Ac [],rfl⟩
    rcases Ae h with ⟨q30,h⟩ | ⟨q30,h⟩
    ·refine Aa 38 ?_;refine rz0 (.box (oi 6 5) 0) ?_;refine rzl (ai x24.1) ?_;refine rz0 (.box (oi 0 1) 0) ?_;refine rzl (ai a1_0) ?_;refine rz0 (ai (wI (a1_0 - 1))) ?_;refine zc (.bool y26) [] [ai x24.1,ai 0,ai (wI (a1_0 - 1))] (Bz h26) ?_;refine rz0 (.bool (!y26)) ?_;refine rz0 (.bool (!y26)) ?_;refine rs0 (.box (oi 6 5) 1) (zg q27) ?_;refine rsl (ai x24.2.1) (zg q27) ?_;refine rs0 (.box (oi 0 1) 0) (zg q27) ?_;refine rsl (ai a1_0) (zg q27) ?_;refine rs0 (ai (wI (a1_0 - 1))) (zg q27) ?_;refine B9 (.bool y28) [] [ai x24.2.1,ai 0,ai (wI (a1_0 - 1))] _ (caps:=[]) (args0:=[ai x24.2.1,ai 0,ai (wI (a1_0 - 1))]) (C9 (by kernel_rfl) q27) (by kernel_rfl) (Bz h28) Ds ?_;refine rs0 (.bool (!y28)) (zg q27) ?_;refine rs0 (.bool (!y28)) (zF q27) ?_;refine rz0 (.bool (!y28)) ?_;refine rs0 (.box (oi 6 5) 0) (zg q29) ?_;refine rsl (ai x24.1) (zg q29) ?_;refine rs0 (.box (oi 6 5) 1) (zg q29) ?_;refine rsl (ai x24.2.1) (zg q29) ?_;refine rs0 (.bool (x24.1==x24.2.1)) (zg q29) ?_;refine rs0 (.bool (x24.1==x24.2.1)) (zF q29) ?_;refine rz0 (.bool (x24.1==x24.2.1)) ?_;refine zs q30 ?_;refine zs q30 ?_;refine zs q30 ?_;refine zs q30 ?_;refine zs q30 ?_;refine zs q30 ?_;refine rs0 (.bool true) (zT q30) ?_;refine Aq (tn_ ?_);obtain rfl:=zj h;exact ⟨_,Ac [],rfl⟩
    obtain ⟨y31,h31,h⟩:=Ad h;refine Aa 38 ?_;refine rz0 (.box (oi 6 5) 0) ?_;refine rzl (ai x24.1) ?_;refine rz0 (.box (oi 0 1) 0) ?_;refine rzl (ai a1_0) ?_;refine rz0 (ai (wI (a1_0 - 1))) ?_;refine zc (.bool y26) [] [ai x24.1,ai 0,ai (wI (a1_0 - 1))] (Bz h26) ?_;refine rz0 (.bool (!y26)) ?_;refine rz0 (.bool (!y26)) ?_;refine rs0 (.box (oi 6 5) 1) (zg q27) ?_;refine rsl (ai x24.2.1) (zg q27) ?_;refine rs0 (.box (oi 0 1) 0) (zg q27) ?_;refine rsl (ai a1_0) (zg q27) ?_;refine rs0 (ai (wI (a1_0 - 1))) (zg q27) ?_;refine B9 (.bool y28) [] [ai x24.2.1,ai 0,ai (wI (a1_0 - 1))] _ (caps:=[]) (args0:=[ai x24.2.1,ai 0,ai (wI (a1_0 - 1))]) (C9 (by kernel_rfl) q27) (by kernel_rfl) (Bz h28) Ds ?_;refine rs0 (.bool (!y28)) (zg q27) ?_;refine rs0 (.bool (!y28)) (zF q27) ?_;refine rz0 (.bool (!y28)) ?_;refine rs0 (.box (oi 6 5) 0) (zg q29) ?_;refine rsl (ai x24.1) (zg q29) ?_;refine rs0 (.box (oi 6 5) 1) (zg q29) ?_;refine rsl (ai x24.2.1) (zg q29) ?_;refine rs0 (.bool (x24.1==x24.2.1)) (zg q29) ?_;refine rs0 (.bool (x24.1==x24.2.1)) (zF q29) ?_;refine rz0 (.bool (x24.1==x24.2.1)) ?_;refine rs0 (.box (oi 6 5) 2) (zg q30) ?_;refine rsl (ai x24.2.2) (zg q30) ?_;refine rs0 (ai a0) (zg q30) ?_;refine rs0 (ai (wI (a0 - 1))) (zg q30) ?_;refine B9 (.bool y31) [] [ai x24.2.2,ai 1,ai (wI (a0 - 1))] _ (caps:=[]) (args0:=[ai x24.2.2,ai 1,ai (wI (a0 - 1))]) (C9 (by kernel_rfl) q30) (by kernel_rfl) (Bz h31) Ds ?_;refine rs0 (.bool (!y31)) (zg q30) ?_;refine rs0 (.bool (!y31)) (zF q30) ?_;refine Aq (tn_ ?_);obtain rfl:=zj h;exact ⟨_,Ac [],rfl⟩
   rintro l25_m89 _ rfl h
   (try dsimp only at h);rcases Ae h with ⟨q32,h⟩ | ⟨q32,h⟩
   ·refine Ah q32 ?_;refine An ?_;refine Ao (br_ (tr_ (tr_ (br_ (tr_ ?_)))));obtain rfl:=zj h;have h:=hn18
    (try dsimp only at h);obtain rfl:=zj h;have h:=hk16
    (try dsimp only at h);obtain rfl:=zj h;exact Br [.bool false] (A8 rfl zl Bc)
   refine Ag q32 ?_;refine Ai (bn_ (tn_ ?_));refine wr_ ?_;obtain ⟨g34,h⟩:=Am h;refine Aa 4 ?_;refine rs0 (ai ((l18_m55+1:Nat):Int)) (za g34) ?_;refine rsB 1 ?_;refine Aq (tn_ ?_);obtain rfl:=zj h;exact ⟨l18_m55+1,_,Ac [],rfl,hn18⟩
  have q21_:=of_decide_eq_false q21;refine Ag q21 ?_;refine Au (te_ (te_ (be_ (tn_ ?_))));obtain rfl:=zj h;have h:=hn18
  (try dsimp only at h);obtain rfl:=zj h;exact ⟨(),_,rfl,Ac [],rfl⟩
 rintro _ _ rfl h
 (try dsimp only at h);refine An ?_;refine Ao ?_;obtain rfl:=zj h;exact Br [.bool true] (A8 rfl zl Bc)
def Jz:AC :=
 (.seq (rg [xo 3 (.i (.box 81 (tm 0))),xo 6 (qm (cb false))])
 (.seq (rg [xo 7 (qf 0 (tm 3)),xo 8 (ql (tm 7)),xo 9 (qm (tm 2)),xo 10 (qb .sub (tm 9) (ci 1)),xo 11 (qc 60 [tm 8,ci 0,tm 10] [[],[],[]]),xo 12 (qm (tm 11)),⟨some 13,some (12,true),qf 1 (tm 3)⟩,⟨some 14,some (12,true),ql (tm 13)⟩,⟨some 15,some (12,true),qm (tm 2)⟩,⟨some 16,some (12,true),qb .sub (tm 15) (ci 1)⟩,⟨some 17,some (12,true),qc 60 [tm 14,ci 0,tm 16] [[],[],[]]⟩,xo 18 (.i (.pick (tm 12) (tm 17) (cb false))),xo 19 (qm (tm 18)),⟨some 20,some (19,true),qf 0 (tm 3)⟩,⟨some 21,some (19,true),ql (tm 20)⟩,⟨some 22,some (19,true),qf 1 (tm 3)⟩,⟨some 23,some (19,true),ql (tm 22)⟩,⟨some 24,some (19,true),qb .neq (tm 21) (tm 23)⟩,xo 25 (.i (.pick (tm 19) (tm 24) (cb false))),xo 26 (qm (tm 25)),⟨some 27,some (26,true),qf 2 (tm 3)⟩,⟨some 28,some (26,true),ql (tm 27)⟩,⟨some 29,some (26,true),qm (tm 1)⟩,⟨some 30,some (26,true),qb .sub (tm 29) (ci 1)⟩,⟨some 31,some (26,true),qc 60 [tm 28,ci 1,tm 30] [[],[],[]]⟩,xo 32 (.i (.pick (tm 26) (tm 31) (cb false))),xo 6 (qm (tm 32))])
 .ret))
def P3:List Res:=[.tmp 6]
theorem P7:Aw Tryd.prog Tryd.f64=some (Jz,P3):=by kernel_rfl
def De (a0_0:Int) (a0_1:Int) (a0_2:Int) (a1:Int) (a2:Int):Option Bool :=
 Option.bind (Option.bind (Dw a0_0 0 (wI (a2 - 1))) fun y3 =>
 cond y3
  (Option.bind (Dw a0_1 0 (wI (a2 - 1))) fun y5 =>
  cond y5
   (cond (a0_0 !=a0_1)
    (Option.bind (Dw a0_2 1 (wI (a1 - 1))) fun y8 =>
    some y8)
    (some false))
   (some false))
  (some false)) fun l2_m6 =>
some l2_m6
def Ou (r:Bool):RV:=⟨false,[(false,[.sc (.bool r)])]⟩
theorem O6 {a0_0:Int} {a0_1:Int} {a0_2:Int} {a1:Int} {a2:Int} {r:Bool} (h:De a0_0 a0_1 a0_2 a1 a2=some r):Bm Tryd.prog Tab 64 [.agg [ai a0_0,ai a0_1,ai a0_2],ai a1,ai a2] (Ou r):=by
 refine Ba (by kernel_rfl) Tryd.func64 P7 (n:=33) (by kernel_rfl) (by simp) (tl:=[(0,.agg [ai a0_0,ai a0_1,ai a0_2]),(1,ai a1),(2,ai a2)]) rfl ?_;unfold Jz;unfold De at h;refine An ?_;refine As h (fun (l2_m6:Bool) S_=>S_=⟨Ap [(6,.bool l2_m6)],Aj (Ar []),2⟩) ?_ ?_
 ·intro v_ h;obtain ⟨y3,h3,h⟩:=Ad h;rcases Ae h with ⟨q4,h⟩ | ⟨q4,h⟩
  ·obtain ⟨y5,h5,h⟩:=Ad h;rcases Ae h with ⟨q6,h⟩ | ⟨q6,h⟩
   ·rcases Ae h with ⟨q7,h⟩ | ⟨q7,h⟩
    ·obtain ⟨y8,h8,h⟩:=Ad h;refine Aa 30 ?_;refine rz0 (.box (oi 3 1) 0) ?_;refine rzl (ai a0_0) ?_;refine rz0 (ai a2) ?_;refine rz0 (ai (wI (a2 - 1))) ?_;refine zc (.bool y3) [] [ai a0_0,ai 0,ai (wI (a2 - 1))] (B3 h3) ?_;refine rz0 (.bool y3) ?_;refine rs0 (.box (oi 3 1) 1) (zg q4) ?_;refine rsl (ai a0_1) (zg q4) ?_;refine rs0 (ai a2) (zg q4) ?_;refine rs0 (ai (wI (a2 - 1))) (zg q4) ?_;refine B9 (.bool y5) [] [ai a0_1,ai 0,ai (wI (a2 - 1))] _ (caps:=[]) (args0:=[ai a0_1,ai 0,ai (wI (a2 - 1))]) (C9 (by kernel_rfl) q4) (by kernel_rfl) (B3 h5) D0 ?_;refine rs0 (.bool y5) (zT q4) ?_;refine rz0 (.bool y5) ?_;refine rs0 (.box (oi 3 1) 0) (zg q6) ?_;refine rsl (ai a0_0) (zg q6) ?_;refine rs0 (.box (oi 3 1) 1) (zg q6) ?_;refine rsl (ai a0_1) (zg q6) ?_;refine rs0 (.bool (a0_0 !=a0_1)) (zg q6) ?_;refine rs0 (.bool (a0_0 !=a0_1)) (zT q6) ?_;refine rz0 (.bool (a0_0 !=a0_1)) ?_;refine rs0 (.box (oi 3 1) 2) (zg q7) ?_;refine rsl (ai a0_2) (zg q7) ?_;refine rs0 (ai a1) (zg q7) ?_;refine rs0 (ai (wI (a1 - 1))) (zg q7) ?_;refine B9 (.bool y8) [] [ai a0_2,ai 1,ai (wI (a1 - 1))] _ (caps:=[]) (args0:=[ai a0_2,ai 1,ai (wI (a1 - 1))]) (C9 (by kernel_rfl) q7) (by kernel_rfl) (B3 h8) D0 ?_;refine rs0 (.bool y8) (zT q7) ?_;refine rsB 1 ?_;refine Aq (tn_ ?_);obtain rfl:=zj h;exact ⟨_,Ac [],rfl⟩
    refine Aa 30 ?_;refine rz0 (.box (oi 3 1) 0) ?_;refine rzl (ai a0_0) ?_;refine rz0 (ai a2) ?_;refine rz0 (ai (wI (a2 - 1))) ?_;refine zc (.bool y3) [] [ai a0_0,ai 0,ai (wI (a2 - 1))] (B3 h3) ?_;refine rz0 (.bool y3) ?_;refine rs0 (.box (oi 3 1) 1) (zg q4) ?_;refine rsl (ai a0_1) (zg q4) ?_;refine rs0 (ai a2) (zg q4) ?_;refine rs0 (ai (wI (a2 - 1))) (zg q4) ?_;refine B9 (.bool y5) [] [ai a0_1,ai 0,ai (wI (a2 - 1))] _ (caps:=[]) (args0:=[ai a0_1,ai 0,ai (wI (a2 - 1))]) (C9 (by kernel_rfl) q4) (by kernel_rfl) (B3 h5) D0 ?_;refine rs0 (.bool y5) (zT q4) ?_;refine rz0 (.bool y5) ?_;refine rs0 (.box (oi 3 1) 0) (zg q6) ?_;refine rsl (ai a0_0) (zg q6) ?_;refine rs0 (.box (oi 3 1) 1) (zg q6) ?_;refine rsl (ai a0_1) (zg q6) ?_;refine rs0 (.bool (a0_0 !=a0_1)) (zg q6) ?_;refine rs0 (.bool (a0_0 !=a0_1)) (zT q6) ?_;refine rz0 (.bool (a0_0 !=a0_1)) ?_;refine zs q7 ?_;refine zs q7 ?_;refine zs q7 ?_;refine zs q7 ?_;refine zs q7 ?_;refine rs0 (.bool false) (zF q7) ?_;refine rsB 1 ?_;refine Aq (tn_ ?_);obtain rfl:=zj h;exact ⟨_,Ac [],rfl⟩
   refine Aa 30 ?_;refine rz0 (.box (oi 3 1) 0) ?_;refine rzl (ai a0_0) ?_;refine rz0 (ai a2) ?_;refine rz0 (ai (wI (a2 - 1))) ?_;refine zc (.bool y3) [] [ai a0_0,ai 0,ai (wI (a2 - 1))] (B3 h3) ?_;refine rz0 (.bool y3) ?_;refine rs0 (.box (oi 3 1) 1) (zg q4) ?_;refine rsl (ai a0_1) (zg q4) ?_;refine rs0 (ai a2) (zg q4) ?_;refine rs0 (ai (wI (a2 - 1))) (zg q4) ?_;refine B9 (.bool y5) [] [ai a0_1,ai 0,ai (wI (a2 - 1))] _ (caps:=[]) (args0:=[ai a0_1,ai 0,ai (wI (a2 - 1))]) (C9 (by kernel_rfl) q4) (by kernel_rfl) (B3 h5) D0 ?_;refine rs0 (.bool y5) (zT q4) ?_;refine rz0 (.bool y5) ?_;refine zs q6 ?_;refine zs q6 ?_;refine zs q6 ?_;refine zs q6 ?_;refine zs q6 ?_;refine rs0 (.bool false) (zF q6) ?_;refine rsB 8 ?_;refine Aq (tn_ ?_);obtain rfl:=zj h;exact ⟨_,Ac [],rfl⟩
  refine Aa 30 ?_;refine rz0 (.box (oi 3 1) 0) ?_;refine rzl (ai a0_0) ?_;refine rz0 (ai a2) ?_;refine rz0 (ai (wI (a2 - 1))) ?_;refine zc (.bool y3) [] [ai a0_0,ai 0,ai (wI (a2 - 1))] (B3 h3) ?_;refine rz0 (.bool y3) ?_;refine zs q4 ?_;refine zs q4 ?_;refine zs q4 ?_;refine zs q4 ?_;refine zs q4 ?_;refine rs0 (.bool false) (zF q4) ?_;refine rsB 15 ?_;refine Aq (tn_ ?_);obtain rfl:=zj h;exact ⟨_,Ac [],rfl⟩
 rintro l2_m6 _ rfl h
 (try dsimp only at h);refine Ao ?_;obtain rfl:=zj h;exact Br [.bool l2_m6] (A8 rfl zl Bc)
def Mb:AC :=
 (.seq (rg [xo 3 (.i (.box 81 (tm 0))),xo 4 (qm (cb false))])
 (.seq (rg [xo 5 (.i (.ld false 3 (tm 3))),xo 6 (ql (tm 1)),xo 7 (qf 0 (tm 2)),xo 8 (ql (tm 7)),xo 9 (qc 64 [tm 5,tm 6,tm 8] [[none,none,none],[],[]]),xo 10 (.i (.not (tm 9))),xo 4 (qm (tm 10))])
 .ret))
def T1:List Res:=[.tmp 4]
theorem T3:Aw Tryd.prog Tryd.f63=some (Mb,T1):=by kernel_rfl
theorem Sk:A6 Tryd.prog 63=true:=by kernel_rfl
def Gw (a0_0:Int) (a0_1:Int) (a0_2:Int) (c0_0:Int) (c1_0:Int) (c1_1:List (Int×Int×Int)) (c1_2:List Int) (c1_3:List Int):Option Bool :=
 Option.bind (De a0_0 a0_1 a0_2 c0_0 c1_0) fun y3 =>
some (!y3)
def Sr (r:Bool):RV:=⟨false,[(false,[.sc (.bool r)])]⟩
theorem Sx {a0_0:Int} {a0_1:Int} {a0_2:Int} {c0_0:Int} {c1_0:Int} {c1_1:List (Int×Int×Int)} {c1_2:List Int} {c1_3:List Int} {r:Bool} (h:Gw a0_0 a0_1 a0_2 c0_0 c1_0 c1_1 c1_2 c1_3=some r):Bm Tryd.prog Tab 63 [.agg [ai a0_0,ai a0_1,ai a0_2],.ref [ai c0_0],.ref [ai c1_0,.tree (.pair .int (.pair .int .int)) c1_1,.tree .int c1_2,.tree .int c1_3]] (Sr r):=by
 refine Ba (by kernel_rfl) Tryd.func63 T3 (n:=11) (by kernel_rfl) (by simp) (tl:=[(0,.agg [ai a0_0,ai a0_1,ai a0_2]),(1,.ref [ai c0_0]),(2,.ref [ai c1_0,.tree (.pair .int (.pair .int .int)) c1_1,.tree .int c1_2,.tree .int c1_3])]) rfl ?_;unfold Mb;unfold Gw at h;refine An ?_;refine Ab ?_;obtain ⟨y3,h3,h⟩:=Ad h;refine Aa 10 ?_;refine rzl (.agg [ai a0_0,ai a0_1,ai a0_2]) ?_;refine rz0 (ai c0_0) ?_;refine rz0 (.ref [ai c1_0,.tree (.pair .int (.pair .int .int)) c1_1,.tree .int c1_2,.tree .int c1_3]) ?_;refine rz0 (ai c1_0) ?_;refine zc (.bool y3) [] [.agg [ai a0_0,ai a0_1,ai a0_2],ai c0_0,ai c1_0] (O6 h3) ?_;refine rsB 2 ?_;refine Aq (tn_ ?_);refine wr_ ?_;refine Ao ?_;obtain rfl:=zj h;exact Br [.bool (!y3)] (A8 rfl zl Bc)
def C1:AC :=
 (.seq (rg [xo 9 (qb .lss (tm 8) (tm 7))])
 (.seq (.cond (tm 9)
  .skip
  (.exit 0))
 (.seq (.block 1 (.seq (rg [xo 10 (qm (tm 8)),xo 5 (qm (tm 10))])
 (.seq (rg [xo 11 (qm (tm 1)),xo 12 (qm (tm 0)),xo 13 (qm (tm 5)),xo 14 (qx 3 (tm 12) (tm 13)),xo 15 (.i (.ld false 3 (tm 14))),xo 16 (.call (tm 11) [tm 15] [[none,none,none]])])
 (.cond (tm 16)
  (.seq (rg [xo 17 (qm (tm 5)),xo 4 (qm (tm 17))])
  .ret)
  .skip))))
 (rg [xo 18 (qb .add (tm 8) (ci 1)),xo 8 (qm (tm 18))]))))
def Dc:AC :=
 (.seq (rg [xo 4 (qm (ci 0))])
 (.seq (.seq (rg [xo 6 (qm (tm 0)),xo 7 (.i (.len (tm 6))),xo 8 (qm (ci 0))])
 (.block 0 (.loop C1)))
 (.seq (rg [xo 4 (qm (ci (-1)))])
 .ret)))
def Gq:List Res:=[.tmp 4]
theorem Gu:Aw Tryd.prog Tryd.f84=some (Dc,Gq):=by kernel_rfl
def A2 (a0:List (Int×Int×Int)) (a1_0_0:Int) (a1_1_0:Int) (a1_1_1:List (Int×Int×Int)) (a1_1_2:List Int) (a1_1_3:List Int) (l4_m8:Nat):Option (Ctl Nat (Ctl Unit Int)) :=
 cond (decide (((l4_m8:Nat):Int)<((a0.length:Nat):Int)))
 (Option.bind (a0[l4_m8]?) fun x11 =>
 Option.bind (Gw x11.1 x11.2.1 x11.2.2 a1_0_0 a1_1_0 a1_1_1 a1_1_2 a1_1_3) fun y12 =>
 cond y12
  (some (Ctl.out (Ctl.out ((l4_m8:Nat):Int))))
  (og (l4_m8+1<4611686018427387904) <|
  some (Ctl.next (l4_m8+1))))
 (some (Ctl.out (Ctl.next ())))
def Bb (a0:List (Int×Int×Int)) (a1_0_0:Int) (a1_1_0:Int) (a1_1_1:List (Int×Int×Int)) (a1_1_2:List Int) (a1_1_3:List Int):Option Int :=
 Ud (Av (fun s_:Nat=>A2 a0 a1_0_0 a1_1_0 a1_1_1 a1_1_2 a1_1_3 s_) 4611686018427387904 0) fun _ =>
some (-1)
def Da (r:Int):RV:=⟨false,[(false,[.sc (.int .i64 r)])]⟩
theorem Db {a0:List (Int×Int×Int)} {a1_0_0:Int} {a1_1_0:Int} {a1_1_1:List (Int×Int×Int)} {a1_1_2:List Int} {a1_1_3:List Int} {r:Int} (h:Bb a0 a1_0_0 a1_1_0 a1_1_1 a1_1_2 a1_1_3=some r):Bm Tryd.prog Tab 84 [.tree (.pair .int (.pair .int .int)) a0,.fn 63 [.ref [ai a1_0_0],.ref [ai a1_1_0,.tree (.pair .int (.pair .int .int)) a1_1_1,.tree .int a1_1_2,.tree .int a1_1_3]]] (Da r):=by
 refine Ba (by kernel_rfl) Tryd.func84 Gu (n:=19) (by kernel_rfl) (by simp) (tl:=[(0,.tree (.pair .int (.pair .int .int)) a0),(1,.fn 63 [.ref [ai a1_0_0],.ref [ai a1_1_0,.tree (.pair .int (.pair .int .int)) a1_1_1,.tree .int a1_1_2,.tree .int a1_1_3]])]) rfl ?_;unfold Dc;unfold Bb at h;refine An ?_;refine G8 h (fun (_:Unit) S_=>S_=⟨Ap [],Aj (Ar []),2⟩) ?_ ?_
 ·intro v_ h hk2;refine An ?_;refine Af ?_;refine Ax h (fun (l4_m8:Nat) S_=>S_=⟨Ap [(0,.tree (.pair .int (.pair .int .int)) a0),(1,.fn 63 [.ref [ai a1_0_0],.ref [ai a1_1_0,.tree (.pair .int (.pair .int .int)) a1_1_1,.tree .int a1_1_2,.tree .int a1_1_3]]),(7,ai ((a0.length:Nat):Int)),(8,ai ((l4_m8:Nat):Int))],Aj (Ar []),2⟩) ⟨_,Ac [],rfl⟩ ?_;rintro n_ l4_m8 _ c_ rfl h hn4
  (try dsimp only at h);unfold A2 at h;unfold C1;refine An ?_;refine Ab ?_;rcases Ae h with ⟨q7,h⟩ | ⟨q7,h⟩
  ·have q7_:=of_decide_eq_true q7;refine Ah q7 ?_;refine Ai (tn_ ?_);refine wr_ ?_;refine Ab ?_;refine Af ?_;refine An ?_;refine Ab ?_;obtain ⟨x11,e11,h⟩:=Ad h;obtain ⟨y12,h12,h⟩:=Ad h;refine Aa 11 ?_;refine rz0 (.fn 63 [.ref [ai a1_0_0],.ref [ai a1_1_0,.tree (.pair .int (.pair .int .int)) a1_1_1,.tree .int a1_1_2,.tree .int a1_1_3]]) ?_;refine rz0 (.tree (.pair .int (.pair .int .int)) a0) ?_;refine rz0 (ai ((l4_m8:Nat):Int)) ?_;refine rs0 (.telt (.pair .int (.pair .int .int)) x11 0) (zi (t:=.pair .int (.pair .int .int)) (xs:=a0) (k:=.i64) (m:=((l4_m8:Nat):Int)) (At _) e11) ?_;refine rz0 (.agg [ai x11.1,ai x11.2.1,ai x11.2.2]) ?_;refine B9 (.bool y12) [] [.agg [ai x11.1,ai x11.2.1,ai x11.2.2],.ref [ai a1_0_0],.ref [ai a1_1_0,.tree (.pair .int (.pair .int .int)) a1_1_1,.tree .int a1_1_2,.tree .int a1_1_3]] _ (caps:=[.ref [ai a1_0_0],.ref [ai a1_1_0,.tree (.pair .int (.pair .int .int)) a1_1_1,.tree .int a1_1_2,.tree .int a1_1_3]]) (args0:=[.agg [ai x11.1,ai x11.2.1,ai x11.2.2],.ref [ai a1_0_0],.ref [ai a1_1_0,.tree (.pair .int (.pair .int .int)) a1_1_1,.tree .int a1_1_2,.tree .int a1_1_3]]) trivial (by kernel_rfl) (Sx h12) Sk ?_;refine Aq (tn_ ?_);refine wr_ ?_;rcases Ae h with ⟨q13,h⟩ | ⟨q13,h⟩
   ·refine Ah q13 ?_;refine An ?_;refine Ao (br_ (tr_ (tr_ (br_ (tr_ ?_)))));obtain rfl:=zj h;have h:=hn4
    (try dsimp only at h);obtain rfl:=zj h;have h:=hk2
    (try dsimp only at h);obtain rfl:=zj h;exact Br [ai ((l4_m8:Nat):Int)] (A8 rfl zl Bc)
   refine Ag q13 ?_;refine Ai (bn_ (tn_ ?_));refine wr_ ?_;obtain ⟨g15,h⟩:=Am h;refine Aa 13 ?_;refine rs0 (ai ((l4_m8+1:Nat):Int)) (za g15) ?_;refine rsB 1 ?_;refine Aq (tn_ ?_);obtain rfl:=zj h;exact ⟨l4_m8+1,_,Ac [],rfl,hn4⟩
  have q7_:=of_decide_eq_false q7;refine Ag q7 ?_;refine Au (te_ (te_ (be_ (tn_ ?_))));obtain rfl:=zj h;have h:=hn4
  (try dsimp only at h);obtain rfl:=zj h;exact ⟨(),_,rfl,Ac [],rfl⟩
 rintro _ _ rfl h
 (try dsimp only at h);refine An ?_;refine Ao ?_;obtain rfl:=zj h;exact Br [ai (-1)] (A8 rfl zl Bc)
def Cz:AC :=
 (.seq (rg [xo 4 (qm (cb false))])
 (.seq (rg [xo 5 (qm (tm 0)),xo 6 (qm (tm 1)),⟨some 7,none,qc 84 [tm 5,tm 6] [[some (.pair .int (.pair .int .int))],[]]⟩,xo 8 (qb .geq (tm 7) (ci 0)),xo 4 (qm (tm 8))])
 .ret))
def Fr:List Res:=[.tmp 4]
theorem Fs:Aw Tryd.prog Tryd.f62=some (Cz,Fr):=by kernel_rfl
theorem Fk:A6 Tryd.prog 62=true:=by kernel_rfl
def A1 (a0:List (Int×Int×Int)) (a1_0_0:Int) (a1_1_0:Int) (a1_1_1:List (Int×Int×Int)) (a1_1_2:List Int) (a1_1_3:List Int):Option Bool :=
 Option.bind (Bb a0 a1_0_0 a1_1_0 a1_1_1 a1_1_2 a1_1_3) fun y3 =>
some (decide (0<=y3))
def Cx (r:Bool):RV:=⟨false,[(false,[.sc (.bool r)])]⟩
theorem Cv {a0:List (Int×Int×Int)} {a1_0_0:Int} {a1_1_0:Int} {a1_1_1:List (Int×Int×Int)} {a1_1_2:List Int} {a1_1_3:List Int} {r:Bool} (h:A1 a0 a1_0_0 a1_1_0 a1_1_1 a1_1_2 a1_1_3=some r):Bm Tryd.prog Tab 62 [.tree (.pair .int (.pair .int .int)) a0,.fn 63 [.ref [ai a1_0_0],.ref [ai a1_1_0,.tree (.pair .int (.pair .int .int)) a1_1_1,.tree .int a1_1_2,.tree .int a1_1_3]]] (Cx r):=by
 refine Ba (by kernel_rfl) Tryd.func62 Fs (n:=9) (by kernel_rfl) (by simp) (tl:=[(0,.tree (.pair .int (.pair .int .int)) a0),(1,.fn 63 [.ref [ai a1_0_0],.ref [ai a1_1_0,.tree (.pair .int (.pair .int .int)) a1_1_1,.tree .int a1_1_2,.tree .int a1_1_3]])]) rfl ?_;unfold Cz;unfold A1 at h;refine An ?_;refine Ab ?_;obtain ⟨y3,h3,h⟩:=Ad h;refine Aa 7 ?_;refine rz0 (.tree (.pair .int (.pair .int .int)) a0) ?_;refine rz0 (.fn 63 [.ref [ai a1_0_0],.ref [ai a1_1_0,.tree (.pair .int (.pair .int .int)) a1_1_1,.tree .int a1_1_2,.tree .int a1_1_3]]) ?_;refine zc (ai y3) [] [.tree (.pair .int (.pair .int .int)) a0,.fn 63 [.ref [ai a1_0_0],.ref [ai a1_1_0,.tree (.pair .int (.pair .int .int)) a1_1_1,.tree .int a1_1_2,.tree .int a1_1_3]]] (Db h3) ?_;refine rsB 2 ?_;refine Aq (tn_ ?_);refine wr_ ?_;refine Ao ?_;obtain rfl:=zj h;exact Br [.bool (decide (0<=y3))] (A8 rfl zl Bc)
def Od:AC :=
 (.seq (rg [xo 2 (.i (.box 3 (tm 0))),xo 3 (.i (.box 34 (tm 1))),xo 4 (qm (cb false))])
 (.seq (.seq (rg [xo 5 (ql (tm 2)),xo 6 (qc 59 [tm 5] [[]]),xo 7 (.i (.not (tm 6))),xo 8 (qm (tm 7)),⟨some 9,some (8,false),qf 0 (tm 3)⟩,⟨some 10,some (8,false),ql (tm 9)⟩,⟨some 11,some (8,false),qc 60 [tm 10,ci 1,ci 20] [[],[],[]]⟩,⟨some 12,some (8,false),.i (.not (tm 11))⟩,xo 13 (.i (.pick (tm 8) (cb true) (tm 12))),xo 14 (qm (tm 13)),⟨some 15,some (14,false),qf 1 (tm 3)⟩,⟨some 16,some (14,false),ql (tm 15)⟩,⟨some 17,some (14,false),.i (.len (tm 16))⟩,⟨some 18,some (14,false),qb .gtr (tm 17) (ci 60)⟩,xo 19 (.i (.pick (tm 14) (cb true) (tm 18))),xo 20 (qm (tm 19)),⟨some 21,some (20,false),qf 2 (tm 3)⟩,⟨some 22,some (20,false),ql (tm 21)⟩,⟨some 23,some (20,false),.i (.len (tm 22))⟩,⟨some 24,some (20,false),qb .gtr (tm 23) (ci 6)⟩,xo 25 (.i (.pick (tm 20) (cb true) (tm 24))),xo 26 (qm (tm 25)),⟨some 27,some (26,false),qf 3 (tm 3)⟩,⟨some 28,some (26,false),ql (tm 27)⟩,⟨some 29,some (26,false),.i (.len (tm 28))⟩,⟨some 30,some (26,false),qb .gtr (tm 29) (ci 6)⟩,xo 31 (.i (.pick (tm 26) (cb true) (tm 30)))])
 (.cond (tm 31)
  (.seq (rg [xo 4 (qm (cb false))])
  .ret)
  .skip))
 (.seq (.seq (rg [xo 32 (qf 2 (tm 3)),xo 33 (ql (tm 32)),xo 34 (qf 0 (tm 3)),xo 35 (ql (tm 34)),xo 36 (qc 61 [tm 33,tm 35] [[some .int],[]]),xo 37 (.i (.not (tm 36))),xo 38 (qm (tm 37)),⟨some 39,some (38,false),qf 3 (tm 3)⟩,⟨some 40,some (38,false),ql (tm 39)⟩,⟨some 41,some (38,false),qf 0 (tm 3)⟩,⟨some 42,some (38,false),ql (tm 41)⟩,⟨some 43,some (38,false),qc 61 [tm 40,tm 42] [[some .int],[]]⟩,⟨some 44,some (38,false),.i (.not (tm 43))⟩,xo 45 (.i (.pick (tm 38) (cb true) (tm 44)))])
 (.cond (tm 45)
  (.seq (rg [xo 4 (qm (cb false))])
  .ret)
  .skip))
 (.seq (rg [xo 46 (qf 1 (tm 3)),xo 47 (ql (tm 46)),xo 48 (.i (.mkfn 63 [tm 2,tm 3])),⟨some 49,none,qc 62 [tm 47,tm 48] [[some (.pair .int (.pair .int .int))],[]]⟩,xo 50 (.i (.not (tm 49))),xo 4 (qm (tm 50))])
 .ret))))
def Wk:List Res:=[.tmp 4]
theorem Xa:Aw Tryd.prog Tryd.f25=some (Od,Wk):=by kernel_rfl
def Gd (a0:Int) (a1_0:Int) (a1_1:List (Int×Int×Int)) (a1_2:List Int) (a1_3:List Int):Option Bool :=
 Option.bind (Option.bind (Ma a0) fun y4 =>
 cond (!y4)
  (some true)
  (Option.bind (Dw a1_0 1 20) fun y6 =>
  cond (!y6)
   (some true)
   (cond (decide (60<((a1_1.length:Nat):Int)))
    (some true)
    (cond (decide (6<((a1_2.length:Nat):Int)))
     (some true)
     (some (decide (6<((a1_3.length:Nat):Int)))))))) fun l3_m31 =>
cond l3_m31
 (some false)
 (Option.bind (Option.bind (E9 a1_2 a1_0) fun y14 =>
  cond (!y14)
   (some true)
   (Option.bind (E9 a1_3 a1_0) fun y16 =>
   some (!y16))) fun l13_m45 =>
 cond l13_m45
  (some false)
  (Option.bind (A1 a1_1 a0 a1_0 a1_1 a1_2 a1_3) fun y20 =>
  some (!y20)))
def Wi (r:Bool):RV:=⟨false,[(false,[.sc (.bool r)])]⟩
set_option maxHeartbeats 1600000 in
theorem J1 {a0:Int} {a1_0:Int} {a1_1:List (Int×Int×Int)} {a1_2:List Int} {a1_3:List Int} {r:Bool} (h:Gd a0 a1_0 a1_1 a1_2 a1_3=some r):Bm Tryd.prog Tab 25 [ai a0,.agg [ai a1_0,.tree (.pair .int (.pair .int .int)) a1_1,.tree .int a1_2,.tree .int a1_3]] (Wi r):=by
 refine Ba (by kernel_rfl) Tryd.func25 Xa (n:=51) (by kernel_rfl) (by simp) (tl:=[(0,ai a0),(1,.agg [ai a1_0,.tree (.pair .int (.pair .int .int)) a1_1,.tree .int a1_2,.tree .int a1_3])]) rfl ?_;unfold Od;unfold Gd at h;refine An ?_;refine Ab ?_;refine As h (fun (l3_m31:Bool) S_=>S_=⟨Ap [(2,.box (oi 0 1) 0),(3,.box (oi 1 1) 0),(31,.bool l3_m31)],Aj (Ar [(oi 0 1,.cells 3 [ai a0]),(oi 1 1,.cells 34 [ai a1_0,.tree (.pair .int (.pair .int .int)) a1_1,.tree .int a1_2,.tree .int a1_3])]),2⟩) ?_ ?_
 ·intro v_ h;obtain ⟨y4,h4,h⟩:=Ad h;rcases Ae h with ⟨q5,h⟩ | ⟨q5,h⟩
  ·refine Aa 31 ?_;refine rzl (ai a0) ?_;refine zc (.bool y4) [] [ai a0] (G4 h4) ?_;refine rz0 (.bool (!y4)) ?_;refine rz0 (.bool (!y4)) ?_;refine zs q5 ?_;refine zs q5 ?_;refine zs q5 ?_;refine zs q5 ?_;refine rs0 (.bool true) (zT q5) ?_;refine rsB 18 ?_;refine Aq (tn_ ?_);obtain rfl:=zj h;exact ⟨_,Ac [(oi 0 1,oi 2 1),(oi 1 1,oi 3 2)],rfl⟩
  obtain ⟨y6,h6,h⟩:=Ad h;rcases Ae h with ⟨q7,h⟩ | ⟨q7,h⟩
  ·refine Aa 31 ?_;refine rzl (ai a0) ?_;refine zc (.bool y4) [] [ai a0] (G4 h4) ?_;refine rz0 (.bool (!y4)) ?_;refine rz0 (.bool (!y4)) ?_;refine rs0 (.box (oi 3 2) 0) (zg q5) ?_;refine rsl (ai a1_0) (zg q5) ?_;refine B9 (.bool y6) [] [ai a1_0,ai 1,ai 20] _ (caps:=[]) (args0:=[ai a1_0,ai 1,ai 20]) (C9 (by kernel_rfl) q5) (by kernel_rfl) (B3 h6) D0 ?_;refine rs0 (.bool (!y6)) (zg q5) ?_;refine rs0 (.bool (!y6)) (zF q5) ?_;refine rz0 (.bool (!y6)) ?_;refine zs q7 ?_;refine zs q7 ?_;refine zs q7 ?_;refine zs q7 ?_;refine rs0 (.bool true) (zT q7) ?_;refine rsB 12 ?_;refine Aq (tn_ ?_);obtain rfl:=zj h;exact ⟨_,Ac [(oi 0 1,oi 2 1),(oi 1 1,oi 3 2)],rfl⟩
  rcases Ae h with ⟨q8,h⟩ | ⟨q8,h⟩
  ·have q8_:=of_decide_eq_true q8;refine Aa 31 ?_;refine rzl (ai a0) ?_;refine zc (.bool y4) [] [ai a0] (G4 h4) ?_;refine rz0 (.bool (!y4)) ?_;refine rz0 (.bool (!y4)) ?_;refine rs0 (.box (oi 3 2) 0) (zg q5) ?_;refine rsl (ai a1_0) (zg q5) ?_;refine B9 (.bool y6) [] [ai a1_0,ai 1,ai 20] _ (caps:=[]) (args0:=[ai a1_0,ai 1,ai 20]) (C9 (by kernel_rfl) q5) (by kernel_rfl) (B3 h6) D0 ?_;refine rs0 (.bool (!y6)) (zg q5) ?_;refine rs0 (.bool (!y6)) (zF q5) ?_;refine rz0 (.bool (!y6)) ?_;refine rs0 (.box (oi 3 2) 1) (zg q7) ?_;refine rsl (.tree (.pair .int (.pair .int .int)) a1_1) (zg q7) ?_;refine rs0 (ai ((a1_1.length:Nat):Int)) (zg q7) ?_;refine rs0 (.bool (decide (60<((a1_1.length:Nat):Int)))) (zg q7) ?_;refine rs0 (.bool (decide (60<((a1_1.length:Nat):Int)))) (zF q7) ?_;refine rz0 (.bool (decide (60<((a1_1.length:Nat):Int)))) ?_;refine zs q8 ?_;refine zs q8 ?_;refine zs q8 ?_;refine zs q8 ?_;refine rs0 (.bool true) (zT q8) ?_;refine rsB 6 ?_;refine Aq (tn_ ?_);obtain rfl:=zj h;exact ⟨_,Ac [(oi 0 1,oi 2 1),(oi 1 1,oi 3 2)],rfl⟩
  have q8_:=of_decide_eq_false q8;rcases Ae h with ⟨q9,h⟩ | ⟨q9,h⟩
  ·have q9_:=of_decide_eq_true q9;refine Aa 31 ?_;refine rzl (ai a0) ?_;refine zc (.bool y4) [] [ai a0] (G4 h4) ?_;refine rz0 (.bool (!y4)) ?_;refine rz0 (.bool (!y4)) ?_;refine rs0 (.box (oi 3 2) 0) (zg q5) ?_;refine rsl (ai a1_0) (zg q5) ?_;refine B9 (.bool y6) [] [ai a1_0,ai 1,ai 20] _ (caps:=[]) (args0:=[ai a1_0,ai 1,ai 20]) (C9 (by kernel_rfl) q5) (by kernel_rfl) (B3 h6) D0 ?_;refine rs0 (.bool (!y6)) (zg q5) ?_;refine rs0 (.bool (!y6)) (zF q5) ?_;refine rz0 (.bool (!y6)) ?_;refine rs0 (.box (oi 3 2) 1) (zg q7) ?_;refine rsl (.tree (.pair .int (.pair .int .int)) a1_1) (zg q7) ?_;refine rs0 (ai ((a1_1.length:Nat):Int)) (zg q7) ?_;refine rs0 (.bool (decide (60<((a1_1.length:Nat):Int)))) (zg q7) ?_;refine rs0 (.bool (decide (60<((a1_1.length:Nat):Int)))) (zF q7) ?_;refine rz0 (.bool (decide (60<((a1_1.length:Nat):Int)))) ?_;refine rs0 (.box (oi 3 2) 2) (zg q8) ?_;refine rsl (.tree .int a1_2) (zg q8) ?_;refine rs0 (ai ((a1_2.length:Nat):Int)) (zg q8) ?_;refine rs0 (.bool (decide (6<((a1_2.length:Nat):Int)))) (zg q8) ?_;refine rs0 (.bool (decide (6<((a1_2.length:Nat):Int)))) (zF q8) ?_;refine rz0 (.bool (decide (6<((a1_2.length:Nat):Int)))) ?_;refine zs q9 ?_;refine zs q9 ?_;refine zs q9 ?_;refine zs q9 ?_;refine rs0 (.bool true) (zT q9) ?_;refine Aq (tn_ ?_);obtain rfl:=zj h;exact ⟨_,Ac [(oi 0 1,oi 2 1),(oi 1 1,oi 3 2)],rfl⟩
  have q9_:=of_decide_eq_false q9;refine Aa 31 ?_;refine rzl (ai a0) ?_;refine zc (.bool y4) [] [ai a0] (G4 h4) ?_;refine rz0 (.bool (!y4)) ?_;refine rz0 (.bool (!y4)) ?_;refine rs0 (.box (oi 3 2) 0) (zg q5) ?_;refine rsl (ai a1_0) (zg q5) ?_;refine B9 (.bool y6) [] [ai a1_0,ai 1,ai 20] _ (caps:=[]) (args0:=[ai a1_0,ai 1,ai 20]) (C9 (by kernel_rfl) q5) (by kernel_rfl) (B3 h6) D0 ?_;refine rs0 (.bool (!y6)) (zg q5) ?_;refine rs0 (.bool (!y6)) (zF q5) ?_;refine rz0 (.bool (!y6)) ?_;refine rs0 (.box (oi 3 2) 1) (zg q7) ?_;refine rsl (.tree (.pair .int (.pair .int .int)) a1_1) (zg q7) ?_;refine rs0 (ai ((a1_1.length:Nat):Int)) (zg q7) ?_;refine rs0 (.bool (decide (60<((a1_1.length:Nat):Int)))) (zg q7) ?_;refine rs0 (.bool (decide (60<((a1_1.length:Nat):Int)))) (zF q7) ?_;refine rz0 (.bool (decide (60<((a1_1.length:Nat):Int)))) ?_;refine rs0 (.box (oi 3 2) 2) (zg q8) ?_;refine rsl (.tree .int a1_2) (zg q8) ?_;refine rs0 (ai ((a1_2.length:Nat):Int)) (zg q8) ?_;refine rs0 (.bool (decide (6<((a1_2.length:Nat):Int)))) (zg q8) ?_;refine rs0 (.bool (decide (6<((a1_2.length:Nat):Int)))) (zF q8) ?_;refine rz0 (.bool (decide (6<((a1_2.length:Nat):Int)))) ?_;refine rs0 (.box (oi 3 2) 3) (zg q9) ?_;refine rsl (.tree .int a1_3) (zg q9) ?_;refine rs0 (ai ((a1_3.length:Nat):Int)) (zg q9) ?_;refine rs0 (.bool (decide (6<((a1_3.length:Nat):Int)))) (zg q9) ?_;refine rs0 (.bool (decide (6<((a1_3.length:Nat):Int)))) (zF q9) ?_;refine Aq (tn_ ?_);obtain rfl:=zj h;exact ⟨_,Ac [(oi 0 1,oi 2 1),(oi 1 1,oi 3 2)],rfl⟩
 rintro l3_m31 _ rfl h
 (try dsimp only at h);rcases Ae h with ⟨q10,h⟩ | ⟨q10,h⟩
 ·refine Ah q10 ?_;refine An ?_;refine Ao (tr_ ?_);obtain rfl:=zj h;exact Br [.bool false] (A8 rfl zl Bc)
 refine Ag q10 ?_;refine Ai (tn_ ?_);refine wr_ ?_;refine Ab ?_;refine As h (fun (l13_m45:Bool) S_=>S_=⟨Ap [(2,.box (oi 0 1) 0),(3,.box (oi 1 1) 0),(45,.bool l13_m45)],Aj (Ar [(oi 0 1,.cells 3 [ai a0]),(oi 1 1,.cells 34 [ai a1_0,.tree (.pair .int (.pair .int .int)) a1_1,.tree .int a1_2,.tree .int a1_3])]),2⟩) ?_ ?_
 ·intro v_ h;obtain ⟨y14,h14,h⟩:=Ad h;rcases Ae h with ⟨q15,h⟩ | ⟨q15,h⟩
  ·refine Aa 16 ?_;refine rz0 (.box (oi 1 1) 2) ?_;refine rzl (.tree .int a1_2) ?_;refine rz0 (.box (oi 1 1) 0) ?_;refine rzl (ai a1_0) ?_;refine zc (.bool y14) [] [.tree .int a1_2,ai a1_0] (Ko h14) ?_;refine rz0 (.bool (!y14)) ?_;refine rz0 (.bool (!y14)) ?_;refine zs q15 ?_;refine zs q15 ?_;refine zs q15 ?_;refine zs q15 ?_;refine zs q15 ?_;refine zs q15 ?_;refine rs0 (.bool true) (zT q15) ?_;refine Aq (tn_ ?_);obtain rfl:=zj h;exact ⟨_,Ac [],rfl⟩
  obtain ⟨y16,h16,h⟩:=Ad h;refine Aa 16 ?_;refine rz0 (.box (oi 1 1) 2) ?_;refine rzl (.tree .int a1_2) ?_;refine rz0 (.box (oi 1 1) 0) ?_;refine rzl (ai a1_0) ?_;refine zc (.bool y14) [] [.tree .int a1_2,ai a1_0] (Ko h14) ?_;refine rz0 (.bool (!y14)) ?_;refine rz0 (.bool (!y14)) ?_;refine rs0 (.box (oi 1 1) 3) (zg q15) ?_;refine rsl (.tree .int a1_3) (zg q15) ?_;refine rs0 (.box (oi 1 1) 0) (zg q15) ?_;refine rsl (ai a1_0) (zg q15) ?_;refine B9 (.bool y16) [] [.tree .int a1_3,ai a1_0] _ (caps:=[]) (args0:=[.tree .int a1_3,ai a1_0]) (C9 (by kernel_rfl) q15) (by kernel_rfl) (Ko h16) Xc ?_;refine rs0 (.bool (!y16)) (zg q15) ?_;refine rs0 (.bool (!y16)) (zF q15) ?_;refine Aq (tn_ ?_);obtain rfl:=zj h;exact ⟨_,Ac [],rfl⟩
 rintro l13_m45 _ rfl h
 (try dsimp only at h);rcases Ae h with ⟨q17,h⟩ | ⟨q17,h⟩
 ·refine Ah q17 ?_;refine An ?_;refine Ao (tr_ ?_);obtain rfl:=zj h;exact Br [.bool false] (A8 rfl zl Bc)
 refine Ag q17 ?_;refine Ai (tn_ ?_);refine wr_ ?_;refine Ab ?_;obtain ⟨y20,h20,h⟩:=Ad h;refine Aa 8 ?_;refine rz0 (.box (oi 1 1) 1) ?_;refine rzl (.tree (.pair .int (.pair .int .int)) a1_1) ?_;refine rz0 (.fn 63 [.box (oi 0 1) 0,.box (oi 1 1) 0]) ?_;refine B9 (.bool y20) [] [.tree (.pair .int (.pair .int .int)) a1_1,.fn 63 [.box (oi 0 1) 0,.box (oi 1 1) 0]] _ (caps:=[]) (args0:=[.tree (.pair .int (.pair .int .int)) a1_1,.fn 63 [.ref [ai a0],.ref [ai a1_0,.tree (.pair .int (.pair .int .int)) a1_1,.tree .int a1_2,.tree .int a1_3]]]) trivial (by kernel_rfl) (Cv h20) Fk ?_;refine rsB 2 ?_;refine Aq (tn_ ?_);refine wr_ ?_;refine Ao ?_;obtain rfl:=zj h;exact Br [.bool (!y20)] (A8 rfl zl Bc)
end
section
open Go.RowKit Go.Deep
theorem Atl {f:Nat->AV} {ob:Oid->Option Ob} {d:Option Nat} {gd:Option (Nat×Bool)} {fo y:Opd} {ys:List Opd} {tys:List (List (Option Ty))} {i p:Oid} {t u:Ty} {off len z m k:Nat} {e1:TypeId} {xss:List (List u.D)} (n:Nat) (hy:ys[n]? =some y) (he:y.ev f=.own i t off len) (hob:ob i=some (.vec e1 z m (hdL p u xss))) (hk:k<xss.length):kid p k∈rdX f ob ⟨d,gd,.call fo ys tys⟩:=by
 refine List.mem_flatMap.2 ⟨y,List.mem_cons_of_mem _ (List.mem_of_getElem? hy),?_⟩;rw [he];show kid p k∈Ka ob (7+1) (.own i t off len);unfold Ka;dsimp only;rw [hob];refine List.mem_cons_of_mem _ (List.mem_flatMap.2 ⟨.own (kid p k) u 0 xss[k].length,List.mem_of_getElem? (i:=k) (by rw [Fu,gEg hk]; rfl),?_⟩);exact List.mem_singleton.2 rfl
theorem Aby {f:Nat->AV} {ob:Oid->Option Ob} {d:Option Nat} {gd:Option (Nat×Bool)} {fo y:Opd} {ys:List Opd} {tys:List (List (Option Ty))} {i p:Oid} {t u:Ty} {off len z m:Nat} {e e1:TypeId} {xss:List (List u.D)} (n:Nat) (hy:ys[n]? =some y) (he:y.ev f=.own i t off len) (hob:ob i=some (.vec e1 z m (hdL p u xss))) (hr:∀ (k:Nat) (row:List u.D),xss[k]? =some row->ob (kid p k)=some (.arr e u row)) (k:Nat) (row:List u.D) (h:xss[k]? =some row):only (rdX f ob ⟨d,gd,.call fo ys tys⟩) ob (kid p k)=some (.arr e u row):=(Hk (Atl n hy he hob (gSi.1 h).1)).trans (hr k row h)
end
section
open Go.RowKit Go.Deep
theorem Ard {f:Nat->AV} {ob:Oid->Option Ob} {d:Option Nat} {gd:Option (Nat×Bool)} {fo y:Opd} {ys:List Opd} {tys:List (List (Option Ty))} {az:List AV} {i p:Oid} {t u:Ty} {off len z m k:Nat} {e1:TypeId} {xss:List (List u.D)} (n j:Nat) (hy:ys[n]? =some y) (he:y.ev f=.agg az) (hj:az[j]? =some (.own i t off len)) (hob:ob i=some (.vec e1 z m (hdL p u xss))) (hk:k<xss.length):kid p k∈rdX f ob ⟨d,gd,.call fo ys tys⟩:=by
 refine List.mem_flatMap.2 ⟨y,List.mem_cons_of_mem _ (List.mem_of_getElem? hy),?_⟩;rw [he];show kid p k∈Ka ob (7+1) (.agg az);unfold Ka;dsimp only;refine List.mem_flatMap.2 ⟨_,List.mem_of_getElem? hj,?_⟩;show kid p k∈Ka ob (6+1) (.own i t off len);unfold Ka;dsimp only;rw [hob];refine List.mem_cons_of_mem _ (List.mem_flatMap.2 ⟨.own (kid p k) u 0 xss[k].length,List.mem_of_getElem? (i:=k) (by rw [Fu,gEg hk]; rfl),?_⟩);exact List.mem_singleton.2 rfl
theorem Akf {f:Nat->AV} {ob:Oid->Option Ob} {d:Option Nat} {gd:Option (Nat×Bool)} {fo y:Opd} {ys:List Opd} {tys:List (List (Option Ty))} (az:List AV) {i p:Oid} {t u:Ty} {off len z m:Nat} {e e1:TypeId} {xss:List (List u.D)} (n j:Nat) (hy:ys[n]? =some y) (he:y.ev f=.agg az) (hj:az[j]? =some (.own i t off len)) (hob:ob i=some (.vec e1 z m (hdL p u xss))) (hr:∀ (k:Nat) (row:List u.D),xss[k]? =some row->ob (kid p k)=some (.arr e u row)) (k:Nat) (row:List u.D) (h:xss[k]? =some row):only (rdX f ob ⟨d,gd,.call fo ys tys⟩) ob (kid p k)=some (.arr e u row):=(Hk (Ard n j hy he hj hob (gSi.1 h).1)).trans (hr k row h)
theorem Aru {f:Nat->AV} {ob:Oid->Option Ob} {d:Option Nat} {gd:Option (Nat×Bool)} {fo y:Opd} {ys:List Opd} {tys:List (List (Option Ty))} (az:List AV) {i:Oid} {t:Ty} {off len:Nat} (n j:Nat) (hy:ys[n]? =some y) (he:y.ev f=.agg az) (hj:az[j]? =some (.own i t off len)):i∈rdX f ob ⟨d,gd,.call fo ys tys⟩:=by
 refine List.mem_flatMap.2 ⟨y,List.mem_cons_of_mem _ (List.mem_of_getElem? hy),?_⟩;rw [he];show i∈Ka ob (7+1) (.agg az);unfold Ka;dsimp only;refine List.mem_flatMap.2 ⟨_,List.mem_of_getElem? hj,?_⟩;show i∈Ka ob (6+1) (.own i t off len);unfold Ka;dsimp only;split <;> simp
section
variable {n:Nat} {d:Option Nat} {f:Nat->AV} {ob:Oid->Option Ob}
end
end
section
open Go.RowKit Go.Deep
set_option maxRecDepth 4000
def Qq:AC :=
 (.seq (.seq (rg [xo 6 (qm (tm 5)),xo 7 (qm (tm 0)),xo 8 (qb .lss (tm 6) (tm 7))])
 (.cond (tm 8)
  .skip
  (.exit 0)))
 (.seq (.block 1 (.seq (rg [xo 11 (qm (tm 1)),xo 12 (qm (tm 5)),xo 13 (qb .mul (tm 11) (tm 12)),xo 14 (qm (tm 0)),xo 15 (qb .rem (tm 13) (tm 14)),xo 16 (qb .eql (tm 15) (ci 1))])
 (.cond (tm 16)
  (.seq (rg [xo 17 (qm (tm 5)),xo 4 (qm (tm 17))])
  .ret)
  .skip)))
 (rg [xo 9 (qm (tm 5)),xo 10 (qb .add (tm 9) (ci 1)),xo 5 (qm (tm 10))])))
def V9:AC :=
 (.seq (rg [xo 4 (qm (ci 0))])
 (.seq (.seq (rg [xo 5 (qm (ci 1))])
 (.block 0 (.loop Qq)))
 (.seq (rg [xo 4 (qm (ci 0))])
 .ret)))
def Agu:List Res:=[.tmp 4]
theorem Afo:Aw Tryd.prog Tryd.f78=some (V9,Agu):=by kernel_rfl
theorem S6:A6 Tryd.prog 78=true:=by kernel_rfl
def Qn (a0:Int) (a1:Int) (l4_m5:Nat):Option (Ctl Nat (Ctl Unit Int)) :=
 cond (decide (((l4_m5:Nat):Int)<a0))
 (og (a0≠0) <|
 cond ((Int.tmod (wI (a1*((l4_m5:Nat):Int))) a0)==1)
  (some (Ctl.out (Ctl.out ((l4_m5:Nat):Int))))
  (og (l4_m5+1<4611686018427387904) <|
  some (Ctl.next (l4_m5+1))))
 (some (Ctl.out (Ctl.next ())))
def Gn (a0:Int) (a1:Int):Option Int :=
 Ud (Av (fun s_:Nat=>Qn a0 a1 s_) 4611686018427387904 1) fun _ =>
some 0
def Adv (r:Int):RV:=⟨false,[(false,[.sc (.int .i64 r)])]⟩
theorem Ny {a0:Int} {a1:Int} {r:Int} (h:Gn a0 a1=some r):Bm Tryd.prog Tab 78 [ai a0,ai a1] (Adv r):=by
 refine Ba (by kernel_rfl) Tryd.func78 Afo (n:=18) (by kernel_rfl) (by simp) (tl:=[(0,ai a0),(1,ai a1)]) rfl ?_;unfold V9;unfold Gn at h;refine An ?_;refine G8 h (fun (_:Unit) S_=>S_=⟨Ap [],Aj (Ar []),2⟩) ?_ ?_
 ·intro v_ h hk2;refine An ?_;refine Af ?_;refine Ax h (fun (l4_m5:Nat) S_=>S_=⟨Ap [(0,ai a0),(1,ai a1),(5,ai ((l4_m5:Nat):Int))],Aj (Ar []),2⟩) ⟨_,Ac [],rfl⟩ ?_;rintro n_ l4_m5 _ c_ rfl h hn4
  (try dsimp only at h);unfold Qn at h;unfold Qq;refine Ab ?_;refine An ?_;rcases Ae h with ⟨q7,h⟩ | ⟨q7,h⟩
  ·have q7_:=of_decide_eq_true q7;refine Ah q7 ?_;refine Ai (tn_ ?_);refine wr_ ?_;refine Ab ?_;refine Af ?_;refine Ab ?_;obtain ⟨g10,h⟩:=Am h;refine Aa 11 ?_;refine rz0 (ai a1) ?_;refine rz0 (ai ((l4_m5:Nat):Int)) ?_;refine rz0 (ai (wI (a1*((l4_m5:Nat):Int)))) ?_;refine rz0 (ai a0) ?_;refine rs0 (ai (Int.tmod (wI (a1*((l4_m5:Nat):Int))) a0)) (On (k:=.i64) (a:=wI (a1*((l4_m5:Nat):Int))) (b:=a0) (by kernel_rfl) (by kernel_rfl) g10) ?_;refine rsB 1 ?_;refine Aq (tn_ ?_);refine wr_ ?_;rcases Ae h with ⟨q11,h⟩ | ⟨q11,h⟩
   ·refine Ah q11 ?_;refine An ?_;refine Ao (br_ (tr_ (tr_ (br_ (tr_ ?_)))));obtain rfl:=zj h;have h:=hn4
    (try dsimp only at h);obtain rfl:=zj h;have h:=hk2
    (try dsimp only at h);obtain rfl:=zj h;exact Br [ai ((l4_m5:Nat):Int)] (A8 rfl zl Bc)
   refine Ag q11 ?_;refine Ai (bn_ (tn_ ?_));refine wr_ ?_;obtain ⟨g13,h⟩:=Am h;refine Aa 14 ?_;refine rz0 (ai ((l4_m5:Nat):Int)) ?_;refine rs0 (ai ((l4_m5+1:Nat):Int)) (za g13) ?_;refine rsB 1 ?_;refine Aq (tn_ ?_);obtain rfl:=zj h;exact ⟨l4_m5+1,_,Ac [],rfl,hn4⟩
  have q7_:=of_decide_eq_false q7;refine Ag q7 ?_;refine Au (te_ (te_ (be_ (tn_ ?_))));obtain rfl:=zj h;have h:=hn4
  (try dsimp only at h);obtain rfl:=zj h;exact ⟨(),_,rfl,Ac [],rfl⟩
 rintro _ _ rfl h
 (try dsimp only at h);refine An ?_;refine Ao ?_;obtain rfl:=zj h;exact Br [ai 0] (A8 rfl zl Bc)
def We:AC :=
 (.seq (rg [xo 4 (qm (ci 0))])
 (.seq (rg [xo 5 (qm (tm 0)),xo 6 (qm (tm 1)),xo 7 (qb .sub (tm 5) (tm 6)),xo 8 (qm (tm 0)),xo 9 (qb .rem (tm 7) (tm 8)),xo 4 (qm (tm 9))])
 .ret))
def Afd:List Res:=[.tmp 4]
theorem Ahb:Aw Tryd.prog Tryd.f76=some (We,Afd):=by kernel_rfl
theorem Tn:A6 Tryd.prog 76=true:=by kernel_rfl
def Fh (a0:Int) (a1:Int):Option Int :=
 og (a0≠0) <|
some (Int.tmod (wI (a0 - a1)) a0)
def Ac8 (r:Int):RV:=⟨false,[(false,[.sc (.int .i64 r)])]⟩
theorem Nz {a0:Int} {a1:Int} {r:Int} (h:Fh a0 a1=some r):Bm Tryd.prog Tab 76 [ai a0,ai a1] (Ac8 r):=by
 refine Ba (by kernel_rfl) Tryd.func76 Ahb (n:=10) (by kernel_rfl) (by simp) (tl:=[(0,ai a0),(1,ai a1)]) rfl ?_;unfold We;unfold Fh at h;refine An ?_;refine Ab ?_;obtain ⟨g3,h⟩:=Am h;refine Aa 8 ?_;refine rz0 (ai a0) ?_;refine rz0 (ai a1) ?_;refine rz0 (ai (wI (a0 - a1))) ?_;refine rz0 (ai a0) ?_;refine rs0 (ai (Int.tmod (wI (a0 - a1)) a0)) (On (k:=.i64) (a:=wI (a0 - a1)) (b:=a0) (by kernel_rfl) (by kernel_rfl) g3) ?_;refine rsB 1 ?_;refine Aq (tn_ ?_);refine wr_ ?_;refine Ao ?_;obtain rfl:=zj h;exact Br [ai (Int.tmod (wI (a0 - a1)) a0)] (A8 rfl zl Bc)
def V1:AC :=
 (.seq (rg [xo 6 (qm (ci 0))])
 (.seq (rg [xo 7 (qm (tm 1)),xo 8 (qm (tm 0)),xo 9 (qb .add (tm 7) (tm 8)),xo 10 (qm (tm 2)),xo 11 (qb .sub (tm 9) (tm 10)),xo 12 (qm (tm 0)),xo 13 (qb .rem (tm 11) (tm 12)),xo 6 (qm (tm 13))])
 .ret))
def Afk:List Res:=[.tmp 6]
theorem Ahd:Aw Tryd.prog Tryd.f80=some (V1,Afk):=by kernel_rfl
theorem Kq:A6 Tryd.prog 80=true:=by kernel_rfl
def Fe (a0:Int) (a1:Int) (a2:Int):Option Int :=
 og (a0≠0) <|
some (Int.tmod (wI ((wI (a1+a0)) - a2)) a0)
def Ac0 (r:Int):RV:=⟨false,[(false,[.sc (.int .i64 r)])]⟩
theorem Kt {a0:Int} {a1:Int} {a2:Int} {r:Int} (h:Fe a0 a1 a2=some r):Bm Tryd.prog Tab 80 [ai a0,ai a1,ai a2] (Ac0 r):=by
 refine Ba (by kernel_rfl) Tryd.func80 Ahd (n:=14) (by kernel_rfl) (by simp) (tl:=[(0,ai a0),(1,ai a1),(2,ai a2)]) rfl ?_;unfold V1;unfold Fe at h;refine An ?_;refine Ab ?_;obtain ⟨g3,h⟩:=Am h;refine Aa 10 ?_;refine rz0 (ai a1) ?_;refine rz0 (ai a0) ?_;refine rz0 (ai (wI (a1+a0))) ?_;refine rz0 (ai a2) ?_;refine rz0 (ai (wI ((wI (a1+a0)) - a2))) ?_;refine rz0 (ai a0) ?_;refine rs0 (ai (Int.tmod (wI ((wI (a1+a0)) - a2)) a0)) (On (k:=.i64) (a:=wI ((wI (a1+a0)) - a2)) (b:=a0) (by kernel_rfl) (by kernel_rfl) g3) ?_;refine rsB 1 ?_;refine Aq (tn_ ?_);refine wr_ ?_;refine Ao ?_;obtain rfl:=zj h;exact Br [ai (Int.tmod (wI ((wI (a1+a0)) - a2)) a0)] (A8 rfl zl Bc)
def L5:AC :=
 (.seq (rg [xo 143 (qb .lss (tm 142) (tm 141))])
 (.seq (.cond (tm 143)
  .skip
  (.exit 10))
 (.seq (.block 11 (.seq (rg [xo 144 (qm (tm 142)),xo 18 (qm (tm 144))])
 (.region [xo 145 (qm (tm 7)),xo 146 (qm (tm 16)),xo 147 (qx 1 (tm 145) (tm 146)),xo 148 (ql (tm 147)),xo 149 (qm (tm 18)),xo 150 (qm (tm 0)),xo 151 (qm (tm 7)),xo 152 (qm (tm 16)),xo 153 (qx 1 (tm 151) (tm 152)),xo 154 (ql (tm 153)),xo 155 (qm (tm 18)),xo 156 (qx 1 (tm 154) (tm 155)),xo 157 (ql (tm 156)),xo 158 (qm (tm 0)),xo 159 (qm (tm 17)),xo 160 (qm (tm 7)),xo 161 (qm (tm 10)),xo 162 (qx 1 (tm 160) (tm 161)),xo 163 (ql (tm 162)),xo 164 (qm (tm 18)),xo 165 (qx 1 (tm 163) (tm 164)),xo 166 (ql (tm 165)),xo 167 (qc 79 [tm 158,tm 159,tm 166] [[],[],[]]),xo 168 (qc 80 [tm 150,tm 157,tm 167] [[],[],[]]),xo 169 (qx 1 (tm 148) (tm 149)),xn (qs (tm 169) (tm 168))] true [(3,22),(9,22),(12,22),(3,23)])))
 (rg [xo 170 (qb .add (tm 142) (ci 1)),xo 142 (qm (tm 170))]))))
def L3:AC :=
 (.seq (rg [xo 115 (qb .lss (tm 114) (tm 113))])
 (.seq (.cond (tm 115)
  .skip
  (.exit 8))
 (.seq (.block 9 (.seq (rg [xo 116 (qm (tm 114)),xo 16 (qm (tm 116))])
 (.seq (.seq (rg [xo 117 (qm (tm 16)),xo 118 (qm (tm 10)),xo 119 (qb .eql (tm 117) (tm 118)),xo 120 (qm (tm 119)),⟨some 121,some (120,false),qm (tm 7)⟩,⟨some 122,some (120,false),qm (tm 16)⟩,⟨some 123,some (120,false),qx 1 (tm 121) (tm 122)⟩,⟨some 124,some (120,false),ql (tm 123)⟩,⟨some 125,some (120,false),qm (tm 11)⟩,⟨some 126,some (120,false),qx 1 (tm 124) (tm 125)⟩,⟨some 127,some (120,false),ql (tm 126)⟩,⟨some 128,some (120,false),qb .eql (tm 127) (ci 0)⟩,xo 129 (.i (.pick (tm 120) (cb true) (tm 128)))])
 (.cond (tm 129)
  (.exit 9)
  .skip))
 (.seq (rg [xo 130 (qm (tm 7)),xo 131 (qm (tm 16)),xo 132 (qx 1 (tm 130) (tm 131)),xo 133 (ql (tm 132)),xo 134 (qm (tm 11)),xo 135 (qx 1 (tm 133) (tm 134)),xo 136 (ql (tm 135)),xo 17 (qm (tm 136))])
 (.seq (rg [xo 137 (qm (tm 7)),xo 138 (qm (tm 16)),xo 139 (qx 1 (tm 137) (tm 138)),xo 140 (ql (tm 139)),xo 141 (.i (.len (tm 140))),xo 142 (qm (ci 0))])
 (.block 10 (.loop L5)))))))
 (rg [xo 171 (qb .add (tm 114) (ci 1)),xo 114 (qm (tm 171))]))))
def M3:AC :=
 (.seq (rg [xo 93 (qb .lss (tm 92) (tm 91))])
 (.seq (.cond (tm 93)
  .skip
  (.exit 6))
 (.seq (.block 7 (.seq (rg [xo 94 (qm (tm 92)),xo 15 (qm (tm 94))])
 (.region [xo 95 (qm (tm 7)),xo 96 (qm (tm 10)),xo 97 (qx 1 (tm 95) (tm 96)),xo 98 (ql (tm 97)),xo 99 (qm (tm 15)),xo 100 (qm (tm 0)),xo 101 (qm (tm 7)),xo 102 (qm (tm 10)),xo 103 (qx 1 (tm 101) (tm 102)),xo 104 (ql (tm 103)),xo 105 (qm (tm 15)),xo 106 (qx 1 (tm 104) (tm 105)),xo 107 (ql (tm 106)),xo 108 (qm (tm 14)),xo 109 (qc 79 [tm 100,tm 107,tm 108] [[],[],[]]),xo 110 (qx 1 (tm 98) (tm 99)),xn (qs (tm 110) (tm 109))] true [(3,14)])))
 (rg [xo 111 (qb .add (tm 92) (ci 1)),xo 92 (qm (tm 111))]))))
def Ms:AC :=
 (.seq (.seq (rg [xo 43 (qm (tm 12)),xo 44 (qm (tm 7)),xo 45 (.i (.len (tm 44))),xo 46 (qb .lss (tm 43) (tm 45)),xo 47 (qm (tm 46)),⟨some 48,some (47,true),qm (tm 7)⟩,⟨some 49,some (47,true),qm (tm 12)⟩,⟨some 50,some (47,true),qx 1 (tm 48) (tm 49)⟩,⟨some 51,some (47,true),ql (tm 50)⟩,⟨some 52,some (47,true),qm (tm 11)⟩,⟨some 53,some (47,true),qx 1 (tm 51) (tm 52)⟩,⟨some 54,some (47,true),ql (tm 53)⟩,⟨some 55,some (47,true),qb .eql (tm 54) (ci 0)⟩,xo 56 (.i (.pick (tm 47) (tm 55) (cb false)))])
 (.cond (tm 56)
  .skip
  (.exit 4)))
 (.block 5 (rg [xo 57 (qm (tm 12)),xo 58 (qb .add (tm 57) (ci 1)),xo 12 (qm (tm 58))])))
def Mo:AC :=
 (.seq (.seq (rg [xo 31 (qm (tm 11)),xo 32 (qm (tm 1)),xo 33 (qb .lss (tm 31) (tm 32)),xo 34 (qm (tm 33)),⟨some 35,some (34,true),qm (tm 10)⟩,⟨some 36,some (34,true),qm (tm 7)⟩,⟨some 37,some (34,true),.i (.len (tm 36))⟩,⟨some 38,some (34,true),qb .lss (tm 35) (tm 37)⟩,xo 39 (.i (.pick (tm 34) (tm 38) (cb false)))])
 (.cond (tm 39)
  .skip
  (.exit 2)))
 (.seq (.block 3 (.seq (rg [xo 42 (qm (tm 10)),xo 12 (qm (tm 42))])
 (.seq (.block 4 (.loop Ms))
 (.seq (.seq (rg [xo 59 (qm (tm 12)),xo 60 (qm (tm 7)),xo 61 (.i (.len (tm 60))),xo 62 (qb .eql (tm 59) (tm 61))])
 (.cond (tm 62)
  (.exit 3)
  .skip))
 (.seq (rg [xo 63 (qm (tm 7)),xo 64 (qm (tm 10)),xo 65 (qx 1 (tm 63) (tm 64)),xo 66 (ql (tm 65)),xo 13 (qm (tm 66))])
 (.seq (rg [xo 67 (qm (tm 7)),xo 68 (qm (tm 10)),xo 69 (qm (tm 7)),xo 70 (qm (tm 12)),xo 71 (qx 1 (tm 69) (tm 70)),xo 72 (ql (tm 71)),xo 73 (qx 1 (tm 67) (tm 68)),xn (qs (tm 73) (tm 72))])
 (.seq (rg [xo 74 (qm (tm 7)),xo 75 (qm (tm 12)),xo 76 (qm (tm 13)),xo 77 (qx 1 (tm 74) (tm 75)),xn (qs (tm 77) (tm 76))])
 (.seq (rg [xo 78 (qm (tm 0)),xo 79 (qm (tm 7)),xo 80 (qm (tm 10)),xo 81 (qx 1 (tm 79) (tm 80)),xo 82 (ql (tm 81)),xo 83 (qm (tm 11)),xo 84 (qx 1 (tm 82) (tm 83)),xo 85 (ql (tm 84)),xo 86 (qc 78 [tm 78,tm 85] [[],[]]),xo 14 (qm (tm 86))])
 (.seq (.seq (rg [xo 87 (qm (tm 7)),xo 88 (qm (tm 10)),xo 89 (qx 1 (tm 87) (tm 88)),xo 90 (ql (tm 89)),xo 91 (.i (.len (tm 90))),xo 92 (qm (ci 0))])
 (.block 6 (.loop M3)))
 (.seq (.seq (rg [xo 112 (qm (tm 7)),xo 113 (.i (.len (tm 112))),xo 114 (qm (ci 0))])
 (.block 8 (.loop L3)))
 (rg [xo 172 (qm (tm 10)),xo 173 (qb .add (tm 172) (ci 1)),xo 10 (qm (tm 173))])))))))))))
 (rg [xo 40 (qm (tm 11)),xo 41 (qb .add (tm 40) (ci 1)),xo 11 (qm (tm 41))])))
def M5:AC :=
 (.seq (rg [xo 22 (qb .lss (tm 21) (tm 20))])
 (.seq (.cond (tm 22)
  .skip
  (.exit 0))
 (.seq (.block 1 (.seq (rg [xo 23 (qx 1 (tm 19) (tm 21)),xo 24 (ql (tm 23)),xo 9 (qm (tm 24))])
 (rg [xo 25 (qm (tm 7)),xo 26 (qm (tm 9)),xo 27 (qc 41 [tm 26] [[some .int]]),xo 28 (.mkV 23 (.slice .int) 1 [tm 27]),xo 29 (.appV 23 (.slice .int) 24 (tm 25) (tm 28)),xo 7 (qm (tm 29))])))
 (rg [xo 30 (qb .add (tm 21) (ci 1)),xo 21 (qm (tm 30))]))))
def Qw:AC :=
 (.seq (rg [xo 6 (qm (.cst .nils))])
 (.seq (rg [xo 7 (qm (.cst .nils))])
 (.seq (.seq (rg [xo 19 (qm (tm 2)),xo 20 (.i (.len (tm 19))),xo 21 (qm (ci 0))])
 (.block 0 (.loop M5)))
 (.seq (rg [xo 10 (qm (ci 0))])
 (.seq (.seq (rg [xo 11 (qm (ci 0))])
 (.block 2 (.loop Mo)))
 (.seq (rg [xo 174 (qm (tm 7)),xo 175 (qm (tm 10)),xo 176 (.slice 1 (tm 174) none (some (tm 175)) none),xo 6 (qm (tm 176))])
 .ret))))))
def Zc:List Res:=[.tmp 6]
theorem Zb:Aw Tryd.prog Tryd.f45=some (Qw,Zc):=by kernel_rfl
theorem Kh:A6 Tryd.prog 45=true:=by kernel_rfl
def Dn (a2:List (List Int)) (l6_m21:Nat) (l6_m7:List (List Int)):Option (Ctl (Nat×List (List Int)) (List (List Int))) :=
 cond (decide (((l6_m21:Nat):Int)<((a2.length:Nat):Int)))
 (Option.bind (a2[l6_m21]?) fun x12 =>
 Option.bind (Cw x12) fun y13 =>
 og (l6_m7.length+1<=1073741824∧(l6_m7.length+1)*24<=140737488355328) <|
 og (l6_m21+1<4611686018427387904) <|
 some (Ctl.next (l6_m21+1,l6_m7++[y13])))
 (some (Ctl.out l6_m7))
def Dr (l19_m7:List (List Int)) (l19_m11:Nat) (l27_m12:Nat):Option (Ctl Nat Nat) :=
 Option.bind (cond (decide (((l27_m12:Nat):Int)<((l19_m7.length:Nat):Int)))
  (Option.bind (l19_m7[l27_m12]?) fun x31 =>
  Option.bind (x31[l19_m11]?) fun x32 =>
  some (x32==0))
  (some false)) fun l29_m56 =>
cond l29_m56
 (og (l27_m12+1<4611686018427387904) <|
 some (Ctl.next (l27_m12+1)))
 (some (Ctl.out l27_m12))
def E4 (x44:List Int) (l19_m10:Nat) (a0:Int) (y46:Int) (l49_m92:Nat) (l49_m7:List (List Int)):Option (Ctl (Nat×List (List Int)) (List (List Int))) :=
 cond (decide (((l49_m92:Nat):Int)<((x44.length:Nat):Int)))
 (Option.bind (l49_m7[l19_m10]?) fun x55 =>
 Option.bind (x55[l49_m92]?) fun x56 =>
 Option.bind (Eb a0 x56 y46) fun y57 =>
 og (l49_m92+1<4611686018427387904) <|
 some (Ctl.next (l49_m92+1,l49_m7.set l19_m10 (x55.set l49_m92 y57))))
 (some (Ctl.out l49_m7))
def Er (x74:List Int) (l61_m114:Nat) (l19_m10:Nat) (a0:Int) (x75:Int) (l77_m142:Nat) (l77_m7:List (List Int)):Option (Ctl (Nat×List (List Int)) (List (List Int))) :=
 cond (decide (((l77_m142:Nat):Int)<((x74.length:Nat):Int)))
 (Option.bind (l77_m7[l61_m114]?) fun x83 =>
 Option.bind (x83[l77_m142]?) fun x84 =>
 Option.bind (l77_m7[l19_m10]?) fun x85 =>
 Option.bind (x85[l77_m142]?) fun x86 =>
 Option.bind (Eb a0 x75 x86) fun y87 =>
 Option.bind (Fe a0 x84 y87) fun y88 =>
 og (l77_m142+1<4611686018427387904) <|
 some (Ctl.next (l77_m142+1,l77_m7.set l61_m114 (x83.set l77_m142 y88))))
 (some (Ctl.out l77_m7))
def Ez (l47_m7:List (List Int)) (l19_m10:Nat) (l19_m11:Nat) (a0:Int) (l61_m114:Nat) (l61_m7:List (List Int)):Option (Ctl (Nat×List (List Int)) (List (List Int))) :=
 cond (decide (((l61_m114:Nat):Int)<((l47_m7.length:Nat):Int)))
 (Option.bind (Option.bind (cond (((l61_m114:Nat):Int)==((l19_m10:Nat):Int))
       (some true)
       (Option.bind (l61_m7[l61_m114]?) fun x70 =>
       Option.bind (x70[l19_m11]?) fun x71 =>
       some (x71==0))) fun l68_m129 =>
  cond l68_m129
   (some l61_m7)
   (Option.bind (l61_m7[l61_m114]?) fun x74 =>
   Option.bind (x74[l19_m11]?) fun x75 =>
   Av (fun s_:Nat×List (List Int)=>Er x74 l61_m114 l19_m10 a0 x75 s_.1 s_.2) 4611686018427387904 (0,l61_m7))) fun l65_m7 =>
 og (l61_m114+1<4611686018427387904) <|
 some (Ctl.next (l61_m114+1,l65_m7)))
 (some (Ctl.out l61_m7))
def C4 (a1:Int) (a0:Int) (l19_m10:Nat) (l19_m11:Nat) (l19_m7:List (List Int)):Option (Ctl (Nat×Nat×List (List Int)) (Nat×List (List Int))) :=
 Option.bind (cond (decide (((l19_m11:Nat):Int)<a1))
  (some (decide (((l19_m10:Nat):Int)<((l19_m7.length:Nat):Int))))
  (some false)) fun l21_m39 =>
cond l21_m39
 (Option.bind (Option.bind (Av (fun s_:Nat=>Dr l19_m7 l19_m11 s_) 4611686018427387904 l19_m10) fun l26_m12 =>
  cond (((l26_m12:Nat):Int)==((l19_m7.length:Nat):Int))
   (some (l19_m10,l19_m7))
   (Option.bind (l19_m7[l19_m10]?) fun x39 =>
   Option.bind (l19_m7[l26_m12]?) fun x41 =>
   Option.bind (((l19_m7.set l19_m10 x41).set l26_m12 x39)[l19_m10]?) fun x44 =>
   Option.bind (x44[l19_m11]?) fun x45 =>
   Option.bind (Gn a0 x45) fun y46 =>
   Option.bind (Av (fun s_:Nat×List (List Int)=>E4 x44 l19_m10 a0 y46 s_.1 s_.2) 4611686018427387904 (0,(l19_m7.set l19_m10 x41).set l26_m12 x39)) fun l47_m7 =>
   Option.bind (Av (fun s_:Nat×List (List Int)=>Ez l47_m7 l19_m10 l19_m11 a0 s_.1 s_.2) 4611686018427387904 (0,l47_m7)) fun l59_m7 =>
   og (l19_m10+1<4611686018427387904) <|
   some (l19_m10+1,l59_m7))) fun (l24_m10,l24_m7) =>
 og (l19_m11+1<4611686018427387904) <|
 some (Ctl.next (l24_m10,l19_m11+1,l24_m7)))
 (some (Ctl.out (l19_m10,l19_m7)))
def Dh (a0:Int) (a1:Int) (a2:List (List Int)):Option (List (List Int)) :=
 Option.bind (Av (fun s_:Nat×List (List Int)=>Dn a2 s_.1 s_.2) 4611686018427387904 (0,([]:List (List Int)))) fun l4_m7 =>
Option.bind (Av (fun s_:Nat×Nat×List (List Int)=>C4 a1 a0 s_.1 s_.2.1 s_.2.2) 4611686018427387904 (0,0,l4_m7)) fun (l17_m10,l17_m7) =>
og ((0:Int)<=0∧0<=((l17_m10:Nat):Int)∧((l17_m10:Nat):Int)<=((l17_m7.length:Nat):Int)) <|
some (l17_m7.take l17_m10)
theorem Kn {a0:Int} {a1:Int} {a2:List (List Int)} {r:List (List Int)} (h:Dh a0 a1 a2=some r):Fi Tryd.prog Tab 45 [ai a0,ai a1,.tree (.slice .int) a2] [] (.own (oi 0 1) (.slice .int) 0 r.length) [(oi 0 1,.mat 23 (oi 1 1) .int r),(oi 1 1,.pool 3 .int r)]:=by
 refine B8 (by kernel_rfl) Tryd.func45 Zb (n:=177) (by kernel_rfl) (by simp) (tl:=[(0,ai a0),(1,ai a1),(2,.tree (.slice .int) a2)]) rfl (by kernel_rfl) trivial ⟨⟨3,.tail _ (.head _)⟩,⟨trivial,trivial⟩⟩ ?_;unfold Qw;unfold Dh at h;refine An ?_;refine An ?_;refine As h (fun (l4_m7:List (List Int)) S_=>S_=⟨Ap [(0,ai a0),(1,ai a1),(7,.own (oi 0 1) (.slice .int) 0 l4_m7.length)],Aj (Ar [(oi 0 1,.mat 23 (oi 1 1) .int l4_m7),(oi 1 1,.pool 3 .int l4_m7)]),2⟩) ?_ ?_
 ·intro v_ h;refine An ?_;refine Af ?_;refine Ax h (fun t_ S_=>∃ (l6_m21:Nat),∃ (l6_m7:List (List Int)),t_=(l6_m21,l6_m7)∧S_=⟨Ap [(0,ai a0),(1,ai a1),(7,.own (oi 0 1) (.slice .int) 0 l6_m7.length),(19,.tree (.slice .int) a2),(20,ai ((a2.length:Nat):Int)),(21,ai ((l6_m21:Nat):Int))],Aj (Ar [(oi 0 1,.mat 23 (oi 1 1) .int l6_m7),(oi 1 1,.pool 3 .int l6_m7)]),2⟩) ⟨_,(Pr 7 23 (.slice .int) (by kernel_rfl)).trans ((Gt (e1:=23) (n:=0) 9000 (oi 7 6) 3 .int (by kernel_rfl) (by kernel_rfl) rfl (by kernel_rfl) (by kernel_rfl)).trans (Ac [(oi 0 1,oi 7 6),(oi 1 1,oi 9000 7)])),⟨0,([]:List (List Int)),rfl,rfl⟩⟩ ?_;rintro n_ _ _ c_ ⟨l6_m21,l6_m7,rfl,rfl⟩ h hn6
  (try dsimp only at h);unfold Dn at h;unfold M5;refine An ?_;refine Ab ?_;rcases Ae h with ⟨q9,h⟩ | ⟨q9,h⟩
  ·have q9_:=of_decide_eq_true q9;refine Ah q9 ?_;refine Ai (tn_ ?_);refine wr_ ?_;refine Ab ?_;refine Af ?_;refine Ab ?_;obtain ⟨x12,e12,h⟩:=Ad h;refine Aa 6 ?_;refine rs0 (.telt (.slice .int) x12 0) (zi (t:=.slice .int) (xs:=a2) (k:=.i64) (m:=((l6_m21:Nat):Int)) (At _) e12) ?_;refine rsB 2 ?_;refine Aq (tn_ ?_);refine wr_ ?_;obtain ⟨y13,h13,h⟩:=Ad h;obtain ⟨g14,h⟩:=Am h;refine Aa 12 ?_;refine rz0 (.own (oi 0 1) (.slice .int) 0 l6_m7.length) ?_;refine rz0 (.tree .int x12) ?_;refine zc (.own (oi 432 8) .int 0 y13.length) [(oi 432 8,some (.arr 3 .int y13))] [.tree .int x12] (Hc h13) ?_;refine Afp (.own (oi 28 9) (.slice .int) 0 1) (oi 28 9) (.vec 23 1 1 ([.own (oi 432 8) .int 0 y13.length])) trivial (L7 (by kernel_rfl)) ?_;refine rs2 (.own (oi 0 10) (.slice .int) 0 (l6_m7.length+1)) (oi 0 1) (oi 0 10) (.vec 23 1 (l6_m7.length+1) (hdL (oi 1 1) .int l6_m7++[.own (oi 432 8) .int 0 y13.length])) (Jf (u:=.int) (t':=.slice .int) (t2:=.slice .int) (o:=oi 0 1) (q:=oi 28 9) (e2:=23) (p:=oi 1 1) (xss:=l6_m7) (cs:=[.own (oi 432 8) .int 0 y13.length]) (len:=l6_m7.length) (by kernel_rfl) (by kernel_rfl) rfl (by kernel_rfl) (by kernel_rfl) rfl g14) ?_;refine rsB 1 ?_;refine Aq (bn_ (tn_ ?_));refine ⟨_,Fb (e1:=23) (e:=3) (u:=.int) (n:=l6_m7.length+1) (len:=y13.length) (row:=y13) (ys:=y13) (xss:=l6_m7) 9000 (oi 0 10) (oi 1 1) (oi 432 8) (by kernel_rfl) (by kernel_rfl) rfl (by kernel_rfl) (by kernel_rfl) (Pf rfl) (Oo rfl) (by kernel_rfl) (by kernel_rfl) (by kernel_rfl),?_⟩;obtain ⟨g15,h⟩:=Am h;refine Aa 15 ?_;refine rs0 (ai ((l6_m21+1:Nat):Int)) (za g15) ?_;refine rsB 1 ?_;refine Aq (tn_ ?_);obtain rfl:=zj h;exact ⟨(l6_m21+1,l6_m7++[y13]),_,(A9 7 (.own (oi 0 10) (.slice .int) 0 (l6_m7.length+1)) (.own (oi 0 10) (.slice .int) 0 ((l6_m7++[y13]).length)) (by kernel_rfl) (congrArg (fun z_=>((.own (oi 0 10) (.slice .int) 0 z_):AV)) ((by simp):l6_m7.length+1=(l6_m7++[y13]).length))).trans (Ac [(oi 0 1,oi 0 10),(oi 1 1,oi 9000 12)]),⟨l6_m21+1,l6_m7++[y13],rfl,rfl⟩,hn6⟩
  have q9_:=of_decide_eq_false q9;refine Ag q9 ?_;refine Au (te_ (te_ (be_ (tn_ ?_))));obtain rfl:=zj h;have h:=hn6
  (try dsimp only at h);obtain rfl:=zj h;exact ⟨_,Ac [],rfl⟩
 rintro l4_m7 _ rfl h
 (try dsimp only at h);refine An ?_;refine As h (fun t_ S_=>∃ (l17_m10:Nat),∃ (l17_m7:List (List Int)),t_=(l17_m10,l17_m7)∧S_=⟨Ap [(7,.own (oi 0 1) (.slice .int) 0 l17_m7.length),(10,ai ((l17_m10:Nat):Int))],Aj (Ar [(oi 0 1,.mat 23 (oi 1 1) .int l17_m7),(oi 1 1,.pool 3 .int l17_m7)]),2⟩) ?_ ?_
 ·intro v_ h;refine An ?_;refine Af ?_;refine Ax h (fun t_ S_=>∃ (l19_m10:Nat),∃ (l19_m11:Nat),∃ (l19_m7:List (List Int)),t_=(l19_m10,l19_m11,l19_m7)∧S_=⟨Ap [(0,ai a0),(1,ai a1),(7,.own (oi 0 1) (.slice .int) 0 l19_m7.length),(10,ai ((l19_m10:Nat):Int)),(11,ai ((l19_m11:Nat):Int))],Aj (Ar [(oi 0 1,.mat 23 (oi 1 1) .int l19_m7),(oi 1 1,.pool 3 .int l19_m7)]),2⟩) ⟨_,Ac [],⟨0,0,l4_m7,rfl,rfl⟩⟩ ?_;rintro n_ _ _ c_ ⟨l19_m10,l19_m11,l19_m7,rfl,rfl⟩ h hn19
  (try dsimp only at h);unfold C4 at h;unfold Mo;refine Ab ?_;refine As h (fun (l21_m39:Bool) S_=>S_=⟨Ap [(0,ai a0),(1,ai a1),(7,.own (oi 0 1) (.slice .int) 0 l19_m7.length),(10,ai ((l19_m10:Nat):Int)),(11,ai ((l19_m11:Nat):Int)),(39,.bool l21_m39)],Aj (Ar [(oi 0 1,.mat 23 (oi 1 1) .int l19_m7),(oi 1 1,.pool 3 .int l19_m7)]),2⟩) ?_ ?_
  ·intro v_ h;rcases Ae h with ⟨q22,h⟩ | ⟨q22,h⟩
   ·have q22_:=of_decide_eq_true q22;refine Aa 11 ?_;refine rz0 (ai ((l19_m11:Nat):Int)) ?_;refine rz0 (ai a1) ?_;refine rz0 (.bool (decide (((l19_m11:Nat):Int)<a1))) ?_;refine rz0 (.bool (decide (((l19_m11:Nat):Int)<a1))) ?_;refine rs0 (ai ((l19_m10:Nat):Int)) (zg q22) ?_;refine rs0 (.own (oi 0 1) (.slice .int) 0 l19_m7.length) (zg q22) ?_;refine rs0 (ai ((l19_m7.length:Nat):Int)) (zg q22) ?_;refine rs0 (.bool (decide (((l19_m10:Nat):Int)<((l19_m7.length:Nat):Int)))) (zg q22) ?_;refine rs0 (.bool (decide (((l19_m10:Nat):Int)<((l19_m7.length:Nat):Int)))) (zT q22) ?_;refine Aq (tn_ ?_);obtain rfl:=zj h;exact ⟨_,Ac [],rfl⟩
   have q22_:=of_decide_eq_false q22;refine Aa 11 ?_;refine rz0 (ai ((l19_m11:Nat):Int)) ?_;refine rz0 (ai a1) ?_;refine rz0 (.bool (decide (((l19_m11:Nat):Int)<a1))) ?_;refine rz0 (.bool (decide (((l19_m11:Nat):Int)<a1))) ?_;refine zs q22 ?_;refine zs q22 ?_;refine zs q22 ?_;refine zs q22 ?_;refine rs0 (.bool false) (zF q22) ?_;refine Aq (tn_ ?_);obtain rfl:=zj h;exact ⟨_,Ac [],rfl⟩
  rintro l21_m39 _ rfl h
  (try dsimp only at h);rcases Ae h with ⟨q23,h⟩ | ⟨q23,h⟩
  ·refine Ah q23 ?_;refine Ai (tn_ ?_);refine wr_ ?_;refine As h (fun t_ S_=>∃ (l24_m10:Nat),∃ (l24_m7:List (List Int)),t_=(l24_m10,l24_m7)∧S_=⟨Ap [(0,ai a0),(1,ai a1),(7,.own (oi 0 1) (.slice .int) 0 l24_m7.length),(10,ai ((l24_m10:Nat):Int)),(11,ai ((l19_m11:Nat):Int))],Aj (Ar [(oi 0 1,.mat 23 (oi 1 1) .int l24_m7),(oi 1 1,.pool 3 .int l24_m7)]),2⟩) ?_ ?_
   ·intro v_ h;refine Af ?_;refine An ?_;refine As h (fun (l26_m12:Nat) S_=>S_=⟨Ap [(0,ai a0),(1,ai a1),(7,.own (oi 0 1) (.slice .int) 0 l19_m7.length),(10,ai ((l19_m10:Nat):Int)),(11,ai ((l19_m11:Nat):Int)),(12,ai ((l26_m12:Nat):Int))],Aj (Ar [(oi 0 1,.mat 23 (oi 1 1) .int l19_m7),(oi 1 1,.pool 3 .int l19_m7)]),2⟩) ?_ ?_
    ·intro v_ h;refine Af ?_;refine Ax h (fun (l27_m12:Nat) S_=>S_=⟨Ap [(0,ai a0),(1,ai a1),(7,.own (oi 0 1) (.slice .int) 0 l19_m7.length),(10,ai ((l19_m10:Nat):Int)),(11,ai ((l19_m11:Nat):Int)),(12,ai ((l27_m12:Nat):Int))],Aj (Ar [(oi 0 1,.mat 23 (oi 1 1) .int l19_m7),(oi 1 1,.pool 3 .int l19_m7)]),2⟩) ⟨_,Ac [],rfl⟩ ?_;rintro n_ l27_m12 _ c_ rfl h hn27
     (try dsimp only at h);unfold Dr at h;unfold Ms;refine Ab ?_;refine As h (fun (l29_m56:Bool) S_=>S_=⟨Ap [(0,ai a0),(1,ai a1),(7,.own (oi 0 1) (.slice .int) 0 l19_m7.length),(10,ai ((l19_m10:Nat):Int)),(11,ai ((l19_m11:Nat):Int)),(12,ai ((l27_m12:Nat):Int)),(56,.bool l29_m56)],Aj (Ar [(oi 0 1,.mat 23 (oi 1 1) .int l19_m7),(oi 1 1,.pool 3 .int l19_m7)]),2⟩) ?_ ?_
     ·intro v_ h;rcases Ae h with ⟨q30,h⟩ | ⟨q30,h⟩
      ·have q30_:=of_decide_eq_true q30;obtain ⟨x31,e31,h⟩:=Ad h;obtain ⟨x32,e32,h⟩:=Ad h;refine Aa 16 ?_;refine rz0 (ai ((l27_m12:Nat):Int)) ?_;refine rz0 (.own (oi 0 1) (.slice .int) 0 l19_m7.length) ?_;refine rz0 (ai ((l19_m7.length:Nat):Int)) ?_;refine rz0 (.bool (decide (((l27_m12:Nat):Int)<((l19_m7.length:Nat):Int)))) ?_;refine rz0 (.bool (decide (((l27_m12:Nat):Int)<((l19_m7.length:Nat):Int)))) ?_;refine rs0 (.own (oi 0 1) (.slice .int) 0 l19_m7.length) (zg q30) ?_;refine rs0 (ai ((l27_m12:Nat):Int)) (zg q30) ?_;refine rs0 (.elt (oi 0 1) l27_m12 0) (Nk (by kernel_rfl) q30 (zo (t:=.slice .int) (o:=oi 0 1) (len:=l19_m7.length) (k:=.i64) (m:=((l27_m12:Nat):Int)) (At _) (Al e31))) ?_;refine rsl (.own (kid (oi 1 1) l27_m12) .int 0 x31.length) (Nk (by kernel_rfl) q30 (Bs (o:=oi 0 1) (p:=oi 1 1) (e1:=23) (u:=.int) (xss:=l19_m7) (row:=x31) (j:=l27_m12) (by kernel_rfl) (by kernel_rfl) e31)) ?_;refine rs0 (ai ((l19_m11:Nat):Int)) (zg q30) ?_;refine rs0 (.elt (kid (oi 1 1) l27_m12) l19_m11 0) (Nk (by kernel_rfl) q30 (zo (t:=.int) (o:=kid (oi 1 1) l27_m12) (len:=x31.length) (k:=.i64) (m:=((l19_m11:Nat):Int)) (At _) (Al e32))) ?_;refine rsl (ai x32) (Nk (by kernel_rfl) q30 (Ed (i:=kid (oi 1 1) l27_m12) (j:=l19_m11) (k:=0) (e:=3) (t:=.int) (xs:=x31) (by kernel_rfl) (A0 (by kernel_rfl) e31) e32 (by kernel_rfl))) ?_;refine rs0 (.bool (x32==0)) (zg q30) ?_;refine rs0 (.bool (x32==0)) (zT q30) ?_;refine Aq (tn_ ?_);obtain rfl:=zj h;exact ⟨_,Ac [],rfl⟩
      have q30_:=of_decide_eq_false q30;refine Aa 16 ?_;refine rz0 (ai ((l27_m12:Nat):Int)) ?_;refine rz0 (.own (oi 0 1) (.slice .int) 0 l19_m7.length) ?_;refine rz0 (ai ((l19_m7.length:Nat):Int)) ?_;refine rz0 (.bool (decide (((l27_m12:Nat):Int)<((l19_m7.length:Nat):Int)))) ?_;refine rz0 (.bool (decide (((l27_m12:Nat):Int)<((l19_m7.length:Nat):Int)))) ?_;refine zs q30 ?_;refine zs q30 ?_;refine zs q30 ?_;refine zs q30 ?_;refine zs q30 ?_;refine zs q30 ?_;refine zs q30 ?_;refine zs q30 ?_;refine rs0 (.bool false) (zF q30) ?_;refine Aq (tn_ ?_);obtain rfl:=zj h;exact ⟨_,Ac [],rfl⟩
     rintro l29_m56 _ rfl h
     (try dsimp only at h);rcases Ae h with ⟨q33,h⟩ | ⟨q33,h⟩
     ·refine Ah q33 ?_;refine Ai (tn_ ?_);refine wr_ ?_;refine Af ?_;obtain ⟨g34,h⟩:=Am h;refine Aa 5 ?_;refine rz0 (ai ((l27_m12:Nat):Int)) ?_;refine rs0 (ai ((l27_m12+1:Nat):Int)) (za g34) ?_;refine rsB 1 ?_;refine Aq (bn_ (tn_ ?_));obtain rfl:=zj h;exact ⟨l27_m12+1,_,Ac [],rfl,hn27⟩
     refine Ag q33 ?_;refine Au (te_ (te_ (be_ (tn_ ?_))));obtain rfl:=zj h;have h:=hn27
     (try dsimp only at h);obtain rfl:=zj h;exact ⟨_,Ac [],rfl⟩
    rintro l26_m12 _ rfl h
    (try dsimp only at h);refine Ab ?_;refine An ?_;rcases Ae h with ⟨q37,h⟩ | ⟨q37,h⟩
    ·refine Ah q37 ?_;refine Au (te_ (be_ (tn_ ?_)));obtain rfl:=zj h;exact ⟨_,Ac [],⟨l19_m10,l19_m7,rfl,rfl⟩⟩
    refine Ag q37 ?_;refine Ai (tn_ ?_);refine wr_ ?_;refine Ab ?_;obtain ⟨x39,e39,h⟩:=Ad h;refine Aa 11 ?_;refine rz0 (.own (oi 0 1) (.slice .int) 0 l19_m7.length) ?_;refine rz0 (ai ((l19_m10:Nat):Int)) ?_;refine rs0 (.elt (oi 0 1) l19_m10 0) (zo (t:=.slice .int) (o:=oi 0 1) (len:=l19_m7.length) (k:=.i64) (m:=((l19_m10:Nat):Int)) (At _) (Al e39)) ?_;refine rsl (.own (kid (oi 1 1) l19_m10) .int 0 x39.length) (Bs (o:=oi 0 1) (p:=oi 1 1) (e1:=23) (u:=.int) (xss:=l19_m7) (row:=x39) (j:=l19_m10) (by kernel_rfl) (by kernel_rfl) e39) ?_;refine rsB 1 ?_;refine Aq (tn_ ?_);refine wr_ ?_;refine Ab ?_;obtain ⟨x41,e41,h⟩:=Ad h;refine Aa 19 ?_;refine rz0 (.own (oi 0 1) (.slice .int) 0 l19_m7.length) ?_;refine rz0 (ai ((l19_m10:Nat):Int)) ?_;refine rz0 (.own (oi 0 1) (.slice .int) 0 l19_m7.length) ?_;refine rz0 (ai ((l26_m12:Nat):Int)) ?_;refine rs0 (.elt (oi 0 1) l26_m12 0) (zo (t:=.slice .int) (o:=oi 0 1) (len:=l19_m7.length) (k:=.i64) (m:=((l26_m12:Nat):Int)) (At _) (Al e41)) ?_;refine rsl (.own (kid (oi 1 1) l26_m12) .int 0 x41.length) (Bs (o:=oi 0 1) (p:=oi 1 1) (e1:=23) (u:=.int) (xss:=l19_m7) (row:=x41) (j:=l26_m12) (by kernel_rfl) (by kernel_rfl) e41) ?_;refine rs0 (.elt (oi 0 1) l19_m10 0) (zo (t:=.slice .int) (o:=oi 0 1) (len:=l19_m7.length) (k:=.i64) (m:=((l19_m10:Nat):Int)) (At _) (Al e39)) ?_;refine Nj (oi 0 1) (oi 0 1) (.vec 23 1 l19_m7.length ((hdL (oi 1 1) .int l19_m7).set l19_m10 (.own (kid (oi 1 1) l26_m12) .int 0 x41.length))) (Tr (o:=oi 0 1) (e1:=23) (m:=l19_m7.length) (cs:=hdL (oi 1 1) .int l19_m7) (v:=.own (kid (oi 1 1) l26_m12) .int 0 x41.length) (j:=l19_m10) (by kernel_rfl) (by kernel_rfl) (by kernel_rfl) rfl (by rw [D2]; exact Al e39)) ?_;refine Aq (tn_ ?_);refine wr_ ?_;refine Ab ?_;refine Aa 24 ?_;refine rz0 (.own (oi 0 1) (.slice .int) 0 l19_m7.length) ?_;refine rz0 (ai ((l26_m12:Nat):Int)) ?_;refine rz0 (.own (kid (oi 1 1) l19_m10) .int 0 x39.length) ?_;refine rs0 (.elt (oi 0 1) l26_m12 0) (zo (t:=.slice .int) (o:=oi 0 1) (len:=l19_m7.length) (k:=.i64) (m:=((l26_m12:Nat):Int)) (At _) (Al e41)) ?_;refine Nj (oi 0 1) (oi 0 1) (.vec 23 1 l19_m7.length (((hdL (oi 1 1) .int l19_m7).set l19_m10 (.own (kid (oi 1 1) l26_m12) .int 0 x41.length)).set l26_m12 (.own (kid (oi 1 1) l19_m10) .int 0 x39.length))) (Tr (o:=oi 0 1) (e1:=23) (m:=l19_m7.length) (cs:=(hdL (oi 1 1) .int l19_m7).set l19_m10 (.own (kid (oi 1 1) l26_m12) .int 0 x41.length)) (v:=.own (kid (oi 1 1) l19_m10) .int 0 x39.length) (j:=l26_m12) (by kernel_rfl) (by kernel_rfl) (by kernel_rfl) rfl (by rw [List.length_set,D2]; exact Al e41)) ?_;refine Aq (tn_ ?_);refine ⟨_,Pz (e1:=23) (e:=3) (u:=.int) (xss:=l19_m7) (i:=l19_m10) (j:=l26_m12) (n:=l19_m7.length) (li:=x39.length) (lj:=x41.length) (ri:=x39) (rj:=x41) 9000 (oi 0 1) (oi 1 1) (by kernel_rfl) (by kernel_rfl) rfl (by kernel_rfl) e39 e41 rfl rfl (by kernel_rfl) (by kernel_rfl),?_⟩;refine Ab ?_;obtain ⟨x44,e44,h⟩:=Ad h;obtain ⟨x45,e45,h⟩:=Ad h;obtain ⟨y46,h46,h⟩:=Ad h;refine Aa 35 ?_;refine rz0 (ai a0) ?_;refine rz0 (.own (oi 0 1) (.slice .int) 0 l19_m7.length) ?_;refine rz0 (ai ((l19_m10:Nat):Int)) ?_;refine rs0 (.elt (oi 0 1) l19_m10 0) (zo (t:=.slice .int) (o:=oi 0 1) (len:=l19_m7.length) (k:=.i64) (m:=((l19_m10:Nat):Int)) (At _) (Nat.lt_of_lt_of_le (Al e44) (Nat.le_of_eq (Eq.symm (Eq.trans (b:=l19_m7.length) rfl (by simp)))))) ?_;refine rsl (.own (kid (oi 9000 24) l19_m10) .int 0 x44.length) (Bs (o:=oi 0 1) (p:=oi 9000 24) (e1:=23) (u:=.int) (xss:=(l19_m7.set l19_m10 x41).set l26_m12 x39) (row:=x44) (j:=l19_m10) (by kernel_rfl) (by kernel_rfl) e44) ?_;refine rz0 (ai ((l19_m11:Nat):Int)) ?_;refine rs0 (.elt (kid (oi 9000 24) l19_m10) l19_m11 0) (zo (t:=.int) (o:=kid (oi 9000 24) l19_m10) (len:=x44.length) (k:=.i64) (m:=((l19_m11:Nat):Int)) (At _) (Al e45)) ?_;refine rsl (ai x45) (Ed (i:=kid (oi 9000 24) l19_m10) (j:=l19_m11) (k:=0) (e:=3) (t:=.int) (xs:=x44) (by kernel_rfl) (A0 (by kernel_rfl) e44) e45 (by kernel_rfl)) ?_;refine zc (ai y46) [] [ai a0,ai x45] (Ny h46) ?_;refine rsB 1 ?_;refine Aq (tn_ ?_);refine wr_ ?_;refine As h (fun (l47_m7:List (List Int)) S_=>S_=⟨Ap [(0,ai a0),(1,ai a1),(7,.own (oi 0 1) (.slice .int) 0 l47_m7.length),(10,ai ((l19_m10:Nat):Int)),(11,ai ((l19_m11:Nat):Int))],Aj (Ar [(oi 0 1,.mat 23 (oi 1 1) .int l47_m7),(oi 1 1,.pool 3 .int l47_m7)]),2⟩) ?_ ?_
    ·intro v_ h;refine Ab ?_;refine Aa 41 ?_;refine rz0 (.own (oi 0 1) (.slice .int) 0 l19_m7.length) ?_;refine rz0 (ai ((l19_m10:Nat):Int)) ?_;refine rs0 (.elt (oi 0 1) l19_m10 0) (zo (t:=.slice .int) (o:=oi 0 1) (len:=l19_m7.length) (k:=.i64) (m:=((l19_m10:Nat):Int)) (At _) (Nat.lt_of_lt_of_le (Al e44) (Nat.le_of_eq (Eq.symm (Eq.trans (b:=l19_m7.length) rfl (by simp)))))) ?_;refine rsl (.own (kid (oi 9000 24) l19_m10) .int 0 x44.length) (Bs (o:=oi 0 1) (p:=oi 9000 24) (e1:=23) (u:=.int) (xss:=(l19_m7.set l19_m10 x41).set l26_m12 x39) (row:=x44) (j:=l19_m10) (by kernel_rfl) (by kernel_rfl) e44) ?_;refine rsB 2 ?_;refine Aq (tn_ ?_);refine wr_ ?_;refine Af ?_;refine Ax h (fun t_ S_=>∃ (l49_m92:Nat),∃ (l49_m7:List (List Int)),t_=(l49_m92,l49_m7)∧S_=⟨Ap [(0,ai a0),(1,ai a1),(7,.own (oi 0 1) (.slice .int) 0 l49_m7.length),(10,ai ((l19_m10:Nat):Int)),(11,ai ((l19_m11:Nat):Int)),(14,ai y46),(91,ai ((x44.length:Nat):Int)),(92,ai ((l49_m92:Nat):Int))],Aj (Ar [(oi 0 1,.mat 23 (oi 1 1) .int l49_m7),(oi 1 1,.pool 3 .int l49_m7)]),2⟩) ⟨_,(A9 7 (.own (oi 0 1) (.slice .int) 0 l19_m7.length) (.own (oi 0 1) (.slice .int) 0 (((l19_m7.set l19_m10 x41).set l26_m12 x39).length)) (by kernel_rfl) (congrArg (fun z_=>((.own (oi 0 1) (.slice .int) 0 z_):AV)) ((Eq.trans (b:=l19_m7.length) rfl (by simp)):l19_m7.length=((l19_m7.set l19_m10 x41).set l26_m12 x39).length))).trans (Ac [(oi 1 1,oi 9000 24)]),⟨0,(l19_m7.set l19_m10 x41).set l26_m12 x39,rfl,rfl⟩⟩ ?_;rintro n_ _ _ c_ ⟨l49_m92,l49_m7,rfl,rfl⟩ h hn49
     (try dsimp only at h);unfold E4 at h;unfold M3;refine An ?_;refine Ab ?_;rcases Ae h with ⟨q52,h⟩ | ⟨q52,h⟩
     ·have q52_:=of_decide_eq_true q52;refine Ah q52 ?_;refine Ai (tn_ ?_);refine wr_ ?_;refine Ab ?_;refine Af ?_;refine An ?_;obtain ⟨x55,e55,h⟩:=Ad h;obtain ⟨x56,e56,h⟩:=Ad h;obtain ⟨y57,h57,h⟩:=Ad h;refine Az 22 ?_;refine dz0 (.own (oi 0 1) (.slice .int) 0 l49_m7.length) ?_;refine dz0 (ai ((l19_m10:Nat):Int)) ?_;refine ds0 (.elt (oi 0 1) l19_m10 0) (zo (t:=.slice .int) (o:=oi 0 1) (len:=l49_m7.length) (k:=.i64) (m:=((l19_m10:Nat):Int)) (At _) (Al e55)) ?_;refine dsl (.own (kid (oi 1 1) l19_m10) .int 0 x55.length) (Bs (o:=oi 0 1) (p:=oi 1 1) (e1:=23) (u:=.int) (xss:=l49_m7) (row:=x55) (j:=l19_m10) (by kernel_rfl) (by kernel_rfl) e55) ?_;refine dz0 (ai ((l49_m92:Nat):Int)) ?_;refine dz0 (ai a0) ?_;refine dz0 (.own (oi 0 1) (.slice .int) 0 l49_m7.length) ?_;refine dz0 (ai ((l19_m10:Nat):Int)) ?_;refine ds0 (.elt (oi 0 1) l19_m10 0) (zo (t:=.slice .int) (o:=oi 0 1) (len:=l49_m7.length) (k:=.i64) (m:=((l19_m10:Nat):Int)) (At _) (Al e55)) ?_;refine dsl (.own (kid (oi 1 1) l19_m10) .int 0 x55.length) (Bs (o:=oi 0 1) (p:=oi 1 1) (e1:=23) (u:=.int) (xss:=l49_m7) (row:=x55) (j:=l19_m10) (by kernel_rfl) (by kernel_rfl) e55) ?_;refine dz0 (ai ((l49_m92:Nat):Int)) ?_;refine ds0 (.elt (kid (oi 1 1) l19_m10) l49_m92 0) (zo (t:=.int) (o:=kid (oi 1 1) l19_m10) (len:=x55.length) (k:=.i64) (m:=((l49_m92:Nat):Int)) (At _) (Al e56)) ?_;refine dsl (ai x56) (Ed (i:=kid (oi 1 1) l19_m10) (j:=l49_m92) (k:=0) (e:=3) (t:=.int) (xs:=x55) (by kernel_rfl) (Hs.trans (A0 (by kernel_rfl) e55)) e56 (by kernel_rfl)) ?_;refine dz0 (ai y46) ?_;refine D4 (ai y57) [] [ai a0,ai x56,ai y46] _ (caps:=[]) (args0:=[ai a0,ai x56,ai y46]) trivial (by kernel_rfl) (I8 h57) N0 ?_;refine ds0 (.elt (kid (oi 1 1) l19_m10) l49_m92 0) (zo (t:=.int) (o:=kid (oi 1 1) l19_m10) (len:=x55.length) (k:=.i64) (m:=((l49_m92:Nat):Int)) (At _) (Al e56)) ?_;refine Mx (kid (oi 1 1) l19_m10) (kid (oi 1 1) l19_m10) (.arr 3 .int (x55.set l49_m92 y57)) (Ep (i:=kid (oi 1 1) l19_m10) (j:=l49_m92) (k:=0) (e:=3) (t:=.int) (xs:=x55) (cs:=[ai y57]) (x1:=y57) (by kernel_rfl) (Hs.trans (A0 (by kernel_rfl) e55)) e56 (by kernel_rfl) (by kernel_rfl)) ?_;refine Ld (Hh (o:=oi 0 1) (p:=oi 1 1) (e1:=23) (e:=3) (u:=.int) (xss:=l49_m7) (k:=l19_m10) (row:=x55) (row':=x55.set l49_m92 y57) (by kernel_rfl) rfl (by kernel_rfl) e55 List.length_set) ?_;refine Ft (Bd (by kernel_rfl)) (bn_ (tn_ ?_));refine wr_ ?_;obtain ⟨g58,h⟩:=Am h;refine Aa 24 ?_;refine rs0 (ai ((l49_m92+1:Nat):Int)) (za g58) ?_;refine rsB 1 ?_;refine Aq (tn_ ?_);obtain rfl:=zj h;exact ⟨(l49_m92+1,l49_m7.set l19_m10 (x55.set l49_m92 y57)),_,(A9 7 (.own (oi 0 1) (.slice .int) 0 l49_m7.length) (.own (oi 0 1) (.slice .int) 0 ((l49_m7.set l19_m10 (x55.set l49_m92 y57)).length)) (by kernel_rfl) (congrArg (fun z_=>((.own (oi 0 1) (.slice .int) 0 z_):AV)) ((Eq.trans (b:=l49_m7.length) rfl List.length_set.symm):l49_m7.length=(l49_m7.set l19_m10 (x55.set l49_m92 y57)).length))).trans (Ac []),⟨l49_m92+1,l49_m7.set l19_m10 (x55.set l49_m92 y57),rfl,rfl⟩,hn49⟩
     have q52_:=of_decide_eq_false q52;refine Ag q52 ?_;refine Au (te_ (te_ (be_ (tn_ ?_))));obtain rfl:=zj h;have h:=hn49
     (try dsimp only at h);obtain rfl:=zj h;exact ⟨_,Ac [],rfl⟩
    rintro l47_m7 _ rfl h
    (try dsimp only at h);refine As h (fun (l59_m7:List (List Int)) S_=>S_=⟨Ap [(0,ai a0),(1,ai a1),(7,.own (oi 0 1) (.slice .int) 0 l59_m7.length),(10,ai ((l19_m10:Nat):Int)),(11,ai ((l19_m11:Nat):Int))],Aj (Ar [(oi 0 1,.mat 23 (oi 1 1) .int l59_m7),(oi 1 1,.pool 3 .int l59_m7)]),2⟩) ?_ ?_
    ·intro v_ h;refine An ?_;refine Af ?_;refine Ax h (fun t_ S_=>∃ (l61_m114:Nat),∃ (l61_m7:List (List Int)),t_=(l61_m114,l61_m7)∧S_=⟨Ap [(0,ai a0),(1,ai a1),(7,.own (oi 0 1) (.slice .int) 0 l61_m7.length),(10,ai ((l19_m10:Nat):Int)),(11,ai ((l19_m11:Nat):Int)),(113,ai ((l47_m7.length:Nat):Int)),(114,ai ((l61_m114:Nat):Int))],Aj (Ar [(oi 0 1,.mat 23 (oi 1 1) .int l61_m7),(oi 1 1,.pool 3 .int l61_m7)]),2⟩) ⟨_,Ac [],⟨0,l47_m7,rfl,rfl⟩⟩ ?_;rintro n_ _ _ c_ ⟨l61_m114,l61_m7,rfl,rfl⟩ h hn61
     (try dsimp only at h);unfold Ez at h;unfold L3;refine An ?_;refine Ab ?_;rcases Ae h with ⟨q64,h⟩ | ⟨q64,h⟩
     ·have q64_:=of_decide_eq_true q64;refine Ah q64 ?_;refine Ai (tn_ ?_);refine wr_ ?_;refine As h (fun (l65_m7:List (List Int)) S_=>S_=⟨Ap [(0,ai a0),(1,ai a1),(7,.own (oi 0 1) (.slice .int) 0 l65_m7.length),(10,ai ((l19_m10:Nat):Int)),(11,ai ((l19_m11:Nat):Int)),(113,ai ((l47_m7.length:Nat):Int)),(114,ai ((l61_m114:Nat):Int))],Aj (Ar [(oi 0 1,.mat 23 (oi 1 1) .int l65_m7),(oi 1 1,.pool 3 .int l65_m7)]),2⟩) ?_ ?_
      ·intro v_ h;refine Af ?_;refine An ?_;refine Ab ?_;refine As h (fun (l68_m129:Bool) S_=>S_=⟨Ap [(0,ai a0),(1,ai a1),(7,.own (oi 0 1) (.slice .int) 0 l61_m7.length),(10,ai ((l19_m10:Nat):Int)),(11,ai ((l19_m11:Nat):Int)),(16,ai ((l61_m114:Nat):Int)),(113,ai ((l47_m7.length:Nat):Int)),(114,ai ((l61_m114:Nat):Int)),(129,.bool l68_m129)],Aj (Ar [(oi 0 1,.mat 23 (oi 1 1) .int l61_m7),(oi 1 1,.pool 3 .int l61_m7)]),2⟩) ?_ ?_
       ·intro v_ h;rcases Ae h with ⟨q69,h⟩ | ⟨q69,h⟩
        ·refine Aa 18 ?_;refine rz0 (ai ((l61_m114:Nat):Int)) ?_;refine rz0 (ai ((l19_m10:Nat):Int)) ?_;refine rz0 (.bool (((l61_m114:Nat):Int)==((l19_m10:Nat):Int))) ?_;refine rz0 (.bool (((l61_m114:Nat):Int)==((l19_m10:Nat):Int))) ?_;refine zs q69 ?_;refine zs q69 ?_;refine zs q69 ?_;refine zs q69 ?_;refine zs q69 ?_;refine zs q69 ?_;refine zs q69 ?_;refine zs q69 ?_;refine rs0 (.bool true) (zT q69) ?_;refine Aq (tn_ ?_);obtain rfl:=zj h;exact ⟨_,Ac [],rfl⟩
        obtain ⟨x70,e70,h⟩:=Ad h;obtain ⟨x71,e71,h⟩:=Ad h;refine Aa 18 ?_;refine rz0 (ai ((l61_m114:Nat):Int)) ?_;refine rz0 (ai ((l19_m10:Nat):Int)) ?_;refine rz0 (.bool (((l61_m114:Nat):Int)==((l19_m10:Nat):Int))) ?_;refine rz0 (.bool (((l61_m114:Nat):Int)==((l19_m10:Nat):Int))) ?_;refine rs0 (.own (oi 0 1) (.slice .int) 0 l61_m7.length) (zg q69) ?_;refine rs0 (ai ((l61_m114:Nat):Int)) (zg q69) ?_;refine rs0 (.elt (oi 0 1) l61_m114 0) (Nk (by kernel_rfl) q69 (zo (t:=.slice .int) (o:=oi 0 1) (len:=l61_m7.length) (k:=.i64) (m:=((l61_m114:Nat):Int)) (At _) (Al e70))) ?_;refine rsl (.own (kid (oi 1 1) l61_m114) .int 0 x70.length) (Nk (by kernel_rfl) q69 (Bs (o:=oi 0 1) (p:=oi 1 1) (e1:=23) (u:=.int) (xss:=l61_m7) (row:=x70) (j:=l61_m114) (by kernel_rfl) (by kernel_rfl) e70)) ?_;refine rs0 (ai ((l19_m11:Nat):Int)) (zg q69) ?_;refine rs0 (.elt (kid (oi 1 1) l61_m114) l19_m11 0) (Nk (by kernel_rfl) q69 (zo (t:=.int) (o:=kid (oi 1 1) l61_m114) (len:=x70.length) (k:=.i64) (m:=((l19_m11:Nat):Int)) (At _) (Al e71))) ?_;refine rsl (ai x71) (Nk (by kernel_rfl) q69 (Ed (i:=kid (oi 1 1) l61_m114) (j:=l19_m11) (k:=0) (e:=3) (t:=.int) (xs:=x70) (by kernel_rfl) (A0 (by kernel_rfl) e70) e71 (by kernel_rfl))) ?_;refine rs0 (.bool (x71==0)) (zg q69) ?_;refine rs0 (.bool (x71==0)) (zF q69) ?_;refine Aq (tn_ ?_);obtain rfl:=zj h;exact ⟨_,Ac [],rfl⟩
       rintro l68_m129 _ rfl h
       (try dsimp only at h);rcases Ae h with ⟨q72,h⟩ | ⟨q72,h⟩
       ·refine Ah q72 ?_;refine Au (te_ (be_ (tn_ ?_)));obtain rfl:=zj h;exact ⟨_,Ac [],rfl⟩
       refine Ag q72 ?_;refine Ai (tn_ ?_);refine wr_ ?_;refine Ab ?_;obtain ⟨x74,e74,h⟩:=Ad h;obtain ⟨x75,e75,h⟩:=Ad h;refine Aa 10 ?_;refine rz0 (.own (oi 0 1) (.slice .int) 0 l61_m7.length) ?_;refine rz0 (ai ((l61_m114:Nat):Int)) ?_;refine rs0 (.elt (oi 0 1) l61_m114 0) (zo (t:=.slice .int) (o:=oi 0 1) (len:=l61_m7.length) (k:=.i64) (m:=((l61_m114:Nat):Int)) (At _) (Al e74)) ?_;refine rsl (.own (kid (oi 1 1) l61_m114) .int 0 x74.length) (Bs (o:=oi 0 1) (p:=oi 1 1) (e1:=23) (u:=.int) (xss:=l61_m7) (row:=x74) (j:=l61_m114) (by kernel_rfl) (by kernel_rfl) e74) ?_;refine rz0 (ai ((l19_m11:Nat):Int)) ?_;refine rs0 (.elt (kid (oi 1 1) l61_m114) l19_m11 0) (zo (t:=.int) (o:=kid (oi 1 1) l61_m114) (len:=x74.length) (k:=.i64) (m:=((l19_m11:Nat):Int)) (At _) (Al e75)) ?_;refine rsl (ai x75) (Ed (i:=kid (oi 1 1) l61_m114) (j:=l19_m11) (k:=0) (e:=3) (t:=.int) (xs:=x74) (by kernel_rfl) (A0 (by kernel_rfl) e74) e75 (by kernel_rfl)) ?_;refine rsB 1 ?_;refine Aq (tn_ ?_);refine wr_ ?_;refine Ab ?_;refine Aa 16 ?_;refine rz0 (.own (oi 0 1) (.slice .int) 0 l61_m7.length) ?_;refine rz0 (ai ((l61_m114:Nat):Int)) ?_;refine rs0 (.elt (oi 0 1) l61_m114 0) (zo (t:=.slice .int) (o:=oi 0 1) (len:=l61_m7.length) (k:=.i64) (m:=((l61_m114:Nat):Int)) (At _) (Al e74)) ?_;refine rsl (.own (kid (oi 1 1) l61_m114) .int 0 x74.length) (Bs (o:=oi 0 1) (p:=oi 1 1) (e1:=23) (u:=.int) (xss:=l61_m7) (row:=x74) (j:=l61_m114) (by kernel_rfl) (by kernel_rfl) e74) ?_;refine rsB 2 ?_;refine Aq (tn_ ?_);refine wr_ ?_;refine Af ?_;refine Ax h (fun t_ S_=>∃ (l77_m142:Nat),∃ (l77_m7:List (List Int)),t_=(l77_m142,l77_m7)∧S_=⟨Ap [(0,ai a0),(1,ai a1),(7,.own (oi 0 1) (.slice .int) 0 l77_m7.length),(10,ai ((l19_m10:Nat):Int)),(11,ai ((l19_m11:Nat):Int)),(16,ai ((l61_m114:Nat):Int)),(17,ai x75),(113,ai ((l47_m7.length:Nat):Int)),(114,ai ((l61_m114:Nat):Int)),(141,ai ((x74.length:Nat):Int)),(142,ai ((l77_m142:Nat):Int))],Aj (Ar [(oi 0 1,.mat 23 (oi 1 1) .int l77_m7),(oi 1 1,.pool 3 .int l77_m7)]),2⟩) ⟨_,Ac [],⟨0,l61_m7,rfl,rfl⟩⟩ ?_;rintro n_ _ _ c_ ⟨l77_m142,l77_m7,rfl,rfl⟩ h hn77
       (try dsimp only at h);unfold Er at h;unfold L5;refine An ?_;refine Ab ?_;rcases Ae h with ⟨q80,h⟩ | ⟨q80,h⟩
       ·have q80_:=of_decide_eq_true q80;refine Ah q80 ?_;refine Ai (tn_ ?_);refine wr_ ?_;refine Ab ?_;refine Af ?_;refine An ?_;obtain ⟨x83,e83,h⟩:=Ad h;obtain ⟨x84,e84,h⟩:=Ad h;obtain ⟨x85,e85,h⟩:=Ad h;obtain ⟨x86,e86,h⟩:=Ad h;obtain ⟨y87,h87,h⟩:=Ad h;obtain ⟨y88,h88,h⟩:=Ad h;refine Az 31 ?_;refine dz0 (.own (oi 0 1) (.slice .int) 0 l77_m7.length) ?_;refine dz0 (ai ((l61_m114:Nat):Int)) ?_;refine ds0 (.elt (oi 0 1) l61_m114 0) (zo (t:=.slice .int) (o:=oi 0 1) (len:=l77_m7.length) (k:=.i64) (m:=((l61_m114:Nat):Int)) (At _) (Al e83)) ?_;refine dsl (.own (kid (oi 1 1) l61_m114) .int 0 x83.length) (Bs (o:=oi 0 1) (p:=oi 1 1) (e1:=23) (u:=.int) (xss:=l77_m7) (row:=x83) (j:=l61_m114) (by kernel_rfl) (by kernel_rfl) e83) ?_;refine dz0 (ai ((l77_m142:Nat):Int)) ?_;refine dz0 (ai a0) ?_;refine dz0 (.own (oi 0 1) (.slice .int) 0 l77_m7.length) ?_;refine dz0 (ai ((l61_m114:Nat):Int)) ?_;refine ds0 (.elt (oi 0 1) l61_m114 0) (zo (t:=.slice .int) (o:=oi 0 1) (len:=l77_m7.length) (k:=.i64) (m:=((l61_m114:Nat):Int)) (At _) (Al e83)) ?_;refine dsl (.own (kid (oi 1 1) l61_m114) .int 0 x83.length) (Bs (o:=oi 0 1) (p:=oi 1 1) (e1:=23) (u:=.int) (xss:=l77_m7) (row:=x83) (j:=l61_m114) (by kernel_rfl) (by kernel_rfl) e83) ?_;refine dz0 (ai ((l77_m142:Nat):Int)) ?_;refine ds0 (.elt (kid (oi 1 1) l61_m114) l77_m142 0) (zo (t:=.int) (o:=kid (oi 1 1) l61_m114) (len:=x83.length) (k:=.i64) (m:=((l77_m142:Nat):Int)) (At _) (Al e84)) ?_;refine dsl (ai x84) (Ed (i:=kid (oi 1 1) l61_m114) (j:=l77_m142) (k:=0) (e:=3) (t:=.int) (xs:=x83) (by kernel_rfl) (Hs.trans (A0 (by kernel_rfl) e83)) e84 (by kernel_rfl)) ?_;refine dz0 (ai a0) ?_;refine dz0 (ai x75) ?_;refine dz0 (.own (oi 0 1) (.slice .int) 0 l77_m7.length) ?_;refine dz0 (ai ((l19_m10:Nat):Int)) ?_;refine ds0 (.elt (oi 0 1) l19_m10 0) (zo (t:=.slice .int) (o:=oi 0 1) (len:=l77_m7.length) (k:=.i64) (m:=((l19_m10:Nat):Int)) (At _) (Al e85)) ?_;refine dsl (.own (kid (oi 1 1) l19_m10) .int 0 x85.length) (Bs (o:=oi 0 1) (p:=oi 1 1) (e1:=23) (u:=.int) (xss:=l77_m7) (row:=x85) (j:=l19_m10) (by kernel_rfl) (by kernel_rfl) e85) ?_;refine dz0 (ai ((l77_m142:Nat):Int)) ?_;refine ds0 (.elt (kid (oi 1 1) l19_m10) l77_m142 0) (zo (t:=.int) (o:=kid (oi 1 1) l19_m10) (len:=x85.length) (k:=.i64) (m:=((l77_m142:Nat):Int)) (At _) (Al e86)) ?_;refine dsl (ai x86) (Ed (i:=kid (oi 1 1) l19_m10) (j:=l77_m142) (k:=0) (e:=3) (t:=.int) (xs:=x85) (by kernel_rfl) (Hs.trans (A0 (by kernel_rfl) e85)) e86 (by kernel_rfl)) ?_;refine D4 (ai y87) [] [ai a0,ai x75,ai x86] _ (caps:=[]) (args0:=[ai a0,ai x75,ai x86]) trivial (by kernel_rfl) (I8 h87) N0 ?_;refine D4 (ai y88) [] [ai a0,ai x84,ai y87] _ (caps:=[]) (args0:=[ai a0,ai x84,ai y87]) trivial (by kernel_rfl) (Kt h88) Kq ?_;refine ds0 (.elt (kid (oi 1 1) l61_m114) l77_m142 0) (zo (t:=.int) (o:=kid (oi 1 1) l61_m114) (len:=x83.length) (k:=.i64) (m:=((l77_m142:Nat):Int)) (At _) (Al e84)) ?_;refine Mx (kid (oi 1 1) l61_m114) (kid (oi 1 1) l61_m114) (.arr 3 .int (x83.set l77_m142 y88)) (Ep (i:=kid (oi 1 1) l61_m114) (j:=l77_m142) (k:=0) (e:=3) (t:=.int) (xs:=x83) (cs:=[ai y88]) (x1:=y88) (by kernel_rfl) (Hs.trans (A0 (by kernel_rfl) e83)) e84 (by kernel_rfl) (by kernel_rfl)) ?_;refine Ld (Hh (o:=oi 0 1) (p:=oi 1 1) (e1:=23) (e:=3) (u:=.int) (xss:=l77_m7) (k:=l61_m114) (row:=x83) (row':=x83.set l77_m142 y88) (by kernel_rfl) rfl (by kernel_rfl) e83 List.length_set) ?_;refine Ft (Bd (by kernel_rfl)) (bn_ (tn_ ?_));refine wr_ ?_;obtain ⟨g89,h⟩:=Am h;refine Aa 33 ?_;refine rs0 (ai ((l77_m142+1:Nat):Int)) (za g89) ?_;refine rsB 1 ?_;refine Aq (tn_ ?_);obtain rfl:=zj h;exact ⟨(l77_m142+1,l77_m7.set l61_m114 (x83.set l77_m142 y88)),_,(A9 7 (.own (oi 0 1) (.slice .int) 0 l77_m7.length) (.own (oi 0 1) (.slice .int) 0 ((l77_m7.set l61_m114 (x83.set l77_m142 y88)).length)) (by kernel_rfl) (congrArg (fun z_=>((.own (oi 0 1) (.slice .int) 0 z_):AV)) ((Eq.trans (b:=l77_m7.length) rfl List.length_set.symm):l77_m7.length=(l77_m7.set l61_m114 (x83.set l77_m142 y88)).length))).trans (Ac []),⟨l77_m142+1,l77_m7.set l61_m114 (x83.set l77_m142 y88),rfl,rfl⟩,hn77⟩
       have q80_:=of_decide_eq_false q80;refine Ag q80 ?_;refine Au (te_ (te_ (be_ (bn_ (tn_ ?_)))));obtain rfl:=zj h;have h:=hn77
       (try dsimp only at h);obtain rfl:=zj h;exact ⟨_,Ac [],rfl⟩
      rintro l65_m7 _ rfl h
      (try dsimp only at h);obtain ⟨g90,h⟩:=Am h;refine Aa 4 ?_;refine rs0 (ai ((l61_m114+1:Nat):Int)) (za g90) ?_;refine rsB 1 ?_;refine Aq (tn_ ?_);obtain rfl:=zj h;exact ⟨(l61_m114+1,l65_m7),_,Ac [],⟨l61_m114+1,l65_m7,rfl,rfl⟩,hn61⟩
     have q64_:=of_decide_eq_false q64;refine Ag q64 ?_;refine Au (te_ (te_ (be_ (tn_ ?_))));obtain rfl:=zj h;have h:=hn61
     (try dsimp only at h);obtain rfl:=zj h;exact ⟨_,Ac [],rfl⟩
    rintro l59_m7 _ rfl h
    (try dsimp only at h);obtain ⟨g91,h⟩:=Am h;refine Aa 5 ?_;refine rz0 (ai ((l19_m10:Nat):Int)) ?_;refine rs0 (ai ((l19_m10+1:Nat):Int)) (za g91) ?_;refine rsB 1 ?_;refine Aq (bn_ (tn_ ?_));obtain rfl:=zj h;exact ⟨_,Ac [],⟨l19_m10+1,l59_m7,rfl,rfl⟩⟩
   rintro _ _ ⟨l24_m10,l24_m7,rfl,rfl⟩ h
   (try dsimp only at h);obtain ⟨g92,h⟩:=Am h;refine Aa 5 ?_;refine rz0 (ai ((l19_m11:Nat):Int)) ?_;refine rs0 (ai ((l19_m11+1:Nat):Int)) (za g92) ?_;refine rsB 1 ?_;refine Aq (tn_ ?_);obtain rfl:=zj h;exact ⟨(l24_m10,l19_m11+1,l24_m7),_,Ac [],⟨l24_m10,l19_m11+1,l24_m7,rfl,rfl⟩,hn19⟩
  refine Ag q23 ?_;refine Au (te_ (te_ (be_ (tn_ ?_))));obtain rfl:=zj h;have h:=hn19
  (try dsimp only at h);obtain rfl:=zj h;exact ⟨_,Ac [],⟨l19_m10,l19_m7,rfl,rfl⟩⟩
 rintro _ _ ⟨l17_m10,l17_m7,rfl,rfl⟩ h
 (try dsimp only at h);refine Ab ?_;obtain ⟨g94,h⟩:=Am h;refine Aa 6 ?_;refine rz0 (.own (oi 0 1) (.slice .int) 0 l17_m7.length) ?_;refine rz0 (ai ((l17_m10:Nat):Int)) ?_;refine rs0 (.own (oi 0 1) (.slice .int) 0 l17_m10) (Rj (t:=.slice .int) (i:=oi 0 1) (off:=0) (len:=l17_m7.length) (l:=0) (h:=((l17_m10:Nat):Int)) (by kernel_rfl) (by kernel_rfl) (by kernel_rfl) rfl g94 rfl (by omega)) ?_;refine rsB 1 ?_;refine Aq (tn_ ?_);refine wr_ ?_;refine Ao ?_;obtain rfl:=zj h;exact Gk [.own (oi 0 1) (.slice .int) 0 ((l17_m7.take l17_m10).length)] ((Akn (e1:=23) (e:=3) (u:=.int) (xss:=l17_m7) (n:=l17_m7.length) (k:=l17_m10) 9000 (oi 0 1) (oi 1 1) (by kernel_rfl) (by kernel_rfl) rfl (by kernel_rfl) (by omega) (by kernel_rfl) (by kernel_rfl) (by kernel_rfl)).trans ((A9 6 (.own (oi 0 1) (.slice .int) 0 l17_m10) (.own (oi 0 1) (.slice .int) 0 ((l17_m7.take l17_m10).length)) (by kernel_rfl) (congrArg (fun z_=>((.own (oi 0 1) (.slice .int) 0 z_):AV)) ((Agd (by omega)):l17_m10=(l17_m7.take l17_m10).length))).trans (Ac (tl:=[(6,.own (oi 0 1) (.slice .int) 0 (l17_m7.take l17_m10).length)]) (g:=2) [(oi 1 1,oi 9000 6)])))
def Qo:AC :=
 (.seq (.seq (rg [xo 10 (qm (tm 2)),xo 11 (qb .gtr (tm 10) (ci 0))])
 (.cond (tm 11)
  .skip
  (.exit 0)))
 (.seq (.block 1 (.seq (.seq (rg [xo 14 (qm (tm 2)),xo 15 (qb .rem (tm 14) (ci 2)),xo 16 (qb .eql (tm 15) (ci 1))])
 (.cond (tm 16)
  (rg [xo 17 (qm (tm 7)),xo 18 (qm (tm 1)),xo 19 (qb .mul (tm 17) (tm 18)),xo 20 (qm (tm 0)),xo 21 (qb .rem (tm 19) (tm 20)),xo 7 (qm (tm 21))])
  .skip))
 (rg [xo 22 (qm (tm 1)),xo 23 (qm (tm 1)),xo 24 (qb .mul (tm 22) (tm 23)),xo 25 (qm (tm 0)),xo 26 (qb .rem (tm 24) (tm 25)),xo 1 (qm (tm 26))])))
 (rg [xo 12 (qm (tm 2)),xo 13 (qb .quo (tm 12) (ci 2)),xo 2 (qm (tm 13))])))
def Vu:AC :=
 (.seq (rg [xo 6 (qm (ci 0))])
 (.seq (rg [xo 8 (qm (tm 0)),xo 9 (qb .rem (ci 1) (tm 8)),xo 7 (qm (tm 9))])
 (.seq (.block 0 (.loop Qo))
 (.seq (rg [xo 27 (qm (tm 7)),xo 6 (qm (tm 27))])
 .ret))))
def Agk:List Res:=[.tmp 6]
theorem Ae6:Aw Tryd.prog Tryd.f96=some (Vu,Agk):=by kernel_rfl
def Qk (a0:Int) (l5_m1:Int) (l5_m2:Int) (l5_m7:Int):Option (Ctl (Int×Int×Int) Int) :=
 cond (decide (0<l5_m2))
 (Option.bind (cond ((Int.tmod l5_m2 2)==1)
   (og (a0≠0) <|
   some (Int.tmod (wI (l5_m7*l5_m1)) a0))
   (some l5_m7)) fun l10_m7 =>
 og (a0≠0) <|
 some (Ctl.next (Int.tmod (wI (l5_m1*l5_m1)) a0,wI (Int.tdiv l5_m2 2),l10_m7)))
 (some (Ctl.out l5_m7))
def Ps (a0:Int) (a1:Int) (a2:Int):Option Int :=
 og (a0≠0) <|
Option.bind (Av (fun s_:Int×Int×Int=>Qk a0 s_.1 s_.2.1 s_.2.2) 4611686018427387904 (a1,a2,Int.tmod 1 a0)) fun l4_m7 =>
some l4_m7
def Ad0 (r:Int):RV:=⟨false,[(false,[.sc (.int .i64 r)])]⟩
theorem Adh {a0:Int} {a1:Int} {a2:Int} {r:Int} (h:Ps a0 a1 a2=some r):Bm Tryd.prog Tab 96 [ai a0,ai a1,ai a2] (Ad0 r):=by
 refine Ba (by kernel_rfl) Tryd.func96 Ae6 (n:=28) (by kernel_rfl) (by simp) (tl:=[(0,ai a0),(1,ai a1),(2,ai a2)]) rfl ?_;unfold Vu;unfold Ps at h;refine An ?_;refine Ab ?_;obtain ⟨g3,h⟩:=Am h;refine Aa 5 ?_;refine rz0 (ai a0) ?_;refine rs0 (ai (Int.tmod 1 a0)) (On (k:=.i64) (a:=1) (b:=a0) (by kernel_rfl) (by kernel_rfl) g3) ?_;refine rsB 1 ?_;refine Aq (tn_ ?_);refine wr_ ?_;refine As h (fun (l4_m7:Int) S_=>S_=⟨Ap [(7,ai l4_m7)],Aj (Ar []),2⟩) ?_ ?_
 ·intro v_ h;refine Af ?_;refine Ax h (fun t_ S_=>∃ (l5_m1:Int),∃ (l5_m2:Int),∃ (l5_m7:Int),t_=(l5_m1,l5_m2,l5_m7)∧S_=⟨Ap [(0,ai a0),(1,ai l5_m1),(2,ai l5_m2),(7,ai l5_m7)],Aj (Ar []),2⟩) ⟨_,Ac [],⟨a1,a2,Int.tmod 1 a0,rfl,rfl⟩⟩ ?_;rintro n_ _ _ c_ ⟨l5_m1,l5_m2,l5_m7,rfl,rfl⟩ h hn5
  (try dsimp only at h);unfold Qk at h;unfold Qo;refine Ab ?_;refine An ?_;rcases Ae h with ⟨q8,h⟩ | ⟨q8,h⟩
  ·have q8_:=of_decide_eq_true q8;refine Ah q8 ?_;refine Ai (tn_ ?_);refine wr_ ?_;refine Ab ?_;refine Af ?_;refine As h (fun (l10_m7:Int) S_=>S_=⟨Ap [(0,ai a0),(1,ai l5_m1),(2,ai l5_m2),(7,ai l10_m7)],Aj (Ar []),2⟩) ?_ ?_
   ·intro v_ h;refine Ab ?_;refine Aa 7 ?_;refine rz0 (ai l5_m2) ?_;refine rs0 (ai (Int.tmod l5_m2 2)) (On (k:=.i64) (a:=l5_m2) (b:=2) (by kernel_rfl) (by kernel_rfl) (by decide)) ?_;refine rsB 1 ?_;refine Aq (tn_ ?_);refine wr_ ?_;rcases Ae h with ⟨q12,h⟩ | ⟨q12,h⟩
    ·refine Ah q12 ?_;obtain ⟨g13,h⟩:=Am h;refine Aa 13 ?_;refine rz0 (ai l5_m7) ?_;refine rz0 (ai l5_m1) ?_;refine rz0 (ai (wI (l5_m7*l5_m1))) ?_;refine rz0 (ai a0) ?_;refine rs0 (ai (Int.tmod (wI (l5_m7*l5_m1)) a0)) (On (k:=.i64) (a:=wI (l5_m7*l5_m1)) (b:=a0) (by kernel_rfl) (by kernel_rfl) g13) ?_;refine rsB 1 ?_;refine Aq (tn_ ?_);obtain rfl:=zj h;exact ⟨_,Ac [],rfl⟩
    refine Ag q12 ?_;refine Ai (tn_ ?_);obtain rfl:=zj h;exact ⟨_,Ac [],rfl⟩
   rintro l10_m7 _ rfl h
   (try dsimp only at h);obtain ⟨g14,h⟩:=Am h;refine Aa 8 ?_;refine rz0 (ai l5_m1) ?_;refine rz0 (ai l5_m1) ?_;refine rz0 (ai (wI (l5_m1*l5_m1))) ?_;refine rz0 (ai a0) ?_;refine rs0 (ai (Int.tmod (wI (l5_m1*l5_m1)) a0)) (On (k:=.i64) (a:=wI (l5_m1*l5_m1)) (b:=a0) (by kernel_rfl) (by kernel_rfl) g14) ?_;refine rsB 1 ?_;refine Aq (bn_ (tn_ ?_));refine wr_ ?_;refine Aa 11 ?_;refine rz0 (ai l5_m2) ?_;refine rs0 (ai (wI (Int.tdiv l5_m2 2))) (Att (k:=.i64) (a:=l5_m2) (b:=2) (by kernel_rfl) (by kernel_rfl) (by decide)) ?_;refine rsB 1 ?_;refine Aq (tn_ ?_);obtain rfl:=zj h;exact ⟨(Int.tmod (wI (l5_m1*l5_m1)) a0,wI (Int.tdiv l5_m2 2),l10_m7),_,Ac [],⟨Int.tmod (wI (l5_m1*l5_m1)) a0,wI (Int.tdiv l5_m2 2),l10_m7,rfl,rfl⟩,hn5⟩
  have q8_:=of_decide_eq_false q8;refine Ag q8 ?_;refine Au (te_ (te_ (be_ (tn_ ?_))));obtain rfl:=zj h;have h:=hn5
  (try dsimp only at h);obtain rfl:=zj h;exact ⟨_,Ac [],rfl⟩
 rintro l4_m7 _ rfl h
 (try dsimp only at h);refine An ?_;refine Ao ?_;obtain rfl:=zj h;exact Br [ai l4_m7] (A8 rfl zl Bc)
def Aa0:AC :=
 (.seq (rg [xo 2 (qm (ci 0))])
 (.seq (.seq (rg [xo 3 (qm (tm 0))])
 (.cond (tm 3)
  (.seq (rg [xo 2 (qm (ci 1))])
  .ret)
  .skip))
 (.seq (rg [xo 2 (qm (ci 0))])
 .ret)))
def Ajy:List Res:=[.tmp 2]
theorem Ak2:Aw Tryd.prog Tryd.f97=some (Aa0,Ajy):=by kernel_rfl
def Uo (a0:Bool):Option Int :=
 cond a0
 (some 1)
 (some 0)
def Ahg (r:Int):RV:=⟨false,[(false,[.sc (.int .i64 r)])]⟩
theorem Ajq {a0:Bool} {r:Int} (h:Uo a0=some r):Bm Tryd.prog Tab 97 [.bool a0] (Ahg r):=by
 refine Ba (by kernel_rfl) Tryd.func97 Ak2 (n:=4) (by kernel_rfl) (by simp) (tl:=[(0,.bool a0)]) rfl ?_;unfold Aa0;unfold Uo at h;refine An ?_;refine Ab ?_;refine An ?_;rcases Ae h with ⟨q4,h⟩ | ⟨q4,h⟩
 ·refine Ah q4 ?_;refine An ?_;refine Ao (tr_ ?_);obtain rfl:=zj h;exact Br [ai 1] (A8 rfl zl Bc)
 refine Ag q4 ?_;refine Ai (tn_ ?_);refine wr_ ?_;refine An ?_;refine Ao ?_;obtain rfl:=zj h;exact Br [ai 0] (A8 rfl zl Bc)
def Ry:AC :=
 (.seq (rg [xo 4 (qm (ci 0))])
 (.seq (rg [xo 5 (qm (tm 0)),xo 6 (qm (tm 1)),xo 7 (qm (tm 0)),xo 8 (qb .sub (tm 7) (ci 2)),xo 9 (qm (tm 0)),xo 10 (qb .eql (tm 9) (ci 2)),xo 11 (qc 97 [tm 10] [[]]),xo 12 (qb .add (tm 8) (tm 11)),xo 13 (qc 96 [tm 5,tm 6,tm 12] [[],[],[]]),xo 4 (qm (tm 13))])
 .ret))
def Aac:List Res:=[.tmp 4]
theorem Aag:Aw Tryd.prog Tryd.f94=some (Ry,Aac):=by kernel_rfl
def Hz (a0:Int) (a1:Int):Option Int :=
 Option.bind (Uo (a0==2)) fun y3 =>
Option.bind (Ps a0 a1 (wI (wI (a0 - 2)+y3))) fun y4 =>
some y4
def Y4 (r:Int):RV:=⟨false,[(false,[.sc (.int .i64 r)])]⟩
theorem Y9 {a0:Int} {a1:Int} {r:Int} (h:Hz a0 a1=some r):Bm Tryd.prog Tab 94 [ai a0,ai a1] (Y4 r):=by
 refine Ba (by kernel_rfl) Tryd.func94 Aag (n:=14) (by kernel_rfl) (by simp) (tl:=[(0,ai a0),(1,ai a1)]) rfl ?_;unfold Ry;unfold Hz at h;refine An ?_;refine Ab ?_;obtain ⟨y3,h3,h⟩:=Ad h;obtain ⟨y4,h4,h⟩:=Ad h;refine Aa 12 ?_;refine rz0 (ai a0) ?_;refine rz0 (ai a1) ?_;refine rz0 (ai a0) ?_;refine rz0 (ai (wI (a0 - 2))) ?_;refine rz0 (ai a0) ?_;refine rz0 (.bool (a0==2)) ?_;refine zc (ai y3) [] [.bool (a0==2)] (Ajq h3) ?_;refine rz0 (ai (wI (wI (a0 - 2)+y3))) ?_;refine zc (ai y4) [] [ai a0,ai a1,ai (wI (wI (a0 - 2)+y3))] (Adh h4) ?_;refine rsB 1 ?_;refine Aq (tn_ ?_);refine wr_ ?_;refine Ao ?_;obtain rfl:=zj h;exact Br [ai y4] (A8 rfl zl Bc)
def M8:AC :=
 (.seq (rg [xo 13 (qb .lss (tm 12) (tm 11))])
 (.seq (.cond (tm 13)
  .skip
  (.exit 0))
 (.seq (.block 1 (.seq (rg [xo 14 (qm (tm 12)),xo 15 (qx 1 (tm 10) (tm 12)),xo 16 (ql (tm 15)),xo 8 (qm (tm 14)),xo 9 (qm (tm 16))])
 (rg [xo 17 (qm (tm 1)),xo 18 (qm (tm 8)),xo 19 (qm (tm 0)),xo 20 (qm (tm 1)),xo 21 (qm (tm 8)),xo 22 (qx 1 (tm 20) (tm 21)),xo 23 (ql (tm 22)),xo 24 (qm (tm 2)),xo 25 (qm (tm 9)),xo 26 (qb .mul (tm 24) (tm 25)),xo 27 (qb .add (tm 23) (tm 26)),xo 28 (qc 50 [tm 19,tm 27] [[],[]]),xo 29 (qx 1 (tm 17) (tm 18)),xn (qs (tm 29) (tm 28))])))
 (rg [xo 30 (qb .add (tm 12) (ci 1)),xo 12 (qm (tm 30))]))))
def Qz:AC :=
 (.seq (rg [xo 10 (qm (tm 3)),xo 11 (.i (.len (tm 10))),xo 12 (qm (ci 0))])
 (.block 0 (.loop M8)))
def Ze:List Res:=[]
theorem Yt:Aw Tryd.prog Tryd.f95=some (Qz,Ze):=by kernel_rfl
theorem Wn:A6 Tryd.prog 95=true:=by kernel_rfl
def Gv (a3:List Int) (a0:Int) (a2:Int) (l3_m12:Nat) (l3_m1:List Int):Option (Ctl (Nat×List Int) (List Int)) :=
 cond (decide (((l3_m12:Nat):Int)<((a3.length:Nat):Int)))
 (Option.bind (a3[l3_m12]?) fun x9 =>
 Option.bind (l3_m1[l3_m12]?) fun x10 =>
 Option.bind (E3 a0 (wI (x10+wI (a2*x9)))) fun y11 =>
 og (l3_m12+1<4611686018427387904) <|
 some (Ctl.next (l3_m12+1,l3_m1.set l3_m12 y11)))
 (some (Ctl.out l3_m1))
def Gz (a0:Int) (a1:List Int) (a2:Int) (a3:List Int):Option (List Int) :=
 Av (fun s_:Nat×List Int=>Gv a3 a0 a2 s_.1 s_.2) 4611686018427387904 (0,a1)
theorem Xq {a0:Int} {a1:List Int} {a2:Int} {a3:List Int} {r:List Int} (h:Gz a0 a1 a2 a3=some r) {n_a1:Nat} (hn_a1:n_a1=a1.length):Fi Tryd.prog Tab 95 [ai a0,.own (oi 0 0) .int 0 n_a1,ai a2,.tree .int a3] [(oi 0 0,.arr 3 .int a1)] (.tup []) [(oi 0 0,.arr 3 .int r)]:=by
 refine B8 (by kernel_rfl) Tryd.func95 Yt (n:=31) (by kernel_rfl) (by simp) (tl:=[(0,ai a0),(1,.own (oi 0 0) .int 0 n_a1),(2,ai a2),(3,.tree .int a3)]) rfl (by kernel_rfl) ⟨trivial,trivial⟩ ⟨trivial,trivial⟩ ?_;unfold Qz;unfold Gz at h;refine An ?_;refine Af ?_;refine Ax h (fun t_ S_=>∃ (l3_m12:Nat),∃ (l3_m1:List Int),t_=(l3_m12,l3_m1)∧S_=⟨Ap [(0,ai a0),(1,.own (oi 0 0) .int 0 l3_m1.length),(2,ai a2),(10,.tree .int a3),(11,ai ((a3.length:Nat):Int)),(12,ai ((l3_m12:Nat):Int))],Aj (Ar [(oi 0 0,.arr 3 .int l3_m1)]),2⟩) ⟨_,(A9 1 (.own (oi 0 0) .int 0 n_a1) (.own (oi 0 0) .int 0 a1.length) (by kernel_rfl) (congrArg (fun z_=>((.own (oi 0 0) .int 0 z_):AV)) (hn_a1:n_a1=a1.length))).trans (Ac []),⟨0,a1,rfl,rfl⟩⟩ ?_;rintro n_ _ _ c_ ⟨l3_m12,l3_m1,rfl,rfl⟩ h hn3
 (try dsimp only at h);unfold Gv at h;unfold M8;refine An ?_;refine Ab ?_;rcases Ae h with ⟨q6,h⟩ | ⟨q6,h⟩
 ·have q6_:=of_decide_eq_true q6;refine Ah q6 ?_;refine Ai (tn_ ?_);refine wr_ ?_;refine Ab ?_;refine Af ?_;refine Ab ?_;obtain ⟨x9,e9,h⟩:=Ad h;refine Aa 8 ?_;refine rz0 (ai ((l3_m12:Nat):Int)) ?_;refine rs0 (.telt .int x9 0) (zi (t:=.int) (xs:=a3) (k:=.i64) (m:=((l3_m12:Nat):Int)) (At _) e9) ?_;refine rsB 3 ?_;refine Aq (tn_ ?_);refine wr_ ?_;obtain ⟨x10,e10,h⟩:=Ad h;obtain ⟨y11,h11,h⟩:=Ad h;refine Aa 22 ?_;refine rz0 (.own (oi 0 0) .int 0 l3_m1.length) ?_;refine rz0 (ai ((l3_m12:Nat):Int)) ?_;refine rz0 (ai a0) ?_;refine rz0 (.own (oi 0 0) .int 0 l3_m1.length) ?_;refine rz0 (ai ((l3_m12:Nat):Int)) ?_;refine rs0 (.elt (oi 0 0) l3_m12 0) (zo (t:=.int) (o:=oi 0 0) (len:=l3_m1.length) (k:=.i64) (m:=((l3_m12:Nat):Int)) (At _) (Al e10)) ?_;refine rsl (ai x10) (Ed (i:=oi 0 0) (j:=l3_m12) (k:=0) (e:=3) (t:=.int) (xs:=l3_m1) (by kernel_rfl) (by kernel_rfl) e10 (by kernel_rfl)) ?_;refine rz0 (ai a2) ?_;refine rz0 (ai x9) ?_;refine rz0 (ai (wI (a2*x9))) ?_;refine rz0 (ai (wI (x10+wI (a2*x9)))) ?_;refine zc (ai y11) [] [ai a0,ai (wI (x10+wI (a2*x9)))] (Hw h11) ?_;refine rs0 (.elt (oi 0 0) l3_m12 0) (zo (t:=.int) (o:=oi 0 0) (len:=l3_m1.length) (k:=.i64) (m:=((l3_m12:Nat):Int)) (At _) (Al e10)) ?_;refine Nj (oi 0 0) (oi 0 0) (.arr 3 .int (l3_m1.set l3_m12 y11)) (Ep (i:=oi 0 0) (j:=l3_m12) (k:=0) (e:=3) (t:=.int) (xs:=l3_m1) (cs:=[ai y11]) (x1:=y11) (by kernel_rfl) (by kernel_rfl) e10 (by kernel_rfl) (by kernel_rfl)) ?_;refine Aq (bn_ (tn_ ?_));refine wr_ ?_;obtain ⟨g12,h⟩:=Am h;refine Aa 24 ?_;refine rs0 (ai ((l3_m12+1:Nat):Int)) (za g12) ?_;refine rsB 1 ?_;refine Aq (tn_ ?_);obtain rfl:=zj h;exact ⟨(l3_m12+1,l3_m1.set l3_m12 y11),_,(A9 1 (.own (oi 0 0) .int 0 l3_m1.length) (.own (oi 0 0) .int 0 ((l3_m1.set l3_m12 y11).length)) (by kernel_rfl) (congrArg (fun z_=>((.own (oi 0 0) .int 0 z_):AV)) (((rfl:l3_m1.length=l3_m1.length).trans List.length_set.symm):l3_m1.length=(l3_m1.set l3_m12 y11).length))).trans (Ac []),⟨l3_m12+1,l3_m1.set l3_m12 y11,rfl,rfl⟩,hn3⟩
 have q6_:=of_decide_eq_false q6;refine Ag q6 ?_;refine Au (te_ (te_ (be_ ?_)));obtain rfl:=zj h;have h:=hn3
 (try dsimp only at h);obtain rfl:=zj h;exact Gk [] (Ac (tl:=[]) (g:=2) [])
def Og:AC :=
 (.seq (rg [xo 12 (qb .lss (tm 11) (tm 10))])
 (.seq (.cond (tm 12)
  .skip
  (.exit 0))
 (.seq (.block 1 (.seq (rg [xo 13 (qx 1 (tm 9) (tm 11)),xo 14 (ql (tm 13)),xo 5 (qm (tm 14))])
 (rg [xo 15 (qm (tm 3)),xo 16 (qm (tm 5)),xo 17 (qc 49 [tm 16] [[some .int]]),xo 18 (.mkV 23 (.slice .int) 1 [tm 17]),xo 19 (.appV 23 (.slice .int) 24 (tm 15) (tm 18)),xo 3 (qm (tm 19))])))
 (rg [xo 20 (qb .add (tm 11) (ci 1)),xo 11 (qm (tm 20))]))))
def S9:AC :=
 (.seq (rg [xo 2 (qm (.cst .nils))])
 (.seq (rg [xo 6 (qm (tm 0)),xo 7 (.i (.len (tm 6))),xo 8 (.makeV 23 (.slice .int) 24 [.nils] (ci 0) (tm 7)),xo 3 (qm (tm 8))])
 (.seq (.seq (rg [xo 9 (qm (tm 0)),xo 10 (.i (.len (tm 9))),xo 11 (qm (ci 0))])
 (.block 0 (.loop Og)))
 (.seq (rg [xo 21 (qm (tm 3)),xo 2 (qm (tm 21))])
 .ret))))
def Add:List Res:=[.tmp 2]
theorem Ac1:Aw Tryd.prog Tryd.f85=some (S9,Add):=by kernel_rfl
theorem Aam:A6 Tryd.prog 85=true:=by kernel_rfl
def Eh (a0:List (List Int)) (l7_m11:Nat) (l7_m3:List (List Int)):Option (Ctl (Nat×List (List Int)) (List (List Int))) :=
 cond (decide (((l7_m11:Nat):Int)<((a0.length:Nat):Int)))
 (Option.bind (a0[l7_m11]?) fun x13 =>
 Option.bind (Ie x13) fun y14 =>
 og (l7_m3.length+1<=1073741824∧(l7_m3.length+1)*24<=140737488355328) <|
 og (l7_m11+1<4611686018427387904) <|
 some (Ctl.next (l7_m11+1,l7_m3++[y14])))
 (some (Ctl.out l7_m3))
def I3 (a0:List (List Int)):Option (List (List Int)) :=
 og (0<=(0:Int)∧(0:Int)<=((a0.length:Nat):Int)∧((a0.length:Nat):Int)<=1073741824∧(24:Int)*((a0.length:Nat):Int)<=140737488355328) <|
Option.bind (Av (fun s_:Nat×List (List Int)=>Eh a0 s_.1 s_.2) 4611686018427387904 (0,List.replicate 0 ([]:List Int))) fun l5_m3 =>
some l5_m3
theorem Z5 {a0:List (List Int)} {r:List (List Int)} (h:I3 a0=some r):Fi Tryd.prog Tab 85 [.tree (.slice .int) a0] [] (.own (oi 0 1) (.slice .int) 0 r.length) [(oi 0 1,.mat 23 (oi 1 1) .int r),(oi 1 1,.pool 3 .int r)]:=by
 refine B8 (by kernel_rfl) Tryd.func85 Ac1 (n:=22) (by kernel_rfl) (by simp) (tl:=[(0,.tree (.slice .int) a0)]) rfl (by kernel_rfl) trivial ⟨⟨3,.tail _ (.head _)⟩,⟨trivial,trivial⟩⟩ ?_;unfold S9;unfold I3 at h;refine An ?_;refine Ab ?_;obtain ⟨g4,h⟩:=Am h;refine Aa 6 ?_;refine rz0 (.tree (.slice .int) a0) ?_;refine rz0 (ai ((a0.length:Nat):Int)) ?_;refine Afw (.own (oi 128 4) (.slice .int) 0 0) (oi 128 4) 23 3 .int (List.replicate 0 ([]:List Int)) trivial (Zz (j:=0) (k:=.i64) (k':=.i64) (m:=0) (c:=((a0.length:Nat):Int)) 3 (by kernel_rfl) (by kernel_rfl) g4 (by kernel_rfl) rfl) (by kernel_rfl) (by rw [List.length_replicate]) (by kernel_rfl) ?_;refine rsB 1 ?_;refine Aq (tn_ ?_);refine wr_ ?_;refine As h (fun (l5_m3:List (List Int)) S_=>S_=⟨Ap [(3,.own (oi 0 1) (.slice .int) 0 l5_m3.length)],Aj (Ar [(oi 0 1,.mat 23 (oi 1 1) .int l5_m3),(oi 1 1,.pool 3 .int l5_m3)]),2⟩) ?_ ?_
 ·intro v_ h;refine An ?_;refine Af ?_;refine Ax h (fun t_ S_=>∃ (l7_m11:Nat),∃ (l7_m3:List (List Int)),t_=(l7_m11,l7_m3)∧S_=⟨Ap [(3,.own (oi 0 1) (.slice .int) 0 l7_m3.length),(9,.tree (.slice .int) a0),(10,ai ((a0.length:Nat):Int)),(11,ai ((l7_m11:Nat):Int))],Aj (Ar [(oi 0 1,.mat 23 (oi 1 1) .int l7_m3),(oi 1 1,.pool 3 .int l7_m3)]),2⟩) ⟨_,(A9 3 (.own (oi 128 4) (.slice .int) 0 0) (.own (oi 128 4) (.slice .int) 0 ((List.replicate 0 ([]:List Int)).length)) (by kernel_rfl) (congrArg (fun z_=>((.own (oi 128 4) (.slice .int) 0 z_):AV)) (List.length_replicate.symm:0=(List.replicate 0 ([]:List Int)).length))).trans (Ac [(oi 0 1,oi 128 4),(oi 1 1,oi 128 4)]),⟨0,List.replicate 0 ([]:List Int),rfl,rfl⟩⟩ ?_;rintro n_ _ _ c_ ⟨l7_m11,l7_m3,rfl,rfl⟩ h hn7
  (try dsimp only at h);unfold Eh at h;unfold Og;refine An ?_;refine Ab ?_;rcases Ae h with ⟨q10,h⟩ | ⟨q10,h⟩
  ·have q10_:=of_decide_eq_true q10;refine Ah q10 ?_;refine Ai (tn_ ?_);refine wr_ ?_;refine Ab ?_;refine Af ?_;refine Ab ?_;obtain ⟨x13,e13,h⟩:=Ad h;refine Aa 6 ?_;refine rs0 (.telt (.slice .int) x13 0) (zi (t:=.slice .int) (xs:=a0) (k:=.i64) (m:=((l7_m11:Nat):Int)) (At _) e13) ?_;refine rsB 2 ?_;refine Aq (tn_ ?_);refine wr_ ?_;obtain ⟨y14,h14,h⟩:=Ad h;obtain ⟨g15,h⟩:=Am h;refine Aa 12 ?_;refine rz0 (.own (oi 0 1) (.slice .int) 0 l7_m3.length) ?_;refine rz0 (.tree .int x13) ?_;refine zc (.own (oi 272 8) .int 0 y14.length) [(oi 272 8,some (.arr 3 .int y14))] [.tree .int x13] (Tk h14) ?_;refine Afp (.own (oi 18 9) (.slice .int) 0 1) (oi 18 9) (.vec 23 1 1 ([.own (oi 272 8) .int 0 y14.length])) trivial (L7 (by kernel_rfl)) ?_;refine rs2 (.own (oi 0 10) (.slice .int) 0 (l7_m3.length+1)) (oi 0 1) (oi 0 10) (.vec 23 1 (l7_m3.length+1) (hdL (oi 1 1) .int l7_m3++[.own (oi 272 8) .int 0 y14.length])) (Jf (u:=.int) (t':=.slice .int) (t2:=.slice .int) (o:=oi 0 1) (q:=oi 18 9) (e2:=23) (p:=oi 1 1) (xss:=l7_m3) (cs:=[.own (oi 272 8) .int 0 y14.length]) (len:=l7_m3.length) (by kernel_rfl) (by kernel_rfl) rfl (by kernel_rfl) (by kernel_rfl) rfl g15) ?_;refine rsB 1 ?_;refine Aq (bn_ (tn_ ?_));refine ⟨_,Fb (e1:=23) (e:=3) (u:=.int) (n:=l7_m3.length+1) (len:=y14.length) (row:=y14) (ys:=y14) (xss:=l7_m3) 9000 (oi 0 10) (oi 1 1) (oi 272 8) (by kernel_rfl) (by kernel_rfl) rfl (by kernel_rfl) (by kernel_rfl) (Pf rfl) (Oo rfl) (by kernel_rfl) (by kernel_rfl) (by kernel_rfl),?_⟩;obtain ⟨g16,h⟩:=Am h;refine Aa 15 ?_;refine rs0 (ai ((l7_m11+1:Nat):Int)) (za g16) ?_;refine rsB 1 ?_;refine Aq (tn_ ?_);obtain rfl:=zj h;exact ⟨(l7_m11+1,l7_m3++[y14]),_,(A9 3 (.own (oi 0 10) (.slice .int) 0 (l7_m3.length+1)) (.own (oi 0 10) (.slice .int) 0 ((l7_m3++[y14]).length)) (by kernel_rfl) (congrArg (fun z_=>((.own (oi 0 10) (.slice .int) 0 z_):AV)) ((by simp):l7_m3.length+1=(l7_m3++[y14]).length))).trans (Ac [(oi 0 1,oi 0 10),(oi 1 1,oi 9000 12)]),⟨l7_m11+1,l7_m3++[y14],rfl,rfl⟩,hn7⟩
  have q10_:=of_decide_eq_false q10;refine Ag q10 ?_;refine Au (te_ (te_ (be_ (tn_ ?_))));obtain rfl:=zj h;have h:=hn7
  (try dsimp only at h);obtain rfl:=zj h;exact ⟨_,Ac [],rfl⟩
 rintro l5_m3 _ rfl h
 (try dsimp only at h);refine An ?_;refine Ao ?_;obtain rfl:=zj h;exact Gk [.own (oi 0 1) (.slice .int) 0 l5_m3.length] (Ac (tl:=[(2,.own (oi 0 1) (.slice .int) 0 l5_m3.length)]) (g:=2) [])
def G7:AC :=
 (.seq (rg [xo 44 (qb .lss (tm 43) (tm 42))])
   (.seq (.cond (tm 44)
    .skip
    (.exit 1))
   (.seq (.block 2 (.seq (rg [xo 45 (qm (tm 43)),xo 46 (qx 1 (tm 41) (tm 43)),xo 47 (ql (tm 46)),xo 7 (qm (tm 45)),xo 8 (qm (tm 47))])
   (.region [xo 48 (qm (tm 2)),xo 49 (qf 1 (tm 3)),xo 50 (ql (tm 49)),xo 51 (qx 1 (tm 48) (tm 50)),xo 52 (ql (tm 51)),xo 53 (qm (tm 7)),xo 54 (qm (tm 8)),xo 55 (qm (tm 6)),xo 56 (qb .mul (tm 54) (tm 55)),xo 57 (qm (tm 1)),xo 58 (qb .rem (tm 56) (tm 57)),xo 59 (qx 1 (tm 52) (tm 53)),xn (qs (tm 59) (tm 58))] true [])))
   (rg [xo 60 (qb .add (tm 43) (ci 1)),xo 43 (qm (tm 60))]))))
def Ip:AC :=
 (.seq (rg [xo 3 (.i (.box 104 (tm 0)))])
 (.seq (rg [xo 9 (qf 0 (tm 3)),xo 10 (ql (tm 9))])
 (.block 0 (.seq (rg [xo 12 (qb .eql (tm 10) (ci 0)),xo 11 (qm (tm 12))])
 (.cond (tm 11)
  (.region [xo 13 (qm (tm 2)),xo 14 (qf 1 (tm 3)),xo 15 (ql (tm 14)),xo 16 (qm (tm 2)),xo 17 (qf 2 (tm 3)),xo 18 (ql (tm 17)),xo 19 (qm (tm 2)),xo 20 (qf 2 (tm 3)),xo 21 (ql (tm 20)),xo 22 (qx 1 (tm 19) (tm 21)),xo 23 (ql (tm 22)),xo 24 (qm (tm 2)),xo 25 (qf 1 (tm 3)),xo 26 (ql (tm 25)),xo 27 (qx 1 (tm 24) (tm 26)),xo 28 (ql (tm 27)),xo 29 (qx 1 (tm 13) (tm 15)),xn (qs (tm 29) (tm 23)),xo 30 (qx 1 (tm 16) (tm 18)),xn (qs (tm 30) (tm 28))] true [(5,17)])
  (.seq (rg [xo 32 (qb .eql (tm 10) (ci 1)),xo 31 (qm (tm 32))])
  (.cond (tm 31)
   (.seq (rg [xo 33 (qm (tm 1)),xo 34 (qf 3 (tm 3)),xo 35 (ql (tm 34)),xo 36 (qc 94 [tm 33,tm 35] [[],[]]),xo 6 (qm (tm 36))])
   (.seq (rg [xo 37 (qm (tm 2)),xo 38 (qf 1 (tm 3)),xo 39 (ql (tm 38)),xo 40 (qx 1 (tm 37) (tm 39)),xo 41 (ql (tm 40)),xo 42 (.i (.len (tm 41))),xo 43 (qm (ci 0))])
   (.block 1 (.loop G7))))
   (.seq (rg [xo 62 (qb .eql (tm 10) (ci 2)),xo 61 (qm (tm 62))])
   (.cond (tm 61)
    (.region [xo 63 (qm (tm 1)),xo 64 (qm (tm 2)),xo 65 (qf 1 (tm 3)),xo 66 (ql (tm 65)),xo 67 (qx 1 (tm 64) (tm 66)),xo 68 (ql (tm 67)),xo 69 (qf 3 (tm 3)),xo 70 (ql (tm 69)),xo 71 (.i (.neg (tm 70))),xo 72 (qm (tm 2)),xo 73 (qf 2 (tm 3)),xo 74 (ql (tm 73)),xo 75 (qx 1 (tm 72) (tm 74)),xo 76 (ql (tm 75)),xo 77 (qc 95 [tm 63,tm 68,tm 71,tm 76] [[],[some .int],[],[some .int]])] true [])
    .skip)))))))))
def Ni:List Res:=[]
theorem Ng:Aw Tryd.prog Tryd.f93=some (Ip,Ni):=by kernel_rfl
theorem Id:A6 Tryd.prog 93=true:=by kernel_rfl
def Ct (x13:List Int) (a0_1:Int) (a1:Int) (y11:Int) (l14_m43:Nat) (l14_m2:List (List Int)):Option (Ctl (Nat×List (List Int)) (List (List Int))) :=
 cond (decide (((l14_m43:Nat):Int)<((x13.length:Nat):Int)))
 (Option.bind (Ex l14_m2 a0_1) fun x20 =>
 og (0<=((l14_m43:Nat):Int)∧l14_m43<x13.length) <|
 Option.bind (x20[l14_m43]?) fun x22 =>
 og (a1≠0) <|
 og (l14_m43+1<4611686018427387904) <|
 some (Ctl.next (l14_m43+1,l14_m2.set a0_1.toNat (x20.set l14_m43 (Int.tmod (wI (x22*y11)) a1)))))
 (some (Ctl.out l14_m2))
def Bk (a0_0:Int) (a0_1:Int) (a0_2:Int) (a0_3:Int) (a1:Int) (a2:List (List Int)):Option (List (List Int)) :=
 cond (a0_0==0)
 (Option.bind (Ex a2 a0_2) fun x6 =>
 Option.bind (Ex a2 a0_1) fun x7 =>
 some ((a2.set a0_1.toNat x6).set a0_2.toNat x7))
 (cond (a0_0==1)
  (Option.bind (Hz a1 a0_3) fun y11 =>
  Option.bind (Ex a2 a0_1) fun x13 =>
  Av (fun s_:Nat×List (List Int)=>Ct x13 a0_1 a1 y11 s_.1 s_.2) 4611686018427387904 (0,a2))
  (cond (a0_0==2)
   (Option.bind (Ex a2 a0_1) fun x27 =>
   Option.bind (Ex a2 a0_2) fun x28 =>
   og (a0_1.toNat≠a0_2.toNat) <|
   Option.bind (Gz a1 x27 (wI (0 - a0_3)) x28) fun y30 =>
   og (y30.length=x27.length) <|
   some (a2.set a0_1.toNat y30))
   (some a2)))
theorem Hv {a0_0:Int} {a0_1:Int} {a0_2:Int} {a0_3:Int} {a1:Int} {a2:List (List Int)} {r:List (List Int)} (h:Bk a0_0 a0_1 a0_2 a0_3 a1 a2=some r) {n_a2:Nat} (hn_a2:n_a2=a2.length):Fi Tryd.prog Tab 93 [.agg [ai a0_0,ai a0_1,ai a0_2,ai a0_3],ai a1,.own (oi 0 0) (.slice .int) 0 n_a2] [(oi 0 0,.mat 23 (oi 1 0) .int a2),(oi 1 0,.pool 3 .int a2)] (.tup []) [(oi 0 0,.mat 23 (oi 0 1) .int r),(oi 0 1,.pool 3 .int r)]:=by
 refine B8 (by kernel_rfl) Tryd.func93 Ng (n:=78) (by kernel_rfl) (by simp) (tl:=[(0,.agg [ai a0_0,ai a0_1,ai a0_2,ai a0_3]),(1,ai a1),(2,.own (oi 0 0) (.slice .int) 0 n_a2)]) rfl (by kernel_rfl) ⟨⟨3,.tail _ (.head _)⟩,⟨trivial,trivial⟩⟩ ⟨⟨3,.tail _ (.head _)⟩,⟨trivial,trivial⟩⟩ ?_;unfold Ip;unfold Bk at h;refine An ?_;refine An ?_;refine Af ?_;refine An ?_;rcases Ae h with ⟨q5,h⟩ | ⟨q5,h⟩
 ·refine Ah q5 ?_;obtain ⟨x6,f6,h⟩:=Ad h;obtain ⟨p6,b6,e6⟩:=Bi f6;obtain ⟨x7,f7,h⟩:=Ad h;obtain ⟨p7,b7,e7⟩:=Bi f7;refine Az 26 ?_;refine dz0 (.own (oi 0 0) (.slice .int) 0 n_a2) ?_;refine dz0 (.box (oi 3 1) 1) ?_;refine dzl (ai a0_1) ?_;refine dz0 (.own (oi 0 0) (.slice .int) 0 n_a2) ?_;refine dz0 (.box (oi 3 1) 2) ?_;refine dzl (ai a0_2) ?_;refine dz0 (.own (oi 0 0) (.slice .int) 0 n_a2) ?_;refine dz0 (.box (oi 3 1) 2) ?_;refine dzl (ai a0_2) ?_;refine ds0 (.elt (oi 0 0) a0_2.toNat 0) (zo (t:=.slice .int) (o:=oi 0 0) (len:=n_a2) (k:=.i64) (m:=a0_2) p6 (Nat.lt_of_lt_of_le (Al e6) (Nat.le_of_eq (Eq.symm hn_a2)))) ?_;refine dsl (.own (kid (oi 1 0) a0_2.toNat) .int 0 x6.length) (Bs (o:=oi 0 0) (p:=oi 1 0) (e1:=23) (u:=.int) (xss:=a2) (row:=x6) (j:=a0_2.toNat) (by kernel_rfl) (by kernel_rfl) e6) ?_;refine dz0 (.own (oi 0 0) (.slice .int) 0 n_a2) ?_;refine dz0 (.box (oi 3 1) 1) ?_;refine dzl (ai a0_1) ?_;refine ds0 (.elt (oi 0 0) a0_1.toNat 0) (zo (t:=.slice .int) (o:=oi 0 0) (len:=n_a2) (k:=.i64) (m:=a0_1) p7 (Nat.lt_of_lt_of_le (Al e7) (Nat.le_of_eq (Eq.symm hn_a2)))) ?_;refine dsl (.own (kid (oi 1 0) a0_1.toNat) .int 0 x7.length) (Bs (o:=oi 0 0) (p:=oi 1 0) (e1:=23) (u:=.int) (xss:=a2) (row:=x7) (j:=a0_1.toNat) (by kernel_rfl) (by kernel_rfl) e7) ?_;refine ds0 (.elt (oi 0 0) a0_1.toNat 0) (zo (t:=.slice .int) (o:=oi 0 0) (len:=n_a2) (k:=.i64) (m:=a0_1) p7 (Nat.lt_of_lt_of_le (Al e7) (Nat.le_of_eq (Eq.symm hn_a2)))) ?_;refine Mx (oi 0 0) (oi 0 0) (.vec 23 1 n_a2 ((hdL (oi 1 0) .int a2).set a0_1.toNat (.own (kid (oi 1 0) a0_2.toNat) .int 0 x6.length))) (Tr (o:=oi 0 0) (e1:=23) (m:=n_a2) (cs:=hdL (oi 1 0) .int a2) (v:=.own (kid (oi 1 0) a0_2.toNat) .int 0 x6.length) (j:=a0_1.toNat) (by kernel_rfl) (Atx (by kernel_rfl) hn_a2) (by kernel_rfl) rfl (by rw [D2]; exact Al e7)) ?_;refine ds0 (.elt (oi 0 0) a0_2.toNat 0) (zo (t:=.slice .int) (o:=oi 0 0) (len:=n_a2) (k:=.i64) (m:=a0_2) p6 (Nat.lt_of_lt_of_le (Al e6) (Nat.le_of_eq (Eq.symm hn_a2)))) ?_;refine Mx (oi 0 0) (oi 0 0) (.vec 23 1 n_a2 (((hdL (oi 1 0) .int a2).set a0_1.toNat (.own (kid (oi 1 0) a0_2.toNat) .int 0 x6.length)).set a0_2.toNat (.own (kid (oi 1 0) a0_1.toNat) .int 0 x7.length))) (Tr (o:=oi 0 0) (e1:=23) (m:=n_a2) (cs:=(hdL (oi 1 0) .int a2).set a0_1.toNat (.own (kid (oi 1 0) a0_2.toNat) .int 0 x6.length)) (v:=.own (kid (oi 1 0) a0_1.toNat) .int 0 x7.length) (j:=a0_2.toNat) (by kernel_rfl) (by kernel_rfl) (by kernel_rfl) rfl (by rw [List.length_set,D2]; exact Al e6)) ?_;refine Ft (Bd (by kernel_rfl)) (bn_ ?_);obtain rfl:=zj h;exact Gk [] ((Pz (e1:=23) (e:=3) (u:=.int) (xss:=a2) (i:=a0_1.toNat) (j:=a0_2.toNat) (n:=n_a2) (li:=x7.length) (lj:=x6.length) (ri:=x7) (rj:=x6) 9000 (oi 0 0) (oi 1 0) (by kernel_rfl) (by kernel_rfl) hn_a2 (by kernel_rfl) e7 e6 rfl rfl (by kernel_rfl) (by kernel_rfl)).trans (Ac (tl:=[]) (g:=2) [(oi 0 1,oi 9000 26)]))
 refine Ag q5 ?_;refine An ?_;rcases Ae h with ⟨q9,h⟩ | ⟨q9,h⟩
 ·refine Ah q9 ?_;refine Ab ?_;obtain ⟨y11,h11,h⟩:=Ad h;refine Aa 13 ?_;refine rz0 (ai a1) ?_;refine rz0 (.box (oi 3 1) 3) ?_;refine rzl (ai a0_3) ?_;refine zc (ai y11) [] [ai a1,ai a0_3] (Y9 h11) ?_;refine rsB 1 ?_;refine Aq (tn_ ?_);refine wr_ ?_;refine Ab ?_;obtain ⟨x13,f13,h⟩:=Ad h;obtain ⟨p13,b13,e13⟩:=Bi f13;refine Aa 20 ?_;refine rz0 (.own (oi 0 0) (.slice .int) 0 n_a2) ?_;refine rz0 (.box (oi 3 1) 1) ?_;refine rzl (ai a0_1) ?_;refine rs0 (.elt (oi 0 0) a0_1.toNat 0) (zo (t:=.slice .int) (o:=oi 0 0) (len:=n_a2) (k:=.i64) (m:=a0_1) p13 (Nat.lt_of_lt_of_le (Al e13) (Nat.le_of_eq (Eq.symm hn_a2)))) ?_;refine rsl (.own (kid (oi 1 0) a0_1.toNat) .int 0 x13.length) (Bs (o:=oi 0 0) (p:=oi 1 0) (e1:=23) (u:=.int) (xss:=a2) (row:=x13) (j:=a0_1.toNat) (by kernel_rfl) (by kernel_rfl) e13) ?_;refine rsB 2 ?_;refine Aq (tn_ ?_);refine wr_ ?_;refine Af ?_;refine Ax h (fun t_ S_=>∃ (l14_m43:Nat),∃ (l14_m2:List (List Int)),t_=(l14_m43,l14_m2)∧S_=⟨Ap [(1,ai a1),(2,.own (oi 0 0) (.slice .int) 0 l14_m2.length),(3,.box (oi 1 1) 0),(6,ai y11),(41,.own (kid (oi 0 1) a0_1.toNat) .int 0 x13.length),(42,ai ((x13.length:Nat):Int)),(43,ai ((l14_m43:Nat):Int))],Aj (Ar [(oi 0 0,.mat 23 (oi 0 1) .int l14_m2),(oi 0 1,.pool 3 .int l14_m2),(oi 1 1,.cells 104 [ai a0_0,ai a0_1,ai a0_2,ai a0_3])]),2⟩) ⟨_,(A9 2 (.own (oi 0 0) (.slice .int) 0 n_a2) (.own (oi 0 0) (.slice .int) 0 a2.length) (by kernel_rfl) (congrArg (fun z_=>((.own (oi 0 0) (.slice .int) 0 z_):AV)) (hn_a2:n_a2=a2.length))).trans (Ac [(oi 0 1,oi 1 0),(oi 1 1,oi 3 1)]),⟨0,a2,rfl,rfl⟩⟩ ?_;rintro n_ _ _ c_ ⟨l14_m43,l14_m2,rfl,rfl⟩ h hn14
  (try dsimp only at h);unfold Ct at h;unfold G7;refine An ?_;refine Ab ?_;rcases Ae h with ⟨q17,h⟩ | ⟨q17,h⟩
  ·have q17_:=of_decide_eq_true q17;refine Ah q17 ?_;refine Ai (tn_ ?_);refine wr_ ?_;refine Ab ?_;refine Af ?_;refine Ab ?_;obtain ⟨x20,f20,h⟩:=Ad h;obtain ⟨p20,b20,e20⟩:=Bi f20;obtain ⟨g21,h⟩:=Am h;obtain ⟨x22,e22,h⟩:=Ad h;refine Aa 8 ?_;refine rz0 (ai ((l14_m43:Nat):Int)) ?_;refine rs0 (.elt (kid (oi 0 1) a0_1.toNat) l14_m43 0) (Atc (t:=.int) (o:=kid (oi 0 1) a0_1.toNat) (off:=0) (len:=x13.length) (k:=.i64) (m:=((l14_m43:Nat):Int)) (by kernel_rfl) (by kernel_rfl) rfl g21.1 (Nat.zero_add _) g21.2) ?_;refine rsl (ai x22) (Ed (i:=kid (oi 0 1) a0_1.toNat) (j:=l14_m43) (k:=0) (e:=3) (t:=.int) (xs:=x20) (by kernel_rfl) (A0 (by kernel_rfl) e20) e22 (by kernel_rfl)) ?_;refine rsB 2 ?_;refine Aq (tn_ ?_);refine wr_ ?_;obtain ⟨g23,h⟩:=Am h;refine Az 21 ?_;refine dz0 (.own (oi 0 0) (.slice .int) 0 l14_m2.length) ?_;refine dz0 (.box (oi 1 1) 1) ?_;refine dzl (ai a0_1) ?_;refine ds0 (.elt (oi 0 0) a0_1.toNat 0) (zo (t:=.slice .int) (o:=oi 0 0) (len:=l14_m2.length) (k:=.i64) (m:=a0_1) p20 (Al e20)) ?_;refine dsl (.own (kid (oi 0 1) a0_1.toNat) .int 0 x20.length) (Bs (o:=oi 0 0) (p:=oi 0 1) (e1:=23) (u:=.int) (xss:=l14_m2) (row:=x20) (j:=a0_1.toNat) (by kernel_rfl) (by kernel_rfl) e20) ?_;refine dz0 (ai ((l14_m43:Nat):Int)) ?_;refine dz0 (ai x22) ?_;refine dz0 (ai y11) ?_;refine dz0 (ai (wI (x22*y11))) ?_;refine dz0 (ai a1) ?_;refine ds0 (ai (Int.tmod (wI (x22*y11)) a1)) (On (k:=.i64) (a:=wI (x22*y11)) (b:=a1) (by kernel_rfl) (by kernel_rfl) g23) ?_;refine ds0 (.elt (kid (oi 0 1) a0_1.toNat) l14_m43 0) (zo (t:=.int) (o:=kid (oi 0 1) a0_1.toNat) (len:=x20.length) (k:=.i64) (m:=((l14_m43:Nat):Int)) (At _) (Al e22)) ?_;refine Mx (kid (oi 0 1) a0_1.toNat) (kid (oi 0 1) a0_1.toNat) (.arr 3 .int (x20.set l14_m43 (Int.tmod (wI (x22*y11)) a1))) (Ep (i:=kid (oi 0 1) a0_1.toNat) (j:=l14_m43) (k:=0) (e:=3) (t:=.int) (xs:=x20) (cs:=[ai (Int.tmod (wI (x22*y11)) a1)]) (x1:=Int.tmod (wI (x22*y11)) a1) (by kernel_rfl) (Hs.trans (A0 (by kernel_rfl) e20)) e22 (by kernel_rfl) (by kernel_rfl)) ?_;refine Ld (Hh (o:=oi 0 0) (p:=oi 0 1) (e1:=23) (e:=3) (u:=.int) (xss:=l14_m2) (k:=a0_1.toNat) (row:=x20) (row':=x20.set l14_m43 (Int.tmod (wI (x22*y11)) a1)) (by kernel_rfl) rfl (by kernel_rfl) e20 List.length_set) ?_;refine Ft (Bd (by kernel_rfl)) (bn_ (tn_ ?_));refine wr_ ?_;obtain ⟨g24,h⟩:=Am h;refine Aa 23 ?_;refine rs0 (ai ((l14_m43+1:Nat):Int)) (za g24) ?_;refine rsB 1 ?_;refine Aq (tn_ ?_);obtain rfl:=zj h;exact ⟨(l14_m43+1,l14_m2.set a0_1.toNat (x20.set l14_m43 (Int.tmod (wI (x22*y11)) a1))),_,(A9 2 (.own (oi 0 0) (.slice .int) 0 l14_m2.length) (.own (oi 0 0) (.slice .int) 0 ((l14_m2.set a0_1.toNat (x20.set l14_m43 (Int.tmod (wI (x22*y11)) a1))).length)) (by kernel_rfl) (congrArg (fun z_=>((.own (oi 0 0) (.slice .int) 0 z_):AV)) ((Eq.trans (b:=l14_m2.length) rfl List.length_set.symm):l14_m2.length=(l14_m2.set a0_1.toNat (x20.set l14_m43 (Int.tmod (wI (x22*y11)) a1))).length))).trans (Ac []),⟨l14_m43+1,l14_m2.set a0_1.toNat (x20.set l14_m43 (Int.tmod (wI (x22*y11)) a1)),rfl,rfl⟩,hn14⟩
  have q17_:=of_decide_eq_false q17;refine Ag q17 ?_;refine Au (te_ (te_ (be_ (bn_ ?_))));obtain rfl:=zj h;have h:=hn14
  (try dsimp only at h);obtain rfl:=zj h;exact Gk [] (Ac (tl:=[]) (g:=2) [])
 refine Ag q9 ?_;refine An ?_;rcases Ae h with ⟨q26,h⟩ | ⟨q26,h⟩
 ·refine Ah q26 ?_;obtain ⟨x27,f27,h⟩:=Ad h;obtain ⟨p27,b27,e27⟩:=Bi f27;obtain ⟨x28,f28,h⟩:=Ad h;obtain ⟨p28,b28,e28⟩:=Bi f28;obtain ⟨g29,h⟩:=Am h;obtain ⟨y30,h30,h⟩:=Ad h;obtain ⟨g31,h⟩:=Am h;refine Az 25 ?_;refine dz0 (ai a1) ?_;refine dz0 (.own (oi 0 0) (.slice .int) 0 n_a2) ?_;refine dz0 (.box (oi 3 1) 1) ?_;refine dzl (ai a0_1) ?_;refine ds0 (.elt (oi 0 0) a0_1.toNat 0) (zo (t:=.slice .int) (o:=oi 0 0) (len:=n_a2) (k:=.i64) (m:=a0_1) p27 (Nat.lt_of_lt_of_le (Al e27) (Nat.le_of_eq (Eq.symm hn_a2)))) ?_;refine dsl (.own (kid (oi 1 0) a0_1.toNat) .int 0 x27.length) (Bs (o:=oi 0 0) (p:=oi 1 0) (e1:=23) (u:=.int) (xss:=a2) (row:=x27) (j:=a0_1.toNat) (by kernel_rfl) (by kernel_rfl) e27) ?_;refine dz0 (.box (oi 3 1) 3) ?_;refine dzl (ai a0_3) ?_;refine dz0 (ai (wI (0 - a0_3))) ?_;refine dz0 (.own (oi 0 0) (.slice .int) 0 n_a2) ?_;refine dz0 (.box (oi 3 1) 2) ?_;refine dzl (ai a0_2) ?_;refine ds0 (.elt (oi 0 0) a0_2.toNat 0) (zo (t:=.slice .int) (o:=oi 0 0) (len:=n_a2) (k:=.i64) (m:=a0_2) p28 (Nat.lt_of_lt_of_le (Al e28) (Nat.le_of_eq (Eq.symm hn_a2)))) ?_;refine dsl (.own (kid (oi 1 0) a0_2.toNat) .int 0 x28.length) (Bs (o:=oi 0 0) (p:=oi 1 0) (e1:=23) (u:=.int) (xss:=a2) (row:=x28) (j:=a0_2.toNat) (by kernel_rfl) (by kernel_rfl) e28) ?_;refine Rp (.tup []) [(kid (oi 1 0) a0_1.toNat,some (.arr 3 .int y30)),(kid (oi 1 0) a0_1.toNat,none)] [(oi 0 0,kid (oi 1 0) a0_1.toNat)] [ai a1,.own (kid (oi 1 0) a0_1.toNat) .int 0 x27.length,ai (wI (0 - a0_3)),.own (kid (oi 1 0) a0_2.toNat) .int 0 x28.length] (caps:=[]) trivial (Xq h30 rfl) Wn ⟨Pi (by kernel_rfl) e27,trivial⟩ (.cons (.ren (by kernel_rfl)) (.cons (.ren (by kernel_rfl)) (.cons (.ren (by kernel_rfl)) (.cons (.gnd (by kernel_rfl) (Bn (e:=3) (u:=.int) (xs:=x28) ((R8 (L:=[kid (oi 1 0) a0_1.toNat]) (by kernel_rfl) ⟨Akq g29,trivial⟩).trans ((Hk (H5 (t:=.int) (off:=0) (len:=x28.length) 3 rfl (by kernel_rfl))).trans (A0 (by kernel_rfl) e28))) rfl)) .nil)))) (A7 (by kernel_rfl) (by kernel_rfl) ⟨.arg (by simp [AV.nmsL,AV.nms,Bt]),trivial⟩) (Xr (H5 (t:=.int) (off:=0) (len:=x27.length) 1 rfl (by kernel_rfl)) Xs) ?_;refine Ld (Hh (o:=oi 0 0) (p:=oi 1 0) (e1:=23) (e:=3) (u:=.int) (xss:=a2) (k:=a0_1.toNat) (row:=x27) (row':=y30) (by kernel_rfl) rfl (by kernel_rfl) e27 g31) ?_;refine Ft (Bd (by kernel_rfl)) (bn_ ?_);obtain rfl:=zj h;exact Gk [] (Ac (tl:=[]) (g:=2) [(oi 0 1,oi 1 0)])
 refine Ag q26 ?_;refine Ai (bn_ ?_);obtain rfl:=zj h;exact Gk [] (Ac (tl:=[]) (g:=2) [(oi 0 1,oi 1 0)])
def Mt:AC :=
 (.seq (rg [xo 4 (.i (.box 104 (tm 0)))])
 (.seq (.seq (rg [xo 5 (.i (.ld false 4 (tm 4))),xo 6 (qf 1 (tm 4)),xo 7 (ql (tm 6)),xo 8 (qf 1 (tm 4)),xo 9 (ql (tm 8)),xo 10 (.build [.int .i64 0,.int .i64 0,.int .i64 0,.int .i64 0] [(0,1,ci 0),(1,1,tm 7),(2,1,tm 9)]),xo 11 (.i (.cmp false 7 (tm 5) (tm 10)))])
 (.cond (tm 11)
  .ret
  .skip))
 (.seq (rg [xo 12 (.i (.ld false 4 (tm 4))),xo 13 (ql (tm 1)),xo 14 (ql (tm 2)),xo 15 (qc 93 [tm 12,tm 13,tm 14] [[none,none,none,none],[],[some (.slice .int)]])])
 (rg [xo 16 (.i (.ld false 4 (tm 4))),xo 17 (ql (tm 1)),xo 18 (ql (tm 3)),xo 19 (qc 93 [tm 16,tm 17,tm 18] [[none,none,none,none],[],[some (.slice .int)]])]))))
def T2:List Res:=[]
theorem Uf:Aw Tryd.prog Tryd.f92=some (Mt,T2):=by kernel_rfl
theorem Iq:A6 Tryd.prog 92=true:=by kernel_rfl
def Bu (a0_0:Int) (a0_1:Int) (a0_2:Int) (a0_3:Int) (c0_0:Int) (c1_0:List (List Int)) (c2_0:List (List Int)):Option (List (List Int)×List (List Int)) :=
 cond ([a0_0,a0_1,a0_2,a0_3]==[0,a0_1,a0_1,0])
 (some (c1_0,c2_0))
 (Option.bind (Bk a0_0 a0_1 a0_2 a0_3 c0_0 c1_0) fun y7 =>
 og (y7.length=c1_0.length) <|
 Option.bind (Bk a0_0 a0_1 a0_2 a0_3 c0_0 c2_0) fun y9 =>
 og (y9.length=c2_0.length) <|
 some (y7,y9))
theorem Ir {a0_0:Int} {a0_1:Int} {a0_2:Int} {a0_3:Int} {c0_0:Int} {c1_0:List (List Int)} {c2_0:List (List Int)} {r:List (List Int)×List (List Int)} (h:Bu a0_0 a0_1 a0_2 a0_3 c0_0 c1_0 c2_0=some r):Fi Tryd.prog Tab 92 [.agg [ai a0_0,ai a0_1,ai a0_2,ai a0_3],.box (oi 0 0) 0,.box (oi 1 0) 0,.box (oi 4 0) 0] [(oi 0 0,.cells 3 [ai c0_0]),(oi 1 0,.cells 27 [.own (oi 2 0) (.slice .int) 0 c1_0.length]),(oi 2 0,.mat 23 (oi 3 0) .int c1_0),(oi 3 0,.pool 3 .int c1_0),(oi 4 0,.cells 27 [.own (oi 5 0) (.slice .int) 0 c2_0.length]),(oi 5 0,.mat 23 (oi 6 0) .int c2_0),(oi 6 0,.pool 3 .int c2_0)] (.tup []) [(oi 0 0,.cells 3 [ai c0_0]),(oi 1 0,.cells 27 [.own (oi 2 0) (.slice .int) 0 r.1.length]),(oi 2 0,.mat 23 (oi 0 1) .int r.1),(oi 0 1,.pool 3 .int r.1),(oi 4 0,.cells 27 [.own (oi 5 0) (.slice .int) 0 r.2.length]),(oi 5 0,.mat 23 (oi 1 1) .int r.2),(oi 1 1,.pool 3 .int r.2)]:=by
 refine B8 (by kernel_rfl) Tryd.func92 Uf (n:=20) (by kernel_rfl) (by simp) (tl:=[(0,.agg [ai a0_0,ai a0_1,ai a0_2,ai a0_3]),(1,.box (oi 0 0) 0),(2,.box (oi 1 0) 0),(3,.box (oi 4 0) 0)]) rfl (by kernel_rfl) ⟨trivial,⟨trivial,⟨⟨3,.tail _ (.tail _ (.tail _ (.head _)))⟩,⟨trivial,⟨trivial,⟨⟨3,.tail _ (.tail _ (.tail _ (.tail _ (.tail _ (.tail _ (.head _))))))⟩,⟨trivial,trivial⟩⟩⟩⟩⟩⟩⟩ ⟨trivial,⟨trivial,⟨⟨3,.tail _ (.tail _ (.tail _ (.head _)))⟩,⟨trivial,⟨trivial,⟨⟨3,.tail _ (.tail _ (.tail _ (.tail _ (.tail _ (.tail _ (.head _))))))⟩,⟨trivial,trivial⟩⟩⟩⟩⟩⟩⟩ ?_;unfold Mt;unfold Bu at h;refine An ?_;refine Ab ?_;refine An ?_;rcases Ae h with ⟨q5,h⟩ | ⟨q5,h⟩
 ·refine Ah q5 ?_;refine Ao (tr_ ?_);obtain rfl:=zj h;exact Gk [] (Ac (tl:=[]) (g:=2) [(oi 0 1,oi 3 0),(oi 1 1,oi 6 0)])
 refine Ag q5 ?_;refine Ai (tn_ ?_);refine wr_ ?_;refine Ab ?_;obtain ⟨y7,h7,h⟩:=Ad h;obtain ⟨g8,h⟩:=Am h;refine Aa 13 ?_;refine rzl (.agg [ai a0_0,ai a0_1,ai a0_2,ai a0_3]) ?_;refine rzl (ai c0_0) ?_;refine rzl (.own (oi 2 0) (.slice .int) 0 c1_0.length) ?_;refine C3 (.tup []) [(oi 2 0,some (.mat 23 (oi 240 12) .int y7)),(oi 240 12,some (.pool 3 .int y7)),(oi 2 0,none),(oi 3 0,some (.pool 3 .int []))] [(oi 0 0,oi 2 0),(oi 1 0,oi 3 0)] [.agg [ai a0_0,ai a0_1,ai a0_2,ai a0_3],ai c0_0,.own (oi 2 0) (.slice .int) 0 c1_0.length] (caps:=[]) trivial (Hv h7 rfl) Id ⟨by kernel_rfl,⟨by kernel_rfl,trivial⟩⟩ (.cons (.ren (by kernel_rfl)) (.cons (.ren (by kernel_rfl)) (.cons (.ren (by kernel_rfl)) .nil))) (A7 (by kernel_rfl) (by kernel_rfl) ⟨B2 (by kernel_rfl),⟨Ks (o:=oi 2 0) (p:=oi 3 0) (e1:=23) (m:=c1_0.length) (u:=.int) (xss:=c1_0) (B2 (by kernel_rfl)) (by kernel_rfl),trivial⟩⟩) ?_;refine Aq (tn_ ?_);refine wr_ ?_;obtain ⟨y9,h9,h⟩:=Ad h;obtain ⟨g10,h⟩:=Am h;refine Aa 17 ?_;refine rzl (.agg [ai a0_0,ai a0_1,ai a0_2,ai a0_3]) ?_;refine rzl (ai c0_0) ?_;refine rzl (.own (oi 5 0) (.slice .int) 0 c2_0.length) ?_;refine C3 (.tup []) [(oi 5 0,some (.mat 23 (oi 304 16) .int y9)),(oi 304 16,some (.pool 3 .int y9)),(oi 5 0,none),(oi 6 0,some (.pool 3 .int []))] [(oi 0 0,oi 5 0),(oi 1 0,oi 6 0)] [.agg [ai a0_0,ai a0_1,ai a0_2,ai a0_3],ai c0_0,.own (oi 5 0) (.slice .int) 0 c2_0.length] (caps:=[]) trivial (Hv h9 rfl) Id ⟨by kernel_rfl,⟨by kernel_rfl,trivial⟩⟩ (.cons (.ren (by kernel_rfl)) (.cons (.ren (by kernel_rfl)) (.cons (.ren (by kernel_rfl)) .nil))) (A7 (by kernel_rfl) (by kernel_rfl) ⟨B2 (by kernel_rfl),⟨Ks (o:=oi 5 0) (p:=oi 6 0) (e1:=23) (m:=c2_0.length) (u:=.int) (xss:=c2_0) (B2 (by kernel_rfl)) (by kernel_rfl),trivial⟩⟩) ?_;refine Aq ?_;obtain rfl:=zj h;exact Gk [] ((Dy (oi 1 0) (.cells 27 [.own (oi 2 0) (.slice .int) 0 c1_0.length]) (.cells 27 [.own (oi 2 0) (.slice .int) 0 y7.length]) (by kernel_rfl) (congrArg (fun z_=>(.cells 27 [.own (oi 2 0) (.slice .int) 0 z_]:Ob)) (g8.symm:c1_0.length=y7.length))).trans ((Dy (oi 4 0) (.cells 27 [.own (oi 5 0) (.slice .int) 0 c2_0.length]) (.cells 27 [.own (oi 5 0) (.slice .int) 0 y9.length]) (by kernel_rfl) (congrArg (fun z_=>(.cells 27 [.own (oi 5 0) (.slice .int) 0 z_]:Ob)) (g10.symm:c2_0.length=y9.length))).trans (Ac (tl:=[]) (g:=2) [(oi 0 1,oi 240 12),(oi 1 1,oi 304 16)])))
def Le:AC :=
 (.seq (rg [xo 66 (qb .lss (tm 65) (tm 64))])
 (.seq (.cond (tm 66)
  .skip
  (.exit 4))
 (.seq (.block 5 (.seq (rg [xo 67 (qm (tm 65)),xo 13 (qm (tm 67))])
 (.seq (rg [xo 68 (qm (tm 13)),xo 69 (qm (tm 9)),xo 70 (qb .neq (tm 68) (tm 69)),xo 71 (qm (tm 70)),⟨some 72,some (71,true),ql (tm 5)⟩,⟨some 73,some (71,true),qm (tm 13)⟩,⟨some 74,some (71,true),qx 1 (tm 72) (tm 73)⟩,⟨some 75,some (71,true),ql (tm 74)⟩,⟨some 76,some (71,true),qm (tm 11)⟩,⟨some 77,some (71,true),qx 1 (tm 75) (tm 76)⟩,⟨some 78,some (71,true),ql (tm 77)⟩,⟨some 79,some (71,true),qb .neq (tm 78) (ci 0)⟩,xo 80 (.i (.pick (tm 71) (tm 79) (cb false)))])
 (.cond (tm 80)
  (rg [xo 81 (qm (tm 10)),xo 82 (qm (tm 13)),xo 83 (qm (tm 9)),xo 84 (ql (tm 5)),xo 85 (qm (tm 13)),xo 86 (qx 1 (tm 84) (tm 85)),xo 87 (ql (tm 86)),xo 88 (qm (tm 11)),xo 89 (qx 1 (tm 87) (tm 88)),xo 90 (ql (tm 89)),xo 91 (.build [.int .i64 0,.int .i64 0,.int .i64 0,.int .i64 0] [(0,1,ci 2),(1,1,tm 82),(2,1,tm 83),(3,1,tm 90)]),xo 92 (.call (tm 81) [tm 91] [[none,none,none,none]])])
  .skip))))
 (rg [xo 93 (qb .add (tm 65) (ci 1)),xo 65 (qm (tm 93))]))))
def Lj:AC :=
 (.seq (.seq (rg [xo 27 (qm (tm 12)),xo 28 (ql (tm 5)),xo 29 (.i (.len (tm 28))),xo 30 (qb .lss (tm 27) (tm 29)),xo 31 (qm (tm 30)),⟨some 32,some (31,true),ql (tm 5)⟩,⟨some 33,some (31,true),qm (tm 12)⟩,⟨some 34,some (31,true),qx 1 (tm 32) (tm 33)⟩,⟨some 35,some (31,true),ql (tm 34)⟩,⟨some 36,some (31,true),qm (tm 11)⟩,⟨some 37,some (31,true),qx 1 (tm 35) (tm 36)⟩,⟨some 38,some (31,true),ql (tm 37)⟩,⟨some 39,some (31,true),qb .eql (tm 38) (ci 0)⟩,xo 40 (.i (.pick (tm 31) (tm 39) (cb false)))])
 (.cond (tm 40)
  .skip
  (.exit 2)))
 (.block 3 (rg [xo 41 (qm (tm 12)),xo 42 (qb .add (tm 41) (ci 1)),xo 12 (qm (tm 42))])))
def Ll:AC :=
 (.seq (.seq (rg [xo 15 (qm (tm 11)),xo 16 (qm (tm 2)),xo 17 (qb .lss (tm 15) (tm 16)),xo 18 (qm (tm 17)),⟨some 19,some (18,true),qm (tm 9)⟩,⟨some 20,some (18,true),ql (tm 5)⟩,⟨some 21,some (18,true),.i (.len (tm 20))⟩,⟨some 22,some (18,true),qb .lss (tm 19) (tm 21)⟩,xo 23 (.i (.pick (tm 18) (tm 22) (cb false)))])
 (.cond (tm 23)
  .skip
  (.exit 0)))
 (.seq (.block 1 (.seq (rg [xo 26 (qm (tm 9)),xo 12 (qm (tm 26))])
 (.seq (.block 2 (.loop Lj))
 (.seq (.seq (rg [xo 43 (qm (tm 12)),xo 44 (ql (tm 5)),xo 45 (.i (.len (tm 44))),xo 46 (qb .eql (tm 43) (tm 45))])
 (.cond (tm 46)
  (.exit 1)
  .skip))
 (.seq (rg [xo 47 (qm (tm 10)),xo 48 (qm (tm 9)),xo 49 (qm (tm 12)),xo 50 (.build [.int .i64 0,.int .i64 0,.int .i64 0,.int .i64 0] [(0,1,ci 0),(1,1,tm 48),(2,1,tm 49)]),xo 51 (.call (tm 47) [tm 50] [[none,none,none,none]])])
 (.seq (rg [xo 52 (qm (tm 10)),xo 53 (qm (tm 9)),xo 54 (ql (tm 5)),xo 55 (qm (tm 9)),xo 56 (qx 1 (tm 54) (tm 55)),xo 57 (ql (tm 56)),xo 58 (qm (tm 11)),xo 59 (qx 1 (tm 57) (tm 58)),xo 60 (ql (tm 59)),xo 61 (.build [.int .i64 0,.int .i64 0,.int .i64 0,.int .i64 0] [(0,1,ci 1),(1,1,tm 53),(3,1,tm 60)]),xo 62 (.call (tm 52) [tm 61] [[none,none,none,none]])])
 (.seq (.seq (rg [xo 63 (ql (tm 5)),xo 64 (.i (.len (tm 63))),xo 65 (qm (ci 0))])
 (.block 4 (.loop Le)))
 (rg [xo 94 (qm (tm 9)),xo 95 (qb .add (tm 94) (ci 1)),xo 9 (qm (tm 95))]))))))))
 (rg [xo 24 (qm (tm 11)),xo 25 (qb .add (tm 24) (ci 1)),xo 11 (qm (tm 25))])))
def Om:AC :=
 (.seq (rg [xo 4 (.i (.box 3 (tm 0))),xo 5 (.i (.box 27 (tm 1))),xo 7 (.i (.box 27 (tm 3))),xo 8 (qm (ci 0))])
 (.seq (rg [xo 9 (qm (ci 0))])
 (.seq (rg [xo 14 (.i (.mkfn 92 [tm 4,tm 5,tm 7])),xo 10 (qm (tm 14))])
 (.seq (.seq (rg [xo 11 (qm (ci 0))])
 (.block 0 (.loop Ll)))
 (.seq (rg [xo 96 (qm (tm 9)),xo 8 (qm (tm 96))])
 .ret)))))
def Wy:List Res:=[.tmp 8]
theorem W0:Aw Tryd.prog Tryd.f87=some (Om,Wy):=by kernel_rfl
theorem Vn:A6 Tryd.prog 87=true:=by kernel_rfl
def Dg (l7_p0:List (List Int)) (l7_m11:Nat) (l15_m12:Nat):Option (Ctl Nat Nat) :=
 Option.bind (cond (decide (((l15_m12:Nat):Int)<((l7_p0.length:Nat):Int)))
  (Option.bind (l7_p0[l15_m12]?) fun x19 =>
  Option.bind (x19[l7_m11]?) fun x20 =>
  some (x20==0))
  (some false)) fun l17_m40 =>
cond l17_m40
 (og (l15_m12+1<4611686018427387904) <|
 some (Ctl.next (l15_m12+1)))
 (some (Ctl.out l15_m12))
def D8 (y31:List (List Int)×List (List Int)) (l7_m9:Nat) (l7_m11:Nat) (a0:Int) (l34_m65:Nat) (l34_p0:List (List Int)) (l34_p2:List (List Int)):Option (Ctl (Nat×List (List Int)×List (List Int)) (List (List Int)×List (List Int))) :=
 cond (decide (((l34_m65:Nat):Int)<((y31.1.length:Nat):Int)))
 (Option.bind (Option.bind (cond (((l34_m65:Nat):Int) !=((l7_m9:Nat):Int))
       (Option.bind (l34_p0[l34_m65]?) fun x42 =>
       Option.bind (x42[l7_m11]?) fun x43 =>
       some (x43 !=0))
       (some false)) fun l40_m80 =>
  cond l40_m80
   (Option.bind (l34_p0[l34_m65]?) fun x45 =>
   Option.bind (x45[l7_m11]?) fun x46 =>
   Option.bind (Bu 2 ((l34_m65:Nat):Int) ((l7_m9:Nat):Int) x46 a0 l34_p0 l34_p2) fun y47 =>
   some (y47.1,y47.2))
   (some (l34_p0,l34_p2))) fun (l38_p0,l38_p2) =>
 og (l34_m65+1<4611686018427387904) <|
 some (Ctl.next (l34_m65+1,l38_p0,l38_p2)))
 (some (Ctl.out (l34_p0,l34_p2)))
def Cm (a2:Int) (a0:Int) (l7_m9:Nat) (l7_m11:Nat) (l7_p0:List (List Int)) (l7_p2:List (List Int)):Option (Ctl (Nat×Nat×List (List Int)×List (List Int)) (Nat×List (List Int)×List (List Int))) :=
 Option.bind (cond (decide (((l7_m11:Nat):Int)<a2))
  (some (decide (((l7_m9:Nat):Int)<((l7_p0.length:Nat):Int))))
  (some false)) fun l9_m23 =>
cond l9_m23
 (Option.bind (Option.bind (Av (fun s_:Nat=>Dg l7_p0 l7_m11 s_) 4611686018427387904 l7_m9) fun l14_m12 =>
  cond (((l14_m12:Nat):Int)==((l7_p0.length:Nat):Int))
   (some (l7_m9,l7_p0,l7_p2))
   (Option.bind (Bu 0 ((l7_m9:Nat):Int) ((l14_m12:Nat):Int) 0 a0 l7_p0 l7_p2) fun y27 =>
   Option.bind (y27.1[l7_m9]?) fun x29 =>
   Option.bind (x29[l7_m11]?) fun x30 =>
   Option.bind (Bu 1 ((l7_m9:Nat):Int) 0 x30 a0 y27.1 y27.2) fun y31 =>
   Option.bind (Av (fun s_:Nat×List (List Int)×List (List Int)=>D8 y31 l7_m9 l7_m11 a0 s_.1 s_.2.1 s_.2.2) 4611686018427387904 (0,y31.1,y31.2)) fun (l32_p0,l32_p2) =>
   og (l7_m9+1<4611686018427387904) <|
   some (l7_m9+1,l32_p0,l32_p2))) fun (l12_m9,l12_p0,l12_p2) =>
 og (l7_m11+1<4611686018427387904) <|
 some (Ctl.next (l12_m9,l7_m11+1,l12_p0,l12_p2)))
 (some (Ctl.out (l7_m9,l7_p0,l7_p2)))
def F2 (a0:Int) (a1:List (List Int)) (a2:Int) (a3:List (List Int)):Option (List (List Int)×List (List Int)×Nat) :=
 Option.bind (Av (fun s_:Nat×Nat×List (List Int)×List (List Int)=>Cm a2 a0 s_.1 s_.2.1 s_.2.2.1 s_.2.2.2) 4611686018427387904 (0,0,a1,a3)) fun (l5_m9,l5_p0,l5_p2) =>
some (l5_p0,l5_p2,l5_m9)
theorem Vj {a0:Int} {a1:List (List Int)} {a2:Int} {a3:List (List Int)} {r:List (List Int)×List (List Int)×Nat} (h:F2 a0 a1 a2 a3=some r) {n_a1:Nat} (hn_a1:n_a1=a1.length) {n_a3:Nat} (hn_a3:n_a3=a3.length):Fi Tryd.prog Tab 87 [ai a0,.own (oi 0 0) (.slice .int) 0 n_a1,ai a2,.own (oi 2 0) (.slice .int) 0 n_a3] [(oi 0 0,.mat 23 (oi 1 0) .int a1),(oi 1 0,.pool 3 .int a1),(oi 2 0,.mat 23 (oi 3 0) .int a3),(oi 3 0,.pool 3 .int a3)] (ai ((r.2.2:Nat):Int)) [(oi 0 0,.mat 23 (oi 0 1) .int r.1),(oi 0 1,.pool 3 .int r.1),(oi 2 0,.mat 23 (oi 1 1) .int r.2.1),(oi 1 1,.pool 3 .int r.2.1)]:=by
 refine B8 (by kernel_rfl) Tryd.func87 W0 (n:=97) (by kernel_rfl) (by simp) (tl:=[(0,ai a0),(1,.own (oi 0 0) (.slice .int) 0 n_a1),(2,ai a2),(3,.own (oi 2 0) (.slice .int) 0 n_a3)]) rfl (by kernel_rfl) ⟨⟨3,.tail _ (.head _)⟩,⟨trivial,⟨⟨3,.tail _ (.tail _ (.tail _ (.head _)))⟩,⟨trivial,trivial⟩⟩⟩⟩ ⟨⟨3,.tail _ (.head _)⟩,⟨trivial,⟨⟨3,.tail _ (.tail _ (.tail _ (.head _)))⟩,⟨trivial,trivial⟩⟩⟩⟩ ?_;unfold Om;unfold F2 at h;refine An ?_;refine An ?_;refine An ?_;refine As h (fun t_ S_=>∃ (l5_m9:Nat),∃ (l5_p0:List (List Int)),∃ (l5_p2:List (List Int)),t_=(l5_m9,l5_p0,l5_p2)∧S_=⟨Ap [(9,ai ((l5_m9:Nat):Int))],Aj (Ar [(oi 0 0,.mat 23 (oi 0 1) .int l5_p0),(oi 0 1,.pool 3 .int l5_p0),(oi 2 0,.mat 23 (oi 1 1) .int l5_p2),(oi 1 1,.pool 3 .int l5_p2)]),2⟩) ?_ ?_
 ·intro v_ h;refine An ?_;refine Af ?_;refine Ax h (fun t_ S_=>∃ (l7_m9:Nat),∃ (l7_m11:Nat),∃ (l7_p0:List (List Int)),∃ (l7_p2:List (List Int)),t_=(l7_m9,l7_m11,l7_p0,l7_p2)∧S_=⟨Ap [(2,ai a2),(5,.box (oi 0 1) 0),(9,ai ((l7_m9:Nat):Int)),(10,.fn 92 [.box (oi 1 1) 0,.box (oi 0 1) 0,.box (oi 2 1) 0]),(11,ai ((l7_m11:Nat):Int))],Aj (Ar [(oi 0 1,.cells 27 [.own (oi 0 0) (.slice .int) 0 l7_p0.length]),(oi 1 1,.cells 3 [ai a0]),(oi 2 1,.cells 27 [.own (oi 2 0) (.slice .int) 0 l7_p2.length]),(oi 0 0,.mat 23 (oi 3 1) .int l7_p0),(oi 3 1,.pool 3 .int l7_p0),(oi 2 0,.mat 23 (oi 4 1) .int l7_p2),(oi 4 1,.pool 3 .int l7_p2)]),2⟩) ⟨_,(Dy (oi 5 2) (.cells 27 [.own (oi 0 0) (.slice .int) 0 n_a1]) (.cells 27 [.own (oi 0 0) (.slice .int) 0 a1.length]) (by kernel_rfl) (congrArg (fun z_=>(.cells 27 [.own (oi 0 0) (.slice .int) 0 z_]:Ob)) (hn_a1:n_a1=a1.length))).trans ((Dy (oi 7 3) (.cells 27 [.own (oi 2 0) (.slice .int) 0 n_a3]) (.cells 27 [.own (oi 2 0) (.slice .int) 0 a3.length]) (by kernel_rfl) (congrArg (fun z_=>(.cells 27 [.own (oi 2 0) (.slice .int) 0 z_]:Ob)) (hn_a3:n_a3=a3.length))).trans (Ac [(oi 0 1,oi 5 2),(oi 3 1,oi 1 0),(oi 1 1,oi 4 1),(oi 2 1,oi 7 3),(oi 4 1,oi 3 0)])),⟨0,0,a1,a3,rfl,rfl⟩⟩ ?_;rintro n_ _ _ c_ ⟨l7_m9,l7_m11,l7_p0,l7_p2,rfl,rfl⟩ h hn7
  (try dsimp only at h);unfold Cm at h;unfold Ll;refine Ab ?_;refine As h (fun (l9_m23:Bool) S_=>S_=⟨Ap [(2,ai a2),(5,.box (oi 0 1) 0),(9,ai ((l7_m9:Nat):Int)),(10,.fn 92 [.box (oi 1 1) 0,.box (oi 0 1) 0,.box (oi 2 1) 0]),(11,ai ((l7_m11:Nat):Int)),(23,.bool l9_m23)],Aj (Ar [(oi 0 1,.cells 27 [.own (oi 0 0) (.slice .int) 0 l7_p0.length]),(oi 1 1,.cells 3 [ai a0]),(oi 2 1,.cells 27 [.own (oi 2 0) (.slice .int) 0 l7_p2.length]),(oi 0 0,.mat 23 (oi 3 1) .int l7_p0),(oi 3 1,.pool 3 .int l7_p0),(oi 2 0,.mat 23 (oi 4 1) .int l7_p2),(oi 4 1,.pool 3 .int l7_p2)]),2⟩) ?_ ?_
  ·intro v_ h;rcases Ae h with ⟨q10,h⟩ | ⟨q10,h⟩
   ·have q10_:=of_decide_eq_true q10;refine Aa 11 ?_;refine rz0 (ai ((l7_m11:Nat):Int)) ?_;refine rz0 (ai a2) ?_;refine rz0 (.bool (decide (((l7_m11:Nat):Int)<a2))) ?_;refine rz0 (.bool (decide (((l7_m11:Nat):Int)<a2))) ?_;refine rs0 (ai ((l7_m9:Nat):Int)) (zg q10) ?_;refine rsl (.own (oi 0 0) (.slice .int) 0 l7_p0.length) (zg q10) ?_;refine rs0 (ai ((l7_p0.length:Nat):Int)) (zg q10) ?_;refine rs0 (.bool (decide (((l7_m9:Nat):Int)<((l7_p0.length:Nat):Int)))) (zg q10) ?_;refine rs0 (.bool (decide (((l7_m9:Nat):Int)<((l7_p0.length:Nat):Int)))) (zT q10) ?_;refine Aq (tn_ ?_);obtain rfl:=zj h;exact ⟨_,Ac [],rfl⟩
   have q10_:=of_decide_eq_false q10;refine Aa 11 ?_;refine rz0 (ai ((l7_m11:Nat):Int)) ?_;refine rz0 (ai a2) ?_;refine rz0 (.bool (decide (((l7_m11:Nat):Int)<a2))) ?_;refine rz0 (.bool (decide (((l7_m11:Nat):Int)<a2))) ?_;refine zs q10 ?_;refine zs q10 ?_;refine zs q10 ?_;refine zs q10 ?_;refine rs0 (.bool false) (zF q10) ?_;refine Aq (tn_ ?_);obtain rfl:=zj h;exact ⟨_,Ac [],rfl⟩
  rintro l9_m23 _ rfl h
  (try dsimp only at h);rcases Ae h with ⟨q11,h⟩ | ⟨q11,h⟩
  ·refine Ah q11 ?_;refine Ai (tn_ ?_);refine wr_ ?_;refine As h (fun t_ S_=>∃ (l12_m9:Nat),∃ (l12_p0:List (List Int)),∃ (l12_p2:List (List Int)),t_=(l12_m9,l12_p0,l12_p2)∧S_=⟨Ap [(2,ai a2),(5,.box (oi 0 1) 0),(9,ai ((l12_m9:Nat):Int)),(10,.fn 92 [.box (oi 1 1) 0,.box (oi 0 1) 0,.box (oi 2 1) 0]),(11,ai ((l7_m11:Nat):Int))],Aj (Ar [(oi 0 1,.cells 27 [.own (oi 0 0) (.slice .int) 0 l12_p0.length]),(oi 1 1,.cells 3 [ai a0]),(oi 2 1,.cells 27 [.own (oi 2 0) (.slice .int) 0 l12_p2.length]),(oi 0 0,.mat 23 (oi 3 1) .int l12_p0),(oi 3 1,.pool 3 .int l12_p0),(oi 2 0,.mat 23 (oi 4 1) .int l12_p2),(oi 4 1,.pool 3 .int l12_p2)]),2⟩) ?_ ?_
   ·intro v_ h;refine Af ?_;refine An ?_;refine As h (fun (l14_m12:Nat) S_=>S_=⟨Ap [(2,ai a2),(5,.box (oi 0 1) 0),(9,ai ((l7_m9:Nat):Int)),(10,.fn 92 [.box (oi 1 1) 0,.box (oi 0 1) 0,.box (oi 2 1) 0]),(11,ai ((l7_m11:Nat):Int)),(12,ai ((l14_m12:Nat):Int))],Aj (Ar [(oi 0 1,.cells 27 [.own (oi 0 0) (.slice .int) 0 l7_p0.length]),(oi 1 1,.cells 3 [ai a0]),(oi 2 1,.cells 27 [.own (oi 2 0) (.slice .int) 0 l7_p2.length]),(oi 0 0,.mat 23 (oi 3 1) .int l7_p0),(oi 3 1,.pool 3 .int l7_p0),(oi 2 0,.mat 23 (oi 4 1) .int l7_p2),(oi 4 1,.pool 3 .int l7_p2)]),2⟩) ?_ ?_
    ·intro v_ h;refine Af ?_;refine Ax h (fun (l15_m12:Nat) S_=>S_=⟨Ap [(2,ai a2),(5,.box (oi 0 1) 0),(9,ai ((l7_m9:Nat):Int)),(10,.fn 92 [.box (oi 1 1) 0,.box (oi 0 1) 0,.box (oi 2 1) 0]),(11,ai ((l7_m11:Nat):Int)),(12,ai ((l15_m12:Nat):Int))],Aj (Ar [(oi 0 1,.cells 27 [.own (oi 0 0) (.slice .int) 0 l7_p0.length]),(oi 1 1,.cells 3 [ai a0]),(oi 2 1,.cells 27 [.own (oi 2 0) (.slice .int) 0 l7_p2.length]),(oi 0 0,.mat 23 (oi 3 1) .int l7_p0),(oi 3 1,.pool 3 .int l7_p0),(oi 2 0,.mat 23 (oi 4 1) .int l7_p2),(oi 4 1,.pool 3 .int l7_p2)]),2⟩) ⟨_,Ac [],rfl⟩ ?_;rintro n_ l15_m12 _ c_ rfl h hn15
     (try dsimp only at h);unfold Dg at h;unfold Lj;refine Ab ?_;refine As h (fun (l17_m40:Bool) S_=>S_=⟨Ap [(2,ai a2),(5,.box (oi 0 1) 0),(9,ai ((l7_m9:Nat):Int)),(10,.fn 92 [.box (oi 1 1) 0,.box (oi 0 1) 0,.box (oi 2 1) 0]),(11,ai ((l7_m11:Nat):Int)),(12,ai ((l15_m12:Nat):Int)),(40,.bool l17_m40)],Aj (Ar [(oi 0 1,.cells 27 [.own (oi 0 0) (.slice .int) 0 l7_p0.length]),(oi 1 1,.cells 3 [ai a0]),(oi 2 1,.cells 27 [.own (oi 2 0) (.slice .int) 0 l7_p2.length]),(oi 0 0,.mat 23 (oi 3 1) .int l7_p0),(oi 3 1,.pool 3 .int l7_p0),(oi 2 0,.mat 23 (oi 4 1) .int l7_p2),(oi 4 1,.pool 3 .int l7_p2)]),2⟩) ?_ ?_
     ·intro v_ h;rcases Ae h with ⟨q18,h⟩ | ⟨q18,h⟩
      ·have q18_:=of_decide_eq_true q18;obtain ⟨x19,e19,h⟩:=Ad h;obtain ⟨x20,e20,h⟩:=Ad h;refine Aa 16 ?_;refine rz0 (ai ((l15_m12:Nat):Int)) ?_;refine rzl (.own (oi 0 0) (.slice .int) 0 l7_p0.length) ?_;refine rz0 (ai ((l7_p0.length:Nat):Int)) ?_;refine rz0 (.bool (decide (((l15_m12:Nat):Int)<((l7_p0.length:Nat):Int)))) ?_;refine rz0 (.bool (decide (((l15_m12:Nat):Int)<((l7_p0.length:Nat):Int)))) ?_;refine rsl (.own (oi 0 0) (.slice .int) 0 l7_p0.length) (zg q18) ?_;refine rs0 (ai ((l15_m12:Nat):Int)) (zg q18) ?_;refine rs0 (.elt (oi 0 0) l15_m12 0) (Nk (by kernel_rfl) q18 (zo (t:=.slice .int) (o:=oi 0 0) (len:=l7_p0.length) (k:=.i64) (m:=((l15_m12:Nat):Int)) (At _) (Al e19))) ?_;refine rsl (.own (kid (oi 3 1) l15_m12) .int 0 x19.length) (Nk (by kernel_rfl) q18 (Bs (o:=oi 0 0) (p:=oi 3 1) (e1:=23) (u:=.int) (xss:=l7_p0) (row:=x19) (j:=l15_m12) (by kernel_rfl) (by kernel_rfl) e19)) ?_;refine rs0 (ai ((l7_m11:Nat):Int)) (zg q18) ?_;refine rs0 (.elt (kid (oi 3 1) l15_m12) l7_m11 0) (Nk (by kernel_rfl) q18 (zo (t:=.int) (o:=kid (oi 3 1) l15_m12) (len:=x19.length) (k:=.i64) (m:=((l7_m11:Nat):Int)) (At _) (Al e20))) ?_;refine rsl (ai x20) (Nk (by kernel_rfl) q18 (Ed (i:=kid (oi 3 1) l15_m12) (j:=l7_m11) (k:=0) (e:=3) (t:=.int) (xs:=x19) (by kernel_rfl) (A0 (by kernel_rfl) e19) e20 (by kernel_rfl))) ?_;refine rs0 (.bool (x20==0)) (zg q18) ?_;refine rs0 (.bool (x20==0)) (zT q18) ?_;refine Aq (tn_ ?_);obtain rfl:=zj h;exact ⟨_,Ac [],rfl⟩
      have q18_:=of_decide_eq_false q18;refine Aa 16 ?_;refine rz0 (ai ((l15_m12:Nat):Int)) ?_;refine rzl (.own (oi 0 0) (.slice .int) 0 l7_p0.length) ?_;refine rz0 (ai ((l7_p0.length:Nat):Int)) ?_;refine rz0 (.bool (decide (((l15_m12:Nat):Int)<((l7_p0.length:Nat):Int)))) ?_;refine rz0 (.bool (decide (((l15_m12:Nat):Int)<((l7_p0.length:Nat):Int)))) ?_;refine zs q18 ?_;refine zs q18 ?_;refine zs q18 ?_;refine zs q18 ?_;refine zs q18 ?_;refine zs q18 ?_;refine zs q18 ?_;refine zs q18 ?_;refine rs0 (.bool false) (zF q18) ?_;refine Aq (tn_ ?_);obtain rfl:=zj h;exact ⟨_,Ac [],rfl⟩
     rintro l17_m40 _ rfl h
     (try dsimp only at h);rcases Ae h with ⟨q21,h⟩ | ⟨q21,h⟩
     ·refine Ah q21 ?_;refine Ai (tn_ ?_);refine wr_ ?_;refine Af ?_;obtain ⟨g22,h⟩:=Am h;refine Aa 5 ?_;refine rz0 (ai ((l15_m12:Nat):Int)) ?_;refine rs0 (ai ((l15_m12+1:Nat):Int)) (za g22) ?_;refine rsB 1 ?_;refine Aq (bn_ (tn_ ?_));obtain rfl:=zj h;exact ⟨l15_m12+1,_,Ac [],rfl,hn15⟩
     refine Ag q21 ?_;refine Au (te_ (te_ (be_ (tn_ ?_))));obtain rfl:=zj h;have h:=hn15
     (try dsimp only at h);obtain rfl:=zj h;exact ⟨_,Ac [],rfl⟩
    rintro l14_m12 _ rfl h
    (try dsimp only at h);refine Ab ?_;refine An ?_;rcases Ae h with ⟨q25,h⟩ | ⟨q25,h⟩
    ·refine Ah q25 ?_;refine Au (te_ (be_ (tn_ ?_)));obtain rfl:=zj h;exact ⟨_,Ac [],⟨l7_m9,l7_p0,l7_p2,rfl,rfl⟩⟩
    refine Ag q25 ?_;refine Ai (tn_ ?_);refine wr_ ?_;refine Ab ?_;obtain ⟨y27,h27,h⟩:=Ad h;refine Aa 11 ?_;refine rz0 (.fn 92 [.box (oi 1 1) 0,.box (oi 0 1) 0,.box (oi 2 1) 0]) ?_;refine rz0 (ai ((l7_m9:Nat):Int)) ?_;refine rz0 (ai ((l14_m12:Nat):Int)) ?_;refine rz0 (.agg [ai 0,ai ((l7_m9:Nat):Int),ai ((l14_m12:Nat):Int),ai 0]) ?_;refine C3 (.tup []) [(oi 1 1,some (.cells 3 [ai a0])),(oi 0 1,some (.cells 27 [.own (oi 0 0) (.slice .int) 0 y27.1.length])),(oi 0 0,some (.mat 23 (oi 816 10) .int y27.1)),(oi 816 10,some (.pool 3 .int y27.1)),(oi 2 1,some (.cells 27 [.own (oi 2 0) (.slice .int) 0 y27.2.length])),(oi 2 0,some (.mat 23 (oi 817 10) .int y27.2)),(oi 817 10,some (.pool 3 .int y27.2)),(oi 1 1,none),(oi 0 1,none),(oi 0 0,none),(oi 3 1,some (.pool 3 .int [])),(oi 2 1,none),(oi 2 0,none),(oi 4 1,some (.pool 3 .int []))] [(oi 0 0,oi 1 1),(oi 1 0,oi 0 1),(oi 2 0,oi 0 0),(oi 3 0,oi 3 1),(oi 4 0,oi 2 1),(oi 5 0,oi 2 0),(oi 6 0,oi 4 1)] [.agg [ai 0,ai ((l7_m9:Nat):Int),ai ((l14_m12:Nat):Int),ai 0],.box (oi 1 1) 0,.box (oi 0 1) 0,.box (oi 2 1) 0] (caps:=[.box (oi 1 1) 0,.box (oi 0 1) 0,.box (oi 2 1) 0]) trivial (Ir h27) Iq ⟨by kernel_rfl,⟨by kernel_rfl,⟨by kernel_rfl,⟨by kernel_rfl,⟨by kernel_rfl,⟨by kernel_rfl,⟨by kernel_rfl,trivial⟩⟩⟩⟩⟩⟩⟩ (.cons (.ren (by kernel_rfl)) (.cons (.ren (by kernel_rfl)) (.cons (.ren (by kernel_rfl)) (.cons (.ren (by kernel_rfl)) .nil)))) (A7 (by kernel_rfl) (by kernel_rfl) ⟨B2 (by kernel_rfl),⟨B2 (by kernel_rfl),⟨G5 (k:=oi 0 1) (ty:=27) (cs:=[.own (oi 0 0) (.slice .int) 0 l7_p0.length]) (B2 (by kernel_rfl)) (by kernel_rfl) (by kernel_rfl),⟨Ks (o:=oi 0 0) (p:=oi 3 1) (e1:=23) (m:=l7_p0.length) (u:=.int) (xss:=l7_p0) (G5 (k:=oi 0 1) (ty:=27) (cs:=[.own (oi 0 0) (.slice .int) 0 l7_p0.length]) (B2 (by kernel_rfl)) (by kernel_rfl) (by kernel_rfl)) (by kernel_rfl),⟨B2 (by kernel_rfl),⟨G5 (k:=oi 2 1) (ty:=27) (cs:=[.own (oi 2 0) (.slice .int) 0 l7_p2.length]) (B2 (by kernel_rfl)) (by kernel_rfl) (by kernel_rfl),⟨Ks (o:=oi 2 0) (p:=oi 4 1) (e1:=23) (m:=l7_p2.length) (u:=.int) (xss:=l7_p2) (G5 (k:=oi 2 1) (ty:=27) (cs:=[.own (oi 2 0) (.slice .int) 0 l7_p2.length]) (B2 (by kernel_rfl)) (by kernel_rfl) (by kernel_rfl)) (by kernel_rfl),trivial⟩⟩⟩⟩⟩⟩⟩) ?_;refine Aq (tn_ ?_);refine wr_ ?_;refine Ab ?_;obtain ⟨x29,e29,h⟩:=Ad h;obtain ⟨x30,e30,h⟩:=Ad h;obtain ⟨y31,h31,h⟩:=Ad h;refine Aa 22 ?_;refine rz0 (.fn 92 [.box (oi 1 1) 0,.box (oi 0 1) 0,.box (oi 2 1) 0]) ?_;refine rz0 (ai ((l7_m9:Nat):Int)) ?_;refine rzl (.own (oi 0 0) (.slice .int) 0 y27.1.length) ?_;refine rz0 (ai ((l7_m9:Nat):Int)) ?_;refine rs0 (.elt (oi 0 0) l7_m9 0) (zo (t:=.slice .int) (o:=oi 0 0) (len:=y27.1.length) (k:=.i64) (m:=((l7_m9:Nat):Int)) (At _) (Al e29)) ?_;refine rsl (.own (kid (oi 816 10) l7_m9) .int 0 x29.length) (Bs (o:=oi 0 0) (p:=oi 816 10) (e1:=23) (u:=.int) (xss:=y27.1) (row:=x29) (j:=l7_m9) (by kernel_rfl) (by kernel_rfl) e29) ?_;refine rz0 (ai ((l7_m11:Nat):Int)) ?_;refine rs0 (.elt (kid (oi 816 10) l7_m9) l7_m11 0) (zo (t:=.int) (o:=kid (oi 816 10) l7_m9) (len:=x29.length) (k:=.i64) (m:=((l7_m11:Nat):Int)) (At _) (Al e30)) ?_;refine rsl (ai x30) (Ed (i:=kid (oi 816 10) l7_m9) (j:=l7_m11) (k:=0) (e:=3) (t:=.int) (xs:=x29) (by kernel_rfl) (A0 (by kernel_rfl) e29) e30 (by kernel_rfl)) ?_;refine rz0 (.agg [ai 1,ai ((l7_m9:Nat):Int),ai 0,ai x30]) ?_;refine C3 (.tup []) [(oi 1 1,some (.cells 3 [ai a0])),(oi 0 1,some (.cells 27 [.own (oi 0 0) (.slice .int) 0 y31.1.length])),(oi 0 0,some (.mat 23 (oi 992 21) .int y31.1)),(oi 992 21,some (.pool 3 .int y31.1)),(oi 2 1,some (.cells 27 [.own (oi 2 0) (.slice .int) 0 y31.2.length])),(oi 2 0,some (.mat 23 (oi 993 21) .int y31.2)),(oi 993 21,some (.pool 3 .int y31.2)),(oi 1 1,none),(oi 0 1,none),(oi 0 0,none),(oi 816 10,some (.pool 3 .int [])),(oi 2 1,none),(oi 2 0,none),(oi 817 10,some (.pool 3 .int []))] [(oi 0 0,oi 1 1),(oi 1 0,oi 0 1),(oi 2 0,oi 0 0),(oi 3 0,oi 816 10),(oi 4 0,oi 2 1),(oi 5 0,oi 2 0),(oi 6 0,oi 817 10)] [.agg [ai 1,ai ((l7_m9:Nat):Int),ai 0,ai x30],.box (oi 1 1) 0,.box (oi 0 1) 0,.box (oi 2 1) 0] (caps:=[.box (oi 1 1) 0,.box (oi 0 1) 0,.box (oi 2 1) 0]) trivial (Ir h31) Iq ⟨by kernel_rfl,⟨by kernel_rfl,⟨by kernel_rfl,⟨by kernel_rfl,⟨by kernel_rfl,⟨by kernel_rfl,⟨by kernel_rfl,trivial⟩⟩⟩⟩⟩⟩⟩ (.cons (.ren (by kernel_rfl)) (.cons (.ren (by kernel_rfl)) (.cons (.ren (by kernel_rfl)) (.cons (.ren (by kernel_rfl)) .nil)))) (A7 (by kernel_rfl) (by kernel_rfl) ⟨B2 (by kernel_rfl),⟨B2 (by kernel_rfl),⟨G5 (k:=oi 0 1) (ty:=27) (cs:=[.own (oi 0 0) (.slice .int) 0 y27.1.length]) (B2 (by kernel_rfl)) (by kernel_rfl) (by kernel_rfl),⟨Ks (o:=oi 0 0) (p:=oi 816 10) (e1:=23) (m:=y27.1.length) (u:=.int) (xss:=y27.1) (G5 (k:=oi 0 1) (ty:=27) (cs:=[.own (oi 0 0) (.slice .int) 0 y27.1.length]) (B2 (by kernel_rfl)) (by kernel_rfl) (by kernel_rfl)) (by kernel_rfl),⟨B2 (by kernel_rfl),⟨G5 (k:=oi 2 1) (ty:=27) (cs:=[.own (oi 2 0) (.slice .int) 0 y27.2.length]) (B2 (by kernel_rfl)) (by kernel_rfl) (by kernel_rfl),⟨Ks (o:=oi 2 0) (p:=oi 817 10) (e1:=23) (m:=y27.2.length) (u:=.int) (xss:=y27.2) (G5 (k:=oi 2 1) (ty:=27) (cs:=[.own (oi 2 0) (.slice .int) 0 y27.2.length]) (B2 (by kernel_rfl)) (by kernel_rfl) (by kernel_rfl)) (by kernel_rfl),trivial⟩⟩⟩⟩⟩⟩⟩) ?_;refine Aq (tn_ ?_);refine wr_ ?_;refine As h (fun t_ S_=>∃ (l32_p0:List (List Int)),∃ (l32_p2:List (List Int)),t_=(l32_p0,l32_p2)∧S_=⟨Ap [(2,ai a2),(5,.box (oi 0 1) 0),(9,ai ((l7_m9:Nat):Int)),(10,.fn 92 [.box (oi 1 1) 0,.box (oi 0 1) 0,.box (oi 2 1) 0]),(11,ai ((l7_m11:Nat):Int))],Aj (Ar [(oi 0 1,.cells 27 [.own (oi 0 0) (.slice .int) 0 l32_p0.length]),(oi 1 1,.cells 3 [ai a0]),(oi 2 1,.cells 27 [.own (oi 2 0) (.slice .int) 0 l32_p2.length]),(oi 0 0,.mat 23 (oi 3 1) .int l32_p0),(oi 3 1,.pool 3 .int l32_p0),(oi 2 0,.mat 23 (oi 4 1) .int l32_p2),(oi 4 1,.pool 3 .int l32_p2)]),2⟩) ?_ ?_
    ·intro v_ h;refine An ?_;refine Af ?_;refine Ax h (fun t_ S_=>∃ (l34_m65:Nat),∃ (l34_p0:List (List Int)),∃ (l34_p2:List (List Int)),t_=(l34_m65,l34_p0,l34_p2)∧S_=⟨Ap [(2,ai a2),(5,.box (oi 0 1) 0),(9,ai ((l7_m9:Nat):Int)),(10,.fn 92 [.box (oi 1 1) 0,.box (oi 0 1) 0,.box (oi 2 1) 0]),(11,ai ((l7_m11:Nat):Int)),(64,ai ((y31.1.length:Nat):Int)),(65,ai ((l34_m65:Nat):Int))],Aj (Ar [(oi 0 1,.cells 27 [.own (oi 0 0) (.slice .int) 0 l34_p0.length]),(oi 1 1,.cells 3 [ai a0]),(oi 2 1,.cells 27 [.own (oi 2 0) (.slice .int) 0 l34_p2.length]),(oi 0 0,.mat 23 (oi 3 1) .int l34_p0),(oi 3 1,.pool 3 .int l34_p0),(oi 2 0,.mat 23 (oi 4 1) .int l34_p2),(oi 4 1,.pool 3 .int l34_p2)]),2⟩) ⟨_,Ac [(oi 3 1,oi 992 21),(oi 4 1,oi 993 21)],⟨0,y31.1,y31.2,rfl,rfl⟩⟩ ?_;rintro n_ _ _ c_ ⟨l34_m65,l34_p0,l34_p2,rfl,rfl⟩ h hn34
     (try dsimp only at h);unfold D8 at h;unfold Le;refine An ?_;refine Ab ?_;rcases Ae h with ⟨q37,h⟩ | ⟨q37,h⟩
     ·have q37_:=of_decide_eq_true q37;refine Ah q37 ?_;refine Ai (tn_ ?_);refine wr_ ?_;refine As h (fun t_ S_=>∃ (l38_p0:List (List Int)),∃ (l38_p2:List (List Int)),t_=(l38_p0,l38_p2)∧S_=⟨Ap [(2,ai a2),(5,.box (oi 0 1) 0),(9,ai ((l7_m9:Nat):Int)),(10,.fn 92 [.box (oi 1 1) 0,.box (oi 0 1) 0,.box (oi 2 1) 0]),(11,ai ((l7_m11:Nat):Int)),(64,ai ((y31.1.length:Nat):Int)),(65,ai ((l34_m65:Nat):Int))],Aj (Ar [(oi 0 1,.cells 27 [.own (oi 0 0) (.slice .int) 0 l38_p0.length]),(oi 1 1,.cells 3 [ai a0]),(oi 2 1,.cells 27 [.own (oi 2 0) (.slice .int) 0 l38_p2.length]),(oi 0 0,.mat 23 (oi 3 1) .int l38_p0),(oi 3 1,.pool 3 .int l38_p0),(oi 2 0,.mat 23 (oi 4 1) .int l38_p2),(oi 4 1,.pool 3 .int l38_p2)]),2⟩) ?_ ?_
      ·intro v_ h;refine Af ?_;refine An ?_;refine As h (fun (l40_m80:Bool) S_=>S_=⟨Ap [(2,ai a2),(5,.box (oi 0 1) 0),(9,ai ((l7_m9:Nat):Int)),(10,.fn 92 [.box (oi 1 1) 0,.box (oi 0 1) 0,.box (oi 2 1) 0]),(11,ai ((l7_m11:Nat):Int)),(13,ai ((l34_m65:Nat):Int)),(64,ai ((y31.1.length:Nat):Int)),(65,ai ((l34_m65:Nat):Int)),(80,.bool l40_m80)],Aj (Ar [(oi 0 1,.cells 27 [.own (oi 0 0) (.slice .int) 0 l34_p0.length]),(oi 1 1,.cells 3 [ai a0]),(oi 2 1,.cells 27 [.own (oi 2 0) (.slice .int) 0 l34_p2.length]),(oi 0 0,.mat 23 (oi 3 1) .int l34_p0),(oi 3 1,.pool 3 .int l34_p0),(oi 2 0,.mat 23 (oi 4 1) .int l34_p2),(oi 4 1,.pool 3 .int l34_p2)]),2⟩) ?_ ?_
       ·intro v_ h;rcases Ae h with ⟨q41,h⟩ | ⟨q41,h⟩
        ·obtain ⟨x42,e42,h⟩:=Ad h;obtain ⟨x43,e43,h⟩:=Ad h;refine Aa 18 ?_;refine rz0 (ai ((l34_m65:Nat):Int)) ?_;refine rz0 (ai ((l7_m9:Nat):Int)) ?_;refine rz0 (.bool (((l34_m65:Nat):Int) !=((l7_m9:Nat):Int))) ?_;refine rz0 (.bool (((l34_m65:Nat):Int) !=((l7_m9:Nat):Int))) ?_;refine rsl (.own (oi 0 0) (.slice .int) 0 l34_p0.length) (zg q41) ?_;refine rs0 (ai ((l34_m65:Nat):Int)) (zg q41) ?_;refine rs0 (.elt (oi 0 0) l34_m65 0) (Nk (by kernel_rfl) q41 (zo (t:=.slice .int) (o:=oi 0 0) (len:=l34_p0.length) (k:=.i64) (m:=((l34_m65:Nat):Int)) (At _) (Al e42))) ?_;refine rsl (.own (kid (oi 3 1) l34_m65) .int 0 x42.length) (Nk (by kernel_rfl) q41 (Bs (o:=oi 0 0) (p:=oi 3 1) (e1:=23) (u:=.int) (xss:=l34_p0) (row:=x42) (j:=l34_m65) (by kernel_rfl) (by kernel_rfl) e42)) ?_;refine rs0 (ai ((l7_m11:Nat):Int)) (zg q41) ?_;refine rs0 (.elt (kid (oi 3 1) l34_m65) l7_m11 0) (Nk (by kernel_rfl) q41 (zo (t:=.int) (o:=kid (oi 3 1) l34_m65) (len:=x42.length) (k:=.i64) (m:=((l7_m11:Nat):Int)) (At _) (Al e43))) ?_;refine rsl (ai x43) (Nk (by kernel_rfl) q41 (Ed (i:=kid (oi 3 1) l34_m65) (j:=l7_m11) (k:=0) (e:=3) (t:=.int) (xs:=x42) (by kernel_rfl) (A0 (by kernel_rfl) e42) e43 (by kernel_rfl))) ?_;refine rs0 (.bool (x43 !=0)) (zg q41) ?_;refine rs0 (.bool (x43 !=0)) (zT q41) ?_;refine Aq (tn_ ?_);obtain rfl:=zj h;exact ⟨_,Ac [],rfl⟩
        refine Aa 18 ?_;refine rz0 (ai ((l34_m65:Nat):Int)) ?_;refine rz0 (ai ((l7_m9:Nat):Int)) ?_;refine rz0 (.bool (((l34_m65:Nat):Int) !=((l7_m9:Nat):Int))) ?_;refine rz0 (.bool (((l34_m65:Nat):Int) !=((l7_m9:Nat):Int))) ?_;refine zs q41 ?_;refine zs q41 ?_;refine zs q41 ?_;refine zs q41 ?_;refine zs q41 ?_;refine zs q41 ?_;refine zs q41 ?_;refine zs q41 ?_;refine rs0 (.bool false) (zF q41) ?_;refine Aq (tn_ ?_);obtain rfl:=zj h;exact ⟨_,Ac [],rfl⟩
       rintro l40_m80 _ rfl h
       (try dsimp only at h);rcases Ae h with ⟨q44,h⟩ | ⟨q44,h⟩
       ·refine Ah q44 ?_;obtain ⟨x45,e45,h⟩:=Ad h;obtain ⟨x46,e46,h⟩:=Ad h;obtain ⟨y47,h47,h⟩:=Ad h;refine Aa 14 ?_;refine rz0 (.fn 92 [.box (oi 1 1) 0,.box (oi 0 1) 0,.box (oi 2 1) 0]) ?_;refine rz0 (ai ((l34_m65:Nat):Int)) ?_;refine rz0 (ai ((l7_m9:Nat):Int)) ?_;refine rzl (.own (oi 0 0) (.slice .int) 0 l34_p0.length) ?_;refine rz0 (ai ((l34_m65:Nat):Int)) ?_;refine rs0 (.elt (oi 0 0) l34_m65 0) (zo (t:=.slice .int) (o:=oi 0 0) (len:=l34_p0.length) (k:=.i64) (m:=((l34_m65:Nat):Int)) (At _) (Al e45)) ?_;refine rsl (.own (kid (oi 3 1) l34_m65) .int 0 x45.length) (Bs (o:=oi 0 0) (p:=oi 3 1) (e1:=23) (u:=.int) (xss:=l34_p0) (row:=x45) (j:=l34_m65) (by kernel_rfl) (by kernel_rfl) e45) ?_;refine rz0 (ai ((l7_m11:Nat):Int)) ?_;refine rs0 (.elt (kid (oi 3 1) l34_m65) l7_m11 0) (zo (t:=.int) (o:=kid (oi 3 1) l34_m65) (len:=x45.length) (k:=.i64) (m:=((l7_m11:Nat):Int)) (At _) (Al e46)) ?_;refine rsl (ai x46) (Ed (i:=kid (oi 3 1) l34_m65) (j:=l7_m11) (k:=0) (e:=3) (t:=.int) (xs:=x45) (by kernel_rfl) (A0 (by kernel_rfl) e45) e46 (by kernel_rfl)) ?_;refine rz0 (.agg [ai 2,ai ((l34_m65:Nat):Int),ai ((l7_m9:Nat):Int),ai x46]) ?_;refine C3 (.tup []) [(oi 1 1,some (.cells 3 [ai a0])),(oi 0 1,some (.cells 27 [.own (oi 0 0) (.slice .int) 0 y47.1.length])),(oi 0 0,some (.mat 23 (oi 1472 13) .int y47.1)),(oi 1472 13,some (.pool 3 .int y47.1)),(oi 2 1,some (.cells 27 [.own (oi 2 0) (.slice .int) 0 y47.2.length])),(oi 2 0,some (.mat 23 (oi 1473 13) .int y47.2)),(oi 1473 13,some (.pool 3 .int y47.2)),(oi 1 1,none),(oi 0 1,none),(oi 0 0,none),(oi 3 1,some (.pool 3 .int [])),(oi 2 1,none),(oi 2 0,none),(oi 4 1,some (.pool 3 .int []))] [(oi 0 0,oi 1 1),(oi 1 0,oi 0 1),(oi 2 0,oi 0 0),(oi 3 0,oi 3 1),(oi 4 0,oi 2 1),(oi 5 0,oi 2 0),(oi 6 0,oi 4 1)] [.agg [ai 2,ai ((l34_m65:Nat):Int),ai ((l7_m9:Nat):Int),ai x46],.box (oi 1 1) 0,.box (oi 0 1) 0,.box (oi 2 1) 0] (caps:=[.box (oi 1 1) 0,.box (oi 0 1) 0,.box (oi 2 1) 0]) trivial (Ir h47) Iq ⟨by kernel_rfl,⟨by kernel_rfl,⟨by kernel_rfl,⟨by kernel_rfl,⟨by kernel_rfl,⟨by kernel_rfl,⟨by kernel_rfl,trivial⟩⟩⟩⟩⟩⟩⟩ (.cons (.ren (by kernel_rfl)) (.cons (.ren (by kernel_rfl)) (.cons (.ren (by kernel_rfl)) (.cons (.ren (by kernel_rfl)) .nil)))) (A7 (by kernel_rfl) (by kernel_rfl) ⟨B2 (by kernel_rfl),⟨B2 (by kernel_rfl),⟨G5 (k:=oi 0 1) (ty:=27) (cs:=[.own (oi 0 0) (.slice .int) 0 l34_p0.length]) (B2 (by kernel_rfl)) (by kernel_rfl) (by kernel_rfl),⟨Ks (o:=oi 0 0) (p:=oi 3 1) (e1:=23) (m:=l34_p0.length) (u:=.int) (xss:=l34_p0) (G5 (k:=oi 0 1) (ty:=27) (cs:=[.own (oi 0 0) (.slice .int) 0 l34_p0.length]) (B2 (by kernel_rfl)) (by kernel_rfl) (by kernel_rfl)) (by kernel_rfl),⟨B2 (by kernel_rfl),⟨G5 (k:=oi 2 1) (ty:=27) (cs:=[.own (oi 2 0) (.slice .int) 0 l34_p2.length]) (B2 (by kernel_rfl)) (by kernel_rfl) (by kernel_rfl),⟨Ks (o:=oi 2 0) (p:=oi 4 1) (e1:=23) (m:=l34_p2.length) (u:=.int) (xss:=l34_p2) (G5 (k:=oi 2 1) (ty:=27) (cs:=[.own (oi 2 0) (.slice .int) 0 l34_p2.length]) (B2 (by kernel_rfl)) (by kernel_rfl) (by kernel_rfl)) (by kernel_rfl),trivial⟩⟩⟩⟩⟩⟩⟩) ?_;refine Aq (bn_ (tn_ ?_));obtain rfl:=zj h;exact ⟨_,Ac [(oi 3 1,oi 1472 13),(oi 4 1,oi 1473 13)],⟨y47.1,y47.2,rfl,rfl⟩⟩
       refine Ag q44 ?_;refine Ai (bn_ (tn_ ?_));obtain rfl:=zj h;exact ⟨_,Ac [],⟨l34_p0,l34_p2,rfl,rfl⟩⟩
      rintro _ _ ⟨l38_p0,l38_p2,rfl,rfl⟩ h
      (try dsimp only at h);obtain ⟨g48,h⟩:=Am h;refine Aa 4 ?_;refine rs0 (ai ((l34_m65+1:Nat):Int)) (za g48) ?_;refine rsB 1 ?_;refine Aq (tn_ ?_);obtain rfl:=zj h;exact ⟨(l34_m65+1,l38_p0,l38_p2),_,Ac [],⟨l34_m65+1,l38_p0,l38_p2,rfl,rfl⟩,hn34⟩
     have q37_:=of_decide_eq_false q37;refine Ag q37 ?_;refine Au (te_ (te_ (be_ (tn_ ?_))));obtain rfl:=zj h;have h:=hn34
     (try dsimp only at h);obtain rfl:=zj h;exact ⟨_,Ac [],⟨l34_p0,l34_p2,rfl,rfl⟩⟩
    rintro _ _ ⟨l32_p0,l32_p2,rfl,rfl⟩ h
    (try dsimp only at h);obtain ⟨g49,h⟩:=Am h;refine Aa 5 ?_;refine rz0 (ai ((l7_m9:Nat):Int)) ?_;refine rs0 (ai ((l7_m9+1:Nat):Int)) (za g49) ?_;refine rsB 1 ?_;refine Aq (bn_ (tn_ ?_));obtain rfl:=zj h;exact ⟨_,Ac [],⟨l7_m9+1,l32_p0,l32_p2,rfl,rfl⟩⟩
   rintro _ _ ⟨l12_m9,l12_p0,l12_p2,rfl,rfl⟩ h
   (try dsimp only at h);obtain ⟨g50,h⟩:=Am h;refine Aa 5 ?_;refine rz0 (ai ((l7_m11:Nat):Int)) ?_;refine rs0 (ai ((l7_m11+1:Nat):Int)) (za g50) ?_;refine rsB 1 ?_;refine Aq (tn_ ?_);obtain rfl:=zj h;exact ⟨(l12_m9,l7_m11+1,l12_p0,l12_p2),_,Ac [],⟨l12_m9,l7_m11+1,l12_p0,l12_p2,rfl,rfl⟩,hn7⟩
  refine Ag q11 ?_;refine Au (te_ (te_ (be_ (tn_ ?_))));obtain rfl:=zj h;have h:=hn7
  (try dsimp only at h);obtain rfl:=zj h;exact ⟨_,Ac [(oi 0 1,oi 3 1),(oi 1 1,oi 4 1)],⟨l7_m9,l7_p0,l7_p2,rfl,rfl⟩⟩
 rintro _ _ ⟨l5_m9,l5_p0,l5_p2,rfl,rfl⟩ h
 (try dsimp only at h);refine An ?_;refine Ao ?_;obtain rfl:=zj h;exact Gk [ai ((l5_m9:Nat):Int)] (Ac (tl:=[(8,ai ((l5_m9:Nat):Int))]) (g:=2) [])
end
section
open Go.RowKit Go.Deep
set_option maxRecDepth 4000
def Rq:AC :=
 (.seq (rg [xo 6 (qm (.cst .nils))])
 (.seq (rg [xo 10 (qm (tm 1)),xo 11 (qc 85 [tm 10] [[some (.slice .int)]]),xo 7 (qm (tm 11))])
 (.seq (rg [xo 12 (qm (tm 7)),xo 13 (.i (.len (tm 12))),xo 14 (.makeV 23 (.slice .int) 24 [.nils] (tm 13) (tm 13)),xo 8 (qm (tm 14))])
 (.seq (rg [xo 15 (qm (tm 0)),xo 16 (qm (tm 7)),xo 17 (qm (tm 2)),xo 18 (qm (tm 8)),xo 19 (qc 87 [tm 15,tm 16,tm 17,tm 18] [[],[some (.slice .int)],[],[some (.slice .int)]]),xo 9 (qm (tm 19))])
 (.seq (rg [xo 20 (qm (tm 7)),xo 21 (qm (tm 9)),xo 22 (qm (tm 9)),xo 23 (.slice 1 (tm 20) none (some (tm 21)) (some (tm 22))),xo 6 (qm (tm 23))])
 .ret)))))
def Z6:List Res:=[.tmp 6]
theorem Aaq:Aw Tryd.prog Tryd.f70=some (Rq,Z6):=by kernel_rfl
theorem Zf:A6 Tryd.prog 70=true:=by kernel_rfl
def Hu (a0:Int) (a1:List (List Int)) (a2:Int):Option (List (List Int)) :=
 Option.bind (I3 a1) fun y4 =>
og (0<=((y4.length:Nat):Int)∧((y4.length:Nat):Int)<=((y4.length:Nat):Int)∧((y4.length:Nat):Int)<=1073741824∧(24:Int)*((y4.length:Nat):Int)<=140737488355328) <|
Option.bind (F2 a0 y4 a2 (List.replicate y4.length ([]:List Int))) fun y8 =>
og (y8.1.length=y4.length) <|
og (y8.2.1.length=y4.length) <|
og ((0:Int)<=((y8.2.2:Nat):Int)∧((y8.2.2:Nat):Int)<=((y8.2.2:Nat):Int)∧((y8.2.2:Nat):Int)<=((y4.length:Nat):Int)) <|
some (y8.1.take y8.2.2)
theorem Yp {a0:Int} {a1:List (List Int)} {a2:Int} {r:List (List Int)} (h:Hu a0 a1 a2=some r):Fi Tryd.prog Tab 70 [ai a0,.tree (.slice .int) a1,ai a2] [] (.own (oi 0 1) (.slice .int) 0 r.length) [(oi 0 1,.mat 23 (oi 1 1) .int r),(oi 1 1,.pool 3 .int r)]:=by
 refine B8 (by kernel_rfl) Tryd.func70 Aaq (n:=24) (by kernel_rfl) (by simp) (tl:=[(0,ai a0),(1,.tree (.slice .int) a1),(2,ai a2)]) rfl (by kernel_rfl) trivial ⟨⟨3,.tail _ (.head _)⟩,⟨trivial,trivial⟩⟩ ?_;unfold Rq;unfold Hu at h;refine An ?_;refine Ab ?_;obtain ⟨y4,h4,h⟩:=Ad h;refine Aa 5 ?_;refine rz0 (.tree (.slice .int) a1) ?_;refine C3 (.own (oi 176 3) (.slice .int) 0 y4.length) [(oi 176 3,some (.mat 23 (oi 177 3) .int y4)),(oi 177 3,some (.pool 3 .int y4))] [] [.tree (.slice .int) a1] (caps:=[]) trivial (Z5 h4) Aam trivial (.cons (.ren (by kernel_rfl)) .nil) (A7 (by kernel_rfl) (by kernel_rfl) trivial) ?_;refine rsB 1 ?_;refine Aq (tn_ ?_);refine wr_ ?_;refine Ab ?_;obtain ⟨g6,h⟩:=Am h;refine Aa 9 ?_;refine rz0 (.own (oi 176 3) (.slice .int) 0 y4.length) ?_;refine rz0 (ai ((y4.length:Nat):Int)) ?_;refine Afw (.own (oi 224 7) (.slice .int) 0 y4.length) (oi 224 7) 23 3 .int (List.replicate y4.length ([]:List Int)) trivial (Zz (j:=y4.length) (k:=.i64) (k':=.i64) (m:=((y4.length:Nat):Int)) (c:=((y4.length:Nat):Int)) 3 (by kernel_rfl) (by kernel_rfl) g6 (by kernel_rfl) rfl) (by kernel_rfl) (by rw [List.length_replicate]) (by kernel_rfl) ?_;refine rsB 1 ?_;refine Aq (tn_ ?_);refine wr_ ?_;refine Ab ?_;obtain ⟨y8,h8,h⟩:=Ad h;obtain ⟨g9,h⟩:=Am h;obtain ⟨g10,h⟩:=Am h;refine Aa 15 ?_;refine rz0 (ai a0) ?_;refine rz0 (.own (oi 176 3) (.slice .int) 0 y4.length) ?_;refine rz0 (ai a2) ?_;refine rz0 (.own (oi 224 7) (.slice .int) 0 y4.length) ?_;refine C3 (ai ((y8.2.2:Nat):Int)) [(oi 176 3,some (.mat 23 (oi 304 13) .int y8.1)),(oi 304 13,some (.pool 3 .int y8.1)),(oi 224 7,some (.mat 23 (oi 305 13) .int y8.2.1)),(oi 305 13,some (.pool 3 .int y8.2.1)),(oi 176 3,none),(oi 177 3,some (.pool 3 .int [])),(oi 224 7,none),(oi 224 7,some (.pool 3 .int []))] [(oi 0 0,oi 176 3),(oi 1 0,oi 177 3),(oi 2 0,oi 224 7),(oi 3 0,oi 224 7)] [ai a0,.own (oi 176 3) (.slice .int) 0 y4.length,ai a2,.own (oi 224 7) (.slice .int) 0 y4.length] (caps:=[]) trivial (Vj h8 rfl List.length_replicate.symm) Vn ⟨by kernel_rfl,⟨by kernel_rfl,⟨by kernel_rfl,⟨by kernel_rfl,trivial⟩⟩⟩⟩ (.cons (.ren (by kernel_rfl)) (.cons (.ren (by kernel_rfl)) (.cons (.ren (by kernel_rfl)) (.cons (.ren (by kernel_rfl)) .nil)))) (A7 (by kernel_rfl) (by kernel_rfl) ⟨B2 (by kernel_rfl),⟨Ks (o:=oi 176 3) (p:=oi 177 3) (e1:=23) (m:=y4.length) (u:=.int) (xss:=y4) (B2 (by kernel_rfl)) (by kernel_rfl),⟨B2 (by kernel_rfl),⟨Ks (o:=oi 224 7) (p:=oi 224 7) (e1:=23) (m:=(List.replicate y4.length ([]:List Int)).length) (u:=.int) (xss:=List.replicate y4.length ([]:List Int)) (B2 (by kernel_rfl)) (by kernel_rfl),trivial⟩⟩⟩⟩) ?_;refine rsB 1 ?_;refine Aq (tn_ ?_);refine wr_ ?_;refine Ab ?_;obtain ⟨g12,h⟩:=Am h;refine Aa 20 ?_;refine rz0 (.own (oi 176 3) (.slice .int) 0 y4.length) ?_;refine rz0 (ai ((y8.2.2:Nat):Int)) ?_;refine rz0 (ai ((y8.2.2:Nat):Int)) ?_;refine rs2 (.own (oi 23 18) (.slice .int) 0 y8.2.2) (oi 176 3) (oi 23 18) (.vec 23 1 y8.2.2 ((hdL (oi 304 13) .int y8.1).take y8.2.2)) (Amy (t:=.slice .int) (len:=y4.length) (kh:=.i64) (km:=.i64) (h:=((y8.2.2:Nat):Int)) (m:=((y8.2.2:Nat):Int)) (j:=y8.2.2) (i:=oi 176 3) (N:=y8.1.length) (e:=23) (cs:=hdL (oi 304 13) .int y8.1) (by kernel_rfl) (by kernel_rfl) (by kernel_rfl) (by kernel_rfl) rfl g12 rfl (by have z_:y4.length=y8.1.length:=g9.symm; omega)) ?_;refine rsB 1 ?_;refine Aq (tn_ ?_);refine ⟨_,Ajw (e1:=23) (e:=3) (u:=.int) (xss:=y8.1) (k:=y8.2.2) 9000 (oi 23 18) (oi 304 13) (by kernel_rfl) (by kernel_rfl) (by kernel_rfl) (by have z_:y4.length=y8.1.length:=g9.symm; omega) (by kernel_rfl) (by kernel_rfl),?_⟩;refine Ao ?_;obtain rfl:=zj h;exact Gk [.own (oi 0 1) (.slice .int) 0 ((y8.1.take y8.2.2).length)] ((A9 6 (.own (oi 23 18) (.slice .int) 0 y8.2.2) (.own (oi 23 18) (.slice .int) 0 ((y8.1.take y8.2.2).length)) (by kernel_rfl) (congrArg (fun z_=>((.own (oi 23 18) (.slice .int) 0 z_):AV)) ((Agd (by have z_:y4.length=y8.1.length:=g9.symm; omega)):y8.2.2=(y8.1.take y8.2.2).length))).trans (Ac (tl:=[(6,.own (oi 0 1) (.slice .int) 0 (y8.1.take y8.2.2).length)]) (g:=2) [(oi 0 1,oi 23 18),(oi 1 1,oi 9000 20)]))
end
end Go.Proofs.YtkaollfdhoaihaaDoor
