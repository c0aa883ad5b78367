/- Lemmas on the program and on partial functions that stand in place of its code (part 5); no condition beyond those that each one states. -/
import Derived.Test.YtjlcpiemabfpiaaDoorZ4
import Derived.Lib.SplitLaws
import Derived.Lib.Join
namespace Go.Proofs.YtjlcpiemabfpiaaDoor
open Go.RowKit Go.Deep
set_option maxRecDepth 4000
def Jj:AC :=
 (.seq (rg [xo 4 (.i (.box 24 (tm 1))),xo 5 (.i (.box 35 (tm 2))),xo 6 (qm (cb false))])
 (.seq (.region [xf 10 1 5,xl 11 10,xf 12 3 4,xl 13 12,xo 14 (qb .sub (tm 13) (ci 1)),xo 15 (qc 10 [tm 11,ci 0,tm 14] [[],[],[]]),xf 16 2 5,xl 17 16,xf 18 3 4,xl 19 18,xo 20 (qb .sub (tm 19) (ci 1)),xo 21 (qc 10 [tm 17,ci 0,tm 20] [[],[],[]]),xf 22 3 5,xl 23 22,xf 24 3 4,xl 25 24,xo 26 (qb .sub (tm 25) (ci 1)),xo 27 (qc 10 [tm 23,ci 0,tm 26] [[],[],[]]),xm 7 15,xm 8 21,xm 9 27] true [(5,7),(5,9),(5,13),(11,13),(5,15),(11,15)])
 (.seq (.seq (rg [xf 28 0 5,xl 29 28])
 (.block 0 (.seq (rg [xo 31 (qb .eql (tm 29) (ci 1)),xm 30 31])
 (.cond (tm 30)
  (.seq (rg [xm 32 7,xm 33 32,⟨some 34,some (33,true),qf 2 (tm 5)⟩,⟨some 35,some (33,true),ql (tm 34)⟩,⟨some 36,some (33,true),qf 0 (tm 4)⟩,⟨some 37,some (33,true),ql (tm 36)⟩,⟨some 38,some (33,true),qb .sub (tm 37) (ci 1)⟩,⟨some 39,some (33,true),qc 10 [tm 35,ci 0,tm 38] [[],[],[]]⟩,xo 40 (.i (.pick (tm 33) (tm 39) (cb false))),xm 41 40,⟨some 42,some (41,true),qf 3 (tm 5)⟩,⟨some 43,some (41,true),ql (tm 42)⟩,⟨some 44,some (41,true),qb .eql (tm 43) (ci 0)⟩,xo 45 (.i (.pick (tm 41) (tm 44) (cb false))),xm 46 45,⟨some 47,some (46,true),qf 4 (tm 5)⟩,⟨some 48,some (46,true),ql (tm 47)⟩,⟨some 49,some (46,true),qb .eql (tm 48) (ci 0)⟩,xo 50 (.i (.pick (tm 46) (tm 49) (cb false))),xm 6 50])
  .ret)
  (.seq (rg [xo 52 (qb .eql (tm 29) (ci 2)),xm 51 52])
  (.cond (tm 51)
   (.seq (rg [xm 53 7,xm 54 53,⟨some 55,some (54,true),qf 2 (tm 5)⟩,⟨some 56,some (54,true),ql (tm 55)⟩,⟨some 57,some (54,true),qb .eql (tm 56) (ci 0)⟩,xo 58 (.i (.pick (tm 54) (tm 57) (cb false))),xm 59 58,⟨some 60,some (59,true),qf 3 (tm 5)⟩,⟨some 61,some (59,true),ql (tm 60)⟩,⟨some 62,some (59,true),qb .eql (tm 61) (ci 0)⟩,xo 63 (.i (.pick (tm 59) (tm 62) (cb false))),xm 64 63,⟨some 65,some (64,true),qf 4 (tm 5)⟩,⟨some 66,some (64,true),ql (tm 65)⟩,⟨some 67,some (64,true),qb .eql (tm 66) (ci 0)⟩,xo 68 (.i (.pick (tm 64) (tm 67) (cb false))),xm 6 68])
   .ret)
   (.seq (rg [xo 70 (qb .eql (tm 29) (ci 3)),xm 69 70])
   (.cond (tm 69)
    (.seq (rg [xm 71 7,xm 72 71,⟨some 73,some (72,true),qm (tm 8)⟩,xo 74 (.i (.pick (tm 72) (tm 73) (cb false))),xm 75 74,⟨some 76,some (75,true),qm (tm 9)⟩,xo 77 (.i (.pick (tm 75) (tm 76) (cb false))),xm 78 77,⟨some 79,some (78,true),qf 4 (tm 5)⟩,⟨some 80,some (78,true),ql (tm 79)⟩,⟨some 81,some (78,true),qb .eql (tm 80) (ci 0)⟩,xo 82 (.i (.pick (tm 78) (tm 81) (cb false))),xm 6 82])
    .ret)
    (.seq (rg [xo 84 (qb .eql (tm 29) (ci 4)),xm 83 84])
    (.cond (tm 83)
     (.seq (rg [xm 85 7,xm 86 85,⟨some 87,some (86,true),qm (tm 8)⟩,xo 88 (.i (.pick (tm 86) (tm 87) (cb false))),xm 89 88,⟨some 90,some (89,true),qf 3 (tm 5)⟩,⟨some 91,some (89,true),ql (tm 90)⟩,⟨some 92,some (89,true),qb .eql (tm 91) (ci 0)⟩,xo 93 (.i (.pick (tm 89) (tm 92) (cb false))),xm 94 93,⟨some 95,some (94,true),qf 4 (tm 5)⟩,⟨some 96,some (94,true),ql (tm 95)⟩,⟨some 97,some (94,true),qm (tm 0)⟩,⟨some 98,some (94,true),qb .sub (tm 97) (ci 1)⟩,⟨some 99,some (94,true),qc 10 [tm 96,ci 0,tm 98] [[],[],[]]⟩,xo 100 (.i (.pick (tm 94) (tm 99) (cb false))),xm 6 100])
     .ret)
     (.seq (.seq (rg [xo 102 (qb .eql (tm 29) (ci 5)),xm 101 102])
     (.cond (tm 101)
      .skip
      (rg [xo 103 (qb .eql (tm 29) (ci 6)),xm 101 103])))
     (.cond (tm 101)
      (.seq (rg [xm 104 7,xm 105 104,⟨some 106,some (105,true),qf 2 (tm 5)⟩,⟨some 107,some (105,true),ql (tm 106)⟩,⟨some 108,some (105,true),qf 2 (tm 4)⟩,⟨some 109,some (105,true),ql (tm 108)⟩,⟨some 110,some (105,true),qb .sub (tm 109) (ci 1)⟩,⟨some 111,some (105,true),qc 10 [tm 107,ci 0,tm 110] [[],[],[]]⟩,xo 112 (.i (.pick (tm 105) (tm 111) (cb false))),xm 113 112,⟨some 114,some (113,true),qf 3 (tm 5)⟩,⟨some 115,some (113,true),ql (tm 114)⟩,⟨some 116,some (113,true),qb .eql (tm 115) (ci 0)⟩,xo 117 (.i (.pick (tm 113) (tm 116) (cb false))),xm 118 117,⟨some 119,some (118,true),qf 4 (tm 5)⟩,⟨some 120,some (118,true),ql (tm 119)⟩,⟨some 121,some (118,true),qb .eql (tm 120) (ci 0)⟩,xo 122 (.i (.pick (tm 118) (tm 121) (cb false))),xm 6 122])
      .ret)
      (.seq (rg [xo 124 (qb .eql (tm 29) (ci 7)),xm 123 124])
      (.cond (tm 123)
       (.seq (rg [xm 125 7,xm 126 125,⟨some 127,some (126,true),qf 2 (tm 5)⟩,⟨some 128,some (126,true),ql (tm 127)⟩,⟨some 129,some (126,true),qf 1 (tm 4)⟩,⟨some 130,some (126,true),ql (tm 129)⟩,⟨some 131,some (126,true),qb .sub (tm 130) (ci 1)⟩,⟨some 132,some (126,true),qc 10 [tm 128,ci 0,tm 131] [[],[],[]]⟩,xo 133 (.i (.pick (tm 126) (tm 132) (cb false))),xm 134 133,⟨some 135,some (134,true),qf 3 (tm 5)⟩,⟨some 136,some (134,true),ql (tm 135)⟩,⟨some 137,some (134,true),qb .eql (tm 136) (ci 0)⟩,xo 138 (.i (.pick (tm 134) (tm 137) (cb false))),xm 139 138,⟨some 140,some (139,true),qf 4 (tm 5)⟩,⟨some 141,some (139,true),ql (tm 140)⟩,⟨some 142,some (139,true),qb .eql (tm 141) (ci 0)⟩,xo 143 (.i (.pick (tm 139) (tm 142) (cb false))),xm 6 143])
       .ret)
       .skip))))))))))))))
 (.seq (rg [xo 6 (qm (cb false))])
 .ret))))
def Qn:List Res:=[.tmp 6]
theorem Qz:A2 Tryd.prog Tryd.f25=some (Jj,Qn):=by kernel_rfl
def Ef (a0 u5:Int) (u6 u7 u4:Int) (ug:List (Int×Int×Int×Int×Int)) (u0 u8:Int) (u3 u1 u2:Int):Option Bool :=
 (Bb u8 0 (wI (u4 - 1))).bind fun y3 =>
(Bb u3 0 (wI (u4 - 1))).bind fun y4 =>
(Bb u1 0 (wI (u4 - 1))).bind fun y5 =>
cond (u0==1)
 ((cond y3
   ((Bb u3 0 (wI (u5 - 1))).bind fun y12 =>
   cond y12
    (cond (u1==0)
     (some (u2==0))
     (some false))
    (some false))
   (some false)).bind fun u9 =>
 some u9)
 (cond (u0==2)
  ((cond y3
    (cond (u3==0)
     (cond (u1==0)
      (some (u2==0))
      (some false))
     (some false))
    (some false)).bind fun ua =>
  some ua)
  (cond (u0==3)
   ((cond y3
     (cond y4
      (cond y5
       (some (u2==0))
       (some false))
      (some false))
     (some false)).bind fun ub =>
   some ub)
   (cond (u0==4)
    ((cond y3
      (cond y4
       (cond (u1==0)
        ((Bb u2 0 (wI (a0 - 1))).bind fun y33 =>
        some y33)
        (some false))
       (some false))
      (some false)).bind fun uc =>
    some uc)
    ((cond (u0==5)
      (some (u0==5))
      (some (u0==6))).bind fun ud =>
    cond ud
     ((cond y3
       ((Bb u3 0 (wI (u7 - 1))).bind fun y40 =>
       cond y40
        (cond (u1==0)
         (some (u2==0))
         (some false))
        (some false))
       (some false)).bind fun ue =>
     some ue)
     (cond (u0==7)
      ((cond y3
        ((Bb u3 0 (wI (u6 - 1))).bind fun y47 =>
        cond y47
         (cond (u1==0)
          (some (u2==0))
          (some false))
         (some false))
        (some false)).bind fun uf =>
      some uf)
      (some false))))))
def Ox (r:Bool):RV:=⟨false,[(false,[.sc (.bool r)])]⟩
set_option maxHeartbeats 1600000 in
theorem Oi {a0 u2:Int} {u3 u4 u0:Int} {u9:List (Int×Int×Int×Int×Int)} {u8 u5:Int} {u1 u6 u7:Int} {r:Bool} (h:Ef a0 u2 u3 u4 u0 u9 u8 u5 u1 u6 u7=some r):A7 Tryd.prog Tab 25 [ai a0,.agg [ai u2,ai u3,ai u4,ai u0,.tree T5 u9],.agg [ai u8,ai u5,ai u1,ai u6,ai u7]] (Ox r):=by
 refine A5 (by kernel_rfl) Tryd.func25 Qz (n:=144) (by kernel_rfl) (by simp) rfl ?_;unfold Jj;unfold Ef at h;refine Al (Ab ?_);obtain ⟨y3,h3,h⟩:=Ag h;obtain ⟨y4,h4,h⟩:=Ag h;obtain ⟨y5,h5,h⟩:=Ag h;refine Bh 25 (dz0 (.box (oi 5 2) 1) (dzl (ai u5) (dz0 (.box (oi 4 1) 3) (dzl (ai u0) (dz0 (ai (wI (u0 - 1))) (dzc (.bool y3) [] [ai u5,ai 0,ai (wI (u0 - 1))] (Bl h3) (dz0 (.box (oi 5 2) 2) (dzl (ai u1) (dz0 (.box (oi 4 1) 3) (dzl (ai u0) (dz0 (ai (wI (u0 - 1))) (dzc (.bool y4) [] [ai u1,ai 0,ai (wI (u0 - 1))] (Bl h4) (dz0 (.box (oi 5 2) 3) (dzl (ai u6) (dz0 (.box (oi 4 1) 3) (dzl (ai u0) (dz0 (ai (wI (u0 - 1))) (dzc (.bool y5) [] [ai u6,ai 0,ai (wI (u0 - 1))] (Bl h5) (dz0 (.bool y3) (dz0 (.bool y4) (dz0 (.bool y5) (Kj (Bv (by kernel_rfl)) (tn_ (wr_ (Ab (Al (At (Al ?_))))))))))))))))))))))))))));rcases Ac h with ⟨q9,h⟩ | ⟨q9,h⟩
 ·refine Ae q9 (Ax h (fun (ua:Bool) S_=>S_=⟨Ak [(6,.bool ua)],Ai (Ar []),2⟩) ?_ ?_)
  ·intro v_ h;refine Aa 49 (rsT 2 ?_);rcases Ac h with ⟨q11,h⟩ | ⟨q11,h⟩
   ·obtain ⟨y12,h12,h⟩:=Ag h;refine rq 33 q11 (rsT 5 (Cu (.bool y12) [] [ai u1,ai 0,ai (wI (u2 - 1))] _ (caps:=[]) (args0:=[ai u1,ai 0,ai (wI (u2 - 1))]) (Ds (by kernel_rfl)) (by kernel_rfl) (Bl h12) Dc (rsT 2 ?_)));rcases Ac h with ⟨q13,h⟩ | ⟨q13,h⟩
    ·refine rq 41 q13 (rsT 5 ?_);rcases Ac h with ⟨q14,h⟩ | ⟨q14,h⟩
     ·refine rq 46 q14 (rsT 5 (Am (tn_ ?_)));obtain rfl:=zj h;exact ⟨_,Ad [],rfl⟩
     refine rq 46 q14 (rsT 5 (Am (tn_ ?_)));obtain rfl:=zj h;exact ⟨_,Ad [],rfl⟩
    refine rq 41 q13 (rsT 10 (Am (tn_ ?_)));obtain rfl:=zj h;exact ⟨_,Ad [],rfl⟩
   refine rq 33 q11 (rsT 18 (Am (tn_ ?_)));obtain rfl:=zj h;exact ⟨_,Ad [],rfl⟩
  rintro ua _ rfl h
  (try dsimp only at h);refine Ah (br_ (tr_ ?_));obtain rfl:=zj h;exact A6 [.bool ua] (Av rfl zl Aw)
 refine Af q9 (Al ?_);rcases Ac h with ⟨q16,h⟩ | ⟨q16,h⟩
 ·refine Ae q16 (Ax h (fun (ub:Bool) S_=>S_=⟨Ak [(6,.bool ub)],Ai (Ar []),2⟩) ?_ ?_)
  ·intro v_ h;refine Aa 48 (rsT 2 ?_);rcases Ac h with ⟨q18,h⟩ | ⟨q18,h⟩
   ·refine rq 54 q18 (rsT 5 ?_);rcases Ac h with ⟨q19,h⟩ | ⟨q19,h⟩
    ·refine rq 59 q19 (rsT 5 ?_);rcases Ac h with ⟨q20,h⟩ | ⟨q20,h⟩
     ·refine rq 64 q20 (rsT 5 (Am (tn_ ?_)));obtain rfl:=zj h;exact ⟨_,Ad [],rfl⟩
     refine rq 64 q20 (rsT 5 (Am (tn_ ?_)));obtain rfl:=zj h;exact ⟨_,Ad [],rfl⟩
    refine rq 59 q19 (rsT 10 (Am (tn_ ?_)));obtain rfl:=zj h;exact ⟨_,Ad [],rfl⟩
   refine rq 54 q18 (rsT 15 (Am (tn_ ?_)));obtain rfl:=zj h;exact ⟨_,Ad [],rfl⟩
  rintro ub _ rfl h
  (try dsimp only at h);refine Ah (br_ (tr_ ?_));obtain rfl:=zj h;exact A6 [.bool ub] (Av rfl zl Aw)
 refine Af q16 (Al ?_);rcases Ac h with ⟨q22,h⟩ | ⟨q22,h⟩
 ·refine Ae q22 (Ax h (fun (uc:Bool) S_=>S_=⟨Ak [(6,.bool uc)],Ai (Ar []),2⟩) ?_ ?_)
  ·intro v_ h;refine Aa 46 (rsT 2 ?_);rcases Ac h with ⟨q24,h⟩ | ⟨q24,h⟩
   ·refine rq 72 q24 (rsT 3 ?_);rcases Ac h with ⟨q25,h⟩ | ⟨q25,h⟩
    ·refine rq 75 q25 (rsT 3 ?_);rcases Ac h with ⟨q26,h⟩ | ⟨q26,h⟩
     ·refine rq 78 q26 (rsT 5 (Am (tn_ ?_)));obtain rfl:=zj h;exact ⟨_,Ad [],rfl⟩
     refine rq 78 q26 (rsT 5 (Am (tn_ ?_)));obtain rfl:=zj h;exact ⟨_,Ad [],rfl⟩
    refine rq 75 q25 (rsT 8 (Am (tn_ ?_)));obtain rfl:=zj h;exact ⟨_,Ad [],rfl⟩
   refine rq 72 q24 (rsT 11 (Am (tn_ ?_)));obtain rfl:=zj h;exact ⟨_,Ad [],rfl⟩
  rintro uc _ rfl h
  (try dsimp only at h);refine Ah (br_ (tr_ ?_));obtain rfl:=zj h;exact A6 [.bool uc] (Av rfl zl Aw)
 refine Af q22 (Al ?_);rcases Ac h with ⟨q28,h⟩ | ⟨q28,h⟩
 ·refine Ae q28 (Ax h (fun (ud:Bool) S_=>S_=⟨Ak [(6,.bool ud)],Ai (Ar []),2⟩) ?_ ?_)
  ·intro v_ h;refine Aa 52 (rsT 2 ?_);rcases Ac h with ⟨q30,h⟩ | ⟨q30,h⟩
   ·refine rq 86 q30 (rsT 3 ?_);rcases Ac h with ⟨q31,h⟩ | ⟨q31,h⟩
    ·refine rq 89 q31 (rsT 5 ?_);rcases Ac h with ⟨q32,h⟩ | ⟨q32,h⟩
     ·obtain ⟨y33,h33,h⟩:=Ag h;refine rq 94 q32 (rsT 4 (Cu (.bool y33) [] [ai u7,ai 0,ai (wI (a0 - 1))] _ (caps:=[]) (args0:=[ai u7,ai 0,ai (wI (a0 - 1))]) (Ds (by kernel_rfl)) (by kernel_rfl) (Bl h33) Dc (rsT 2 (Am (tn_ ?_)))));obtain rfl:=zj h;exact ⟨_,Ad [],rfl⟩
     refine rq 94 q32 (rsT 7 (Am (tn_ ?_)));obtain rfl:=zj h;exact ⟨_,Ad [],rfl⟩
    refine rq 89 q31 (rsT 12 (Am (tn_ ?_)));obtain rfl:=zj h;exact ⟨_,Ad [],rfl⟩
   refine rq 86 q30 (rsT 15 (Am (tn_ ?_)));obtain rfl:=zj h;exact ⟨_,Ad [],rfl⟩
  rintro ud _ rfl h
  (try dsimp only at h);refine Ah (br_ (tr_ ?_));obtain rfl:=zj h;exact A6 [.bool ud] (Av rfl zl Aw)
 refine Af q28 (Ax h (fun (ug:Bool) S_=>S_=⟨Ak [(4,.box (oi 0 1) 0),(5,.box (oi 1 1) 0),(7,.bool y3),(29,ai u8),(101,.bool ug)],Ai (Ar [(oi 0 1,.cells 24 [ai u2,ai u3,ai u4,ai u0,.tree T5 u9]),(oi 1 1,.cells 35 [ai u8,ai u5,ai u1,ai u6,ai u7])]),2⟩) ?_ ?_)
 ·intro v_ h;refine Al ?_;rcases Ac h with ⟨q36,h⟩ | ⟨q36,h⟩
  ·refine Ae q36 (Aj (tn_ ?_));obtain rfl:=zj h;exact ⟨_,Ad [(oi 0 1,oi 4 1),(oi 1 1,oi 5 2)],rfl⟩
  refine Af q36 (Aa 39 (rsT 2 (Am (tn_ ?_))));obtain rfl:=zj h;exact ⟨_,Ad [(oi 0 1,oi 4 1),(oi 1 1,oi 5 2)],rfl⟩
 rintro ug _ rfl h
 (try dsimp only at h);rcases Ac h with ⟨q37,h⟩ | ⟨q37,h⟩
 ·refine Ae q37 (Ax h (fun (ue:Bool) S_=>S_=⟨Ak [(6,.bool ue)],Ai (Ar []),2⟩) ?_ ?_)
  ·intro v_ h;refine Aa 22 (rsT 2 ?_);rcases Ac h with ⟨q39,h⟩ | ⟨q39,h⟩
   ·obtain ⟨y40,h40,h⟩:=Ag h;refine rq 105 q39 (rsT 5 (Cu (.bool y40) [] [ai u1,ai 0,ai (wI (u4 - 1))] _ (caps:=[]) (args0:=[ai u1,ai 0,ai (wI (u4 - 1))]) (Ds (by kernel_rfl)) (by kernel_rfl) (Bl h40) Dc (rsT 2 ?_)));rcases Ac h with ⟨q41,h⟩ | ⟨q41,h⟩
    ·refine rq 113 q41 (rsT 5 ?_);rcases Ac h with ⟨q42,h⟩ | ⟨q42,h⟩
     ·refine rq 118 q42 (rsT 5 (Am (tn_ ?_)));obtain rfl:=zj h;exact ⟨_,Ad [],rfl⟩
     refine rq 118 q42 (rsT 5 (Am (tn_ ?_)));obtain rfl:=zj h;exact ⟨_,Ad [],rfl⟩
    refine rq 113 q41 (rsT 10 (Am (tn_ ?_)));obtain rfl:=zj h;exact ⟨_,Ad [],rfl⟩
   refine rq 105 q39 (rsT 18 (Am (tn_ ?_)));obtain rfl:=zj h;exact ⟨_,Ad [],rfl⟩
  rintro ue _ rfl h
  (try dsimp only at h);refine Ah (br_ (tr_ ?_));obtain rfl:=zj h;exact A6 [.bool ue] (Av rfl zl Aw)
 refine Af q37 (Al ?_);rcases Ac h with ⟨q44,h⟩ | ⟨q44,h⟩
 ·refine Ae q44 (Ax h (fun (uf:Bool) S_=>S_=⟨Ak [(6,.bool uf)],Ai (Ar []),2⟩) ?_ ?_)
  ·intro v_ h;refine Aa 24 (rsT 2 ?_);rcases Ac h with ⟨q46,h⟩ | ⟨q46,h⟩
   ·obtain ⟨y47,h47,h⟩:=Ag h;refine rq 126 q46 (rsT 5 (Cu (.bool y47) [] [ai u1,ai 0,ai (wI (u3 - 1))] _ (caps:=[]) (args0:=[ai u1,ai 0,ai (wI (u3 - 1))]) (Ds (by kernel_rfl)) (by kernel_rfl) (Bl h47) Dc (rsT 2 ?_)));rcases Ac h with ⟨q48,h⟩ | ⟨q48,h⟩
    ·refine rq 134 q48 (rsT 5 ?_);rcases Ac h with ⟨q49,h⟩ | ⟨q49,h⟩
     ·refine rq 139 q49 (rsT 5 (Am (tn_ ?_)));obtain rfl:=zj h;exact ⟨_,Ad [],rfl⟩
     refine rq 139 q49 (rsT 5 (Am (tn_ ?_)));obtain rfl:=zj h;exact ⟨_,Ad [],rfl⟩
    refine rq 134 q48 (rsT 10 (Am (tn_ ?_)));obtain rfl:=zj h;exact ⟨_,Ad [],rfl⟩
   refine rq 126 q46 (rsT 18 (Am (tn_ ?_)));obtain rfl:=zj h;exact ⟨_,Ad [],rfl⟩
  rintro uf _ rfl h
  (try dsimp only at h);refine Ah (br_ (tr_ ?_));obtain rfl:=zj h;exact A6 [.bool uf] (Av rfl zl Aw)
 refine Af q44 (Aj (bn_ (tn_ (wr_ (Al (Ah ?_))))));obtain rfl:=zj h;exact A6 [.bool false] (Av rfl zl Aw)
def Hw:AC :=
 (.seq (rg [xs1 44 43 42])
 (.seq (.cond (tm 44)
  .skip
  (.exit 0))
 (.seq (.block 1 (.seq (rg [xx 45 5 41 43,xo 46 (.i (.ld false 5 (tm 45))),xo 6 (.i (.alloc 35 [.int .i64 0,.int .i64 0,.int .i64 0,.int .i64 0,.int .i64 0])),xn (.st false 5 (tm 6) (tm 46))])
 (.seq (rg [xm 47 0,xo 48 (.i (.ld false 5 (tm 3))),xo 49 (.i (.ld false 5 (tm 6))),⟨some 50,none,qc 25 [tm 47,tm 48,tm 49] [[],[none,none,none,none,some T5],[none,none,none,none,none]]⟩,xo 51 (.i (.not (tm 50)))])
 (.cond (tm 51)
  (.seq (rg [xo 4 (qm (cb false))])
  .ret)
  .skip))))
 (rg [xa 52 43,xm 43 52]))))
def Kx:AC :=
 (.seq (rg [xo 3 (.i (.box 24 (tm 1))),xo 4 (qm (cb false))])
 (.seq (.seq (rg [xm 7 0,xo 8 (qc 24 [tm 7] [[]]),xo 9 (.i (.not (tm 8))),xm 10 9,⟨some 11,some (10,false),qf 0 (tm 3)⟩,⟨some 12,some (10,false),ql (tm 11)⟩,⟨some 13,some (10,false),qc 10 [tm 12,ci 0,ci 8] [[],[],[]]⟩,⟨some 14,some (10,false),.i (.not (tm 13))⟩,xo 15 (.i (.pick (tm 10) (cb true) (tm 14))),xm 16 15,⟨some 17,some (16,false),qf 1 (tm 3)⟩,⟨some 18,some (16,false),ql (tm 17)⟩,⟨some 19,some (16,false),qc 10 [tm 18,ci 0,ci 8] [[],[],[]]⟩,⟨some 20,some (16,false),.i (.not (tm 19))⟩,xo 21 (.i (.pick (tm 16) (cb true) (tm 20))),xm 22 21,⟨some 23,some (22,false),qf 2 (tm 3)⟩,⟨some 24,some (22,false),ql (tm 23)⟩,⟨some 25,some (22,false),qc 10 [tm 24,ci 0,ci 40] [[],[],[]]⟩,⟨some 26,some (22,false),.i (.not (tm 25))⟩,xo 27 (.i (.pick (tm 22) (cb true) (tm 26))),xm 28 27,⟨some 29,some (28,false),qf 3 (tm 3)⟩,⟨some 30,some (28,false),ql (tm 29)⟩,⟨some 31,some (28,false),qc 10 [tm 30,ci 0,ci 16] [[],[],[]]⟩,⟨some 32,some (28,false),.i (.not (tm 31))⟩,xo 33 (.i (.pick (tm 28) (cb true) (tm 32))),xm 34 33,⟨some 35,some (34,false),qf 4 (tm 3)⟩,⟨some 36,some (34,false),ql (tm 35)⟩,⟨some 37,some (34,false),.i (.len (tm 36))⟩,⟨some 38,some (34,false),qb .gtr (tm 37) (ci 120)⟩,xo 39 (.i (.pick (tm 34) (cb true) (tm 38)))])
 (.cond (tm 39)
  (.seq (rg [xo 4 (qm (cb false))])
  .ret)
  .skip))
 (.seq (.seq (rg [xf 40 4 3,xl 41 40,xn1 42 41,xo 43 (qm (ci 0))])
 (.block 0 (.loop Hw)))
 (.seq (rg [xo 4 (qm (cb true))])
 .ret))))
def Rw:List Res:=[.tmp 4]
theorem R5:A2 Tryd.prog Tryd.f13=some (Kx,Rw):=by kernel_rfl
theorem P2:Bf Tryd.prog 13=true:=by kernel_rfl
def Em (u1:List (Int×Int×Int×Int×Int)) (a0 u2:Int) (u3 u4 u5:Int) (u0:Nat):Option (Ctl Nat (Ctl Unit Bool)) :=
 cond (decide ((u0:Int)<(u1.length:Int)))
 ((u1[u0]?).bind fun x24 =>
 (Ef a0 u2 u3 u4 u5 u1 x24.1 x24.2.1 x24.2.2.1 x24.2.2.2.1 x24.2.2.2.2).bind fun y26 =>
 cond (!y26)
  (some (Ctl.out (Ctl.out false)))
  (og (u0+1<4611686018427387904) <|
  some (Ctl.next (u0+1))))
 (some (Ctl.out (Ctl.next ())))
def De (a0 u0:Int) (u1 u2 u3:Int) (u4:List (Int×Int×Int×Int×Int)):Option Bool :=
 ((Es a0).bind fun y4 =>
 cond (!y4)
  (some true)
  ((Bb u0 0 8).bind fun y6 =>
  cond (!y6)
   (some true)
   ((Bb u1 0 8).bind fun y8 =>
   cond (!y8)
    (some true)
    ((Bb u2 0 40).bind fun y10 =>
    cond (!y10)
     (some true)
     ((Bb u3 0 16).bind fun y12 =>
     cond (!y12)
      (some true)
      (some (decide (120<(u4.length:Int))))))))).bind fun u5 =>
cond u5
 (some false)
 (On (Bc (fun s_:Nat=>Em u4 a0 u0 u1 u2 u3 s_) 4611686018427387904 0) fun _ =>
 some true)
def Pp (r:Bool):RV:=⟨false,[(false,[.sc (.bool r)])]⟩
theorem Qt {a0 u0:Int} {u1 u2 u3:Int} {u4:List (Int×Int×Int×Int×Int)} {r:Bool} (h:De a0 u0 u1 u2 u3 u4=some r):A7 Tryd.prog Tab 13 [ai a0,.agg [ai u0,ai u1,ai u2,ai u3,.tree T5 u4]] (Pp r):=by
 refine A5 (by kernel_rfl) Tryd.func13 R5 (n:=53) (by kernel_rfl) (by simp) rfl ?_;unfold Kx;unfold De at h;refine Al (Ab (Ax h (fun (u6:Bool) S_=>S_=⟨Ak [(0,ai a0),(3,.box (oi 0 1) 0),(39,.bool u6)],Ai (Ar [(oi 0 1,.cells 24 [ai u0,ai u1,ai u2,ai u3,.tree T5 u4])]),2⟩) ?_ ?_))
 ·intro v_ h;obtain ⟨y4,h4,h⟩:=Ag h;refine Aa 36 (rsT 1 (zc (.bool y4) [] [ai a0] (Rg h4) (rsT 2 ?_)));rcases Ac h with ⟨q5,h⟩ | ⟨q5,h⟩
  ·refine rq 10 q5 (rsT 29 (Am (tn_ ?_)));obtain rfl:=zj h;exact ⟨_,Ad [(oi 0 1,oi 3 1)],rfl⟩
  obtain ⟨y6,h6,h⟩:=Ag h;refine rq 10 q5 (rsT 2 (Cu (.bool y6) [] [ai u0,ai 0,ai 8] _ (caps:=[]) (args0:=[ai u0,ai 0,ai 8]) (Ds (by kernel_rfl)) (by kernel_rfl) (Bl h6) Dc (rsT 3 ?_)));rcases Ac h with ⟨q7,h⟩ | ⟨q7,h⟩
  ·refine rq 16 q7 (rsT 23 (Am (tn_ ?_)));obtain rfl:=zj h;exact ⟨_,Ad [(oi 0 1,oi 3 1)],rfl⟩
  obtain ⟨y8,h8,h⟩:=Ag h;refine rq 16 q7 (rsT 2 (Cu (.bool y8) [] [ai u1,ai 0,ai 8] _ (caps:=[]) (args0:=[ai u1,ai 0,ai 8]) (Ds (by kernel_rfl)) (by kernel_rfl) (Bl h8) Dc (rsT 3 ?_)));rcases Ac h with ⟨q9,h⟩ | ⟨q9,h⟩
  ·refine rq 22 q9 (rsT 17 (Am (tn_ ?_)));obtain rfl:=zj h;exact ⟨_,Ad [(oi 0 1,oi 3 1)],rfl⟩
  obtain ⟨y10,h10,h⟩:=Ag h;refine rq 22 q9 (rsT 2 (Cu (.bool y10) [] [ai u2,ai 0,ai 40] _ (caps:=[]) (args0:=[ai u2,ai 0,ai 40]) (Ds (by kernel_rfl)) (by kernel_rfl) (Bl h10) Dc (rsT 3 ?_)));rcases Ac h with ⟨q11,h⟩ | ⟨q11,h⟩
  ·refine rq 28 q11 (rsT 11 (Am (tn_ ?_)));obtain rfl:=zj h;exact ⟨_,Ad [(oi 0 1,oi 3 1)],rfl⟩
  obtain ⟨y12,h12,h⟩:=Ag h;refine rq 28 q11 (rsT 2 (Cu (.bool y12) [] [ai u3,ai 0,ai 16] _ (caps:=[]) (args0:=[ai u3,ai 0,ai 16]) (Ds (by kernel_rfl)) (by kernel_rfl) (Bl h12) Dc (rsT 3 ?_)));rcases Ac h with ⟨q13,h⟩ | ⟨q13,h⟩
  ·refine rq 34 q13 (rsT 5 (Am (tn_ ?_)));obtain rfl:=zj h;exact ⟨_,Ad [(oi 0 1,oi 3 1)],rfl⟩
  refine rq 34 q13 (rsT 5 (Am (tn_ ?_)));obtain rfl:=zj h;exact ⟨_,Ad [(oi 0 1,oi 3 1)],rfl⟩
 rintro u6 _ rfl h
 (try dsimp only at h);rcases Ac h with ⟨q14,h⟩ | ⟨q14,h⟩
 ·refine Ae q14 (Al (Ah (tr_ ?_)));obtain rfl:=zj h;exact A6 [.bool false] (Av rfl zl Aw)
 refine Af q14 (Aj (tn_ (wr_ (Ey h (fun (_:Unit) S_=>S_=⟨Ak [],Ai (Ar []),2⟩) ?_ ?_))))
 ·intro v_ h hk16;refine Al (At (Bq h (fun (u5:Nat) S_=>S_=⟨Ak [(0,ai a0),(3,.box (oi 0 1) 0),(41,.tree T5 u4),(42,an u4.length),(43,an u5)],Ai (Ar [(oi 0 1,.cells 24 [ai u0,ai u1,ai u2,ai u3,.tree T5 u4])]),2⟩) ⟨_,Ad [],rfl⟩ ?_));rintro n_ u5 _ c_ rfl h hn18
  (try dsimp only at h);unfold Em at h;unfold Hw;refine Al (Ab ?_);rcases Ac h with ⟨q21,h⟩ | ⟨q21,h⟩
  ·have q21_:=of_decide_eq_true q21;refine Ae q21 (Aj (tn_ (wr_ (Ab (At (Ab ?_))))));obtain ⟨x24,e24,h⟩:=Ag h;refine Aa 7 (zI T5 e24 (rsB 3 (Am (tn_ (wr_ (Ab ?_))))));obtain ⟨y26,h26,h⟩:=Ag h;refine Aa 12 (rsT 3 (zc (.bool y26) [] [ai a0,.agg [ai u0,ai u1,ai u2,ai u3,.tree T5 u4],.agg [ai x24.1,ai x24.2.1,ai x24.2.2.1,ai x24.2.2.2.1,ai x24.2.2.2.2]] (Oi h26) (rsT 1 (Am (tn_ (wr_ ?_))))));rcases Ac h with ⟨q27,h⟩ | ⟨q27,h⟩
   ·refine Ae q27 (Al (Ah (br_ (tr_ (tr_ (br_ (tr_ ?_)))))));obtain rfl:=zj h;have h:=hn18
    (try dsimp only at h);obtain rfl:=zj h;have h:=hk16
    (try dsimp only at h);obtain rfl:=zj h;exact A6 [.bool false] (Av rfl zl Aw)
   refine Af q27 (Aj (bn_ (tn_ (wr_ ?_))));obtain ⟨g29,h⟩:=A4 h;refine Aa 14 (zA g29 (rsT 1 (Am (tn_ ?_))));obtain rfl:=zj h;exact ⟨u5+1,_,Ad [],rfl,hn18⟩
  have q21_:=of_decide_eq_false q21;refine Af q21 (Br (te_ (te_ (be_ (tn_ ?_)))));obtain rfl:=zj h;have h:=hn18
  (try dsimp only at h);obtain rfl:=zj h;exact ⟨(),_,rfl,Ad [],rfl⟩
 rintro _ _ rfl h
 (try dsimp only at h);refine Al (Ah ?_);obtain rfl:=zj h;exact A6 [.bool true] (Av rfl zl Aw)
def Ge:AC :=
 (.seq (rg [xo 1 (.i (.box 35 (tm 0))),xo 2 (qm (.cst .nils))])
 (.seq (.seq (rg [xf 3 0 1,xl 4 3])
 (.block 0 (.seq (rg [xo 6 (qb .eql (tm 4) (ci 3)),xm 5 6])
 (.cond (tm 5)
  (.seq (rg [xf 7 2 1,xl 8 7,xf 9 3 1,xl 10 9,xo 11 (.mkS 3 .int [tm 8,tm 10]),xm 2 11])
  .ret)
  (.seq (rg [xo 13 (qb .eql (tm 4) (ci 4)),xm 12 13])
  (.cond (tm 12)
   (.seq (rg [xf 14 2 1,xl 15 14,xo 16 (.mkS 3 .int [tm 15]),xm 2 16])
   .ret)
   (.seq (.seq (rg [xo 18 (qb .eql (tm 4) (ci 6)),xm 17 18])
   (.cond (tm 17)
    .skip
    (rg [xo 19 (qb .eql (tm 4) (ci 7)),xm 17 19])))
   (.cond (tm 17)
    (.seq (rg [xf 20 1 1,xl 21 20,xo 22 (.mkS 3 .int [tm 21]),xm 2 22])
    .ret)
    .skip))))))))
 (.seq (rg [xo 2 (qm (.cst .nils))])
 .ret)))
def K7:List Res:=[.tmp 2]
theorem K4:A2 Tryd.prog Tryd.f48=some (Ge,K7):=by kernel_rfl
theorem Ki:Bf Tryd.prog 48=true:=by kernel_rfl
def D0 (u0 u2:Int) (u1 u3 u5:Int):Option (List Int) :=
 cond (u0==3)
 (some ([u1,u3]))
 (cond (u0==4)
  (some ([u1]))
  ((cond (u0==6)
    (some (u0==6))
    (some (u0==7))).bind fun u4 =>
  cond u4
   (some ([u2]))
   (some [])))
def J8 (r:List Int):RV:=⟨false,[(false,[.new 3 .int r])]⟩
theorem J6 {u0 u1:Int} {u2 u3 u4:Int} {r:List Int} (h:D0 u0 u1 u2 u3 u4=some r):A7 Tryd.prog Tab 48 [.agg [ai u0,ai u1,ai u2,ai u3,ai u4]] (J8 r):=by
 refine A5 (by kernel_rfl) Tryd.func48 K4 (n:=23) (by kernel_rfl) (by simp) rfl ?_;unfold Ge;unfold D0 at h;refine Al (Ab (Al (At (Al ?_))));rcases Ac h with ⟨q5,h⟩ | ⟨q5,h⟩
 ·refine Ae q5 (Al (Ah (br_ (tr_ ?_))));obtain rfl:=zj h;exact A6 [oI 11 11 2] (Av rfl (H4 (by kernel_rfl) rfl) Aw)
 refine Af q5 (Al ?_);rcases Ac h with ⟨q8,h⟩ | ⟨q8,h⟩
 ·refine Ae q8 (Al (Ah (br_ (tr_ ?_))));obtain rfl:=zj h;exact A6 [oI 16 11 1] (Av rfl (H4 (by kernel_rfl) rfl) Aw)
 refine Af q8 (Ax h (fun (u5:Bool) S_=>S_=⟨Ak [(1,.box (oi 0 1) 0),(17,.bool u5)],Ai (Ar [(oi 0 1,.cells 35 [ai u0,ai u1,ai u2,ai u3,ai u4])]),2⟩) ?_ ?_)
 ·intro v_ h;refine Al ?_;rcases Ac h with ⟨q12,h⟩ | ⟨q12,h⟩
  ·refine Ae q12 (Aj (tn_ ?_));obtain rfl:=zj h;exact ⟨_,Ad [(oi 0 1,oi 1 1)],rfl⟩
  refine Af q12 (Aa 13 (rsT 2 (Am (tn_ ?_))));obtain rfl:=zj h;exact ⟨_,Ad [(oi 0 1,oi 1 1)],rfl⟩
 rintro u5 _ rfl h
 (try dsimp only at h);rcases Ac h with ⟨q13,h⟩ | ⟨q13,h⟩
 ·refine Ae q13 (Al (Ah (br_ (tr_ ?_))));obtain rfl:=zj h;exact A6 [oI 22 4 1] (Av rfl (H4 (by kernel_rfl) rfl) Aw)
 refine Af q13 (Aj (bn_ (tn_ (wr_ (Al (Ah ?_))))));obtain rfl:=zj h;exact A6 [.nils] (Av rfl (I8 rfl) Aw)
def E6:AC :=
 (.seq (rg [xo 3 (.i (.box 24 (tm 0))),xo 5 (.i (.box 35 (tm 2))),xo 6 (qm (cb false))])
 (.seq (.seq (.region [xf 8 1 5,xl 9 8,xf 10 3 3,xl 11 10,xo 12 (qb .sub (tm 11) (ci 1)),xo 13 (qc 31 [tm 9,ci 0,tm 12] [[],[],[]]),xo 14 (.i (.not (tm 13))),xm 15 14,⟨some 16,some (15,false),.i (.ld false 5 (tm 5))⟩,⟨some 17,some (15,false),qc 48 [tm 16] [[none,none,none,none,none]]⟩,⟨some 18,some (15,false),qf 3 (tm 3)⟩,⟨some 19,some (15,false),ql (tm 18)⟩,⟨some 20,some (15,false),qc 47 [tm 17,tm 19] [[some .int],[]]⟩,⟨some 21,some (15,false),.i (.not (tm 20))⟩,xo 22 (.i (.pick (tm 15) (cb true) (tm 21)))] true [(9,11)])
 (.cond (tm 22)
  (.seq (rg [xo 6 (qm (cb false))])
  .ret)
  .skip))
 (.seq (rg [xf 23 3 5,xl 24 23,xo 25 (qb .eql (tm 24) (ci 0)),xm 26 25,⟨some 27,some (26,true),qf 4 (tm 5)⟩,⟨some 28,some (26,true),ql (tm 27)⟩,⟨some 29,some (26,true),qb .eql (tm 28) (ci 0)⟩,xo 30 (.i (.pick (tm 26) (tm 29) (cb false))),xm 7 30])
 (.seq (.seq (rg [xf 31 0 5,xl 32 31])
 (.block 0 (.seq (rg [xo 34 (qb .eql (tm 32) (ci 1)),xm 33 34])
 (.cond (tm 33)
  (.seq (rg [xm 35 7,xm 36 35,⟨some 37,some (36,true),qf 2 (tm 5)⟩,⟨some 38,some (36,true),ql (tm 37)⟩,⟨some 39,some (36,true),qf 0 (tm 3)⟩,⟨some 40,some (36,true),ql (tm 39)⟩,⟨some 41,some (36,true),qb .sub (tm 40) (ci 1)⟩,⟨some 42,some (36,true),qc 31 [tm 38,ci 0,tm 41] [[],[],[]]⟩,xo 43 (.i (.pick (tm 36) (tm 42) (cb false))),xm 6 43])
  .ret)
  (.seq (rg [xo 45 (qb .eql (tm 32) (ci 2)),xm 44 45])
  (.cond (tm 44)
   (.seq (rg [xm 46 7,xm 47 46,⟨some 48,some (47,true),qf 2 (tm 5)⟩,⟨some 49,some (47,true),ql (tm 48)⟩,⟨some 50,some (47,true),qb .eql (tm 49) (ci 0)⟩,xo 51 (.i (.pick (tm 47) (tm 50) (cb false))),xm 6 51])
   .ret)
   (.seq (rg [xo 53 (qb .eql (tm 32) (ci 3)),xm 52 53])
   (.cond (tm 52)
    (.seq (rg [xf 54 4 5,xl 55 54,xo 56 (qb .eql (tm 55) (ci 0)),xm 6 56])
    .ret)
    (.seq (rg [xo 58 (qb .eql (tm 32) (ci 4)),xm 57 58])
    (.cond (tm 57)
     (.seq (rg [xf 59 3 5,xl 60 59,xo 61 (qb .eql (tm 60) (ci 0)),xm 62 61,⟨some 63,some (62,true),qm (tm 1)⟩,⟨some 64,some (62,true),qf 4 (tm 5)⟩,⟨some 65,some (62,true),ql (tm 64)⟩,⟨some 66,some (62,true),qc 49 [tm 63,tm 65] [[],[]]⟩,xo 67 (.i (.pick (tm 62) (tm 66) (cb false))),xm 6 67])
     .ret)
     (.seq (.seq (rg [xo 69 (qb .eql (tm 32) (ci 5)),xm 68 69])
     (.cond (tm 68)
      .skip
      (rg [xo 70 (qb .eql (tm 32) (ci 6)),xm 68 70])))
     (.cond (tm 68)
      (.seq (rg [xm 71 7,xm 72 71,⟨some 73,some (72,true),qf 2 (tm 5)⟩,⟨some 74,some (72,true),ql (tm 73)⟩,⟨some 75,some (72,true),qf 2 (tm 3)⟩,⟨some 76,some (72,true),ql (tm 75)⟩,⟨some 77,some (72,true),qb .sub (tm 76) (ci 1)⟩,⟨some 78,some (72,true),qc 31 [tm 74,ci 0,tm 77] [[],[],[]]⟩,xo 79 (.i (.pick (tm 72) (tm 78) (cb false))),xm 6 79])
      .ret)
      (.seq (rg [xo 81 (qb .eql (tm 32) (ci 7)),xm 80 81])
      (.cond (tm 80)
       (.seq (rg [xm 82 7,xm 83 82,⟨some 84,some (83,true),qf 2 (tm 5)⟩,⟨some 85,some (83,true),ql (tm 84)⟩,⟨some 86,some (83,true),qf 1 (tm 3)⟩,⟨some 87,some (83,true),ql (tm 86)⟩,⟨some 88,some (83,true),qb .sub (tm 87) (ci 1)⟩,⟨some 89,some (83,true),qc 31 [tm 85,ci 0,tm 88] [[],[],[]]⟩,xo 90 (.i (.pick (tm 83) (tm 89) (cb false))),xm 6 90])
       .ret)
       .skip))))))))))))))
 (.seq (rg [xo 6 (qm (cb false))])
 .ret)))))
def Ia:List Res:=[.tmp 6]
theorem H8:A2 Tryd.prog Tryd.f34=some (E6,Ia):=by kernel_rfl
def B6 (u7 u8:Int) (u9 u5:Int) (uh:List (Int×Int×Int×Int×Int)) (a1 u0:Int) (u6 u1:Int) (u4 u2:Int):Option Bool :=
 ((Bi u6 0 (wI (u5 - 1))).bind fun y4 =>
 cond (!y4)
  (some true)
  ((D0 u0 u6 u1 u4 u2).bind fun y6 =>
  (C5 y6 u5).bind fun y7 =>
  some (!y7))).bind fun ua =>
cond ua
 (some false)
 ((cond (u4==0)
   (some (u2==0))
   (some false)).bind fun u3 =>
 cond (u0==1)
  ((cond u3
    ((Bi u1 0 (wI (u7 - 1))).bind fun y18 =>
    some y18)
    (some false)).bind fun ub =>
  some ub)
  (cond (u0==2)
   ((cond u3
     (some (u1==0))
     (some false)).bind fun uc =>
   some uc)
   (cond (u0==3)
    (some (u2==0))
    (cond (u0==4)
     ((cond (u4==0)
       ((Dk a1 u2).bind fun y30 =>
       some y30)
       (some false)).bind fun ud =>
     some ud)
     ((cond (u0==5)
       (some (u0==5))
       (some (u0==6))).bind fun ue =>
     cond ue
      ((cond u3
        ((Bi u1 0 (wI (u9 - 1))).bind fun y37 =>
        some y37)
        (some false)).bind fun uf =>
      some uf)
      (cond (u0==7)
       ((cond u3
         ((Bi u1 0 (wI (u8 - 1))).bind fun y42 =>
         some y42)
         (some false)).bind fun ug =>
       some ug)
       (some false)))))))
def Hi (r:Bool):RV:=⟨false,[(false,[.sc (.bool r)])]⟩
set_option maxHeartbeats 1600000 in
theorem H2 {u6 u7:Int} {u8 u1:Int} {u9:List (Int×Int×Int×Int×Int)} {a1 u4:Int} {u3 u0:Int} {u5 u2:Int} {r:Bool} (h:B6 u6 u7 u8 u1 u9 a1 u4 u3 u0 u5 u2=some r):A7 Tryd.prog Tab 34 [.agg [ai u6,ai u7,ai u8,ai u1,.tree T5 u9],ai a1,.agg [ai u4,ai u3,ai u0,ai u5,ai u2]] (Hi r):=by
 refine A5 (by kernel_rfl) Tryd.func34 H8 (n:=91) (by kernel_rfl) (by simp) rfl ?_;unfold E6;unfold B6 at h;refine Al (Ab (Ax h (fun (ug:Bool) S_=>S_=⟨Ak [(1,ai a1),(3,.box (oi 0 1) 0),(5,.box (oi 1 1) 0),(22,.bool ug)],Ai (Ar [(oi 0 1,.cells 24 [ai u6,ai u7,ai u8,ai u1,.tree T5 u9]),(oi 1 1,.cells 35 [ai u4,ai u3,ai u0,ai u5,ai u2])]),2⟩) ?_ ?_))
 ·intro v_ h;obtain ⟨y4,h4,h⟩:=Ag h;refine Bh 19 (dz0 (.box (oi 5 2) 1) (dzl (ai u3) (dz0 (.box (oi 3 1) 3) (dzl (ai u1) (dz0 (ai (wI (u1 - 1))) (dzc (.bool y4) [] [ai u3,ai 0,ai (wI (u1 - 1))] (B8 h4) (dz0 (.bool (!y4)) (dz0 (.bool (!y4)) ?_))))))));rcases Ac h with ⟨q5,h⟩ | ⟨q5,h⟩
  ·refine dq 15 q5 (dz0 (.tup []) (dz0 (.tup []) (dz0 (.tup []) (dz0 (.tup []) (dz0 (.tup []) (dz0 (.tup []) (dz0 (.bool true) (Kj (Bv (by kernel_rfl)) (tn_ ?_)))))))));obtain rfl:=zj h;exact ⟨_,Ad [(oi 0 1,oi 3 1),(oi 1 1,oi 5 2)],rfl⟩
  obtain ⟨y6,h6,h⟩:=Ag h;obtain ⟨y7,h7,h⟩:=Ag h;refine dq 15 q5 (dzl (.agg [ai u4,ai u3,ai u0,ai u5,ai u2]) (U2 (oI 272 13 y6.length) [nI 272 13 y6] [.agg [ai u4,ai u3,ai u0,ai u5,ai u2]] _ (caps:=[]) (args0:=[.agg [ai u4,ai u3,ai u0,ai u5,ai u2]]) (Ds (by kernel_rfl)) (by kernel_rfl) (J6 h6) Ki (dz0 (.box (oi 3 1) 3) (dzl (ai u1) (U2 (.bool y7) [] [oI 272 13 y6.length,ai u1] _ (caps:=[]) (args0:=[tI y6,ai u1]) (Ds (by kernel_rfl)) (An (Eo (e:=3) (by kernel_rfl) rfl) (An (by kernel_rfl) Cq)) (Nr h7) Nf (dz0 (.bool (!y7)) (dz0 (.bool (!y7)) (Kj (Bv (by kernel_rfl)) (tn_ ?_)))))))));obtain rfl:=zj h;exact ⟨_,Ad [(oi 0 1,oi 3 1),(oi 1 1,oi 5 2)],rfl⟩
 rintro ug _ rfl h
 (try dsimp only at h);rcases Ac h with ⟨q8,h⟩ | ⟨q8,h⟩
 ·refine Ae q8 (Al (Ah (tr_ ?_)));obtain rfl:=zj h;exact A6 [.bool false] (Av rfl zl Aw)
 refine Af q8 (Aj (tn_ (wr_ (Ax h (fun (ua:Bool) S_=>S_=⟨Ak [(1,ai a1),(3,.box (oi 0 1) 0),(5,.box (oi 1 1) 0),(7,.bool ua)],Ai (Ar [(oi 0 1,.cells 24 [ai u6,ai u7,ai u8,ai u1,.tree T5 u9]),(oi 1 1,.cells 35 [ai u4,ai u3,ai u0,ai u5,ai u2])]),2⟩) ?_ ?_))))
 ·intro v_ h;refine Aa 11 (rsT 4 ?_);rcases Ac h with ⟨q11,h⟩ | ⟨q11,h⟩
  ·refine rq 26 q11 (rsT 5 (Am (tn_ ?_)));obtain rfl:=zj h;exact ⟨_,Ad [],rfl⟩
  refine rq 26 q11 (rsT 5 (Am (tn_ ?_)));obtain rfl:=zj h;exact ⟨_,Ad [],rfl⟩
 rintro ua _ rfl h
 (try dsimp only at h);refine Ab (Al (At (Al ?_)));rcases Ac h with ⟨q15,h⟩ | ⟨q15,h⟩
 ·refine Ae q15 (Ax h (fun (ub:Bool) S_=>S_=⟨Ak [(6,.bool ub)],Ai (Ar []),2⟩) ?_ ?_)
  ·intro v_ h;refine Aa 16 (rsT 2 ?_);rcases Ac h with ⟨q17,h⟩ | ⟨q17,h⟩
   ·obtain ⟨y18,h18,h⟩:=Ag h;refine rq 36 q17 (rsT 5 (Cu (.bool y18) [] [ai u0,ai 0,ai (wI (u6 - 1))] _ (caps:=[]) (args0:=[ai u0,ai 0,ai (wI (u6 - 1))]) (Ds (by kernel_rfl)) (by kernel_rfl) (B8 h18) C0 (rsT 2 (Am (tn_ ?_)))));obtain rfl:=zj h;exact ⟨_,Ad [],rfl⟩
   refine rq 36 q17 (rsT 8 (Am (tn_ ?_)));obtain rfl:=zj h;exact ⟨_,Ad [],rfl⟩
  rintro ub _ rfl h
  (try dsimp only at h);refine Ah (br_ (tr_ ?_));obtain rfl:=zj h;exact A6 [.bool ub] (Av rfl zl Aw)
 refine Af q15 (Al ?_);rcases Ac h with ⟨q20,h⟩ | ⟨q20,h⟩
 ·refine Ae q20 (Ax h (fun (uc:Bool) S_=>S_=⟨Ak [(6,.bool uc)],Ai (Ar []),2⟩) ?_ ?_)
  ·intro v_ h;refine Aa 15 (rsT 2 ?_);rcases Ac h with ⟨q22,h⟩ | ⟨q22,h⟩
   ·refine rq 47 q22 (rsT 5 (Am (tn_ ?_)));obtain rfl:=zj h;exact ⟨_,Ad [],rfl⟩
   refine rq 47 q22 (rsT 5 (Am (tn_ ?_)));obtain rfl:=zj h;exact ⟨_,Ad [],rfl⟩
  rintro uc _ rfl h
  (try dsimp only at h);refine Ah (br_ (tr_ ?_));obtain rfl:=zj h;exact A6 [.bool uc] (Av rfl zl Aw)
 refine Af q20 (Al ?_);rcases Ac h with ⟨q24,h⟩ | ⟨q24,h⟩
 ·refine Ae q24 (Al (Ah (br_ (tr_ ?_))));obtain rfl:=zj h;exact A6 [.bool (u2==0)] (Av rfl zl Aw)
 refine Af q24 (Al ?_);rcases Ac h with ⟨q27,h⟩ | ⟨q27,h⟩
 ·refine Ae q27 (Ax h (fun (ud:Bool) S_=>S_=⟨Ak [(6,.bool ud)],Ai (Ar []),2⟩) ?_ ?_)
  ·intro v_ h;refine Aa 22 (rsT 4 ?_);rcases Ac h with ⟨q29,h⟩ | ⟨q29,h⟩
   ·obtain ⟨y30,h30,h⟩:=Ag h;refine rq 62 q29 (rsT 3 (Cu (.bool y30) [] [ai a1,ai u2] _ (caps:=[]) (args0:=[ai a1,ai u2]) (Ds (by kernel_rfl)) (by kernel_rfl) (Ms h30) Mw (rsT 2 (Am (tn_ ?_)))));obtain rfl:=zj h;exact ⟨_,Ad [],rfl⟩
   refine rq 62 q29 (rsT 6 (Am (tn_ ?_)));obtain rfl:=zj h;exact ⟨_,Ad [],rfl⟩
  rintro ud _ rfl h
  (try dsimp only at h);refine Ah (br_ (tr_ ?_));obtain rfl:=zj h;exact A6 [.bool ud] (Av rfl zl Aw)
 refine Af q27 (Ax h (fun (uh:Bool) S_=>S_=⟨Ak [(3,.box (oi 0 1) 0),(5,.box (oi 1 1) 0),(7,.bool ua),(32,ai u4),(68,.bool uh)],Ai (Ar [(oi 0 1,.cells 24 [ai u6,ai u7,ai u8,ai u1,.tree T5 u9]),(oi 1 1,.cells 35 [ai u4,ai u3,ai u0,ai u5,ai u2])]),2⟩) ?_ ?_)
 ·intro v_ h;refine Al ?_;rcases Ac h with ⟨q33,h⟩ | ⟨q33,h⟩
  ·refine Ae q33 (Aj (tn_ ?_));obtain rfl:=zj h;exact ⟨_,Ad [],rfl⟩
  refine Af q33 (Aa 16 (rsT 2 (Am (tn_ ?_))));obtain rfl:=zj h;exact ⟨_,Ad [],rfl⟩
 rintro uh _ rfl h
 (try dsimp only at h);rcases Ac h with ⟨q34,h⟩ | ⟨q34,h⟩
 ·refine Ae q34 (Ax h (fun (ue:Bool) S_=>S_=⟨Ak [(6,.bool ue)],Ai (Ar []),2⟩) ?_ ?_)
  ·intro v_ h;refine Aa 12 (rsT 2 ?_);rcases Ac h with ⟨q36,h⟩ | ⟨q36,h⟩
   ·obtain ⟨y37,h37,h⟩:=Ag h;refine rq 72 q36 (rsT 5 (Cu (.bool y37) [] [ai u0,ai 0,ai (wI (u8 - 1))] _ (caps:=[]) (args0:=[ai u0,ai 0,ai (wI (u8 - 1))]) (Ds (by kernel_rfl)) (by kernel_rfl) (B8 h37) C0 (rsT 2 (Am (tn_ ?_)))));obtain rfl:=zj h;exact ⟨_,Ad [],rfl⟩
   refine rq 72 q36 (rsT 8 (Am (tn_ ?_)));obtain rfl:=zj h;exact ⟨_,Ad [],rfl⟩
  rintro ue _ rfl h
  (try dsimp only at h);refine Ah (br_ (tr_ ?_));obtain rfl:=zj h;exact A6 [.bool ue] (Av rfl zl Aw)
 refine Af q34 (Al ?_);rcases Ac h with ⟨q39,h⟩ | ⟨q39,h⟩
 ·refine Ae q39 (Ax h (fun (uf:Bool) S_=>S_=⟨Ak [(6,.bool uf)],Ai (Ar []),2⟩) ?_ ?_)
  ·intro v_ h;refine Aa 14 (rsT 2 ?_);rcases Ac h with ⟨q41,h⟩ | ⟨q41,h⟩
   ·obtain ⟨y42,h42,h⟩:=Ag h;refine rq 83 q41 (rsT 5 (Cu (.bool y42) [] [ai u0,ai 0,ai (wI (u7 - 1))] _ (caps:=[]) (args0:=[ai u0,ai 0,ai (wI (u7 - 1))]) (Ds (by kernel_rfl)) (by kernel_rfl) (B8 h42) C0 (rsT 2 (Am (tn_ ?_)))));obtain rfl:=zj h;exact ⟨_,Ad [],rfl⟩
   refine rq 83 q41 (rsT 8 (Am (tn_ ?_)));obtain rfl:=zj h;exact ⟨_,Ad [],rfl⟩
  rintro uf _ rfl h
  (try dsimp only at h);refine Ah (br_ (tr_ ?_));obtain rfl:=zj h;exact A6 [.bool uf] (Av rfl zl Aw)
 refine Af q39 (Aj (bn_ (tn_ (wr_ (Al (Ah ?_))))));obtain rfl:=zj h;exact A6 [.bool false] (Av rfl zl Aw)
def Gp:AC :=
 (.seq (rg [xo 3 (.i (.box 35 (tm 0))),xo 4 (qm (cb false))])
 (.seq (rg [xo 5 (.i (.ld false 5 (tm 1))),xl 6 2,xo 7 (.i (.ld false 5 (tm 3))),⟨some 8,none,qc 34 [tm 5,tm 6,tm 7] [[none,none,none,none,some T5],[],[none,none,none,none,none]]⟩,xo 9 (.i (.not (tm 8))),xm 4 9])
 .ret))
def Lb:List Res:=[.tmp 4]
theorem Lv:A2 Tryd.prog Tryd.f33=some (Gp,Lb):=by kernel_rfl
theorem Kd:Bf Tryd.prog 33=true:=by kernel_rfl
def Dz (u0 u1:Int) (u2 u3:Int) (u4 u5:Int) (u6 u7 u8:Int) (u9:List (Int×Int×Int×Int×Int)) (ua:Int):Option Bool :=
 (B6 u5 u6 u7 u8 u9 ua u0 u1 u2 u3 u4).bind fun y3 =>
some (!y3)
def Kh (r:Bool):RV:=⟨false,[(false,[.sc (.bool r)])]⟩
theorem Kg {u0 u1:Int} {u2 u3:Int} {u4 u5:Int} {u6 u7 u8:Int} {u9:List (Int×Int×Int×Int×Int)} {ua:Int} {r:Bool} (h:Dz u0 u1 u2 u3 u4 u5 u6 u7 u8 u9 ua=some r):A7 Tryd.prog Tab 33 [.agg [ai u0,ai u1,ai u2,ai u3,ai u4],.ref [ai u5,ai u6,ai u7,ai u8,.tree T5 u9],.ref [ai ua]] (Kh r):=by
 refine A5 (by kernel_rfl) Tryd.func33 Lv (n:=10) (by kernel_rfl) (by simp) rfl ?_;unfold Gp;unfold Dz at h;refine Al (Ab ?_);obtain ⟨y3,h3,h⟩:=Ag h;refine Aa 9 (rsT 3 (zc (.bool y3) [] [.agg [ai u5,ai u6,ai u7,ai u8,.tree T5 u9],ai ua,.agg [ai u0,ai u1,ai u2,ai u3,ai u4]] (H2 h3) (rsT 2 (Am (tn_ (wr_ (Ah ?_)))))));obtain rfl:=zj h;exact A6 [.bool (!y3)] (Av rfl zl Aw)
def B1:AC :=
 (.seq (rg [xs1 9 8 7])
 (.seq (.cond (tm 9)
  .skip
  (.exit 0))
 (.seq (.block 1 (.seq (rg [xm 10 8,xm 5 10])
 (.seq (rg [xm 11 1,xm 12 0,xm 13 5,xx 14 5 12 13,xo 15 (.i (.ld false 5 (tm 14))),xo 16 (.call (tm 11) [tm 15] [[none,none,none,none,none]])])
 (.cond (tm 16)
  (.seq (rg [xm 17 5,xm 4 17])
  .ret)
  .skip))))
 (rg [xa 18 8,xm 8 18]))))
def Ce:AC :=
 (.seq (rg [xo 4 (qm (ci 0))])
 (.seq (.seq (rg [xm 6 0,xn1 7 6,xo 8 (qm (ci 0))])
 (.block 0 (.loop B1)))
 (.seq (rg [xo 4 (qm (ci (-1)))])
 .ret)))
def D7:List Res:=[.tmp 4]
theorem D8:A2 Tryd.prog Tryd.f46=some (Ce,D7):=by kernel_rfl
def Ao (a0:List (Int×Int×Int×Int×Int)) (u1 u2:Int) (u3 u4:Int) (u5:List (Int×Int×Int×Int×Int)) (u6:Int) (u0:Nat):Option (Ctl Nat (Ctl Unit Int)) :=
 cond (decide ((u0:Int)<(a0.length:Int)))
 ((a0[u0]?).bind fun x11 =>
 (Dz x11.1 x11.2.1 x11.2.2.1 x11.2.2.2.1 x11.2.2.2.2 u1 u2 u3 u4 u5 u6).bind fun y12 =>
 cond y12
  (some (Ctl.out (Ctl.out (u0:Int))))
  (og (u0+1<4611686018427387904) <|
  some (Ctl.next (u0+1))))
 (some (Ctl.out (Ctl.next ())))
def Az (a0:List (Int×Int×Int×Int×Int)) (u0 u1:Int) (u2 u3:Int) (u4:List (Int×Int×Int×Int×Int)) (u5:Int):Option Int :=
 On (Bc (fun s_:Nat=>Ao a0 u0 u1 u2 u3 u4 u5 s_) 4611686018427387904 0) fun _ =>
some (-1)
def B7 (r:Int):RV:=⟨false,[(false,[.sc (.int .i64 r)])]⟩
theorem B4 {a0:List (Int×Int×Int×Int×Int)} {u0 u1:Int} {u2 u3:Int} {u4:List (Int×Int×Int×Int×Int)} {u5 r:Int} (h:Az a0 u0 u1 u2 u3 u4 u5=some r):A7 Tryd.prog Tab 46 [.tree T5 a0,.fn 33 [.ref [ai u0,ai u1,ai u2,ai u3,.tree T5 u4],.ref [ai u5]]] (B7 r):=by
 refine A5 (by kernel_rfl) Tryd.func46 D8 (n:=19) (by kernel_rfl) (by simp) rfl ?_;unfold Ce;unfold Az at h;refine Al (Ey h (fun (_:Unit) S_=>S_=⟨Ak [],Ai (Ar []),2⟩) ?_ ?_)
 ·intro v_ h hk2;refine Al (At (Bq h (fun (u6:Nat) S_=>S_=⟨Ak [(0,.tree T5 a0),(1,.fn 33 [.ref [ai u0,ai u1,ai u2,ai u3,.tree T5 u4],.ref [ai u5]]),(7,an a0.length),(8,an u6)],Ai (Ar []),2⟩) ⟨_,Ad [],rfl⟩ ?_));rintro n_ u6 _ c_ rfl h hn4
  (try dsimp only at h);unfold Ao at h;unfold B1;refine Al (Ab ?_);rcases Ac h with ⟨q7,h⟩ | ⟨q7,h⟩
  ·have q7_:=of_decide_eq_true q7;refine Ae q7 (Aj (tn_ (wr_ (Ab (At (Al (Ab ?_)))))));obtain ⟨x11,e11,h⟩:=Ag h;obtain ⟨y12,h12,h⟩:=Ag h;refine Aa 11 (rsT 3 (zI T5 e11 (rsT 1 (Cu (.bool y12) [] [.agg [ai x11.1,ai x11.2.1,ai x11.2.2.1,ai x11.2.2.2.1,ai x11.2.2.2.2],.ref [ai u0,ai u1,ai u2,ai u3,.tree T5 u4],.ref [ai u5]] _ (caps:=[.ref [ai u0,ai u1,ai u2,ai u3,.tree T5 u4],.ref [ai u5]]) (args0:=[.agg [ai x11.1,ai x11.2.1,ai x11.2.2.1,ai x11.2.2.2.1,ai x11.2.2.2.2],.ref [ai u0,ai u1,ai u2,ai u3,.tree T5 u4],.ref [ai u5]]) trivial (by kernel_rfl) (Kg h12) Kd (Am (tn_ (wr_ ?_)))))));rcases Ac h with ⟨q13,h⟩ | ⟨q13,h⟩
   ·refine Ae q13 (Al (Ah (br_ (tr_ (tr_ (br_ (tr_ ?_)))))));obtain rfl:=zj h;have h:=hn4
    (try dsimp only at h);obtain rfl:=zj h;have h:=hk2
    (try dsimp only at h);obtain rfl:=zj h;exact A6 [an u6] (Av rfl zl Aw)
   refine Af q13 (Aj (bn_ (tn_ (wr_ ?_))));obtain ⟨g15,h⟩:=A4 h;refine Aa 13 (zA g15 (rsT 1 (Am (tn_ ?_))));obtain rfl:=zj h;exact ⟨u6+1,_,Ad [],rfl,hn4⟩
  have q7_:=of_decide_eq_false q7;refine Af q7 (Br (te_ (te_ (be_ (tn_ ?_)))));obtain rfl:=zj h;have h:=hn4
  (try dsimp only at h);obtain rfl:=zj h;exact ⟨(),_,rfl,Ad [],rfl⟩
 rintro _ _ rfl h
 (try dsimp only at h);refine Al (Ah ?_);obtain rfl:=zj h;exact A6 [ai (-1)] (Av rfl zl Aw)
def B0:AC :=
 (.seq (rg [xo 4 (qm (cb false))])
 (.seq (rg [xm 5 0,xm 6 1,⟨some 7,none,qc 46 [tm 5,tm 6] [[some T5],[]]⟩,xo 8 (qb .geq (tm 7) (ci 0)),xm 4 8])
 .ret))
def Dw:List Res:=[.tmp 4]
theorem Dv:A2 Tryd.prog Tryd.f32=some (B0,Dw):=by kernel_rfl
theorem Dr:Bf Tryd.prog 32=true:=by kernel_rfl
def Ap (a0:List (Int×Int×Int×Int×Int)) (u0 u1:Int) (u2 u3:Int) (u4:List (Int×Int×Int×Int×Int)) (u5:Int):Option Bool :=
 (Az a0 u0 u1 u2 u3 u4 u5).bind fun y3 =>
some (decide (0<=y3))
def Bt (r:Bool):RV:=⟨false,[(false,[.sc (.bool r)])]⟩
theorem Bw {a0:List (Int×Int×Int×Int×Int)} {u0 u1:Int} {u2 u3:Int} {u4:List (Int×Int×Int×Int×Int)} {u5:Int} {r:Bool} (h:Ap a0 u0 u1 u2 u3 u4 u5=some r):A7 Tryd.prog Tab 32 [.tree T5 a0,.fn 33 [.ref [ai u0,ai u1,ai u2,ai u3,.tree T5 u4],.ref [ai u5]]] (Bt r):=by
 refine A5 (by kernel_rfl) Tryd.func32 Dv (n:=9) (by kernel_rfl) (by simp) rfl ?_;unfold B0;unfold Ap at h;refine Al (Ab ?_);obtain ⟨y3,h3,h⟩:=Ag h;refine Aa 7 (rsT 2 (zc (ai y3) [] [.tree T5 a0,.fn 33 [.ref [ai u0,ai u1,ai u2,ai u3,.tree T5 u4],.ref [ai u5]]] (B4 h3) (rsT 2 (Am (tn_ (wr_ (Ah ?_)))))));obtain rfl:=zj h;exact A6 [.bool (decide (0<=y3))] (Av rfl zl Aw)
def H0:AC :=
 (.seq (rg [xo 2 (.i (.box 3 (tm 0))),xo 3 (.i (.box 24 (tm 1))),xo 4 (qm (cb false))])
 (.seq (.seq (rg [xl 5 2,xo 6 (qc 30 [tm 5] [[]]),xo 7 (.i (.not (tm 6))),xm 8 7,⟨some 9,some (8,false),qf 0 (tm 3)⟩,⟨some 10,some (8,false),ql (tm 9)⟩,⟨some 11,some (8,false),qc 31 [tm 10,ci 0,ci 8] [[],[],[]]⟩,⟨some 12,some (8,false),.i (.not (tm 11))⟩,xo 13 (.i (.pick (tm 8) (cb true) (tm 12))),xm 14 13,⟨some 15,some (14,false),qf 1 (tm 3)⟩,⟨some 16,some (14,false),ql (tm 15)⟩,⟨some 17,some (14,false),qc 31 [tm 16,ci 0,ci 8] [[],[],[]]⟩,⟨some 18,some (14,false),.i (.not (tm 17))⟩,xo 19 (.i (.pick (tm 14) (cb true) (tm 18))),xm 20 19,⟨some 21,some (20,false),qf 2 (tm 3)⟩,⟨some 22,some (20,false),ql (tm 21)⟩,⟨some 23,some (20,false),qc 31 [tm 22,ci 0,ci 40] [[],[],[]]⟩,⟨some 24,some (20,false),.i (.not (tm 23))⟩,xo 25 (.i (.pick (tm 20) (cb true) (tm 24))),xm 26 25,⟨some 27,some (26,false),qf 3 (tm 3)⟩,⟨some 28,some (26,false),ql (tm 27)⟩,⟨some 29,some (26,false),qc 31 [tm 28,ci 0,ci 16] [[],[],[]]⟩,⟨some 30,some (26,false),.i (.not (tm 29))⟩,xo 31 (.i (.pick (tm 26) (cb true) (tm 30))),xm 32 31,⟨some 33,some (32,false),qf 4 (tm 3)⟩,⟨some 34,some (32,false),ql (tm 33)⟩,⟨some 35,some (32,false),.i (.len (tm 34))⟩,⟨some 36,some (32,false),qb .gtr (tm 35) (ci 120)⟩,xo 37 (.i (.pick (tm 32) (cb true) (tm 36)))])
 (.cond (tm 37)
  (.seq (rg [xo 4 (qm (cb false))])
  .ret)
  .skip))
 (.seq (rg [xf 38 4 3,xl 39 38,xo 40 (.i (.mkfn 33 [tm 3,tm 2])),⟨some 41,none,qc 32 [tm 39,tm 40] [[some T5],[]]⟩,xo 42 (.i (.not (tm 41))),xm 4 42])
 .ret)))
def Nv:List Res:=[.tmp 4]
theorem Nq:A2 Tryd.prog Tryd.f18=some (H0,Nv):=by kernel_rfl
theorem M5:Bf Tryd.prog 18=true:=by kernel_rfl
def Bu (a0 u1:Int) (u2 u3 u4:Int) (u0:List (Int×Int×Int×Int×Int)):Option Bool :=
 ((Gn a0).bind fun y4 =>
 cond (!y4)
  (some true)
  ((Bi u1 0 8).bind fun y6 =>
  cond (!y6)
   (some true)
   ((Bi u2 0 8).bind fun y8 =>
   cond (!y8)
    (some true)
    ((Bi u3 0 40).bind fun y10 =>
    cond (!y10)
     (some true)
     ((Bi u4 0 16).bind fun y12 =>
     cond (!y12)
      (some true)
      (some (decide (120<(u0.length:Int))))))))).bind fun u5 =>
cond u5
 (some false)
 ((Ap u0 u1 u2 u3 u4 u0 a0).bind fun y17 =>
 some (!y17))
def Mq (r:Bool):RV:=⟨false,[(false,[.sc (.bool r)])]⟩
theorem M4 {a0 u0:Int} {u1 u2 u3:Int} {u4:List (Int×Int×Int×Int×Int)} {r:Bool} (h:Bu a0 u0 u1 u2 u3 u4=some r):A7 Tryd.prog Tab 18 [ai a0,.agg [ai u0,ai u1,ai u2,ai u3,.tree T5 u4]] (Mq r):=by
 refine A5 (by kernel_rfl) Tryd.func18 Nq (n:=43) (by kernel_rfl) (by simp) rfl ?_;unfold H0;unfold Bu at h;refine Al (Ab (Ax h (fun (u5:Bool) S_=>S_=⟨Ak [(2,.box (oi 0 1) 0),(3,.box (oi 1 1) 0),(37,.bool u5)],Ai (Ar [(oi 0 1,.cells 3 [ai a0]),(oi 1 1,.cells 24 [ai u0,ai u1,ai u2,ai u3,.tree T5 u4])]),2⟩) ?_ ?_))
 ·intro v_ h;obtain ⟨y4,h4,h⟩:=Ag h;refine Aa 37 (rsT 1 (zc (.bool y4) [] [ai a0] (Oz h4) (rsT 2 ?_)));rcases Ac h with ⟨q5,h⟩ | ⟨q5,h⟩
  ·refine rq 8 q5 (rsT 29 (Am (tn_ ?_)));obtain rfl:=zj h;exact ⟨_,Ad [(oi 0 1,oi 2 1),(oi 1 1,oi 3 2)],rfl⟩
  obtain ⟨y6,h6,h⟩:=Ag h;refine rq 8 q5 (rsT 2 (Cu (.bool y6) [] [ai u0,ai 0,ai 8] _ (caps:=[]) (args0:=[ai u0,ai 0,ai 8]) (Ds (by kernel_rfl)) (by kernel_rfl) (B8 h6) C0 (rsT 3 ?_)));rcases Ac h with ⟨q7,h⟩ | ⟨q7,h⟩
  ·refine rq 14 q7 (rsT 23 (Am (tn_ ?_)));obtain rfl:=zj h;exact ⟨_,Ad [(oi 0 1,oi 2 1),(oi 1 1,oi 3 2)],rfl⟩
  obtain ⟨y8,h8,h⟩:=Ag h;refine rq 14 q7 (rsT 2 (Cu (.bool y8) [] [ai u1,ai 0,ai 8] _ (caps:=[]) (args0:=[ai u1,ai 0,ai 8]) (Ds (by kernel_rfl)) (by kernel_rfl) (B8 h8) C0 (rsT 3 ?_)));rcases Ac h with ⟨q9,h⟩ | ⟨q9,h⟩
  ·refine rq 20 q9 (rsT 17 (Am (tn_ ?_)));obtain rfl:=zj h;exact ⟨_,Ad [(oi 0 1,oi 2 1),(oi 1 1,oi 3 2)],rfl⟩
  obtain ⟨y10,h10,h⟩:=Ag h;refine rq 20 q9 (rsT 2 (Cu (.bool y10) [] [ai u2,ai 0,ai 40] _ (caps:=[]) (args0:=[ai u2,ai 0,ai 40]) (Ds (by kernel_rfl)) (by kernel_rfl) (B8 h10) C0 (rsT 3 ?_)));rcases Ac h with ⟨q11,h⟩ | ⟨q11,h⟩
  ·refine rq 26 q11 (rsT 11 (Am (tn_ ?_)));obtain rfl:=zj h;exact ⟨_,Ad [(oi 0 1,oi 2 1),(oi 1 1,oi 3 2)],rfl⟩
  obtain ⟨y12,h12,h⟩:=Ag h;refine rq 26 q11 (rsT 2 (Cu (.bool y12) [] [ai u3,ai 0,ai 16] _ (caps:=[]) (args0:=[ai u3,ai 0,ai 16]) (Ds (by kernel_rfl)) (by kernel_rfl) (B8 h12) C0 (rsT 3 ?_)));rcases Ac h with ⟨q13,h⟩ | ⟨q13,h⟩
  ·refine rq 32 q13 (rsT 5 (Am (tn_ ?_)));obtain rfl:=zj h;exact ⟨_,Ad [(oi 0 1,oi 2 1),(oi 1 1,oi 3 2)],rfl⟩
  refine rq 32 q13 (rsT 5 (Am (tn_ ?_)));obtain rfl:=zj h;exact ⟨_,Ad [(oi 0 1,oi 2 1),(oi 1 1,oi 3 2)],rfl⟩
 rintro u5 _ rfl h
 (try dsimp only at h);rcases Ac h with ⟨q14,h⟩ | ⟨q14,h⟩
 ·refine Ae q14 (Al (Ah (tr_ ?_)));obtain rfl:=zj h;exact A6 [.bool false] (Av rfl zl Aw)
 refine Af q14 (Aj (tn_ (wr_ (Ab ?_))));obtain ⟨y17,h17,h⟩:=Ag h;refine Aa 8 (rsT 3 (Cu (.bool y17) [] [.tree T5 u4,.fn 33 [.box (oi 1 1) 0,.box (oi 0 1) 0]] _ (caps:=[]) (args0:=[.tree T5 u4,.fn 33 [.ref [ai u0,ai u1,ai u2,ai u3,.tree T5 u4],.ref [ai a0]]]) trivial (by kernel_rfl) (Bw h17) Dr (rsT 2 (Am (tn_ (wr_ (Ah ?_)))))));obtain rfl:=zj h;exact A6 [.bool (!y17)] (Av rfl zl Aw)
end Go.Proofs.YtjlcpiemabfpiaaDoor

namespace Go.Proofs.YtjlcpiemabfpiaaDoor
open Go.RowKit Go.Deep
set_option maxRecDepth 4000
def Jd:AC :=
 (.seq (rg [xo 0 (qm (.cst .nils))])
 (.seq (rg [⟨some 1,none,.mkS 9 .str [.cst (.str ⟨#[]⟩),.cst (.str ⟨#[105,110]⟩),.cst (.str ⟨#[122,101,114,111]⟩),.cst (.str ⟨#[97,100,100]⟩),.cst (.str ⟨#[115,99,97,108,101]⟩),.cst (.str ⟨#[108,111,97,100]⟩),.cst (.str ⟨#[115,116,111,114,101]⟩),.cst (.str ⟨#[111,117,116]⟩)]⟩,xm 0 1])
 .ret))
def Rf:List Res:=[.tmp 0]
theorem Qc:A2 Tryd.prog Tryd.f23=some (Jd,Rf):=by kernel_rfl
def B2  : Option (List ByteArray) :=
 some ([(⟨#[]⟩:ByteArray),(⟨#[105,110]⟩:ByteArray),(⟨#[122,101,114,111]⟩:ByteArray),(⟨#[97,100,100]⟩:ByteArray),(⟨#[115,99,97,108,101]⟩:ByteArray),(⟨#[108,111,97,100]⟩:ByteArray),(⟨#[115,116,111,114,101]⟩:ByteArray),(⟨#[111,117,116]⟩:ByteArray)])
def Om (r:List ByteArray):RV:=⟨false,[(false,[.new 9 .str r])]⟩
theorem Is {r:List ByteArray} (h:B2=some r):A7 Tryd.prog Tab 23 [] (Om r):=by
 refine A5 (by kernel_rfl) Tryd.func23 Qc (n:=2) (by kernel_rfl) (by simp) rfl ?_;unfold Jd;unfold B2 at h;refine Al (Al (Ah ?_));obtain rfl:=zj h;exact A6 [.own (oi 1 2) .str 0 8] (Av rfl (H4 (by kernel_rfl) rfl) Aw)
def Hs:AC :=
 (.seq (.seq (rg [xm 32 8,xm 33 3,xn1 34 33,xs1 35 32 34,xm 36 35,⟨some 37,some (36,true),qm (tm 8)⟩,⟨some 38,some (36,true),qb .lss (tm 37) (ci 4)⟩,xo 39 (.i (.pick (tm 36) (tm 38) (cb false)))])
 (.cond (tm 39)
  .skip
  (.exit 2)))
 (.seq (.block 3 (rg [xm 42 7,xm 43 8,xm 44 3,xm 45 8,xx 46 1 44 45,xl 47 46,xo 48 (qc 11 [tm 47] [[]]),xx 49 1 42 43,xn (qs (tm 49) (tm 48))]))
 (rg [xm 40 8,xa 41 40,xm 8 41])))
def Hr:AC :=
 (.seq (rg [xs1 15 14 13])
 (.seq (.cond (tm 15)
  .skip
  (.exit 0))
 (.seq (.block 1 (.seq (rg [xm 16 14,xx 17 1 12 14,xl 18 17,xm 5 16,xm 6 18])
 (.seq (rg [xm 19 5,xo 20 (qb .gtr (tm 19) (ci 0)),xm 21 20,⟨some 22,some (21,true),qm (tm 6)⟩,⟨some 23,some (21,true),qm (tm 3)⟩,⟨some 24,some (21,true),qx 1 (tm 23) (ci 0)⟩,⟨some 25,some (21,true),ql (tm 24)⟩,⟨some 26,some (21,true),qb .eql (tm 22) (tm 25)⟩,xo 27 (.i (.pick (tm 21) (tm 26) (cb false)))])
 (.cond (tm 27)
  (rg [xm 28 5,xf 29 0 4,xn (qs (tm 29) (tm 28))])
  .skip))))
 (rg [xa 30 14,xm 14 30]))))
def Ks:AC :=
 (.seq (rg [xo 2 (.i (.alloc 35 [.int .i64 0,.int .i64 0,.int .i64 0,.int .i64 0,.int .i64 0]))])
 (.seq (rg [xm 9 0,xo 10 (qc 9 [tm 9,.cst (.int .u8 32)] [[],[]]),xm 3 10])
 (.seq (rg [xo 11 (.build [.int .i64 0,.int .i64 0,.int .i64 0,.int .i64 0,.int .i64 0] []),xo 4 (.i (.alloc 35 [.int .i64 0,.int .i64 0,.int .i64 0,.int .i64 0,.int .i64 0])),xn (.st false 5 (tm 4) (tm 11))])
 (.seq (.seq (rg [xo 12 (qc 23 [] []),xn1 13 12,xo 14 (qm (ci 0))])
 (.block 0 (.loop Hr)))
 (.seq (rg [xo 31 (.make 3 .int 8 (ci 4) (ci 4)),xm 7 31])
 (.seq (.seq (rg [xo 8 (qm (ci 1))])
 (.block 2 (.loop Hs)))
 (.seq (.seq (rg [xf 50 0 4,xl 51 50])
 (.block 4 (.seq (.seq (rg [xo 65 (qb .eql (tm 51) (ci 6)),xm 64 65])
 (.cond (tm 64)
  .skip
  (rg [xo 66 (qb .eql (tm 51) (ci 7)),xm 64 66])))
 (.cond (tm 64)
  (.seq (rg [xm 67 7,xo 68 (qx 1 (tm 67) (ci 1)),xl 69 68,xf 70 2 4,xn (qs (tm 70) (tm 69))])
  (rg [xm 71 7,xo 72 (qx 1 (tm 71) (ci 2)),xl 73 72,xf 74 1 4,xn (qs (tm 74) (tm 73))]))
  (.seq (rg [xo 76 (qb .eql (tm 51) (ci 4)),xm 75 76])
  (.cond (tm 75)
   (.seq (rg [xm 77 7,xo 78 (qx 1 (tm 77) (ci 1)),xl 79 78,xf 80 1 4,xn (qs (tm 80) (tm 79))])
   (.seq (rg [xm 81 7,xo 82 (qx 1 (tm 81) (ci 2)),xl 83 82,xf 84 2 4,xn (qs (tm 84) (tm 83))])
   (rg [xm 85 7,xo 86 (qx 1 (tm 85) (ci 3)),xl 87 86,xf 88 4 4,xn (qs (tm 88) (tm 87))])))
   (.seq (rg [xm 52 7,xo 53 (qx 1 (tm 52) (ci 1)),xl 54 53,xf 55 1 4,xn (qs (tm 55) (tm 54))])
   (.seq (rg [xm 56 7,xo 57 (qx 1 (tm 56) (ci 2)),xl 58 57,xf 59 2 4,xn (qs (tm 59) (tm 58))])
   (rg [xm 60 7,xo 61 (qx 1 (tm 60) (ci 3)),xl 62 61,xf 63 3 4,xn (qs (tm 63) (tm 62))])))))))))
 (.seq (rg [xo 89 (.i (.ld false 5 (tm 4))),xn (.st false 5 (tm 2) (tm 89))])
 .ret))))))))
def Se:List Res:=[.cell 2 false 5]
theorem Ry:A2 Tryd.prog Tryd.f12=some (Ks,Se):=by kernel_rfl
def Dp (y7:List ByteArray) (y3:List ByteArray) (u0 u1:Nat):Option (Ctl (Nat×Nat) Nat) :=
 cond (decide ((u0:Int)<(y7.length:Int)))
 (((y7[u0]?).bind fun x14 =>
  (cond (decide (0<(u0:Int)))
    ((y3[0]?).bind fun x17 =>
    some (x14.toList==x17.toList))
    (some false)).bind fun u2 =>
  cond u2
   (some u0)
   (some u1)).bind fun u3 =>
 og (u0+1<4611686018427387904) <|
 some (Ctl.next (u0+1,u3)))
 (some (Ctl.out u1))
def Bz (y3:List ByteArray) (u0:Nat) (u1:List Int):Option (Ctl (Nat×List Int) (List Int)) :=
 (cond (decide ((u0:Int)<(y3.length:Int)))
  (some (decide ((u0:Int)<4)))
  (some false)).bind fun u2 =>
cond u2
 ((y3[u0]?).bind fun x30 =>
 (Bj x30).bind fun y31 =>
 (u1[u0]?).bind fun x32 =>
 og (u0+1<4611686018427387904) <|
 some (Ctl.next (u0+1,u1.set u0 y31)))
 (some (Ctl.out u1))
def Dh (a0:ByteArray):Option (Int×Int×Int×Int×Int) :=
 (C1 a0 32).bind fun y3 =>
((B2).bind fun y7 =>
 Bc (fun s_:Nat×Nat=>Dp y7 y3 s_.1 s_.2) 4611686018427387904 (0,0)).bind fun u1 =>
og (0<=(4:Int)∧(4:Int)<=(4:Int)∧(4:Int)<=1073741824∧(8:Int)*4<=140737488355328) <|
(Bc (fun s_:Nat×List Int=>Bz y3 s_.1 s_.2) 4611686018427387904 (1,List.replicate 4 (0:Int))).bind fun u0 =>
((cond ((u1:Int)==6)
      (some ((u1:Int)==6))
      (some ((u1:Int)==7))).bind fun u2 =>
 cond u2
  ((u0[1]?).bind fun x41 =>
  (u0[2]?).bind fun x42 =>
  some (x42,x41,0,0))
  (cond ((u1:Int)==4)
   ((u0[1]?).bind fun x46 =>
   (u0[2]?).bind fun x48 =>
   (u0[3]?).bind fun x49 =>
   some (x46,x48,0,x49))
   ((u0[1]?).bind fun x51 =>
   (u0[2]?).bind fun x53 =>
   (u0[3]?).bind fun x54 =>
   some (x51,x53,x54,0)))).bind fun (u3,u4,u5,u6) =>
some ((u1:Int),u3,u4,u5,u6)
def Pr (r:Int×Int×Int×Int×Int):RV:=⟨false,[(true,[.sc (.int .i64 r.1),.sc (.int .i64 r.2.1),.sc (.int .i64 r.2.2.1),.sc (.int .i64 r.2.2.2.1),.sc (.int .i64 r.2.2.2.2)])]⟩
set_option maxHeartbeats 1600000 in
theorem Qw {a0:ByteArray} {r:Int×Int×Int×Int×Int} (h:Dh a0=some r):A7 Tryd.prog Tab 12 [.str a0] (Pr r):=by
 refine A5 (by kernel_rfl) Tryd.func12 Ry (n:=90) (by kernel_rfl) (by simp) rfl ?_;unfold Ks;unfold Dh at h;refine Al (Ab ?_);obtain ⟨y3,h3,h⟩:=Ag h;refine Aa 5 (rsT 1 (zc (.own (oi 160 3) .str 0 y3.length) [(oi 160 3,some (.arr 9 .str y3))] [.str a0,.int .u8 32] (Fv h3) (rsT 1 (Am (tn_ (wr_ (Al (Ax h (fun (u3:Nat) S_=>S_=⟨Ak [(2,.box (oi 0 1) 0),(3,.own (oi 1 1) .str 0 y3.length),(4,.box (oi 2 1) 0)],Ai (Ar [(oi 0 1,.cells 35 [ai 0,ai 0,ai 0,ai 0,ai 0]),(oi 1 1,.arr 9 .str y3),(oi 2 1,.cells 35 [an u3,ai 0,ai 0,ai 0,ai 0])]),2⟩) ?_ ?_))))))))
 ·intro v_ h;refine Ab ?_;obtain ⟨y7,h7,h⟩:=Ag h;refine Aa 11 (zc (.own (oi 192 8) .str 0 y7.length) [(oi 192 8,some (.arr 9 .str y7))] [] (Is h7) (rsT 2 (Am (tn_ (wr_ (At (Bq h (fun t_ S_=>∃ (u4:Nat),∃ (u5:Nat),t_=(u4,u5)∧S_=⟨Ak [(2,.box (oi 0 1) 0),(3,.own (oi 1 1) .str 0 y3.length),(4,.box (oi 2 1) 0),(12,.own (oi 3 1) .str 0 y7.length),(13,an y7.length),(14,an u4)],Ai (Ar [(oi 0 1,.cells 35 [ai 0,ai 0,ai 0,ai 0,ai 0]),(oi 1 1,.arr 9 .str y3),(oi 2 1,.cells 35 [an u5,ai 0,ai 0,ai 0,ai 0]),(oi 3 1,.arr 9 .str y7)]),2⟩) ⟨_,Ad [(oi 0 1,oi 2 1),(oi 1 1,oi 160 3),(oi 2 1,oi 4 6),(oi 3 1,oi 192 8)],⟨0,0,rfl,rfl⟩⟩ ?_)))))));rintro n_ _ _ c_ ⟨u4,u5,rfl,rfl⟩ h hn8
  (try dsimp only at h);unfold Dp at h;unfold Hr;refine Al (Ab ?_);rcases Ac h with ⟨q11,h⟩ | ⟨q11,h⟩
  ·have q11_:=of_decide_eq_true q11;refine Ae q11 (Aj (tn_ (wr_ (Ax h (fun (u6:Nat) S_=>S_=⟨Ak [(2,.box (oi 0 1) 0),(3,.own (oi 1 1) .str 0 y3.length),(4,.box (oi 2 1) 0),(12,.own (oi 3 1) .str 0 y7.length),(13,an y7.length),(14,an u4)],Ai (Ar [(oi 0 1,.cells 35 [ai 0,ai 0,ai 0,ai 0,ai 0]),(oi 1 1,.arr 9 .str y3),(oi 2 1,.cells 35 [an u6,ai 0,ai 0,ai 0,ai 0]),(oi 3 1,.arr 9 .str y7)]),2⟩) ?_ ?_))))
   ·intro v_ h;refine At (Ab ?_);obtain ⟨x14,e14,h⟩:=Ag h;refine Aa 8 (rsT 1 (zO (oi 3 1) .str y7.length (A1 e14) (rsl (.str x14) (Hh (i:=oi 3 1) (j:=u4) (k:=0) (e:=9) (t:=.str) (xs:=y7) (by kernel_rfl) (by kernel_rfl) e14 (by kernel_rfl)) (rsT 2 (Am (tn_ (wr_ (Ax h (fun (uc:Bool) S_=>S_=⟨Ak [(2,.box (oi 0 1) 0),(3,.own (oi 1 1) .str 0 y3.length),(4,.box (oi 2 1) 0),(5,an u4),(12,.own (oi 3 1) .str 0 y7.length),(13,an y7.length),(14,an u4),(27,.bool uc)],Ai (Ar [(oi 0 1,.cells 35 [ai 0,ai 0,ai 0,ai 0,ai 0]),(oi 1 1,.arr 9 .str y3),(oi 2 1,.cells 35 [an u5,ai 0,ai 0,ai 0,ai 0]),(oi 3 1,.arr 9 .str y7)]),2⟩) ?_ ?_))))))))
    ·intro v_ h;refine Aa 17 (rsT 3 ?_);rcases Ac h with ⟨q16,h⟩ | ⟨q16,h⟩
     ·have q16_:=of_decide_eq_true q16;obtain ⟨x17,e17,h⟩:=Ag h;refine rq 21 q16 (rsT 2 (rs0 (.elt (oi 1 1) 0 0) (Bp (t:=.str) (o:=oi 1 1) (len:=y3.length) (k:=.i64) (m:=0) (by kernel_rfl) (by kernel_rfl) rfl (by decide) rfl (A1 e17)) (rsl (.str x17) (Hh (i:=oi 1 1) (j:=0) (k:=0) (e:=9) (t:=.str) (xs:=y3) (by kernel_rfl) (by kernel_rfl) e17 (by kernel_rfl)) (rsT 2 (Am (tn_ ?_))))));obtain rfl:=zj h;exact ⟨_,Ad [],rfl⟩
     have q16_:=of_decide_eq_false q16;refine rq 21 q16 (rsT 6 (Am (tn_ ?_)));obtain rfl:=zj h;exact ⟨_,Ad [],rfl⟩
    rintro uc _ rfl h
    (try dsimp only at h);rcases Ac h with ⟨q18,h⟩ | ⟨q18,h⟩
    ·refine Ae q18 (Aa 5 (rsB 3 (Am (bn_ (tn_ ?_)))));obtain rfl:=zj h;exact ⟨_,Ad [],rfl⟩
    refine Af q18 (Aj (bn_ (tn_ ?_)));obtain rfl:=zj h;exact ⟨_,Ad [],rfl⟩
   rintro u6 _ rfl h
   (try dsimp only at h);obtain ⟨g19,h⟩:=A4 h;refine Aa 4 (zA g19 (rsT 1 (Am (tn_ ?_))));obtain rfl:=zj h;exact ⟨(u4+1,u6),_,Ad [],⟨u4+1,u6,rfl,rfl⟩,hn8⟩
  have q11_:=of_decide_eq_false q11;refine Af q11 (Br (te_ (te_ (be_ (tn_ ?_)))));obtain rfl:=zj h;have h:=hn8
  (try dsimp only at h);obtain rfl:=zj h;exact ⟨_,Ad [],rfl⟩
 rintro u3 _ rfl h
 (try dsimp only at h);refine Ab ?_;obtain ⟨g21,h⟩:=A4 h;refine Aa 4 (rs1 (oI 31 2 4) (oi 31 2) (.arr 3 .int (List.replicate 4 (0:Int))) (Adi (t:=.int) (k:=.i64) (k':=.i64) (m:=4) (m':=4) (by kernel_rfl) (by kernel_rfl) g21 rfl) (rsT 1 (Am (tn_ (wr_ (Ax h (fun (u1:List Int) S_=>S_=⟨Ak [(2,.box (oi 0 1) 0),(4,.box (oi 1 1) 0),(7,oI 2 1 u1.length)],Ai (Ar [(oi 0 1,.cells 35 [ai 0,ai 0,ai 0,ai 0,ai 0]),(oi 1 1,.cells 35 [an u3,ai 0,ai 0,ai 0,ai 0]),(oi 2 1,.arr 3 .int u1)]),2⟩) ?_ ?_))))))
 ·intro v_ h;refine Al (At (Bq h (fun t_ S_=>∃ (u2:Nat),∃ (u0:List Int),t_=(u2,u0)∧S_=⟨Ak [(2,.box (oi 0 1) 0),(3,.own (oi 1 1) .str 0 y3.length),(4,.box (oi 2 1) 0),(7,oI 3 1 u0.length),(8,an u2)],Ai (Ar [(oi 0 1,.cells 35 [ai 0,ai 0,ai 0,ai 0,ai 0]),(oi 1 1,.arr 9 .str y3),(oi 2 1,.cells 35 [an u3,ai 0,ai 0,ai 0,ai 0]),(oi 3 1,.arr 3 .int u0)]),2⟩) ⟨_,(L5 7 (oI 31 2 4) (oI 31 2 ((List.replicate 4 (0:Int)).length)) (by kernel_rfl) (congrArg (fun z_=>((oI 31 2 z_):AV)) (List.length_replicate.symm:4=(List.replicate 4 (0:Int)).length))).trans (Ad [(oi 3 1,oi 31 2)]),⟨1,List.replicate 4 (0:Int),rfl,rfl⟩⟩ ?_));rintro n_ _ _ c_ ⟨u2,u0,rfl,rfl⟩ h hn24
  (try dsimp only at h);unfold Bz at h;unfold Hs;refine Ab (Ax h (fun (ud:Bool) S_=>S_=⟨Ak [(2,.box (oi 0 1) 0),(3,.own (oi 1 1) .str 0 y3.length),(4,.box (oi 2 1) 0),(7,oI 3 1 u0.length),(8,an u2),(39,.bool ud)],Ai (Ar [(oi 0 1,.cells 35 [ai 0,ai 0,ai 0,ai 0,ai 0]),(oi 1 1,.arr 9 .str y3),(oi 2 1,.cells 35 [an u3,ai 0,ai 0,ai 0,ai 0]),(oi 3 1,.arr 3 .int u0)]),2⟩) ?_ ?_)
  ·intro v_ h;refine Aa 10 (rsT 5 ?_);rcases Ac h with ⟨q27,h⟩ | ⟨q27,h⟩
   ·have q27_:=of_decide_eq_true q27;refine rq 36 q27 (rsT 3 (Am (tn_ ?_)));obtain rfl:=zj h;exact ⟨_,Ad [],rfl⟩
   have q27_:=of_decide_eq_false q27;refine rq 36 q27 (rsT 3 (Am (tn_ ?_)));obtain rfl:=zj h;exact ⟨_,Ad [],rfl⟩
  rintro ud _ rfl h
  (try dsimp only at h);rcases Ac h with ⟨q28,h⟩ | ⟨q28,h⟩
  ·refine Ae q28 (Aj (tn_ (wr_ (Ab (At ?_)))));obtain ⟨x30,e30,h⟩:=Ag h;obtain ⟨y31,h31,h⟩:=Ag h;obtain ⟨x32,e32,h⟩:=Ag h;refine Aa 11 (rsT 4 (zO (oi 1 1) .str y3.length (A1 e30) (rsl (.str x30) (Hh (i:=oi 1 1) (j:=u2) (k:=0) (e:=9) (t:=.str) (xs:=y3) (by kernel_rfl) (by kernel_rfl) e30 (by kernel_rfl)) (zc (ai y31) [] [.str x30] (Ec h31) (zO (oi 3 1) .int u0.length (A1 e32) (zS (oi 3 1) (y31) e32 (Am (bn_ (tn_ (wr_ ?_))))))))));obtain ⟨g33,h⟩:=A4 h;refine Aa 14 (rsT 1 (zA g33 (rsT 1 (Am (tn_ ?_)))));obtain rfl:=zj h;exact ⟨(u2+1,u0.set u2 y31),_,(L5 7 (oI 3 1 u0.length) (oI 3 1 ((u0.set u2 y31).length)) (by kernel_rfl) (congrArg (fun z_=>((oI 3 1 z_):AV)) (((rfl:u0.length=u0.length).trans List.length_set.symm):u0.length=(u0.set u2 y31).length))).trans (Ad []),⟨u2+1,u0.set u2 y31,rfl,rfl⟩,hn24⟩
  refine Af q28 (Br (te_ (te_ (be_ (tn_ ?_)))));obtain rfl:=zj h;have h:=hn24
  (try dsimp only at h);obtain rfl:=zj h;exact ⟨_,Ad [(oi 1 1,oi 2 1),(oi 2 1,oi 3 1)],rfl⟩
 rintro u1 _ rfl h
 (try dsimp only at h);refine Ax h (fun t_ S_=>∃ (u7:Int),∃ (u9:Int),∃ (ua:Int),∃ (ub:Int),t_=(u7,u9,ua,ub)∧S_=⟨Ak [(2,.box (oi 0 1) 0),(4,.box (oi 1 1) 0)],Ai (Ar [(oi 0 1,.cells 35 [ai 0,ai 0,ai 0,ai 0,ai 0]),(oi 1 1,.cells 35 [an u3,ai u7,ai u9,ai ua,ai ub])]),2⟩) ?_ ?_
 ·intro v_ h;refine Al (At (Ax h (fun (ue:Bool) S_=>S_=⟨Ak [(2,.box (oi 0 1) 0),(4,.box (oi 1 1) 0),(7,oI 2 1 u1.length),(51,an u3),(64,.bool ue)],Ai (Ar [(oi 0 1,.cells 35 [ai 0,ai 0,ai 0,ai 0,ai 0]),(oi 1 1,.cells 35 [an u3,ai 0,ai 0,ai 0,ai 0]),(oi 2 1,.arr 3 .int u1)]),2⟩) ?_ ?_))
  ·intro v_ h;refine Al ?_;rcases Ac h with ⟨q38,h⟩ | ⟨q38,h⟩
   ·refine Ae q38 (Aj (tn_ ?_));obtain rfl:=zj h;exact ⟨_,Ad [],rfl⟩
   refine Af q38 (Aa 8 (rsT 2 (Am (tn_ ?_))));obtain rfl:=zj h;exact ⟨_,Ad [],rfl⟩
  rintro ue _ rfl h
  (try dsimp only at h);rcases Ac h with ⟨q39,h⟩ | ⟨q39,h⟩
  ·refine Ae q39 (Ab ?_);obtain ⟨x41,e41,h⟩:=Ag h;refine Aa 7 (rsT 1 (rs0 (.elt (oi 2 1) 1 0) (Bp (t:=.int) (o:=oi 2 1) (len:=u1.length) (k:=.i64) (m:=1) (by kernel_rfl) (by kernel_rfl) rfl (by decide) rfl (A1 e41)) (zE (oi 2 1) e41 (rsB 2 (Am (tn_ (wr_ ?_)))))));obtain ⟨x42,e42,h⟩:=Ag h;refine Aa 12 (rsT 1 (rs0 (.elt (oi 2 1) 2 0) (Bp (t:=.int) (o:=oi 2 1) (len:=u1.length) (k:=.i64) (m:=2) (by kernel_rfl) (by kernel_rfl) rfl (by decide) rfl (A1 e42)) (zE (oi 2 1) e42 (rsB 2 (Am (bn_ (tn_ ?_)))))));obtain rfl:=zj h;exact ⟨_,Ad [],⟨x42,x41,0,0,rfl,rfl⟩⟩
  refine Af q39 (Al ?_);rcases Ac h with ⟨q44,h⟩ | ⟨q44,h⟩
  ·refine Ae q44 (Ab ?_);obtain ⟨x46,e46,h⟩:=Ag h;refine Aa 9 (rsT 1 (rs0 (.elt (oi 2 1) 1 0) (Bp (t:=.int) (o:=oi 2 1) (len:=u1.length) (k:=.i64) (m:=1) (by kernel_rfl) (by kernel_rfl) rfl (by decide) rfl (A1 e46)) (zE (oi 2 1) e46 (rsB 2 (Am (tn_ (wr_ (Ab ?_))))))));obtain ⟨x48,e48,h⟩:=Ag h;refine Aa 14 (rsT 1 (rs0 (.elt (oi 2 1) 2 0) (Bp (t:=.int) (o:=oi 2 1) (len:=u1.length) (k:=.i64) (m:=2) (by kernel_rfl) (by kernel_rfl) rfl (by decide) rfl (A1 e48)) (zE (oi 2 1) e48 (rsB 2 (Am (tn_ (wr_ ?_)))))));obtain ⟨x49,e49,h⟩:=Ag h;refine Aa 19 (rsT 1 (rs0 (.elt (oi 2 1) 3 0) (Bp (t:=.int) (o:=oi 2 1) (len:=u1.length) (k:=.i64) (m:=3) (by kernel_rfl) (by kernel_rfl) rfl (by decide) rfl (A1 e49)) (zE (oi 2 1) e49 (rsB 2 (Am (bn_ (tn_ ?_)))))));obtain rfl:=zj h;exact ⟨_,Ad [],⟨x46,x48,0,x49,rfl,rfl⟩⟩
  refine Af q44 (Ab ?_);obtain ⟨x51,e51,h⟩:=Ag h;refine Aa 9 (rsT 1 (rs0 (.elt (oi 2 1) 1 0) (Bp (t:=.int) (o:=oi 2 1) (len:=u1.length) (k:=.i64) (m:=1) (by kernel_rfl) (by kernel_rfl) rfl (by decide) rfl (A1 e51)) (zE (oi 2 1) e51 (rsB 2 (Am (tn_ (wr_ (Ab ?_))))))));obtain ⟨x53,e53,h⟩:=Ag h;refine Aa 14 (rsT 1 (rs0 (.elt (oi 2 1) 2 0) (Bp (t:=.int) (o:=oi 2 1) (len:=u1.length) (k:=.i64) (m:=2) (by kernel_rfl) (by kernel_rfl) rfl (by decide) rfl (A1 e53)) (zE (oi 2 1) e53 (rsB 2 (Am (tn_ (wr_ ?_)))))));obtain ⟨x54,e54,h⟩:=Ag h;refine Aa 19 (rsT 1 (rs0 (.elt (oi 2 1) 3 0) (Bp (t:=.int) (o:=oi 2 1) (len:=u1.length) (k:=.i64) (m:=3) (by kernel_rfl) (by kernel_rfl) rfl (by decide) rfl (A1 e54)) (zE (oi 2 1) e54 (rsB 2 (Am (bn_ (tn_ ?_)))))));obtain rfl:=zj h;exact ⟨_,Ad [],⟨x51,x53,x54,0,rfl,rfl⟩⟩
 rintro _ _ ⟨u7,u9,ua,ub,rfl,rfl⟩ h
 (try dsimp only at h);refine Al (Ah ?_);obtain rfl:=zj h;exact A6 [.agg [an u3,ai u7,ai u9,ai ua,ai ub]] (Fa (Aq zl (Aq zl (Aq zl (Aq zl (Aq zl Fd))))) Aw)
end Go.Proofs.YtjlcpiemabfpiaaDoor

namespace Go.Proofs.YtjlcpiemabfpiaaDoor
open Go.RowKit Go.Deep
set_option maxRecDepth 4000
def Hz:AC :=
 (.seq (rg [xs1 10 9 8])
 (.seq (.cond (tm 10)
  .skip
  (.exit 0))
 (.seq (.block 1 (.seq (rg [xx 11 1 7 9,xl 12 11,xm 6 12])
 (rg [xm 13 0,xm 14 6,xo 15 (qc 40 [tm 14] [[]]),⟨some 16,none,.i (.bin .add (.cst (.str ⟨#[32]⟩)) (tm 15))⟩,xo 17 (qb .add (tm 13) (tm 16)),xm 0 17])))
 (rg [xa 18 9,xm 9 18]))))
def K0:AC :=
 (.seq (rg [⟨some 4,none,.i (.mov (.cst (.str ⟨#[]⟩)))⟩])
 (.seq (.seq (rg [xm 7 1,xn1 8 7,xo 9 (qm (ci 0))])
 (.block 0 (.loop Hz)))
 (.seq (rg [xm 19 0,⟨some 20,none,.i (.bin .add (tm 19) (.cst (.str ⟨#[10]⟩)))⟩,xm 4 20])
 .ret)))
def Ru:List Res:=[.tmp 4]
theorem R2:A2 Tryd.prog Tryd.f26=some (K0,Ru):=by kernel_rfl
theorem I4:Bf Tryd.prog 26=true:=by kernel_rfl
def Dl (a1:List Int) (u1:ByteArray) (u0:Nat):Option (Ctl (ByteArray×Nat) ByteArray) :=
 cond (decide ((u0:Int)<(a1.length:Int)))
 ((a1[u0]?).bind fun x10 =>
 (D1 4096 x10).bind fun y11 =>
 og ((⟨#[32]⟩:ByteArray).size+y11.size<=9223372036854775807) <|
 og (u1.size+((⟨#[32]⟩:ByteArray)++y11).size<=9223372036854775807) <|
 og (u0+1<4611686018427387904) <|
 some (Ctl.next (u1++((⟨#[32]⟩:ByteArray)++y11),u0+1)))
 (some (Ctl.out u1))
def Ct (a0:ByteArray) (a1:List Int):Option ByteArray :=
 (Bc (fun s_:ByteArray×Nat=>Dl a1 s_.1 s_.2) 4611686018427387904 (a0,0)).bind fun u0 =>
og (u0.size+(⟨#[10]⟩:ByteArray).size<=9223372036854775807) <|
some (u0++(⟨#[10]⟩:ByteArray))
def Qo (r:ByteArray):RV:=⟨false,[(false,[.sc (.str r)])]⟩
theorem Je {a0:ByteArray} {a1:List Int} {r:ByteArray} (h:Ct a0 a1=some r):A7 Tryd.prog Tab 26 [.str a0,tI a1] (Qo r):=by
 refine A5 (by kernel_rfl) Tryd.func26 R2 (n:=21) (by kernel_rfl) (by simp) rfl ?_;unfold K0;unfold Ct at h;refine Al (Ax h (fun (u1:ByteArray) S_=>S_=⟨Ak [(0,.str u1)],Ai (Ar []),2⟩) ?_ ?_)
 ·intro v_ h;refine Al (At (Bq h (fun t_ S_=>∃ (u0:ByteArray),∃ (u2:Nat),t_=(u0,u2)∧S_=⟨Ak [(0,.str u0),(7,tI a1),(8,an a1.length),(9,an u2)],Ai (Ar []),2⟩) ⟨_,Ad [],⟨a0,0,rfl,rfl⟩⟩ ?_));rintro n_ _ _ c_ ⟨u0,u2,rfl,rfl⟩ h hn4
  (try dsimp only at h);unfold Dl at h;unfold Hz;refine Al (Ab ?_);rcases Ac h with ⟨q7,h⟩ | ⟨q7,h⟩
  ·have q7_:=of_decide_eq_true q7;refine Ae q7 (Aj (tn_ (wr_ (Ab (At (Ab ?_))))));obtain ⟨x10,e10,h⟩:=Ag h;refine Aa 6 (zI .int e10 (rsT 2 (Am (tn_ (wr_ ?_)))));obtain ⟨y11,h11,h⟩:=Ag h;obtain ⟨g12,h⟩:=A4 h;obtain ⟨g13,h⟩:=A4 h;refine Aa 12 (rsT 2 (Cu (.str y11) [] [ai x10] _ (caps:=[]) (args0:=[ai x10]) trivial (by kernel_rfl) (Sb 4096 h11) Kq (rs0 (.str ((⟨#[32]⟩:ByteArray)++y11)) (Ik (a:=(⟨#[32]⟩:ByteArray)) (b:=y11) (by kernel_rfl) (by kernel_rfl) g12) (rs0 (.str (u0++((⟨#[32]⟩:ByteArray)++y11))) (Ik (a:=u0) (b:=(⟨#[32]⟩:ByteArray)++y11) (by kernel_rfl) (by kernel_rfl) g13) (rsT 1 (Am (bn_ (tn_ (wr_ ?_)))))))));obtain ⟨g14,h⟩:=A4 h;refine Aa 14 (zA g14 (rsT 1 (Am (tn_ ?_))));obtain rfl:=zj h;exact ⟨(u0++((⟨#[32]⟩:ByteArray)++y11),u2+1),_,Ad [],⟨u0++((⟨#[32]⟩:ByteArray)++y11),u2+1,rfl,rfl⟩,hn4⟩
  have q7_:=of_decide_eq_false q7;refine Af q7 (Br (te_ (te_ (be_ (tn_ ?_)))));obtain rfl:=zj h;have h:=hn4
  (try dsimp only at h);obtain rfl:=zj h;exact ⟨_,Ad [],rfl⟩
 rintro u1 _ rfl h
 (try dsimp only at h);refine Ab ?_;obtain ⟨g16,h⟩:=A4 h;refine Aa 5 (rsT 1 (rs0 (.str (u1++(⟨#[10]⟩:ByteArray))) (Ik (a:=u1) (b:=(⟨#[10]⟩:ByteArray)) (by kernel_rfl) (by kernel_rfl) g16) (rsT 1 (Am (tn_ (wr_ (Ah ?_)))))));obtain rfl:=zj h;exact A6 [.str (u1++(⟨#[10]⟩:ByteArray))] (Av rfl zl Aw)
def Hv:AC :=
 (.seq (rg [xo 1 (.i (.box 35 (tm 0))),xo 2 (qm (.cst .nils))])
 (.seq (.seq (rg [xf 3 0 1,xl 4 3])
 (.block 0 (.seq (.seq (rg [xo 6 (qb .eql (tm 4) (ci 1)),xm 5 6])
 (.cond (tm 5)
  .skip
  (rg [xo 7 (qb .eql (tm 4) (ci 5)),xm 5 7])))
 (.cond (tm 5)
  (.seq (rg [xf 8 1 1,xl 9 8,xf 10 2 1,xl 11 10,xo 12 (.mkS 3 .int [tm 9,tm 11]),xm 2 12])
  .ret)
  (.seq (rg [xo 14 (qb .eql (tm 4) (ci 2)),xm 13 14])
  (.cond (tm 13)
   (.seq (rg [xf 15 1 1,xl 16 15,xo 17 (.mkS 3 .int [tm 16]),xm 2 17])
   .ret)
   (.seq (rg [xo 19 (qb .eql (tm 4) (ci 3)),xm 18 19])
   (.cond (tm 18)
    (.seq (rg [xf 20 1 1,xl 21 20,xf 22 2 1,xl 23 22,xf 24 3 1,xl 25 24,xo 26 (.mkS 3 .int [tm 21,tm 23,tm 25]),xm 2 26])
    .ret)
    (.seq (rg [xo 28 (qb .eql (tm 4) (ci 4)),xm 27 28])
    (.cond (tm 27)
     (.seq (rg [xf 29 1 1,xl 30 29,xf 31 2 1,xl 32 31,xf 33 4 1,xl 34 33,xo 35 (.mkS 3 .int [tm 30,tm 32,tm 34]),xm 2 35])
     .ret)
     .skip))))))))))
 (.seq (rg [xf 36 2 1,xl 37 36,xf 38 1 1,xl 39 38,xo 40 (.mkS 3 .int [tm 37,tm 39]),xm 2 40])
 .ret)))
def Nm:List Res:=[.tmp 2]
theorem Nd:A2 Tryd.prog Tryd.f27=some (Hv,Nm):=by kernel_rfl
def Cw (u0 u1:Int) (u2 u3 u4:Int):Option (List Int) :=
 (cond (u0==1)
  (some (u0==1))
  (some (u0==5))).bind fun u5 =>
cond u5
 (some ([u1,u2]))
 (cond (u0==2)
  (some ([u1]))
  (cond (u0==3)
   (some ([u1,u2,u3]))
   (cond (u0==4)
    (some ([u1,u2,u4]))
    (some ([u2,u1])))))
def L0 (r:List Int):RV:=⟨false,[(false,[.new 3 .int r])]⟩
theorem Ma {u0 u1:Int} {u2 u3 u4:Int} {r:List Int} (h:Cw u0 u1 u2 u3 u4=some r):A7 Tryd.prog Tab 27 [.agg [ai u0,ai u1,ai u2,ai u3,ai u4]] (L0 r):=by
 refine A5 (by kernel_rfl) Tryd.func27 Nd (n:=41) (by kernel_rfl) (by simp) rfl ?_;unfold Hv;unfold Cw at h;refine Al (Ab (Al (At (Ax h (fun (u5:Bool) S_=>S_=⟨Ak [(1,.box (oi 0 1) 0),(4,ai u0),(5,.bool u5)],Ai (Ar [(oi 0 1,.cells 35 [ai u0,ai u1,ai u2,ai u3,ai u4])]),2⟩) ?_ ?_))))
 ·intro v_ h;refine Al ?_;rcases Ac h with ⟨q6,h⟩ | ⟨q6,h⟩
  ·refine Ae q6 (Aj (tn_ ?_));obtain rfl:=zj h;exact ⟨_,Ad [(oi 0 1,oi 1 1)],rfl⟩
  refine Af q6 (Aa 9 (rsT 2 (Am (tn_ ?_))));obtain rfl:=zj h;exact ⟨_,Ad [(oi 0 1,oi 1 1)],rfl⟩
 rintro u5 _ rfl h
 (try dsimp only at h);rcases Ac h with ⟨q7,h⟩ | ⟨q7,h⟩
 ·refine Ae q7 (Al (Ah (br_ (tr_ ?_))));obtain rfl:=zj h;exact A6 [oI 12 6 2] (Av rfl (H4 (by kernel_rfl) rfl) Aw)
 refine Af q7 (Al ?_);rcases Ac h with ⟨q10,h⟩ | ⟨q10,h⟩
 ·refine Ae q10 (Al (Ah (br_ (tr_ ?_))));obtain rfl:=zj h;exact A6 [oI 17 6 1] (Av rfl (H4 (by kernel_rfl) rfl) Aw)
 refine Af q10 (Al ?_);rcases Ac h with ⟨q13,h⟩ | ⟨q13,h⟩
 ·refine Ae q13 (Al (Ah (br_ (tr_ ?_))));obtain rfl:=zj h;exact A6 [oI 26 12 3] (Av rfl (H4 (by kernel_rfl) rfl) Aw)
 refine Af q13 (Al ?_);rcases Ac h with ⟨q16,h⟩ | ⟨q16,h⟩
 ·refine Ae q16 (Al (Ah (br_ (tr_ ?_))));obtain rfl:=zj h;exact A6 [oI 35 14 3] (Av rfl (H4 (by kernel_rfl) rfl) Aw)
 refine Af q16 (Aj (bn_ (tn_ (wr_ (Al (Ah ?_))))));obtain rfl:=zj h;exact A6 [oI 40 12 2] (Av rfl (H4 (by kernel_rfl) rfl) Aw)
def Hk:AC :=
 (.seq (rg [xs1 20 19 18])
 (.seq (.cond (tm 20)
  .skip
  (.exit 0))
 (.seq (.block 1 (.seq (rg [xx 21 5 17 19,xo 22 (.i (.ld false 5 (tm 21))),xo 5 (.i (.alloc 35 [.int .i64 0,.int .i64 0,.int .i64 0,.int .i64 0,.int .i64 0])),xn (.st false 5 (tm 5) (tm 22))])
 (.region [xm 23 3,xo 24 (qc 23 [] []),xf 25 0 5,xl 26 25,xx 27 1 24 26,xl 28 27,xo 29 (.i (.ld false 5 (tm 5))),xo 30 (qc 27 [tm 29] [[none,none,none,none,none]]),xo 31 (qc 26 [tm 28,tm 30] [[],[some .int]]),xo 32 (qb .add (tm 23) (tm 31)),xm 3 32] true [(1,3),(1,6),(3,7),(5,7)])))
 (rg [xa 33 19,xm 19 33]))))
def Kz:AC :=
 (.seq (rg [xo 1 (.i (.box 24 (tm 0))),⟨some 2,none,.i (.mov (.cst (.str ⟨#[]⟩)))⟩])
 (.seq (rg [xf 6 0 1,xl 7 6,xf 8 1 1,xl 9 8,xf 10 2 1,xl 11 10,xf 12 3 1,xl 13 12,xo 14 (.mkS 3 .int [tm 7,tm 9,tm 11,tm 13]),⟨some 15,none,qc 26 [.cst (.str ⟨#[112,114,111,103,114,97,109]⟩),tm 14] [[],[some .int]]⟩,xm 3 15])
 (.seq (.seq (rg [xf 16 4 1,xl 17 16,xn1 18 17,xo 19 (qm (ci 0))])
 (.block 0 (.loop Hk)))
 (.seq (rg [xm 34 3,xm 2 34])
 .ret))))
def R6:List Res:=[.tmp 2]
theorem Ro:A2 Tryd.prog Tryd.f14=some (Kz,R6):=by kernel_rfl
theorem Pt:Bf Tryd.prog 14=true:=by kernel_rfl
def Dt (u2:List (Int×Int×Int×Int×Int)) (u1:ByteArray) (u0:Nat):Option (Ctl (ByteArray×Nat) ByteArray) :=
 cond (decide ((u0:Int)<(u2.length:Int)))
 ((u2[u0]?).bind fun x12 =>
 (B2).bind fun y13 =>
 (Vx y13 x12.1).bind fun x14 =>
 (Cw x12.1 x12.2.1 x12.2.2.1 x12.2.2.2.1 x12.2.2.2.2).bind fun y15 =>
 (Ct x14 y15).bind fun y16 =>
 og (u1.size+y16.size<=9223372036854775807) <|
 og (u0+1<4611686018427387904) <|
 some (Ctl.next (u1++y16,u0+1)))
 (some (Ctl.out u1))
def D4 (u0 u1:Int) (u2 u3:Int) (u4:List (Int×Int×Int×Int×Int)):Option ByteArray :=
 (Ct (⟨#[112,114,111,103,114,97,109]⟩:ByteArray) ([u0,u1,u2,u3])).bind fun y3 =>
(Bc (fun s_:ByteArray×Nat=>Dt u4 s_.1 s_.2) 4611686018427387904 (y3,0)).bind fun u5 =>
some u5
def Q5 (r:ByteArray):RV:=⟨false,[(false,[.sc (.str r)])]⟩
theorem Qx {u3 u4:Int} {u5 u6:Int} {u2:List (Int×Int×Int×Int×Int)} {r:ByteArray} (h:D4 u3 u4 u5 u6 u2=some r):A7 Tryd.prog Tab 14 [.agg [ai u3,ai u4,ai u5,ai u6,.tree T5 u2]] (Q5 r):=by
 refine A5 (by kernel_rfl) Tryd.func14 Ro (n:=35) (by kernel_rfl) (by simp) rfl ?_;unfold Kz;unfold D4 at h;refine Al (Ab ?_);obtain ⟨y3,h3,h⟩:=Ag h;refine Aa 14 (rsB 9 (Cu (.str y3) [] [.str (⟨#[112,114,111,103,114,97,109]⟩:ByteArray),oI 14 11 4] _ (caps:=[]) (args0:=[.str (⟨#[112,114,111,103,114,97,109]⟩:ByteArray),tI ([u3,u4,u5,u6])]) trivial (An (by kernel_rfl) (An (Eo (e:=3) (by kernel_rfl) rfl) Cq)) (Je h3) I4 (rsT 1 (Am (tn_ (wr_ (Ax h (fun (u7:ByteArray) S_=>S_=⟨Ak [(3,.str u7)],Ai (Ar []),2⟩) ?_ ?_)))))))
 ·intro v_ h;refine Al (At (Bq h (fun t_ S_=>∃ (u0:ByteArray),∃ (u1:Nat),t_=(u0,u1)∧S_=⟨Ak [(3,.str u0),(17,.tree T5 u2),(18,an u2.length),(19,an u1)],Ai (Ar []),2⟩) ⟨_,Ad [],⟨y3,0,rfl,rfl⟩⟩ ?_));rintro n_ _ _ c_ ⟨u0,u1,rfl,rfl⟩ h hn6
  (try dsimp only at h);unfold Dt at h;unfold Hk;refine Al (Ab ?_);rcases Ac h with ⟨q9,h⟩ | ⟨q9,h⟩
  ·have q9_:=of_decide_eq_true q9;refine Ae q9 (Aj (tn_ (wr_ (Ab (At (Ab ?_))))));obtain ⟨x12,e12,h⟩:=Ag h;refine Aa 7 (zI T5 e12 (rsB 3 (Am (tn_ (wr_ ?_)))));obtain ⟨y13,h13,h⟩:=Ag h;obtain ⟨x14,f14,h⟩:=Ag h;obtain ⟨p14,b14,e14⟩:=Nj f14;obtain ⟨y15,h15,h⟩:=Ag h;obtain ⟨y16,h16,h⟩:=Ag h;obtain ⟨g17,h⟩:=A4 h;refine Bh 18 (dz0 (.str u0) (dzc (.own (oi 384 8) .str 0 y13.length) [(oi 384 8,some (.arr 9 .str y13))] [] (Is h13) (dz0 (.box (oi 5 5) 0) (dzl (ai x12.1) (ds0 (.elt (oi 384 8) x12.1.toNat 0) (zo (t:=.str) (o:=oi 384 8) (len:=y13.length) (k:=.i64) (m:=x12.1) p14 (A1 e14)) (dsl (.str x14) (Hh (i:=oi 384 8) (j:=x12.1.toNat) (k:=0) (e:=9) (t:=.str) (xs:=y13) (by kernel_rfl) (by kernel_rfl) e14 (by kernel_rfl)) (dzl (.agg [ai x12.1,ai x12.2.1,ai x12.2.2.1,ai x12.2.2.2.1,ai x12.2.2.2.2]) (dzc (oI 480 14 y15.length) [nI 480 14 y15] [.agg [ai x12.1,ai x12.2.1,ai x12.2.2.1,ai x12.2.2.2.1,ai x12.2.2.2.2]] (Ma h15) (U2 (.str y16) [] [.str x14,oI 480 14 y15.length] _ (caps:=[]) (args0:=[.str x14,tI y15]) trivial (An (by kernel_rfl) (An (Eo (e:=3) (by kernel_rfl) rfl) Cq)) (Je h16) I4 (ds0 (.str (u0++y16)) (Ik (a:=u0) (b:=y16) (by kernel_rfl) (by kernel_rfl) g17) (dz0 (.str (u0++y16)) (Kj (Bv (by kernel_rfl)) (bn_ (tn_ (wr_ ?_)))))))))))))));obtain ⟨g18,h⟩:=A4 h;refine Aa 20 (zA g18 (rsT 1 (Am (tn_ ?_))));obtain rfl:=zj h;exact ⟨(u0++y16,u1+1),_,Ad [],⟨u0++y16,u1+1,rfl,rfl⟩,hn6⟩
  have q9_:=of_decide_eq_false q9;refine Af q9 (Br (te_ (te_ (be_ (tn_ ?_)))));obtain rfl:=zj h;have h:=hn6
  (try dsimp only at h);obtain rfl:=zj h;exact ⟨_,Ad [],rfl⟩
 rintro u7 _ rfl h
 (try dsimp only at h);refine Al (Ah ?_);obtain rfl:=zj h;exact A6 [.str u7] (Av rfl zl Aw)
def G2:AC :=
 (.seq (rg [xo 1 (.i (.box 35 (tm 0))),⟨some 2,none,.i (.mov (.cst (.str ⟨#[]⟩)))⟩])
 (.seq (rg [⟨some 5,none,.mkS 9 .str [.cst (.str ⟨#[]⟩),.cst (.str ⟨#[105,110]⟩),.cst (.str ⟨#[122,101,114,111]⟩),.cst (.str ⟨#[97,100,100]⟩),.cst (.str ⟨#[115,99,97,108,101]⟩),.cst (.str ⟨#[108,111,97,100]⟩),.cst (.str ⟨#[115,116,111,114,101]⟩),.cst (.str ⟨#[111,117,116]⟩)]⟩,xm 3 5])
 (.seq (rg [xf 6 1 1,xl 7 6,xf 8 2 1,xl 9 8,xo 10 (.mkS 3 .int [tm 7,tm 9]),xf 11 1 1,xl 12 11,xo 13 (.mkS 3 .int [tm 12]),xf 14 1 1,xl 15 14,xf 16 2 1,xl 17 16,xf 18 3 1,xl 19 18,xo 20 (.mkS 3 .int [tm 15,tm 17,tm 19]),xf 21 1 1,xl 22 21,xf 23 2 1,xl 24 23,xf 25 4 1,xl 26 25,xo 27 (.mkS 3 .int [tm 22,tm 24,tm 26]),xf 28 1 1,xl 29 28,xf 30 2 1,xl 31 30,xo 32 (.mkS 3 .int [tm 29,tm 31]),xf 33 2 1,xl 34 33,xf 35 1 1,xl 36 35,xo 37 (.mkS 3 .int [tm 34,tm 36]),xf 38 2 1,xl 39 38,xf 40 1 1,xl 41 40,xo 42 (.mkS 3 .int [tm 39,tm 41]),xo 43 (.mkV 40 sI 1 [.cst .nils,tm 10,tm 13,tm 20,tm 27,tm 32,tm 37,tm 42]),xm 4 43])
 (.seq (.region [xm 44 3,xf 45 0 1,xl 46 45,xx 47 1 44 46,xl 48 47,⟨some 49,none,.i (.bin .add (tm 48) (.cst (.str ⟨#[32]⟩)))⟩,xm 50 4,xf 51 0 1,xl 52 51,xx 53 1 50 52,xl 54 53,xo 55 (qc 35 [tm 54] [[some .int]]),⟨some 56,none,qc 36 [tm 55,.cst (.str ⟨#[44]⟩),.cst (.str ⟨#[32]⟩)] [[],[],[]]⟩,xo 57 (qb .add (tm 49) (tm 56)),xm 2 57] true [(2,11),(4,11),(2,12),(4,12)])
 .ret))))
def L2:List Res:=[.tmp 2]
theorem M1:A2 Tryd.prog Tryd.f37=some (G2,L2):=by kernel_rfl
def C7 (u2 u0:Int) (u1 u3 u4:Int):Option ByteArray :=
 (Vx ([(⟨#[]⟩:ByteArray),(⟨#[105,110]⟩:ByteArray),(⟨#[122,101,114,111]⟩:ByteArray),(⟨#[97,100,100]⟩:ByteArray),(⟨#[115,99,97,108,101]⟩:ByteArray),(⟨#[108,111,97,100]⟩:ByteArray),(⟨#[115,116,111,114,101]⟩:ByteArray),(⟨#[111,117,116]⟩:ByteArray)]) u2).bind fun x5 =>
og (x5.size+(⟨#[32]⟩:ByteArray).size<=9223372036854775807) <|
(Vx ([[],[u0,u1],[u0],[u0,u1,u3],[u0,u1,u4],[u0,u1],[u1,u0],[u1,u0]]) u2).bind fun x7 =>
(Dg x7).bind fun y8 =>
(Bo y8 (⟨#[44]⟩:ByteArray) (⟨#[32]⟩:ByteArray)).bind fun y9 =>
og ((x5++(⟨#[32]⟩:ByteArray)).size+y9.size<=9223372036854775807) <|
some ((x5++(⟨#[32]⟩:ByteArray))++y9)
def Ln (r:ByteArray):RV:=⟨false,[(false,[.sc (.str r)])]⟩
theorem Lh {u2 u0:Int} {u1 u3 u4:Int} {r:ByteArray} (h:C7 u2 u0 u1 u3 u4=some r):A7 Tryd.prog Tab 37 [.agg [ai u2,ai u0,ai u1,ai u3,ai u4]] (Ln r):=by
 refine A5 (by kernel_rfl) Tryd.func37 M1 (n:=58) (by kernel_rfl) (by simp) rfl ?_;unfold G2;unfold C7 at h;refine Al (Al (Ab (Aa 44 (rsB 37 (rsU (tS ([[],[u0,u1],[u0],[u0,u1,u3],[u0,u1,u4],[u0,u1],[u1,u0],[u1,u0]])) [(oi 10 9,none),(oi 13 12,none),(oi 20 19,none),(oi 27 26,none),(oi 32 31,none),(oi 37 36,none),(oi 42 41,none)] (Ady (t:=.int) (yss:=[[],[u0,u1],[u0],[u0,u1,u3],[u0,u1,u4],[u0,u1],[u1,u0],[u1,u0]]) (Fl (t:=.int) (c:=.nils) (ys:=[]) (by kernel_rfl) rfl (Fl (t:=.int) (c:=oI 10 9 2) (ys:=[u0,u1]) (by kernel_rfl) (E4 (e:=3) (by kernel_rfl) rfl) (Fl (t:=.int) (c:=oI 13 12 1) (ys:=[u0]) (by kernel_rfl) (E4 (e:=3) (by kernel_rfl) rfl) (Fl (t:=.int) (c:=oI 20 19 3) (ys:=[u0,u1,u3]) (by kernel_rfl) (E4 (e:=3) (by kernel_rfl) rfl) (Fl (t:=.int) (c:=oI 27 26 3) (ys:=[u0,u1,u4]) (by kernel_rfl) (E4 (e:=3) (by kernel_rfl) rfl) (Fl (t:=.int) (c:=oI 32 31 2) (ys:=[u0,u1]) (by kernel_rfl) (E4 (e:=3) (by kernel_rfl) rfl) (Fl (t:=.int) (c:=oI 37 36 2) (ys:=[u1,u0]) (by kernel_rfl) (E4 (e:=3) (by kernel_rfl) rfl) (Fl (t:=.int) (c:=oI 42 41 2) (ys:=[u1,u0]) (by kernel_rfl) (E4 (e:=3) (by kernel_rfl) rfl) Abm)))))))) (by kernel_rfl)) (rsT 1 (Am (tn_ (wr_ (Ab ?_))))))))));obtain ⟨x5,f5,h⟩:=Ag h;obtain ⟨p5,b5,e5⟩:=Nj f5;obtain ⟨g6,h⟩:=A4 h;obtain ⟨x7,f7,h⟩:=Ag h;obtain ⟨p7,b7,e7⟩:=Nj f7;obtain ⟨y8,h8,h⟩:=Ag h;obtain ⟨y9,h9,h⟩:=Ag h;obtain ⟨g10,h⟩:=A4 h;refine Bh 59 (dz0 (.own (oi 5 3) .str 0 8) (dz0 (.box (oi 1 1) 0) (dzl (ai u2) (ds0 (.elt (oi 5 3) u2.toNat 0) (zo (t:=.str) (o:=oi 5 3) (len:=8) (k:=.i64) (m:=u2) p5 (A1 e5)) (dsl (.str x5) (Hh (i:=oi 5 3) (j:=u2.toNat) (k:=0) (e:=9) (t:=.str) (xs:=[(⟨#[]⟩:ByteArray),(⟨#[105,110]⟩:ByteArray),(⟨#[122,101,114,111]⟩:ByteArray),(⟨#[97,100,100]⟩:ByteArray),(⟨#[115,99,97,108,101]⟩:ByteArray),(⟨#[108,111,97,100]⟩:ByteArray),(⟨#[115,116,111,114,101]⟩:ByteArray),(⟨#[111,117,116]⟩:ByteArray)]) (by kernel_rfl) (by kernel_rfl) e5 (by kernel_rfl)) (ds0 (.str (x5++(⟨#[32]⟩:ByteArray))) (Ik (a:=x5) (b:=(⟨#[32]⟩:ByteArray)) (by kernel_rfl) (by kernel_rfl) g6) (dz0 (tS ([[],[u0,u1],[u0],[u0,u1,u3],[u0,u1,u4],[u0,u1],[u1,u0],[u1,u0]])) (dz0 (.box (oi 1 1) 0) (dzl (ai u2) (ds0 (.telt none sI x7 0) (zi (t:=sI) (xs:=[[],[u0,u1],[u0],[u0,u1,u3],[u0,u1,u4],[u0,u1],[u1,u0],[u1,u0]]) (k:=.i64) (m:=u2) p7 e7) (dz0 (tI x7) (dzc (.str y8) [] [tI x7] (I1 h8) (dzc (.str y9) [] [.str y8,.str (⟨#[44]⟩:ByteArray),.str (⟨#[32]⟩:ByteArray)] (Fc h9) (ds0 (.str ((x5++(⟨#[32]⟩:ByteArray))++y9)) (Ik (a:=x5++(⟨#[32]⟩:ByteArray)) (b:=y9) (by kernel_rfl) (by kernel_rfl) g10) (dz0 (.str ((x5++(⟨#[32]⟩:ByteArray))++y9)) (Kj (Bv (by kernel_rfl)) (tn_ (wr_ (Ah ?_)))))))))))))))))));obtain rfl:=zj h;exact A6 [.str ((x5++(⟨#[32]⟩:ByteArray))++y9)] (Av rfl zl Aw)
def E1:AC :=
 (.seq (rg [xs1 25 24 23])
 (.seq (.cond (tm 25)
  .skip
  (.exit 0))
 (.seq (.block 1 (.seq (rg [xx 26 5 22 24,xo 27 (.i (.ld false 5 (tm 26))),xo 6 (.i (.alloc 35 [.int .i64 0,.int .i64 0,.int .i64 0,.int .i64 0,.int .i64 0])),xn (.st false 5 (tm 6) (tm 27))])
 (rg [xm 28 4,xo 29 (.i (.ld false 5 (tm 6))),xo 30 (qc 37 [tm 29] [[none,none,none,none,none]]),xo 31 (.mkS 9 .str [tm 30]),xo 32 (.append 9 .str 16 (tm 28) (tm 31)),xm 4 32])))
 (rg [xa 33 24,xm 24 33]))))
def Fz:AC :=
 (.seq (rg [xo 1 (.i (.box 24 (tm 0))),⟨some 2,none,.i (.mov (.cst (.str ⟨#[]⟩)))⟩])
 (.seq (rg [xf 7 0 1,xl 8 7,xf 9 1 1,xl 10 9,xf 11 2 1,xl 12 11,xf 13 3 1,xl 14 13,xo 15 (.mkS 3 .int [tm 8,tm 10,tm 12,tm 14]),xo 16 (qc 35 [tm 15] [[some .int]]),xm 3 16])
 (.seq (rg [xm 17 3,⟨some 18,none,qc 36 [tm 17,.cst (.str ⟨#[44]⟩),.cst (.str ⟨#[32]⟩)] [[],[],[]]⟩,⟨some 19,none,.i (.bin .add (.cst (.str ⟨#[112,114,111,103,114,97,109,32]⟩)) (tm 18))⟩,xo 20 (.mkS 9 .str [tm 19]),xm 4 20])
 (.seq (.seq (rg [xf 21 4 1,xl 22 21,xn1 23 22,xo 24 (qm (ci 0))])
 (.block 0 (.loop E1)))
 (.seq (rg [xm 34 4,⟨some 35,none,qc 38 [tm 34,.cst (.str ⟨#[10]⟩)] [[some .str],[]]⟩,⟨some 36,none,.i (.bin .add (tm 35) (.cst (.str ⟨#[10]⟩)))⟩,xm 2 36])
 .ret)))))
def J9:List Res:=[.tmp 2]
theorem Kb:A2 Tryd.prog Tryd.f19=some (Fz,J9):=by kernel_rfl
theorem Ja:Bf Tryd.prog 19=true:=by kernel_rfl
def B3 (u2:List (Int×Int×Int×Int×Int)) (u0:Nat) (u1:List ByteArray):Option (Ctl (Nat×List ByteArray) (List ByteArray)) :=
 cond (decide ((u0:Int)<(u2.length:Int)))
 ((u2[u0]?).bind fun x15 =>
 (C7 x15.1 x15.2.1 x15.2.2.1 x15.2.2.2.1 x15.2.2.2.2).bind fun y16 =>
 og (u1.length+1<=1073741824∧(u1.length+1)*16<=140737488355328) <|
 og (u0+1<4611686018427387904) <|
 some (Ctl.next (u0+1,u1++([y16]))))
 (some (Ctl.out u1))
def Co (u0 u1:Int) (u2 u3:Int) (u4:List (Int×Int×Int×Int×Int)):Option ByteArray :=
 (Dg ([u0,u1,u2,u3])).bind fun y3 =>
(Bo y3 (⟨#[44]⟩:ByteArray) (⟨#[32]⟩:ByteArray)).bind fun y5 =>
og ((⟨#[112,114,111,103,114,97,109,32]⟩:ByteArray).size+y5.size<=9223372036854775807) <|
(Bc (fun s_:Nat×List ByteArray=>B3 u4 s_.1 s_.2) 4611686018427387904 (0,[(⟨#[112,114,111,103,114,97,109,32]⟩:ByteArray)++y5])).bind fun u5 =>
(Dq u5 (⟨#[10]⟩:ByteArray)).bind fun y20 =>
og (y20.size+(⟨#[10]⟩:ByteArray).size<=9223372036854775807) <|
some (y20++(⟨#[10]⟩:ByteArray))
def Jh (r:ByteArray):RV:=⟨false,[(false,[.sc (.str r)])]⟩
theorem I7 {u4 u5:Int} {u6 u7:Int} {u3:List (Int×Int×Int×Int×Int)} {r:ByteArray} (h:Co u4 u5 u6 u7 u3=some r):A7 Tryd.prog Tab 19 [.agg [ai u4,ai u5,ai u6,ai u7,.tree T5 u3]] (Jh r):=by
 refine A5 (by kernel_rfl) Tryd.func19 Kb (n:=37) (by kernel_rfl) (by simp) rfl ?_;unfold Fz;unfold Co at h;refine Al (Ab ?_);obtain ⟨y3,h3,h⟩:=Ag h;refine Aa 14 (rsB 9 (Cu (.str y3) [] [oI 15 11 4] _ (caps:=[]) (args0:=[tI ([u4,u5,u6,u7])]) trivial (An (Eo (e:=3) (by kernel_rfl) rfl) Cq) (I1 h3) P7 (rsT 1 (Am (tn_ (wr_ (Ab ?_)))))));obtain ⟨y5,h5,h⟩:=Ag h;obtain ⟨g6,h⟩:=A4 h;refine Aa 19 (rsT 1 (zc (.str y5) [] [.str y3,.str (⟨#[44]⟩:ByteArray),.str (⟨#[32]⟩:ByteArray)] (Fc h5) (rs0 (.str ((⟨#[112,114,111,103,114,97,109,32]⟩:ByteArray)++y5)) (Ik (a:=(⟨#[112,114,111,103,114,97,109,32]⟩:ByteArray)) (b:=y5) (by kernel_rfl) (by kernel_rfl) g6) (rsB 2 (Am (tn_ (wr_ (Ax h (fun (u1:List ByteArray) S_=>S_=⟨Ak [(4,.own (oi 0 1) .str 0 u1.length)],Ai (Ar [(oi 0 1,.arr 9 .str u1)]),2⟩) ?_ ?_))))))))
 ·intro v_ h;refine Al (At (Bq h (fun t_ S_=>∃ (u2:Nat),∃ (u0:List ByteArray),t_=(u2,u0)∧S_=⟨Ak [(4,.own (oi 0 1) .str 0 u0.length),(22,.tree T5 u3),(23,an u3.length),(24,an u2)],Ai (Ar [(oi 0 1,.arr 9 .str u0)]),2⟩) ⟨_,Ad [(oi 0 1,oi 20 17)],⟨0,[(⟨#[112,114,111,103,114,97,109,32]⟩:ByteArray)++y5],rfl,rfl⟩⟩ ?_));rintro n_ _ _ c_ ⟨u2,u0,rfl,rfl⟩ h hn9
  (try dsimp only at h);unfold B3 at h;unfold E1;refine Al (Ab ?_);rcases Ac h with ⟨q12,h⟩ | ⟨q12,h⟩
  ·have q12_:=of_decide_eq_true q12;refine Ae q12 (Aj (tn_ (wr_ (Ab (At (Ab ?_))))));obtain ⟨x15,e15,h⟩:=Ag h;refine Aa 7 (zI T5 e15 (rsB 3 (Am (tn_ (wr_ ?_)))));obtain ⟨y16,h16,h⟩:=Ag h;obtain ⟨g17,h⟩:=A4 h;refine Aa 13 (rsT 2 (zc (.str y16) [] [.agg [ai x15.1,ai x15.2.1,ai x15.2.2.1,ai x15.2.2.2.1,ai x15.2.2.2.2]] (Lh h16) (rsB 1 (rs2 (.own (oi 0 11) .str 0 ((u0++([y16])).length)) (oi 0 1) (oi 0 11) (.arr 9 .str (u0++([y16]))) (K8 (t:=.str) (t':=.str) (xs:=u0) (ys:=[y16]) (zs:=u0++([y16])) (j:=oi 0 1) (len:=u0.length) (c:=.own (oi 31 10) .str 0 1) (by kernel_rfl) (by kernel_rfl) rfl (by kernel_rfl) (E4 (e:=9) (by kernel_rfl) rfl) rfl g17) (rsT 1 (Am (bn_ (tn_ (wr_ ?_)))))))));obtain ⟨g18,h⟩:=A4 h;refine Aa 15 (zA g18 (rsT 1 (Am (tn_ ?_))));obtain rfl:=zj h;exact ⟨(u2+1,u0++([y16])),_,Ad [(oi 0 1,oi 0 11)],⟨u2+1,u0++([y16]),rfl,rfl⟩,hn9⟩
  have q12_:=of_decide_eq_false q12;refine Af q12 (Br (te_ (te_ (be_ (tn_ ?_)))));obtain rfl:=zj h;have h:=hn9
  (try dsimp only at h);obtain rfl:=zj h;exact ⟨_,Ad [],rfl⟩
 rintro u1 _ rfl h
 (try dsimp only at h);refine Ab ?_;obtain ⟨y20,h20,h⟩:=Ag h;obtain ⟨g21,h⟩:=A4 h;refine Aa 6 (rsT 1 (Cu (.str y20) [] [.own (oi 0 1) .str 0 u1.length,.str (⟨#[10]⟩:ByteArray)] _ (caps:=[]) (args0:=[.tree .str u1,.str (⟨#[10]⟩:ByteArray)]) trivial (An (Eo (e:=9) (by kernel_rfl) rfl) (An (by kernel_rfl) Cq)) (It h20) Ir (rs0 (.str (y20++(⟨#[10]⟩:ByteArray))) (Ik (a:=y20) (b:=(⟨#[10]⟩:ByteArray)) (by kernel_rfl) (by kernel_rfl) g21) (rsT 1 (Am (tn_ (wr_ (Ah ?_))))))));obtain rfl:=zj h;exact A6 [.str (y20++(⟨#[10]⟩:ByteArray))] (Av rfl zl Aw)
end Go.Proofs.YtjlcpiemabfpiaaDoor

namespace Go.Proofs.YtjlcpiemabfpiaaDoor
section
variable {α β σ ρ:Type}
theorem Sp {body:σ->Option (Ctl σ ρ)} {Post:ρ->Prop} (n:Nat) (I:Nat->σ->Prop)
  (hs:∀ i s,i<n->I i s->(∃ s',body s=some (.next s')∧I (i+1) s')∨∃ r,body s=some (.out r)∧Post r) (he:∀ s,I n s->∃ r,body s=some (.out r)∧Post r) :
  ∀ (F k:Nat) (s:σ),k<=n->n - k<F->I k s->∃ r,Bc body F s=some r∧Post r
 | 0,_,_,_,h,_=>by omega
 | F+1,k,s,hk,h,hi=>by
  have key:(∃ r,body s=some (.out r)∧Post r)->∃ r,Bc body (F+1) s=some r∧Post r:=by
   rintro ⟨r,h1,h2⟩;exact ⟨r,by simp only [Bc,h1,obs,Ctl.then],h2⟩
  rcases Nat.lt_or_ge k n with hlt | hge
  ·rcases hs k s hlt hi with ⟨s',h1,h2⟩ | h
   ·obtain ⟨r,h3,h4⟩:=Sp n I hs he F (k+1) s' hlt (by omega) h2;exact ⟨r,by simp only [Bc,h1,obs,Ctl.then]; exact h3,h4⟩
   ·exact key h
  ·obtain rfl:k=n:=by omega
   exact key (he s hi)
theorem Eb {body:σ->Option (Ctl σ ρ)} {Post:ρ->Prop} (n:Nat) (I:Nat->σ->Prop) {F:Nat} (hn:n<F) {s0:σ} (h0:I 0 s0)
  (hs:∀ i s,i<n->I i s->(∃ s',body s=some (.next s')∧I (i+1) s')∨∃ r,body s=some (.out r)∧Post r) (he:∀ s,I n s->∃ r,body s=some (.out r)∧Post r):∃ r,Bc body F s0=some r∧Post r :=
 Sp n I hs he F 0 s0 (Nat.zero_le _) (by omega) h0
theorem P3 {body:σ->Option (Ctl σ ρ)} (n:Nat) (I:Nat->σ->Prop) {F:Nat} (hn:n<F) {s0:σ} (r:ρ) (h0:I 0 s0)
  (hs:∀ i s,i<n->I i s->(∃ s',body s=some (.next s')∧I (i+1) s')∨body s=some (.out r)) (he:∀ s,I n s->body s=some (.out r)):Bc body F s0=some r:=by
 obtain ⟨r',h1,rfl⟩:=Eb (Post:=fun r'=>r'=r) n I hn h0 (fun i s hi hI=>(hs i s hi hI).imp id fun h=>⟨r,h,rfl⟩) (fun s h=>⟨r,he s h,rfl⟩);exact h1
theorem Ev {body:σ->Option (Ctl σ ρ)} (n:Nat) (S:Nat->σ) {F:Nat} (hn:n<F) {s0:σ} (r:ρ) (h0:s0=S 0) (hs:∀ i,i<n->body (S i)=some (.next (S (i+1)))) (he:body (S n)=some (.out r)):Bc body F s0=some r:=by
 subst h0;refine P3 n (fun i s=>s=S i) hn r rfl (fun i s hi e=>.inl ?_) (fun s e=>by subst e; exact he);subst e;exact ⟨_,hs i hi,rfl⟩
theorem Tb {body:Nat->Option (Ctl Nat ρ)} (xs:List α) (q:α->Bool) (good bad:ρ) {F:Nat} (hn:xs.length<F) (hs:∀ i x,xs[i]? =some x->body i=some (if q x then .next (i+1) else .out bad)) (he:body xs.length=some (.out good)):Bc body F 0=some (if xs.all q then good else bad):=by
 refine P3 xs.length (fun i s=>s=i∧(xs.take i).all q=true) hn _ ⟨rfl,by simp⟩ ?_ ?_
 ·rintro i s hi ⟨hsi,hq⟩;subst s;have hx:=gEg hi;rw [hs i _ hx];cases hc:q xs[i]
  ·refine .inr ?_
   have:xs.all q=false:=by
    rw [Bool.eq_false_iff];intro ha;rw [List.all_eq_true] at ha;rw [ha _ (List.getElem_mem hi)] at hc;cases hc
   rw [this]; rfl
  ·refine .inl ⟨i+1,rfl,rfl,?_⟩;rw [List.take_add_one,List.all_append,hq,hx];simp [hc]
 ·rintro s ⟨rfl,hq⟩;rw [List.take_length] at hq;rw [he,hq]; rfl
theorem Y3 {body:Nat->Option (Ctl Nat ρ)} (xs:List α) (q:α->Bool) (none_:ρ) (g:Nat->ρ) {F:Nat} (hn:xs.length<F) (hs:∀ i x,xs[i]? =some x->body i=some (if q x then .out (g i) else .next (i+1))) (he:body xs.length=some (.out none_)) :
  (xs.any q=true∧∃ i,i<xs.length∧Bc body F 0=some (g i))∨(xs.any q=false∧Bc body F 0=some none_):=by
 have key:∃ r,Bc body F 0=some r∧((xs.any q=true∧∃ i,i<xs.length∧r=g i)∨(xs.any q=false∧r=none_)):=by
  refine Eb xs.length (fun i s=>s=i∧(xs.take i).any q=false) hn ⟨rfl,by simp⟩ ?_ ?_
  ·rintro i s hi ⟨hsi,hq⟩;subst s;have hx:=gEg hi;rw [hs i _ hx];cases hc:q xs[i]
   ·refine .inl ⟨i+1,rfl,rfl,?_⟩;rw [List.take_add_one,List.any_append,hq,hx];simp [hc]
   ·exact .inr ⟨_,rfl,.inl ⟨List.any_eq_true.2 ⟨_,List.getElem_mem hi,hc⟩,i,hi,rfl⟩⟩
  ·rintro s ⟨hsi,hq⟩;subst hsi;rw [List.take_length] at hq;exact ⟨_,he,.inr ⟨hq,rfl⟩⟩
 obtain ⟨r,h,⟨h1,i,hi,rfl⟩ | ⟨h1,rfl⟩⟩:=key
 ·exact .inl ⟨h1,i,hi,h⟩
 ·exact .inr ⟨h1,h⟩
theorem Hj {body:Nat×List β->Option (Ctl (Nat×List β) ρ)} (xs:List α) (f:α->β) (ys:List β) {F:Nat} (hn:xs.length<F) (r:ρ) (hs:∀ i x,xs[i]? =some x->body (i,ys++(xs.take i).map f)=some (.next (i+1,(ys++(xs.take i).map f)++[f x]))) (he:body (xs.length,ys++xs.map f)=some (.out r)):Bc body F (0,ys)=some r:=by
 refine Ev xs.length (fun i=>(i,ys++(xs.take i).map f)) hn r (by simp) (fun i hi=>?_) (by rw [List.take_length]; exact he);have hx:=gEg hi;rw [hs i _ hx,List.take_add_one,hx];simp only [List.map_append,Option.toList,List.map_cons,List.map_nil,List.append_assoc]
theorem Ym {xs ys:List α} {i:Nat} (h:i<xs.length) (hl:ys.length=i):(ys++xs.drop i)[i]? =some xs[i]:=by
 rw [List.getElem?_append_right (by omega),hl];simp [List.getElem?_drop,h]
theorem Zf {xs ys:List α} {y:α} {i:Nat} (h:i<xs.length) (hl:ys.length=i):(ys++xs.drop i).set i y=(ys++[y])++xs.drop (i+1):=by
 rw [List.set_append,if_neg (by omega),hl,Nat.sub_self,List.drop_eq_getElem_cons h,List.append_assoc];rfl
theorem Il {xs ys:List α} {y:α} {i:Nat} (hl:ys.length=i):((ys++[y])++xs)[i]? =some y:=by
 subst hl;rw [List.getElem?_append_left (by simp)];simp
theorem H9 {xs ys:List α} {y z:α} {i:Nat} (hl:ys.length=i):((ys++[y])++xs).set i z=(ys++[z])++xs:=by
 subst hl;rw [List.append_assoc,List.append_assoc,List.set_append,if_neg (by omega)];simp
end
theorem Cc {n:Int} (h1: -9223372036854775808<=n) (h2:n<9223372036854775808):wI n=n:=Go.IntWalk.i64_in _ (by omega)
theorem Cj {p:Prop} [Decidable p] (h:p):decide p=true:=decide_eq_true h
theorem Cg {p:Prop} [Decidable p] (h:¬ p):decide p=false:=decide_eq_false h
end Go.Proofs.YtjlcpiemabfpiaaDoor
namespace Go.Proofs.YtjlcpiemabfpiaaDoor
def ba (l:List UInt8):ByteArray:=⟨l.toArray⟩
theorem Iq (a b:List UInt8):ba a++ba b=ba (a++b):=by
 apply ByteArray.ext; simp [ba]
theorem Bd (a:List UInt8):(ba a).size=a.length:=by simp [ba,ByteArray.size]
theorem E2 (a:List UInt8):(ba a).data.toList=a:=by simp [ba]
def dg (n:Int):List UInt8:=Lib.decDigits n.toNat
theorem Xt:∀ n,(Lib.decDigits n).length<=n+1:=by
 intro n
 induction n using Nat.strongRecOn with
 | _ n ih =>
  rw [Lib.decDigits];split
  ·simp
  ·rw [List.length_append,List.length_singleton];have:=ih (n / 10) (by omega);omega
theorem Xu:∀ n,∀ c∈Lib.decDigits n,48<=c.toNat∧c.toNat<=57:=by
 intro n
 induction n using Nat.strongRecOn with
 | _ n ih =>
  intro c hc;rw [Lib.decDigits] at hc;split at hc
  ·obtain rfl:=List.mem_singleton.1 hc;have e:(UInt8.ofNat (48+n)).toNat=(48+n) % 256:=UInt8.toNat_ofNat';omega
  ·rcases List.mem_append.1 hc with h | h
   ·exact ih (n / 10) (by omega) c h
   ·obtain rfl:=List.mem_singleton.1 h;have e:(UInt8.ofNat (48+n % 10)).toNat=(48+n % 10) % 256:=UInt8.toNat_ofNat';omega
theorem Ach:∀ (k n m:Nat),n<10 ^ (k+1)->n<=1000000->D1 (k+1+m) (n:Int)=some (ba (Lib.decDigits n)):=by
 intro k;have hw:∀ d:Fin 10,IntKind.u8.wrap (48+(d.val:Int))=((48+d.val:Nat):Int):=by decide
 have hb:∀ d:Nat,d<10->strOfNums [IntKind.u8.wrap (wI (48+(d:Int)))]=ba [UInt8.ofNat (48+d)]:=fun d hd=>by
  rw [Cc (by omega) (by omega),hw ⟨d,hd⟩];rfl
 induction k with
 | zero =>
  intro n m h _;rw [show 0+1+m=m+1 by omega];unfold D1 Ee;rw [Cj (show (n:Int)<10 by omega),cond_true,hb n (by omega),Lib.decDigits,dif_pos (by omega)]
 | succ k ih =>
  intro n m h hm;rw [show k+1+1+m=(k+1+m)+1 by omega];unfold D1 Ee;by_cases h10:n<10
  ·rw [Cj (show (n:Int)<10 by omega),cond_true,hb n (by omega),Lib.decDigits,dif_pos (by omega)]
  ·have hq:Int.tdiv (n:Int) 10=((n / 10:Nat):Int):=by rw [Int.tdiv_eq_ediv_of_nonneg (by omega)]; rfl
   have hr:Int.tmod (n:Int) 10=((n % 10:Nat):Int):=by rw [Int.tmod_eq_emod_of_nonneg (by omega)]; rfl
   have hl:=Xt (n / 10);rw [Cg (show ¬ (n:Int)<10 by omega),cond_false,hq,hr,Cc (n:=((n / 10:Nat):Int)) (by omega) (by omega),ih (n / 10) m (by rw [Nat.pow_succ] at h; omega) (by omega),obs,hb (n % 10) (by omega),As (by rw [Bd,Bd]; simp; omega),Iq];congr 2
   conv=>rhs; rw [Lib.decDigits,dif_neg h10]
theorem Adt {n:Int} (h:0<=n∧n<=1000):D1 4096 n=some (ba (dg n)):=by
 obtain ⟨k,rfl⟩:=Int.eq_ofNat_of_zero_le h.1;exact Ach 3 k 4092 (by omega) (by omega)
theorem H5 {α:Type} (f:α->List UInt8) (c:Nat):∀ (xs:List α),(∀ x∈xs,(f x).length<=c)->(xs.flatMap f).length<=c*xs.length
 | [],_=>by simp
 | x :: xs,h=>by
  rw [List.flatMap_cons,List.length_append,List.length_cons,Nat.mul_succ];have:=h x (by simp);have:=H5 f c xs fun y hy=>h y (by simp [hy])
  omega
def spc (n:Int):List UInt8:=32 :: dg n
theorem Lx {n:Int} (h:0<=n∧n<=100):(dg n).length<=101:=by
 have:=Xt n.toNat;unfold dg; omega
theorem Rs {a b c:UInt8} (h:c≠a):∀ (n:Nat) (l:List UInt8),Lib.replaceK [a] [b] n (c :: l)=c :: Lib.replaceK [a] [b] n l
 | 0,l=>rfl
 | n+1,l=>by
  have hp:([a]:List UInt8).isPrefixOf (c :: l)=false:=by simp [List.isPrefixOf,Ne.symm h]
  have hge:=Lib.index_ge l [a];unfold Lib.replaceK;rw [show Lib.index (c :: l) [a]=if Lib.index l [a]== -1 then -1 else Lib.index l [a]+1 from by (conv=>lhs; unfold Lib.index; rw [hp]); rw [if_neg Bool.false_ne_true]];by_cases hi:Lib.index l [a]= -1
  ·rw [hi]; rfl
  ·have h1:(Lib.index l [a]== -1)=false:=beq_eq_false_iff_ne.2 hi;have h2:(Lib.index l [a]+1== -1)=false:=beq_eq_false_iff_ne.2 (by omega);rw [h1];simp only [Bool.false_eq_true,if_false,h2];rw [show (Lib.index l [a]+1).toNat=(Lib.index l [a]).toNat+1 by omega,List.take_succ_cons,show (Lib.index l [a]).toNat+1+([a]:List UInt8).length=((Lib.index l [a]).toNat+([a]:List UInt8).length)+1 by simp,List.drop_succ_cons];rfl
theorem Id {a b:UInt8}:∀ (s:List UInt8),Lib.replaceK [a] [b] (s.count a) s=s.map fun c=>if c=a then b else c
 | []=>rfl
 | c :: l=>by
  by_cases h:c=a
  ·subst h;have hp:([c]:List UInt8).isPrefixOf (c :: l)=true:=by simp [List.isPrefixOf]
   have hi:Lib.index (c :: l) [c]=(0:Nat):=by unfold Lib.index; rw [hp]; rfl
   rw [List.count_cons_self,Lib.replaceK_hit [c] [b] _ (c :: l) 0 hi];simp only [List.take_zero,List.nil_append,List.length_singleton,Nat.zero_add,List.drop_succ_cons,List.drop_zero,List.map_cons,if_true];rw [Id l]; rfl
  ·rw [List.count_cons_of_ne h,Rs h,Id l,List.map_cons,if_neg h]
theorem Q0 {a b:UInt8} (hab:a≠b) (s:List UInt8):Lib.replaceAll s [a] [b]=s.map fun c=>if c=a then b else c:=by
 unfold Lib.replaceAll Lib.replace;rw [if_neg (by simpa using hab)];unfold Lib.replaceNum;rw [if_pos (.inl (by decide)),Lib.count_one,Id]
theorem Xo (n:Int):(dg n).map (fun c=>if c=(44:UInt8) then (32:UInt8) else c)=dg n:=by
 conv=>rhs; rw [← List.map_id (dg n)]
 refine List.map_congr_left fun c hc=>?_
 have:=Xu _ c hc;rw [if_neg]; rfl;rintro rfl;have e:(44:UInt8).toNat=44:=rfl;omega
theorem Z4 (r:List Int):(Lib.joinTail [44] (r.map dg)).map (fun c=>if c=(44:UInt8) then (32:UInt8) else c)=r.flatMap spc:=by
 induction r with
 | nil=>rfl
 | cons n r ih =>
  simp only [Lib.joinTail,List.map_cons,List.flatten_cons,List.map_append,List.flatMap_cons] at ih ⊢;rw [ih,Xo];rfl
theorem Zy (n:Int) (r:List Int):(32:UInt8) :: Lib.replaceAll (Lib.join ((n :: r).map dg) [44]) [44] [32]=(n :: r).flatMap spc:=by
 rw [Q0 (by decide),List.map_cons,Lib.join_cons,List.map_append,Xo,Z4];rfl
theorem Ra (xs:List (List UInt8)) (sep:List UInt8) (c:Nat) (h:∀ x∈xs,x.length<=c):(Lib.join xs sep).length<=(c+sep.length)*xs.length:=by
 cases xs with
 | nil=>simp [Lib.join_nil]
 | cons x r =>
  rw [Lib.join_cons,List.length_append];have h1:=h x (by simp)
  have h2:(Lib.joinTail sep r).length<=(sep.length+c)*r.length:=by
   unfold Lib.joinTail;have:=H5 (fun y=>sep++y) (sep.length+c) r (fun y hy=>by rw [List.length_append]; have:=h y (by simp [hy]); omega)
   rwa [List.flatMap_def] at this
  rw [List.length_cons,Nat.mul_succ,Nat.add_comm c];omega
theorem Abz (xs:List (List UInt8)) (h:xs≠[]):Lib.join xs [10]++[10]=xs.flatMap fun x=>x++[10]:=by
 cases xs with
 | nil=>exact absurd rfl h
 | cons x r =>
  clear h
  rw [Lib.join_cons]
  have key:∀ (r:List (List UInt8)),[10]++r.flatMap (fun x=>x++[(10:UInt8)])=Lib.joinTail [10] r++[10]:=by
   intro r
   induction r with
   | nil=>rfl
   | cons y r ih =>
    simp only [Lib.joinTail,List.map_cons,List.flatten_cons,List.flatMap_cons] at ih ⊢;rw [List.append_assoc,List.append_assoc,List.append_assoc,← ih]
  rw [List.flatMap_cons,List.append_assoc,List.append_assoc,key]
theorem Z1 (xs:List (List UInt8)) (sep:List UInt8):Yl (xs.map ba) (ba sep)=ba (Lib.join xs sep):=by
 unfold Yl;rw [List.map_map,E2];congr 3
 conv=>rhs; rw [← List.map_id xs]
 exact List.map_congr_left fun x _=>E2 x
def Md (xs:List Int):Prop:=∀ n∈xs,0<=n∧n<100
theorem V9 {xs:List Int} (h:Md xs) (hl:xs.length<=100):Dg xs=some (ba (Lib.join (xs.map dg) [44])):=by
 unfold Dg;have hloop:=Hj (body:=fun s_:Nat×List ByteArray=>Cv xs s_.1 s_.2) xs (fun n=>ba (dg n)) [] (F:=4611686018427387904) (by omega) (xs.map fun n=>ba (dg n)) (fun i x hx=>?_) ?_
 ·have hjl:(Lib.join (xs.map dg) [44]).length<=(101+1)*xs.length:=by
   have:=Ra (xs.map dg) [44] 101 (fun x hx=>by obtain ⟨n,hn,rfl⟩:=List.mem_map.1 hx; have:=h n hn; exact Lx (by omega))
   simpa using this
  have e:=Z1 (xs.map dg) [44];rw [List.map_map] at e;rw [show Bc (fun s_:Nat×List ByteArray=>Cv xs s_.1 s_.2) 4611686018427387904 (0,[])=some (xs.map fun n=>ba (dg n)) by simpa using hloop,obs];unfold Dq;rw [show (⟨#[44]⟩:ByteArray)=ba [44] from rfl,show xs.map (fun n=>ba (dg n))=xs.map (ba∘dg) from rfl,e,As (by rw [Bd,List.length_map]; omega),obs]
 ·have:=A1 hx;have hn:=h x (List.mem_of_getElem? hx)
  try dsimp only
  unfold Cv E5;rw [Cj (by omega),cond_true,hx,obs,As (by omega),obs,As (by simp; omega),As (by omega)];rfl
 ·try dsimp only
  unfold Cv;rw [Cg (by omega),cond_false,List.nil_append]
theorem Acu {n:Int} {r:List Int} (h:Md (n :: r)) (hl:(n :: r).length<=100):∃ l,Bo (ba (Lib.join ((n :: r).map dg) [44])) (⟨#[44]⟩:ByteArray) (⟨#[32]⟩:ByteArray)=some (ba l)∧(32:UInt8) :: l=(n :: r).flatMap spc:=by
 have hjl:(Lib.join ((n :: r).map dg) [44]).length<=(101+1)*(n :: r).length:=by
  have:=Ra ((n :: r).map dg) [44] 101 (fun x hx=>by obtain ⟨n,hn,rfl⟩:=List.mem_map.1 hx; have:=h n hn; exact Lx (by omega))
  simpa using this
 refine ⟨Lib.replaceAll (Lib.join ((n :: r).map dg) [44]) [44] [32],?_,Zy n r⟩;unfold Bo Adv;rw [As ⟨by rw [Bd]; omega,by decide,by decide⟩,E2];rfl
theorem Vh {w:List UInt8} {xs:List Int} (h:Md xs) (hl:xs.length<=100) (hw:w.length<=1000):Ct (ba w) xs=some (ba ((w++xs.flatMap spc)++[10])):=by
 unfold Ct
 have hfl:∀ i,((xs.take i).flatMap spc).length<=102*100:=fun i=>by
  have:=H5 spc 102 (xs.take i) (fun x hx=>by have:=h x (List.mem_of_mem_take hx); have:=Lx (n:=x) (by omega); unfold spc; rw [List.length_cons]; omega);have h2:(xs.take i).length<=100:=by rw [List.length_take]; omega
  omega
 have hloop:Bc (fun s_:ByteArray×Nat=>Dl xs s_.1 s_.2) 4611686018427387904 (ba w,0)=some (ba (w++xs.flatMap spc)):=by
  refine Ev xs.length (fun i=>(ba (w++(xs.take i).flatMap spc),i)) (by omega) _ (by simp) (fun i hi=>?_) ?_
  ·have hx:=gEg hi;have hn:=h _ (List.getElem_mem hi);have h1:=hfl i;have h2:=Lx (n:=xs[i]) (by omega)
   try dsimp only
   unfold Dl
   rw [Cj (by omega),cond_true,hx,obs,Adt (by omega),obs,show (⟨#[32]⟩:ByteArray)=ba [32] from rfl,As (by rw [Bd,Bd]; simp; omega),Iq,As (by rw [Bd,Bd,List.length_append,List.length_append,List.length_singleton]; omega),As (by omega),Iq,
    List.take_add_one,hx,Option.toList,List.flatMap_append,List.append_assoc]
   simp only [List.flatMap_cons,List.flatMap_nil,List.append_nil];rfl
  ·try dsimp only
   unfold Dl;rw [Cg (by omega),cond_false,List.take_length]
 have h1:=hfl xs.length;rw [List.take_length] at h1;rw [hloop,obs,show (⟨#[10]⟩:ByteArray)=ba [10] from rfl,As (by rw [Bd,Bd,List.length_append,List.length_singleton]; omega),Iq]
end Go.Proofs.YtjlcpiemabfpiaaDoor
namespace Go.Proofs.YtjlcpiemabfpiaaDoor
theorem Aan {α:Type} (q:α->Bool) (l:List α):(!l.any fun x=> !q x)=l.all q:=by
 induction l with
 | nil=>rfl
 | cons x l ih=>simp only [List.any_cons,List.all_cons,Bool.not_or,Bool.not_not,ih]
theorem Ug (b:Bool):On (some (if b then Ctl.next () else Ctl.out false)) (fun _:Unit=>some true)=some b:=by cases b <;> rfl
theorem Ny (x lo hi:Int):Bb x lo hi=some (inR x lo hi):=by
 unfold Bb inR;by_cases h:lo<=x <;> simp [h]
theorem Ri (x lo hi:Int):Bi x lo hi=some (inR x lo hi):=by
 unfold Bi inR;by_cases h:lo<=x <;> simp [h]
theorem Xa (xs:List Int) (n:Int) (hn: -1000000000<=n∧n<=1000000000) (hx:xs.length<=1099511627776):C5 xs n=some (xs.all fun x=>inR x 0 (n - 1)):=by
 unfold C5;rw [Tb xs (fun x=>inR x 0 (n - 1)) (.next ()) (.out false) (by omega) (fun i x h=>?_) ?_,Ug]
 ·unfold Dy;rw [Cg (by omega),cond_false]
 ·have:=A1 h;unfold Dy;rw [Cj (by omega),cond_true,h,obs,Cc (by omega) (by omega),Ri,obs,As (by omega)];cases inR x 0 (n - 1) <;> rfl
theorem Ab6 {p:Int} (h:inR p 2 97=false):isF p=false:=by rcases Y0.1 h with h | h <;> simp [isF] <;> omega
theorem Z3 (p:Int):Es p=some (isF p):=by
 unfold Es;rw [Ny,obs];cases hr:inR p 2 97
 ·rw [Ab6 hr]; rfl
 rw [Bool.not_true,cond_false];obtain ⟨h1,h2⟩:=Cp.1 hr;obtain ⟨n,rfl⟩:=Int.eq_ofNat_of_zero_le (show 0<=p by omega)
 have h:Bc (fun s_:Nat=>Dm n s_) 4611686018427387904 2=some (if isF n then .next () else .out false):=by
  refine P3 8 (fun i s=>s=i+2∧Sn n s=true) (by omega) _ ⟨rfl,by simp [Sn,List.range_succ]⟩ ?_ ?_
  ·rintro i s hi ⟨hs,hd⟩;unfold Dm;have hm:((s:Int)*(s:Int))=((s*s:Nat):Int):=by simp
   have hss:s*s<=9*9:=Nat.mul_le_mul (by omega) (by omega);rw [hm,Cc (by omega) (by omega)];by_cases hle:s*s<=n
   ·rw [Cj (by omega),cond_true,As (by omega),show Int.tmod (n:Int) (s:Int)=((n % s:Nat):Int) from by rw [Int.tmod_eq_emod_of_nonneg (by omega)]; rfl];by_cases h0:n % s=0
    ·refine .inr ?_;rw [h0,Ab0 n (by omega) s (by omega) (by omega) hle h0]; rfl
    ·refine .inl ⟨s+1,?_,by omega,Wx hd h0⟩;rw [show (((n % s:Nat):Int)==0)=false from by rw [beq_eq_false_iff_ne]; omega,cond_false,As (by omega)]
   ·refine .inr ?_;rw [Cg (by omega),cond_false,Ss n (by omega) (by omega) s (by omega) hd (by omega)]; rfl
  ·rintro s ⟨hs,hd⟩;obtain rfl:s=10:=by omega
   unfold Dm;rw [show wI (((10:Nat):Int)*((10:Nat):Int))=100 from Cc (by omega) (by omega),Cg (by omega),cond_false,Ss n (by omega) (by omega) 10 (by omega) hd (by omega)]; rfl
 rw [h,Ug]
theorem Uy (p x:Int):Dk p x=some (inR x 0 (p - 1)):=by
 unfold Dk inR;by_cases h:0<=x
 ·simp [h,show (x<p↔x<=p - 1) by omega]
 ·simp [h]
end Go.Proofs.YtjlcpiemabfpiaaDoor
namespace Go.Proofs.YtjlcpiemabfpiaaDoor
def G8 (p i o c g:Int) (e:Int×Int×Int×Int×Int):Bool :=
 inR e.2.1 0 (g - 1) &&
 (if e.1=1 then inR e.2.2.1 0 (i - 1)&&(e.2.2.2.1==0&&e.2.2.2.2==0) else
  if e.1=2 then e.2.2.1==0&&(e.2.2.2.1==0&&e.2.2.2.2==0) else
  if e.1=3 then inR e.2.2.1 0 (g - 1)&&(inR e.2.2.2.1 0 (g - 1)&&e.2.2.2.2==0) else
  if e.1=4 then inR e.2.2.1 0 (g - 1)&&(e.2.2.2.1==0&&inR e.2.2.2.2 0 (p - 1)) else
  if e.1=5∨e.1=6 then inR e.2.2.1 0 (c - 1)&&(e.2.2.2.1==0&&e.2.2.2.2==0) else
  if e.1=7 then inR e.2.2.1 0 (o - 1)&&(e.2.2.2.1==0&&e.2.2.2.2==0) else false)
section
variable {p i o c g:Int} {code:List (Int×Int×Int×Int×Int)}
theorem Y7 (hp:2<=p∧p<=97) (hi:0<=i∧i<=8) (ho:0<=o∧o<=8) (hc:0<=c∧c<=40) (hg:0<=g∧g<=16) (e1 e2 e3 e4 e5:Int):Ef p i o c g code e1 e2 e3 e4 e5=some (G8 p i o c g (e1,e2,e3,e4,e5)):=by
 unfold Ef G8;rw [Cc (n:=g - 1) (by omega) (by omega),Cc (n:=i - 1) (by omega) (by omega),Cc (n:=o - 1) (by omega) (by omega),Cc (n:=c - 1) (by omega) (by omega),Cc (n:=p - 1) (by omega) (by omega)];simp only [Ny,obs];by_cases h1:e1=1
 ·subst h1; cases inR e2 0 (g - 1) <;> cases inR e3 0 (i - 1) <;> cases e4==0 <;> rfl
 by_cases h2:e1=2
 ·subst h2; cases inR e2 0 (g - 1) <;> cases e3==0 <;> cases e4==0 <;> rfl
 by_cases h3:e1=3
 ·subst h3; cases inR e2 0 (g - 1) <;> cases inR e3 0 (g - 1) <;> cases inR e4 0 (g - 1) <;> rfl
 by_cases h4:e1=4
 ·subst h4; cases inR e2 0 (g - 1) <;> cases inR e3 0 (g - 1) <;> cases e4==0 <;> rfl
 by_cases h5:e1=5
 ·subst h5; cases inR e2 0 (g - 1) <;> cases inR e3 0 (c - 1) <;> cases e4==0 <;> rfl
 by_cases h6:e1=6
 ·subst h6; cases inR e2 0 (g - 1) <;> cases inR e3 0 (c - 1) <;> cases e4==0 <;> rfl
 by_cases h7:e1=7
 ·subst h7; cases inR e2 0 (g - 1) <;> cases inR e3 0 (o - 1) <;> cases e4==0 <;> rfl
 have b1:=beq_eq_false_iff_ne.2 h1;have b2:=beq_eq_false_iff_ne.2 h2;have b3:=beq_eq_false_iff_ne.2 h3;have b4:=beq_eq_false_iff_ne.2 h4;have b5:=beq_eq_false_iff_ne.2 h5;have b6:=beq_eq_false_iff_ne.2 h6;have b7:=beq_eq_false_iff_ne.2 h7;simp [h1,h2,h3,h4,h5,h6,h7,b1,b2,b3,b4,b5,b6,b7]
theorem Yq (hp:2<=p∧p<=97) (hi:0<=i∧i<=8) (ho:0<=o∧o<=8) (hc:0<=c∧c<=40) (hg:0<=g∧g<=16) (e1 e2 e3 e4 e5:Int):B6 i o c g code p e1 e2 e3 e4 e5=some (G8 p i o c g (e1,e2,e3,e4,e5)):=by
 unfold B6 G8 D0;rw [Cc (n:=g - 1) (by omega) (by omega),Cc (n:=i - 1) (by omega) (by omega),Cc (n:=o - 1) (by omega) (by omega),Cc (n:=c - 1) (by omega) (by omega)];have hb:∀ xs:List Int,xs.length<=2->C5 xs g=some (xs.all fun x=>inR x 0 (g - 1)):=fun xs h=>Xa xs g (by omega) (by omega)
 simp only [Ri,Uy,obs];by_cases h1:e1=1
 ·subst h1; cases inR e2 0 (g - 1) <;> cases inR e3 0 (i - 1) <;> cases e4==0 <;> simp [hb] <;> (cases e5==0 <;> rfl)
 by_cases h2:e1=2
 ·subst h2; cases inR e2 0 (g - 1) <;> cases e3==0 <;> cases e4==0 <;> simp [hb] <;> (cases e5==0 <;> rfl)
 by_cases h3:e1=3
 ·subst h3; cases inR e2 0 (g - 1) <;> cases h:inR e3 0 (g - 1) <;> cases h':inR e4 0 (g - 1) <;> simp [hb,h,h'] <;> cases e4==0 <;> simp
 by_cases h4:e1=4
 ·subst h4; cases inR e2 0 (g - 1) <;> cases h:inR e3 0 (g - 1) <;> cases e4==0 <;> simp [hb,h] <;> (cases e5==0 <;> rfl)
 by_cases h5:e1=5
 ·subst h5; cases inR e2 0 (g - 1) <;> cases inR e3 0 (c - 1) <;> cases e4==0 <;> simp [hb] <;> (cases e5==0 <;> rfl)
 by_cases h6:e1=6
 ·subst h6; cases h:inR e2 0 (g - 1) <;> cases inR e3 0 (c - 1) <;> cases e4==0 <;> simp [hb,h] <;> (cases e5==0 <;> rfl)
 by_cases h7:e1=7
 ·subst h7; cases h:inR e2 0 (g - 1) <;> cases inR e3 0 (o - 1) <;> cases e4==0 <;> simp [hb,h] <;> (cases e5==0 <;> rfl)
 have b1:=beq_eq_false_iff_ne.2 h1;have b2:=beq_eq_false_iff_ne.2 h2;have b3:=beq_eq_false_iff_ne.2 h3;have b4:=beq_eq_false_iff_ne.2 h4;have b5:=beq_eq_false_iff_ne.2 h5;have b6:=beq_eq_false_iff_ne.2 h6;have b7:=beq_eq_false_iff_ne.2 h7;cases inR e2 0 (g - 1) <;> cases e4==0 <;> simp [hb,b1,b2,b3,b4,b5,b6,b7,h1,h2,h3,h4,h5,h6,h7]
def Rl (p i o c g:Int) (code:List (Int×Int×Int×Int×Int)):Bool :=
 isF p&&(inR i 0 8&&(inR o 0 8&&(inR c 0 40&&(inR g 0 16&&(decide (code.length<=120)&&code.all (G8 p i o c g))))))
structure G6 (p i o c g:Int) (code:List (Int×Int×Int×Int×Int)):Prop where
 fp:isF p=true
 hp:2<=p∧p<=97
 hi:0<=i∧i<=8
 ho:0<=o∧o<=8
 hc:0<=c∧c<=40
 hg:0<=g∧g<=16
 hl:code.length<=120
 all:∀ e∈code,G8 p i o c g e=true
theorem Fj:Rl p i o c g code=true↔G6 p i o c g code:=by
 simp only [Rl,Bool.and_eq_true,decide_eq_true_eq,List.all_eq_true,Cp];constructor
 ·rintro ⟨h1,h2,h3,h4,h5,h6,h7⟩;exact ⟨h1,Wo h1,h2,h3,h4,h5,h6,h7⟩
 ·rintro ⟨h1,_,h2,h3,h4,h5,h6,h7⟩;exact ⟨h1,h2,h3,h4,h5,h6,h7⟩
theorem Vt (hl:code.length<=1099511627776):De p i o c g code=some (Rl p i o c g code):=by
 unfold De Rl;simp only [Z3,Ny,obs];cases hp:isF p
 ·rfl
 cases hi:inR i 0 8
 ·rfl
 cases ho:inR o 0 8
 ·rfl
 cases hc:inR c 0 40
 ·rfl
 cases hg:inR g 0 16
 ·rfl
 by_cases hn:120<code.length
 ·simp only [Bool.not_true,cond_false,obs,Cj (show (120:Int)<((code.length:Nat):Int) by omega),cond_true,Cg (show ¬ code.length<=120 by omega),Bool.and_false,Bool.false_and]
 simp only [Bool.not_true,cond_false,obs,Cg (show ¬ (120:Int)<((code.length:Nat):Int) by omega),Cj (show code.length<=120 by omega),Bool.true_and];rw [Tb code (G8 p i o c g) (.next ()) (.out false) (by omega) (fun i x h=>?_) ?_,Ug]
 ·unfold Em;rw [Cg (by omega),cond_false]
 ·have:=A1 h;unfold Em;rw [Cj (by omega),cond_true,h,obs,Y7 (Wo hp) (Cp.1 hi) (Cp.1 ho) (Cp.1 hc) (Cp.1 hg),obs,As (by omega)];cases G8 p _ o c g x <;> rfl
theorem Jb (hl:code.length<=1099511627776):Bu p i o c g code=some (Rl p i o c g code):=by
 unfold Bu Rl Gn;simp only [Ri,obs];cases hp:isF p
 ·rfl
 cases hi:inR i 0 8
 ·rfl
 cases ho:inR o 0 8
 ·rfl
 cases hc:inR c 0 40
 ·rfl
 cases hg:inR g 0 16
 ·rfl
 by_cases hn:120<code.length
 ·simp only [Bool.not_true,cond_false,obs,Cj (show (120:Int)<((code.length:Nat):Int) by omega),cond_true,Cg (show ¬ code.length<=120 by omega),Bool.and_false,Bool.false_and]
 simp only [Bool.not_true,cond_false,obs,Cg (show ¬ (120:Int)<((code.length:Nat):Int) by omega),Cj (show code.length<=120 by omega),Bool.true_and]
 have key:Ap code i o c g code p=some (code.any fun e=> !G8 p i o c g e):=by
  unfold Ap Az
  have:=Y3 (body:=fun s_:Nat=>Ao code i o c g code p s_) code (fun e=> !G8 p i o c g e) (.next ()) (fun i=>.out (i:Int)) (F:=4611686018427387904) (by omega) (fun j x h=>by
   have:=A1 h;unfold Ao Dz;rw [Cj (by omega),cond_true,h,obs,Yq (Wo hp) (Cp.1 hi) (Cp.1 ho) (Cp.1 hc) (Cp.1 hg),obs,obs,As (by omega)];cases G8 p i o c g x <;> rfl) (by
   unfold Ao;rw [Cg (by omega),cond_false])
  rcases this with ⟨h1,i,hi,h2⟩ | ⟨h1,h2⟩
  ·rw [h2,h1];show some (decide (0<=(i:Int)))=_;rw [Cj (by omega)]
  ·rw [h2,h1]; rfl
 rw [key,obs,Aan]
end
end Go.Proofs.YtjlcpiemabfpiaaDoor
namespace Go.Proofs.YtjlcpiemabfpiaaDoor
theorem W2 (xs:List (Int×Int×Int×Int×Int)) (hx:xs.length<=1073741824):D2 xs xs=some true:=by
 unfold D2
 have h:Bc (fun s_:Nat=>Cy xs xs s_) 4611686018427387904 0=some (.next ()):=by
  refine Ev xs.length (fun i=>i) (by omega) _ rfl (fun i hi=>?_) ?_
  ·have hx:=gEg hi
   try dsimp only
   unfold Cy E0;rw [Cj (by omega),cond_true,hx,obs,obs];simp only [bne_self_eq_false,cond_false,obs,Bool.not_true];rw [As (by omega)]
  ·try dsimp only
   unfold Cy;rw [Cg (by omega),cond_false]
 rw [h,bne_self_eq_false,cond_false]; rfl
theorem Tt (xs:List (Int×Int×Int×Int×Int)) {v:Int} (hv:0<=v∧v<=576460752303423488) (hx:xs.length<=1073741824) :
  ∃ ys,C6 xs v=some (ys,v+5*xs.length)∧ys.length=xs.length∧Da ys v=some (v+5*xs.length):=by
 refine ⟨(List.range xs.length).map fun j:Nat=>(v+5*(j:Int),v+5*(j:Int)+1,v+5*(j:Int)+1+1,v+5*(j:Int)+1+1+1,v+5*(j:Int)+1+1+1+1),?_,by simp,?_⟩
 ·unfold C6
  have h:Bc (fun s_:Int×Nat×List (Int×Int×Int×Int×Int)=>Ck s_.1 s_.2.1 s_.2.2) 4611686018427387904 (v,0,xs)=some (v+5*xs.length,(List.range xs.length).map fun j:Nat=>(v+5*(j:Int),v+5*(j:Int)+1,v+5*(j:Int)+1+1,v+5*(j:Int)+1+1+1,v+5*(j:Int)+1+1+1+1)):=by
   refine Ev xs.length (fun i=>(v+5*i,i,(List.range i).map (fun (j:Nat)=>(v+5*(j:Int),v+5*(j:Int)+1,v+5*(j:Int)+1+1,v+5*(j:Int)+1+1+1,v+5*(j:Int)+1+1+1+1))++xs.drop i)) (by omega) _ (by simp) (fun i hi=>?_) ?_
   ·have hl:((List.range i).map fun j:Nat=>(v+5*(j:Int),v+5*(j:Int)+1,v+5*(j:Int)+1+1,v+5*(j:Int)+1+1+1,v+5*(j:Int)+1+1+1+1)).length=i:=by simp
    try dsimp only
    unfold Ck;have e1:wI (v+5*i+1)=v+5*i+1:=Cc (by omega) (by omega);have e2:wI (v+5*i+1+1)=v+5*i+1+1:=Cc (by omega) (by omega);have e3:wI (v+5*i+1+1+1)=v+5*i+1+1+1:=Cc (by omega) (by omega);have e4:wI (v+5*i+1+1+1+1)=v+5*i+1+1+1+1:=Cc (by omega) (by omega);have e5:wI (v+5*i+1+1+1+1+1)=v+5*i+1+1+1+1+1:=Cc (by omega) (by omega);rw [Cj (by rw [List.length_append,hl,List.length_drop]; omega),cond_true,Ym hi hl,obs,e1,e2,e3,e4,e5,Zf hi hl,Il hl,obs,H9 hl,Il hl,obs,H9 hl,Il hl,obs,H9 hl,Il hl,obs,H9 hl,As (by omega),List.range_succ,List.map_append];simp [Int.mul_add,Int.add_assoc]
   ·try dsimp only
    unfold Ck;rw [Cg (by simp),cond_false];simp
  rw [h]; rfl
 ·unfold Da
  have h:Bc (fun s_:Int×Nat=>Cl ((List.range xs.length).map fun j:Nat=>(v+5*(j:Int),v+5*(j:Int)+1,v+5*(j:Int)+1+1,v+5*(j:Int)+1+1+1,v+5*(j:Int)+1+1+1+1)) s_.1 s_.2) 4611686018427387904 (v,0)=some (.next (v+5*xs.length)):=by
   refine Ev xs.length (fun i=>(v+5*i,i)) (by omega) _ (by simp) (fun i hi=>?_) ?_
   ·have hg:((List.range xs.length).map fun j:Nat=>(v+5*(j:Int),v+5*(j:Int)+1,v+5*(j:Int)+1+1,v+5*(j:Int)+1+1+1,v+5*(j:Int)+1+1+1+1))[i]? =some (v+5*i,v+5*i+1,v+5*i+1+1,v+5*i+1+1+1,v+5*i+1+1+1+1):=by simp [hi]
    try dsimp only
    unfold Cl;have e1:wI (v+5*i+1)=v+5*i+1:=Cc (by omega) (by omega);have e2:wI (v+5*i+1+1)=v+5*i+1+1:=Cc (by omega) (by omega);have e3:wI (v+5*i+1+1+1)=v+5*i+1+1+1:=Cc (by omega) (by omega);have e4:wI (v+5*i+1+1+1+1)=v+5*i+1+1+1+1:=Cc (by omega) (by omega);have e5:wI (v+5*i+1+1+1+1+1)=v+5*i+1+1+1+1+1:=Cc (by omega) (by omega);rw [Cj (by simp; omega),cond_true,hg,obs,e1,e2,e3,e4,e5];simp only [bne_self_eq_false,cond_false];rw [As (by omega)];simp [Int.mul_add,Int.add_assoc]
   ·try dsimp only
    unfold Cl;rw [Cg (by simp),cond_false]
  rw [h]; rfl
theorem Wb (n0:Int) (n1:Int) (n2:Int) (n3:Int) (s4:List (Int×Int×Int×Int×Int)) (hs4:s4.length<=1073741824):Cx n0 n1 n2 n3 s4 n0 n1 n2 n3 s4=some true:=by
 unfold Cx;simp only [W2 s4 hs4,bne_self_eq_false,cond_false,obs,Bool.not_true]
theorem Sa (n0:Int) (n1:Int) (n2:Int) (n3:Int) (s4:List (Int×Int×Int×Int×Int)) {v:Int} (hv:0<=v∧v<=288230376151711744) (hs4:s4.length<=1073741824) :
  ∃ s4',∃ u:Int,v<=u∧u<=v+5368709120∧C3 n0 n1 n2 n3 s4 v=some (s4',u)∧s4'.length=s4.length∧Cf n0 n1 n2 n3 s4' v=some u:=by
 obtain ⟨s4',m0,q0,k0⟩:=Tt s4 (v:=v) (by omega) hs4;refine ⟨s4',v+5*s4.length,by omega,by omega,?_,q0,?_⟩
 ·unfold C3;rw [m0,obs,As q0]
 ·unfold Cf;rw [k0,obs,Cg (by omega),cond_false]
end Go.Proofs.YtjlcpiemabfpiaaDoor
namespace Go.Proofs.YtjlcpiemabfpiaaDoor
abbrev Eu:=Int×Int×Int×Int×Int
def Di (e:Eu):List UInt8 :=
 if e.1=1 then [105,110] else if e.1=2 then [122,101,114,111] else if e.1=3 then [97,100,100] else if e.1=4 then [115,99,97,108,101] else if e.1=5 then [108,111,97,100] else if e.1=6 then [115,116,111,114,101] else [111,117,116]
def Dj (e:Eu):List Int :=
 if e.1=1 then [e.2.1,e.2.2.1] else if e.1=2 then [e.2.1] else if e.1=3 then [e.2.1,e.2.2.1,e.2.2.2.1] else if e.1=4 then [e.2.1,e.2.2.1,e.2.2.2.2] else if e.1=5 then [e.2.1,e.2.2.1] else [e.2.2.1,e.2.1]
def Er (e:Eu):List UInt8:=Di e++(Dj e).flatMap spc
section
variable {p i o c g:Int} {e:Eu}
theorem Rh (h:G8 p i o c g e=true):e.1=1∨e.1=2∨e.1=3∨e.1=4∨e.1=5∨e.1=6∨e.1=7:=by
 unfold G8 at h;by_cases h1:e.1=1
 ·omega
 by_cases h2:e.1=2
 ·omega
 by_cases h3:e.1=3
 ·omega
 by_cases h4:e.1=4
 ·omega
 by_cases h5:e.1=5∨e.1=6
 ·omega
 by_cases h7:e.1=7
 ·omega
 rw [if_neg h1,if_neg h2,if_neg h3,if_neg h4,if_neg h5,if_neg h7,Bool.and_false] at h;cases h
theorem I5 (hp:2<=p∧p<=97) (hi:0<=i∧i<=8) (ho:0<=o∧o<=8) (hc:0<=c∧c<=40) (hg:0<=g∧g<=16) (h:G8 p i o c g e=true):Md (Dj e)∧∃ n r,Dj e=n :: r∧(n :: r).length<=3:=by
 have hop:=Rh h;unfold G8 at h;unfold Dj;rcases hop with h1 | h1 | h1 | h1 | h1 | h1 | h1
 all_goals
  simp only [h1,Int.reduceEq,if_true,if_false,Bool.and_eq_true,Cp,beq_iff_eq,or_true,true_or,or_false,false_or,or_self] at h ⊢;refine ⟨?_,_,_,rfl,by simp⟩;intro n hn;simp only [List.mem_cons,List.not_mem_nil,or_false] at hn;omega
theorem O7 (h1:Md (Dj e)) (h2:∃ n r,Dj e=n :: r∧(n :: r).length<=3):(Er e).length<=400:=by
 obtain ⟨n,r,h3,h4⟩:=h2;have h5:=H5 spc 102 (Dj e) (fun x hx=>by have:=h1 x hx; have:=Lx (n:=x) (by omega); unfold spc; rw [List.length_cons]; omega);rw [h3] at h5
 have h6:(Di e).length<=5:=by
  unfold Di
  repeat' split
  all_goals simp
 unfold Er;rw [List.length_append,h3];omega
theorem Za (hp:2<=p∧p<=97) (hi:0<=i∧i<=8) (ho:0<=o∧o<=8) (hc:0<=c∧c<=40) (hg:0<=g∧g<=16) (h:G8 p i o c g e=true):C7 e.1 e.2.1 e.2.2.1 e.2.2.2.1 e.2.2.2.2=some (ba (Er e)):=by
 obtain ⟨h1,h2⟩:=I5 hp hi ho hc hg h;have hl:=O7 h1 h2;obtain ⟨n,r,h3,h4⟩:=h2;rw [h3] at h1;obtain ⟨l,hr,hs⟩:=Acu h1 (by omega);have hcm:=V9 h1 (by omega)
 have hgo:∀ (w:List UInt8) (xs:List Int),w=Di e->xs=Dj e->(og ((ba w).size+(⟨#[32]⟩:ByteArray).size<=9223372036854775807)<|Option.bind (Dg xs) fun y8=>Option.bind (Bo y8 (⟨#[44]⟩:ByteArray) (⟨#[32]⟩:ByteArray)) fun y9=>og ((ba w++(⟨#[32]⟩:ByteArray)).size+y9.size<=9223372036854775807)<|some ((ba w++(⟨#[32]⟩:ByteArray))++y9))=some (ba (Er e)):=by
  intro w xs hw hx;have hil:Er e=(w++[32])++l:=by unfold Er; rw [h3,← hs,← hw]; simp
  have hsz:w.length+l.length+1<=400:=by rw [hil] at hl; simp only [List.length_append,List.length_singleton] at hl; omega
  rw [show (⟨#[32]⟩:ByteArray)=ba [32] from rfl,As (by rw [Bd,Bd,List.length_singleton]; omega),hx,h3,hcm,obs];rw [show (ba [32]:ByteArray)=(⟨#[32]⟩:ByteArray) from rfl,hr,obs,show (⟨#[32]⟩:ByteArray)=ba [32] from rfl,Iq,As (by rw [Bd,Bd,List.length_append,List.length_singleton]; omega),Iq,hil]
 have hop:=Rh h;unfold C7;rcases hop with h1 | h1 | h1 | h1 | h1 | h1 | h1
 all_goals
  rw [h1,Pw (by decide),Pw (by decide)];refine hgo _ _ ?_ ?_
  ·unfold Di; rw [h1]; rfl
  ·unfold Dj; rw [h1]; rfl
theorem Y2 (hp:2<=p∧p<=97) (hi:0<=i∧i<=8) (ho:0<=o∧o<=8) (hc:0<=c∧c<=40) (hg:0<=g∧g<=16) (h:G8 p i o c g e=true) :
  (Option.bind (B2) fun y13=>Option.bind (Vx y13 e.1) fun x14=>Option.bind (Cw e.1 e.2.1 e.2.2.1 e.2.2.2.1 e.2.2.2.2) fun y15=>Ct x14 y15)=some (ba (Er e++[10])):=by
 obtain ⟨h1,h2⟩:=I5 hp hi ho hc hg h;obtain ⟨n,r,h3,h4⟩:=h2
 have hw:(Di e).length<=5:=by
  unfold Di
  repeat' split
  all_goals simp
 have key:=Vh h1 (by rw [h3]; omega) (show (Di e).length<=1000 by omega);have hop:=Rh h;unfold B2 Cw Er;rw [obs,← key];rcases hop with h1 | h1 | h1 | h1 | h1 | h1 | h1
 all_goals
  rw [h1,Pw (by decide)];unfold Di Dj;rw [h1];rfl
end
section
variable {p i o c g:Int} {code:List Eu}
def Fb (i o c g:Int):List UInt8:=[112,114,111,103,114,97,109]++[i,o,c,g].flatMap spc
def Hf (i o c g:Int) (code:List Eu):List UInt8:=(Fb i o c g++[10])++code.flatMap fun e=>Er e++[10]
theorem Mf (G:G6 p i o c g code):Md [i,o,c,g]∧(Fb i o c g).length<=500:=by
 have h1:=G.hi;have h2:=G.ho;have h3:=G.hc;have h4:=G.hg
 have h:Md [i,o,c,g]:=fun n hn=>by
  simp only [List.mem_cons,List.not_mem_nil,or_false] at hn;omega
 refine ⟨h,?_⟩;have h5:=H5 spc 102 [i,o,c,g] (fun x hx=>by have:=h x hx; have:=Lx (n:=x) (by omega); unfold spc; rw [List.length_cons]; omega);unfold Fb;rw [List.length_append];simp only [List.length_cons,List.length_nil] at h5 ⊢;omega
theorem Pg (G:G6 p i o c g code) {e:Eu} (he:e∈code):(Er e).length<=400:=by
 obtain ⟨h1,h2⟩:=I5 G.hp G.hi G.ho G.hc G.hg (G.all e he);exact O7 h1 h2
theorem Qy (G:G6 p i o c g code):D4 i o c g code=some (ba (Hf i o c g code)):=by
 obtain ⟨h1,h2⟩:=Mf G;have hl:=G.hl;unfold D4;rw [show (⟨#[112,114,111,103,114,97,109]⟩:ByteArray)=ba [112,114,111,103,114,97,109] from rfl,Vh h1 (by simp) (by simp),obs]
 have hfl:∀ k,((code.take k).flatMap fun e=>Er e++[10]).length<=401*120:=fun k=>by
  have:=H5 (fun e=>Er e++[10]) 401 (code.take k) (fun x hx=>by have:=Pg G (List.mem_of_mem_take hx); rw [List.length_append,List.length_singleton]; omega);have h2:(code.take k).length<=120:=by rw [List.length_take]; omega
  omega
 have hloop:Bc (fun s_:ByteArray×Nat=>Dt code s_.1 s_.2) 4611686018427387904 (ba (([112,114,111,103,114,97,109]++[i,o,c,g].flatMap spc)++[10]),0)=some (ba (Hf i o c g code)):=by
  refine Ev code.length (fun k=>(ba ((Fb i o c g++[10])++(code.take k).flatMap fun e=>Er e++[10]),k)) (by omega) _ (by simp [Fb]) (fun k hk=>?_) ?_
  ·have hx:=gEg hk;have h3:=hfl k;have h4:=Pg G (List.getElem_mem hk);have key:=Y2 G.hp G.hi G.ho G.hc G.hg (G.all _ (List.getElem_mem hk))
   try dsimp only
   unfold Dt;rw [Cj (by omega),cond_true,hx,obs]
   have e1:∀ K:ByteArray->Option (Ctl (ByteArray×Nat) ByteArray),(Option.bind (B2) fun y13=>Option.bind (Vx y13 code[k].1) fun x14=>Option.bind (Cw code[k].1 code[k].2.1 code[k].2.2.1 code[k].2.2.2.1 code[k].2.2.2.2) fun y15=>Option.bind (Ct x14 y15) K)=K (ba (Er code[k]++[10])):=fun K=>by
    rw [← obs (f:=K),← key];simp only [Option.bind_assoc]
   rw [e1];rw [As (by rw [Bd,Bd,List.length_append,List.length_append,List.length_append,List.length_singleton]; omega),As (by omega),Iq,List.take_add_one,hx,Option.toList,List.flatMap_append];simp only [List.flatMap_cons,List.flatMap_nil,List.append_nil,List.append_assoc]
  ·try dsimp only
   unfold Dt;rw [Cg (by omega),cond_false,List.take_length];rfl
 rw [hloop,obs]
theorem Ld (G:G6 p i o c g code):Co i o c g code=some (ba (Hf i o c g code)):=by
 obtain ⟨h1,h2⟩:=Mf G;have hl:=G.hl;obtain ⟨l,hr,hs⟩:=Acu h1 (by simp);have hhead:Fb i o c g=[112,114,111,103,114,97,109,32]++l:=by unfold Fb; rw [← hs]; rfl
 have hll:l.length<=500:=by rw [hhead,List.length_append] at h2; simp only [List.length_cons,List.length_nil] at h2; omega
 unfold Co;rw [V9 h1 (by simp),obs,hr,obs,show (⟨#[112,114,111,103,114,97,109,32]⟩:ByteArray)=ba [112,114,111,103,114,97,109,32] from rfl,As (by rw [Bd,Bd]; simp only [List.length_cons,List.length_nil]; omega),Iq,← hhead];have hloop:=Hj (body:=fun s_:Nat×List ByteArray=>B3 code s_.1 s_.2) code (fun e=>ba (Er e)) [ba (Fb i o c g)] (F:=4611686018427387904) (by omega) ([ba (Fb i o c g)]++code.map fun e=>ba (Er e)) (fun k x hx=>?_) ?_
 ·have e2:[ba (Fb i o c g)]++code.map (fun e=>ba (Er e))=(Fb i o c g :: code.map Er).map ba:=by simp
  have hjl:=Ra (Fb i o c g :: code.map Er) [10] 500 (fun x hx=>by
   rcases List.mem_cons.1 hx with rfl | hx
   ·exact h2
   ·obtain ⟨e,he,rfl⟩:=List.mem_map.1 hx;have:=Pg G he;omega)
  simp only [List.length_cons,List.length_map,List.length_nil] at hjl;rw [hloop,obs];unfold Dq;rw [show (⟨#[10]⟩:ByteArray)=ba [10] from rfl,e2,Z1,As (by rw [Bd]; simp only [List.length_map,List.length_cons]; omega),obs,As (by rw [Bd,Bd,List.length_singleton]; omega),Iq,Abz _ (by simp),List.flatMap_cons,List.flatMap_map];rfl
 ·have:=A1 hx;have hm:=List.mem_of_getElem? hx
  try dsimp only
  unfold B3;rw [Cj (by omega),cond_true,hx,obs,Za G.hp G.hi G.ho G.hc G.hg (G.all _ hm),obs,As (by simp; omega),As (by omega)]
 ·try dsimp only
  unfold B3;rw [Cg (by omega),cond_false]
end
end Go.Proofs.YtjlcpiemabfpiaaDoor
namespace Go.Proofs.YtjlcpiemabfpiaaDoor
def Df (c:UInt8):List UInt8->List (List UInt8)
 | []=>[[]]
 | b :: l=>if b=c then [] :: Df c l else match Df c l with
  | []=>[[b]]
  | h :: t=>(b :: h) :: t
section
variable {c:UInt8}
theorem X2:∀ l:List UInt8,Df c l≠[]
 | []=>by simp [Df]
 | b :: l=>by
  unfold Df;split
  ·simp
  ·split <;> simp
theorem Gr (l:List UInt8):Df c (c :: l)=[] :: Df c l:=by
 conv=>lhs; unfold Df
 rw [if_pos rfl]
theorem Fg {b:UInt8} (hb:b≠c) (l:List UInt8):∃ h t,Df c l=h :: t∧Df c (b :: l)=(b :: h) :: t:=by
 cases hs:Df c l with
 | nil=>exact absurd hs (X2 l)
 | cons h t =>
  refine ⟨h,t,rfl,?_⟩;unfold Df;rw [if_neg hb,hs]
theorem Na:∀ {l:List UInt8},c∉l->Df c l=[l]
 | [],_=>rfl
 | b :: l,h=>by
  have hb:b≠c:=fun e=>h (by simp [e])
  obtain ⟨x,t,h1,h2⟩:=Fg hb l;rw [Na (fun e=>h (by simp [e]))] at h1;obtain ⟨rfl,rfl⟩:=List.cons.inj h1;exact h2
theorem M0:∀ {a:List UInt8} (r:List UInt8),c∉a->Df c (a++c :: r)=a :: Df c r
 | [],r,_=>Gr r
 | b :: a,r,h=>by
  have hb:b≠c:=fun e=>h (by simp [e])
  obtain ⟨x,t,h1,h2⟩:=Fg hb (a++c :: r);rw [M0 r (fun e=>h (by simp [e]))] at h1;obtain ⟨rfl,rfl⟩:=List.cons.inj h1;exact h2
theorem Hx:∀ l:List UInt8,(Df c l).length=l.count c+1
 | []=>rfl
 | b :: l=>by
  by_cases hb:b=c
  ·replace hb:=hb.symm
   subst hb;rw [Gr,List.length_cons,Hx l,List.count_cons_self]
  ·obtain ⟨x,t,h1,h2⟩:=Fg hb l;rw [h2,List.count_cons_of_ne hb,← Hx l,h1,List.length_cons,List.length_cons]
theorem Hl:∀ (l:List UInt8) (x:List UInt8),x∈Df c l->x.length<=l.length
 | [],x,h=>by
  obtain rfl:=List.mem_singleton.1 h;simp
 | b :: l,x,h=>by
  by_cases hb:b=c
  ·replace hb:=hb.symm
   subst hb;rw [Gr] at h;rcases List.mem_cons.1 h with rfl | h
   ·simp
   ·have:=Hl l x h;rw [List.length_cons]; omega
  ·obtain ⟨y,t,h1,h2⟩:=Fg hb l;rw [h2] at h;rcases List.mem_cons.1 h with rfl | h
   ·have:=Hl l y (by rw [h1]; simp);simp only [List.length_cons]; omega
   ·have:=Hl l x (by rw [h1]; simp [h]);rw [List.length_cons]; omega
theorem Uw {b:UInt8} (hb:b≠c) (l:List UInt8):∀ n,∃ h t,Lib.splitK [c] 0 n l=h :: t∧Lib.splitK [c] 0 n (b :: l)=(b :: h) :: t
 | 0=>⟨l,[],rfl,rfl⟩
 | n+1=>by
  have hp:([c]:List UInt8).isPrefixOf (b :: l)=false:=by simp [List.isPrefixOf,Ne.symm hb]
  have hge:=Lib.index_ge l [c]
  have hi:Lib.index (b :: l) [c]=if Lib.index l [c]== -1 then -1 else Lib.index l [c]+1:=by
   conv=>lhs; unfold Lib.index
   rw [hp,if_neg Bool.false_ne_true]
  unfold Lib.splitK;rw [hi];by_cases h0:Lib.index l [c]= -1
  ·rw [h0]; exact ⟨l,[],rfl,rfl⟩
  ·have h1:(Lib.index l [c]== -1)=false:=beq_eq_false_iff_ne.2 h0;have h2:(Lib.index l [c]+1== -1)=false:=beq_eq_false_iff_ne.2 (by omega);rw [h1];simp only [Bool.false_eq_true,if_false,h2];refine ⟨_,_,rfl,?_⟩;rw [show (Lib.index l [c]+1).toNat+0=((Lib.index l [c]).toNat+0)+1 by omega,List.take_succ_cons,show (Lib.index l [c]+1).toNat+([c]:List UInt8).length=((Lib.index l [c]).toNat+([c]:List UInt8).length)+1 by simp; omega,List.drop_succ_cons,Nat.add_zero]
theorem Ji:∀ l:List UInt8,Lib.splitK [c] 0 (l.count c) l=Df c l
 | []=>rfl
 | b :: l=>by
  by_cases hb:b=c
  ·replace hb:=hb.symm
   subst hb;have hp:([c]:List UInt8).isPrefixOf (c :: l)=true:=by simp [List.isPrefixOf]
   have hi:Lib.index (c :: l) [c]=0:=by unfold Lib.index; rw [hp]; rfl
   rw [List.count_cons_self,Gr];unfold Lib.splitK;rw [hi,if_neg (by decide)];rw [← Ji l];rfl
  ·obtain ⟨h,t,h1,h2⟩:=Uw hb l (l.count c);obtain ⟨h',t',h3,h4⟩:=Fg hb l;rw [Ji l] at h1;obtain ⟨rfl,rfl⟩:=List.cons.inj (h1.symm.trans h3);rw [List.count_cons_of_ne hb,h2,h4]
end
end Go.Proofs.YtjlcpiemabfpiaaDoor
namespace Go.Proofs.YtjlcpiemabfpiaaDoor
theorem T0 (s:ByteArray):ba s.data.toList=s:=by
 apply ByteArray.ext;simp [ba]
theorem Abx (s:ByteArray) (c:UInt8):Uv s (⟨#[c]⟩:ByteArray)=(Df c s.data.toList).map ba:=by
 unfold Uv;have h:=Lib.splitB_data (⟨#[c]⟩:ByteArray) 0 (Lib.countB s (⟨#[c]⟩:ByteArray)) s;have hc:Lib.countB s (⟨#[c]⟩:ByteArray)=s.data.toList.count c:=Lib.count_one c _;rw [hc] at h ⊢;rw [show (⟨#[c]⟩:ByteArray).data.toList=[c] from rfl,Ji] at h;rw [← h,List.map_map]
 conv=>lhs; rw [← List.map_id (Lib.splitB _ _ _ _)]
 exact List.map_congr_left fun x _=>(T0 x).symm
theorem Sh {c:UInt8} (b:UInt8):∀ l:List UInt8,∃ i x,Df c l=i++[x]∧Df c (l++[b])=if b=c then i++[x,[]] else i++[x++[b]]
 | []=>⟨[],[],rfl,by
  by_cases h:b=c
  ·rw [if_pos h]; subst h; exact Gr []
  ·rw [if_neg h]; exact Na (l:=[b]) (by simp [Ne.symm h])⟩
 | a :: l=>by
  obtain ⟨i,x,h1,h2⟩:=Sh b l;by_cases ha:a=c
  ·replace ha:=ha.symm
   subst ha;refine ⟨[] :: i,x,by rw [Gr,h1]; rfl,?_⟩;rw [List.cons_append,Gr,h2];split <;> rfl
  ·obtain ⟨h,t,g1,g2⟩:=Fg ha l;obtain ⟨h',t',g3,g4⟩:=Fg ha (l++[b]);rw [List.cons_append,g4,g2];rw [h1] at g1;rw [h2] at g3;cases i with
   | nil =>
    obtain ⟨rfl,rfl⟩:=List.cons.inj g1;refine ⟨[],a :: x,rfl,?_⟩;by_cases hb:b=c
    ·rw [if_pos hb] at g3 ⊢;obtain ⟨rfl,rfl⟩:=List.cons.inj g3;rfl
    ·rw [if_neg hb] at g3 ⊢;obtain ⟨rfl,rfl⟩:=List.cons.inj g3;rfl
   | cons y i =>
    obtain ⟨rfl,rfl⟩:=List.cons.inj g1;refine ⟨(a :: y) :: i,x,rfl,?_⟩;by_cases hb:b=c
    ·rw [if_pos hb] at g3 ⊢;obtain ⟨rfl,rfl⟩:=List.cons.inj g3;rfl
    ·rw [if_neg hb] at g3 ⊢;obtain ⟨rfl,rfl⟩:=List.cons.inj g3;rfl
theorem Xd (l:List UInt8) (i:Nat):(ba l)[i]? =l[i]?:=by
 by_cases h:i<l.length
 ·rw [ByteArray.getElem?_lt' _ _ (by rw [Bd]; exact h),gEg h];rfl
 ·rw [ByteArray.getElem?_ge' _ _ (by rw [Bd]; exact h),List.getElem?_eq_none (by omega)]
theorem Zr (l:List UInt8) (a b:Nat):(ba l).extract a b=ba ((l.drop a).take (b - a)):=ByteArray.extract_mk l a b
theorem F7 (l:List UInt8) (c:UInt8) (hl:l.length<=1048577):C1 (ba l) ((c.toNat:Nat):Int)=some ((Df c l).map ba):=by
 unfold C1
 have key:∃ r,Bc (fun s_:Nat×Nat×List ByteArray=>C8 (ba l) ((c.toNat:Nat):Int) s_.1 s_.2.1 s_.2.2) 4611686018427387904 (0,0,[])=some r∧∃ ini x,Df c l=ini++[x]∧r.2=ini.map ba∧r.1+x.length=l.length∧x=l.drop r.1∧ini.length<=l.length:=by
  refine Eb (F:=4611686018427387904) (s0:=((0,0,[]):Nat×Nat×List ByteArray)) (Post:=fun r:Nat×List ByteArray=>∃ ini x,Df c l=ini++[x]∧r.2=ini.map ba∧r.1+x.length=l.length∧x=l.drop r.1∧ini.length<=l.length) l.length (fun (i:Nat) (st:Nat×Nat×List ByteArray)=>st.2.1=i∧∃ ini x,Df c (l.take i)=ini++[x]∧st.2.2=ini.map ba∧st.1+x.length=i∧x=(l.take i).drop st.1∧ini.length<=i) (by omega) ⟨rfl,[],[],rfl,rfl,rfl,by simp,Nat.le_refl _⟩ ?_ ?_
  ·rintro i ⟨fr,i',out⟩ hi ⟨h1,ini,x,h2,h3,h4,h5,h6⟩;dsimp only at h1 h3 h4 h5;subst h1 h3;have hx:=gEg hi;have hlen:=Hx (c:=c) (l.take i');have hcl:=List.count_le_length (a:=c) (l:=l.take i');rw [h2,List.length_append,List.length_singleton] at hlen;rw [List.length_take] at hcl;obtain ⟨ini',x',g1,g2⟩:=Sh (c:=c) l[i'] (l.take i');obtain ⟨rfl,he⟩:=List.append_inj' (h2.symm.trans g1) rfl;obtain rfl:=(List.cons.inj he).1;have htk:l.take (i'+1)=l.take i'++[l[i']]:=by rw [List.take_add_one,hx]; rfl
   refine .inl ?_
   try dsimp only
   unfold C8;rw [Bd,Cj (by omega),cond_true,Xd,hx,obs];by_cases hb:l[i']=c
   ·rw [if_pos hb] at g2;rw [beq_iff_eq.2 (by rw [hb]),cond_true,As (by omega),As (by rw [List.length_map]; omega),As (by omega),obs];refine ⟨_,As (by omega) _,rfl,ini++[x],[],by rw [htk,g2]; simp,?_,by simp,?_,by simp; omega⟩
    ·dsimp only;rw [List.map_append,List.map_singleton,Zr,h5];congr 3;rw [List.drop_take]
    ·dsimp only;rw [List.drop_eq_nil_of_le (by rw [List.length_take]; omega)]
   ·rw [if_neg hb] at g2;rw [beq_eq_false_iff_ne.2 (fun e=>hb (UInt8.toNat_inj.1 (by omega))),cond_false,obs];refine ⟨_,As (by omega) _,rfl,ini,x++[l[i']],by rw [htk,g2],rfl,by simp; omega,?_,by omega⟩;dsimp only;rw [htk,List.drop_append_of_le_length (by rw [List.length_take]; omega),← h5]
  ·rintro ⟨fr,i',out⟩ ⟨h1,ini,x,h2,h3,h4,h5,h6⟩;dsimp only at h1 h3 h4 h5;subst h1 h3;rw [List.take_length] at h2 h5
   try dsimp only
   unfold C8;rw [Bd,Cg (by omega),cond_false];exact ⟨_,rfl,ini,x,h2,rfl,h4,h5,h6⟩
 obtain ⟨⟨fr,out⟩,h1,ini,x,h2,h3,h4,h5,h6⟩:=key;dsimp only at h3 h4 h5;subst h3;rw [h1,obs,h2];show og _ _=_;rw [Bd,As (by omega),As (by rw [List.length_map]; omega),Zr,List.map_append,List.map_singleton,h5,List.take_of_length_le (by rw [List.length_drop]; omega)]
def Aca (w:List UInt8) (n:Int):Bool:=match Lib.atoiAll w with
 | .ok v=>v==n
 | _=>false
theorem Acb {w:List UInt8} {n:Int} (h:Aca w n=true):Lib.atoiAll w=.ok n:=by
 unfold Aca at h;split at h
 ·rename_i v hv;rw [hv,beq_iff_eq.1 h]
 ·cases h
theorem Ad5:∀ i:Fin 10,Aca [UInt8.ofNat (48+i.val)] (i.val:Int)=true:=by decide +kernel
theorem Ad2:∀ i:Fin 100,10<=i.val->Aca [UInt8.ofNat (48+i.val / 10),UInt8.ofNat (48+i.val % 10)] (i.val:Int)=true:=by decide +kernel
theorem Ac7 {n:Int} (h:0<=n∧n<100):Lib.atoiAll (dg n)=.ok n:=by
 obtain ⟨k,rfl⟩:=Int.eq_ofNat_of_zero_le h.1;refine Acb ?_;unfold dg;rw [show ((k:Int)).toNat=k from rfl];by_cases h10:k<10
 ·rw [Lib.decDigits_one h10]; exact Ad5 ⟨k,h10⟩
 ·rw [Lib.decDigits_two h10 (by omega)]; exact Ad2 ⟨k,by omega⟩ (by show 10<=k; omega)
theorem Ade {n:Int} (h:0<=n∧n<100):Do (ba (dg n))=some (n,false):=by
 have hl:=Lx (n:=n) (by omega);unfold Do Wi;rw [As (by rw [Bd]; omega),E2,Ac7 h]
theorem Pd (l:List UInt8) (c:UInt8) (hl:l.length<=1048577):C4 (ba l) (⟨#[c]⟩:ByteArray)=some ((Df c l).map ba):=by
 unfold C4;rw [As ⟨by rw [Bd]; omega,by show 1<=1; omega⟩,Abx,E2]
theorem Xv {l w:List UInt8} {ns:List Int} (hl:l.length<=1048577) (hs:Df 32 l=w :: ns.map dg) (hn:Md ns) (hk:ns.length<=100):Dd (ba l)=some (ba w,ns,true):=by
 unfold Dd;rw [show (⟨#[32]⟩:ByteArray)=(⟨#[(32:UInt8)]⟩:ByteArray) from rfl,Pd l 32 hl,obs,hs,List.map_cons];have hd:(ba w :: (ns.map dg).map ba).drop 1=ns.map fun n=>ba (dg n):=by simp
 have hloop:Bc (fun s_:Nat×List Int=>Bs (ba w :: (ns.map dg).map ba) s_.1 s_.2) 4611686018427387904 (0,[])=some (Ctl.next ns):=by
  have:=Hj (body:=fun s_:Nat×List Int=>Bs (ba w :: (ns.map dg).map ba) s_.1 s_.2) ns (fun n=>n) [] (F:=4611686018427387904) (by omega) (Ctl.next ns) (fun i x hx=>?_) ?_
  ·simpa using this
  ·have:=A1 hx;have hm:=hn x (List.mem_of_getElem? hx)
   try dsimp only
   unfold Bs;rw [hd,List.length_map,Cj (by omega),cond_true,List.getElem?_map,hx,Option.map_some,obs,Ade hm,obs,cond_false,As (by simp; omega),As (by omega)]
  ·try dsimp only
   unfold Bs;rw [hd,List.length_map,Cg (by omega),cond_false];simp
 rw [As (by simp only [List.length_cons,List.length_map]; omega),hloop];rfl
theorem Po {l:List UInt8} (hl:l.length<=1048577):∃ r,Dd (ba l)=some r:=by
 unfold Dd;rw [show (⟨#[32]⟩:ByteArray)=(⟨#[(32:UInt8)]⟩:ByteArray) from rfl,Pd l 32 hl,obs];generalize hy:(Df 32 l).map ba=y3
 have hne:1<=y3.length:=by
  rw [← hy,List.length_map,Hx]; omega
 have hle:y3.length<=1048578:=by
  have:=List.count_le_length (a:=(32:UInt8)) (l:=l);rw [← hy,List.length_map,Hx]; omega
 have hsz:∀ x∈y3,x.size<=1048577:=by
  intro x hx;rw [← hy] at hx;obtain ⟨z,hz,rfl⟩:=List.mem_map.1 hx;have:=Hl l z hz;rw [Bd]; omega
 have key:∃ r,Bc (fun s_:Nat×List Int=>Bs y3 s_.1 s_.2) 4611686018427387904 (0,[])=some r∧True:=by
  refine Eb (F:=4611686018427387904) (s0:=((0,[]):Nat×List Int)) (Post:=fun _=>True) (y3.drop 1).length (fun (i:Nat) (st:Nat×List Int)=>st.1=i∧st.2.length=i) (by rw [List.length_drop]; omega) ⟨rfl,rfl⟩ ?_ ?_
  ·rintro i ⟨i',out⟩ hi ⟨h1,h2⟩;dsimp only at h1 h2;subst h1;have hx:=gEg hi;have hm:=hsz _ (List.mem_of_mem_drop (List.getElem_mem hi));rw [List.length_drop] at hi
   try dsimp only
   unfold Bs Do;rw [Cj (by rw [List.length_drop]; omega),cond_true,hx,obs,As (by omega),obs];cases (Wi (y3.drop 1)[i']).2
   ·rw [cond_false,As (by omega),As (by omega)];exact .inl ⟨_,rfl,rfl,by simp; omega⟩
   ·exact .inr ⟨_,rfl,trivial⟩
  ·rintro ⟨i',out⟩ ⟨h1,h2⟩;dsimp only at h1 h2;subst h1
   try dsimp only
   unfold Bs;rw [Cg (by omega),cond_false];exact ⟨_,rfl,trivial⟩
 obtain ⟨r,hr,-⟩:=key;rw [As (by omega),hr];cases r with
 | next ns=>exact ⟨_,by
   show Option.bind (y3[0]?) _=_;rw [gEg (by omega),obs]⟩
 | out r=>exact ⟨r,rfl⟩
end Go.Proofs.YtjlcpiemabfpiaaDoor
namespace Go.Proofs.YtjlcpiemabfpiaaDoor
open Go.RowKit Go.Deep
set_option maxRecDepth 4000
def E7:AC :=
 (.seq (rg [xs1 50 49 48])
 (.seq (.cond (tm 50)
  .skip
  (.exit 0))
 (.seq (.block 1 (.seq (rg [xx 51 1 47 49,xl 52 51,xm 10 52])
 (.region [xf 53 4 8,xl 54 53,xm 55 10,xo 56 (qc 12 [tm 55] [[]]),⟨some 57,none,.mkS 35 T5 [tm 56]⟩,⟨some 58,none,.append 35 T5 40 (tm 54) (tm 57)⟩,xf 59 4 8,xn (qs (tm 59) (tm 58))] true [(1,3)])))
 (rg [xa 60 49,xm 49 60]))))
def F0:AC :=
 (.seq (rg [xo 4 (.i (.alloc 24 [.int .i64 0,.int .i64 0,.int .i64 0,.int .i64 0,.nils])),xo 5 (qm (cb false))])
 (.seq (rg [xm 11 1,xo 12 (qc 9 [tm 11,.cst (.int .u8 10)] [[],[]]),xm 6 12])
 (.seq (.seq (rg [xm 13 6,xn1 14 13,xo 15 (qc 10 [tm 14,ci 2,ci 122] [[],[],[]]),xo 16 (.i (.not (tm 15)))])
 (.cond (tm 16)
  (.seq (rg [xo 17 (.build [.int .i64 0,.int .i64 0,.int .i64 0,.int .i64 0,.nils] []),xn (.st false 5 (tm 4) (tm 17)),xo 5 (qm (cb false))])
  .ret)
  .skip))
 (.seq (rg [xm 18 6,xo 19 (qx 1 (tm 18) (ci 0)),xl 20 19,xo 21 (qc 9 [tm 20,.cst (.int .u8 32)] [[],[]]),xm 7 21])
 (.seq (.seq (rg [xm 22 7,xn1 23 22,xo 24 (qb .neq (tm 23) (ci 5))])
 (.cond (tm 24)
  (.seq (rg [xo 25 (.build [.int .i64 0,.int .i64 0,.int .i64 0,.int .i64 0,.nils] []),xn (.st false 5 (tm 4) (tm 25)),xo 5 (qm (cb false))])
  .ret)
  .skip))
 (.seq (.region [xm 26 7,xo 27 (qx 1 (tm 26) (ci 1)),xl 28 27,xo 29 (qc 11 [tm 28] [[]]),xm 30 7,xo 31 (qx 1 (tm 30) (ci 2)),xl 32 31,xo 33 (qc 11 [tm 32] [[]]),xm 34 7,xo 35 (qx 1 (tm 34) (ci 3)),xl 36 35,xo 37 (qc 11 [tm 36] [[]]),xm 38 7,xo 39 (qx 1 (tm 38) (ci 4)),xl 40 39,xo 41 (qc 11 [tm 40] [[]]),xo 42 (.build [.int .i64 0,.int .i64 0,.int .i64 0,.int .i64 0,.nils] [(0,1,tm 29),(1,1,tm 33),(2,1,tm 37),(3,1,tm 41)]),xo 8 (.i (.alloc 24 [.int .i64 0,.int .i64 0,.int .i64 0,.int .i64 0,.nils])),xn (.st false 5 (tm 8) (tm 42))] true [(3,6),(3,10),(7,10),(3,14),(7,14),(11,14),(3,17),(7,17),(11,17),(15,17)])
 (.seq (.seq (rg [xm 43 6,xm 44 6,xn1 45 44,xo 46 (qb .sub (tm 45) (ci 1)),xo 47 (.slice 1 (tm 43) (some (ci 1)) (some (tm 46)) none),xn1 48 47,xo 49 (qm (ci 0))])
 (.block 0 (.loop E7)))
 (.seq (.seq (rg [xm 61 0,xo 62 (.i (.ld false 5 (tm 8))),⟨some 63,none,qc 13 [tm 61,tm 62] [[],[none,none,none,none,some T5]]⟩,xo 64 (.i (.not (tm 63))),xm 65 64,⟨some 66,some (65,false),.i (.ld false 5 (tm 8))⟩,⟨some 67,some (65,false),qc 14 [tm 66] [[none,none,none,none,some T5]]⟩,⟨some 68,some (65,false),qm (tm 1)⟩,⟨some 69,some (65,false),qb .neq (tm 67) (tm 68)⟩,xo 70 (.i (.pick (tm 65) (cb true) (tm 69)))])
 (.cond (tm 70)
  (.seq (rg [xo 71 (.build [.int .i64 0,.int .i64 0,.int .i64 0,.int .i64 0,.nils] []),xn (.st false 5 (tm 4) (tm 71)),xo 5 (qm (cb false))])
  .ret)
  .skip))
 (.seq (rg [xo 72 (.i (.ld false 5 (tm 8))),xn (.st false 5 (tm 4) (tm 72)),xo 5 (qm (cb true))])
 .ret)))))))))
def J3:List Res:=[.cell 4 false 5,.tmp 5]
theorem Kk:A2 Tryd.prog Tryd.f4=some (F0,J3):=by kernel_rfl
def A9 (y3:List ByteArray) (u0:Nat) (u1:List (Int×Int×Int×Int×Int)):Option (Ctl (Nat×(List (Int×Int×Int×Int×Int))) (List (Int×Int×Int×Int×Int))) :=
 cond (decide ((u0:Int)<(((wI ((y3.length:Int) - 1) - 1).toNat:Nat):Int)))
 (og (0<=(u0:Int)∧u0<(wI ((y3.length:Int) - 1) - 1).toNat) <|
 (y3[1+u0]?).bind fun x35 =>
 (Dh x35).bind fun y36 =>
 og (u1.length+1<=1073741824∧(u1.length+1)*40<=140737488355328) <|
 og (u0+1<4611686018427387904) <|
 some (Ctl.next (u0+1,u1++([y36]))))
 (some (Ctl.out u1))
def Be (a0:Int) (a1:ByteArray):Option (Int×Int×Int×Int×(List (Int×Int×Int×Int×Int))×Bool) :=
 (C1 a1 10).bind fun y3 =>
(Bb (y3.length:Int) 2 122).bind fun y6 =>
cond (!y6)
 (some (0,0,0,0,[],false))
 ((y3[0]?).bind fun x10 =>
 (C1 x10 32).bind fun y11 =>
 cond ((y11.length:Int) !=5)
  (some (0,0,0,0,[],false))
  ((y11[1]?).bind fun x17 =>
  (Bj x17).bind fun y18 =>
  (y11[2]?).bind fun x19 =>
  (Bj x19).bind fun y20 =>
  (y11[3]?).bind fun x21 =>
  (Bj x21).bind fun y22 =>
  (y11[4]?).bind fun x23 =>
  (Bj x23).bind fun y24 =>
  (og ((0:Int)<=1∧1<=wI ((y3.length:Int) - 1)∧wI ((y3.length:Int) - 1)<=(y3.length:Int)) <|
   Bc (fun s_:Nat×(List (Int×Int×Int×Int×Int))=>A9 y3 s_.1 s_.2) 4611686018427387904 (0,[])).bind fun u0 =>
  ((De a0 y18 y20 y22 y24 u0).bind fun y41 =>
   cond (!y41)
    (some true)
    ((D4 y18 y20 y22 y24 u0).bind fun y43 =>
    some (!(y43.toList==a1.toList)))).bind fun u1 =>
  cond u1
   (some (0,0,0,0,[],false))
   (some (y18,y20,y22,y24,u0,true))))
def I9 (r:Int×Int×Int×Int×(List (Int×Int×Int×Int×Int))×Bool):RV:=⟨true,[(true,[.sc (.int .i64 r.1),.sc (.int .i64 r.2.1),.sc (.int .i64 r.2.2.1),.sc (.int .i64 r.2.2.2.1),.new 35 T5 r.2.2.2.2.1]),(false,[.sc (.bool r.2.2.2.2.2)])]⟩
theorem I2 {a0:Int} {a1:ByteArray} {r:Int×Int×Int×Int×(List (Int×Int×Int×Int×Int))×Bool} (h:Be a0 a1=some r):A7 Tryd.prog Tab 4 [ai a0,.str a1] (I9 r):=by
 refine A5 (by kernel_rfl) Tryd.func4 Kk (n:=73) (by kernel_rfl) (by simp) rfl ?_;unfold F0;unfold Be at h;refine Al (Ab ?_);obtain ⟨y3,h3,h⟩:=Ag h;refine Aa 6 (rsT 1 (zc (.own (oi 192 4) .str 0 y3.length) [(oi 192 4,some (.arr 9 .str y3))] [.str a1,.int .u8 10] (Fv h3) (rsT 1 (Am (tn_ (wr_ (Ab (Ab ?_))))))));obtain ⟨y6,h6,h⟩:=Ag h;refine Aa 10 (rsT 2 (zc (.bool y6) [] [an y3.length,ai 2,ai 122] (Bl h6) (rsT 1 (Am (tn_ (wr_ ?_))))));rcases Ac h with ⟨q7,h⟩ | ⟨q7,h⟩
 ·refine Ae q7 (Al (Ah (tr_ ?_)));obtain rfl:=zj h;exact A6 [.agg [ai 0,ai 0,ai 0,ai 0,.nils],.bool false] (Fa (Aq zl (Aq zl (Aq zl (Aq zl (Aq (I8 rfl) Fd))))) (Av rfl zl Aw))
 refine Af q7 (Aj (tn_ (wr_ (Ab ?_))));obtain ⟨x10,e10,h⟩:=Ag h;obtain ⟨y11,h11,h⟩:=Ag h;refine Aa 15 (rsT 1 (rs0 (.elt (oi 192 4) 0 0) (Bp (t:=.str) (o:=oi 192 4) (len:=y3.length) (k:=.i64) (m:=0) (by kernel_rfl) (by kernel_rfl) rfl (by decide) rfl (A1 e10)) (rsl (.str x10) (Hh (i:=oi 192 4) (j:=0) (k:=0) (e:=9) (t:=.str) (xs:=y3) (by kernel_rfl) (by kernel_rfl) e10 (by kernel_rfl)) (zc (.own (oi 336 13) .str 0 y11.length) [(oi 336 13,some (.arr 9 .str y11))] [.str x10,.int .u8 32] (Fv h11) (rsT 1 (Am (tn_ (wr_ (Ab (Al ?_))))))))));rcases Ac h with ⟨q14,h⟩ | ⟨q14,h⟩
 ·refine Ae q14 (Al (Ah (tr_ ?_)));obtain rfl:=zj h;exact A6 [.agg [ai 0,ai 0,ai 0,ai 0,.nils],.bool false] (Fa (Aq zl (Aq zl (Aq zl (Aq zl (Aq (I8 rfl) Fd))))) (Av rfl zl Aw))
 refine Af q14 (Aj (tn_ (wr_ (Ab ?_))));obtain ⟨x17,e17,h⟩:=Ag h;obtain ⟨y18,h18,h⟩:=Ag h;obtain ⟨x19,e19,h⟩:=Ag h;obtain ⟨y20,h20,h⟩:=Ag h;obtain ⟨x21,e21,h⟩:=Ag h;obtain ⟨y22,h22,h⟩:=Ag h;obtain ⟨x23,e23,h⟩:=Ag h;obtain ⟨y24,h24,h⟩:=Ag h;refine Bh 37 (dz0 (.own (oi 336 13) .str 0 y11.length) (ds0 (.elt (oi 336 13) 1 0) (Bp (t:=.str) (o:=oi 336 13) (len:=y11.length) (k:=.i64) (m:=1) (by kernel_rfl) (by kernel_rfl) rfl (by decide) rfl (A1 e17)) (dsl (.str x17) (Hh (i:=oi 336 13) (j:=1) (k:=0) (e:=9) (t:=.str) (xs:=y11) (by kernel_rfl) (by kernel_rfl) e17 (by kernel_rfl)) (dzc (ai y18) [] [.str x17] (Ec h18) (dz0 (.own (oi 336 13) .str 0 y11.length) (ds0 (.elt (oi 336 13) 2 0) (Bp (t:=.str) (o:=oi 336 13) (len:=y11.length) (k:=.i64) (m:=2) (by kernel_rfl) (by kernel_rfl) rfl (by decide) rfl (A1 e19)) (dsl (.str x19) (Hh (i:=oi 336 13) (j:=2) (k:=0) (e:=9) (t:=.str) (xs:=y11) (by kernel_rfl) (by kernel_rfl) e19 (by kernel_rfl)) (dzc (ai y20) [] [.str x19] (Ec h20) (dz0 (.own (oi 336 13) .str 0 y11.length) (ds0 (.elt (oi 336 13) 3 0) (Bp (t:=.str) (o:=oi 336 13) (len:=y11.length) (k:=.i64) (m:=3) (by kernel_rfl) (by kernel_rfl) rfl (by decide) rfl (A1 e21)) (dsl (.str x21) (Hh (i:=oi 336 13) (j:=3) (k:=0) (e:=9) (t:=.str) (xs:=y11) (by kernel_rfl) (by kernel_rfl) e21 (by kernel_rfl)) (dzc (ai y22) [] [.str x21] (Ec h22) (dz0 (.own (oi 336 13) .str 0 y11.length) (ds0 (.elt (oi 336 13) 4 0) (Bp (t:=.str) (o:=oi 336 13) (len:=y11.length) (k:=.i64) (m:=4) (by kernel_rfl) (by kernel_rfl) rfl (by decide) rfl (A1 e23)) (dsl (.str x23) (Hh (i:=oi 336 13) (j:=4) (k:=0) (e:=9) (t:=.str) (xs:=y11) (by kernel_rfl) (by kernel_rfl) e23 (by kernel_rfl)) (dzc (ai y24) [] [.str x23] (Ec h24) (dz0 (.agg [ai y18,ai y20,ai y22,ai y24,.nils]) (ds1 (.box (oi 8 35) 0) (oi 8 35) (.cells 24 [ai 0,ai 0,ai 0,ai 0,.nils]) (by kernel_rfl) (To (oi 8 35) (oi 8 35) (.cells 24 [ai y18,ai y20,ai y22,ai y24,.nils]) (by kernel_rfl) (Kj (Bv (by kernel_rfl)) (tn_ (wr_ (Ax h (fun (u1:List (Int×Int×Int×Int×Int)) S_=>S_=⟨Ak [(0,ai a0),(1,.str a1),(4,.box (oi 0 1) 0),(8,.box (oi 1 1) 0)],Ai (Ar [(oi 0 1,.cells 24 [ai 0,ai 0,ai 0,ai 0,.nils]),(oi 1 1,.cells 24 [ai y18,ai y20,ai y22,ai y24,.own (oi 2 1) T5 0 u1.length]),(oi 2 1,.arr 35 T5 u1)]),2⟩) ?_ ?_)))))))))))))))))))))))
 ·intro v_ h;refine Ab ?_;obtain ⟨g27,h⟩:=A4 h;refine Aa 44 (rsT 4 (rs0 (.own (oi 192 4) .str 1 ((wI ((y3.length:Int) - 1) - 1).toNat)) (Aad (t:=.str) (i:=oi 192 4) (off:=0) (len:=y3.length) (l:=1) (h:=wI ((y3.length:Int) - 1)) (by kernel_rfl) (by kernel_rfl) (by kernel_rfl) rfl g27 (Nat.zero_add _) (by omega)) (rsT 2 (Am (tn_ (wr_ (At (Bq h (fun t_ S_=>∃ (u2:Nat),∃ (u0:List (Int×Int×Int×Int×Int)),t_=(u2,u0)∧S_=⟨Ak [(0,ai a0),(1,.str a1),(4,.box (oi 0 1) 0),(8,.box (oi 1 1) 0),(47,.own (oi 2 1) .str 1 ((wI ((y3.length:Int) - 1) - 1).toNat)),(48,ai (((wI ((y3.length:Int) - 1) - 1).toNat:Nat):Int)),(49,an u2)],Ai (Ar [(oi 0 1,.cells 24 [ai 0,ai 0,ai 0,ai 0,.nils]),(oi 1 1,.cells 24 [ai y18,ai y20,ai y22,ai y24,.own (oi 3 1) T5 0 u0.length]),(oi 2 1,.arr 9 .str y3),(oi 3 1,.arr 35 T5 u0)]),2⟩) ⟨_,(Jr 9000 (oi 8 35) 4 24 [ai y18,ai y20,ai y22,ai y24,.nils] [ai y18,ai y20,ai y22,ai y24,.own (oi 9000 44) T5 0 0] 35 T5 rfl (by kernel_rfl) (by kernel_rfl) (by kernel_rfl)).trans (Ad [(oi 0 1,oi 4 1),(oi 1 1,oi 8 35),(oi 3 1,oi 9000 44),(oi 2 1,oi 192 4)]),⟨0,[],rfl,rfl⟩⟩ ?_))))))));rintro n_ _ _ c_ ⟨u2,u0,rfl,rfl⟩ h hn28
  (try dsimp only at h);unfold A9 at h;unfold E7;refine Al (Ab ?_);rcases Ac h with ⟨q31,h⟩ | ⟨q31,h⟩
  ·have q31_:=of_decide_eq_true q31;refine Ae q31 (Aj (tn_ (wr_ (Ab (At (Ab ?_))))));obtain ⟨g34,h⟩:=A4 h;obtain ⟨x35,e35,h⟩:=Ag h;refine Aa 6 (rs0 (.elt (oi 2 1) (1+u2) 0) (Ado (t:=.str) (o:=oi 2 1) (off:=1) (len:=(wI ((y3.length:Int) - 1) - 1).toNat) (k:=.i64) (m:=(u2:Int)) (by kernel_rfl) (by kernel_rfl) rfl g34.1 rfl g34.2) (rsl (.str x35) (Hh (i:=oi 2 1) (j:=1+u2) (k:=0) (e:=9) (t:=.str) (xs:=y3) (by kernel_rfl) (by kernel_rfl) e35 (by kernel_rfl)) (rsT 1 (Am (tn_ (wr_ ?_))))));obtain ⟨y36,h36,h⟩:=Ag h;obtain ⟨g37,h⟩:=A4 h;refine Bh 14 (dz0 (.box (oi 1 1) 4) (dzl (.own (oi 3 1) T5 0 u0.length) (dz0 (.str x35) (dzc (.agg [ai y36.1,ai y36.2.1,ai y36.2.2.1,ai y36.2.2.2.1,ai y36.2.2.2.2]) [] [.str x35] (Qw h36) (ds1 (.own (oi 57 10) T5 0 1) (oi 57 10) (.arr 35 T5 ([y36])) (by kernel_rfl) (ds2 (.own (oi 3 11) T5 0 ((u0++([y36])).length)) (oi 3 1) (oi 3 11) (.arr 35 T5 (u0++([y36]))) (K8 (t:=T5) (t':=T5) (xs:=u0) (ys:=[y36]) (zs:=u0++([y36])) (j:=oi 3 1) (len:=u0.length) (c:=.own (oi 57 10) T5 0 1) (by kernel_rfl) (by kernel_rfl) rfl (by kernel_rfl) (E4 (e:=35) (by kernel_rfl) rfl) rfl g37) (dz0 (.box (oi 1 1) 4) (To (oi 1 1) (oi 1 1) (.cells 24 [ai y18,ai y20,ai y22,ai y24,.own (oi 3 11) T5 0 ((u0++([y36])).length)]) (by kernel_rfl) (Kj (Bv (by kernel_rfl)) (bn_ (tn_ (wr_ ?_))))))))))));obtain ⟨g38,h⟩:=A4 h;refine Aa 16 (zA g38 (rsT 1 (Am (tn_ ?_))));obtain rfl:=zj h;exact ⟨(u2+1,u0++([y36])),_,Ad [(oi 3 1,oi 3 11)],⟨u2+1,u0++([y36]),rfl,rfl⟩,hn28⟩
  have q31_:=of_decide_eq_false q31;refine Af q31 (Br (te_ (te_ (be_ (tn_ ?_)))));obtain rfl:=zj h;have h:=hn28
  (try dsimp only at h);obtain rfl:=zj h;exact ⟨_,Ad [(oi 2 1,oi 3 1)],rfl⟩
 rintro u1 _ rfl h
 (try dsimp only at h);refine Ab (Ax h (fun (u3:Bool) S_=>S_=⟨Ak [(4,.box (oi 0 1) 0),(8,.box (oi 1 1) 0),(70,.bool u3)],Ai (Ar [(oi 0 1,.cells 24 [ai 0,ai 0,ai 0,ai 0,.nils]),(oi 1 1,.cells 24 [ai y18,ai y20,ai y22,ai y24,.own (oi 2 1) T5 0 u1.length]),(oi 2 1,.arr 35 T5 u1)]),2⟩) ?_ ?_)
 ·intro v_ h;obtain ⟨y41,h41,h⟩:=Ag h;refine Aa 12 (rsT 2 (Cu (.bool y41) [] [ai a0,.agg [ai y18,ai y20,ai y22,ai y24,.own (oi 2 1) T5 0 u1.length]] _ (caps:=[]) (args0:=[ai a0,.agg [ai y18,ai y20,ai y22,ai y24,.tree T5 u1]]) trivial (An (by kernel_rfl) (An (G9 (An (by kernel_rfl) (An (by kernel_rfl) (An (by kernel_rfl) (An (by kernel_rfl) (An (Eo (e:=35) (by kernel_rfl) rfl) Cq)))))) Cq)) (Qt h41) P2 (rsT 2 ?_)));rcases Ac h with ⟨q42,h⟩ | ⟨q42,h⟩
  ·refine rq 65 q42 (rsT 5 (Am (tn_ ?_)));obtain rfl:=zj h;exact ⟨_,Ad [],rfl⟩
  obtain ⟨y43,h43,h⟩:=Ag h;refine rq 65 q42 (rsT 1 (Cu (.str y43) [] [.agg [ai y18,ai y20,ai y22,ai y24,.own (oi 2 1) T5 0 u1.length]] _ (caps:=[]) (args0:=[.agg [ai y18,ai y20,ai y22,ai y24,.tree T5 u1]]) (Ds (by kernel_rfl)) (An (G9 (An (by kernel_rfl) (An (by kernel_rfl) (An (by kernel_rfl) (An (by kernel_rfl) (An (Eo (e:=35) (by kernel_rfl) rfl) Cq)))))) Cq) (Qx h43) Pt (rsT 3 (Am (tn_ ?_)))));obtain rfl:=zj h;exact ⟨_,Ad [],rfl⟩
 rintro u3 _ rfl h
 (try dsimp only at h);rcases Ac h with ⟨q44,h⟩ | ⟨q44,h⟩
 ·refine Ae q44 (Al (Ah (tr_ ?_)));obtain rfl:=zj h;exact A6 [.agg [ai 0,ai 0,ai 0,ai 0,.nils],.bool false] (Fa (Aq zl (Aq zl (Aq zl (Aq zl (Aq (I8 rfl) Fd))))) (Av rfl zl Aw))
 refine Af q44 (Aj (tn_ (wr_ (Al (Ah ?_)))));obtain rfl:=zj h;exact A6 [.agg [ai y18,ai y20,ai y22,ai y24,.own (oi 2 1) T5 0 u1.length],.bool true] (Fa (Aq zl (Aq zl (Aq zl (Aq zl (Aq (H4 (by kernel_rfl) rfl) Fd))))) (Av rfl zl Aw))
def E8:AC :=
 (.seq (rg [xs1 62 61 60])
 (.seq (.cond (tm 62)
  .skip
  (.exit 0))
 (.seq (.block 1 (.seq (rg [xx 63 1 59 61,xl 64 63,xm 12 64])
 (.seq (rg [xm 66 12,xo 67 (qc 17 [tm 66] [[]]),xm 65 67,xo 68 (.i (.extr 0 (tm 65))),xo 69 (.i (.extr 1 (tm 65))),xo 13 (.i (.alloc 35 [.int .i64 0,.int .i64 0,.int .i64 0,.int .i64 0,.int .i64 0])),xn (.st false 5 (tm 13) (tm 68)),xm 14 69])
 (.seq (.seq (rg [xm 70 14,xo 71 (.i (.not (tm 70)))])
 (.cond (tm 71)
  (.seq (rg [xo 72 (.build [.int .i64 0,.int .i64 0,.int .i64 0,.int .i64 0,.nils] []),xn (.st false 5 (tm 4) (tm 72)),xo 5 (qm (cb false))])
  .ret)
  .skip))
 (rg [xf 73 4 10,xl 74 73,xo 75 (.i (.ld false 5 (tm 13))),⟨some 76,none,.mkS 35 T5 [tm 75]⟩,⟨some 77,none,.append 35 T5 40 (tm 74) (tm 76)⟩,xf 78 4 10,xn (qs (tm 78) (tm 77))])))))
 (rg [xa 79 61,xm 61 79]))))
def F1:AC :=
 (.seq (rg [xo 4 (.i (.alloc 24 [.int .i64 0,.int .i64 0,.int .i64 0,.int .i64 0,.nils])),xo 5 (qm (cb false))])
 (.seq (rg [xm 15 1,⟨some 16,none,qc 15 [tm 15,.cst (.str ⟨#[10]⟩)] [[],[]]⟩,xm 6 16])
 (.seq (rg [xm 18 6,xo 19 (qx 1 (tm 18) (ci 0)),xl 20 19,xo 21 (qc 16 [tm 20] [[]]),xm 17 21,xo 22 (.i (.extr 0 (tm 17))),xo 23 (.i (.extr 1 (tm 17))),xo 24 (.i (.extr 2 (tm 17))),xm 7 22,xm 8 23,xm 9 24])
 (.seq (.seq (rg [xm 25 9,xo 26 (.i (.not (tm 25))),xm 27 26,⟨some 28,some (27,false),qm (tm 7)⟩,⟨some 29,some (27,false),.i (.bin .neq (tm 28) (.cst (.str ⟨#[112,114,111,103,114,97,109]⟩)))⟩,xo 30 (.i (.pick (tm 27) (cb true) (tm 29))),xm 31 30,⟨some 32,some (31,false),qm (tm 8)⟩,⟨some 33,some (31,false),.i (.len (tm 32))⟩,⟨some 34,some (31,false),qb .neq (tm 33) (ci 4)⟩,xo 35 (.i (.pick (tm 31) (cb true) (tm 34))),xm 36 35,⟨some 37,some (36,false),qm (tm 6)⟩,⟨some 38,some (36,false),.i (.len (tm 37))⟩,⟨some 39,some (36,false),qb .lss (tm 38) (ci 2)⟩,xo 40 (.i (.pick (tm 36) (cb true) (tm 39)))])
 (.cond (tm 40)
  (.seq (rg [xo 41 (.build [.int .i64 0,.int .i64 0,.int .i64 0,.int .i64 0,.nils] []),xn (.st false 5 (tm 4) (tm 41)),xo 5 (qm (cb false))])
  .ret)
  .skip))
 (.seq (.region [xm 42 8,xo 43 (qx 1 (tm 42) (ci 0)),xl 44 43,xm 45 8,xo 46 (qx 1 (tm 45) (ci 1)),xl 47 46,xm 48 8,xo 49 (qx 1 (tm 48) (ci 2)),xl 50 49,xm 51 8,xo 52 (qx 1 (tm 51) (ci 3)),xl 53 52,xo 54 (.build [.int .i64 0,.int .i64 0,.int .i64 0,.int .i64 0,.nils] [(0,1,tm 44),(1,1,tm 47),(2,1,tm 50),(3,1,tm 53)]),xo 10 (.i (.alloc 24 [.int .i64 0,.int .i64 0,.int .i64 0,.int .i64 0,.nils])),xn (.st false 5 (tm 10) (tm 54))] true [])
 (.seq (.seq (rg [xm 55 6,xm 56 6,xn1 57 56,xo 58 (qb .sub (tm 57) (ci 1)),xo 59 (.slice 1 (tm 55) (some (ci 1)) (some (tm 58)) none),xn1 60 59,xo 61 (qm (ci 0))])
 (.block 0 (.loop E8)))
 (.seq (.seq (rg [xm 80 0,xo 81 (.i (.ld false 5 (tm 10))),⟨some 82,none,qc 18 [tm 80,tm 81] [[],[none,none,none,none,some T5]]⟩,xo 83 (.i (.not (tm 82))),xm 84 83,⟨some 85,some (84,false),.i (.ld false 5 (tm 10))⟩,⟨some 86,some (84,false),qc 19 [tm 85] [[none,none,none,none,some T5]]⟩,⟨some 87,some (84,false),qm (tm 1)⟩,⟨some 88,some (84,false),qb .neq (tm 86) (tm 87)⟩,xo 89 (.i (.pick (tm 84) (cb true) (tm 88)))])
 (.cond (tm 89)
  (.seq (rg [xo 90 (.build [.int .i64 0,.int .i64 0,.int .i64 0,.int .i64 0,.nils] []),xn (.st false 5 (tm 4) (tm 90)),xo 5 (qm (cb false))])
  .ret)
  .skip))
 (.seq (rg [xo 91 (.i (.ld false 5 (tm 10))),xn (.st false 5 (tm 4) (tm 91)),xo 5 (qm (cb true))])
 .ret))))))))
def J5:List Res:=[.cell 4 false 5,.tmp 5]
theorem Ka:A2 Tryd.prog Tryd.f5=some (F1,J5):=by kernel_rfl
def A8 (y3:List ByteArray) (u0:Nat) (u1:List (Int×Int×Int×Int×Int)):Option (Ctl (Nat×(List (Int×Int×Int×Int×Int))) (Ctl (List (Int×Int×Int×Int×Int)) (Int×Int×Int×Int×(List (Int×Int×Int×Int×Int))×Bool))) :=
 cond (decide ((u0:Int)<((((y3.take ((wI ((y3.length:Int) - 1)).toNat)).drop 1).length:Nat):Int)))
 ((((y3.take ((wI ((y3.length:Int) - 1)).toNat)).drop 1)[u0]?).bind fun x28 =>
 (B5 x28).bind fun y30 =>
 cond (!y30.2.2.2.2.2)
  (some (Ctl.out (Ctl.out (0,0,0,0,[],false))))
  (og (u1.length+1<=1073741824∧(u1.length+1)*40<=140737488355328) <|
  og (u0+1<4611686018427387904) <|
  some (Ctl.next (u0+1,u1++([(y30.1,y30.2.1,y30.2.2.1,y30.2.2.2.1,y30.2.2.2.2.1)])))))
 (some (Ctl.out (Ctl.next u1)))
def Ba (a0:Int) (a1:ByteArray):Option (Int×Int×Int×Int×(List (Int×Int×Int×Int×Int))×Bool) :=
 (C4 a1 (⟨#[10]⟩:ByteArray)).bind fun y3 =>
(y3[0]?).bind fun x5 =>
(Dd x5).bind fun y6 =>
(cond (!y6.2.2)
  (some true)
  (cond (!(y6.1.toList==(⟨#[112,114,111,103,114,97,109]⟩:ByteArray).toList))
   (some true)
   (cond ((y6.2.1.length:Int) !=4)
    (some true)
    (some (decide ((y3.length:Int)<2)))))).bind fun u1 =>
cond u1
 (some (0,0,0,0,[],false))
 ((y6.2.1[0]?).bind fun x15 =>
 (y6.2.1[1]?).bind fun x16 =>
 (y6.2.1[2]?).bind fun x17 =>
 (y6.2.1[3]?).bind fun x18 =>
 On (og ((0:Int)<=1∧1<=wI ((y3.length:Int) - 1)∧wI ((y3.length:Int) - 1)<=(y3.length:Int)∧(y3.length:Int)<=(y3.length:Int)) <|
  Bc (fun s_:Nat×(List (Int×Int×Int×Int×Int))=>A8 y3 s_.1 s_.2) 4611686018427387904 (0,[])) fun u0 =>
 ((Bu a0 x15 x16 x17 x18 u0).bind fun y39 =>
  cond (!y39)
   (some true)
   ((Co x15 x16 x17 x18 u0).bind fun y41 =>
   some (!(y41.toList==a1.toList)))).bind fun u2 =>
 cond u2
  (some (0,0,0,0,[],false))
  (some (x15,x16,x17,x18,u0,true)))
def Js (r:Int×Int×Int×Int×(List (Int×Int×Int×Int×Int))×Bool):RV:=⟨true,[(true,[.sc (.int .i64 r.1),.sc (.int .i64 r.2.1),.sc (.int .i64 r.2.2.1),.sc (.int .i64 r.2.2.2.1),.new 35 T5 r.2.2.2.2.1]),(false,[.sc (.bool r.2.2.2.2.2)])]⟩
set_option maxHeartbeats 1600000 in
theorem Fm {a0:Int} {a1:ByteArray} {r:Int×Int×Int×Int×(List (Int×Int×Int×Int×Int))×Bool} (h:Ba a0 a1=some r):A7 Tryd.prog Tab 5 [ai a0,.str a1] (Js r):=by
 refine A5 (by kernel_rfl) Tryd.func5 Ka (n:=92) (by kernel_rfl) (by simp) rfl ?_;unfold F1;unfold Ba at h;refine Al (Ab ?_);obtain ⟨y3,h3,h⟩:=Ag h;refine Aa 6 (rsT 1 (zc (.tree .str y3) [] [.str a1,.str (⟨#[10]⟩:ByteArray)] (Ht h3) (rsT 1 (Am (tn_ (wr_ (Ab ?_)))))));obtain ⟨x5,e5,h⟩:=Ag h;obtain ⟨y6,h6,h⟩:=Ag h;refine Aa 17 (rsT 1 (rs0 (.telt none .str x5 0) (P5 (t:=.str) (xs:=y3) (k:=.i64) (m:=0) (by kernel_rfl) (by kernel_rfl) rfl (by decide) rfl e5) (rsT 1 (zc (.tup [.str y6.1,oI 336 9 y6.2.1.length,.bool y6.2.2]) [nI 336 9 y6.2.1] [.str x5] (Kp h6) (rsT 7 (Am (tn_ (wr_ (Ab (Ax h (fun (u3:Bool) S_=>S_=⟨Ak [(0,ai a0),(1,.str a1),(4,.box (oi 0 1) 0),(6,.tree .str y3),(8,oI 1 1 y6.2.1.length),(40,.bool u3)],Ai (Ar [(oi 0 1,.cells 24 [ai 0,ai 0,ai 0,ai 0,.nils]),(oi 1 1,.arr 3 .int y6.2.1)]),2⟩) ?_ ?_))))))))))
 ·intro v_ h;refine Aa 33 (rsT 3 ?_);rcases Ac h with ⟨q9,h⟩ | ⟨q9,h⟩
  ·refine rq 27 q9 (rsT 13 (Am (tn_ ?_)));obtain rfl:=zj h;exact ⟨_,Ad [(oi 0 1,oi 4 1),(oi 1 1,oi 336 9)],rfl⟩
  refine rq 27 q9 (rsT 4 ?_);rcases Ac h with ⟨q10,h⟩ | ⟨q10,h⟩
  ·refine rq 31 q10 (rsT 9 (Am (tn_ ?_)));obtain rfl:=zj h;exact ⟨_,Ad [(oi 0 1,oi 4 1),(oi 1 1,oi 336 9)],rfl⟩
  refine rq 31 q10 (rsT 5 ?_);rcases Ac h with ⟨q11,h⟩ | ⟨q11,h⟩
  ·refine rq 36 q11 (rsT 4 (Am (tn_ ?_)));obtain rfl:=zj h;exact ⟨_,Ad [(oi 0 1,oi 4 1),(oi 1 1,oi 336 9)],rfl⟩
  refine rq 36 q11 (rsT 4 (Am (tn_ ?_)));obtain rfl:=zj h;exact ⟨_,Ad [(oi 0 1,oi 4 1),(oi 1 1,oi 336 9)],rfl⟩
 rintro u3 _ rfl h
 (try dsimp only at h);rcases Ac h with ⟨q12,h⟩ | ⟨q12,h⟩
 ·refine Ae q12 (Al (Ah (tr_ ?_)));obtain rfl:=zj h;exact A6 [.agg [ai 0,ai 0,ai 0,ai 0,.nils],.bool false] (Fa (Aq zl (Aq zl (Aq zl (Aq zl (Aq (I8 rfl) Fd))))) (Av rfl zl Aw))
 refine Af q12 (Aj (tn_ (wr_ (Ab ?_))));obtain ⟨x15,e15,h⟩:=Ag h;obtain ⟨x16,e16,h⟩:=Ag h;obtain ⟨x17,e17,h⟩:=Ag h;obtain ⟨x18,e18,h⟩:=Ag h;refine Bh 17 (dz0 (oI 1 1 y6.2.1.length) (ds0 (.elt (oi 1 1) 0 0) (Bp (t:=.int) (o:=oi 1 1) (len:=y6.2.1.length) (k:=.i64) (m:=0) (by kernel_rfl) (by kernel_rfl) rfl (by decide) rfl (A1 e15)) (dzE (oi 1 1) e15 (dz0 (oI 1 1 y6.2.1.length) (ds0 (.elt (oi 1 1) 1 0) (Bp (t:=.int) (o:=oi 1 1) (len:=y6.2.1.length) (k:=.i64) (m:=1) (by kernel_rfl) (by kernel_rfl) rfl (by decide) rfl (A1 e16)) (dzE (oi 1 1) e16 (dz0 (oI 1 1 y6.2.1.length) (ds0 (.elt (oi 1 1) 2 0) (Bp (t:=.int) (o:=oi 1 1) (len:=y6.2.1.length) (k:=.i64) (m:=2) (by kernel_rfl) (by kernel_rfl) rfl (by decide) rfl (A1 e17)) (dzE (oi 1 1) e17 (dz0 (oI 1 1 y6.2.1.length) (ds0 (.elt (oi 1 1) 3 0) (Bp (t:=.int) (o:=oi 1 1) (len:=y6.2.1.length) (k:=.i64) (m:=3) (by kernel_rfl) (by kernel_rfl) rfl (by decide) rfl (A1 e18)) (dzE (oi 1 1) e18 (dz0 (.agg [ai x15,ai x16,ai x17,ai x18,.nils]) (ds1 (.box (oi 10 15) 0) (oi 10 15) (.cells 24 [ai 0,ai 0,ai 0,ai 0,.nils]) (by kernel_rfl) (To (oi 10 15) (oi 10 15) (.cells 24 [ai x15,ai x16,ai x17,ai x18,.nils]) (by kernel_rfl) (Kj (Bv (by kernel_rfl)) (tn_ (wr_ (Ey h (fun (u1:List (Int×Int×Int×Int×Int)) S_=>S_=⟨Ak [(0,ai a0),(1,.str a1),(4,.box (oi 0 1) 0),(10,.box (oi 1 1) 0)],Ai (Ar [(oi 0 1,.cells 24 [ai 0,ai 0,ai 0,ai 0,.nils]),(oi 1 1,.cells 24 [ai x15,ai x16,ai x17,ai x18,.own (oi 2 1) T5 0 u1.length]),(oi 2 1,.arr 35 T5 u1)]),2⟩) ?_ ?_)))))))))))))))))))
 ·intro v_ h hk19;refine Ab ?_;obtain ⟨g21,h⟩:=A4 h;refine Aa 24 (rsT 4 (rs0 (.tree .str ((y3.take ((wI ((y3.length:Int) - 1)).toNat)).drop 1)) (Wc (t:=.str) (xs:=y3) (zs:=(y3.take ((wI ((y3.length:Int) - 1)).toNat)).drop 1) (l:=1) (h:=wI ((y3.length:Int) - 1)) (m:=(y3.length:Int)) (by kernel_rfl) (by kernel_rfl) (by kernel_rfl) (by kernel_rfl) rfl g21 rfl) (rsT 2 (Am (tn_ (wr_ (At (Bq h (fun t_ S_=>∃ (u2:Nat),∃ (u0:List (Int×Int×Int×Int×Int)),t_=(u2,u0)∧S_=⟨Ak [(0,ai a0),(1,.str a1),(4,.box (oi 0 1) 0),(10,.box (oi 1 1) 0),(59,.tree .str ((y3.take ((wI ((y3.length:Int) - 1)).toNat)).drop 1)),(60,ai ((((y3.take ((wI ((y3.length:Int) - 1)).toNat)).drop 1).length:Nat):Int)),(61,an u2)],Ai (Ar [(oi 0 1,.cells 24 [ai 0,ai 0,ai 0,ai 0,.nils]),(oi 1 1,.cells 24 [ai x15,ai x16,ai x17,ai x18,.own (oi 2 1) T5 0 u0.length]),(oi 2 1,.arr 35 T5 u0)]),2⟩) ⟨_,(Jr 9000 (oi 10 15) 4 24 [ai x15,ai x16,ai x17,ai x18,.nils] [ai x15,ai x16,ai x17,ai x18,.own (oi 9000 24) T5 0 0] 35 T5 rfl (by kernel_rfl) (by kernel_rfl) (by kernel_rfl)).trans (Ad [(oi 1 1,oi 10 15),(oi 2 1,oi 9000 24)]),⟨0,[],rfl,rfl⟩⟩ ?_))))))));rintro n_ _ _ c_ ⟨u2,u0,rfl,rfl⟩ h hn22
  (try dsimp only at h);unfold A8 at h;unfold E8;refine Al (Ab ?_);rcases Ac h with ⟨q25,h⟩ | ⟨q25,h⟩
  ·have q25_:=of_decide_eq_true q25;refine Ae q25 (Aj (tn_ (wr_ (Ab (At (Ab ?_))))));obtain ⟨x28,e28,h⟩:=Ag h;refine Aa 6 (zI .str e28 (rsT 2 (Am (tn_ (wr_ (Ab ?_))))));obtain ⟨y30,h30,h⟩:=Ag h;refine Aa 14 (rsT 1 (zc (.tup [.agg [ai y30.1,ai y30.2.1,ai y30.2.2.1,ai y30.2.2.2.1,ai y30.2.2.2.2.1],.bool y30.2.2.2.2.2]) [] [.str x28] (Ls h30) (rsB 6 (Am (tn_ (wr_ (Ab (Al ?_))))))));rcases Ac h with ⟨q33,h⟩ | ⟨q33,h⟩
   ·refine Ae q33 (Al (Ah (tr_ (br_ (tr_ (tr_ (br_ (tr_ ?_))))))));obtain rfl:=zj h;have h:=hn22
    (try dsimp only at h);obtain rfl:=zj h;have h:=hk19
    (try dsimp only at h);obtain rfl:=zj h;exact A6 [.agg [ai 0,ai 0,ai 0,ai 0,.nils],.bool false] (Fa (Aq zl (Aq zl (Aq zl (Aq zl (Aq (I8 rfl) Fd))))) (Av rfl zl Aw))
   refine Af q33 (Aj (tn_ (wr_ ?_)));obtain ⟨g35,h⟩:=A4 h;refine Aa 23 (rsB 4 (rs2 (.own (oi 2 20) T5 0 ((u0++([(y30.1,y30.2.1,y30.2.2.1,y30.2.2.2.1,y30.2.2.2.2.1)])).length)) (oi 2 1) (oi 2 20) (.arr 35 T5 (u0++([(y30.1,y30.2.1,y30.2.2.1,y30.2.2.2.1,y30.2.2.2.2.1)]))) (K8 (t:=T5) (t':=T5) (xs:=u0) (ys:=[(y30.1,y30.2.1,y30.2.2.1,y30.2.2.2.1,y30.2.2.2.2.1)]) (zs:=u0++([(y30.1,y30.2.1,y30.2.2.1,y30.2.2.2.1,y30.2.2.2.2.1)])) (j:=oi 2 1) (len:=u0.length) (c:=.own (oi 76 19) T5 0 1) (by kernel_rfl) (by kernel_rfl) rfl (by kernel_rfl) (E4 (e:=35) (by kernel_rfl) rfl) rfl g35) (rsB 2 (Am (bn_ (tn_ (wr_ ?_)))))));obtain ⟨g36,h⟩:=A4 h;refine Aa 25 (zA g36 (rsT 1 (Am (tn_ ?_))));obtain rfl:=zj h;exact ⟨(u2+1,u0++([(y30.1,y30.2.1,y30.2.2.1,y30.2.2.2.1,y30.2.2.2.2.1)])),_,Ad [(oi 2 1,oi 2 20)],⟨u2+1,u0++([(y30.1,y30.2.1,y30.2.2.1,y30.2.2.2.1,y30.2.2.2.2.1)]),rfl,rfl⟩,hn22⟩
  have q25_:=of_decide_eq_false q25;refine Af q25 (Br (te_ (te_ (be_ (tn_ ?_)))));obtain rfl:=zj h;have h:=hn22
  (try dsimp only at h);obtain rfl:=zj h;exact ⟨u0,_,rfl,Ad [],rfl⟩
 rintro u1 _ rfl h
 (try dsimp only at h);refine Ab (Ax h (fun (u4:Bool) S_=>S_=⟨Ak [(4,.box (oi 0 1) 0),(10,.box (oi 1 1) 0),(89,.bool u4)],Ai (Ar [(oi 0 1,.cells 24 [ai 0,ai 0,ai 0,ai 0,.nils]),(oi 1 1,.cells 24 [ai x15,ai x16,ai x17,ai x18,.own (oi 2 1) T5 0 u1.length]),(oi 2 1,.arr 35 T5 u1)]),2⟩) ?_ ?_)
 ·intro v_ h;obtain ⟨y39,h39,h⟩:=Ag h;refine Aa 12 (rsT 2 (Cu (.bool y39) [] [ai a0,.agg [ai x15,ai x16,ai x17,ai x18,.own (oi 2 1) T5 0 u1.length]] _ (caps:=[]) (args0:=[ai a0,.agg [ai x15,ai x16,ai x17,ai x18,.tree T5 u1]]) trivial (An (by kernel_rfl) (An (G9 (An (by kernel_rfl) (An (by kernel_rfl) (An (by kernel_rfl) (An (by kernel_rfl) (An (Eo (e:=35) (by kernel_rfl) rfl) Cq)))))) Cq)) (M4 h39) M5 (rsT 2 ?_)));rcases Ac h with ⟨q40,h⟩ | ⟨q40,h⟩
  ·refine rq 84 q40 (rsT 5 (Am (tn_ ?_)));obtain rfl:=zj h;exact ⟨_,Ad [],rfl⟩
  obtain ⟨y41,h41,h⟩:=Ag h;refine rq 84 q40 (rsT 1 (Cu (.str y41) [] [.agg [ai x15,ai x16,ai x17,ai x18,.own (oi 2 1) T5 0 u1.length]] _ (caps:=[]) (args0:=[.agg [ai x15,ai x16,ai x17,ai x18,.tree T5 u1]]) (Ds (by kernel_rfl)) (An (G9 (An (by kernel_rfl) (An (by kernel_rfl) (An (by kernel_rfl) (An (by kernel_rfl) (An (Eo (e:=35) (by kernel_rfl) rfl) Cq)))))) Cq) (I7 h41) Ja (rsT 3 (Am (tn_ ?_)))));obtain rfl:=zj h;exact ⟨_,Ad [],rfl⟩
 rintro u4 _ rfl h
 (try dsimp only at h);rcases Ac h with ⟨q42,h⟩ | ⟨q42,h⟩
 ·refine Ae q42 (Al (Ah (tr_ ?_)));obtain rfl:=zj h;exact A6 [.agg [ai 0,ai 0,ai 0,ai 0,.nils],.bool false] (Fa (Aq zl (Aq zl (Aq zl (Aq zl (Aq (I8 rfl) Fd))))) (Av rfl zl Aw))
 refine Af q42 (Aj (tn_ (wr_ (Al (Ah ?_)))));obtain rfl:=zj h;exact A6 [.agg [ai x15,ai x16,ai x17,ai x18,.own (oi 2 1) T5 0 u1.length],.bool true] (Fa (Aq zl (Aq zl (Aq zl (Aq zl (Aq (H4 (by kernel_rfl) rfl) Fd))))) (Av rfl zl Aw))
end Go.Proofs.YtjlcpiemabfpiaaDoor

namespace Go.Proofs.YtjlcpiemabfpiaaDoor
theorem Acm {c:UInt8} (n:Int) (h:c.toNat<48):c∉dg n:=fun hm=>by
 have:=Xu _ c hm;omega
theorem Q6:∀ (ns:List Int) (w:List UInt8),(32:UInt8)∉w->Df 32 (w++ns.flatMap spc)=w :: ns.map dg
 | [],w,h=>by rw [List.flatMap_nil,List.append_nil]; exact Na h
 | n :: ns,w,h=>by
  have e:w++(n :: ns).flatMap spc=w++32 :: (dg n++ns.flatMap spc):=by simp [spc]
  rw [e,M0 _ h,Q6 ns (dg n) (Acm n (by decide)),List.map_cons]
theorem Ab7 (e:Eu):(32:UInt8)∉Di e:=by
 unfold Di
 repeat' split
 all_goals decide
theorem Rb (e:Eu):Df 32 (Er e)=Di e :: (Dj e).map dg:=Q6 _ _ (Ab7 e)
section
variable {α:Type}
theorem br {b:Bool} {ns:List Int} {k:Int} {X Y:Option α} (hX:(((ns.length:Nat):Int)==k)=true->∃ r,X=some r) (hY:∃ r,Y=some r):∃ r,(Option.bind (cond b (some (((ns.length:Nat):Int)==k)) (some false)) fun m=>cond m X Y)=some r:=by
 cases b
 ·exact hY
 ·rw [cond_true,obs];cases h:(((ns.length:Nat):Int)==k)
  ·exact hY
  ·exact hX h
theorem Ab8 {ns:List Int} (h:(((ns.length:Nat):Int)==1)=true):∃ a,ns=[a]:=by
 have:=beq_iff_eq.1 h;exact List.length_eq_one_iff.1 (by omega)
theorem Pa {ns:List Int} (h:(((ns.length:Nat):Int)==2)=true):∃ a b,ns=[a,b]:=by
 have h2:=beq_iff_eq.1 h
 match ns,h2 with
 | [a,b],_=>exact ⟨a,b,rfl⟩
 | [],h=>simp at h
 | [a],h=>simp at h
 | a :: b :: c :: r,h=>simp at h; omega
theorem Xs {ns:List Int} (h:(((ns.length:Nat):Int)==3)=true):∃ a b c,ns=[a,b,c]:=by
 have h2:=beq_iff_eq.1 h
 match ns,h2 with
 | [a,b,c],_=>exact ⟨a,b,c,rfl⟩
 | [],h=>simp at h
 | [a],h=>simp at h
 | [a,b],h=>simp at h
 | a :: b :: c :: d :: r,h=>simp at h; omega
end
theorem W5 {l:List UInt8} (hl:l.length<=1048577):∃ r,B5 (ba l)=some r:=by
 obtain ⟨⟨w,ns,ok⟩,hw⟩:=Po hl;unfold B5;rw [hw,obs];cases ok
 ·exact ⟨_,rfl⟩
 rw [Bool.not_true,cond_false];refine br (fun h=>?_) (br (fun h=>?_) (br (fun h=>?_) (br (fun h=>?_) (br (fun h=>?_) (br (fun h=>?_) (br (fun h=>?_) ⟨_,rfl⟩))))))
 ·obtain ⟨a,b,rfl⟩:=Pa h; exact ⟨_,rfl⟩
 ·obtain ⟨a,rfl⟩:=Ab8 h; exact ⟨_,rfl⟩
 ·obtain ⟨a,b,c,rfl⟩:=Xs h; exact ⟨_,rfl⟩
 ·obtain ⟨a,b,c,rfl⟩:=Xs h; exact ⟨_,rfl⟩
 ·obtain ⟨a,b,rfl⟩:=Pa h; exact ⟨_,rfl⟩
 ·obtain ⟨a,b,rfl⟩:=Pa h; exact ⟨_,rfl⟩
 ·obtain ⟨a,b,rfl⟩:=Pa h; exact ⟨_,rfl⟩
theorem Abq {p i o c g:Int} (hp:2<=p∧p<=97) (hi:0<=i∧i<=8) (ho:0<=o∧o<=8) (hc:0<=c∧c<=40) (hg:0<=g∧g<=16) {e:Eu} (h:G8 p i o c g e=true) :
  B5 (ba (Er e))=some (e.1,e.2.1,e.2.2.1,e.2.2.2.1,e.2.2.2.2,true):=by
 obtain ⟨h1,h2⟩:=I5 hp hi ho hc hg h;have hl:=O7 h1 h2;obtain ⟨n,r,h3,h4⟩:=h2;have hw:=Xv (by omega) (Rb e) h1 (by rw [h3]; omega);have hop:=Rh h;obtain ⟨e1,e2,e3,e4,e5⟩:=e;unfold B5;rw [hw,obs];simp only [ByteArray.toList_eq,E2];unfold G8 at h;dsimp only at hop h ⊢;rcases hop with rfl | rfl | rfl | rfl | rfl | rfl | rfl
 all_goals
  simp only [Int.reduceEq,if_true,if_false,Bool.and_eq_true,beq_iff_eq,or_true,true_or,or_false,false_or,or_self] at h
 ·obtain ⟨_,_,rfl,rfl⟩:=h; simp [Di,Dj]
 ·obtain ⟨_,rfl,rfl,rfl⟩:=h; simp [Di,Dj]
 ·obtain ⟨_,_,_,rfl⟩:=h; simp [Di,Dj]
 ·obtain ⟨_,_,rfl,_⟩:=h; simp [Di,Dj]
 ·obtain ⟨_,_,rfl,rfl⟩:=h; simp [Di,Dj]
 ·obtain ⟨_,_,rfl,rfl⟩:=h; simp [Di,Dj]
 ·obtain ⟨_,_,rfl,rfl⟩:=h; simp [Di,Dj]
theorem Aam (ns:List Int):(10:UInt8)∉ns.flatMap spc:=by
 intro h;obtain ⟨n,_,h⟩:=List.mem_flatMap.1 h;rcases List.mem_cons.1 h with h | h
 ·exact absurd h (by decide)
 ·exact Acm n (by decide) h
theorem Abp (e:Eu):(10:UInt8)∉Er e:=by
 intro h;rcases List.mem_append.1 h with h | h
 ·revert h
  unfold Di
  repeat' split
  all_goals decide
 ·exact Aam _ h
theorem Tc:∀ (code:List Eu) (w:List UInt8),(10:UInt8)∉w->Df 10 ((w++[10])++code.flatMap fun e=>Er e++[10])=w :: (code.map Er++[[]])
 | [],w,h=>by
  rw [List.flatMap_nil,List.append_nil,M0 _ h];rfl
 | e :: code,w,h=>by
  rw [List.flatMap_cons,List.append_assoc,List.singleton_append,M0 _ h,Tc code (Er e) (Abp e)];rfl
theorem Pm (i o c g:Int) (code:List Eu):Df 10 (Hf i o c g code)=Fb i o c g :: (code.map Er++[[]]):=by
 refine Tc code (Fb i o c g) fun h=>?_
 rcases List.mem_append.1 h with h | h
 ·exact absurd h (by decide)
 ·exact Aam _ h
section
variable {p i o c g:Int} {code:List Eu}
theorem V5 (G:G6 p i o c g code):(Hf i o c g code).length<=60000:=by
 have h:=(Mf G).2;have hl:=G.hl;have h2:=H5 (fun e=>Er e++[10]) 401 code (fun x hx=>by have:=Pg G hx; rw [List.length_append,List.length_singleton]; omega);unfold Hf;simp only [List.length_append,List.length_singleton];omega
theorem Py (i o c g:Int):Df 32 (Fb i o c g)=[112,114,111,103,114,97,109] :: [i,o,c,g].map dg:=Q6 _ _ (by decide)
theorem Vw (G:G6 p i o c g code):Ba p (ba (Hf i o c g code))=some (i,o,c,g,code,true):=by
 have ht:=V5 G;obtain ⟨h1,h2⟩:=Mf G;have hl:=G.hl;unfold Ba;rw [show (⟨#[10]⟩:ByteArray)=(⟨#[(10:UInt8)]⟩:ByteArray) from rfl,Pd _ 10 (by omega),obs,Pm,List.map_cons,List.getElem?_cons_zero,obs,Xv (by omega) (Py i o c g) h1 (by simp),obs];generalize hy:ba (Fb i o c g) :: (code.map Er++[[]]).map ba=y3;have hlen:y3.length=code.length+2:=by rw [← hy]; simp
 have hmid:(y3.take (code.length+1)).drop 1=code.map fun e=>ba (Er e):=by
  rw [← hy,List.take_succ_cons,List.drop_succ_cons,List.drop_zero,List.map_append,List.take_left' (by simp)];simp
 have hw:(wI (((y3.length:Nat):Int) - 1))=((code.length+1:Nat):Int):=by rw [hlen,Cc (by omega) (by omega)]; omega
 have hloop:Bc (fun s_:Nat×List Eu=>A8 y3 s_.1 s_.2) 4611686018427387904 (0,[])=some (Ctl.next code):=by
  have:=Hj (body:=fun s_:Nat×List Eu=>A8 y3 s_.1 s_.2) code (fun e=>e) [] (F:=4611686018427387904) (by omega) (Ctl.next code) (fun k x hx=>?_) ?_
  ·simpa using this
  ·have:=A1 hx;have hm:=G.all x (List.mem_of_getElem? hx)
   try dsimp only
   unfold A8;rw [hw,Int.toNat_natCast,hmid,List.length_map,Cj (by omega),cond_true,List.getElem?_map,hx,Option.map_some,obs,Abq G.hp G.hi G.ho G.hc G.hg hm,obs]
   try dsimp only
   rw [Bool.not_true,cond_false,As (by simp; omega),As (by omega)]
  ·try dsimp only
   unfold A8;rw [hw,Int.toNat_natCast,hmid,List.length_map,Cg (by omega),cond_false];simp
 have hc1:(ba [112,114,111,103,114,97,109]).toList==(⟨#[112,114,111,103,114,97,109]⟩:ByteArray).toList:=by simp [ByteArray.toList_eq,ba]
 simp only [hc1,Bool.not_true,cond_false,List.length_cons,List.length_nil,obs,List.getElem?_cons_zero,List.getElem?_cons_succ];rw [hw,As (by rw [hlen]; omega),hloop];have hd:decide (((y3.length:Nat):Int)<2)=false:=Cg (by rw [hlen]; omega);have hg:=Fj.2 G;rw [hd];show (Option.bind (Option.bind (Bu p i o c g code) _) _)=_;rw [Jb (by omega),hg,obs,Bool.not_true,cond_false,Ld G,obs,beq_self_eq_true];rfl
end
end Go.Proofs.YtjlcpiemabfpiaaDoor
namespace Go.Proofs.YtjlcpiemabfpiaaDoor
theorem rd1:∀ i:Fin 10,Bj (ba [UInt8.ofNat (48+i.val)])=some (i.val:Int):=by decide +kernel
theorem rd2:∀ i:Fin 100,10<=i.val->Bj (ba [UInt8.ofNat (48+i.val / 10),UInt8.ofNat (48+i.val % 10)])=some (i.val:Int):=by decide +kernel
theorem Jp {n:Int} (h:0<=n∧n<100):Bj (ba (dg n))=some n:=by
 obtain ⟨k,rfl⟩:=Int.eq_ofNat_of_zero_le h.1;unfold dg;rw [show ((k:Int)).toNat=k from rfl];by_cases h10:k<10
 ·rw [Lib.decDigits_one h10]; exact rd1 ⟨k,h10⟩
 ·rw [Lib.decDigits_two h10 (by omega)]; exact rd2 ⟨k,by omega⟩ (by show 10<=k; omega)
theorem N5 (l:List UInt8):∃ r,Bj (ba l)=some r:=by
 unfold Bj;rw [Ny,obs,Bd];cases h:inR ((l.length:Nat):Int) 1 6
 ·exact ⟨_,rfl⟩
 have hb:=Cp.1 h
 have key:∃ r,Bc (fun s_:Int×Nat=>Du (ba l) s_.1 s_.2) 4611686018427387904 (0,0)=some r∧True:=by
  refine Eb (F:=4611686018427387904) (s0:=((0,0):Int×Nat)) (Post:=fun _=>True) l.length (fun (i:Nat) (st:Int×Nat)=>st.2=i) (by omega) rfl ?_ ?_
  ·rintro i ⟨v,i'⟩ hi h1;dsimp only at h1;subst h1;have hx:=gEg hi
   try dsimp only
   unfold Du;rw [Bd,Cj (by omega),cond_true,Xd,hx];simp only [obs];cases decide (((l[i'].toNat:Nat):Int)<48)
   ·cases decide ((57:Int)<((l[i'].toNat:Nat):Int))
    ·simp only [cond_false,obs];rw [As (by omega)];exact .inl ⟨_,rfl,rfl⟩
    ·exact .inr ⟨_,rfl,trivial⟩
   ·exact .inr ⟨_,rfl,trivial⟩
  ·rintro ⟨v,i'⟩ h1;dsimp only at h1;subst h1
   try dsimp only
   unfold Du;rw [Bd,Cg (by omega),cond_false];exact ⟨_,rfl,trivial⟩
 obtain ⟨r,hr,-⟩:=key;rw [hr,Xd,gEg (by omega)];simp only [Bool.not_true,cond_false,obs];cases (((l[0].toNat:Nat):Int)==48) <;> cases decide ((1:Int)<((l.length:Nat):Int)) <;> cases r <;> exact ⟨_,rfl⟩
def Ov (ws:List (List UInt8)) (w:List UInt8):Nat->Nat
 | 0=>0
 | k+1=>if 0<k∧ws[k]? =some w then k else Ov ws w k
theorem Vz (ws:List (List UInt8)) (w:List UInt8) (rest:List ByteArray) (hl:ws.length<=1000):Bc (fun s_:Nat×Nat=>Dp (ws.map ba) (ba w :: rest) s_.1 s_.2) 4611686018427387904 (0,0)=some (Ov ws w ws.length):=by
 refine Ev ws.length (fun k=>(k,Ov ws w k)) (by omega) _ rfl (fun k hk=>?_) ?_
 ·have hx:=gEg hk
  try dsimp only
  unfold Dp;rw [List.length_map,Cj (by omega),cond_true,List.getElem?_map,hx,Option.map_some,obs];simp only [Ov,hx,List.getElem?_cons_zero,obs,ByteArray.toList_eq,E2,Option.some.injEq];by_cases h0:0<k
  ·rw [Cj (by omega),cond_true,obs];by_cases hw:ws[k]=w
   ·rw [beq_iff_eq.2 hw,cond_true,obs,if_pos ⟨h0,hw⟩];exact As (by omega) _
   ·rw [beq_eq_false_iff_ne.2 hw,cond_false,obs,if_neg (fun h=>hw h.2)];exact As (by omega) _
  ·rw [Cg (by omega),cond_false,obs,cond_false,obs,if_neg (fun h=>h0 h.1)];exact As (by omega) _
 ·try dsimp only
  unfold Dp;rw [List.length_map,Cg (by omega),cond_false]
theorem Rr (y3:List ByteArray) (hy:∀ x∈y3,∃ z:List UInt8,x=ba z):∃ ns:List Int,Bc (fun s_:Nat×List Int=>Bz y3 s_.1 s_.2) 4611686018427387904 (1,List.replicate 4 (0:Int))=some ns∧ns.length=4:=by
 refine Eb (F:=4611686018427387904) (s0:=((1,List.replicate 4 0):Nat×List Int)) (Post:=fun ns:List Int=>ns.length=4) 3 (fun (i:Nat) (st:Nat×List Int)=>st.1=i+1∧st.2.length=4) (by omega) ⟨rfl,by simp⟩ ?_ ?_
 ·rintro i ⟨k,ns⟩ hi ⟨h1,h2⟩;dsimp only at h1 h2;subst h1
  try dsimp only
  unfold Bz;by_cases hk:i+1<y3.length
  ·obtain ⟨z,hz⟩:=hy _ (List.getElem_mem hk);obtain ⟨v,hv⟩:=N5 z;rw [Cj (by omega),cond_true,Cj (by omega),obs,cond_true,gEg hk,obs,hz,hv,obs,gEg (by omega),obs,As (by omega)];exact .inl ⟨_,rfl,rfl,by simpa using h2⟩
  ·rw [Cg (by omega),cond_false,obs,cond_false];exact .inr ⟨_,rfl,h2⟩
 ·rintro ⟨k,ns⟩ ⟨h1,h2⟩;dsimp only at h1 h2;subst h1
  try dsimp only
  unfold Bz;by_cases hk:3+1<y3.length
  ·rw [Cj (by omega),cond_true,Cg (by omega),obs,cond_false];exact ⟨_,rfl,h2⟩
  ·rw [Cg (by omega),cond_false,obs,cond_false];exact ⟨_,rfl,h2⟩
theorem Uu {l:List UInt8} (hl:l.length<=1048577):∃ r,Dh (ba l)=some r:=by
 unfold Dh;rw [show (32:Int)=(((32:UInt8).toNat:Nat):Int) from rfl,F7 l 32 hl,obs]
 obtain ⟨w,t,hw⟩:∃ w t,Df 32 l=w :: t:=by
  cases h:Df 32 l with
  | nil=>exact absurd h (X2 l)
  | cons w t=>exact ⟨w,t,rfl⟩
 obtain ⟨ns,h1,h2⟩:=Rr ((Df 32 l).map ba) (fun x hx=>by obtain ⟨z,_,rfl⟩:=List.mem_map.1 hx; exact ⟨z,rfl⟩);obtain ⟨ws,h3,h4⟩:∃ ws:List (List UInt8),B2=some (ws.map ba)∧ws.length<=1000:=⟨[[],[105,110],[122,101,114,111],[97,100,100],[115,99,97,108,101],[108,111,97,100],[115,116,111,114,101],[111,117,116]],rfl,by decide⟩
 rw [h3,obs,h1,hw,List.map_cons,Vz ws w _ h4,obs,As (by decide),obs,gEg (show 1<ns.length by omega),gEg (show 2<ns.length by omega),gEg (show 3<ns.length by omega)];simp only [obs];generalize Ov ws w ws.length=k;cases (((k:Nat):Int)==6) <;> cases (((k:Nat):Int)==7) <;> cases (((k:Nat):Int)==4) <;> exact ⟨_,rfl⟩
theorem Xi {w:List UInt8} {ns:List Int} (hn:Md ns) (hk:ns.length<=3):Bc (fun s_:Nat×List Int=>Bz (ba w :: ns.map fun n=>ba (dg n)) s_.1 s_.2) 4611686018427387904 (1,List.replicate 4 (0:Int))=some (0 :: (ns++List.replicate (3 - ns.length) 0)):=by
 refine Ev ns.length (fun i=>(i+1,0 :: (ns.take i++List.replicate (3 - i) 0))) (by omega) _ rfl (fun i hi=>?_) ?_
 ·have hx:=gEg hi;have hm:=hn _ (List.getElem_mem hi)
  try dsimp only
  unfold Bz;rw [Cj (by simp; omega),cond_true,Cj (by omega),obs,cond_true,List.getElem?_cons_succ,List.getElem?_map,hx,Option.map_some,obs,Jp hm,obs,List.getElem?_cons_succ]
  have hg:(ns.take i++List.replicate (3 - i) (0:Int))[i]? =some 0:=by
   rw [List.getElem?_append_right (by simp; omega),List.length_take,List.getElem?_replicate,if_pos (by omega)]
  rw [hg,obs,As (by omega),List.set_cons_succ,List.take_add_one,hx,Option.toList];congr 3;rw [List.set_append_right _ _ (by simp; omega),List.length_take,show i - min i ns.length=0 by omega,show 3 - i=(3 - (i+1))+1 by omega,List.replicate_succ,List.set_cons_zero,List.append_assoc];rfl
 ·try dsimp only
  unfold Bz;rw [Cg (by simp),cond_false,obs,cond_false,List.take_length]
def Mm:List (List UInt8):=[[],[105,110],[122,101,114,111],[97,100,100],[115,99,97,108,101],[108,111,97,100],[115,116,111,114,101],[111,117,116]]
theorem Aa0:B2=some (Mm.map ba):=rfl
theorem Aao {p i o c g:Int} (hp:2<=p∧p<=97) (hi:0<=i∧i<=8) (ho:0<=o∧o<=8) (hc:0<=c∧c<=40) (hg:0<=g∧g<=16) {e:Eu} (h:G8 p i o c g e=true):Dh (ba (Er e))=some e:=by
 obtain ⟨h1,h2⟩:=I5 hp hi ho hc hg h;have hl:=O7 h1 h2;obtain ⟨n,r,h3,h4⟩:=h2;have hop:=Rh h;have hk:(Dj e).length<=3:=by rw [h3]; exact h4
 unfold Dh;rw [show (32:Int)=(((32:UInt8).toNat:Nat):Int) from rfl,F7 _ 32 (by omega),obs,Rb,List.map_cons,List.map_map,Aa0,obs,Vz Mm (Di e) _ (by decide),obs,As (by decide)];rw [show (Dj e).map (ba∘dg)=(Dj e).map fun n=>ba (dg n) from rfl,Xi h1 hk,obs];obtain ⟨e1,e2,e3,e4,e5⟩:=e;unfold G8 at h;dsimp only at hop h ⊢;rcases hop with rfl | rfl | rfl | rfl | rfl | rfl | rfl
 all_goals
  simp only [Int.reduceEq,if_true,if_false,Bool.and_eq_true,beq_iff_eq,or_true,true_or,or_false,false_or,or_self] at h
 ·obtain ⟨_,_,rfl,rfl⟩:=h; simp [Di,Dj,Ov,Mm]
 ·obtain ⟨_,rfl,rfl,rfl⟩:=h; simp [Di,Dj,Ov,Mm]
 ·obtain ⟨_,_,_,rfl⟩:=h; simp [Di,Dj,Ov,Mm]
 ·obtain ⟨_,_,rfl,_⟩:=h; simp [Di,Dj,Ov,Mm]
 ·obtain ⟨_,_,rfl,rfl⟩:=h; simp [Di,Dj,Ov,Mm]
 ·obtain ⟨_,_,rfl,rfl⟩:=h; simp [Di,Dj,Ov,Mm]
 ·obtain ⟨_,_,rfl,rfl⟩:=h; simp [Di,Dj,Ov,Mm]
end Go.Proofs.YtjlcpiemabfpiaaDoor
namespace Go.Proofs.YtjlcpiemabfpiaaDoor
theorem Zc {p:Int} {l:List UInt8} (hl:l.length<=1048577):Ba p (ba l)=some (0,0,0,0,[],false)∨∃ i o c g code,Ba p (ba l)=some (i,o,c,g,code,true)∧Rl p i o c g code=true∧Hf i o c g code=l:=by
 unfold Ba;rw [show (⟨#[10]⟩:ByteArray)=(⟨#[(10:UInt8)]⟩:ByteArray) from rfl,Pd _ 10 hl,obs];have hcount:=List.count_le_length (a:=(10:UInt8)) (l:=l);have hlen:((Df 10 l).map ba).length=l.count 10+1:=by rw [List.length_map,Hx]
 have hmem:∀ x∈(Df 10 l).map ba,∃ z:List UInt8,x=ba z∧z.length<=1048577:=by
  intro x hx;obtain ⟨z,hz,rfl⟩:=List.mem_map.1 hx;exact ⟨z,rfl,Nat.le_trans (Hl l z hz) hl⟩
 generalize (Df 10 l).map ba=y3 at *;obtain ⟨z0,hz0,hz1⟩:=hmem y3[0] (List.getElem_mem (by omega));rw [gEg (by omega),obs,hz0];obtain ⟨⟨w,ns,ok⟩,hw⟩:=Po hz1;rw [hw,obs];cases ok
 ·exact .inl rfl
 simp only [Bool.not_true,cond_false];cases (w.toList==(⟨#[112,114,111,103,114,97,109]⟩:ByteArray).toList)
 ·exact .inl rfl
 simp only [Bool.not_true,cond_false];by_cases h4:ns.length=4
 ·have hne:(((ns.length:Nat):Int) !=4)=false:=by rw [h4]; rfl
  rw [hne,cond_false,obs];by_cases h2:y3.length<2
  ·rw [Cj (by omega)]; exact .inl rfl
  ·rw [Cg (by omega),cond_false]
   obtain ⟨a,b,c,d,rfl⟩:∃ a b c d,ns=[a,b,c,d]:=by
    match ns,h4 with
    | [a,b,c,d],_=>exact ⟨a,b,c,d,rfl⟩
   have hw1:wI (((y3.length:Nat):Int) - 1)=((y3.length - 1:Nat):Int):=by rw [Cc (by omega) (by omega)]; omega
   have hmid:((y3.take (y3.length - 1)).drop 1).length=y3.length - 2:=by rw [List.length_drop,List.length_take]; omega
   have key:∃ r,Bc (fun s_:Nat×List Eu=>A8 y3 s_.1 s_.2) 4611686018427387904 (0,[])=some r∧((∃ code:List Eu,r=Ctl.next code∧code.length<=1048577)∨r=Ctl.out (0,0,0,0,[],false)):=by
    refine Eb (F:=4611686018427387904) (s0:=((0,[]):Nat×List Eu)) (Post:=fun r:Ctl (List Eu) (Int×Int×Int×Int×List Eu×Bool)=>(∃ code:List Eu,r=Ctl.next code∧code.length<=1048577)∨r=Ctl.out (0,0,0,0,[],false)) (y3.length - 2) (fun (i:Nat) (st:Nat×List Eu)=>st.1=i∧st.2.length=i) (by omega) ⟨rfl,rfl⟩ ?_ ?_
    ·rintro i ⟨i',out⟩ hi ⟨h1,h2⟩;dsimp only at h1 h2;subst h1
     try dsimp only
     unfold A8;rw [hw1,Int.toNat_natCast,hmid,Cj (by omega),cond_true,gEg (by omega),obs];obtain ⟨z,hz,hzl⟩:=hmem _ (List.mem_of_mem_take (List.mem_of_mem_drop (List.getElem_mem (show i'<((y3.take (y3.length - 1)).drop 1).length by omega))));rw [hz];obtain ⟨⟨q1,q2,q3,q4,q5,q6⟩,hq⟩:=W5 hzl;rw [hq,obs];cases q6
     ·exact .inr ⟨_,rfl,.inr rfl⟩
     ·refine .inl ⟨(i'+1,out++[(q1,q2,q3,q4,q5)]),?_,rfl,by simp; omega⟩;show (og _ _:Option _)=_;rw [As (by omega),As (by omega)]
    ·rintro ⟨i',out⟩ ⟨h1,h2⟩;dsimp only at h1 h2;subst h1
     try dsimp only
     unfold A8;rw [hw1,Int.toNat_natCast,hmid,Cg (by omega),cond_false];exact ⟨_,rfl,.inl ⟨_,rfl,by omega⟩⟩
   obtain ⟨r,hr,⟨code,rfl,hcl⟩ | rfl⟩:=key
   ·simp only [List.getElem?_cons_zero,List.getElem?_cons_succ,obs];rw [hw1,As (by omega),hr];show (Option.bind (Option.bind (Bu p a b c d code) _) _=_)∨_;rw [Jb (by omega),obs];cases hg:Rl p a b c d code
    ·exact .inl rfl
    ·rw [Bool.not_true,cond_false,Ld (Fj.1 hg),obs];cases hq:(ba (Hf a b c d code)).toList==(ba l).toList
     ·exact .inl rfl
     ·refine .inr ⟨a,b,c,d,code,?_,hg,?_⟩
      ·show Option.bind (Option.bind (Bu p a b c d code) _) _=_;rw [Jb (by omega),hg,obs,Bool.not_true,cond_false,Ld (Fj.1 hg),obs,hq];rfl
      have:=beq_iff_eq.1 hq
      rwa [ByteArray.toList_eq,ByteArray.toList_eq,E2,E2] at this
   ·simp only [List.getElem?_cons_zero,List.getElem?_cons_succ,obs];rw [hw1,As (by omega),hr];exact .inl rfl
 ·have hne:(((ns.length:Nat):Int) !=4)=true:=by
   rw [bne_iff_ne]; omega
  rw [hne];exact .inl rfl
end Go.Proofs.YtjlcpiemabfpiaaDoor
namespace Go.Proofs.YtjlcpiemabfpiaaDoor
open Go.RowKit Go.Deep
set_option maxRecDepth 4000
def Ea:AC :=
 (.seq (rg [xo 4 (qm (cb false))])
 (.seq (.seq (rg [xm 13 1,xo 14 (.i (.lenS (tm 13))),xo 15 (qb .gtr (tm 14) (ci 1048576))])
 (.cond (tm 15)
  (.seq (rg [xo 4 (qm (cb true))])
  .ret)
  .skip))
 (.seq (rg [xm 17 0,xm 18 1,xo 19 (qc 4 [tm 17,tm 18] [[],[]]),xm 16 19,xo 20 (.i (.extr 0 (tm 16))),xo 21 (.i (.extr 1 (tm 16))),xo 5 (.i (.alloc 24 [.int .i64 0,.int .i64 0,.int .i64 0,.int .i64 0,.nils])),xn (.st false 5 (tm 5) (tm 20)),xm 6 21])
 (.seq (rg [xm 23 0,xm 24 1,xo 25 (qc 5 [tm 23,tm 24] [[],[]]),xm 22 25,xo 26 (.i (.extr 0 (tm 22))),xo 27 (.i (.extr 1 (tm 22))),xo 7 (.i (.alloc 24 [.int .i64 0,.int .i64 0,.int .i64 0,.int .i64 0,.nils])),xn (.st false 5 (tm 7) (tm 26)),xm 8 27])
 (.seq (.seq (rg [xo 28 (.i (.ld false 5 (tm 7))),xo 29 (.i (.ld false 5 (tm 5))),⟨some 30,none,qc 6 [tm 28,tm 29] [[none,none,none,none,some T5],[none,none,none,none,some T5]]⟩,xo 31 (.i (.not (tm 30))),xm 32 31,⟨some 33,some (32,false),qm (tm 8)⟩,⟨some 34,some (32,false),qm (tm 6)⟩,⟨some 35,some (32,false),.i (.cmp true 0 (tm 33) (tm 34))⟩,xo 36 (.i (.pick (tm 32) (cb true) (tm 35)))])
 (.cond (tm 36)
  (.seq (rg [xo 4 (qm (cb false))])
  .ret)
  .skip))
 (.seq (rg [xo 9 (qm (ci 1))])
 (.seq (rg [xo 37 (.i (.ld false 5 (tm 7))),xm 38 9,⟨some 39,none,qc 7 [tm 37,tm 38] [[none,none,none,none,some T5],[]]⟩,xm 9 39])
 (.seq (rg [xo 10 (qm (ci 1))])
 (.seq (rg [xo 40 (.i (.ld false 5 (tm 7))),xm 41 10,⟨some 42,none,qc 8 [tm 40,tm 41] [[none,none,none,none,some T5],[]]⟩,xm 10 42])
 (.seq (.seq (rg [xm 43 10,xo 44 (qb .lss (tm 43) (ci 0))])
 (.cond (tm 44)
  (.seq (rg [xo 4 (qm (cb false))])
  .ret)
  .skip))
 (.seq (.seq (rg [xm 45 10,xm 46 9,xo 47 (qb .neq (tm 45) (tm 46))])
 (.cond (tm 47)
  (.seq (rg [xo 4 (qm (cb false))])
  .ret)
  .skip))
 (.seq (rg [xm 49 0,xm 50 1,xo 51 (qc 5 [tm 49,tm 50] [[],[]]),xm 48 51,xo 52 (.i (.extr 0 (tm 48))),xo 53 (.i (.extr 1 (tm 48))),xo 11 (.i (.alloc 24 [.int .i64 0,.int .i64 0,.int .i64 0,.int .i64 0,.nils])),xn (.st false 5 (tm 11) (tm 52)),xm 12 53])
 (.seq (.seq (rg [xo 54 (.i (.ld false 5 (tm 11))),xo 55 (.i (.ld false 5 (tm 5))),⟨some 56,none,qc 6 [tm 54,tm 55] [[none,none,none,none,some T5],[none,none,none,none,some T5]]⟩,xo 57 (.i (.not (tm 56))),xm 58 57,⟨some 59,some (58,false),qm (tm 12)⟩,⟨some 60,some (58,false),qm (tm 6)⟩,⟨some 61,some (58,false),.i (.cmp true 0 (tm 59) (tm 60))⟩,xo 62 (.i (.pick (tm 58) (cb true) (tm 61)))])
 (.cond (tm 62)
  (.seq (rg [xo 4 (qm (cb false))])
  .ret)
  .skip))
 (.seq (rg [xo 10 (qm (ci 1))])
 (.seq (rg [xo 63 (.i (.ld false 5 (tm 7))),xm 64 10,⟨some 65,none,qc 8 [tm 63,tm 64] [[none,none,none,none,some T5],[]]⟩,xm 10 65])
 (.seq (.seq (rg [xm 66 10,xo 67 (qb .lss (tm 66) (ci 0))])
 (.cond (tm 67)
  (.seq (rg [xo 4 (qm (cb false))])
  .ret)
  .skip))
 (.seq (.seq (rg [xm 68 10,xm 69 9,xo 70 (qb .neq (tm 68) (tm 69))])
 (.cond (tm 70)
  (.seq (rg [xo 4 (qm (cb false))])
  .ret)
  .skip))
 (.seq (rg [xo 4 (qm (cb true))])
 .ret))))))))))))))))))
def Gd:List Res:=[.tmp 4]
theorem Gs:A2 Tryd.prog Tryd.f3=some (Ea,Gd):=by kernel_rfl
def Bn (a0:Int) (a1:ByteArray):Option Bool :=
 cond (decide (1048576<(a1.size:Int)))
 (some true)
 ((Be a0 a1).bind fun y7 =>
 (Ba a0 a1).bind fun y9 =>
 ((Cx y9.1 y9.2.1 y9.2.2.1 y9.2.2.2.1 y9.2.2.2.2.1 y7.1 y7.2.1 y7.2.2.1 y7.2.2.2.1 y7.2.2.2.2.1).bind fun y12 =>
  cond (!y12)
   (some true)
   (some (y9.2.2.2.2.2 !=y7.2.2.2.2.2))).bind fun u0 =>
 cond u0
  (some false)
  ((C3 y9.1 y9.2.1 y9.2.2.1 y9.2.2.2.1 y9.2.2.2.2.1 1).bind fun y18 =>
  og (y18.1.length=y9.2.2.2.2.1.length) <|
  (Cf y9.1 y9.2.1 y9.2.2.1 y9.2.2.2.1 y18.1 1).bind fun y22 =>
  cond (decide (y22<0))
   (some false)
   (cond (y22 !=y18.2)
    (some false)
    ((Ba a0 a1).bind fun y32 =>
    ((Cx y32.1 y32.2.1 y32.2.2.1 y32.2.2.2.1 y32.2.2.2.2.1 y7.1 y7.2.1 y7.2.2.1 y7.2.2.2.1 y7.2.2.2.2.1).bind fun y35 =>
     cond (!y35)
      (some true)
      (some (y32.2.2.2.2.2 !=y7.2.2.2.2.2))).bind fun u1 =>
    cond u1
     (some false)
     ((Cf y9.1 y9.2.1 y9.2.2.1 y9.2.2.2.1 y18.1 1).bind fun y41 =>
     cond (decide (y41<0))
      (some false)
      (cond (y41 !=y18.2)
       (some false)
       (some true)))))))
def F3 (r:Bool):RV:=⟨false,[(false,[.sc (.bool r)])]⟩
theorem F4 {a0:Int} {a1:ByteArray} {r:Bool} (h:Bn a0 a1=some r):A7 Tryd.prog Tab 3 [ai a0,.str a1] (F3 r):=by
 refine A5 (by kernel_rfl) Tryd.func3 Gs (n:=71) (by kernel_rfl) (by simp) rfl ?_;unfold Ea;unfold Bn at h;refine Al (Ab (Al ?_));rcases Ac h with ⟨q4,h⟩ | ⟨q4,h⟩
 ·have q4_:=of_decide_eq_true q4;refine Ae q4 (Al (Ah (tr_ ?_)));obtain rfl:=zj h;exact A6 [.bool true] (Av rfl zl Aw)
 have q4_:=of_decide_eq_false q4;refine Af q4 (Aj (tn_ (wr_ (Ab ?_))));obtain ⟨y7,h7,h⟩:=Ag h;refine Aa 14 (rsT 2 (zc (.tup [.agg [ai y7.1,ai y7.2.1,ai y7.2.2.1,ai y7.2.2.2.1,.own (oi 304 7) T5 0 y7.2.2.2.2.1.length],.bool y7.2.2.2.2.2]) [(oi 304 7,some (.arr 35 T5 y7.2.2.2.2.1))] [ai a0,.str a1] (I2 h7) (rsB 6 (Am (tn_ (wr_ (Ab ?_)))))));obtain ⟨y9,h9,h⟩:=Ag h;refine Aa 23 (rsT 2 (zc (.tup [.agg [ai y9.1,ai y9.2.1,ai y9.2.2.1,ai y9.2.2.2.1,.own (oi 400 16) T5 0 y9.2.2.2.2.1.length],.bool y9.2.2.2.2.2]) [(oi 400 16,some (.arr 35 T5 y9.2.2.2.2.1))] [ai a0,.str a1] (Fm h9) (rsB 6 (Am (tn_ (wr_ (Ab (Ax h (fun (u0:Bool) S_=>S_=⟨Ak [(0,ai a0),(1,.str a1),(5,.box (oi 0 1) 0),(6,.bool y7.2.2.2.2.2),(7,.box (oi 1 1) 0),(36,.bool u0)],Ai (Ar [(oi 0 1,.cells 24 [ai y7.1,ai y7.2.1,ai y7.2.2.1,ai y7.2.2.2.1,.own (oi 2 1) T5 0 y7.2.2.2.2.1.length]),(oi 1 1,.cells 24 [ai y9.1,ai y9.2.1,ai y9.2.2.1,ai y9.2.2.2.1,.own (oi 3 1) T5 0 y9.2.2.2.2.1.length]),(oi 2 1,.arr 35 T5 y7.2.2.2.2.1),(oi 3 1,.arr 35 T5 y9.2.2.2.2.1)]),2⟩) ?_ ?_))))))))
 ·intro v_ h;obtain ⟨y12,h12,h⟩:=Ag h;refine Aa 32 (rsT 2 (Cu (.bool y12) [] [.agg [ai y9.1,ai y9.2.1,ai y9.2.2.1,ai y9.2.2.2.1,.own (oi 400 16) T5 0 y9.2.2.2.2.1.length],.agg [ai y7.1,ai y7.2.1,ai y7.2.2.1,ai y7.2.2.2.1,.own (oi 304 7) T5 0 y7.2.2.2.2.1.length]] _ (caps:=[]) (args0:=[.agg [ai y9.1,ai y9.2.1,ai y9.2.2.1,ai y9.2.2.2.1,.tree T5 y9.2.2.2.2.1],.agg [ai y7.1,ai y7.2.1,ai y7.2.2.1,ai y7.2.2.2.1,.tree T5 y7.2.2.2.2.1]]) trivial (An (G9 (An (by kernel_rfl) (An (by kernel_rfl) (An (by kernel_rfl) (An (by kernel_rfl) (An (Eo (e:=35) (by kernel_rfl) rfl) Cq)))))) (An (G9 (An (by kernel_rfl) (An (by kernel_rfl) (An (by kernel_rfl) (An (by kernel_rfl) (An (Eo (e:=35) (by kernel_rfl) rfl) Cq)))))) Cq)) (G1 h12) Gu (rsT 2 ?_)));rcases Ac h with ⟨q13,h⟩ | ⟨q13,h⟩
  ·refine rq 32 q13 (rsT 4 (Am (tn_ ?_)));obtain rfl:=zj h;exact ⟨_,Ad [(oi 0 1,oi 5 11),(oi 2 1,oi 304 7),(oi 1 1,oi 7 20),(oi 3 1,oi 400 16)],rfl⟩
  refine rq 32 q13 (rsT 4 (Am (tn_ ?_)));obtain rfl:=zj h;exact ⟨_,Ad [(oi 0 1,oi 5 11),(oi 2 1,oi 304 7),(oi 1 1,oi 7 20),(oi 3 1,oi 400 16)],rfl⟩
 rintro u0 _ rfl h
 (try dsimp only at h);rcases Ac h with ⟨q14,h⟩ | ⟨q14,h⟩
 ·refine Ae q14 (Al (Ah (tr_ ?_)));obtain rfl:=zj h;exact A6 [.bool false] (Av rfl zl Aw)
 refine Af q14 (Aj (tn_ (wr_ (Al (Ab ?_)))));obtain ⟨y18,h18,h⟩:=Ag h;obtain ⟨g19,h⟩:=A4 h;refine Aa 7 (rsT 2 (Aaq (ai y18.2) [(oi 3 1,some (.arr 35 T5 y18.1)),(oi 3 1,none)] [(oi 0 0,oi 3 1)] [.agg [ai y9.1,ai y9.2.1,ai y9.2.2.1,ai y9.2.2.2.1,.own (oi 3 1) T5 0 y9.2.2.2.2.1.length],ai 1] (caps:=[]) trivial (J2 h18 rfl) Ke ⟨by kernel_rfl,trivial⟩ (.cons (.agg (.cons (.ren (by kernel_rfl)) (.cons (.ren (by kernel_rfl)) (.cons (.ren (by kernel_rfl)) (.cons (.ren (by kernel_rfl)) (.cons (.ren (by kernel_rfl)) .nil)))))) (.cons (.ren (by kernel_rfl)) .nil)) (Lo (by kernel_rfl) (by kernel_rfl) ⟨Aaa (by kernel_rfl),trivial⟩) (rsT 1 (Am (tn_ (wr_ (Al (Ab ?_))))))));obtain ⟨y22,h22,h⟩:=Ag h;refine Aa 12 (rsT 2 (Cu (ai y22) [] [.agg [ai y9.1,ai y9.2.1,ai y9.2.2.1,ai y9.2.2.2.1,.own (oi 3 1) T5 0 y9.2.2.2.2.1.length],ai 1] _ (caps:=[]) (args0:=[.agg [ai y9.1,ai y9.2.1,ai y9.2.2.1,ai y9.2.2.2.1,.tree T5 y18.1],ai 1]) trivial (An (G9 (An (by kernel_rfl) (An (by kernel_rfl) (An (by kernel_rfl) (An (by kernel_rfl) (An (Eo (e:=35) (by kernel_rfl) g19.symm) Cq)))))) (An (by kernel_rfl) Cq)) (Fw h22) Fy (rsT 1 (Am (tn_ (wr_ (Ab (Al ?_))))))));rcases Ac h with ⟨q25,h⟩ | ⟨q25,h⟩
 ·have q25_:=of_decide_eq_true q25;refine Ae q25 (Al (Ah (tr_ ?_)));obtain rfl:=zj h;exact A6 [.bool false] (Av rfl zl Aw)
 have q25_:=of_decide_eq_false q25;refine Af q25 (Aj (tn_ (wr_ (Ab (Al ?_)))));rcases Ac h with ⟨q29,h⟩ | ⟨q29,h⟩
 ·refine Ae q29 (Al (Ah (tr_ ?_)));obtain rfl:=zj h;exact A6 [.bool false] (Av rfl zl Aw)
 refine Af q29 (Aj (tn_ (wr_ (Ab ?_))));obtain ⟨y32,h32,h⟩:=Ag h;refine Aa 26 (rsT 2 (zc (.tup [.agg [ai y32.1,ai y32.2.1,ai y32.2.2.1,ai y32.2.2.2.1,.own (oi 816 19) T5 0 y32.2.2.2.2.1.length],.bool y32.2.2.2.2.2]) [(oi 816 19,some (.arr 35 T5 y32.2.2.2.2.1))] [ai a0,.str a1] (Fm h32) (rsB 6 (Am (tn_ (wr_ (Ab (Ax h (fun (u1:Bool) S_=>S_=⟨Ak [(7,.box (oi 0 1) 0),(9,ai y18.2),(62,.bool u1)],Ai (Ar [(oi 0 1,.cells 24 [ai y9.1,ai y9.2.1,ai y9.2.2.1,ai y9.2.2.2.1,.own (oi 1 1) T5 0 y18.1.length]),(oi 1 1,.arr 35 T5 y18.1)]),2⟩) ?_ ?_))))))))
 ·intro v_ h;obtain ⟨y35,h35,h⟩:=Ag h;refine Aa 35 (rsT 2 (Cu (.bool y35) [] [.agg [ai y32.1,ai y32.2.1,ai y32.2.2.1,ai y32.2.2.2.1,.own (oi 816 19) T5 0 y32.2.2.2.2.1.length],.agg [ai y7.1,ai y7.2.1,ai y7.2.2.1,ai y7.2.2.2.1,.own (oi 2 1) T5 0 y7.2.2.2.2.1.length]] _ (caps:=[]) (args0:=[.agg [ai y32.1,ai y32.2.1,ai y32.2.2.1,ai y32.2.2.2.1,.tree T5 y32.2.2.2.2.1],.agg [ai y7.1,ai y7.2.1,ai y7.2.2.1,ai y7.2.2.2.1,.tree T5 y7.2.2.2.2.1]]) trivial (An (G9 (An (by kernel_rfl) (An (by kernel_rfl) (An (by kernel_rfl) (An (by kernel_rfl) (An (Eo (e:=35) (by kernel_rfl) rfl) Cq)))))) (An (G9 (An (by kernel_rfl) (An (by kernel_rfl) (An (by kernel_rfl) (An (by kernel_rfl) (An (Eo (e:=35) (by kernel_rfl) rfl) Cq)))))) Cq)) (G1 h35) Gu (rsT 2 ?_)));rcases Ac h with ⟨q36,h⟩ | ⟨q36,h⟩
  ·refine rq 58 q36 (rsT 4 (Am (tn_ ?_)));obtain rfl:=zj h;exact ⟨_,(Vu (oi 1 1) (.cells 24 [ai y9.1,ai y9.2.1,ai y9.2.2.1,ai y9.2.2.2.1,.own (oi 3 1) T5 0 y9.2.2.2.2.1.length]) (.cells 24 [ai y9.1,ai y9.2.1,ai y9.2.2.1,ai y9.2.2.2.1,.own (oi 3 1) T5 0 y18.1.length]) (by kernel_rfl) (congrArg (fun z_=>(.cells 24 [ai y9.1,ai y9.2.1,ai y9.2.2.1,ai y9.2.2.2.1,.own (oi 3 1) T5 0 z_]:Ob)) (g19.symm:y9.2.2.2.2.1.length=y18.1.length))).trans (Ad [(oi 0 1,oi 1 1),(oi 1 1,oi 3 1)]),rfl⟩
  refine rq 58 q36 (rsT 4 (Am (tn_ ?_)));obtain rfl:=zj h;exact ⟨_,(Vu (oi 1 1) (.cells 24 [ai y9.1,ai y9.2.1,ai y9.2.2.1,ai y9.2.2.2.1,.own (oi 3 1) T5 0 y9.2.2.2.2.1.length]) (.cells 24 [ai y9.1,ai y9.2.1,ai y9.2.2.1,ai y9.2.2.2.1,.own (oi 3 1) T5 0 y18.1.length]) (by kernel_rfl) (congrArg (fun z_=>(.cells 24 [ai y9.1,ai y9.2.1,ai y9.2.2.1,ai y9.2.2.2.1,.own (oi 3 1) T5 0 z_]:Ob)) (g19.symm:y9.2.2.2.2.1.length=y18.1.length))).trans (Ad [(oi 0 1,oi 1 1),(oi 1 1,oi 3 1)]),rfl⟩
 rintro u1 _ rfl h
 (try dsimp only at h);rcases Ac h with ⟨q37,h⟩ | ⟨q37,h⟩
 ·refine Ae q37 (Al (Ah (tr_ ?_)));obtain rfl:=zj h;exact A6 [.bool false] (Av rfl zl Aw)
 refine Af q37 (Aj (tn_ (wr_ (Al (Ab ?_)))));obtain ⟨y41,h41,h⟩:=Ag h;refine Aa 7 (rsT 2 (Cu (ai y41) [] [.agg [ai y9.1,ai y9.2.1,ai y9.2.2.1,ai y9.2.2.2.1,.own (oi 1 1) T5 0 y18.1.length],ai 1] _ (caps:=[]) (args0:=[.agg [ai y9.1,ai y9.2.1,ai y9.2.2.1,ai y9.2.2.2.1,.tree T5 y18.1],ai 1]) trivial (An (G9 (An (by kernel_rfl) (An (by kernel_rfl) (An (by kernel_rfl) (An (by kernel_rfl) (An (Eo (e:=35) (by kernel_rfl) rfl) Cq)))))) (An (by kernel_rfl) Cq)) (Fw h41) Fy (rsT 1 (Am (tn_ (wr_ (Ab (Al ?_))))))));rcases Ac h with ⟨q44,h⟩ | ⟨q44,h⟩
 ·have q44_:=of_decide_eq_true q44;refine Ae q44 (Al (Ah (tr_ ?_)));obtain rfl:=zj h;exact A6 [.bool false] (Av rfl zl Aw)
 have q44_:=of_decide_eq_false q44;refine Af q44 (Aj (tn_ (wr_ (Ab (Al ?_)))));rcases Ac h with ⟨q48,h⟩ | ⟨q48,h⟩
 ·refine Ae q48 (Al (Ah (tr_ ?_)));obtain rfl:=zj h;exact A6 [.bool false] (Av rfl zl Aw)
 refine Af q48 (Aj (tn_ (wr_ (Al (Ah ?_)))));obtain rfl:=zj h;exact A6 [.bool true] (Av rfl zl Aw)
end Go.Proofs.YtjlcpiemabfpiaaDoor

