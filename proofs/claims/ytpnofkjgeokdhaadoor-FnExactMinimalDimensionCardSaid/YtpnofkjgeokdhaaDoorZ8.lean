/- Lemmas on the program and on partial functions that stand in place of its code (part 8); no condition beyond those that each one states. -/
import Derived.Test.YtpnofkjgeokdhaaDoorZ7
namespace Go.Proofs.YtpnofkjgeokdhaaDoor
section
open Go.RowKit Go.Deep
set_option maxRecDepth 4000
def Td:AC :=
 (.seq (rg [xs1 19 18 17])
 (.seq (.cond (tm 19)
  .skip
  (.exit 2))
 (.seq (.block 3 (.seq (rg [xx 20 1 16 18,xl 21 20,xm 8 21])
 (.region [xm 22 5,xm 23 6,xm 24 5,xm 25 6,xx 26 1 24 25,xl 27 26,xm 28 8,xm 29 6,xx 30 1 28 29,xl 31 30,xo 32 (.mkS 3 .int [tm 31]),xo 33 (.append 3 .int 8 (tm 27) (tm 32)),xx 34 1 22 23,xn (qs (tm 34) (tm 33))] true [])))
 (rg [xa 35 18,xm 18 35]))))
def Ss:AC :=
 (.seq (rg [xs1 14 13 12])
 (.seq (.cond (tm 14)
  .skip
  (.exit 0))
 (.seq (.block 1 (.seq (rg [xm 15 13,xm 6 15])
 (.seq (rg [xm 16 0,xn1 17 16,xo 18 (qm (ci 0))])
 (.block 2 (.loop Td)))))
 (rg [xa 36 13,xm 13 36]))))
def Yb:AC :=
 (.seq (rg [xo 4 (qm (.cst .nils))])
 (.seq (rg [xm 9 1,xo 10 (.makeV 23 sI 24 [.nils] (tm 9) (tm 9)),xm 5 10])
 (.seq (.seq (rg [xm 11 5,xn1 12 11,xo 13 (qm (ci 0))])
 (.block 0 (.loop Ss)))
 (.seq (rg [xm 37 5,xm 4 37])
 .ret))))
def Ai3:List Res:=[.tmp 4]
theorem Aj9:At Tryd.prog Tryd.f45=some (Yb,Ai3):=by kernel_rfl
theorem Vz:Be Tryd.prog 45=true:=by kernel_rfl
def Hk (a0:LL) (u1 u0:Nat) (u2:LL):Option (Ctl (Nat×LL) (LL)) :=
 cond (decide ((u0:Int)<(a0.length:Int)))
 (Option.bind (a0[u0]?) fun x20 =>
 Option.bind (u2[u1]?) fun x21 =>
 Option.bind (x20[u1]?) fun x22 =>
 og (x21.length+1<=1073741824∧(x21.length+1)*8<=140737488355328) <|
 og (u0+1<4611686018427387904) <|
 some (Ctl.next (u0+1,u2.set u1 (x21++([x22])))))
 (some (Ctl.out u2))
def Hq (a1:Int) (a0:LL) (u0:Nat) (u1:LL):Option (Ctl (Nat×LL) (LL)) :=
 cond (decide ((u0:Int)<(a1.toNat:Int)))
 (Option.bind (Aw (fun s_:Nat×LL=>Hk a0 u0 s_.1 s_.2) 4611686018427387904 (0,u1)) fun u2 =>
 og (u0+1<4611686018427387904) <|
 some (Ctl.next (u0+1,u2)))
 (some (Ctl.out u1))
def Ip (a0:LL) (a1:Int):Option (LL) :=
 og (0<=a1∧a1<=a1∧a1<=1073741824∧(24:Int)*a1<=140737488355328) <|
Option.bind (Aw (fun s_:Nat×LL=>Hq a1 a0 s_.1 s_.2) 4611686018427387904 (0,List.replicate a1.toNat ([]:List Int))) fun u0 =>
some u0
theorem Wx {a0:LL} {a1:Int} {r:LL} (h:Ip a0 a1=some r):Kd Tryd.prog Tab 45 [tS a0,ai a1] [] (oS 0 1 r.length) [(oi 0 1,.mat 23 (oi 1 1) .int r),(oi 1 1,.pool 3 .int r)]:=by
 refine Ga (by kernel_rfl) Tryd.func45 Aj9 (n:=38) (by kernel_rfl) (by simp) (tl:=[(0,tS a0),(1,ai a1)]) rfl (by kernel_rfl) trivial ⟨⟨3,.tail _ (.head _)⟩,⟨trivial,trivial⟩⟩ ?_;unfold Yb;unfold Ip at h;refine Al ?_;refine Ab ?_;obtain ⟨g4,h⟩:=Am h;refine Aa 5 ?_;refine rsB 1 ?_;refine Amx (oS 160 3 a1.toNat) (oi 160 3) 23 3 .int (List.replicate a1.toNat ([]:List Int)) trivial (Aei (j:=a1.toNat) (k:=.i64) (k':=.i64) (m:=a1) (c:=a1) 3 (by kernel_rfl) (by kernel_rfl) g4 (by kernel_rfl) rfl) (by kernel_rfl) (by rw [List.length_replicate]) (by kernel_rfl) ?_;refine rsB 1 ?_;refine Aq (tn_ ?_);refine wr_ ?_;refine Ar h (fun (u2:LL) S_=>S_=⟨Ao [(5,oS 0 1 u2.length)],Aj (Ap [(oi 0 1,.mat 23 (oi 1 1) .int u2),(oi 1 1,.pool 3 .int u2)]),2⟩) ?_ ?_
 ·intro v_ h;refine Al ?_;refine Ae ?_;refine Av h (fun t_ S_=>∃ (u0:Nat),∃ (u3:LL),t_=(u0,u3)∧S_=⟨Ao [(0,tS a0),(5,oS 0 1 u3.length),(12,an a1.toNat),(13,an u0)],Aj (Ap [(oi 0 1,.mat 23 (oi 1 1) .int u3),(oi 1 1,.pool 3 .int u3)]),2⟩) ⟨_,(A8 5 (oS 160 3 a1.toNat) (oS 160 3 ((List.replicate a1.toNat ([]:List Int)).length)) (by kernel_rfl) (congrArg (fun z_=>((oS 160 3 z_):AV)) (List.length_replicate.symm:a1.toNat=(List.replicate a1.toNat ([]:List Int)).length))).trans (Ac [(oi 0 1,oi 160 3),(oi 1 1,oi 160 3)]),⟨0,List.replicate a1.toNat ([]:List Int),rfl,rfl⟩⟩ ?_;rintro n_ _ _ c_ ⟨u0,u3,rfl,rfl⟩ h hn7
  (try dsimp only at h);unfold Hq at h;unfold Ss;refine Al ?_;refine Ab ?_;rcases Af h with ⟨q10,h⟩ | ⟨q10,h⟩
  ·have q10_:=of_decide_eq_true q10;refine Ah q10 ?_;refine Ai (tn_ ?_);refine wr_ ?_;refine Ar h (fun (u4:LL) S_=>S_=⟨Ao [(0,tS a0),(5,oS 0 1 u4.length),(12,an a1.toNat),(13,an u0)],Aj (Ap [(oi 0 1,.mat 23 (oi 1 1) .int u4),(oi 1 1,.pool 3 .int u4)]),2⟩) ?_ ?_
   ·intro v_ h;refine Ae ?_;refine Al ?_;refine Al ?_;refine Ae ?_;refine Av h (fun t_ S_=>∃ (u5:Nat),∃ (u1:LL),t_=(u5,u1)∧S_=⟨Ao [(0,tS a0),(5,oS 0 1 u1.length),(6,an u0),(12,an a1.toNat),(13,an u0),(16,tS a0),(17,an a0.length),(18,an u5)],Aj (Ap [(oi 0 1,.mat 23 (oi 1 1) .int u1),(oi 1 1,.pool 3 .int u1)]),2⟩) ⟨_,Ac [],⟨0,u3,rfl,rfl⟩⟩ ?_;rintro n_ _ _ c_ ⟨u5,u1,rfl,rfl⟩ h hn14
    (try dsimp only at h);unfold Hk at h;unfold Td;refine Al ?_;refine Ab ?_;rcases Af h with ⟨q17,h⟩ | ⟨q17,h⟩
    ·have q17_:=of_decide_eq_true q17;refine Ah q17 ?_;refine Ai (tn_ ?_);refine wr_ ?_;refine Ab ?_;refine Ae ?_;refine Ab ?_;obtain ⟨x20,e20,h⟩:=Ad h;refine Aa 6 ?_;refine zI sI e20 ?_;refine rsB 2 ?_;refine Aq (tn_ ?_);refine wr_ ?_;obtain ⟨x21,e21,h⟩:=Ad h;obtain ⟨x22,e22,h⟩:=Ad h;obtain ⟨g23,h⟩:=Am h;refine Ax 20 ?_;refine dz0 (oS 0 1 u1.length) ?_;refine dz0 (an u0) ?_;refine dz0 (oS 0 1 u1.length) ?_;refine dz0 (an u0) ?_;refine dzO (oi 0 1) sI u1.length (As e21) ?_;refine dsl (.own (kid (oi 1 1) u0) .int 0 x21.length) (Gu (o:=oi 0 1) (p:=oi 1 1) (e1:=23) (u:=.int) (xss:=u1) (row:=x21) (j:=u0) (by kernel_rfl) (by kernel_rfl) e21) ?_;refine dz0 (tI x20) ?_;refine dz0 (an u0) ?_;refine dzI .int e22 ?_;refine dz0 (ai x22) ?_;refine ds1 (oI 32 16 1) (oi 32 16) (.arr 3 .int ([x22])) (by kernel_rfl) ?_;refine ds2 (.own (kid (oi 1 17) u0) .int 0 ((x21++([x22])).length)) (kid (oi 1 1) u0) (kid (oi 1 17) u0) (.arr 3 .int (x21++([x22]))) (I9 (t:=.int) (t':=.int) (xs:=x21) (ys:=[x22]) (zs:=x21++([x22])) (j:=kid (oi 1 1) u0) (len:=x21.length) (c:=oI 32 16 1) (by kernel_rfl) ((O2 (L:=[kid (oi 1 1) u0,oi 32 16]) List.mem_cons_self).trans (Bw (by kernel_rfl) e21)) rfl (by kernel_rfl) (Ma (e:=3) (by kernel_rfl) rfl) rfl g23) ?_;refine dzO (oi 0 1) sI u1.length (As e21) ?_;refine K7 (oi 0 1) (oi 0 1) (.vec 23 1 u1.length ((hdL (oi 1 1) .int u1).set u0 (.own (kid (oi 1 17) u0) .int 0 ((x21++([x22])).length)))) (Ae5 (o:=oi 0 1) (e1:=23) (m:=u1.length) (cs:=hdL (oi 1 1) .int u1) (v:=.own (kid (oi 1 17) u0) .int 0 ((x21++([x22])).length)) (j:=u0) (by kernel_rfl) (by kernel_rfl) (by kernel_rfl) rfl (by rw [Df]; exact As e21)) ?_;refine F5 (Bc (by kernel_rfl)) (bn_ (tn_ ?_));refine ⟨_,Ahs (e1:=23) (e:=3) (u:=.int) (n:=u1.length) (len:=(x21++([x22])).length) (row:=x21++([x22])) (ys:=x21++([x22])) (xss:=u1) (j:=u0) 9000 (oi 0 1) (oi 1 1) (kid (oi 1 17) u0) (by kernel_rfl) (by kernel_rfl) rfl (by kernel_rfl) (by repeat first | exact Ao2 | refine entAt_sk rfl ?_) (H2 rfl) (H1 rfl) (by kernel_rfl) (by kernel_rfl) (by kernel_rfl),?_⟩;obtain ⟨g24,h⟩:=Am h;refine Aa 23 ?_;refine zA g24 ?_;refine rsB 1 ?_;refine Aq (tn_ ?_);obtain rfl:=zj h;exact ⟨(u5+1,u1.set u0 (x21++([x22]))),_,(A8 5 (oS 0 1 u1.length) (oS 0 1 ((u1.set u0 (x21++([x22]))).length)) (by kernel_rfl) (congrArg (fun z_=>((oS 0 1 z_):AV)) ((Eq.trans (b:=u1.length) rfl List.length_set.symm):u1.length=(u1.set u0 (x21++([x22]))).length))).trans (Ac [(oi 1 1,oi 9000 20)]),⟨u5+1,u1.set u0 (x21++([x22])),rfl,rfl⟩,hn14⟩
    have q17_:=of_decide_eq_false q17;refine Ag q17 ?_;refine Au (te_ (te_ (be_ (bn_ (tn_ ?_)))));obtain rfl:=zj h;have h:=hn14
    (try dsimp only at h);obtain rfl:=zj h;exact ⟨_,Ac [],rfl⟩
   rintro u4 _ rfl h
   (try dsimp only at h);obtain ⟨g25,h⟩:=Am h;refine Aa 4 ?_;refine zA g25 ?_;refine rsB 1 ?_;refine Aq (tn_ ?_);obtain rfl:=zj h;exact ⟨(u0+1,u4),_,Ac [],⟨u0+1,u4,rfl,rfl⟩,hn7⟩
  have q10_:=of_decide_eq_false q10;refine Ag q10 ?_;refine Au (te_ (te_ (be_ (tn_ ?_))));obtain rfl:=zj h;have h:=hn7
  (try dsimp only at h);obtain rfl:=zj h;exact ⟨_,Ac [],rfl⟩
 rintro u2 _ rfl h
 (try dsimp only at h);refine Al ?_;refine An ?_;obtain rfl:=zj h;exact Oi [oS 0 1 u2.length] (Ac (tl:=[(4,oS 0 1 u2.length)]) (g:=2) [])
def Ya:AC :=
 (.seq (rg [xo 4 (qm (.cst .nils))])
 (.seq (rg [xo 5 (.mkV 23 sI 1 []),xm 6 0,xo 7 (.appV 23 sI 24 (tm 5) (tm 6)),xm 8 1,xo 9 (.appV 23 sI 24 (tm 7) (tm 8)),xm 4 9])
 .ret))
def Ai1:List Res:=[.tmp 4]
theorem Ajp:At Tryd.prog Tryd.f73=some (Ya,Ai1):=by kernel_rfl
theorem Afs:Be Tryd.prog 73=true:=by kernel_rfl
def Kj (a0 a1:LL):Option (LL) :=
 og (0+a0.length<=1073741824∧(0+a0.length)*24<=140737488355328) <|
og (0+a0.length+a1.length<=1073741824∧(0+a0.length+a1.length)*24<=140737488355328) <|
some ((([]:List (List Int))++a0)++a1)
def Agf (r:LL):RV:=⟨false,[(false,[.imm (tS r)])]⟩
theorem Ae7 {a0 a1 r:LL} (h:Kj a0 a1=some r):A0 Tryd.prog Tab 73 [tS a0,tS a1] (Agf r):=by
 refine Axi (by kernel_rfl) Tryd.func73 Ajp (fun nz_=>[.ftr nz_ sI a0,.ftr nz_ sI a1]) (n:=10) (by kernel_rfl) (fun _=>by simp) (fun _=>⟨_,_,rfl,rfl,⟨_,_,rfl,rfl,rfl⟩⟩) (tl:=fun nz_=>[(0,.ftr nz_ sI a0),(1,.ftr nz_ sI a1)]) (fun _=>rfl) fun zn_ nz_ hz_=>?_
 unfold Ya;unfold Kj at h;refine Al ?_;refine Ab ?_;obtain ⟨g3,h⟩:=Am h;obtain ⟨g4,h⟩:=Am h;refine Aa 8 ?_;refine Zs (oS 5 2 0) (oi 5 2) (.vec 23 1 0 (tvC (some nz_) sI ([]:List (List Int)))) trivial (G1 (by kernel_rfl)) ?_;refine rsB 1 ?_;refine rs2 (oS 5 4 (0+a0.length)) (oi 5 2) (oi 5 4) (.vec 23 1 (0+a0.length) (tvC (some nz_) sI (([]:List (List Int))++a0))) (Ant (o:=oi 5 2) (t:=sI) (t':=sI) (len:=0) (N:=0) (m:=some nz_) (xs:=([]:List (List Int))) (ys:=a0) (by kernel_rfl) (by kernel_rfl) rfl rfl (Ary (by kernel_rfl)) g3) ?_;refine rsB 1 ?_;refine rs2 (oS 5 6 (0+a0.length+a1.length)) (oi 5 4) (oi 5 6) (.vec 23 1 (0+a0.length+a1.length) (tvC (some nz_) sI ((([]:List (List Int))++a0)++a1))) (Ant (o:=oi 5 4) (t:=sI) (t':=sI) (len:=0+a0.length) (N:=0+a0.length) (m:=some nz_) (xs:=([]:List (List Int))++a0) (ys:=a1) (by kernel_rfl) (by kernel_rfl) (by simp) (by simp) (Ary (by kernel_rfl)) g4) ?_;refine rsB 1 ?_;refine Aq (tn_ ?_);refine ⟨_,Afx (N:=0+a0.length+a1.length) (oi 5 6) 23 (some nz_) sI ((([]:List (List Int))++a0)++a1) (by kernel_rfl) (by simp),?_⟩;refine An ?_;obtain rfl:=zj h;exact Kk [(false,[oS 5 6 (0+a0.length+a1.length)])] (K9 (Bp (.tv (e:=23) (by kernel_rfl) (by simp))) Gz)
def Q8:AC :=
 (.block 1 (.seq (.region [xm 13 0,xf 14 0 3,xl 15 14,xm 16 5,xm 17 0,xf 18 0 3,xl 19 18,xm 20 5,xf 21 3 3,xl 22 21,xo 23 (qc 43 [tm 17,tm 19,tm 20,tm 22] [[],[],[some sI],[some sI]]),xo 24 (qc 73 [tm 16,tm 23] [[some sI],[some sI]]),xo 25 (qc 72 [tm 13,tm 15,tm 24] [[],[],[some sI]]),xm 6 25] true [(2,10),(2,11)])
 (.seq (.seq (rg [xm 26 6,xn1 27 26,xm 28 5,xn1 29 28,xo 30 (qb .eql (tm 27) (tm 29))])
 (.cond (tm 30)
  (.seq (rg [xm 31 5,xm 4 31])
  .ret)
  .skip))
 (rg [xm 32 6,xm 5 32]))))
def We:AC :=
 (.seq (rg [xo 3 (.i (.box 39 (tm 1))),xo 4 (qm (.cst .nils))])
 (.seq (rg [xm 7 0,xf 8 0 3,xl 9 8,xf 10 4 3,xl 11 10,xo 12 (qc 72 [tm 7,tm 9,tm 11] [[],[],[some sI]]),xm 5 12])
 (.block 0 (.loop Q8))))
def Agg:List Res:=[.tmp 4]
theorem Afi:At Tryd.prog Tryd.f41=some (We,Agg):=by kernel_rfl
theorem Adh:Be Tryd.prog 41=true:=by kernel_rfl
def I0 (a0 u1:Int) (u2 u0:LL):Option (Ctl (LL) (LL)) :=
 Option.bind (Fs a0 u1 u0 u2) fun y6 =>
Option.bind (Kj u0 y6) fun y7 =>
Option.bind (Dn a0 u1 y7) fun y8 =>
cond ((y8.length:Int)==(u0.length:Int))
 (some (Ctl.out u0))
 (some (Ctl.next y8))
def Hl (a0 u0:Int) (u3 u4:Int) (u1 u2:LL) (u5 u6:LL):Option (LL) :=
 Option.bind (Dn a0 u0 u2) fun y3 =>
Aw (fun s_:LL=>I0 a0 u0 u1 s_) 4611686018427387904 y3
def Adn (r:LL):RV:=⟨false,[(false,[.frz (tS r)])]⟩
theorem U9 {a0 u0:Int} {u4 u5:Int} {u2 u3:LL} {u6 u7 r:LL} (h:Hl a0 u0 u4 u5 u2 u3 u6 u7=some r):A0 Tryd.prog Tab 41 [ai a0,.agg [ai u0,ai u4,ai u5,tS u2,tS u3,tS u6,tS u7]] (Adn r):=by
 refine Ej (by kernel_rfl) Tryd.func41 Afi (n:=33) (by kernel_rfl) (by simp) (tl:=[(0,ai a0),(1,.agg [ai u0,ai u4,ai u5,tS u2,tS u3,tS u6,tS u7])]) rfl fun zn_ nz_ hz_=>?_
 unfold We;unfold Hl at h;refine Al ?_;refine Ab ?_;obtain ⟨y3,h3,h⟩:=Ad h;refine Aa 10 ?_;refine rsB 5 ?_;refine Ic (oS 192 8 y3.length) [(oi 192 8,some (.mat 23 (oi 193 8) .int y3)),(oi 193 8,some (.pool 3 .int y3))] [] [ai a0,ai u0,tS u3] (caps:=[]) trivial (L7 (Ju h3)) J0 trivial (.cons (.ren (by kernel_rfl)) (.cons (.ren (by kernel_rfl)) (.cons (.ren (by kernel_rfl)) .nil))) (Bj (by kernel_rfl) (by kernel_rfl) trivial) ?_;refine rsB 1 ?_;refine Aq (tn_ ?_);refine ⟨_,Ze hz_ (e1:=23) (e:=3) (u:=.int) (xss:=y3) (len:=y3.length) 5 (oi 192 8) (oi 193 8) (by kernel_rfl) (by kernel_rfl) (by kernel_rfl) rfl,?_⟩;refine Ae ?_;refine Av h (fun (u1:LL) S_=>S_=⟨Ao [(0,ai a0),(3,.box (oi 0 1) 0),(5,.ftr nz_ sI u1)],Aj (Ap [(oi 0 1,.cells 39 [ai u0,ai u4,ai u5,tS u2,tS u3,tS u6,tS u7])]),2⟩) ⟨_,Ac [(oi 0 1,oi 3 1)],rfl⟩ ?_;rintro n_ u1 _ c_ rfl h hn4
 (try dsimp only at h);unfold I0 at h;unfold Q8;refine Ae ?_;refine Ab ?_;obtain ⟨y6,h6,h⟩:=Ad h;obtain ⟨y7,h7,h⟩:=Ad h;obtain ⟨y8,h8,h⟩:=Ad h;refine Ax 16 ?_;refine dz0 (ai a0) ?_;refine dz0 (.box (oi 0 1) 0) ?_;refine dzl (ai u0) ?_;refine dz0 (.ftr nz_ sI u1) ?_;refine dz0 (ai a0) ?_;refine dz0 (.box (oi 0 1) 0) ?_;refine dzl (ai u0) ?_;refine dz0 (.ftr nz_ sI u1) ?_;refine dz0 (.box (oi 0 1) 3) ?_;refine dzl (tS u2) ?_;refine Lg (.ftr nz_ sI y6) [] [ai a0,ai u0,.ftr nz_ sI u1,tS u2] _ (caps:=[]) (args0:=[ai a0,ai u0,tS u1,tS u2]) trivial (by kernel_rfl) (Ld hz_ (Od h6)) N5 ?_;refine A1v (.ftr nz_ sI y7) [] [.ftr nz_ sI u1,.ftr nz_ sI y6] [.ftr nz_ sI u1,.ftr nz_ sI y6] (caps:=[]) trivial (A12 (args:=[tS u1,tS y6]) hz_ ⟨_,_,rfl,rfl,⟨_,_,rfl,rfl,rfl⟩⟩ (Ae7 h7)) Afs ?_;refine N6 (oS 400 14 y8.length) [(oi 400 14,some (.mat 23 (oi 401 14) .int y8)),(oi 401 14,some (.pool 3 .int y8))] [] [ai a0,ai u0,.ftr nz_ sI y7] (caps:=[]) trivial (L7 (Ju h8)) J0 trivial (.cons (.ren (by kernel_rfl)) (.cons (.ren (by kernel_rfl)) (.cons (.gnd (by kernel_rfl) (by kernel_rfl)) .nil))) (Bj (by kernel_rfl) (by kernel_rfl) trivial) (Pp (by kernel_rfl)) ?_;refine dz0 (oS 400 14 y8.length) ?_;refine F5 (Bc (by kernel_rfl)) (tn_ ?_);refine ⟨_,Ze hz_ (e1:=23) (e:=3) (u:=.int) (xss:=y8) (len:=y8.length) 6 (oi 400 14) (oi 401 14) (by kernel_rfl) (by kernel_rfl) (by kernel_rfl) rfl,?_⟩;refine Ab ?_;refine Al ?_;rcases Af h with ⟨q11,h⟩ | ⟨q11,h⟩
 ·refine Ah q11 ?_;refine Al ?_;refine An (tr_ (br_ (tr_ (br_ ?_))));obtain rfl:=zj h;have h:=hn4
  (try dsimp only at h);obtain rfl:=zj h;exact Kk [(false,[.ftr nz_ sI u1])] (K9 (Bp .ftr) Gz)
 refine Ag q11 ?_;refine Ai (tn_ ?_);refine wr_ ?_;refine Aa 23 ?_;refine rsB 2 ?_;refine Aq (bn_ (tn_ ?_));obtain rfl:=zj h;exact ⟨y8,_,Ac [],rfl,hn4⟩
def P8:AC :=
 (.seq (rg [xs1 26 25 24])
 (.seq (.cond (tm 26)
  .skip
  (.exit 0))
 (.seq (.block 1 (.seq (rg [xm 27 25,xm 6 27])
 (.seq (rg [xf 28 4 5,xl 29 28,xm 30 6,xx 31 1 29 30,xl 32 31,xn1 33 32,xo 34 (qb .eql (tm 33) (ci 0))])
 (.cond (tm 34)
  (.region [xf 35 4 5,xl 36 35,xm 37 6,xf 38 0 3,xl 39 38,xo 40 (.make 3 .int 8 (tm 39) (tm 39)),xx 41 1 36 37,xn (qs (tm 41) (tm 40))] true [])
  .skip))))
 (rg [xa 42 25,xm 25 42]))))
def U4:AC :=
 (.seq (rg [xo 3 (.i (.box 39 (tm 1))),xo 4 (qm (.cst .nils))])
 (.seq (.region [xf 7 0 3,xl 8 7,xf 9 2 3,xl 10 9,xf 11 3 3,xl 12 11,xf 13 0 3,xl 14 13,xo 15 (qc 45 [tm 12,tm 14] [[some sI],[]]),xf 16 5 3,xl 17 16,xf 18 2 3,xl 19 18,xo 20 (qc 45 [tm 17,tm 19] [[some sI],[]]),xo 21 (.build [.int .i64 0,.int .i64 0,.int .i64 0,.nils,.nils,.nils,.nils] [(0,1,tm 8),(1,1,tm 10),(3,1,tm 15),(4,1,tm 20)]),xo 5 (.i (.alloc 39 [.int .i64 0,.int .i64 0,.int .i64 0,.nils,.nils,.nils,.nils])),xn (.st false 7 (tm 5) (tm 21))] true [(1,8),(3,8),(8,10),(8,12),(1,13),(3,13),(8,15),(13,15)])
 (.seq (.seq (rg [xf 22 4 5,xl 23 22,xn1 24 23,xo 25 (qm (ci 0))])
 (.block 0 (.loop P8)))
 (.seq (.region [xm 43 0,xf 44 0 3,xl 45 44,xm 46 0,xo 47 (.i (.ld false 7 (tm 5))),xo 48 (qc 41 [tm 46,tm 47] [[],[none,none,none,some sI,some sI,some sI,some sI]]),xo 49 (qc 46 [tm 43,tm 45,tm 48] [[],[],[some sI]]),xm 4 49] true [(2,5)])
 .ret))))
def Adf:List Res:=[.tmp 4]
theorem Adr:At Tryd.prog Tryd.f23=some (U4,Adf):=by kernel_rfl
theorem Aby:Be Tryd.prog 23=true:=by kernel_rfl
def F2 (y4:LL) (u0:Int) (u1:Nat) (u2:LL):Option (Ctl (Nat×LL) (LL)) :=
 cond (decide ((u1:Int)<(y4.length:Int)))
 (Option.bind (Option.bind (u2[u1]?) fun x14 =>
  cond ((x14.length:Int)==0)
   (og (0<=u0∧u0<=u0∧u0<=1073741824∧(8:Int)*u0<=140737488355328) <|
   some (u2.set u1 (List.replicate u0.toNat (0:Int))))
   (some u2)) fun u3 =>
 og (u1+1<4611686018427387904) <|
 some (Ctl.next (u1+1,u3)))
 (some (Ctl.out u2))
def Il (a0 u0:Int) (u5 u1:Int) (u2 u6:LL) (u3 u7:LL):Option (LL) :=
 Option.bind (Ip u2 u0) fun y3 =>
Option.bind (Ip u3 u1) fun y4 =>
Option.bind (Aw (fun s_:Nat×LL=>F2 y4 u0 s_.1 s_.2) 4611686018427387904 (0,y4)) fun u4 =>
Option.bind (Hl a0 u0 u1 0 y3 u4 ([]) ([])) fun y19 =>
Option.bind (Kv a0 u0 y19) fun y20 =>
some y20
def Abh (r:LL):RV:=⟨false,[(false,[.frz (tS r)])]⟩
theorem Ab0 {a0 u0:Int} {u7 u1:Int} {u5 u8:LL} {u6 u9 r:LL} (h:Il a0 u0 u7 u1 u5 u8 u6 u9=some r):A0 Tryd.prog Tab 23 [ai a0,.agg [ai u0,ai u7,ai u1,tS u5,tS u8,tS u6,tS u9]] (Abh r):=by
 refine Ej (by kernel_rfl) Tryd.func23 Adr (n:=50) (by kernel_rfl) (by simp) (tl:=[(0,ai a0),(1,.agg [ai u0,ai u7,ai u1,tS u5,tS u8,tS u6,tS u9])]) rfl fun zn_ nz_ hz_=>?_
 unfold U4;unfold Il at h;refine Al ?_;refine Ab ?_;obtain ⟨y3,h3,h⟩:=Ad h;obtain ⟨y4,h4,h⟩:=Ad h;refine Ax 20 ?_;refine dz0 (.box (oi 3 1) 0) ?_;refine dzl (ai u0) ?_;refine dz0 (.box (oi 3 1) 2) ?_;refine dzl (ai u1) ?_;refine dz0 (.box (oi 3 1) 3) ?_;refine dzl (tS u5) ?_;refine dz0 (.box (oi 3 1) 0) ?_;refine dzl (ai u0) ?_;refine N6 (oS 240 11 y3.length) [(oi 240 11,some (.mat 23 (oi 241 11) .int y3)),(oi 241 11,some (.pool 3 .int y3))] [] [tS u5,ai u0] (caps:=[]) trivial (L7 (Wx h3)) Vz trivial (.cons (.ren (by kernel_rfl)) (.cons (.ren (by kernel_rfl)) .nil)) (Bj (by kernel_rfl) (by kernel_rfl) trivial) (Pp (by kernel_rfl)) ?_;refine dz0 (.box (oi 3 1) 5) ?_;refine dzl (tS u6) ?_;refine dz0 (.box (oi 3 1) 2) ?_;refine dzl (ai u1) ?_;refine N6 (oS 320 16 y4.length) [(oi 320 16,some (.mat 23 (oi 321 16) .int y4)),(oi 321 16,some (.pool 3 .int y4))] [] [tS u6,ai u1] (caps:=[]) trivial (L7 (Wx h4)) Vz trivial (.cons (.ren (by kernel_rfl)) (.cons (.ren (by kernel_rfl)) .nil)) (Bj (by kernel_rfl) (by kernel_rfl) trivial) (Pp (by kernel_rfl)) ?_;refine dz0 (.agg [ai u0,ai u1,ai 0,oS 240 11 y3.length,oS 320 16 y4.length,.nils,.nils]) ?_;refine ds1 (.box (oi 5 18) 0) (oi 5 18) (.cells 39 [ai 0,ai 0,ai 0,.nils,.nils,.nils,.nils]) (by kernel_rfl) ?_;refine K7 (oi 5 18) (oi 5 18) (.cells 39 [ai u0,ai u1,ai 0,oS 240 11 y3.length,oS 320 16 y4.length,.nils,.nils]) (by kernel_rfl) ?_;refine F5 ⟨Uj (by kernel_rfl),⟨Uj (by kernel_rfl),⟨Ru (by kernel_rfl),⟨Ru (by kernel_rfl),⟨Uj (by kernel_rfl),⟨Uj (by kernel_rfl),⟨Ru (by kernel_rfl),⟨Ru (by kernel_rfl),trivial⟩⟩⟩⟩⟩⟩⟩⟩ (tn_ ?_);refine wr_ ?_;refine Ar h (fun (u3:LL) S_=>S_=⟨Ao [(0,ai a0),(3,.box (oi 0 1) 0),(5,.box (oi 1 1) 0)],Aj (Ap [(oi 0 1,.cells 39 [ai u0,ai u7,ai u1,tS u5,tS u8,tS u6,tS u9]),(oi 1 1,.cells 39 [ai u0,ai u1,ai 0,oS 2 1 y3.length,oS 4 1 u3.length,.nils,.nils]),(oi 2 1,.mat 23 (oi 3 1) .int y3),(oi 3 1,.pool 3 .int y3),(oi 4 1,.mat 23 (oi 5 1) .int u3),(oi 5 1,.pool 3 .int u3)]),2⟩) ?_ ?_
 ·intro v_ h;refine Al ?_;refine Ae ?_;refine Av h (fun t_ S_=>∃ (u4:Nat),∃ (u2:LL),t_=(u4,u2)∧S_=⟨Ao [(0,ai a0),(3,.box (oi 0 1) 0),(5,.box (oi 1 1) 0),(24,an y4.length),(25,an u4)],Aj (Ap [(oi 0 1,.cells 39 [ai u0,ai u7,ai u1,tS u5,tS u8,tS u6,tS u9]),(oi 1 1,.cells 39 [ai u0,ai u1,ai 0,oS 2 1 y3.length,oS 4 1 u2.length,.nils,.nils]),(oi 2 1,.mat 23 (oi 3 1) .int y3),(oi 3 1,.pool 3 .int y3),(oi 4 1,.mat 23 (oi 5 1) .int u2),(oi 5 1,.pool 3 .int u2)]),2⟩) ⟨_,Ac [(oi 0 1,oi 3 1),(oi 1 1,oi 5 18),(oi 2 1,oi 240 11),(oi 3 1,oi 241 11),(oi 4 1,oi 320 16),(oi 5 1,oi 321 16)],⟨0,y4,rfl,rfl⟩⟩ ?_;rintro n_ _ _ c_ ⟨u4,u2,rfl,rfl⟩ h hn7
  (try dsimp only at h);unfold F2 at h;unfold P8;refine Al ?_;refine Ab ?_;rcases Af h with ⟨q10,h⟩ | ⟨q10,h⟩
  ·have q10_:=of_decide_eq_true q10;refine Ah q10 ?_;refine Ai (tn_ ?_);refine wr_ ?_;refine Ar h (fun (ua:LL) S_=>S_=⟨Ao [(0,ai a0),(3,.box (oi 0 1) 0),(5,.box (oi 1 1) 0),(24,an y4.length),(25,an u4)],Aj (Ap [(oi 0 1,.cells 39 [ai u0,ai u7,ai u1,tS u5,tS u8,tS u6,tS u9]),(oi 1 1,.cells 39 [ai u0,ai u1,ai 0,oS 2 1 y3.length,oS 4 1 ua.length,.nils,.nils]),(oi 2 1,.mat 23 (oi 3 1) .int y3),(oi 3 1,.pool 3 .int y3),(oi 4 1,.mat 23 (oi 5 1) .int ua),(oi 5 1,.pool 3 .int ua)]),2⟩) ?_ ?_
   ·intro v_ h;refine Ae ?_;refine Al ?_;refine Ab ?_;obtain ⟨x14,e14,h⟩:=Ad h;refine Aa 12 ?_;refine rsB 3 ?_;refine zO (oi 4 1) sI u2.length (As e14) ?_;refine rsl (.own (kid (oi 5 1) u4) .int 0 x14.length) (Gu (o:=oi 4 1) (p:=oi 5 1) (e1:=23) (u:=.int) (xss:=u2) (row:=x14) (j:=u4) (by kernel_rfl) (by kernel_rfl) e14) ?_;refine rsB 2 ?_;refine Aq (tn_ ?_);refine wr_ ?_;rcases Af h with ⟨q15,h⟩ | ⟨q15,h⟩
    ·refine Ah q15 ?_;obtain ⟨g16,h⟩:=Am h;refine Ax 20 ?_;refine dz0 (.box (oi 1 1) 4) ?_;refine dzl (oS 4 1 u2.length) ?_;refine dz0 (an u4) ?_;refine dz0 (.box (oi 0 1) 0) ?_;refine dzl (ai u0) ?_;refine ds1 (oI 40 17 u0.toNat) (oi 40 17) (.arr 3 .int (List.replicate u0.toNat (0:Int))) (Lu (t:=.int) (k:=.i64) (k':=.i64) (m:=u0) (m':=u0) (by kernel_rfl) (by kernel_rfl) g16 rfl) ?_;refine dzO (oi 4 1) sI u2.length (As e14) ?_;refine K7 (oi 4 1) (oi 4 1) (.vec 23 1 u2.length ((hdL (oi 5 1) .int u2).set u4 (oI 40 17 u0.toNat))) (Ae5 (o:=oi 4 1) (e1:=23) (m:=u2.length) (cs:=hdL (oi 5 1) .int u2) (v:=oI 40 17 u0.toNat) (j:=u4) (by kernel_rfl) (by kernel_rfl) (by kernel_rfl) rfl (by rw [Df]; exact As e14)) ?_;refine F5 (Bc (by kernel_rfl)) (bn_ (tn_ ?_));obtain rfl:=zj h;exact ⟨_,(Atq (e1:=23) (e:=3) (u:=.int) (n:=u2.length) (len:=u0.toNat) (row:=List.replicate u0.toNat (0:Int)) (ys:=List.replicate u0.toNat (0:Int)) (xss:=u2) (j:=u4) 9000 (oi 4 1) (oi 5 1) (oi 40 17) (by kernel_rfl) (by kernel_rfl) rfl (by kernel_rfl) (by kernel_rfl) (H2 List.length_replicate.symm) (H1 List.length_replicate.symm) (by kernel_rfl) (by kernel_rfl) (by kernel_rfl)).trans ((C7 (oi 1 1) (.cells 39 [ai u0,ai u1,ai 0,oS 2 1 y3.length,oS 4 1 u2.length,.nils,.nils]) (.cells 39 [ai u0,ai u1,ai 0,oS 2 1 y3.length,oS 4 1 ((u2.set u4 (List.replicate u0.toNat (0:Int))).length),.nils,.nils]) (by kernel_rfl) (congrArg (fun z_=>(.cells 39 [ai u0,ai u1,ai 0,oS 2 1 y3.length,oS 4 1 z_,.nils,.nils]:Ob)) ((Eq.trans (b:=u2.length) rfl List.length_set.symm):u2.length=(u2.set u4 (List.replicate u0.toNat (0:Int))).length))).trans (Ac [(oi 5 1,oi 9000 20)])),rfl⟩
    refine Ag q15 ?_;refine Ai (bn_ (tn_ ?_));obtain rfl:=zj h;exact ⟨_,Ac [],rfl⟩
   rintro ua _ rfl h
   (try dsimp only at h);obtain ⟨g17,h⟩:=Am h;refine Aa 4 ?_;refine zA g17 ?_;refine rsB 1 ?_;refine Aq (tn_ ?_);obtain rfl:=zj h;exact ⟨(u4+1,ua),_,Ac [],⟨u4+1,ua,rfl,rfl⟩,hn7⟩
  have q10_:=of_decide_eq_false q10;refine Ag q10 ?_;refine Au (te_ (te_ (be_ (tn_ ?_))));obtain rfl:=zj h;have h:=hn7
  (try dsimp only at h);obtain rfl:=zj h;exact ⟨_,Ac [],rfl⟩
 rintro u3 _ rfl h
 (try dsimp only at h);refine Ab ?_;obtain ⟨y19,h19,h⟩:=Ad h;obtain ⟨y20,h20,h⟩:=Ad h;refine Ax 10 ?_;refine dz0 (ai a0) ?_;refine dz0 (.box (oi 0 1) 0) ?_;refine dzl (ai u0) ?_;refine dz0 (ai a0) ?_;refine dzl (.agg [ai u0,ai u1,ai 0,oS 2 1 y3.length,oS 4 1 u3.length,.nils,.nils]) ?_;refine Lg (.ftr nz_ sI y19) [] [ai a0,.agg [ai u0,ai u1,ai 0,oS 2 1 y3.length,oS 4 1 u3.length,.nils,.nils]] _ (caps:=[]) (args0:=[ai a0,.agg [ai u0,ai u1,ai 0,tS y3,tS u3,.nils,.nils]]) trivial (Ay (by kernel_rfl) (Ay (Aie (Ay (by kernel_rfl) (Ay (by kernel_rfl) (Ay (by kernel_rfl) (Ay (Wd (p:=oi 3 1) (e1:=23) (e:=3) (u:=.int) (xss:=y3) ((O2 (Atm [ai u0,ai u1,ai 0,oS 2 1 y3.length,oS 4 1 u3.length,.nils,.nils] (t:=sI) (off:=0) (len:=y3.length) 1 3 rfl (by kernel_rfl) rfl)).trans (by kernel_rfl)) (Agn [ai u0,ai u1,ai 0,oS 2 1 y3.length,oS 4 1 u3.length,.nils,.nils] (t:=sI) (off:=0) (len:=y3.length) (i:=oi 2 1) (e1:=23) (z:=1) (m:=y3.length) 1 3 rfl (by kernel_rfl) rfl (by kernel_rfl) (Bn (by kernel_rfl))) rfl) (Ay (Wd (p:=oi 5 1) (e1:=23) (e:=3) (u:=.int) (xss:=u3) ((O2 (Atm [ai u0,ai u1,ai 0,oS 2 1 y3.length,oS 4 1 u3.length,.nils,.nils] (t:=sI) (off:=0) (len:=u3.length) 1 4 rfl (by kernel_rfl) rfl)).trans (by kernel_rfl)) (Agn [ai u0,ai u1,ai 0,oS 2 1 y3.length,oS 4 1 u3.length,.nils,.nils] (t:=sI) (off:=0) (len:=u3.length) (i:=oi 4 1) (e1:=23) (z:=1) (m:=u3.length) 1 4 rfl (by kernel_rfl) rfl (by kernel_rfl) (Bn (by kernel_rfl))) rfl) (Ay (by kernel_rfl) (Ay (by kernel_rfl) B9)))))))) B9)) (Ld hz_ (U9 h19)) Adh ?_;refine N6 (oS 784 8 y20.length) [(oi 784 8,some (.mat 23 (oi 785 8) .int y20)),(oi 785 8,some (.pool 3 .int y20))] [] [ai a0,ai u0,.ftr nz_ sI y19] (caps:=[]) trivial (L7 (Agj h20)) Afk trivial (.cons (.ren (by kernel_rfl)) (.cons (.ren (by kernel_rfl)) (.cons (.gnd (by kernel_rfl) (by kernel_rfl)) .nil))) (Bj (by kernel_rfl) (by kernel_rfl) trivial) (Pp (by kernel_rfl)) ?_;refine dz0 (oS 784 8 y20.length) ?_;refine F5 (Bc (by kernel_rfl)) (tn_ ?_);refine wr_ ?_;refine An ?_;obtain rfl:=zj h;exact Kk [(false,[oS 784 8 y20.length])] (K9 (Bp (.mat (p:=oi 785 8) (e1:=23) (e:=3) (by kernel_rfl) (Bn (by kernel_rfl)) rfl)) Gz)
def Hm:AC :=
 (.seq (rg [xs1 15 14 13])
 (.seq (.cond (tm 15)
  .skip
  (.exit 0))
 (.seq (.block 1 (.region [xm 16 1,xm 17 5,xo 18 (qc 59 [tm 17] [[some sI]]),xm 19 1,xm 20 5,xf 21 3 2,xl 22 21,xf 23 0 2,xl 24 23,xo 25 (qc 61 [tm 19,tm 20,tm 22,tm 24] [[],[some sI],[some sI],[]]),xo 26 (.appV 23 sI 24 (tm 18) (tm 25)),xf 27 0 2,xl 28 27,xo 29 (qc 85 [tm 16,tm 26,tm 28] [[],[some sI],[]]),xm 5 29] true [(2,6),(2,8),(2,12),(9,12),(10,12)]))
 (rg [xa 30 14,xm 14 30]))))
def Iv:AC :=
 (.seq (rg [xo 2 (.i (.box 39 (tm 0))),xo 4 (qm (.cst .nils))])
 (.seq (rg [xm 6 1,xf 7 4 2,xl 8 7,xf 9 0 2,xl 10 9,xo 11 (qc 85 [tm 6,tm 8,tm 10] [[],[some sI],[]]),xm 5 11])
 (.seq (.seq (rg [xf 12 0 2,xl 13 12,xo 14 (qm (ci 0))])
 (.block 0 (.loop Hm)))
 (.seq (rg [xm 31 5,xm 4 31])
 .ret))))
def O7:List Res:=[.tmp 4]
theorem Ow:At Tryd.prog Tryd.f58=some (Iv,O7):=by kernel_rfl
def B6 (u0 a1:Int) (u3:LL) (u1:Nat) (u2:LL):Option (Ctl (Nat×LL) (LL)) :=
 cond (decide ((u1:Int)<u0))
 (Option.bind (Dc u2) fun y11 =>
 Option.bind (Ek a1 u2 u3 u0) fun y12 =>
 og (y11.length+y12.length<=1073741824∧(y11.length+y12.length)*24<=140737488355328) <|
 Option.bind (Fm a1 (y11++y12) u0) fun y14 =>
 og (u1+1<4611686018427387904) <|
 some (Ctl.next (u1+1,y14)))
 (some (Ctl.out u2))
def Ch (u0 u4 u5:Int) (u1 u2:LL) (u6 u7:LL) (a1:Int):Option (LL) :=
 Option.bind (Fm a1 u2 u0) fun y3 =>
Option.bind (Aw (fun s_:Nat×LL=>B6 u0 a1 u1 s_.1 s_.2) 4611686018427387904 (0,y3)) fun u3 =>
some u3
def N7 (r:LL):RV:=⟨false,[(false,[.frz (tS r)])]⟩
theorem N0 {u1 u6 u7:Int} {u2 u3:LL} {u8 u9:LL} {a1:Int} {r:LL} (h:Ch u1 u6 u7 u2 u3 u8 u9 a1=some r):A0 Tryd.prog Tab 58 [.agg [ai u1,ai u6,ai u7,tS u2,tS u3,tS u8,tS u9],ai a1] (N7 r):=by
 refine Ej (by kernel_rfl) Tryd.func58 Ow (n:=32) (by kernel_rfl) (by simp) (tl:=[(0,.agg [ai u1,ai u6,ai u7,tS u2,tS u3,tS u8,tS u9]),(1,ai a1)]) rfl fun zn_ nz_ hz_=>?_
 unfold Iv;unfold Ch at h;refine Al ?_;refine Ab ?_;obtain ⟨y3,h3,h⟩:=Ad h;refine Aa 10 ?_;refine rsB 5 ?_;refine Ic (oS 176 8 y3.length) [(oi 176 8,some (.mat 23 (oi 177 8) .int y3)),(oi 177 8,some (.pool 3 .int y3))] [] [ai a1,tS u3,ai u1] (caps:=[]) trivial (L7 (Oc h3)) N3 trivial (.cons (.ren (by kernel_rfl)) (.cons (.ren (by kernel_rfl)) (.cons (.ren (by kernel_rfl)) .nil))) (Bj (by kernel_rfl) (by kernel_rfl) trivial) ?_;refine rsB 1 ?_;refine Aq (tn_ ?_);refine wr_ ?_;refine Ar h (fun (u4:LL) S_=>S_=⟨Ao [(5,oS 0 1 u4.length)],Aj (Ap [(oi 0 1,.mat 23 (oi 1 1) .int u4),(oi 1 1,.pool 3 .int u4)]),2⟩) ?_ ?_
 ·intro v_ h;refine Al ?_;refine Ae ?_;refine Av h (fun t_ S_=>∃ (u5:Nat),∃ (u0:LL),t_=(u5,u0)∧S_=⟨Ao [(1,ai a1),(2,.box (oi 0 1) 0),(5,oS 1 1 u0.length),(13,ai u1),(14,an u5)],Aj (Ap [(oi 0 1,.cells 39 [ai u1,ai u6,ai u7,tS u2,tS u3,tS u8,tS u9]),(oi 1 1,.mat 23 (oi 2 1) .int u0),(oi 2 1,.pool 3 .int u0)]),2⟩) ⟨_,Ac [(oi 0 1,oi 2 1),(oi 1 1,oi 176 8),(oi 2 1,oi 177 8)],⟨0,y3,rfl,rfl⟩⟩ ?_;rintro n_ _ _ c_ ⟨u5,u0,rfl,rfl⟩ h hn6
  (try dsimp only at h);unfold B6 at h;unfold Hm;refine Al ?_;refine Ab ?_;rcases Af h with ⟨q9,h⟩ | ⟨q9,h⟩
  ·have q9_:=of_decide_eq_true q9;refine Ah q9 ?_;refine Ai (tn_ ?_);refine wr_ ?_;refine Ab ?_;refine Ae ?_;obtain ⟨y11,h11,h⟩:=Ad h;obtain ⟨y12,h12,h⟩:=Ad h;obtain ⟨g13,h⟩:=Am h;obtain ⟨y14,h14,h⟩:=Ad h;refine Ax 18 ?_;refine dz0 (ai a1) ?_;refine dz0 (oS 1 1 u0.length) ?_;refine N6 (oS 288 5 y11.length) [(oi 288 5,some (.mat 23 (oi 289 5) .int y11)),(oi 289 5,some (.pool 3 .int y11))] [] [oS 1 1 u0.length] (caps:=[]) trivial (L7 (Hn h11)) Hp trivial (.cons (.gnd (by kernel_rfl) (Wd (p:=oi 2 1) (e1:=23) (e:=3) (u:=.int) (xss:=u0) ((G4 (by kernel_rfl) (by kernel_rfl) (by kernel_rfl)).trans (by kernel_rfl)) (Th (by kernel_rfl) (by kernel_rfl) (Afc (t:=sI) (off:=0) (len:=u0.length) (i:=oi 1 1) (e1:=23) (z:=1) (m:=u0.length) 0 rfl (by kernel_rfl) (by kernel_rfl) (Bn (by kernel_rfl))) (by kernel_rfl)) rfl)) .nil) (Bj (by kernel_rfl) (by kernel_rfl) trivial) (Pp (by kernel_rfl)) ?_;refine dz0 (ai a1) ?_;refine dz0 (oS 1 1 u0.length) ?_;refine dz0 (.box (oi 0 1) 3) ?_;refine dzl (tS u2) ?_;refine dz0 (.box (oi 0 1) 0) ?_;refine dzl (ai u1) ?_;refine Lg (.ftr nz_ sI y12) [] [ai a1,oS 1 1 u0.length,tS u2,ai u1] _ (caps:=[]) (args0:=[ai a1,tS u0,tS u2,ai u1]) trivial (Ay (by kernel_rfl) (Ay (Wd (p:=oi 2 1) (e1:=23) (e:=3) (u:=.int) (xss:=u0) (by kernel_rfl) (Afc (t:=sI) (off:=0) (len:=u0.length) (i:=oi 1 1) (e1:=23) (z:=1) (m:=u0.length) 1 rfl (by kernel_rfl) (by kernel_rfl) (Bn (by kernel_rfl))) rfl) (Ay (by kernel_rfl) (Ay (by kernel_rfl) B9)))) (Ld hz_ (K2 h12)) Kz ?_;refine ds2 (oS 288 13 (y11.length+y12.length)) (oi 288 5) (oi 288 13) (.vec 23 1 (y11.length+y12.length) (hdL (oi 289 5) .int y11++tvC (some nz_) sI y12)) (Az3 (o:=oi 288 5) (p:=oi 289 5) (e1:=23) (u:=.int) (t':=sI) (len:=y11.length) (N:=y11.length) (m:=some nz_) (xss:=y11) (ys:=y12) (by kernel_rfl) (by kernel_rfl) rfl rfl (Ary (by kernel_rfl)) g13) ?_;refine dz0 (.box (oi 0 1) 0) ?_;refine dzl (ai u1) ?_;refine N6 (oS 464 16 y14.length) [(oi 464 16,some (.mat 23 (oi 465 16) .int y14)),(oi 465 16,some (.pool 3 .int y14))] [] [ai a1,oS 288 13 (y11.length+y12.length),ai u1] (caps:=[]) trivial (L7 (Oc h14)) N3 trivial (.cons (.ren (by kernel_rfl)) (.cons (.gnd (by kernel_rfl) (A0r (p:=oi 289 5) (e1:=23) (e:=3) (u:=.int) (m:=some nz_) (xss:=y11) (ys:=y12) (N:=y11.length+y12.length) ((G4 (by kernel_rfl) (by kernel_rfl) (by kernel_rfl)).trans (by kernel_rfl)) (Th (by kernel_rfl) (by kernel_rfl) (Aqw (t:=sI) (off:=0) (len:=y11.length+y12.length) (i:=oi 288 13) (e1:=23) (z:=1) (m:=y11.length+y12.length) (cs:=tvC (some nz_) sI y12) 1 rfl (by kernel_rfl) (by kernel_rfl) (Bn (by kernel_rfl))) (by kernel_rfl)) rfl rfl)) (.cons (.ren (by kernel_rfl)) .nil))) (Bj (by kernel_rfl) (by kernel_rfl) trivial) (Pp (by kernel_rfl)) ?_;refine dz0 (oS 464 16 y14.length) ?_;refine F5 ⟨Ru (by kernel_rfl),⟨Ru (by kernel_rfl),⟨Ru (by kernel_rfl),⟨A0j (by kernel_rfl),⟨A0j (by kernel_rfl),trivial⟩⟩⟩⟩⟩ (bn_ (tn_ ?_));refine wr_ ?_;obtain ⟨g15,h⟩:=Am h;refine Aa 20 ?_;refine zA g15 ?_;refine rsB 1 ?_;refine Aq (tn_ ?_);obtain rfl:=zj h;exact ⟨(u5+1,y14),_,Ac [(oi 1 1,oi 464 16),(oi 2 1,oi 465 16)],⟨u5+1,y14,rfl,rfl⟩,hn6⟩
  have q9_:=of_decide_eq_false q9;refine Ag q9 ?_;refine Au (te_ (te_ (be_ (tn_ ?_))));obtain rfl:=zj h;have h:=hn6
  (try dsimp only at h);obtain rfl:=zj h;exact ⟨_,Ac [(oi 0 1,oi 1 1),(oi 1 1,oi 2 1)],rfl⟩
 rintro u4 _ rfl h
 (try dsimp only at h);refine Al ?_;refine An ?_;obtain rfl:=zj h;exact Kk [(false,[oS 0 1 u4.length])] (K9 (Bp (.mat (p:=oi 1 1) (e1:=23) (e:=3) (by kernel_rfl) (Bn (by kernel_rfl)) rfl)) Gz)
def I2:AC :=
 (.seq (rg [xs1 21 20 19])
 (.seq (.cond (tm 21)
  .skip
  (.exit 2))
 (.seq (.block 3 (.seq (rg [xm 22 20,xm 7 22])
 (.region [xm 23 5,xm 24 7,xm 25 5,xm 26 7,xx 27 1 25 26,xl 28 27,xm 29 6,xm 30 7,xx 31 1 29 30,xl 32 31,xo 33 (.append 3 .int 8 (tm 28) (tm 32)),xx 34 1 23 24,xn (qs (tm 34) (tm 33))] true [])))
 (rg [xa 35 20,xm 20 35]))))
def Iz:AC :=
 (.seq (rg [xs1 17 16 15])
 (.seq (.cond (tm 17)
  .skip
  (.exit 0))
 (.seq (.block 1 (.seq (.seq (rg [xm 18 5,xn1 19 18,xo 20 (qm (ci 0))])
 (.block 2 (.loop I2)))
 (rg [xm 36 1,xf 37 3 2,xl 38 37,xm 39 6,xf 40 2 2,xl 41 40,xo 42 (qc 61 [tm 36,tm 38,tm 39,tm 41] [[],[some sI],[some sI],[]]),xm 6 42])))
 (rg [xa 43 16,xm 16 43]))))
def Kh:AC :=
 (.seq (rg [xo 2 (.i (.box 39 (tm 0))),xo 4 (qm (.cst .nils))])
 (.seq (rg [xf 8 0 2,xl 9 8,xo 10 (.makeV 23 sI 24 [.nils] (tm 9) (tm 9)),xm 5 10])
 (.seq (rg [xf 11 5 2,xl 12 11,xo 13 (qc 59 [tm 12] [[some sI]]),xm 6 13])
 (.seq (.seq (rg [xf 14 0 2,xl 15 14,xo 16 (qm (ci 0))])
 (.block 0 (.loop Iz)))
 (.seq (rg [xm 44 1,xm 45 5,xf 46 0 2,xl 47 46,xf 48 2 2,xl 49 48,xo 50 (qb .mul (tm 47) (tm 49)),xo 51 (qc 88 [tm 44,tm 45,tm 50] [[],[some sI],[]]),xm 4 51])
 .ret)))))
def Ro:List Res:=[.tmp 4]
theorem Ry:At Tryd.prog Tryd.f62=some (Kh,Ro):=by kernel_rfl
def Ci (u2 u3:LL) (u0:Nat) (u1:LL):Option (Ctl (Nat×LL) (LL)) :=
 cond (decide ((u0:Int)<(u2.length:Int)))
 (Option.bind (u1[u0]?) fun x21 =>
 Option.bind (u3[u0]?) fun x22 =>
 og (x21.length+x22.length<=1073741824∧(x21.length+x22.length)*8<=140737488355328) <|
 og (u0+1<4611686018427387904) <|
 some (Ctl.next (u0+1,u1.set u0 (x21++x22))))
 (some (Ctl.out u1))
def Ce (u3 a1:Int) (u4:LL) (u5:Int) (u2:LL) (u0:Nat) (u1:LL):Option (Ctl (LL×Nat×LL) (LL)) :=
 cond (decide ((u0:Int)<u3))
 (Option.bind (Option.bind (Aw (fun s_:Nat×LL=>Ci u1 u2 s_.1 s_.2) 4611686018427387904 (0,u1)) fun u6 =>
  Option.bind (Ek a1 u4 u2 u5) fun y25 =>
  some (y25,u6)) fun (u7,u8) =>
 og (u0+1<4611686018427387904) <|
 some (Ctl.next (u7,u0+1,u8)))
 (some (Ctl.out u1))
def Cz (u0 u5 u1:Int) (u2 u6:LL) (u3 u7:LL) (a1:Int):Option (LL) :=
 og (0<=u0∧u0<=u0∧u0<=1073741824∧(24:Int)*u0<=140737488355328) <|
Option.bind (Dc u3) fun y5 =>
Option.bind (Aw (fun s_:LL×Nat×LL=>Ce u0 a1 u2 u1 s_.1 s_.2.1 s_.2.2) 4611686018427387904 (y5,0,List.replicate u0.toNat ([]:List Int))) fun u4 =>
Option.bind (Ir a1 u4 (wI (u0*u1))) fun y28 =>
some y28
def Qq (r:LL):RV:=⟨false,[(false,[.frz (tS r)])]⟩
theorem Qr {u1 u7 u3:Int} {u4 u8:LL} {u5 u9:LL} {a1:Int} {r:LL} (h:Cz u1 u7 u3 u4 u8 u5 u9 a1=some r):A0 Tryd.prog Tab 62 [.agg [ai u1,ai u7,ai u3,tS u4,tS u8,tS u5,tS u9],ai a1] (Qq r):=by
 refine Ej (by kernel_rfl) Tryd.func62 Ry (n:=52) (by kernel_rfl) (by simp) (tl:=[(0,.agg [ai u1,ai u7,ai u3,tS u4,tS u8,tS u5,tS u9]),(1,ai a1)]) rfl fun zn_ nz_ hz_=>?_
 unfold Kh;unfold Cz at h;refine Al ?_;refine Ab ?_;obtain ⟨g3,h⟩:=Am h;refine Aa 7 ?_;refine rsB 2 ?_;refine Amx (oS 160 5 u1.toNat) (oi 160 5) 23 3 .int (List.replicate u1.toNat ([]:List Int)) trivial (Aei (j:=u1.toNat) (k:=.i64) (k':=.i64) (m:=u1) (c:=u1) 3 (by kernel_rfl) (by kernel_rfl) g3 (by kernel_rfl) rfl) (by kernel_rfl) (by rw [List.length_replicate]) (by kernel_rfl) ?_;refine rsB 1 ?_;refine Aq (tn_ ?_);refine wr_ ?_;refine Ab ?_;obtain ⟨y5,h5,h⟩:=Ad h;refine Aa 11 ?_;refine rsB 2 ?_;refine Ic (oS 208 9 y5.length) [(oi 208 9,some (.mat 23 (oi 209 9) .int y5)),(oi 209 9,some (.pool 3 .int y5))] [] [tS u5] (caps:=[]) trivial (L7 (Hn h5)) Hp trivial (.cons (.ren (by kernel_rfl)) .nil) (Bj (by kernel_rfl) (by kernel_rfl) trivial) ?_;refine rsB 1 ?_;refine Aq (tn_ ?_);refine ⟨_,Ze hz_ (e1:=23) (e:=3) (u:=.int) (xss:=y5) (len:=y5.length) 6 (oi 208 9) (oi 209 9) (by kernel_rfl) (by kernel_rfl) (by kernel_rfl) rfl,?_⟩;refine Ar h (fun (ud:LL) S_=>S_=⟨Ao [(1,ai a1),(2,.box (oi 0 1) 0),(5,oS 1 1 ud.length)],Aj (Ap [(oi 0 1,.cells 39 [ai u1,ai u7,ai u3,tS u4,tS u8,tS u5,tS u9]),(oi 1 1,.mat 23 (oi 2 1) .int ud),(oi 2 1,.pool 3 .int ud)]),2⟩) ?_ ?_
 ·intro v_ h;refine Al ?_;refine Ae ?_;refine Av h (fun t_ S_=>∃ (u6:LL),∃ (ua:Nat),∃ (ub:LL),t_=(u6,ua,ub)∧S_=⟨Ao [(1,ai a1),(2,.box (oi 0 1) 0),(5,oS 1 1 ub.length),(6,.ftr nz_ sI u6),(15,ai u1),(16,an ua)],Aj (Ap [(oi 0 1,.cells 39 [ai u1,ai u7,ai u3,tS u4,tS u8,tS u5,tS u9]),(oi 1 1,.mat 23 (oi 2 1) .int ub),(oi 2 1,.pool 3 .int ub)]),2⟩) ⟨_,(A8 5 (oS 160 5 u1.toNat) (oS 160 5 ((List.replicate u1.toNat ([]:List Int)).length)) (by kernel_rfl) (congrArg (fun z_=>((oS 160 5 z_):AV)) (List.length_replicate.symm:u1.toNat=(List.replicate u1.toNat ([]:List Int)).length))).trans (Ac [(oi 0 1,oi 2 1),(oi 1 1,oi 160 5),(oi 2 1,oi 160 5)]),⟨y5,0,List.replicate u1.toNat ([]:List Int),rfl,rfl⟩⟩ ?_;rintro n_ _ _ c_ ⟨u6,ua,ub,rfl,rfl⟩ h hn8
  (try dsimp only at h);unfold Ce at h;unfold Iz;refine Al ?_;refine Ab ?_;rcases Af h with ⟨q11,h⟩ | ⟨q11,h⟩
  ·have q11_:=of_decide_eq_true q11;refine Ah q11 ?_;refine Ai (tn_ ?_);refine wr_ ?_;refine Ar h (fun t_ S_=>∃ (ue:LL),∃ (uc:LL),t_=(ue,uc)∧S_=⟨Ao [(1,ai a1),(2,.box (oi 0 1) 0),(5,oS 1 1 uc.length),(6,.ftr nz_ sI ue),(15,ai u1),(16,an ua)],Aj (Ap [(oi 0 1,.cells 39 [ai u1,ai u7,ai u3,tS u4,tS u8,tS u5,tS u9]),(oi 1 1,.mat 23 (oi 2 1) .int uc),(oi 2 1,.pool 3 .int uc)]),2⟩) ?_ ?_
   ·intro v_ h;refine Ae ?_;refine Ar h (fun (uf:LL) S_=>S_=⟨Ao [(1,ai a1),(2,.box (oi 0 1) 0),(5,oS 1 1 uf.length),(6,.ftr nz_ sI u6),(15,ai u1),(16,an ua)],Aj (Ap [(oi 0 1,.cells 39 [ai u1,ai u7,ai u3,tS u4,tS u8,tS u5,tS u9]),(oi 1 1,.mat 23 (oi 2 1) .int uf),(oi 2 1,.pool 3 .int uf)]),2⟩) ?_ ?_
    ·intro v_ h;refine Al ?_;refine Ae ?_;refine Av h (fun t_ S_=>∃ (u0:Nat),∃ (u2:LL),t_=(u0,u2)∧S_=⟨Ao [(1,ai a1),(2,.box (oi 0 1) 0),(5,oS 1 1 u2.length),(6,.ftr nz_ sI u6),(15,ai u1),(16,an ua),(19,an ub.length),(20,an u0)],Aj (Ap [(oi 0 1,.cells 39 [ai u1,ai u7,ai u3,tS u4,tS u8,tS u5,tS u9]),(oi 1 1,.mat 23 (oi 2 1) .int u2),(oi 2 1,.pool 3 .int u2)]),2⟩) ⟨_,Ac [],⟨0,ub,rfl,rfl⟩⟩ ?_;rintro n_ _ _ c_ ⟨u0,u2,rfl,rfl⟩ h hn15
     (try dsimp only at h);unfold Ci at h;unfold I2;refine Al ?_;refine Ab ?_;rcases Af h with ⟨q18,h⟩ | ⟨q18,h⟩
     ·have q18_:=of_decide_eq_true q18;refine Ah q18 ?_;refine Ai (tn_ ?_);refine wr_ ?_;refine Ab ?_;refine Ae ?_;refine Al ?_;obtain ⟨x21,e21,h⟩:=Ad h;obtain ⟨x22,e22,h⟩:=Ad h;obtain ⟨g23,h⟩:=Am h;refine Ax 18 ?_;refine dz0 (oS 1 1 u2.length) ?_;refine dz0 (an u0) ?_;refine dz0 (oS 1 1 u2.length) ?_;refine dz0 (an u0) ?_;refine dzO (oi 1 1) sI u2.length (As e21) ?_;refine dsl (.own (kid (oi 2 1) u0) .int 0 x21.length) (Gu (o:=oi 1 1) (p:=oi 2 1) (e1:=23) (u:=.int) (xss:=u2) (row:=x21) (j:=u0) (by kernel_rfl) (by kernel_rfl) e21) ?_;refine dz0 (.ftr nz_ sI u6) ?_;refine dz0 (an u0) ?_;refine ds0 (.telt (some nz_) sI x22 0) (zi (t:=sI) (xs:=u6) (k:=.i64) (m:=(u0:Int)) (Dp _) e22) ?_;refine dz0 (.ftr nz_ .int x22) ?_;refine ds2 (.own (kid (oi 2 15) u0) .int 0 ((x21++x22).length)) (kid (oi 2 1) u0) (kid (oi 2 15) u0) (.arr 3 .int (x21++x22)) (I9 (t:=.int) (t':=.int) (xs:=x21) (ys:=x22) (zs:=x21++x22) (j:=kid (oi 2 1) u0) (len:=x21.length) (c:=.ftr nz_ .int x22) (by kernel_rfl) ((O2 (L:=[kid (oi 2 1) u0]) List.mem_cons_self).trans (Bw (by kernel_rfl) e21)) rfl (by kernel_rfl) A0t rfl g23) ?_;refine dzO (oi 1 1) sI u2.length (As e21) ?_;refine K7 (oi 1 1) (oi 1 1) (.vec 23 1 u2.length ((hdL (oi 2 1) .int u2).set u0 (.own (kid (oi 2 15) u0) .int 0 ((x21++x22).length)))) (Ae5 (o:=oi 1 1) (e1:=23) (m:=u2.length) (cs:=hdL (oi 2 1) .int u2) (v:=.own (kid (oi 2 15) u0) .int 0 ((x21++x22).length)) (j:=u0) (by kernel_rfl) (by kernel_rfl) (by kernel_rfl) rfl (by rw [Df]; exact As e21)) ?_;refine F5 (Bc (by kernel_rfl)) (bn_ (tn_ ?_));refine ⟨_,Ahs (e1:=23) (e:=3) (u:=.int) (n:=u2.length) (len:=(x21++x22).length) (row:=x21++x22) (ys:=x21++x22) (xss:=u2) (j:=u0) 9000 (oi 1 1) (oi 2 1) (kid (oi 2 15) u0) (by kernel_rfl) (by kernel_rfl) rfl (by kernel_rfl) (by repeat first | exact Ao2 | refine entAt_sk rfl ?_) (H2 rfl) (H1 rfl) (by kernel_rfl) (by kernel_rfl) (by kernel_rfl),?_⟩;obtain ⟨g24,h⟩:=Am h;refine Aa 21 ?_;refine zA g24 ?_;refine rsB 1 ?_;refine Aq (tn_ ?_);obtain rfl:=zj h;exact ⟨(u0+1,u2.set u0 (x21++x22)),_,(A8 5 (oS 1 1 u2.length) (oS 1 1 ((u2.set u0 (x21++x22)).length)) (by kernel_rfl) (congrArg (fun z_=>((oS 1 1 z_):AV)) ((Eq.trans (b:=u2.length) rfl List.length_set.symm):u2.length=(u2.set u0 (x21++x22)).length))).trans (Ac [(oi 2 1,oi 9000 18)]),⟨u0+1,u2.set u0 (x21++x22),rfl,rfl⟩,hn15⟩
     have q18_:=of_decide_eq_false q18;refine Ag q18 ?_;refine Au (te_ (te_ (be_ (tn_ ?_))));obtain rfl:=zj h;have h:=hn15
     (try dsimp only at h);obtain rfl:=zj h;exact ⟨_,Ac [],rfl⟩
    rintro uf _ rfl h
    (try dsimp only at h);obtain ⟨y25,h25,h⟩:=Ad h;refine Aa 10 ?_;refine rsB 6 ?_;refine Cm (.ftr nz_ sI y25) [] [ai a1,tS u4,.ftr nz_ sI u6,ai u3] _ (caps:=[]) (args0:=[ai a1,tS u4,tS u6,ai u3]) trivial (by kernel_rfl) (Ld hz_ (K2 h25)) Kz ?_;refine rsB 1 ?_;refine Aq (bn_ (tn_ ?_));obtain rfl:=zj h;exact ⟨_,Ac [],⟨y25,uf,rfl,rfl⟩⟩
   rintro _ _ ⟨ue,uc,rfl,rfl⟩ h
   (try dsimp only at h);obtain ⟨g26,h⟩:=Am h;refine Aa 4 ?_;refine zA g26 ?_;refine rsB 1 ?_;refine Aq (tn_ ?_);obtain rfl:=zj h;exact ⟨(ue,ua+1,uc),_,Ac [],⟨ue,ua+1,uc,rfl,rfl⟩,hn8⟩
  have q11_:=of_decide_eq_false q11;refine Ag q11 ?_;refine Au (te_ (te_ (be_ (tn_ ?_))));obtain rfl:=zj h;have h:=hn8
  (try dsimp only at h);obtain rfl:=zj h;exact ⟨_,Ac [],rfl⟩
 rintro ud _ rfl h
 (try dsimp only at h);refine Ab ?_;obtain ⟨y28,h28,h⟩:=Ad h;refine Aa 11 ?_;refine rsB 7 ?_;refine Ic (oS 816 9 y28.length) [(oi 816 9,some (.mat 23 (oi 817 9) .int y28)),(oi 817 9,some (.pool 3 .int y28))] [] [ai a1,oS 1 1 ud.length,ai (wI (u1*u3))] (caps:=[]) trivial (L7 (Aif h28)) Ag1 trivial (.cons (.ren (by kernel_rfl)) (.cons (.gnd (by kernel_rfl) (Wd (p:=oi 2 1) (e1:=23) (e:=3) (u:=.int) (xss:=ud) ((G4 (by kernel_rfl) (by kernel_rfl) (by kernel_rfl)).trans (by kernel_rfl)) (Th (by kernel_rfl) (by kernel_rfl) (Bn (by kernel_rfl)) (by kernel_rfl)) rfl)) (.cons (.ren (by kernel_rfl)) .nil))) (Bj (by kernel_rfl) (by kernel_rfl) trivial) ?_;refine rsB 1 ?_;refine Aq (tn_ ?_);refine wr_ ?_;refine An ?_;obtain rfl:=zj h;exact Kk [(false,[oS 816 9 y28.length])] (K9 (Bp (.mat (p:=oi 817 9) (e1:=23) (e:=3) (by kernel_rfl) (Bn (by kernel_rfl)) rfl)) Gz)
def Ti:AC :=
 (.seq (rg [xs1 9 8 7])
 (.seq (.cond (tm 9)
  .skip
  (.exit 0))
 (.seq (.block 1 (.seq (rg [xx 10 1 6 8,xl 11 10,xm 5 11])
 (rg [xm 12 3,xm 13 5,xo 14 (qc 26 [tm 13] [[some .int]]),xo 15 (.mkV 23 sI 1 [tm 14]),xo 16 (.appV 23 sI 24 (tm 12) (tm 15)),xm 3 16])))
 (rg [xa 17 8,xm 8 17]))))
def X7:AC :=
 (.seq (rg [xo 2 (qm (.cst .nils))])
 (.seq (rg [xo 3 (qm (.cst .nils))])
 (.seq (.seq (rg [xm 6 0,xn1 7 6,xo 8 (qm (ci 0))])
 (.block 0 (.loop Ti)))
 (.seq (rg [xm 18 3,xm 2 18])
 .ret))))
def Akk:List Res:=[.tmp 2]
theorem Ajf:At Tryd.prog Tryd.f42=some (X7,Akk):=by kernel_rfl
def Hg (a0:LL) (u0:Nat) (u1:LL):Option (Ctl (Nat×LL) (LL)) :=
 cond (decide ((u0:Int)<(a0.length:Int)))
 (Option.bind (a0[u0]?) fun x11 =>
 Option.bind (C2 x11) fun y12 =>
 og (u1.length+1<=1073741824∧(u1.length+1)*24<=140737488355328) <|
 og (u0+1<4611686018427387904) <|
 some (Ctl.next (u0+1,u1++[y12])))
 (some (Ctl.out u1))
def Ko (a0:LL):Option (LL) :=
 Option.bind (Aw (fun s_:Nat×LL=>Hg a0 s_.1 s_.2) 4611686018427387904 (0,([]:LL))) fun u0 =>
some u0
def Ae4 (r:LL):RV:=⟨false,[(false,[.frz (tS r)])]⟩
theorem Ain {a0 r:LL} (h:Ko a0=some r):A0 Tryd.prog Tab 42 [tS a0] (Ae4 r):=by
 refine Ej (by kernel_rfl) Tryd.func42 Ajf (n:=19) (by kernel_rfl) (by simp) (tl:=[(0,tS a0)]) rfl fun zn_ nz_ hz_=>?_
 unfold X7;unfold Ko at h;refine Al ?_;refine Al ?_;refine Ar h (fun (u1:LL) S_=>S_=⟨Ao [(3,oS 0 1 u1.length)],Aj (Ap [(oi 0 1,.mat 23 (oi 1 1) .int u1),(oi 1 1,.pool 3 .int u1)]),2⟩) ?_ ?_
 ·intro v_ h;refine Al ?_;refine Ae ?_;refine Av h (fun t_ S_=>∃ (u2:Nat),∃ (u0:LL),t_=(u2,u0)∧S_=⟨Ao [(3,oS 0 1 u0.length),(6,tS a0),(7,an a0.length),(8,an u2)],Aj (Ap [(oi 0 1,.mat 23 (oi 1 1) .int u0),(oi 1 1,.pool 3 .int u0)]),2⟩) ⟨_,(Ug 3 23 sI (by kernel_rfl)).trans ((B2 (e1:=23) (n:=0) 9000 (oi 3 6) 3 .int (by kernel_rfl) (by kernel_rfl) rfl (by kernel_rfl) (by kernel_rfl)).trans (Ac [(oi 0 1,oi 3 6),(oi 1 1,oi 9000 7)])),⟨0,([]:LL),rfl,rfl⟩⟩ ?_;rintro n_ _ _ c_ ⟨u2,u0,rfl,rfl⟩ h hn5
  (try dsimp only at h);unfold Hg at h;unfold Ti;refine Al ?_;refine Ab ?_;rcases Af h with ⟨q8,h⟩ | ⟨q8,h⟩
  ·have q8_:=of_decide_eq_true q8;refine Ah q8 ?_;refine Ai (tn_ ?_);refine wr_ ?_;refine Ab ?_;refine Ae ?_;refine Ab ?_;obtain ⟨x11,e11,h⟩:=Ad h;refine Aa 6 ?_;refine zI sI e11 ?_;refine rsB 2 ?_;refine Aq (tn_ ?_);refine wr_ ?_;obtain ⟨y12,h12,h⟩:=Ad h;obtain ⟨g13,h⟩:=Am h;refine Aa 12 ?_;refine rsB 2 ?_;refine zc (oI 224 8 y12.length) [nI 224 8 y12] [tI x11] (E4 (Fc h12)) ?_;refine Zs (oS 15 9 1) (oi 15 9) (.vec 23 1 1 ([oI 224 8 y12.length])) trivial (G1 (by kernel_rfl)) ?_;refine rs2 (oS 0 10 (u0.length+1)) (oi 0 1) (oi 0 10) (.vec 23 1 (u0.length+1) (hdL (oi 1 1) .int u0++[oI 224 8 y12.length])) (Dd (u:=.int) (t':=sI) (t2:=sI) (o:=oi 0 1) (q:=oi 15 9) (e2:=23) (p:=oi 1 1) (xss:=u0) (cs:=[oI 224 8 y12.length]) (len:=u0.length) (by kernel_rfl) (by kernel_rfl) rfl (by kernel_rfl) (by kernel_rfl) rfl g13) ?_;refine rsB 1 ?_;refine Aq (bn_ (tn_ ?_));refine ⟨_,B8 (e1:=23) (e:=3) (u:=.int) (n:=u0.length+1) (len:=y12.length) (row:=y12) (ys:=y12) (xss:=u0) 9000 (oi 0 10) (oi 1 1) (oi 224 8) (by kernel_rfl) (by kernel_rfl) rfl (by kernel_rfl) (by kernel_rfl) (H2 rfl) (H1 rfl) (by kernel_rfl) (by kernel_rfl) (by kernel_rfl),?_⟩;obtain ⟨g14,h⟩:=Am h;refine Aa 15 ?_;refine zA g14 ?_;refine rsB 1 ?_;refine Aq (tn_ ?_);obtain rfl:=zj h;exact ⟨(u2+1,u0++[y12]),_,(A8 3 (oS 0 10 (u0.length+1)) (oS 0 10 ((u0++[y12]).length)) (by kernel_rfl) (congrArg (fun z_=>((oS 0 10 z_):AV)) ((by simp):u0.length+1=(u0++[y12]).length))).trans (Ac [(oi 0 1,oi 0 10),(oi 1 1,oi 9000 12)]),⟨u2+1,u0++[y12],rfl,rfl⟩,hn5⟩
  have q8_:=of_decide_eq_false q8;refine Ag q8 ?_;refine Au (te_ (te_ (be_ (tn_ ?_))));obtain rfl:=zj h;have h:=hn5
  (try dsimp only at h);obtain rfl:=zj h;exact ⟨_,Ac [],rfl⟩
 rintro u1 _ rfl h
 (try dsimp only at h);refine Al ?_;refine An ?_;obtain rfl:=zj h;exact Kk [(false,[oS 0 1 u1.length])] (K9 (Bp (.mat (p:=oi 1 1) (e1:=23) (e:=3) (by kernel_rfl) (Bn (by kernel_rfl)) rfl)) Gz)
def Oj:AC :=
 (.seq (rg [xs1 49 48 47])
 (.seq (.cond (tm 49)
  .skip
  (.exit 2))
 (.seq (.block 3 (.seq (rg [xx 50 1 46 48,xl 51 50,xm 10 51])
 (.region [xf 52 4 6,xl 53 52,xm 54 5,xm 55 10,xo 56 (qc 44 [tm 54,tm 55] [[some sI],[some .int]]),xo 57 (.mkV 23 sI 1 [tm 56]),xo 58 (.appV 23 sI 24 (tm 53) (tm 57)),xf 59 4 6,xn (qs (tm 59) (tm 58))] true [(1,4),(1,5)])))
 (rg [xa 60 48,xm 48 60]))))
def On:AC :=
 (.seq (rg [xs1 33 32 31])
 (.seq (.cond (tm 33)
  .skip
  (.exit 0))
 (.seq (.block 1 (.seq (rg [xx 34 1 30 32,xl 35 34,xm 8 35])
 (.region [xf 36 3 6,xl 37 36,xm 38 5,xm 39 8,xo 40 (qc 44 [tm 38,tm 39] [[some sI],[some .int]]),xo 41 (.mkV 23 sI 1 [tm 40]),xo 42 (.appV 23 sI 24 (tm 37) (tm 41)),xf 43 3 6,xn (qs (tm 43) (tm 42))] true [(1,4),(1,5)])))
 (rg [xa 44 32,xm 32 44]))))
def Sb:AC :=
 (.seq (rg [xo 3 (.i (.box 39 (tm 1))),xo 4 (.i (.alloc 39 [.int .i64 0,.int .i64 0,.int .i64 0,.nils,.nils,.nils,.nils]))])
 (.seq (rg [xm 11 0,xo 12 (.i (.ld false 7 (tm 3))),xo 13 (qc 41 [tm 11,tm 12] [[],[none,none,none,some sI,some sI,some sI,some sI]]),xm 5 13])
 (.seq (.region [xm 14 5,xn1 15 14,xf 16 1 3,xl 17 16,xf 18 2 3,xl 19 18,xf 20 6 3,xl 21 20,xo 22 (qc 42 [tm 21] [[some sI]]),xo 23 (.build [.int .i64 0,.int .i64 0,.int .i64 0,.nils,.nils,.nils,.nils] [(0,1,tm 15),(1,1,tm 17),(2,1,tm 19),(6,1,tm 22)]),xo 6 (.i (.alloc 39 [.int .i64 0,.int .i64 0,.int .i64 0,.nils,.nils,.nils,.nils])),xn (.st false 7 (tm 6) (tm 23))] true [(3,8),(5,8),(8,10)])
 (.seq (.seq (rg [xm 24 0,xf 25 0 3,xl 26 25,xm 27 5,xf 28 3 3,xl 29 28,xo 30 (qc 43 [tm 24,tm 26,tm 27,tm 29] [[],[],[some sI],[some sI]]),xn1 31 30,xo 32 (qm (ci 0))])
 (.block 0 (.loop On)))
 (.seq (.seq (rg [xf 45 4 3,xl 46 45,xn1 47 46,xo 48 (qm (ci 0))])
 (.block 2 (.loop Oj)))
 (.seq (rg [xm 61 0,xf 62 2 3,xl 63 62,xm 64 5,xf 65 5 3,xl 66 65,xo 67 (qc 43 [tm 61,tm 63,tm 64,tm 66] [[],[],[some sI],[some sI]]),xf 68 5 6,xn (qs (tm 68) (tm 67))])
 (.seq (rg [xo 69 (.i (.ld false 7 (tm 6))),xn (.st false 7 (tm 4) (tm 69))])
 .ret)))))))
def Abp:List Res:=[.cell 4 false 7]
theorem Ab5:At Tryd.prog Tryd.f22=some (Sb,Abp):=by kernel_rfl
def Dl (y8 y3:LL) (u0:Nat) (u1:LL):Option (Ctl (Nat×LL) (LL)) :=
 cond (decide ((u0:Int)<(y8.length:Int)))
 (Option.bind (y8[u0]?) fun x15 =>
 Option.bind (F9 y3 x15) fun y16 =>
 og (u1.length+1<=1073741824∧(u1.length+1)*24<=140737488355328) <|
 og (u0+1<4611686018427387904) <|
 some (Ctl.next (u0+1,u1++[y16])))
 (some (Ctl.out u1))
def Dk (u2 y3:LL) (u0:Nat) (u1:LL):Option (Ctl (Nat×LL) (LL)) :=
 cond (decide ((u0:Int)<(u2.length:Int)))
 (Option.bind (u2[u0]?) fun x27 =>
 Option.bind (F9 y3 x27) fun y28 =>
 og (u1.length+1<=1073741824∧(u1.length+1)*24<=140737488355328) <|
 og (u0+1<4611686018427387904) <|
 some (Ctl.next (u0+1,u1++[y28])))
 (some (Ctl.out u1))
def Fh (a0 u1:Int) (u2 u0:Int) (u3 u4:LL) (u5 u6:LL):Option (Int×Int×Int×LL×LL×LL×LL) :=
 Option.bind (Hl a0 u1 u2 u0 u3 u4 u5 u6) fun y3 =>
Option.bind (Ko u6) fun y5 =>
Option.bind (Option.bind (Fs a0 u1 y3 u3) fun y8 =>
 Aw (fun s_:Nat×LL=>Dl y8 y3 s_.1 s_.2) 4611686018427387904 (0,([]:LL))) fun u7 =>
Option.bind (Aw (fun s_:Nat×LL=>Dk u4 y3 s_.1 s_.2) 4611686018427387904 (0,([]:LL))) fun u8 =>
Option.bind (Fs a0 u0 y3 u5) fun y32 =>
some ((y3.length:Int),u2,u0,u7,u8,y32,y5)
def Aat (r:Int×Int×Int×LL×LL×LL×LL):RV:=⟨false,[(true,[.sc (.int .i64 r.1),.sc (.int .i64 r.2.1),.sc (.int .i64 r.2.2.1),.frz (tS r.2.2.2.1),.frz (tS r.2.2.2.2.1),.frz (tS r.2.2.2.2.2.1),.frz (tS r.2.2.2.2.2.2)])]⟩
theorem Zi {a0 u5:Int} {u1 u0:Int} {u6 u7:LL} {u8 u9:LL} {r:Int×Int×Int×LL×LL×LL×LL} (h:Fh a0 u5 u1 u0 u6 u7 u8 u9=some r):A0 Tryd.prog Tab 22 [ai a0,.agg [ai u5,ai u1,ai u0,tS u6,tS u7,tS u8,tS u9]] (Aat r):=by
 refine Ej (by kernel_rfl) Tryd.func22 Ab5 (n:=70) (by kernel_rfl) (by simp) (tl:=[(0,ai a0),(1,.agg [ai u5,ai u1,ai u0,tS u6,tS u7,tS u8,tS u9])]) rfl fun zn_ nz_ hz_=>?_
 unfold Sb;unfold Fh at h;refine Al ?_;refine Ab ?_;obtain ⟨y3,h3,h⟩:=Ad h;refine Aa 7 ?_;refine rsB 2 ?_;refine zc (.ftr nz_ sI y3) [] [ai a0,.agg [ai u5,ai u1,ai u0,tS u6,tS u7,tS u8,tS u9]] (Ld hz_ (U9 h3)) ?_;refine rsB 1 ?_;refine Aq (tn_ ?_);refine wr_ ?_;refine Ab ?_;obtain ⟨y5,h5,h⟩:=Ad h;refine Ax 19 ?_;refine dz0 (.ftr nz_ sI y3) ?_;refine dz0 (an y3.length) ?_;refine dz0 (.box (oi 3 1) 1) ?_;refine dzl (ai u1) ?_;refine dz0 (.box (oi 3 1) 2) ?_;refine dzl (ai u0) ?_;refine dz0 (.box (oi 3 1) 6) ?_;refine dzl (tS u9) ?_;refine dzc (.ftr nz_ sI y5) [] [tS u9] (Ld hz_ (Ain h5)) ?_;refine dz0 (.agg [an y3.length,ai u1,ai u0,.nils,.nils,.nils,.ftr nz_ sI y5]) ?_;refine ds1 (.box (oi 6 17) 0) (oi 6 17) (.cells 39 [ai 0,ai 0,ai 0,.nils,.nils,.nils,.nils]) (by kernel_rfl) ?_;refine K7 (oi 6 17) (oi 6 17) (.cells 39 [an y3.length,ai u1,ai u0,.nils,.nils,.nils,.ftr nz_ sI y5]) (by kernel_rfl) ?_;refine F5 (Bc (by kernel_rfl)) (tn_ ?_);refine wr_ ?_;refine Ar h (fun (u4:LL) S_=>S_=⟨Ao [(0,ai a0),(3,.box (oi 0 1) 0),(4,.box (oi 1 1) 0),(5,.ftr nz_ sI y3),(6,.box (oi 2 1) 0)],Aj (Ap [(oi 0 1,.cells 39 [ai u5,ai u1,ai u0,tS u6,tS u7,tS u8,tS u9]),(oi 1 1,.cells 39 [ai 0,ai 0,ai 0,.nils,.nils,.nils,.nils]),(oi 2 1,.cells 39 [an y3.length,ai u1,ai u0,oS 3 1 u4.length,.nils,.nils,.ftr nz_ sI y5]),(oi 3 1,.mat 23 (oi 4 1) .int u4),(oi 4 1,.pool 3 .int u4)]),2⟩) ?_ ?_
 ·intro v_ h;refine Ab ?_;obtain ⟨y8,h8,h⟩:=Ad h;refine Aa 28 ?_;refine rsB 6 ?_;refine Cm (.ftr nz_ sI y8) [] [ai a0,ai u5,.ftr nz_ sI y3,tS u6] _ (caps:=[]) (args0:=[ai a0,ai u5,tS y3,tS u6]) trivial (by kernel_rfl) (Ld hz_ (Od h8)) N5 ?_;refine rsB 2 ?_;refine Aq (tn_ ?_);refine wr_ ?_;refine Ae ?_;refine Av h (fun t_ S_=>∃ (ua:Nat),∃ (u2:LL),t_=(ua,u2)∧S_=⟨Ao [(0,ai a0),(3,.box (oi 0 1) 0),(4,.box (oi 1 1) 0),(5,.ftr nz_ sI y3),(6,.box (oi 2 1) 0),(30,.ftr nz_ sI y8),(31,an y8.length),(32,an ua)],Aj (Ap [(oi 0 1,.cells 39 [ai u5,ai u1,ai u0,tS u6,tS u7,tS u8,tS u9]),(oi 1 1,.cells 39 [ai 0,ai 0,ai 0,.nils,.nils,.nils,.nils]),(oi 2 1,.cells 39 [an y3.length,ai u1,ai u0,oS 3 1 u2.length,.nils,.nils,.ftr nz_ sI y5]),(oi 3 1,.mat 23 (oi 4 1) .int u2),(oi 4 1,.pool 3 .int u2)]),2⟩) ⟨_,(Bt 9000 (oi 6 17) 3 39 [an y3.length,ai u1,ai u0,.nils,.nils,.nils,.ftr nz_ sI y5] [an y3.length,ai u1,ai u0,oS 9000 28 0,.nils,.nils,.ftr nz_ sI y5] 23 sI (by kernel_rfl) (by kernel_rfl) (by kernel_rfl)).trans ((B2 (e1:=23) (n:=0) 9000 (oi 9000 28) 3 .int (by kernel_rfl) (by kernel_rfl) rfl (by kernel_rfl) (by kernel_rfl)).trans (Ac [(oi 0 1,oi 3 1),(oi 1 1,oi 4 2),(oi 2 1,oi 6 17),(oi 3 1,oi 9000 28),(oi 4 1,oi 9000 29)])),⟨0,([]:LL),rfl,rfl⟩⟩ ?_;rintro n_ _ _ c_ ⟨ua,u2,rfl,rfl⟩ h hn9
  (try dsimp only at h);unfold Dl at h;unfold On;refine Al ?_;refine Ab ?_;rcases Af h with ⟨q12,h⟩ | ⟨q12,h⟩
  ·have q12_:=of_decide_eq_true q12;refine Ah q12 ?_;refine Ai (tn_ ?_);refine wr_ ?_;refine Ab ?_;refine Ae ?_;refine Ab ?_;obtain ⟨x15,e15,h⟩:=Ad h;refine Aa 6 ?_;refine rs0 (.telt (some nz_) sI x15 0) (zi (t:=sI) (xs:=y8) (k:=.i64) (m:=(ua:Int)) (Dp _) e15) ?_;refine rsB 2 ?_;refine Aq (tn_ ?_);refine wr_ ?_;obtain ⟨y16,h16,h⟩:=Ad h;obtain ⟨g17,h⟩:=Am h;refine Ax 15 ?_;refine dz0 (.box (oi 2 1) 3) ?_;refine dzl (oS 3 1 u2.length) ?_;refine dz0 (.ftr nz_ sI y3) ?_;refine dz0 (.ftr nz_ .int x15) ?_;refine Lg (oI 640 10 y16.length) [nI 640 10 y16] [.ftr nz_ sI y3,.ftr nz_ .int x15] _ (caps:=[]) (args0:=[tS y3,tI x15]) trivial (by kernel_rfl) (E4 (S8 h16)) S5 ?_;refine Aad (oS 41 11 1) (oi 41 11) (.vec 23 1 1 ([oI 640 10 y16.length])) trivial (G1 (by kernel_rfl)) ?_;refine ds2 (oS 3 12 (u2.length+1)) (oi 3 1) (oi 3 12) (.vec 23 1 (u2.length+1) (hdL (oi 4 1) .int u2++[oI 640 10 y16.length])) (Dd (u:=.int) (t':=sI) (t2:=sI) (o:=oi 3 1) (q:=oi 41 11) (e2:=23) (p:=oi 4 1) (xss:=u2) (cs:=[oI 640 10 y16.length]) (len:=u2.length) (by kernel_rfl) (by kernel_rfl) rfl (by kernel_rfl) (by kernel_rfl) rfl g17) ?_;refine dz0 (.box (oi 2 1) 3) ?_;refine K7 (oi 2 1) (oi 2 1) (.cells 39 [an y3.length,ai u1,ai u0,oS 3 12 (u2.length+1),.nils,.nils,.ftr nz_ sI y5]) (by kernel_rfl) ?_;refine F5 (Bc (by kernel_rfl)) (bn_ (tn_ ?_));refine ⟨_,B8 (e1:=23) (e:=3) (u:=.int) (n:=u2.length+1) (len:=y16.length) (row:=y16) (ys:=y16) (xss:=u2) 9000 (oi 3 12) (oi 4 1) (oi 640 10) (by kernel_rfl) (by kernel_rfl) rfl (by kernel_rfl) (by kernel_rfl) (H2 rfl) (H1 rfl) (by kernel_rfl) (by kernel_rfl) (by kernel_rfl),?_⟩;obtain ⟨g18,h⟩:=Am h;refine Aa 18 ?_;refine zA g18 ?_;refine rsB 1 ?_;refine Aq (tn_ ?_);obtain rfl:=zj h;exact ⟨(ua+1,u2++[y16]),_,(C7 (oi 2 1) (.cells 39 [an y3.length,ai u1,ai u0,oS 3 12 (u2.length+1),.nils,.nils,.ftr nz_ sI y5]) (.cells 39 [an y3.length,ai u1,ai u0,oS 3 12 ((u2++[y16]).length),.nils,.nils,.ftr nz_ sI y5]) (by kernel_rfl) (congrArg (fun z_=>(.cells 39 [an y3.length,ai u1,ai u0,oS 3 12 z_,.nils,.nils,.ftr nz_ sI y5]:Ob)) ((by simp):u2.length+1=(u2++[y16]).length))).trans (Ac [(oi 3 1,oi 3 12),(oi 4 1,oi 9000 15)]),⟨ua+1,u2++[y16],rfl,rfl⟩,hn9⟩
  have q12_:=of_decide_eq_false q12;refine Ag q12 ?_;refine Au (te_ (te_ (be_ (tn_ ?_))));obtain rfl:=zj h;have h:=hn9
  (try dsimp only at h);obtain rfl:=zj h;exact ⟨_,Ac [],rfl⟩
 rintro u4 _ rfl h
 (try dsimp only at h);refine Ar h (fun (ub:LL) S_=>S_=⟨Ao [(0,ai a0),(3,.box (oi 0 1) 0),(4,.box (oi 1 1) 0),(5,.ftr nz_ sI y3),(6,.box (oi 2 1) 0)],Aj (Ap [(oi 0 1,.cells 39 [ai u5,ai u1,ai u0,tS u6,tS u7,tS u8,tS u9]),(oi 1 1,.cells 39 [ai 0,ai 0,ai 0,.nils,.nils,.nils,.nils]),(oi 2 1,.cells 39 [an y3.length,ai u1,ai u0,oS 3 1 u4.length,oS 5 1 ub.length,.nils,.ftr nz_ sI y5]),(oi 3 1,.mat 23 (oi 4 1) .int u4),(oi 4 1,.pool 3 .int u4),(oi 5 1,.mat 23 (oi 6 1) .int ub),(oi 6 1,.pool 3 .int ub)]),2⟩) ?_ ?_
 ·intro v_ h;refine Al ?_;refine Ae ?_;refine Av h (fun t_ S_=>∃ (uc:Nat),∃ (u3:LL),t_=(uc,u3)∧S_=⟨Ao [(0,ai a0),(3,.box (oi 0 1) 0),(4,.box (oi 1 1) 0),(5,.ftr nz_ sI y3),(6,.box (oi 2 1) 0),(46,tS u7),(47,an u7.length),(48,an uc)],Aj (Ap [(oi 0 1,.cells 39 [ai u5,ai u1,ai u0,tS u6,tS u7,tS u8,tS u9]),(oi 1 1,.cells 39 [ai 0,ai 0,ai 0,.nils,.nils,.nils,.nils]),(oi 2 1,.cells 39 [an y3.length,ai u1,ai u0,oS 3 1 u4.length,oS 5 1 u3.length,.nils,.ftr nz_ sI y5]),(oi 3 1,.mat 23 (oi 4 1) .int u4),(oi 4 1,.pool 3 .int u4),(oi 5 1,.mat 23 (oi 6 1) .int u3),(oi 6 1,.pool 3 .int u3)]),2⟩) ⟨_,(Bt 9000 (oi 2 1) 4 39 [an y3.length,ai u1,ai u0,oS 3 1 u4.length,.nils,.nils,.ftr nz_ sI y5] [an y3.length,ai u1,ai u0,oS 3 1 u4.length,oS 9000 6 0,.nils,.ftr nz_ sI y5] 23 sI (by kernel_rfl) (by kernel_rfl) (by kernel_rfl)).trans ((B2 (e1:=23) (n:=0) 9000 (oi 9000 6) 3 .int (by kernel_rfl) (by kernel_rfl) rfl (by kernel_rfl) (by kernel_rfl)).trans (Ac [(oi 5 1,oi 9000 6),(oi 6 1,oi 9000 7)])),⟨0,([]:LL),rfl,rfl⟩⟩ ?_;rintro n_ _ _ c_ ⟨uc,u3,rfl,rfl⟩ h hn21
  (try dsimp only at h);unfold Dk at h;unfold Oj;refine Al ?_;refine Ab ?_;rcases Af h with ⟨q24,h⟩ | ⟨q24,h⟩
  ·have q24_:=of_decide_eq_true q24;refine Ah q24 ?_;refine Ai (tn_ ?_);refine wr_ ?_;refine Ab ?_;refine Ae ?_;refine Ab ?_;obtain ⟨x27,e27,h⟩:=Ad h;refine Aa 6 ?_;refine zI sI e27 ?_;refine rsB 2 ?_;refine Aq (tn_ ?_);refine wr_ ?_;obtain ⟨y28,h28,h⟩:=Ad h;obtain ⟨g29,h⟩:=Am h;refine Ax 15 ?_;refine dz0 (.box (oi 2 1) 4) ?_;refine dzl (oS 5 1 u3.length) ?_;refine dz0 (.ftr nz_ sI y3) ?_;refine dz0 (tI x27) ?_;refine Lg (oI 896 10 y28.length) [nI 896 10 y28] [.ftr nz_ sI y3,tI x27] _ (caps:=[]) (args0:=[tS y3,tI x27]) trivial (by kernel_rfl) (E4 (S8 h28)) S5 ?_;refine Aad (oS 57 11 1) (oi 57 11) (.vec 23 1 1 ([oI 896 10 y28.length])) trivial (G1 (by kernel_rfl)) ?_;refine ds2 (oS 5 12 (u3.length+1)) (oi 5 1) (oi 5 12) (.vec 23 1 (u3.length+1) (hdL (oi 6 1) .int u3++[oI 896 10 y28.length])) (Dd (u:=.int) (t':=sI) (t2:=sI) (o:=oi 5 1) (q:=oi 57 11) (e2:=23) (p:=oi 6 1) (xss:=u3) (cs:=[oI 896 10 y28.length]) (len:=u3.length) (by kernel_rfl) (by kernel_rfl) rfl (by kernel_rfl) (by kernel_rfl) rfl g29) ?_;refine dz0 (.box (oi 2 1) 4) ?_;refine K7 (oi 2 1) (oi 2 1) (.cells 39 [an y3.length,ai u1,ai u0,oS 3 1 u4.length,oS 5 12 (u3.length+1),.nils,.ftr nz_ sI y5]) (by kernel_rfl) ?_;refine F5 (Bc (by kernel_rfl)) (bn_ (tn_ ?_));refine ⟨_,B8 (e1:=23) (e:=3) (u:=.int) (n:=u3.length+1) (len:=y28.length) (row:=y28) (ys:=y28) (xss:=u3) 9000 (oi 5 12) (oi 6 1) (oi 896 10) (by kernel_rfl) (by kernel_rfl) rfl (by kernel_rfl) (by kernel_rfl) (H2 rfl) (H1 rfl) (by kernel_rfl) (by kernel_rfl) (by kernel_rfl),?_⟩;obtain ⟨g30,h⟩:=Am h;refine Aa 18 ?_;refine zA g30 ?_;refine rsB 1 ?_;refine Aq (tn_ ?_);obtain rfl:=zj h;exact ⟨(uc+1,u3++[y28]),_,(C7 (oi 2 1) (.cells 39 [an y3.length,ai u1,ai u0,oS 3 1 u4.length,oS 5 12 (u3.length+1),.nils,.ftr nz_ sI y5]) (.cells 39 [an y3.length,ai u1,ai u0,oS 3 1 u4.length,oS 5 12 ((u3++[y28]).length),.nils,.ftr nz_ sI y5]) (by kernel_rfl) (congrArg (fun z_=>(.cells 39 [an y3.length,ai u1,ai u0,oS 3 1 u4.length,oS 5 12 z_,.nils,.ftr nz_ sI y5]:Ob)) ((by simp):u3.length+1=(u3++[y28]).length))).trans (Ac [(oi 5 1,oi 5 12),(oi 6 1,oi 9000 15)]),⟨uc+1,u3++[y28],rfl,rfl⟩,hn21⟩
  have q24_:=of_decide_eq_false q24;refine Ag q24 ?_;refine Au (te_ (te_ (be_ (tn_ ?_))));obtain rfl:=zj h;have h:=hn21
  (try dsimp only at h);obtain rfl:=zj h;exact ⟨_,Ac [],rfl⟩
 rintro ub _ rfl h
 (try dsimp only at h);refine Ab ?_;obtain ⟨y32,h32,h⟩:=Ad h;refine Aa 11 ?_;refine rsB 6 ?_;refine Cm (.ftr nz_ sI y32) [] [ai a0,ai u0,.ftr nz_ sI y3,tS u8] _ (caps:=[]) (args0:=[ai a0,ai u0,tS y3,tS u8]) trivial (by kernel_rfl) (Ld hz_ (Od h32)) N5 ?_;refine rsB 2 ?_;refine Aq (tn_ ?_);refine wr_ ?_;refine Al ?_;refine An ?_;obtain rfl:=zj h;exact Kk [(true,[an y3.length,ai u1,ai u0,oS 3 1 u4.length,oS 5 1 ub.length,.ftr nz_ sI y32,.ftr nz_ sI y5])] (Oa (Az C3 (Az C3 (Az C3 (Az (Bp (.mat (p:=oi 4 1) (e1:=23) (e:=3) (by kernel_rfl) (Bn (by kernel_rfl)) rfl)) (Az (Bp (.mat (p:=oi 6 1) (e1:=23) (e:=3) (by kernel_rfl) (Bn (by kernel_rfl)) rfl)) (Az (Bp .ftr) (Az (Bp .ftr) Oe))))))) Gz)
def Rl:AC :=
 (.seq (rg [xs1 55 54 53])
 (.seq (.cond (tm 55)
  .skip
  (.exit 4))
 (.seq (.block 5 (.seq (rg [xx 56 1 52 54,xl 57 56,xm 15 57])
 (rg [xm 58 13,xm 59 3,xm 60 15,xx 61 1 59 60,xl 62 61,xo 63 (.mkS 3 .int [tm 62]),xo 64 (.append 3 .int 8 (tm 58) (tm 63)),xm 13 64])))
 (rg [xa 65 54,xm 54 65]))))
def Ra:AC :=
 (.seq (rg [xs1 32 31 30])
 (.seq (.cond (tm 32)
  .skip
  (.exit 2))
 (.seq (.block 3 (.seq (rg [xm 33 31,xm 12 33])
 (.region [xm 34 3,xm 35 12,xm 36 0,xm 37 3,xm 38 12,xx 39 1 37 38,xl 40 39,xm 41 0,xm 42 11,xm 43 10,xm 44 12,xx 45 1 43 44,xl 46 45,xo 47 (qc 48 [tm 41,tm 42,tm 46] [[],[],[]]),xo 48 (qc 47 [tm 36,tm 40,tm 47] [[],[],[]]),xx 49 1 34 35,xn (qs (tm 49) (tm 48))] true [(6,13)])))
 (rg [xa 50 31,xm 31 50]))))
def Rm:AC :=
 (.seq (rg [xs1 21 20 19])
 (.seq (.cond (tm 21)
  .skip
  (.exit 0))
 (.seq (.block 1 (.seq (rg [xx 22 1 18 20,xl 23 22,xm 10 23])
 (.seq (rg [xm 24 3,xm 25 10,xo 26 (qc 24 [tm 25] [[some .int]]),xx 27 1 24 26,xl 28 27,xm 11 28])
 (.seq (rg [xm 29 3,xn1 30 29,xo 31 (qm (ci 0))])
 (.block 2 (.loop Ra))))))
 (rg [xa 51 20,xm 20 51]))))
def V7:AC :=
 (.seq (rg [xo 8 (qm (.cst .nils))])
 (.seq (rg [xm 16 3,xo 17 (qc 26 [tm 16] [[some .int]]),xm 3 17])
 (.seq (.seq (rg [xm 18 1,xn1 19 18,xo 20 (qm (ci 0))])
 (.block 0 (.loop Rm)))
 (.seq (rg [xo 13 (qm (.cst .nils))])
 (.seq (.seq (rg [xm 52 2,xn1 53 52,xo 54 (qm (ci 0))])
 (.block 4 (.loop Rl)))
 (.seq (rg [xm 66 13,xm 8 66])
 .ret))))))
def Ahf:List Res:=[.tmp 8]
theorem Aig:At Tryd.prog Tryd.f25=some (V7,Ahf):=by kernel_rfl
theorem Uu:Be Tryd.prog 25=true:=by kernel_rfl
def Gq (u2 x12:List Int) (a0 x15:Int) (u0:Nat) (u1:List Int):Option (Ctl (Nat×List Int) (List Int)) :=
 cond (decide ((u0:Int)<(u2.length:Int)))
 (Option.bind (u1[u0]?) fun x23 =>
 Option.bind (x12[u0]?) fun x24 =>
 Option.bind (Gr a0 x15 x24) fun y25 =>
 Option.bind (Jv a0 x23 y25) fun y26 =>
 og (u0+1<4611686018427387904) <|
 some (Ctl.next (u0+1,u1.set u0 y26)))
 (some (Ctl.out u1))
def Gs (a1:LL) (a0:Int) (u0:Nat) (u1:List Int):Option (Ctl (Nat×List Int) (List Int)) :=
 cond (decide ((u0:Int)<(a1.length:Int)))
 (Option.bind (Option.bind (a1[u0]?) fun x12 =>
  Option.bind (Ea x12) fun y14 =>
  Option.bind (E2 u1 y14) fun x15 =>
  Aw (fun s_:Nat×List Int=>Gq u1 x12 a0 x15 s_.1 s_.2) 4611686018427387904 (0,u1)) fun u2 =>
 og (u0+1<4611686018427387904) <|
 some (Ctl.next (u0+1,u2)))
 (some (Ctl.out u1))
def Ey (a2 u2:List Int) (u0:Nat) (u1:List Int):Option (Ctl (Nat×List Int) (List Int)) :=
 cond (decide ((u0:Int)<(a2.length:Int)))
 (Option.bind (a2[u0]?) fun x38 =>
 Option.bind (E2 u2 x38) fun x39 =>
 og (u1.length+1<=1073741824∧(u1.length+1)*8<=140737488355328) <|
 og (u0+1<4611686018427387904) <|
 some (Ctl.next (u0+1,u1++([x39]))))
 (some (Ctl.out u1))
def Hx (a0:Int) (a1:LL) (a2 a3:List Int):Option (List Int) :=
 Option.bind (C2 a3) fun y3 =>
Option.bind (Aw (fun s_:Nat×List Int=>Gs a1 a0 s_.1 s_.2) 4611686018427387904 (0,y3)) fun u0 =>
Option.bind (Aw (fun s_:Nat×List Int=>Ey a2 u0 s_.1 s_.2) 4611686018427387904 (0,[])) fun u1 =>
some u1
def Adm (r:List Int):RV:=⟨false,[(false,[.new 3 .int r])]⟩
theorem U3 {a0:Int} {a1:LL} {a2 a3 r:List Int} (h:Hx a0 a1 a2 a3=some r):A0 Tryd.prog Tab 25 [ai a0,tS a1,tI a2,tI a3] (Adm r):=by
 refine A1 (by kernel_rfl) Tryd.func25 Aig (n:=67) (by kernel_rfl) (by simp) (tl:=[(0,ai a0),(1,tS a1),(2,tI a2),(3,tI a3)]) rfl ?_;unfold V7;unfold Hx at h;refine Al ?_;refine Ab ?_;obtain ⟨y3,h3,h⟩:=Ad h;refine Aa 5 ?_;refine rsB 1 ?_;refine zc (oI 272 3 y3.length) [nI 272 3 y3] [tI a3] (Fc h3) ?_;refine rsB 1 ?_;refine Aq (tn_ ?_);refine wr_ ?_;refine Ar h (fun (u5:List Int) S_=>S_=⟨Ao [(2,tI a2),(3,oI 0 1 u5.length)],Aj (Ap [(oi 0 1,.arr 3 .int u5)]),2⟩) ?_ ?_
 ·intro v_ h;refine Al ?_;refine Ae ?_;refine Av h (fun t_ S_=>∃ (u3:Nat),∃ (u4:List Int),t_=(u3,u4)∧S_=⟨Ao [(0,ai a0),(2,tI a2),(3,oI 0 1 u4.length),(18,tS a1),(19,an a1.length),(20,an u3)],Aj (Ap [(oi 0 1,.arr 3 .int u4)]),2⟩) ⟨_,Ac [(oi 0 1,oi 272 3)],⟨0,y3,rfl,rfl⟩⟩ ?_;rintro n_ _ _ c_ ⟨u3,u4,rfl,rfl⟩ h hn6
  (try dsimp only at h);unfold Gs at h;unfold Rm;refine Al ?_;refine Ab ?_;rcases Af h with ⟨q9,h⟩ | ⟨q9,h⟩
  ·have q9_:=of_decide_eq_true q9;refine Ah q9 ?_;refine Ai (tn_ ?_);refine wr_ ?_;refine Ar h (fun (u6:List Int) S_=>S_=⟨Ao [(0,ai a0),(2,tI a2),(3,oI 0 1 u6.length),(18,tS a1),(19,an a1.length),(20,an u3)],Aj (Ap [(oi 0 1,.arr 3 .int u6)]),2⟩) ?_ ?_
   ·intro v_ h;refine Ae ?_;refine Ab ?_;obtain ⟨x12,e12,h⟩:=Ad h;refine Aa 6 ?_;refine zI sI e12 ?_;refine rsB 2 ?_;refine Aq (tn_ ?_);refine wr_ ?_;refine Ab ?_;obtain ⟨y14,h14,h⟩:=Ad h;obtain ⟨x15,f15,h⟩:=Ad h;obtain ⟨p15,b15,e15⟩:=Ba f15;refine Aa 12 ?_;refine rsB 2 ?_;refine zc (ai y14) [] [tI x12] (Jd h14) ?_;refine rs0 (.elt (oi 0 1) y14.toNat 0) (zo (t:=.int) (o:=oi 0 1) (len:=u4.length) (k:=.i64) (m:=y14) p15 (As e15)) ?_;refine zE (oi 0 1) e15 ?_;refine rsB 1 ?_;refine Aq (tn_ ?_);refine wr_ ?_;refine Al ?_;refine Ae ?_;refine Av h (fun t_ S_=>∃ (u1:Nat),∃ (u0:List Int),t_=(u1,u0)∧S_=⟨Ao [(0,ai a0),(2,tI a2),(3,oI 0 1 u0.length),(10,tI x12),(11,ai x15),(18,tS a1),(19,an a1.length),(20,an u3),(30,an u4.length),(31,an u1)],Aj (Ap [(oi 0 1,.arr 3 .int u0)]),2⟩) ⟨_,Ac [],⟨0,u4,rfl,rfl⟩⟩ ?_;rintro n_ _ _ c_ ⟨u1,u0,rfl,rfl⟩ h hn17
    (try dsimp only at h);unfold Gq at h;unfold Ra;refine Al ?_;refine Ab ?_;rcases Af h with ⟨q20,h⟩ | ⟨q20,h⟩
    ·have q20_:=of_decide_eq_true q20;refine Ah q20 ?_;refine Ai (tn_ ?_);refine wr_ ?_;refine Ab ?_;refine Ae ?_;refine Al ?_;obtain ⟨x23,e23,h⟩:=Ad h;obtain ⟨x24,e24,h⟩:=Ad h;obtain ⟨y25,h25,h⟩:=Ad h;obtain ⟨y26,h26,h⟩:=Ad h;refine Ax 22 ?_;refine dz0 (oI 0 1 u0.length) ?_;refine dz0 (an u1) ?_;refine dz0 (ai a0) ?_;refine dz0 (oI 0 1 u0.length) ?_;refine dz0 (an u1) ?_;refine dzO (oi 0 1) .int u0.length (As e23) ?_;refine dzE (oi 0 1) e23 ?_;refine dz0 (ai a0) ?_;refine dz0 (ai x15) ?_;refine dz0 (tI x12) ?_;refine dz0 (an u1) ?_;refine dzI .int e24 ?_;refine dz0 (ai x24) ?_;refine dzc (ai y25) [] [ai a0,ai x15,ai x24] (M8 h25) ?_;refine dzc (ai y26) [] [ai a0,ai x23,ai y25] (X8 h26) ?_;refine dzO (oi 0 1) .int u0.length (As e23) ?_;refine dzS (oi 0 1) (y26) e23 ?_;refine F5 (Bc (by kernel_rfl)) (bn_ (tn_ ?_));refine wr_ ?_;obtain ⟨g27,h⟩:=Am h;refine Aa 24 ?_;refine zA g27 ?_;refine rsB 1 ?_;refine Aq (tn_ ?_);obtain rfl:=zj h;exact ⟨(u1+1,u0.set u1 y26),_,(A8 3 (oI 0 1 u0.length) (oI 0 1 ((u0.set u1 y26).length)) (by kernel_rfl) (congrArg (fun z_=>((oI 0 1 z_):AV)) (((rfl:u0.length=u0.length).trans List.length_set.symm):u0.length=(u0.set u1 y26).length))).trans (Ac []),⟨u1+1,u0.set u1 y26,rfl,rfl⟩,hn17⟩
    have q20_:=of_decide_eq_false q20;refine Ag q20 ?_;refine Au (te_ (te_ (be_ (bn_ (tn_ ?_)))));obtain rfl:=zj h;have h:=hn17
    (try dsimp only at h);obtain rfl:=zj h;exact ⟨_,Ac [],rfl⟩
   rintro u6 _ rfl h
   (try dsimp only at h);obtain ⟨g28,h⟩:=Am h;refine Aa 4 ?_;refine zA g28 ?_;refine rsB 1 ?_;refine Aq (tn_ ?_);obtain rfl:=zj h;exact ⟨(u3+1,u6),_,Ac [],⟨u3+1,u6,rfl,rfl⟩,hn6⟩
  have q9_:=of_decide_eq_false q9;refine Ag q9 ?_;refine Au (te_ (te_ (be_ (tn_ ?_))));obtain rfl:=zj h;have h:=hn6
  (try dsimp only at h);obtain rfl:=zj h;exact ⟨_,Ac [],rfl⟩
 rintro u5 _ rfl h
 (try dsimp only at h);refine Al ?_;refine Ar h (fun (u8:List Int) S_=>S_=⟨Ao [(13,oI 0 1 u8.length)],Aj (Ap [(oi 0 1,.arr 3 .int u8)]),2⟩) ?_ ?_
 ·intro v_ h;refine Al ?_;refine Ae ?_;refine Av h (fun t_ S_=>∃ (u7:Nat),∃ (u2:List Int),t_=(u7,u2)∧S_=⟨Ao [(3,oI 0 1 u5.length),(13,oI 1 1 u2.length),(52,tI a2),(53,an a2.length),(54,an u7)],Aj (Ap [(oi 0 1,.arr 3 .int u5),(oi 1 1,.arr 3 .int u2)]),2⟩) ⟨_,(My 13 3 .int rfl (by kernel_rfl)).trans (Ac [(oi 1 1,oi 13 6)]),⟨0,[],rfl,rfl⟩⟩ ?_;rintro n_ _ _ c_ ⟨u7,u2,rfl,rfl⟩ h hn32
  (try dsimp only at h);unfold Ey at h;unfold Rl;refine Al ?_;refine Ab ?_;rcases Af h with ⟨q35,h⟩ | ⟨q35,h⟩
  ·have q35_:=of_decide_eq_true q35;refine Ah q35 ?_;refine Ai (tn_ ?_);refine wr_ ?_;refine Ab ?_;refine Ae ?_;refine Ab ?_;obtain ⟨x38,e38,h⟩:=Ad h;refine Aa 6 ?_;refine zI .int e38 ?_;refine rsB 2 ?_;refine Aq (tn_ ?_);refine wr_ ?_;obtain ⟨x39,f39,h⟩:=Ad h;obtain ⟨p39,b39,e39⟩:=Ba f39;obtain ⟨g40,h⟩:=Am h;refine Aa 14 ?_;refine rsB 3 ?_;refine rs0 (.elt (oi 0 1) x38.toNat 0) (zo (t:=.int) (o:=oi 0 1) (len:=u5.length) (k:=.i64) (m:=x38) p39 (As e39)) ?_;refine zE (oi 0 1) e39 ?_;refine rsB 1 ?_;refine rs2 (oI 1 12 ((u2++([x39])).length)) (oi 1 1) (oi 1 12) (.arr 3 .int (u2++([x39]))) (I9 (t:=.int) (t':=.int) (xs:=u2) (ys:=[x39]) (zs:=u2++([x39])) (j:=oi 1 1) (len:=u2.length) (c:=oI 63 11 1) (by kernel_rfl) (by kernel_rfl) rfl (by kernel_rfl) (Ma (e:=3) (by kernel_rfl) rfl) rfl g40) ?_;refine rsB 1 ?_;refine Aq (bn_ (tn_ ?_));refine wr_ ?_;obtain ⟨g41,h⟩:=Am h;refine Aa 16 ?_;refine zA g41 ?_;refine rsB 1 ?_;refine Aq (tn_ ?_);obtain rfl:=zj h;exact ⟨(u7+1,u2++([x39])),_,Ac [(oi 1 1,oi 1 12)],⟨u7+1,u2++([x39]),rfl,rfl⟩,hn32⟩
  have q35_:=of_decide_eq_false q35;refine Ag q35 ?_;refine Au (te_ (te_ (be_ (tn_ ?_))));obtain rfl:=zj h;have h:=hn32
  (try dsimp only at h);obtain rfl:=zj h;exact ⟨_,Ac [(oi 0 1,oi 1 1)],rfl⟩
 rintro u8 _ rfl h
 (try dsimp only at h);refine Al ?_;refine An ?_;obtain rfl:=zj h;exact Bo [oI 0 1 u8.length] (A2 rfl (Fy (by kernel_rfl) rfl) A5)
def Ni:AC :=
 (.seq (rg [xs1 92 91 90])
 (.seq (.cond (tm 92)
  .skip
  (.exit 6))
 (.seq (.block 7 (.seq (rg [xx 93 1 89 91,xl 94 93,xm 15 94])
 (.region [xf 95 4 11,xl 96 95,xm 97 0,xm 98 5,xm 99 6,xm 100 15,xo 101 (qc 25 [tm 97,tm 98,tm 99,tm 100] [[],[some sI],[some .int],[some .int]]),xo 102 (.mkV 23 sI 1 [tm 101]),xo 103 (.appV 23 sI 24 (tm 96) (tm 102)),xf 104 4 11,xn (qs (tm 104) (tm 103))] true [(1,6),(1,7)])))
 (rg [xa 105 91,xm 91 105]))))
def Ns:AC :=
 (.seq (rg [xs1 59 58 57])
 (.seq (.cond (tm 59)
  .skip
  (.exit 4))
 (.seq (.block 5 (.seq (rg [xx 60 1 56 58,xl 61 60,xm 13 61])
 (.seq (.region [xf 62 3 11,xl 63 62,xm 64 0,xm 65 5,xm 66 6,xf 67 3 3,xl 68 67,xm 69 13,xx 70 1 68 69,xl 71 70,xo 72 (qc 25 [tm 64,tm 65,tm 66,tm 71] [[],[some sI],[some .int],[some .int]]),xo 73 (.mkV 23 sI 1 [tm 72]),xo 74 (.appV 23 sI 24 (tm 63) (tm 73)),xf 75 3 11,xn (qs (tm 75) (tm 74))] true [(1,10),(1,11)])
 (.region [xf 76 5 11,xl 77 76,xf 78 5 3,xl 79 78,xm 80 13,xx 81 1 79 80,xl 82 81,xo 83 (qc 26 [tm 82] [[some .int]]),xo 84 (.mkV 23 sI 1 [tm 83]),xo 85 (.appV 23 sI 24 (tm 77) (tm 84)),xf 86 5 11,xn (qs (tm 86) (tm 85))] true [(1,7),(1,8)]))))
 (rg [xa 87 58,xm 58 87]))))
def Nr:AC :=
 (.seq (rg [xs1 31 30 29])
 (.seq (.cond (tm 31)
  .skip
  (.exit 2))
 (.seq (.block 3 (.seq (rg [xx 32 1 28 30,xl 33 32,xm 10 33])
 (rg [xm 34 8,xm 35 34,⟨some 36,some (35,true),qm (tm 10)⟩,⟨some 37,some (35,true),qc 24 [tm 36] [[some .int]]⟩,⟨some 38,some (35,true),qm (tm 7)⟩,⟨some 39,some (35,true),qb .neq (tm 37) (tm 38)⟩,xo 40 (.i (.pick (tm 35) (tm 39) (cb false))),xm 8 40])))
 (rg [xa 41 30,xm 30 41]))))
def Ng:AC :=
 (.seq (.seq (rg [xm 22 7,xf 23 0 3,xl 24 23,xs1 25 22 24])
 (.cond (tm 25)
  .skip
  (.exit 0)))
 (.seq (.block 1 (.seq (rg [xo 8 (qm (cb true))])
 (.seq (.seq (rg [xm 28 5,xn1 29 28,xo 30 (qm (ci 0))])
 (.block 2 (.loop Nr)))
 (.seq (rg [xm 42 8])
 (.cond (tm 42)
  (rg [xm 43 6,xm 44 7,xo 45 (.mkS 3 .int [tm 44]),xo 46 (.append 3 .int 8 (tm 43) (tm 45)),xm 6 46])
  .skip)))))
 (rg [xm 26 7,xa 27 26,xm 7 27])))
def Qx:AC :=
 (.seq (rg [xo 3 (.i (.box 39 (tm 1))),xo 4 (.i (.alloc 39 [.int .i64 0,.int .i64 0,.int .i64 0,.nils,.nils,.nils,.nils]))])
 (.seq (rg [xm 16 0,xo 17 (.i (.ld false 7 (tm 3))),xo 18 (qc 22 [tm 16,tm 17] [[],[none,none,none,some sI,some sI,some sI,some sI]]),xn (.st false 7 (tm 3) (tm 18))])
 (.seq (rg [xm 19 0,xo 20 (.i (.ld false 7 (tm 3))),xo 21 (qc 23 [tm 19,tm 20] [[],[none,none,none,some sI,some sI,some sI,some sI]]),xm 5 21])
 (.seq (rg [xo 6 (qm (.cst .nils))])
 (.seq (.seq (rg [xo 7 (qm (ci 0))])
 (.block 0 (.loop Ng)))
 (.seq (rg [xm 47 6,xn1 48 47,xf 49 1 3,xl 50 49,xf 51 2 3,xl 52 51,xf 53 6 3,xl 54 53,xo 55 (.build [.int .i64 0,.int .i64 0,.int .i64 0,.nils,.nils,.nils,.nils] [(0,1,tm 48),(1,1,tm 50),(2,1,tm 52),(6,1,tm 54)]),xo 11 (.i (.alloc 39 [.int .i64 0,.int .i64 0,.int .i64 0,.nils,.nils,.nils,.nils])),xn (.st false 7 (tm 11) (tm 55))])
 (.seq (.seq (rg [xm 56 6,xn1 57 56,xo 58 (qm (ci 0))])
 (.block 4 (.loop Ns)))
 (.seq (.seq (rg [xf 88 4 3,xl 89 88,xn1 90 89,xo 91 (qm (ci 0))])
 (.block 6 (.loop Ni)))
 (.seq (rg [xo 106 (.i (.ld false 7 (tm 11))),xn (.st false 7 (tm 4) (tm 106))])
 .ret)))))))))
def Aag:List Res:=[.cell 4 false 7]
theorem Zr:At Tryd.prog Tryd.f12=some (Qx,Aag):=by kernel_rfl
def Eh (y5:LL) (u2:Nat) (u1:Bool) (u0:Nat):Option (Ctl (Bool×Nat) Bool) :=
 cond (decide ((u0:Int)<(y5.length:Int)))
 (Option.bind (Option.bind (y5[u0]?) fun x23 =>
  cond u1
   (Option.bind (Ea x23) fun y25 =>
   some (y25 !=(u2:Int)))
   (some false)) fun u3 =>
 og (u0+1<4611686018427387904) <|
 some (Ctl.next (u3,u0+1)))
 (some (Ctl.out u1))
def Eo (y3:Int×Int×Int×LL×LL×LL×LL) (y5:LL) (u0:Nat) (u1:List Int):Option (Ctl (Nat×List Int) (List Int)) :=
 cond (decide ((u0:Int)<y3.1))
 (Option.bind (Option.bind (Aw (fun s_:Bool×Nat=>Eh y5 u0 s_.1 s_.2) 4611686018427387904 (true,0)) fun u2 =>
  cond u2
   (og (u1.length+1<=1073741824∧(u1.length+1)*8<=140737488355328) <|
   some (u1++([(u0:Int)])))
   (some u1)) fun u3 =>
 og (u0+1<4611686018427387904) <|
 some (Ctl.next (u0+1,u3)))
 (some (Ctl.out u1))
def En (u3:List Int) (y3:Int×Int×Int×LL×LL×LL×LL) (a0:Int) (y5:LL) (u0:Nat) (u1 u2:LL):Option (Ctl (Nat×LL×LL) (LL×LL)) :=
 cond (decide ((u0:Int)<(u3.length:Int)))
 (Option.bind (u3[u0]?) fun x40 =>
 Option.bind (E2 y3.2.2.2.1 x40) fun x42 =>
 Option.bind (Hx a0 y5 u3 x42) fun y43 =>
 og (u1.length+1<=1073741824∧(u1.length+1)*24<=140737488355328) <|
 Option.bind (E2 y3.2.2.2.2.2.1 x40) fun x45 =>
 Option.bind (C2 x45) fun y46 =>
 og (u2.length+1<=1073741824∧(u2.length+1)*24<=140737488355328) <|
 og (u0+1<4611686018427387904) <|
 some (Ctl.next (u0+1,u1++[y43],u2++[y46])))
 (some (Ctl.out (u1,u2)))
def C9 (y3:Int×Int×Int×LL×LL×LL×LL) (a0:Int) (y5:LL) (u2:List Int) (u0:Nat) (u1:LL):Option (Ctl (Nat×LL) (LL)) :=
 cond (decide ((u0:Int)<(y3.2.2.2.2.1.length:Int)))
 (Option.bind (y3.2.2.2.2.1[u0]?) fun x57 =>
 Option.bind (Hx a0 y5 u2 x57) fun y58 =>
 og (u1.length+1<=1073741824∧(u1.length+1)*24<=140737488355328) <|
 og (u0+1<4611686018427387904) <|
 some (Ctl.next (u0+1,u1++[y58])))
 (some (Ctl.out u1))
def Ew (a0 u1:Int) (u2 u3:Int) (u4 u5:LL) (u6 u7:LL):Option (Int×Int×Int×LL×LL×LL×LL) :=
 Option.bind (Fh a0 u1 u2 u3 u4 u5 u6 u7) fun y3 =>
Option.bind (Il a0 y3.1 y3.2.1 y3.2.2.1 y3.2.2.2.1 y3.2.2.2.2.1 y3.2.2.2.2.2.1 y3.2.2.2.2.2.2) fun y5 =>
Option.bind (Aw (fun s_:Nat×List Int=>Eo y3 y5 s_.1 s_.2) 4611686018427387904 (0,[])) fun u0 =>
Option.bind (Aw (fun s_:Nat×LL×LL=>En u0 y3 a0 y5 s_.1 s_.2.1 s_.2.2) 4611686018427387904 (0,([]:LL),([]:LL))) fun (u8,u9) =>
Option.bind (Aw (fun s_:Nat×LL=>C9 y3 a0 y5 u0 s_.1 s_.2) 4611686018427387904 (0,([]:LL))) fun ua =>
some ((u0.length:Int),y3.2.1,y3.2.2.1,u8,ua,u9,y3.2.2.2.2.2.2)
def Yk (r:Int×Int×Int×LL×LL×LL×LL):RV:=⟨false,[(true,[.sc (.int .i64 r.1),.sc (.int .i64 r.2.1),.sc (.int .i64 r.2.2.1),.frz (tS r.2.2.2.1),.frz (tS r.2.2.2.2.1),.frz (tS r.2.2.2.2.2.1),.frz (tS r.2.2.2.2.2.2)])]⟩
set_option maxHeartbeats 1600000 in
theorem Zc {a0 ud:Int} {ue uf:Int} {ug uh:LL} {ui uj:LL} {r:Int×Int×Int×LL×LL×LL×LL} (h:Ew a0 ud ue uf ug uh ui uj=some r):A0 Tryd.prog Tab 12 [ai a0,.agg [ai ud,ai ue,ai uf,tS ug,tS uh,tS ui,tS uj]] (Yk r):=by
 refine Ej (by kernel_rfl) Tryd.func12 Zr (n:=107) (by kernel_rfl) (by simp) (tl:=[(0,ai a0),(1,.agg [ai ud,ai ue,ai uf,tS ug,tS uh,tS ui,tS uj])]) rfl fun zn_ nz_ hz_=>?_
 unfold Qx;unfold Ew at h;refine Al ?_;refine Ab ?_;obtain ⟨y3,h3,h⟩:=Ad h;refine Aa 7 ?_;refine rsB 2 ?_;refine zc (.agg [ai y3.1,ai y3.2.1,ai y3.2.2.1,.ftr nz_ sI y3.2.2.2.1,.ftr nz_ sI y3.2.2.2.2.1,.ftr nz_ sI y3.2.2.2.2.2.1,.ftr nz_ sI y3.2.2.2.2.2.2]) [] [ai a0,.agg [ai ud,ai ue,ai uf,tS ug,tS uh,tS ui,tS uj]] (Ld hz_ (Zi h3)) ?_;refine rsB 1 ?_;refine Aq (tn_ ?_);refine wr_ ?_;refine Ab ?_;obtain ⟨y5,h5,h⟩:=Ad h;refine Aa 11 ?_;refine rsB 2 ?_;refine Cm (.ftr nz_ sI y5) [] [ai a0,.agg [ai y3.1,ai y3.2.1,ai y3.2.2.1,.ftr nz_ sI y3.2.2.2.1,.ftr nz_ sI y3.2.2.2.2.1,.ftr nz_ sI y3.2.2.2.2.2.1,.ftr nz_ sI y3.2.2.2.2.2.2]] _ (caps:=[]) (args0:=[ai a0,.agg [ai y3.1,ai y3.2.1,ai y3.2.2.1,tS y3.2.2.2.1,tS y3.2.2.2.2.1,tS y3.2.2.2.2.2.1,tS y3.2.2.2.2.2.2]]) trivial (by kernel_rfl) (Ld hz_ (Ab0 h5)) Aby ?_;refine rsB 1 ?_;refine Aq (tn_ ?_);refine wr_ ?_;refine Al ?_;refine Ar h (fun (u0:List Int) S_=>S_=⟨Ao [(0,ai a0),(3,.box (oi 0 1) 0),(4,.box (oi 1 1) 0),(5,.ftr nz_ sI y5),(6,oI 2 1 u0.length)],Aj (Ap [(oi 0 1,.cells 39 [ai y3.1,ai y3.2.1,ai y3.2.2.1,.ftr nz_ sI y3.2.2.2.1,.ftr nz_ sI y3.2.2.2.2.1,.ftr nz_ sI y3.2.2.2.2.2.1,.ftr nz_ sI y3.2.2.2.2.2.2]),(oi 1 1,.cells 39 [ai 0,ai 0,ai 0,.nils,.nils,.nils,.nils]),(oi 2 1,.arr 3 .int u0)]),2⟩) ?_ ?_
 ·intro v_ h;refine Al ?_;refine Ae ?_;refine Av h (fun t_ S_=>∃ (u6:Nat),∃ (u7:List Int),t_=(u6,u7)∧S_=⟨Ao [(0,ai a0),(3,.box (oi 0 1) 0),(4,.box (oi 1 1) 0),(5,.ftr nz_ sI y5),(6,oI 2 1 u7.length),(7,an u6)],Aj (Ap [(oi 0 1,.cells 39 [ai y3.1,ai y3.2.1,ai y3.2.2.1,.ftr nz_ sI y3.2.2.2.1,.ftr nz_ sI y3.2.2.2.2.1,.ftr nz_ sI y3.2.2.2.2.2.1,.ftr nz_ sI y3.2.2.2.2.2.2]),(oi 1 1,.cells 39 [ai 0,ai 0,ai 0,.nils,.nils,.nils,.nils]),(oi 2 1,.arr 3 .int u7)]),2⟩) ⟨_,(My 6 3 .int rfl (by kernel_rfl)).trans (Ac [(oi 0 1,oi 3 1),(oi 1 1,oi 4 2),(oi 2 1,oi 6 13)]),⟨0,[],rfl,rfl⟩⟩ ?_;rintro n_ _ _ c_ ⟨u6,u7,rfl,rfl⟩ h hn9
  (try dsimp only at h);unfold Eo at h;unfold Ng;refine Ab ?_;refine Al ?_;rcases Af h with ⟨q12,h⟩ | ⟨q12,h⟩
  ·have q12_:=of_decide_eq_true q12;refine Ah q12 ?_;refine Ai (tn_ ?_);refine wr_ ?_;refine Ar h (fun (ua:List Int) S_=>S_=⟨Ao [(0,ai a0),(3,.box (oi 0 1) 0),(4,.box (oi 1 1) 0),(5,.ftr nz_ sI y5),(6,oI 2 1 ua.length),(7,an u6)],Aj (Ap [(oi 0 1,.cells 39 [ai y3.1,ai y3.2.1,ai y3.2.2.1,.ftr nz_ sI y3.2.2.2.1,.ftr nz_ sI y3.2.2.2.2.1,.ftr nz_ sI y3.2.2.2.2.2.1,.ftr nz_ sI y3.2.2.2.2.2.2]),(oi 1 1,.cells 39 [ai 0,ai 0,ai 0,.nils,.nils,.nils,.nils]),(oi 2 1,.arr 3 .int ua)]),2⟩) ?_ ?_
   ·intro v_ h;refine Ae ?_;refine Al ?_;refine Ar h (fun (um:Bool) S_=>S_=⟨Ao [(0,ai a0),(3,.box (oi 0 1) 0),(4,.box (oi 1 1) 0),(5,.ftr nz_ sI y5),(6,oI 2 1 u7.length),(7,an u6),(8,.bool um)],Aj (Ap [(oi 0 1,.cells 39 [ai y3.1,ai y3.2.1,ai y3.2.2.1,.ftr nz_ sI y3.2.2.2.1,.ftr nz_ sI y3.2.2.2.2.1,.ftr nz_ sI y3.2.2.2.2.2.1,.ftr nz_ sI y3.2.2.2.2.2.2]),(oi 1 1,.cells 39 [ai 0,ai 0,ai 0,.nils,.nils,.nils,.nils]),(oi 2 1,.arr 3 .int u7)]),2⟩) ?_ ?_
    ·intro v_ h;refine Al ?_;refine Ae ?_;refine Av h (fun t_ S_=>∃ (ul:Bool),∃ (u8:Nat),t_=(ul,u8)∧S_=⟨Ao [(0,ai a0),(3,.box (oi 0 1) 0),(4,.box (oi 1 1) 0),(5,.ftr nz_ sI y5),(6,oI 2 1 u7.length),(7,an u6),(8,.bool ul),(28,.ftr nz_ sI y5),(29,an y5.length),(30,an u8)],Aj (Ap [(oi 0 1,.cells 39 [ai y3.1,ai y3.2.1,ai y3.2.2.1,.ftr nz_ sI y3.2.2.2.1,.ftr nz_ sI y3.2.2.2.2.1,.ftr nz_ sI y3.2.2.2.2.2.1,.ftr nz_ sI y3.2.2.2.2.2.2]),(oi 1 1,.cells 39 [ai 0,ai 0,ai 0,.nils,.nils,.nils,.nils]),(oi 2 1,.arr 3 .int u7)]),2⟩) ⟨_,Ac [],⟨true,0,rfl,rfl⟩⟩ ?_;rintro n_ _ _ c_ ⟨ul,u8,rfl,rfl⟩ h hn17
     (try dsimp only at h);unfold Eh at h;unfold Nr;refine Al ?_;refine Ab ?_;rcases Af h with ⟨q20,h⟩ | ⟨q20,h⟩
     ·have q20_:=of_decide_eq_true q20;refine Ah q20 ?_;refine Ai (tn_ ?_);refine wr_ ?_;refine Ar h (fun (uk:Bool) S_=>S_=⟨Ao [(0,ai a0),(3,.box (oi 0 1) 0),(4,.box (oi 1 1) 0),(5,.ftr nz_ sI y5),(6,oI 2 1 u7.length),(7,an u6),(8,.bool uk),(28,.ftr nz_ sI y5),(29,an y5.length),(30,an u8)],Aj (Ap [(oi 0 1,.cells 39 [ai y3.1,ai y3.2.1,ai y3.2.2.1,.ftr nz_ sI y3.2.2.2.1,.ftr nz_ sI y3.2.2.2.2.1,.ftr nz_ sI y3.2.2.2.2.2.1,.ftr nz_ sI y3.2.2.2.2.2.2]),(oi 1 1,.cells 39 [ai 0,ai 0,ai 0,.nils,.nils,.nils,.nils]),(oi 2 1,.arr 3 .int u7)]),2⟩) ?_ ?_
      ·intro v_ h;refine Ae ?_;refine Ab ?_;obtain ⟨x23,e23,h⟩:=Ad h;refine Aa 6 ?_;refine rs0 (.telt (some nz_) sI x23 0) (zi (t:=sI) (xs:=y5) (k:=.i64) (m:=(u8:Int)) (Dp _) e23) ?_;refine rsB 2 ?_;refine Aq (tn_ ?_);refine wr_ ?_;rcases Af h with ⟨q24,h⟩ | ⟨q24,h⟩
       ·obtain ⟨y25,h25,h⟩:=Ad h;refine Aa 14 ?_;refine rsB 2 ?_;refine rs0 (.ftr nz_ .int x23) (zg q24) ?_;refine Cm (ai y25) [] [.ftr nz_ .int x23] _ (caps:=[]) (args0:=[tI x23]) (F8 (by kernel_rfl) q24) (by kernel_rfl) (E4 (Jd h25)) Ph ?_;refine rs0 (an u6) (zg q24) ?_;refine rs0 (.bool (y25 !=(u6:Int))) (zg q24) ?_;refine rs0 (.bool (y25 !=(u6:Int))) (zT q24) ?_;refine rsB 1 ?_;refine Aq (bn_ (tn_ ?_));obtain rfl:=zj h;exact ⟨_,Ac [],rfl⟩
       refine Aa 14 ?_;refine rsB 2 ?_;refine zs q24 ?_;refine zs q24 ?_;refine zs q24 ?_;refine zs q24 ?_;refine rs0 (.bool false) (zF q24) ?_;refine rsB 1 ?_;refine Aq (bn_ (tn_ ?_));obtain rfl:=zj h;exact ⟨_,Ac [],rfl⟩
      rintro uk _ rfl h
      (try dsimp only at h);obtain ⟨g26,h⟩:=Am h;refine Aa 4 ?_;refine zA g26 ?_;refine rsB 1 ?_;refine Aq (tn_ ?_);obtain rfl:=zj h;exact ⟨(uk,u8+1),_,Ac [],⟨uk,u8+1,rfl,rfl⟩,hn17⟩
     have q20_:=of_decide_eq_false q20;refine Ag q20 ?_;refine Au (te_ (te_ (be_ (tn_ ?_))));obtain rfl:=zj h;have h:=hn17
     (try dsimp only at h);obtain rfl:=zj h;exact ⟨_,Ac [],rfl⟩
    rintro um _ rfl h
    (try dsimp only at h);refine Al ?_;rcases Af h with ⟨q28,h⟩ | ⟨q28,h⟩
    ·refine Ah q28 ?_;obtain ⟨g29,h⟩:=Am h;refine Aa 8 ?_;refine rsB 3 ?_;refine rs2 (oI 2 6 ((u7++([(u6:Int)])).length)) (oi 2 1) (oi 2 6) (.arr 3 .int (u7++([(u6:Int)]))) (I9 (t:=.int) (t':=.int) (xs:=u7) (ys:=[(u6:Int)]) (zs:=u7++([(u6:Int)])) (j:=oi 2 1) (len:=u7.length) (c:=oI 45 5 1) (by kernel_rfl) (by kernel_rfl) rfl (by kernel_rfl) (Ma (e:=3) (by kernel_rfl) rfl) rfl g29) ?_;refine rsB 1 ?_;refine Aq (bn_ (tn_ ?_));obtain rfl:=zj h;exact ⟨_,Ac [(oi 2 1,oi 2 6)],rfl⟩
    refine Ag q28 ?_;refine Ai (bn_ (tn_ ?_));obtain rfl:=zj h;exact ⟨_,Ac [],rfl⟩
   rintro ua _ rfl h
   (try dsimp only at h);obtain ⟨g30,h⟩:=Am h;refine Aa 5 ?_;refine rsB 1 ?_;refine zA g30 ?_;refine rsB 1 ?_;refine Aq (tn_ ?_);obtain rfl:=zj h;exact ⟨(u6+1,ua),_,Ac [],⟨u6+1,ua,rfl,rfl⟩,hn9⟩
  have q12_:=of_decide_eq_false q12;refine Ag q12 ?_;refine Au (te_ (te_ (be_ (tn_ ?_))));obtain rfl:=zj h;have h:=hn9
  (try dsimp only at h);obtain rfl:=zj h;exact ⟨_,Ac [],rfl⟩
 rintro u0 _ rfl h
 (try dsimp only at h);refine Al ?_;refine Ar h (fun t_ S_=>∃ (u4:LL),∃ (u5:LL),t_=(u4,u5)∧S_=⟨Ao [(0,ai a0),(3,.box (oi 0 1) 0),(4,.box (oi 1 1) 0),(5,.ftr nz_ sI y5),(6,oI 2 1 u0.length),(11,.box (oi 3 1) 0)],Aj (Ap [(oi 0 1,.cells 39 [ai y3.1,ai y3.2.1,ai y3.2.2.1,.ftr nz_ sI y3.2.2.2.1,.ftr nz_ sI y3.2.2.2.2.1,.ftr nz_ sI y3.2.2.2.2.2.1,.ftr nz_ sI y3.2.2.2.2.2.2]),(oi 1 1,.cells 39 [ai 0,ai 0,ai 0,.nils,.nils,.nils,.nils]),(oi 2 1,.arr 3 .int u0),(oi 3 1,.cells 39 [an u0.length,ai y3.2.1,ai y3.2.2.1,oS 4 1 u4.length,.nils,oS 6 1 u5.length,.ftr nz_ sI y3.2.2.2.2.2.2]),(oi 4 1,.mat 23 (oi 5 1) .int u4),(oi 5 1,.pool 3 .int u4),(oi 6 1,.mat 23 (oi 7 1) .int u5),(oi 7 1,.pool 3 .int u5)]),2⟩) ?_ ?_
 ·intro v_ h;refine Al ?_;refine Ae ?_;refine Av h (fun t_ S_=>∃ (ub:Nat),∃ (u1:LL),∃ (u2:LL),t_=(ub,u1,u2)∧S_=⟨Ao [(0,ai a0),(3,.box (oi 0 1) 0),(4,.box (oi 1 1) 0),(5,.ftr nz_ sI y5),(6,oI 2 1 u0.length),(11,.box (oi 3 1) 0),(56,oI 2 1 u0.length),(57,an u0.length),(58,an ub)],Aj (Ap [(oi 0 1,.cells 39 [ai y3.1,ai y3.2.1,ai y3.2.2.1,.ftr nz_ sI y3.2.2.2.1,.ftr nz_ sI y3.2.2.2.2.1,.ftr nz_ sI y3.2.2.2.2.2.1,.ftr nz_ sI y3.2.2.2.2.2.2]),(oi 1 1,.cells 39 [ai 0,ai 0,ai 0,.nils,.nils,.nils,.nils]),(oi 2 1,.arr 3 .int u0),(oi 3 1,.cells 39 [an u0.length,ai y3.2.1,ai y3.2.2.1,oS 4 1 u1.length,.nils,oS 6 1 u2.length,.ftr nz_ sI y3.2.2.2.2.2.2]),(oi 4 1,.mat 23 (oi 5 1) .int u1),(oi 5 1,.pool 3 .int u1),(oi 6 1,.mat 23 (oi 7 1) .int u2),(oi 7 1,.pool 3 .int u2)]),2⟩) ⟨_,(Bt 9000 (oi 11 11) 3 39 [an u0.length,ai y3.2.1,ai y3.2.2.1,.nils,.nils,.nils,.ftr nz_ sI y3.2.2.2.2.2.2] [an u0.length,ai y3.2.1,ai y3.2.2.1,oS 9000 16 0,.nils,.nils,.ftr nz_ sI y3.2.2.2.2.2.2] 23 sI (by kernel_rfl) (by kernel_rfl) (by kernel_rfl)).trans ((B2 (e1:=23) (n:=0) 9000 (oi 9000 16) 3 .int (by kernel_rfl) (by kernel_rfl) rfl (by kernel_rfl) (by kernel_rfl)).trans ((Bt 9002 (oi 11 11) 5 39 [an u0.length,ai y3.2.1,ai y3.2.2.1,oS 9000 16 0,.nils,.nils,.ftr nz_ sI y3.2.2.2.2.2.2] [an u0.length,ai y3.2.1,ai y3.2.2.1,oS 9000 16 0,.nils,oS 9002 18 0,.ftr nz_ sI y3.2.2.2.2.2.2] 23 sI (by kernel_rfl) (by kernel_rfl) (by kernel_rfl)).trans ((B2 (e1:=23) (n:=0) 9000 (oi 9002 18) 3 .int (by kernel_rfl) (by kernel_rfl) rfl (by kernel_rfl) (by kernel_rfl)).trans (Ac [(oi 3 1,oi 11 11),(oi 4 1,oi 9000 16),(oi 5 1,oi 9000 17),(oi 6 1,oi 9002 18),(oi 7 1,oi 9000 19)])))),⟨0,([]:LL),([]:LL),rfl,rfl⟩⟩ ?_;rintro n_ _ _ c_ ⟨ub,u1,u2,rfl,rfl⟩ h hn34
  (try dsimp only at h);unfold En at h;unfold Ns;refine Al ?_;refine Ab ?_;rcases Af h with ⟨q37,h⟩ | ⟨q37,h⟩
  ·have q37_:=of_decide_eq_true q37;refine Ah q37 ?_;refine Ai (tn_ ?_);refine wr_ ?_;refine Ab ?_;refine Ae ?_;refine Ab ?_;obtain ⟨x40,e40,h⟩:=Ad h;refine Aa 6 ?_;refine zO (oi 2 1) .int u0.length (As e40) ?_;refine zE (oi 2 1) e40 ?_;refine rsB 1 ?_;refine Aq (tn_ ?_);refine wr_ ?_;refine Ab ?_;obtain ⟨x42,f42,h⟩:=Ad h;obtain ⟨p42,b42,e42⟩:=Ba f42;obtain ⟨y43,h43,h⟩:=Ad h;obtain ⟨g44,h⟩:=Am h;refine Ax 21 ?_;refine dz0 (.box (oi 3 1) 3) ?_;refine dzl (oS 4 1 u1.length) ?_;refine dz0 (ai a0) ?_;refine dz0 (.ftr nz_ sI y5) ?_;refine dz0 (oI 2 1 u0.length) ?_;refine dz0 (.box (oi 0 1) 3) ?_;refine dzl (.ftr nz_ sI y3.2.2.2.1) ?_;refine dz0 (ai x40) ?_;refine ds0 (.telt (some nz_) sI x42 0) (zi (t:=sI) (xs:=y3.2.2.2.1) (k:=.i64) (m:=x40) p42 e42) ?_;refine dz0 (.ftr nz_ .int x42) ?_;refine Lg (oI 1152 16 y43.length) [nI 1152 16 y43] [ai a0,.ftr nz_ sI y5,oI 2 1 u0.length,.ftr nz_ .int x42] _ (caps:=[]) (args0:=[ai a0,tS y5,tI u0,tI x42]) trivial (Ay (by kernel_rfl) (Ay (by kernel_rfl) (Ay (Ca (e:=3) (by kernel_rfl) rfl) (Ay (by kernel_rfl) B9)))) (E4 (U3 h43)) Uu ?_;refine Aad (oS 73 17 1) (oi 73 17) (.vec 23 1 1 ([oI 1152 16 y43.length])) trivial (G1 (by kernel_rfl)) ?_;refine ds2 (oS 4 18 (u1.length+1)) (oi 4 1) (oi 4 18) (.vec 23 1 (u1.length+1) (hdL (oi 5 1) .int u1++[oI 1152 16 y43.length])) (Dd (u:=.int) (t':=sI) (t2:=sI) (o:=oi 4 1) (q:=oi 73 17) (e2:=23) (p:=oi 5 1) (xss:=u1) (cs:=[oI 1152 16 y43.length]) (len:=u1.length) (by kernel_rfl) (by kernel_rfl) rfl (by kernel_rfl) (by kernel_rfl) rfl g44) ?_;refine dz0 (.box (oi 3 1) 3) ?_;refine K7 (oi 3 1) (oi 3 1) (.cells 39 [an u0.length,ai y3.2.1,ai y3.2.2.1,oS 4 18 (u1.length+1),.nils,oS 6 1 u2.length,.ftr nz_ sI y3.2.2.2.2.2.2]) (by kernel_rfl) ?_;refine F5 (Bc (by kernel_rfl)) (tn_ ?_);refine ⟨_,B8 (e1:=23) (e:=3) (u:=.int) (n:=u1.length+1) (len:=y43.length) (row:=y43) (ys:=y43) (xss:=u1) 9000 (oi 4 18) (oi 5 1) (oi 1152 16) (by kernel_rfl) (by kernel_rfl) rfl (by kernel_rfl) (by kernel_rfl) (H2 rfl) (H1 rfl) (by kernel_rfl) (by kernel_rfl) (by kernel_rfl),?_⟩;obtain ⟨x45,f45,h⟩:=Ad h;obtain ⟨p45,b45,e45⟩:=Ba f45;obtain ⟨y46,h46,h⟩:=Ad h;obtain ⟨g47,h⟩:=Am h;refine Ax 34 ?_;refine dz0 (.box (oi 3 1) 5) ?_;refine dzl (oS 6 1 u2.length) ?_;refine dz0 (.box (oi 0 1) 5) ?_;refine dzl (.ftr nz_ sI y3.2.2.2.2.2.1) ?_;refine dz0 (ai x40) ?_;refine ds0 (.telt (some nz_) sI x45 0) (zi (t:=sI) (xs:=y3.2.2.2.2.2.1) (k:=.i64) (m:=x40) p45 e45) ?_;refine dz0 (.ftr nz_ .int x45) ?_;refine Lg (oI 1328 29 y46.length) [nI 1328 29 y46] [.ftr nz_ .int x45] _ (caps:=[]) (args0:=[tI x45]) trivial (by kernel_rfl) (E4 (Fc h46)) Ku ?_;refine Aad (oS 84 30 1) (oi 84 30) (.vec 23 1 1 ([oI 1328 29 y46.length])) trivial (G1 (by kernel_rfl)) ?_;refine ds2 (oS 6 31 (u2.length+1)) (oi 6 1) (oi 6 31) (.vec 23 1 (u2.length+1) (hdL (oi 7 1) .int u2++[oI 1328 29 y46.length])) (Dd (u:=.int) (t':=sI) (t2:=sI) (o:=oi 6 1) (q:=oi 84 30) (e2:=23) (p:=oi 7 1) (xss:=u2) (cs:=[oI 1328 29 y46.length]) (len:=u2.length) (by kernel_rfl) (by kernel_rfl) rfl (by kernel_rfl) (by kernel_rfl) rfl g47) ?_;refine dz0 (.box (oi 3 1) 5) ?_;refine K7 (oi 3 1) (oi 3 1) (.cells 39 [an u0.length,ai y3.2.1,ai y3.2.2.1,oS 4 18 (u1.length+1),.nils,oS 6 31 (u2.length+1),.ftr nz_ sI y3.2.2.2.2.2.2]) (by kernel_rfl) ?_;refine F5 (Bc (by kernel_rfl)) (bn_ (tn_ ?_));refine ⟨_,B8 (e1:=23) (e:=3) (u:=.int) (n:=u2.length+1) (len:=y46.length) (row:=y46) (ys:=y46) (xss:=u2) 9000 (oi 6 31) (oi 7 1) (oi 1328 29) (by kernel_rfl) (by kernel_rfl) rfl (by kernel_rfl) (by kernel_rfl) (H2 rfl) (H1 rfl) (by kernel_rfl) (by kernel_rfl) (by kernel_rfl),?_⟩;obtain ⟨g48,h⟩:=Am h;refine Aa 37 ?_;refine zA g48 ?_;refine rsB 1 ?_;refine Aq (tn_ ?_);obtain rfl:=zj h;exact ⟨(ub+1,u1++[y43],u2++[y46]),_,(C7 (oi 3 1) (.cells 39 [an u0.length,ai y3.2.1,ai y3.2.2.1,oS 4 18 (u1.length+1),.nils,oS 6 31 (u2.length+1),.ftr nz_ sI y3.2.2.2.2.2.2]) (.cells 39 [an u0.length,ai y3.2.1,ai y3.2.2.1,oS 4 18 ((u1++[y43]).length),.nils,oS 6 31 (u2.length+1),.ftr nz_ sI y3.2.2.2.2.2.2]) (by kernel_rfl) (congrArg (fun z_=>(.cells 39 [an u0.length,ai y3.2.1,ai y3.2.2.1,oS 4 18 z_,.nils,oS 6 31 (u2.length+1),.ftr nz_ sI y3.2.2.2.2.2.2]:Ob)) ((by simp):u1.length+1=(u1++[y43]).length))).trans ((C7 (oi 3 1) (.cells 39 [an u0.length,ai y3.2.1,ai y3.2.2.1,oS 4 18 ((u1++[y43]).length),.nils,oS 6 31 (u2.length+1),.ftr nz_ sI y3.2.2.2.2.2.2]) (.cells 39 [an u0.length,ai y3.2.1,ai y3.2.2.1,oS 4 18 ((u1++[y43]).length),.nils,oS 6 31 ((u2++[y46]).length),.ftr nz_ sI y3.2.2.2.2.2.2]) (by kernel_rfl) (congrArg (fun z_=>(.cells 39 [an u0.length,ai y3.2.1,ai y3.2.2.1,oS 4 18 ((u1++[y43]).length),.nils,oS 6 31 z_,.ftr nz_ sI y3.2.2.2.2.2.2]:Ob)) ((by simp):u2.length+1=(u2++[y46]).length))).trans (Ac [(oi 4 1,oi 4 18),(oi 5 1,oi 9000 21),(oi 6 1,oi 6 31),(oi 7 1,oi 9000 34)])),⟨ub+1,u1++[y43],u2++[y46],rfl,rfl⟩,hn34⟩
  have q37_:=of_decide_eq_false q37;refine Ag q37 ?_;refine Au (te_ (te_ (be_ (tn_ ?_))));obtain rfl:=zj h;have h:=hn34
  (try dsimp only at h);obtain rfl:=zj h;exact ⟨_,Ac [],⟨u1,u2,rfl,rfl⟩⟩
 rintro _ _ ⟨u4,u5,rfl,rfl⟩ h
 (try dsimp only at h);refine Ar h (fun (uc:LL) S_=>S_=⟨Ao [(4,.box (oi 0 1) 0),(11,.box (oi 1 1) 0)],Aj (Ap [(oi 0 1,.cells 39 [ai 0,ai 0,ai 0,.nils,.nils,.nils,.nils]),(oi 1 1,.cells 39 [an u0.length,ai y3.2.1,ai y3.2.2.1,oS 2 1 u4.length,oS 4 1 uc.length,oS 6 1 u5.length,.ftr nz_ sI y3.2.2.2.2.2.2]),(oi 2 1,.mat 23 (oi 3 1) .int u4),(oi 3 1,.pool 3 .int u4),(oi 4 1,.mat 23 (oi 5 1) .int uc),(oi 5 1,.pool 3 .int uc),(oi 6 1,.mat 23 (oi 7 1) .int u5),(oi 7 1,.pool 3 .int u5)]),2⟩) ?_ ?_
 ·intro v_ h;refine Al ?_;refine Ae ?_;refine Av h (fun t_ S_=>∃ (u9:Nat),∃ (u3:LL),t_=(u9,u3)∧S_=⟨Ao [(0,ai a0),(4,.box (oi 0 1) 0),(5,.ftr nz_ sI y5),(6,oI 1 1 u0.length),(11,.box (oi 2 1) 0),(89,.ftr nz_ sI y3.2.2.2.2.1),(90,an y3.2.2.2.2.1.length),(91,an u9)],Aj (Ap [(oi 0 1,.cells 39 [ai 0,ai 0,ai 0,.nils,.nils,.nils,.nils]),(oi 1 1,.arr 3 .int u0),(oi 2 1,.cells 39 [an u0.length,ai y3.2.1,ai y3.2.2.1,oS 3 1 u4.length,oS 5 1 u3.length,oS 7 1 u5.length,.ftr nz_ sI y3.2.2.2.2.2.2]),(oi 3 1,.mat 23 (oi 4 1) .int u4),(oi 4 1,.pool 3 .int u4),(oi 5 1,.mat 23 (oi 6 1) .int u3),(oi 6 1,.pool 3 .int u3),(oi 7 1,.mat 23 (oi 8 1) .int u5),(oi 8 1,.pool 3 .int u5)]),2⟩) ⟨_,(Bt 9000 (oi 3 1) 4 39 [an u0.length,ai y3.2.1,ai y3.2.2.1,oS 4 1 u4.length,.nils,oS 6 1 u5.length,.ftr nz_ sI y3.2.2.2.2.2.2] [an u0.length,ai y3.2.1,ai y3.2.2.1,oS 4 1 u4.length,oS 9000 6 0,oS 6 1 u5.length,.ftr nz_ sI y3.2.2.2.2.2.2] 23 sI (by kernel_rfl) (by kernel_rfl) (by kernel_rfl)).trans ((B2 (e1:=23) (n:=0) 9000 (oi 9000 6) 3 .int (by kernel_rfl) (by kernel_rfl) rfl (by kernel_rfl) (by kernel_rfl)).trans (Ac [(oi 0 1,oi 1 1),(oi 1 1,oi 2 1),(oi 2 1,oi 3 1),(oi 3 1,oi 4 1),(oi 4 1,oi 5 1),(oi 5 1,oi 9000 6),(oi 6 1,oi 9000 7),(oi 7 1,oi 6 1),(oi 8 1,oi 7 1)])),⟨0,([]:LL),rfl,rfl⟩⟩ ?_;rintro n_ _ _ c_ ⟨u9,u3,rfl,rfl⟩ h hn51
  (try dsimp only at h);unfold C9 at h;unfold Ni;refine Al ?_;refine Ab ?_;rcases Af h with ⟨q54,h⟩ | ⟨q54,h⟩
  ·have q54_:=of_decide_eq_true q54;refine Ah q54 ?_;refine Ai (tn_ ?_);refine wr_ ?_;refine Ab ?_;refine Ae ?_;refine Ab ?_;obtain ⟨x57,e57,h⟩:=Ad h;refine Aa 6 ?_;refine rs0 (.telt (some nz_) sI x57 0) (zi (t:=sI) (xs:=y3.2.2.2.2.1) (k:=.i64) (m:=(u9:Int)) (Dp _) e57) ?_;refine rsB 2 ?_;refine Aq (tn_ ?_);refine wr_ ?_;obtain ⟨y58,h58,h⟩:=Ad h;obtain ⟨g59,h⟩:=Am h;refine Ax 17 ?_;refine dz0 (.box (oi 2 1) 4) ?_;refine dzl (oS 5 1 u3.length) ?_;refine dz0 (ai a0) ?_;refine dz0 (.ftr nz_ sI y5) ?_;refine dz0 (oI 1 1 u0.length) ?_;refine dz0 (.ftr nz_ .int x57) ?_;refine Lg (oI 1616 12 y58.length) [nI 1616 12 y58] [ai a0,.ftr nz_ sI y5,oI 1 1 u0.length,.ftr nz_ .int x57] _ (caps:=[]) (args0:=[ai a0,tS y5,tI u0,tI x57]) trivial (Ay (by kernel_rfl) (Ay (by kernel_rfl) (Ay (Ca (e:=3) (by kernel_rfl) rfl) (Ay (by kernel_rfl) B9)))) (E4 (U3 h58)) Uu ?_;refine Aad (oS 102 13 1) (oi 102 13) (.vec 23 1 1 ([oI 1616 12 y58.length])) trivial (G1 (by kernel_rfl)) ?_;refine ds2 (oS 5 14 (u3.length+1)) (oi 5 1) (oi 5 14) (.vec 23 1 (u3.length+1) (hdL (oi 6 1) .int u3++[oI 1616 12 y58.length])) (Dd (u:=.int) (t':=sI) (t2:=sI) (o:=oi 5 1) (q:=oi 102 13) (e2:=23) (p:=oi 6 1) (xss:=u3) (cs:=[oI 1616 12 y58.length]) (len:=u3.length) (by kernel_rfl) (by kernel_rfl) rfl (by kernel_rfl) (by kernel_rfl) rfl g59) ?_;refine dz0 (.box (oi 2 1) 4) ?_;refine K7 (oi 2 1) (oi 2 1) (.cells 39 [an u0.length,ai y3.2.1,ai y3.2.2.1,oS 3 1 u4.length,oS 5 14 (u3.length+1),oS 7 1 u5.length,.ftr nz_ sI y3.2.2.2.2.2.2]) (by kernel_rfl) ?_;refine F5 (Bc (by kernel_rfl)) (bn_ (tn_ ?_));refine ⟨_,B8 (e1:=23) (e:=3) (u:=.int) (n:=u3.length+1) (len:=y58.length) (row:=y58) (ys:=y58) (xss:=u3) 9000 (oi 5 14) (oi 6 1) (oi 1616 12) (by kernel_rfl) (by kernel_rfl) rfl (by kernel_rfl) (by kernel_rfl) (H2 rfl) (H1 rfl) (by kernel_rfl) (by kernel_rfl) (by kernel_rfl),?_⟩;obtain ⟨g60,h⟩:=Am h;refine Aa 20 ?_;refine zA g60 ?_;refine rsB 1 ?_;refine Aq (tn_ ?_);obtain rfl:=zj h;exact ⟨(u9+1,u3++[y58]),_,(C7 (oi 2 1) (.cells 39 [an u0.length,ai y3.2.1,ai y3.2.2.1,oS 3 1 u4.length,oS 5 14 (u3.length+1),oS 7 1 u5.length,.ftr nz_ sI y3.2.2.2.2.2.2]) (.cells 39 [an u0.length,ai y3.2.1,ai y3.2.2.1,oS 3 1 u4.length,oS 5 14 ((u3++[y58]).length),oS 7 1 u5.length,.ftr nz_ sI y3.2.2.2.2.2.2]) (by kernel_rfl) (congrArg (fun z_=>(.cells 39 [an u0.length,ai y3.2.1,ai y3.2.2.1,oS 3 1 u4.length,oS 5 14 z_,oS 7 1 u5.length,.ftr nz_ sI y3.2.2.2.2.2.2]:Ob)) ((by simp):u3.length+1=(u3++[y58]).length))).trans (Ac [(oi 5 1,oi 5 14),(oi 6 1,oi 9000 17)]),⟨u9+1,u3++[y58],rfl,rfl⟩,hn51⟩
  have q54_:=of_decide_eq_false q54;refine Ag q54 ?_;refine Au (te_ (te_ (be_ (tn_ ?_))));obtain rfl:=zj h;have h:=hn51
  (try dsimp only at h);obtain rfl:=zj h;exact ⟨_,Ac [(oi 1 1,oi 2 1),(oi 2 1,oi 3 1),(oi 3 1,oi 4 1),(oi 4 1,oi 5 1),(oi 5 1,oi 6 1),(oi 6 1,oi 7 1),(oi 7 1,oi 8 1)],rfl⟩
 rintro uc _ rfl h
 (try dsimp only at h);refine Al ?_;refine An ?_;obtain rfl:=zj h;exact Kk [(true,[an u0.length,ai y3.2.1,ai y3.2.2.1,oS 2 1 u4.length,oS 4 1 uc.length,oS 6 1 u5.length,.ftr nz_ sI y3.2.2.2.2.2.2])] (Oa (Az C3 (Az C3 (Az C3 (Az (Bp (.mat (p:=oi 3 1) (e1:=23) (e:=3) (by kernel_rfl) (Bn (by kernel_rfl)) rfl)) (Az (Bp (.mat (p:=oi 5 1) (e1:=23) (e:=3) (by kernel_rfl) (Bn (by kernel_rfl)) rfl)) (Az (Bp (.mat (p:=oi 7 1) (e1:=23) (e:=3) (by kernel_rfl) (Bn (by kernel_rfl)) rfl)) (Az (Bp .ftr) Oe))))))) Gz)
def Lb:AC :=
 (.seq (rg [xo 3 (.i (.box 31 (tm 1))),xo 4 (qm (ci 0)),xo 5 (qm (cb false))])
 (.seq (rg [xm 9 0,xo 10 (.i (.ld false 3 (tm 3))),⟨some 11,none,qc 11 [tm 9,tm 10] [[],[none,some T4,some .int]]⟩,xm 8 11,xo 12 (.i (.extr 0 (tm 8))),xo 13 (.i (.extr 1 (tm 8))),xo 6 (.i (.alloc 39 [.int .i64 0,.int .i64 0,.int .i64 0,.nils,.nils,.nils,.nils])),xn (.st false 7 (tm 6) (tm 12)),xm 7 13])
 (.seq (.seq (rg [xm 14 7,xo 15 (.i (.not (tm 14)))])
 (.cond (tm 15)
  (.seq (rg [xo 4 (qm (ci 0)),xo 5 (qm (cb false))])
  .ret)
  .skip))
 (.seq (rg [xm 16 0,xo 17 (.i (.ld false 7 (tm 6))),xo 18 (qc 12 [tm 16,tm 17] [[],[none,none,none,some sI,some sI,some sI,some sI]]),xo 19 (.i (.ofld true 1 0 (tm 18))),xm 4 19,xo 5 (qm (cb true))])
 .ret))))
def Tl:List Res:=[.tmp 4,.tmp 5]
theorem Tn:At Tryd.prog Tryd.f5=some (Lb,Tl):=by kernel_rfl
theorem Rt:Be Tryd.prog 5=true:=by kernel_rfl
def C6 (a0 u0:Int) (u1:List (Int×Int×Int×Int)) (u2:List Int):Option (Int×Bool) :=
 Option.bind (Dy a0 u0 u1 u2) fun y3 =>
cond (!y3.2.2.2.2.2.2.2)
 (some (0,false))
 (Option.bind (Ew a0 y3.1 y3.2.1 y3.2.2.1 y3.2.2.2.1 y3.2.2.2.2.1 y3.2.2.2.2.2.1 y3.2.2.2.2.2.2.1) fun y9 =>
 some (y9.1,true))
def R3 (r:Int×Bool):RV:=⟨true,[(false,[.sc (.int .i64 r.1)]),(false,[.sc (.bool r.2)])]⟩
theorem Rw {a0 u0:Int} {u1:List (Int×Int×Int×Int)} {u2:List Int} {r:Int×Bool} (h:C6 a0 u0 u1 u2=some r):A0 Tryd.prog Tab 5 [ai a0,.agg [ai u0,.tree T4 u1,tI u2]] (R3 r):=by
 refine A1 (by kernel_rfl) Tryd.func5 Tn (n:=20) (by kernel_rfl) (by simp) (tl:=[(0,ai a0),(1,.agg [ai u0,.tree T4 u1,tI u2])]) rfl ?_;unfold Lb;unfold C6 at h;refine Al ?_;refine Ab ?_;obtain ⟨y3,h3,h⟩:=Ad h;refine Aa 13 ?_;refine rsB 2 ?_;refine zc (.tup [.agg [ai y3.1,ai y3.2.1,ai y3.2.2.1,tS y3.2.2.2.1,tS y3.2.2.2.2.1,tS y3.2.2.2.2.2.1,tS y3.2.2.2.2.2.2.1],.bool y3.2.2.2.2.2.2.2]) [] [ai a0,.agg [ai u0,.tree T4 u1,tI u2]] (Tu h3) ?_;refine rsB 6 ?_;refine Aq (tn_ ?_);refine wr_ ?_;refine Ab ?_;refine Al ?_;rcases Af h with ⟨q6,h⟩ | ⟨q6,h⟩
 ·refine Ah q6 ?_;refine Al ?_;refine An (tr_ ?_);obtain rfl:=zj h;exact Bo [ai 0,.bool false] (A2 rfl zl (A2 rfl zl A5))
 refine Ag q6 ?_;refine Ai (tn_ ?_);refine wr_ ?_;refine Ab ?_;obtain ⟨y9,h9,h⟩:=Ad h;refine Aa 21 ?_;refine rsB 2 ?_;refine zc (.agg [ai y9.1,ai y9.2.1,ai y9.2.2.1,tS y9.2.2.2.1,tS y9.2.2.2.2.1,tS y9.2.2.2.2.2.1,tS y9.2.2.2.2.2.2]) [] [ai a0,.agg [ai y3.1,ai y3.2.1,ai y3.2.2.1,tS y3.2.2.2.1,tS y3.2.2.2.2.1,tS y3.2.2.2.2.2.1,tS y3.2.2.2.2.2.2.1]] (Zc h9) ?_;refine rsB 3 ?_;refine Aq (tn_ ?_);refine wr_ ?_;refine An ?_;obtain rfl:=zj h;exact Bo [ai y9.1,.bool true] (A2 rfl zl (A2 rfl zl A5))
end

section
open Go.RowKit Go.Deep
set_option maxRecDepth 4000
def Km:AC :=
 (.seq (rg [xs1 16 15 14])
 (.seq (.cond (tm 16)
  .skip
  (.exit 0))
 (.seq (.block 1 (.seq (rg [xx 17 1 13 15,xl 18 17,xm 9 18])
 (.seq (rg [xm 20 0,xm 21 1,xm 22 9,xo 23 (qc 86 [tm 20,tm 21,tm 22] [[],[some sI],[some .int]]),xm 19 23,xo 24 (.i (.extr 0 (tm 19))),xo 25 (.i (.extr 1 (tm 19))),xm 10 24,xm 11 25])
 (rg [xm 26 7,xm 27 10,xo 28 (.mkV 23 sI 1 [tm 27]),xo 29 (.appV 23 sI 24 (tm 26) (tm 28)),xm 7 29]))))
 (rg [xa 30 15,xm 15 30]))))
def Ml:AC :=
 (.seq (rg [xo 6 (qm (.cst .nils))])
 (.seq (rg [xo 12 (.mkV 23 sI 1 []),xm 7 12])
 (.seq (.seq (rg [xm 13 2,xn1 14 13,xo 15 (qm (ci 0))])
 (.block 0 (.loop Km)))
 (.seq (rg [xm 31 7,xm 6 31])
 .ret))))
def Vd:List Res:=[.tmp 6]
theorem Vk:At Tryd.prog Tryd.f60=some (Ml,Vd):=by kernel_rfl
theorem Lo:Be Tryd.prog 60=true:=by kernel_rfl
def Cc (a2:LL) (a0:Int) (a1:LL) (u0:Nat) (u1:LL):Option (Ctl (Nat×LL) (LL)) :=
 cond (decide ((u0:Int)<(a2.length:Int)))
 (Option.bind (a2[u0]?) fun x11 =>
 Option.bind (Fn a0 a1 x11) fun y13 =>
 og (u1.length+1<=1073741824∧(u1.length+1)*24<=140737488355328) <|
 og (u0+1<4611686018427387904) <|
 some (Ctl.next (u0+1,u1++[y13.1])))
 (some (Ctl.out u1))
def Cv (a0:Int) (a1 a2:LL):Option (LL) :=
 Option.bind (Aw (fun s_:Nat×LL=>Cc a2 a0 a1 s_.1 s_.2) 4611686018427387904 (0,([]:LL))) fun u0 =>
some u0
def T9 (r:LL):RV:=⟨false,[(false,[.frz (tS r)])]⟩
theorem Lp {a0:Int} {a1 a2 r:LL} (h:Cv a0 a1 a2=some r):A0 Tryd.prog Tab 60 [ai a0,tS a1,tS a2] (T9 r):=by
 refine Ej (by kernel_rfl) Tryd.func60 Vk (n:=32) (by kernel_rfl) (by simp) (tl:=[(0,ai a0),(1,tS a1),(2,tS a2)]) rfl fun zn_ nz_ hz_=>?_
 unfold Ml;unfold Cv at h;refine Al ?_;refine Ab ?_;refine Aa 4 ?_;refine Zs (oS 12 2 0) (oi 12 2) (.vec 23 1 0 []) trivial (G1 (by kernel_rfl)) ?_;refine rsB 1 ?_;refine Aq (tn_ ?_);refine ⟨_,B2 (e1:=23) (n:=0) 9000 (oi 12 2) 3 .int (by kernel_rfl) (by kernel_rfl) rfl (by kernel_rfl) (by kernel_rfl),?_⟩;refine Ar h (fun (u1:LL) S_=>S_=⟨Ao [(7,oS 0 1 u1.length)],Aj (Ap [(oi 0 1,.mat 23 (oi 1 1) .int u1),(oi 1 1,.pool 3 .int u1)]),2⟩) ?_ ?_
 ·intro v_ h;refine Al ?_;refine Ae ?_;refine Av h (fun t_ S_=>∃ (u2:Nat),∃ (u0:LL),t_=(u2,u0)∧S_=⟨Ao [(0,ai a0),(1,tS a1),(7,oS 0 1 u0.length),(13,tS a2),(14,an a2.length),(15,an u2)],Aj (Ap [(oi 0 1,.mat 23 (oi 1 1) .int u0),(oi 1 1,.pool 3 .int u0)]),2⟩) ⟨_,Ac [(oi 0 1,oi 12 2),(oi 1 1,oi 9000 4)],⟨0,([]:LL),rfl,rfl⟩⟩ ?_;rintro n_ _ _ c_ ⟨u2,u0,rfl,rfl⟩ h hn5
  (try dsimp only at h);unfold Cc at h;unfold Km;refine Al ?_;refine Ab ?_;rcases Af h with ⟨q8,h⟩ | ⟨q8,h⟩
  ·have q8_:=of_decide_eq_true q8;refine Ah q8 ?_;refine Ai (tn_ ?_);refine wr_ ?_;refine Ab ?_;refine Ae ?_;refine Ab ?_;obtain ⟨x11,e11,h⟩:=Ad h;refine Aa 6 ?_;refine zI sI e11 ?_;refine rsB 2 ?_;refine Aq (tn_ ?_);refine wr_ ?_;refine Ab ?_;obtain ⟨y13,h13,h⟩:=Ad h;refine Aa 15 ?_;refine rsB 3 ?_;refine zc (.tup [oI 368 9 y13.1.length,.bool y13.2]) [nI 368 9 y13.1] [ai a0,tS a1,tI x11] (E4 (Xm h13)) ?_;refine rsB 5 ?_;refine Aq (tn_ ?_);refine wr_ ?_;obtain ⟨g14,h⟩:=Am h;refine Aa 20 ?_;refine rsB 2 ?_;refine Zs (oS 28 17 1) (oi 28 17) (.vec 23 1 1 ([oI 368 9 y13.1.length])) trivial (G1 (by kernel_rfl)) ?_;refine rs2 (oS 0 18 (u0.length+1)) (oi 0 1) (oi 0 18) (.vec 23 1 (u0.length+1) (hdL (oi 1 1) .int u0++[oI 368 9 y13.1.length])) (Dd (u:=.int) (t':=sI) (t2:=sI) (o:=oi 0 1) (q:=oi 28 17) (e2:=23) (p:=oi 1 1) (xss:=u0) (cs:=[oI 368 9 y13.1.length]) (len:=u0.length) (by kernel_rfl) (by kernel_rfl) rfl (by kernel_rfl) (by kernel_rfl) rfl g14) ?_;refine rsB 1 ?_;refine Aq (bn_ (tn_ ?_));refine ⟨_,B8 (e1:=23) (e:=3) (u:=.int) (n:=u0.length+1) (len:=y13.1.length) (row:=y13.1) (ys:=y13.1) (xss:=u0) 9000 (oi 0 18) (oi 1 1) (oi 368 9) (by kernel_rfl) (by kernel_rfl) rfl (by kernel_rfl) (by kernel_rfl) (H2 rfl) (H1 rfl) (by kernel_rfl) (by kernel_rfl) (by kernel_rfl),?_⟩;obtain ⟨g15,h⟩:=Am h;refine Aa 23 ?_;refine zA g15 ?_;refine rsB 1 ?_;refine Aq (tn_ ?_);obtain rfl:=zj h;exact ⟨(u2+1,u0++[y13.1]),_,(A8 7 (oS 0 18 (u0.length+1)) (oS 0 18 ((u0++[y13.1]).length)) (by kernel_rfl) (congrArg (fun z_=>((oS 0 18 z_):AV)) ((by simp):u0.length+1=(u0++[y13.1]).length))).trans (Ac [(oi 0 1,oi 0 18),(oi 1 1,oi 9000 20)]),⟨u2+1,u0++[y13.1],rfl,rfl⟩,hn5⟩
  have q8_:=of_decide_eq_false q8;refine Ag q8 ?_;refine Au (te_ (te_ (be_ (tn_ ?_))));obtain rfl:=zj h;have h:=hn5
  (try dsimp only at h);obtain rfl:=zj h;exact ⟨_,Ac [],rfl⟩
 rintro u1 _ rfl h
 (try dsimp only at h);refine Al ?_;refine An ?_;obtain rfl:=zj h;exact Kk [(false,[oS 0 1 u1.length])] (K9 (Bp (.mat (p:=oi 1 1) (e1:=23) (e:=3) (by kernel_rfl) (Bn (by kernel_rfl)) rfl)) Gz)
def E5:AC :=
 (.seq (rg [xo 2 (.i (.box 39 (tm 0))),xo 4 (.i (.alloc 39 [.int .i64 0,.int .i64 0,.int .i64 0,.nils,.nils,.nils,.nils]))])
 (.seq (rg [xo 7 (.i (.ld false 7 (tm 2))),xm 8 1,xo 9 (qc 58 [tm 7,tm 8] [[none,none,none,some sI,some sI,some sI,some sI],[]]),xm 5 9])
 (.seq (.region [xm 10 5,xn1 11 10,xf 12 1 2,xl 13 12,xf 14 2 2,xl 15 14,xf 16 6 2,xl 17 16,xo 18 (qc 59 [tm 17] [[some sI]]),xo 19 (.build [.int .i64 0,.int .i64 0,.int .i64 0,.nils,.nils,.nils,.nils] [(0,1,tm 11),(1,1,tm 13),(2,1,tm 15),(6,1,tm 18)]),xo 6 (.i (.alloc 39 [.int .i64 0,.int .i64 0,.int .i64 0,.nils,.nils,.nils,.nils])),xn (.st false 7 (tm 6) (tm 19))] true [(3,8),(5,8),(8,10)])
 (.seq (rg [xm 20 1,xm 21 5,xm 22 1,xm 23 5,xf 24 3 2,xl 25 24,xf 26 0 2,xl 27 26,xo 28 (qc 61 [tm 22,tm 23,tm 25,tm 27] [[],[some sI],[some sI],[]]),xo 29 (qc 60 [tm 20,tm 21,tm 28] [[],[some sI],[some sI]]),xf 30 3 6,xn (qs (tm 30) (tm 29))])
 (.seq (rg [xm 31 1,xm 32 5,xf 33 4 2,xl 34 33,xo 35 (qc 60 [tm 31,tm 32,tm 34] [[],[some sI],[some sI]]),xf 36 4 6,xn (qs (tm 36) (tm 35))])
 (.seq (rg [xm 37 1,xm 38 5,xf 39 5 2,xl 40 39,xf 41 2 2,xl 42 41,xo 43 (qc 61 [tm 37,tm 38,tm 40,tm 42] [[],[some sI],[some sI],[]]),xf 44 5 6,xn (qs (tm 44) (tm 43))])
 (.seq (rg [xo 45 (.i (.ld false 7 (tm 6))),xn (.st false 7 (tm 4) (tm 45))])
 .ret)))))))
def J9:List Res:=[.cell 4 false 7]
theorem J5:At Tryd.prog Tryd.f30=some (E5,J9):=by kernel_rfl
def Bu (u1 u2 u0:Int) (u3 u4:LL) (u5 u6:LL) (a1:Int):Option (Int×Int×Int×LL×LL×LL×LL) :=
 Option.bind (Ch u1 u2 u0 u3 u4 u5 u6 a1) fun y3 =>
Option.bind (Dc u6) fun y5 =>
Option.bind (Ek a1 y3 u3 u1) fun y7 =>
Option.bind (Cv a1 y3 y7) fun y8 =>
Option.bind (Cv a1 y3 u4) fun y10 =>
Option.bind (Ek a1 y3 u5 u0) fun y12 =>
some ((y3.length:Int),u2,u0,y8,y10,y12,y5)
def Jq (r:Int×Int×Int×LL×LL×LL×LL):RV:=⟨false,[(true,[.sc (.int .i64 r.1),.sc (.int .i64 r.2.1),.sc (.int .i64 r.2.2.1),.frz (tS r.2.2.2.1),.frz (tS r.2.2.2.2.1),.frz (tS r.2.2.2.2.2.1),.frz (tS r.2.2.2.2.2.2)])]⟩
theorem Jo {u2 u1 u0:Int} {u3 u4:LL} {u5 u6:LL} {a1:Int} {r:Int×Int×Int×LL×LL×LL×LL} (h:Bu u2 u1 u0 u3 u4 u5 u6 a1=some r):A0 Tryd.prog Tab 30 [.agg [ai u2,ai u1,ai u0,tS u3,tS u4,tS u5,tS u6],ai a1] (Jq r):=by
 refine Ej (by kernel_rfl) Tryd.func30 J5 (n:=46) (by kernel_rfl) (by simp) (tl:=[(0,.agg [ai u2,ai u1,ai u0,tS u3,tS u4,tS u5,tS u6]),(1,ai a1)]) rfl fun zn_ nz_ hz_=>?_
 unfold E5;unfold Bu at h;refine Al ?_;refine Ab ?_;obtain ⟨y3,h3,h⟩:=Ad h;refine Aa 7 ?_;refine rsB 2 ?_;refine zc (.ftr nz_ sI y3) [] [.agg [ai u2,ai u1,ai u0,tS u3,tS u4,tS u5,tS u6],ai a1] (Ld hz_ (N0 h3)) ?_;refine rsB 1 ?_;refine Aq (tn_ ?_);refine wr_ ?_;refine Ab ?_;obtain ⟨y5,h5,h⟩:=Ad h;refine Ax 19 ?_;refine dz0 (.ftr nz_ sI y3) ?_;refine dz0 (an y3.length) ?_;refine dz0 (.box (oi 2 1) 1) ?_;refine dzl (ai u1) ?_;refine dz0 (.box (oi 2 1) 2) ?_;refine dzl (ai u0) ?_;refine dz0 (.box (oi 2 1) 6) ?_;refine dzl (tS u6) ?_;refine N6 (oS 288 15 y5.length) [(oi 288 15,some (.mat 23 (oi 289 15) .int y5)),(oi 289 15,some (.pool 3 .int y5))] [] [tS u6] (caps:=[]) trivial (L7 (Hn h5)) Hp trivial (.cons (.ren (by kernel_rfl)) .nil) (Bj (by kernel_rfl) (by kernel_rfl) trivial) (Pp (by kernel_rfl)) ?_;refine dz0 (.agg [an y3.length,ai u1,ai u0,.nils,.nils,.nils,oS 288 15 y5.length]) ?_;refine ds1 (.box (oi 6 17) 0) (oi 6 17) (.cells 39 [ai 0,ai 0,ai 0,.nils,.nils,.nils,.nils]) (by kernel_rfl) ?_;refine K7 (oi 6 17) (oi 6 17) (.cells 39 [an y3.length,ai u1,ai u0,.nils,.nils,.nils,oS 288 15 y5.length]) (by kernel_rfl) ?_;refine F5 ⟨Uj (by kernel_rfl),⟨Uj (by kernel_rfl),⟨Ru (by kernel_rfl),trivial⟩⟩⟩ (tn_ ?_);refine wr_ ?_;refine Ab ?_;obtain ⟨y7,h7,h⟩:=Ad h;obtain ⟨y8,h8,h⟩:=Ad h;refine Aa 31 ?_;refine rsB 8 ?_;refine Cm (.ftr nz_ sI y7) [] [ai a1,.ftr nz_ sI y3,tS u3,ai u2] _ (caps:=[]) (args0:=[ai a1,tS y3,tS u3,ai u2]) trivial (by kernel_rfl) (Ld hz_ (K2 h7)) Kz ?_;refine Cm (.ftr nz_ sI y8) [] [ai a1,.ftr nz_ sI y3,.ftr nz_ sI y7] _ (caps:=[]) (args0:=[ai a1,tS y3,tS y7]) trivial (by kernel_rfl) (Ld hz_ (Lp h8)) Lo ?_;refine rsB 2 ?_;refine Aq (tn_ ?_);refine wr_ ?_;refine Ab ?_;obtain ⟨y10,h10,h⟩:=Ad h;refine Aa 38 ?_;refine rsB 4 ?_;refine Cm (.ftr nz_ sI y10) [] [ai a1,.ftr nz_ sI y3,tS u4] _ (caps:=[]) (args0:=[ai a1,tS y3,tS u4]) trivial (by kernel_rfl) (Ld hz_ (Lp h10)) Lo ?_;refine rsB 2 ?_;refine Aq (tn_ ?_);refine wr_ ?_;refine Ab ?_;obtain ⟨y12,h12,h⟩:=Ad h;refine Aa 47 ?_;refine rsB 6 ?_;refine Cm (.ftr nz_ sI y12) [] [ai a1,.ftr nz_ sI y3,tS u5,ai u0] _ (caps:=[]) (args0:=[ai a1,tS y3,tS u5,ai u0]) trivial (by kernel_rfl) (Ld hz_ (K2 h12)) Kz ?_;refine rsB 2 ?_;refine Aq (tn_ ?_);refine wr_ ?_;refine Al ?_;refine An ?_;obtain rfl:=zj h;exact Kk [(true,[an y3.length,ai u1,ai u0,.ftr nz_ sI y8,.ftr nz_ sI y10,.ftr nz_ sI y12,oS 288 15 y5.length])] (Oa (Az C3 (Az C3 (Az C3 (Az (Bp .ftr) (Az (Bp .ftr) (Az (Bp .ftr) (Az (Bp (.mat (p:=oi 289 15) (e1:=23) (e:=3) (by kernel_rfl) (Bn (by kernel_rfl)) rfl)) Oe))))))) Gz)
def E7:AC :=
 (.seq (rg [xs1 24 23 22])
 (.seq (.cond (tm 24)
  .skip
  (.exit 2))
 (.seq (.block 3 (.seq (rg [xx 25 1 21 23,xl 26 25,xm 11 26])
 (.region [xl 27 2,xm 28 9,xm 29 9,xm 30 11,xo 31 (qc 63 [tm 30] [[some .int]]),xx 32 1 29 31,xl 33 32,xo 34 (.i (.neg (tm 33))),xm 35 11,xo 36 (qc 67 [tm 27,tm 28,tm 34,tm 35] [[],[some .int],[],[some .int]])] true [(0,4)])))
 (rg [xa 37 23,xm 23 37]))))
def E8:AC :=
 (.seq (rg [xs1 16 15 14])
 (.seq (.cond (tm 16)
  .skip
  (.exit 0))
 (.seq (.block 1 (.seq (rg [xx 17 1 13 15,xl 18 17,xm 8 18])
 (.seq (rg [xm 19 8,xo 20 (qc 66 [tm 19] [[some .int]]),xm 9 20])
 (.seq (.seq (rg [xl 21 1,xn1 22 21,xo 23 (qm (ci 0))])
 (.block 2 (.loop E7)))
 (rg [xm 38 6,xm 39 9,xl 40 3,xo 41 (qc 68 [tm 39,tm 40] [[some .int],[some .int]]),xo 42 (.mkV 23 sI 1 [tm 41]),xo 43 (.appV 23 sI 24 (tm 38) (tm 42)),xm 6 43])))))
 (rg [xa 44 15,xm 15 44]))))
def F6:AC :=
 (.seq (rg [xo 5 (qm (.cst .nils))])
 (.seq (rg [xo 12 (.mkV 23 sI 1 []),xm 6 12])
 (.seq (.seq (rg [xm 13 0,xn1 14 13,xo 15 (qm (ci 0))])
 (.block 0 (.loop E8)))
 (.seq (rg [xm 45 6,xm 5 45])
 .ret))))
def Lk:List Res:=[.tmp 5]
theorem Lj:At Tryd.prog Tryd.f65=some (F6,Lk):=by kernel_rfl
theorem Fv:Be Tryd.prog 65=true:=by kernel_rfl
def Bv (u2:LL) (u3:Int) (u0:Nat) (u1:List Int):Option (Ctl (Nat×List Int) (List Int)) :=
 cond (decide ((u0:Int)<(u2.length:Int)))
 (Option.bind (u2[u0]?) fun x23 =>
 Option.bind (H4 x23) fun y24 =>
 Option.bind (E2 u1 y24) fun x25 =>
 Option.bind (Cn u3 u1 (wI (0 - x25)) x23) fun y26 =>
 og (y26.length=u1.length) <|
 og (u0+1<4611686018427387904) <|
 some (Ctl.next (u0+1,y26)))
 (some (Ctl.out u1))
def Bm (a0 u2:LL) (u3:Int) (u4:List Int) (u0:Nat) (u1:LL):Option (Ctl (Nat×LL) (LL)) :=
 cond (decide ((u0:Int)<(a0.length:Int)))
 (Option.bind (Option.bind (a0[u0]?) fun x12 =>
  Option.bind (Gf x12) fun y14 =>
  Option.bind (Aw (fun s_:Nat×List Int=>Bv u2 u3 s_.1 s_.2) 4611686018427387904 (0,y14)) fun u5 =>
  Option.bind (Fb u5 u4) fun y29 =>
  og (u1.length+1<=1073741824∧(u1.length+1)*24<=140737488355328) <|
  some (u1++[y29])) fun u6 =>
 og (u0+1<4611686018427387904) <|
 some (Ctl.next (u0+1,u6)))
 (some (Ctl.out u1))
def Bs (a0 u0:LL) (u1:Int) (u2:List Int):Option (LL) :=
 Option.bind (Aw (fun s_:Nat×LL=>Bm a0 u0 u1 u2 s_.1 s_.2) 4611686018427387904 (0,([]:LL))) fun u3 =>
some u3
theorem F0 {a0 u2:LL} {u3:Int} {u4:List Int} {r:LL} (h:Bs a0 u2 u3 u4=some r):Kd Tryd.prog Tab 65 [tS a0,.ref [tS u2],.ref [ai u3],.ref [tI u4]] [] (oS 0 1 r.length) [(oi 0 1,.mat 23 (oi 1 1) .int r),(oi 1 1,.pool 3 .int r)]:=by
 refine Ga (by kernel_rfl) Tryd.func65 Lj (n:=46) (by kernel_rfl) (by simp) (tl:=[(0,tS a0),(1,.ref [tS u2]),(2,.ref [ai u3]),(3,.ref [tI u4])]) rfl (by kernel_rfl) trivial ⟨⟨3,.tail _ (.head _)⟩,⟨trivial,trivial⟩⟩ ?_;unfold F6;unfold Bs at h;refine Al ?_;refine Ab ?_;refine Aa 4 ?_;refine Zs (oS 12 2 0) (oi 12 2) (.vec 23 1 0 []) trivial (G1 (by kernel_rfl)) ?_;refine rsB 1 ?_;refine Aq (tn_ ?_);refine ⟨_,B2 (e1:=23) (n:=0) 9000 (oi 12 2) 3 .int (by kernel_rfl) (by kernel_rfl) rfl (by kernel_rfl) (by kernel_rfl),?_⟩;refine Ar h (fun (u6:LL) S_=>S_=⟨Ao [(6,oS 0 1 u6.length)],Aj (Ap [(oi 0 1,.mat 23 (oi 1 1) .int u6),(oi 1 1,.pool 3 .int u6)]),2⟩) ?_ ?_
 ·intro v_ h;refine Al ?_;refine Ae ?_;refine Av h (fun t_ S_=>∃ (u5:Nat),∃ (u0:LL),t_=(u5,u0)∧S_=⟨Ao [(1,.ref [tS u2]),(2,.ref [ai u3]),(3,.ref [tI u4]),(6,oS 0 1 u0.length),(13,tS a0),(14,an a0.length),(15,an u5)],Aj (Ap [(oi 0 1,.mat 23 (oi 1 1) .int u0),(oi 1 1,.pool 3 .int u0)]),2⟩) ⟨_,Ac [(oi 0 1,oi 12 2),(oi 1 1,oi 9000 4)],⟨0,([]:LL),rfl,rfl⟩⟩ ?_;rintro n_ _ _ c_ ⟨u5,u0,rfl,rfl⟩ h hn6
  (try dsimp only at h);unfold Bm at h;unfold E8;refine Al ?_;refine Ab ?_;rcases Af h with ⟨q9,h⟩ | ⟨q9,h⟩
  ·have q9_:=of_decide_eq_true q9;refine Ah q9 ?_;refine Ai (tn_ ?_);refine wr_ ?_;refine Ar h (fun (u7:LL) S_=>S_=⟨Ao [(1,.ref [tS u2]),(2,.ref [ai u3]),(3,.ref [tI u4]),(6,oS 0 1 u7.length),(13,tS a0),(14,an a0.length),(15,an u5)],Aj (Ap [(oi 0 1,.mat 23 (oi 1 1) .int u7),(oi 1 1,.pool 3 .int u7)]),2⟩) ?_ ?_
   ·intro v_ h;refine Ae ?_;refine Ab ?_;obtain ⟨x12,e12,h⟩:=Ad h;refine Aa 6 ?_;refine zI sI e12 ?_;refine rsB 2 ?_;refine Aq (tn_ ?_);refine wr_ ?_;refine Ab ?_;obtain ⟨y14,h14,h⟩:=Ad h;refine Aa 9 ?_;refine rsB 1 ?_;refine zc (oI 320 7 y14.length) [nI 320 7 y14] [tI x12] (M6 h14) ?_;refine rsB 1 ?_;refine Aq (tn_ ?_);refine wr_ ?_;refine Ar h (fun (u8:List Int) S_=>S_=⟨Ao [(1,.ref [tS u2]),(2,.ref [ai u3]),(3,.ref [tI u4]),(6,oS 0 1 u0.length),(9,oI 2 1 u8.length),(13,tS a0),(14,an a0.length),(15,an u5)],Aj (Ap [(oi 0 1,.mat 23 (oi 1 1) .int u0),(oi 1 1,.pool 3 .int u0),(oi 2 1,.arr 3 .int u8)]),2⟩) ?_ ?_
    ·intro v_ h;refine Al ?_;refine Ae ?_;refine Av h (fun t_ S_=>∃ (u9:Nat),∃ (u1:List Int),t_=(u9,u1)∧S_=⟨Ao [(1,.ref [tS u2]),(2,.ref [ai u3]),(3,.ref [tI u4]),(6,oS 0 1 u0.length),(9,oI 2 1 u1.length),(13,tS a0),(14,an a0.length),(15,an u5),(21,tS u2),(22,an u2.length),(23,an u9)],Aj (Ap [(oi 0 1,.mat 23 (oi 1 1) .int u0),(oi 1 1,.pool 3 .int u0),(oi 2 1,.arr 3 .int u1)]),2⟩) ⟨_,Ac [(oi 2 1,oi 320 7)],⟨0,y14,rfl,rfl⟩⟩ ?_;rintro n_ _ _ c_ ⟨u9,u1,rfl,rfl⟩ h hn17
     (try dsimp only at h);unfold Bv at h;unfold E7;refine Al ?_;refine Ab ?_;rcases Af h with ⟨q20,h⟩ | ⟨q20,h⟩
     ·have q20_:=of_decide_eq_true q20;refine Ah q20 ?_;refine Ai (tn_ ?_);refine wr_ ?_;refine Ab ?_;refine Ae ?_;refine Ab ?_;obtain ⟨x23,e23,h⟩:=Ad h;refine Aa 6 ?_;refine zI sI e23 ?_;refine rsB 2 ?_;refine Aq (tn_ ?_);refine wr_ ?_;obtain ⟨y24,h24,h⟩:=Ad h;obtain ⟨x25,f25,h⟩:=Ad h;obtain ⟨p25,b25,e25⟩:=Ba f25;obtain ⟨y26,h26,h⟩:=Ad h;obtain ⟨g27,h⟩:=Am h;refine Ax 16 ?_;refine dz0 (ai u3) ?_;refine dz0 (oI 2 1 u1.length) ?_;refine dz0 (oI 2 1 u1.length) ?_;refine dz0 (tI x23) ?_;refine dzc (ai y24) [] [tI x23] (Ov h24) ?_;refine ds0 (.elt (oi 2 1) y24.toNat 0) (zo (t:=.int) (o:=oi 2 1) (len:=u1.length) (k:=.i64) (m:=y24) p25 (As e25)) ?_;refine dzE (oi 2 1) e25 ?_;refine dz0 (ai (wI (0 - x25))) ?_;refine dz0 (tI x23) ?_;refine N6 (.tup []) [nI 2 1 y26,(oi 2 1,none)] [(oi 0 0,oi 2 1)] [ai u3,oI 2 1 u1.length,ai (wI (0 - x25)),tI x23] (caps:=[]) trivial (Jt h26 rfl) Jz ⟨by kernel_rfl,trivial⟩ (.cons (.ren (by kernel_rfl)) (.cons (.ren (by kernel_rfl)) (.cons (.ren (by kernel_rfl)) (.cons (.ren (by kernel_rfl)) .nil)))) (Bj (by kernel_rfl) (by kernel_rfl) ⟨Ck (by kernel_rfl),trivial⟩) (Pp (by kernel_rfl)) ?_;refine F5 (Bc (by kernel_rfl)) (bn_ (tn_ ?_));refine wr_ ?_;obtain ⟨g28,h⟩:=Am h;refine Aa 18 ?_;refine zA g28 ?_;refine rsB 1 ?_;refine Aq (tn_ ?_);obtain rfl:=zj h;exact ⟨(u9+1,y26),_,(A8 9 (oI 2 1 u1.length) (oI 2 1 y26.length) (by kernel_rfl) (congrArg (fun z_=>((oI 2 1 z_):AV)) (g27.symm:u1.length=y26.length))).trans (Ac []),⟨u9+1,y26,rfl,rfl⟩,hn17⟩
     have q20_:=of_decide_eq_false q20;refine Ag q20 ?_;refine Au (te_ (te_ (be_ (tn_ ?_))));obtain rfl:=zj h;have h:=hn17
     (try dsimp only at h);obtain rfl:=zj h;exact ⟨_,Ac [],rfl⟩
    rintro u8 _ rfl h
    (try dsimp only at h);obtain ⟨y29,h29,h⟩:=Ad h;obtain ⟨g30,h⟩:=Am h;refine Aa 9 ?_;refine rsB 3 ?_;refine Cm (oI 656 5 y29.length) [nI 656 5 y29] [oI 2 1 u8.length,tI u4] _ (caps:=[]) (args0:=[tI u8,tI u4]) trivial (Ay (Ca (e:=3) (by kernel_rfl) rfl) (Ay (by kernel_rfl) B9)) (Vq h29) V2 ?_;refine Zs (oS 42 6 1) (oi 42 6) (.vec 23 1 1 ([oI 656 5 y29.length])) trivial (G1 (by kernel_rfl)) ?_;refine rs2 (oS 0 7 (u0.length+1)) (oi 0 1) (oi 0 7) (.vec 23 1 (u0.length+1) (hdL (oi 1 1) .int u0++[oI 656 5 y29.length])) (Dd (u:=.int) (t':=sI) (t2:=sI) (o:=oi 0 1) (q:=oi 42 6) (e2:=23) (p:=oi 1 1) (xss:=u0) (cs:=[oI 656 5 y29.length]) (len:=u0.length) (by kernel_rfl) (by kernel_rfl) rfl (by kernel_rfl) (by kernel_rfl) rfl g30) ?_;refine rsB 1 ?_;refine Aq (bn_ (tn_ ?_));obtain rfl:=zj h;exact ⟨_,(B8 (e1:=23) (e:=3) (u:=.int) (n:=u0.length+1) (len:=y29.length) (row:=y29) (ys:=y29) (xss:=u0) 9000 (oi 0 7) (oi 1 1) (oi 656 5) (by kernel_rfl) (by kernel_rfl) rfl (by kernel_rfl) (by kernel_rfl) (H2 rfl) (H1 rfl) (by kernel_rfl) (by kernel_rfl) (by kernel_rfl)).trans ((A8 6 (oS 0 7 (u0.length+1)) (oS 0 7 ((u0++[y29]).length)) (by kernel_rfl) (congrArg (fun z_=>((oS 0 7 z_):AV)) ((by simp):u0.length+1=(u0++[y29]).length))).trans (Ac [(oi 0 1,oi 0 7),(oi 1 1,oi 9000 9)])),rfl⟩
   rintro u7 _ rfl h
   (try dsimp only at h);obtain ⟨g31,h⟩:=Am h;refine Aa 4 ?_;refine zA g31 ?_;refine rsB 1 ?_;refine Aq (tn_ ?_);obtain rfl:=zj h;exact ⟨(u5+1,u7),_,Ac [],⟨u5+1,u7,rfl,rfl⟩,hn6⟩
  have q9_:=of_decide_eq_false q9;refine Ag q9 ?_;refine Au (te_ (te_ (be_ (tn_ ?_))));obtain rfl:=zj h;have h:=hn6
  (try dsimp only at h);obtain rfl:=zj h;exact ⟨_,Ac [],rfl⟩
 rintro u6 _ rfl h
 (try dsimp only at h);refine Al ?_;refine An ?_;obtain rfl:=zj h;exact Oi [oS 0 1 u6.length] (Ac (tl:=[(5,oS 0 1 u6.length)]) (g:=2) [])
def Fq:AC :=
 (.seq (rg [xs1 47 46 45])
 (.seq (.cond (tm 47)
  .skip
  (.exit 2))
 (.seq (.block 3 (.seq (rg [xx 48 1 44 46,xl 49 48,xm 13 49])
 (.seq (.region [xf 50 3 11,xl 51 50,xf 52 3 2,xl 53 52,xm 54 13,xx 55 1 53 54,xl 56 55,xo 57 (.mkV 23 sI 1 [tm 56]),xo 58 (.appV 23 sI 24 (tm 51) (tm 57)),xf 59 3 11,xn (qs (tm 59) (tm 58))] true [(1,7)])
 (.region [xf 60 5 11,xl 61 60,xf 62 5 2,xl 63 62,xm 64 13,xx 65 1 63 64,xl 66 65,xo 67 (qc 66 [tm 66] [[some .int]]),xo 68 (.mkV 23 sI 1 [tm 67]),xo 69 (.appV 23 sI 24 (tm 61) (tm 68)),xf 70 5 11,xn (qs (tm 70) (tm 69))] true [(1,7),(1,8)]))))
 (rg [xa 71 46,xm 46 71]))))
def Fx:AC :=
 (.seq (rg [xs1 23 22 21])
 (.seq (.cond (tm 23)
  .skip
  (.exit 0))
 (.seq (.block 1 (.seq (rg [xx 24 1 20 22,xl 25 24,xm 8 25])
 (rg [xm 26 6,xm 27 8,xo 28 (qc 63 [tm 27] [[some .int]]),xx 29 1 26 28,xn (qs (tm 29) (cb true))])))
 (rg [xa 30 22,xm 22 30]))))
def G0:AC :=
 (.seq (rg [xo 2 (.i (.box 39 (tm 0))),xo 3 (.i (.box 3 (tm 1))),xo 4 (.i (.alloc 39 [.int .i64 0,.int .i64 0,.int .i64 0,.nils,.nils,.nils,.nils]))])
 (.seq (rg [xo 14 (.i (.ld false 7 (tm 2))),xl 15 3,xo 16 (qc 62 [tm 14,tm 15] [[none,none,none,some sI,some sI,some sI,some sI],[]]),xo 5 (.i (.alloc 37 [.nils])),xn (qs (tm 5) (tm 16))])
 (.seq (rg [xf 17 0 2,xl 18 17,xo 19 (.make 4 .bool 1 (tm 18) (tm 18)),xm 6 19])
 (.seq (.seq (rg [xl 20 5,xn1 21 20,xo 22 (qm (ci 0))])
 (.block 0 (.loop Fx)))
 (.seq (rg [xm 31 6,xo 32 (qc 64 [tm 31] [[some .bool]]),xo 9 (.i (.alloc 23 [.nils])),xn (qs (tm 9) (tm 32))])
 (.seq (rg [xo 33 (.i (.mkfn 65 [tm 5,tm 3,tm 9])),xm 10 33])
 (.seq (.region [xl 34 9,xn1 35 34,xf 36 1 2,xl 37 36,xf 38 2 2,xl 39 38,xf 40 6 2,xl 41 40,xo 42 (qc 59 [tm 41] [[some sI]]),xo 43 (.build [.int .i64 0,.int .i64 0,.int .i64 0,.nils,.nils,.nils,.nils] [(0,1,tm 35),(1,1,tm 37),(2,1,tm 39),(6,1,tm 42)]),xo 11 (.i (.alloc 39 [.int .i64 0,.int .i64 0,.int .i64 0,.nils,.nils,.nils,.nils])),xn (.st false 7 (tm 11) (tm 43))] true [(0,8),(3,8),(5,8),(8,10)])
 (.seq (.seq (rg [xl 44 9,xn1 45 44,xo 46 (qm (ci 0))])
 (.block 2 (.loop Fq)))
 (.seq (.region [xm 72 10,xf 73 3 11,xl 74 73,xo 75 (.call (tm 72) [tm 74] [[some sI]]),xm 76 10,xf 77 4 2,xl 78 77,xo 79 (.call (tm 76) [tm 78] [[some sI]]),xf 80 3 11,xn (qs (tm 80) (tm 75)),xf 81 4 11,xn (qs (tm 81) (tm 79))] true [(3,6)])
 (.seq (rg [xo 82 (.i (.ld false 7 (tm 11))),xn (.st false 7 (tm 4) (tm 82))])
 .ret))))))))))
def Me:List Res:=[.cell 4 false 7]
theorem Mj:At Tryd.prog Tryd.f31=some (G0,Me):=by kernel_rfl
theorem Lq:Be Tryd.prog 31=true:=by kernel_rfl
def Bz (y3:LL) (u0:Nat) (u1:List Bool):Option (Ctl (Nat×List Bool) (List Bool)) :=
 cond (decide ((u0:Int)<(y3.length:Int)))
 (Option.bind (y3[u0]?) fun x14 =>
 Option.bind (H4 x14) fun y15 =>
 Option.bind (E2 u1 y15) fun x16 =>
 og (u0+1<4611686018427387904) <|
 some (Ctl.next (u0+1,u1.set y15.toNat true)))
 (some (Ctl.out u1))
def B0 (y19:List Int) (u3 u4:LL) (u0:Nat) (u1 u2:LL):Option (Ctl (Nat×LL×LL) (LL×LL)) :=
 cond (decide ((u0:Int)<(y19.length:Int)))
 (Option.bind (y19[u0]?) fun x31 =>
 Option.bind (E2 u3 x31) fun x33 =>
 og (u1.length+([x33]).length<=1073741824∧(u1.length+([x33]).length)*24<=140737488355328) <|
 Option.bind (E2 u4 x31) fun x35 =>
 Option.bind (Gf x35) fun y36 =>
 og (u2.length+1<=1073741824∧(u2.length+1)*24<=140737488355328) <|
 og (u0+1<4611686018427387904) <|
 some (Ctl.next (u0+1,u1++([x33]),u2++[y36])))
 (some (Ctl.out (u1,u2)))
def B3 (u0 u1 u2:Int) (u3 u4:LL) (u5 u6:LL) (a1:Int):Option (Int×Int×Int×LL×LL×LL×LL) :=
 Option.bind (Cz u0 u1 u2 u3 u4 u5 u6 a1) fun y3 =>
og (0<=u0∧u0<=u0∧u0<=1073741824∧(1:Int)*u0<=140737488355328) <|
Option.bind (Aw (fun s_:Nat×List Bool=>Bz y3 s_.1 s_.2) 4611686018427387904 (0,List.replicate u0.toNat (false:Bool))) fun u7 =>
Option.bind (Gc u7) fun y19 =>
Option.bind (Dc u6) fun y22 =>
Option.bind (Aw (fun s_:Nat×LL×LL=>B0 y19 u3 u5 s_.1 s_.2.1 s_.2.2) 4611686018427387904 (0,[],([]:LL))) fun (u8,u9) =>
Option.bind (Bs u8 y3 a1 y19) fun y40 =>
Option.bind (Bs u4 y3 a1 y19) fun y41 =>
some ((y19.length:Int),u1,u2,y40,y41,u9,y22)
def L0 (r:Int×Int×Int×LL×LL×LL×LL):RV:=⟨false,[(true,[.sc (.int .i64 r.1),.sc (.int .i64 r.2.1),.sc (.int .i64 r.2.2.1),.frz (tS r.2.2.2.1),.frz (tS r.2.2.2.2.1),.frz (tS r.2.2.2.2.2.1),.frz (tS r.2.2.2.2.2.2)])]⟩
theorem Ls {u4 u0 u1:Int} {u6 u7:LL} {u8 u9:LL} {a1:Int} {r:Int×Int×Int×LL×LL×LL×LL} (h:B3 u4 u0 u1 u6 u7 u8 u9 a1=some r):A0 Tryd.prog Tab 31 [.agg [ai u4,ai u0,ai u1,tS u6,tS u7,tS u8,tS u9],ai a1] (L0 r):=by
 refine Ej (by kernel_rfl) Tryd.func31 Mj (n:=83) (by kernel_rfl) (by simp) (tl:=[(0,.agg [ai u4,ai u0,ai u1,tS u6,tS u7,tS u8,tS u9]),(1,ai a1)]) rfl fun zn_ nz_ hz_=>?_
 unfold G0;unfold B3 at h;refine Al ?_;refine Ab ?_;obtain ⟨y3,h3,h⟩:=Ad h;refine Aa 9 ?_;refine rsB 2 ?_;refine zc (.ftr nz_ sI y3) [] [.agg [ai u4,ai u0,ai u1,tS u6,tS u7,tS u8,tS u9],ai a1] (Ld hz_ (Qr h3)) ?_;refine rsB 2 ?_;refine Aq (tn_ ?_);refine wr_ ?_;refine Ab ?_;obtain ⟨g5,h⟩:=Am h;refine Aa 13 ?_;refine rsB 2 ?_;refine rs1 (.own (oi 19 11) .bool 0 u4.toNat) (oi 19 11) (.arr 4 .bool (List.replicate u4.toNat (false:Bool))) (Lu (t:=.bool) (k:=.i64) (k':=.i64) (m:=u4) (m':=u4) (by kernel_rfl) (by kernel_rfl) g5 rfl) ?_;refine rsB 1 ?_;refine Aq (tn_ ?_);refine wr_ ?_;refine Ar h (fun (ud:List Bool) S_=>S_=⟨Ao [(2,.box (oi 0 1) 0),(3,.box (oi 1 1) 0),(4,.box (oi 2 1) 0),(5,.box (oi 3 1) 0),(6,.own (oi 4 1) .bool 0 ud.length)],Aj (Ap [(oi 0 1,.cells 39 [ai u4,ai u0,ai u1,tS u6,tS u7,tS u8,tS u9]),(oi 1 1,.cells 3 [ai a1]),(oi 2 1,.cells 39 [ai 0,ai 0,ai 0,.nils,.nils,.nils,.nils]),(oi 3 1,.cells 37 [.ftr nz_ sI y3]),(oi 4 1,.arr 4 .bool ud)]),2⟩) ?_ ?_
 ·intro v_ h;refine Al ?_;refine Ae ?_;refine Av h (fun t_ S_=>∃ (uc:Nat),∃ (u5:List Bool),t_=(uc,u5)∧S_=⟨Ao [(2,.box (oi 0 1) 0),(3,.box (oi 1 1) 0),(4,.box (oi 2 1) 0),(5,.box (oi 3 1) 0),(6,.own (oi 4 1) .bool 0 u5.length),(20,.ftr nz_ sI y3),(21,an y3.length),(22,an uc)],Aj (Ap [(oi 0 1,.cells 39 [ai u4,ai u0,ai u1,tS u6,tS u7,tS u8,tS u9]),(oi 1 1,.cells 3 [ai a1]),(oi 2 1,.cells 39 [ai 0,ai 0,ai 0,.nils,.nils,.nils,.nils]),(oi 3 1,.cells 37 [.ftr nz_ sI y3]),(oi 4 1,.arr 4 .bool u5)]),2⟩) ⟨_,(A8 6 (.own (oi 19 11) .bool 0 u4.toNat) (.own (oi 19 11) .bool 0 ((List.replicate u4.toNat (false:Bool)).length)) (by kernel_rfl) (congrArg (fun z_=>((.own (oi 19 11) .bool 0 z_):AV)) (List.length_replicate.symm:u4.toNat=(List.replicate u4.toNat (false:Bool)).length))).trans (Ac [(oi 0 1,oi 2 1),(oi 1 1,oi 3 2),(oi 2 1,oi 4 3),(oi 3 1,oi 5 7),(oi 4 1,oi 19 11)]),⟨0,List.replicate u4.toNat (false:Bool),rfl,rfl⟩⟩ ?_;rintro n_ _ _ c_ ⟨uc,u5,rfl,rfl⟩ h hn8
  (try dsimp only at h);unfold Bz at h;unfold Fx;refine Al ?_;refine Ab ?_;rcases Af h with ⟨q11,h⟩ | ⟨q11,h⟩
  ·have q11_:=of_decide_eq_true q11;refine Ah q11 ?_;refine Ai (tn_ ?_);refine wr_ ?_;refine Ab ?_;refine Ae ?_;refine Ab ?_;obtain ⟨x14,e14,h⟩:=Ad h;refine Aa 6 ?_;refine rs0 (.telt (some nz_) sI x14 0) (zi (t:=sI) (xs:=y3) (k:=.i64) (m:=(uc:Int)) (Dp _) e14) ?_;refine rsB 2 ?_;refine Aq (tn_ ?_);refine wr_ ?_;obtain ⟨y15,h15,h⟩:=Ad h;obtain ⟨x16,f16,h⟩:=Ad h;obtain ⟨p16,b16,e16⟩:=Ba f16;refine Aa 11 ?_;refine rsB 2 ?_;refine Cm (ai y15) [] [.ftr nz_ .int x14] _ (caps:=[]) (args0:=[tI x14]) trivial (by kernel_rfl) (E4 (Ov h15)) Ank ?_;refine rs0 (.elt (oi 4 1) y15.toNat 0) (zo (t:=.bool) (o:=oi 4 1) (len:=u5.length) (k:=.i64) (m:=y15) p16 (As e16)) ?_;refine Ame (oi 4 1) (oi 4 1) (.arr 4 .bool (u5.set y15.toNat true)) (Zm (i:=oi 4 1) (j:=y15.toNat) (k:=0) (e:=4) (t:=.bool) (xs:=u5) (cs:=[.bool true]) (x1:=true) (by kernel_rfl) (by kernel_rfl) e16 (by kernel_rfl) (by kernel_rfl)) ?_;refine Aq (bn_ (tn_ ?_));refine wr_ ?_;obtain ⟨g17,h⟩:=Am h;refine Aa 13 ?_;refine zA g17 ?_;refine rsB 1 ?_;refine Aq (tn_ ?_);obtain rfl:=zj h;exact ⟨(uc+1,u5.set y15.toNat true),_,(A8 6 (.own (oi 4 1) .bool 0 u5.length) (.own (oi 4 1) .bool 0 ((u5.set y15.toNat true).length)) (by kernel_rfl) (congrArg (fun z_=>((.own (oi 4 1) .bool 0 z_):AV)) (((rfl:u5.length=u5.length).trans List.length_set.symm):u5.length=(u5.set y15.toNat true).length))).trans (Ac []),⟨uc+1,u5.set y15.toNat true,rfl,rfl⟩,hn8⟩
  have q11_:=of_decide_eq_false q11;refine Ag q11 ?_;refine Au (te_ (te_ (be_ (tn_ ?_))));obtain rfl:=zj h;have h:=hn8
  (try dsimp only at h);obtain rfl:=zj h;exact ⟨_,Ac [],rfl⟩
 rintro ud _ rfl h
 (try dsimp only at h);refine Ab ?_;obtain ⟨y19,h19,h⟩:=Ad h;refine Aa 6 ?_;refine rsB 1 ?_;refine Cm (oI 512 3 y19.length) [nI 512 3 y19] [.own (oi 4 1) .bool 0 ud.length] _ (caps:=[]) (args0:=[.tree .bool ud]) trivial (Ay (Ca (e:=4) (by kernel_rfl) rfl) B9) (E4 (Ach h19)) Abb ?_;refine rsB 2 ?_;refine Aq (tn_ ?_);refine wr_ ?_;refine Al ?_;refine Ab ?_;obtain ⟨y22,h22,h⟩:=Ad h;refine Ax 20 ?_;refine dzl (oI 512 3 y19.length) ?_;refine dz0 (an y19.length) ?_;refine dz0 (.box (oi 0 1) 1) ?_;refine dzl (ai u0) ?_;refine dz0 (.box (oi 0 1) 2) ?_;refine dzl (ai u1) ?_;refine dz0 (.box (oi 0 1) 6) ?_;refine dzl (tS u9) ?_;refine N6 (oS 672 16 y22.length) [(oi 672 16,some (.mat 23 (oi 673 16) .int y22)),(oi 673 16,some (.pool 3 .int y22))] [] [tS u9] (caps:=[]) trivial (L7 (Hn h22)) Hp trivial (.cons (.ren (by kernel_rfl)) .nil) (Bj (by kernel_rfl) (by kernel_rfl) trivial) (Pp (by kernel_rfl)) ?_;refine dz0 (.agg [an y19.length,ai u0,ai u1,.nils,.nils,.nils,oS 672 16 y22.length]) ?_;refine ds1 (.box (oi 11 18) 0) (oi 11 18) (.cells 39 [ai 0,ai 0,ai 0,.nils,.nils,.nils,.nils]) (by kernel_rfl) ?_;refine K7 (oi 11 18) (oi 11 18) (.cells 39 [an y19.length,ai u0,ai u1,.nils,.nils,.nils,oS 672 16 y22.length]) (by kernel_rfl) ?_;refine F5 ⟨Uj (by kernel_rfl),⟨Uj (by kernel_rfl),⟨Uj (by kernel_rfl),⟨Ru (by kernel_rfl),trivial⟩⟩⟩⟩ (tn_ ?_);refine wr_ ?_;refine Ar h (fun t_ S_=>∃ (ub:LL),∃ (ua:LL),t_=(ub,ua)∧S_=⟨Ao [(2,.box (oi 0 1) 0),(4,.box (oi 1 1) 0),(10,.fn 65 [.box (oi 2 1) 0,.box (oi 3 1) 0,.box (oi 4 1) 0]),(11,.box (oi 5 1) 0)],Aj (Ap [(oi 0 1,.cells 39 [ai u4,ai u0,ai u1,tS u6,tS u7,tS u8,tS u9]),(oi 1 1,.cells 39 [ai 0,ai 0,ai 0,.nils,.nils,.nils,.nils]),(oi 2 1,.cells 37 [.ftr nz_ sI y3]),(oi 3 1,.cells 3 [ai a1]),(oi 4 1,.cells 23 [oI 6 1 y19.length]),(oi 5 1,.cells 39 [an y19.length,ai u0,ai u1,oS 7 1 ub.length,.nils,oS 8 1 ua.length,oS 10 1 y22.length]),(oi 6 1,.arr 3 .int y19),(oi 7 1,.tv 23 none sI ub),(oi 8 1,.mat 23 (oi 9 1) .int ua),(oi 9 1,.pool 3 .int ua),(oi 10 1,.mat 23 (oi 11 1) .int y22),(oi 11 1,.pool 3 .int y22)]),2⟩) ?_ ?_
 ·intro v_ h;refine Al ?_;refine Ae ?_;refine Av h (fun t_ S_=>∃ (ue:Nat),∃ (u2:LL),∃ (u3:LL),t_=(ue,u2,u3)∧S_=⟨Ao [(2,.box (oi 0 1) 0),(4,.box (oi 1 1) 0),(10,.fn 65 [.box (oi 2 1) 0,.box (oi 3 1) 0,.box (oi 4 1) 0]),(11,.box (oi 5 1) 0),(44,oI 6 1 y19.length),(45,an y19.length),(46,an ue)],Aj (Ap [(oi 0 1,.cells 39 [ai u4,ai u0,ai u1,tS u6,tS u7,tS u8,tS u9]),(oi 1 1,.cells 39 [ai 0,ai 0,ai 0,.nils,.nils,.nils,.nils]),(oi 2 1,.cells 37 [.ftr nz_ sI y3]),(oi 3 1,.cells 3 [ai a1]),(oi 4 1,.cells 23 [oI 6 1 y19.length]),(oi 5 1,.cells 39 [an y19.length,ai u0,ai u1,oS 7 1 u2.length,.nils,oS 8 1 u3.length,oS 10 1 y22.length]),(oi 6 1,.arr 3 .int y19),(oi 7 1,.tv 23 none sI u2),(oi 8 1,.mat 23 (oi 9 1) .int u3),(oi 9 1,.pool 3 .int u3),(oi 10 1,.mat 23 (oi 11 1) .int y22),(oi 11 1,.pool 3 .int y22)]),2⟩) ⟨_,(Bt 9000 (oi 11 18) 3 39 [an y19.length,ai u0,ai u1,.nils,.nils,.nils,oS 672 16 y22.length] [an y19.length,ai u0,ai u1,oS 9000 23 0,.nils,.nils,oS 672 16 y22.length] 23 sI (by kernel_rfl) (by kernel_rfl) (by kernel_rfl)).trans ((Afx (N:=0) (oi 9000 23) 23 none sI [] (by kernel_rfl) rfl).trans ((Bt 9002 (oi 11 18) 5 39 [an y19.length,ai u0,ai u1,oS 9000 23 0,.nils,.nils,oS 672 16 y22.length] [an y19.length,ai u0,ai u1,oS 9000 23 0,.nils,oS 9002 24 0,oS 672 16 y22.length] 23 sI (by kernel_rfl) (by kernel_rfl) (by kernel_rfl)).trans ((B2 (e1:=23) (n:=0) 9000 (oi 9002 24) 3 .int (by kernel_rfl) (by kernel_rfl) rfl (by kernel_rfl) (by kernel_rfl)).trans (Ac [(oi 1 1,oi 2 1),(oi 2 1,oi 3 1),(oi 3 1,oi 1 1),(oi 4 1,oi 9 4),(oi 6 1,oi 512 3),(oi 5 1,oi 11 18),(oi 7 1,oi 9000 23),(oi 8 1,oi 9002 24),(oi 9 1,oi 9000 25),(oi 10 1,oi 672 16),(oi 11 1,oi 673 16)])))),⟨0,[],([]:LL),rfl,rfl⟩⟩ ?_;rintro n_ _ _ c_ ⟨ue,u2,u3,rfl,rfl⟩ h hn25
  (try dsimp only at h);unfold B0 at h;unfold Fq;refine Al ?_;refine Ab ?_;rcases Af h with ⟨q28,h⟩ | ⟨q28,h⟩
  ·have q28_:=of_decide_eq_true q28;refine Ah q28 ?_;refine Ai (tn_ ?_);refine wr_ ?_;refine Ab ?_;refine Ae ?_;refine Ab ?_;obtain ⟨x31,e31,h⟩:=Ad h;refine Aa 6 ?_;refine zO (oi 6 1) .int y19.length (As e31) ?_;refine zE (oi 6 1) e31 ?_;refine rsB 1 ?_;refine Aq (tn_ ?_);refine wr_ ?_;refine Ab ?_;obtain ⟨x33,f33,h⟩:=Ad h;obtain ⟨p33,b33,e33⟩:=Ba f33;obtain ⟨g34,h⟩:=Am h;refine Ax 17 ?_;refine dz0 (.box (oi 5 1) 3) ?_;refine dzl (oS 7 1 u2.length) ?_;refine dz0 (.box (oi 0 1) 3) ?_;refine dzl (tS u6) ?_;refine dz0 (ai x31) ?_;refine ds0 (.telt none sI x33 0) (zi (t:=sI) (xs:=u6) (k:=.i64) (m:=x31) p33 e33) ?_;refine dz0 (tI x33) ?_;refine dsU (tS ([x33])) [] (A2b (t:=.int) (yss:=[x33]) (Au2 (t:=.int) (c:=tI x33) (ys:=x33) (by kernel_rfl) Am7 Ay1) (by kernel_rfl)) ?_;refine ds2 (oS 7 14 (u2.length+([x33]).length)) (oi 7 1) (oi 7 14) (.vec 23 1 (u2.length+([x33]).length) (tvC none sI (u2++([x33])))) (Ant (o:=oi 7 1) (t:=sI) (t':=sI) (len:=u2.length) (N:=u2.length) (m:=none) (xs:=u2) (ys:=[x33]) (by kernel_rfl) (by kernel_rfl) rfl rfl (Ay8 (by kernel_rfl)) g34) ?_;refine dz0 (.box (oi 5 1) 3) ?_;refine K7 (oi 5 1) (oi 5 1) (.cells 39 [an y19.length,ai u0,ai u1,oS 7 14 (u2.length+([x33]).length),.nils,oS 8 1 u3.length,oS 10 1 y22.length]) (by kernel_rfl) ?_;refine F5 (Bc (by kernel_rfl)) (tn_ ?_);refine ⟨_,Afx (N:=u2.length+([x33]).length) (oi 7 14) 23 none sI (u2++([x33])) (by kernel_rfl) (by simp),?_⟩;obtain ⟨x35,f35,h⟩:=Ad h;obtain ⟨p35,b35,e35⟩:=Ba f35;obtain ⟨y36,h36,h⟩:=Ad h;obtain ⟨g37,h⟩:=Am h;refine Ax 29 ?_;refine dz0 (.box (oi 5 1) 5) ?_;refine dzl (oS 8 1 u3.length) ?_;refine dz0 (.box (oi 0 1) 5) ?_;refine dzl (tS u8) ?_;refine dz0 (ai x31) ?_;refine ds0 (.telt none sI x35 0) (zi (t:=sI) (xs:=u8) (k:=.i64) (m:=x31) p35 e35) ?_;refine dz0 (tI x35) ?_;refine dzc (oI 1072 24 y36.length) [nI 1072 24 y36] [tI x35] (E4 (M6 h36)) ?_;refine Aad (oS 68 25 1) (oi 68 25) (.vec 23 1 1 ([oI 1072 24 y36.length])) trivial (G1 (by kernel_rfl)) ?_;refine ds2 (oS 8 26 (u3.length+1)) (oi 8 1) (oi 8 26) (.vec 23 1 (u3.length+1) (hdL (oi 9 1) .int u3++[oI 1072 24 y36.length])) (Dd (u:=.int) (t':=sI) (t2:=sI) (o:=oi 8 1) (q:=oi 68 25) (e2:=23) (p:=oi 9 1) (xss:=u3) (cs:=[oI 1072 24 y36.length]) (len:=u3.length) (by kernel_rfl) (by kernel_rfl) rfl (by kernel_rfl) (by kernel_rfl) rfl g37) ?_;refine dz0 (.box (oi 5 1) 5) ?_;refine K7 (oi 5 1) (oi 5 1) (.cells 39 [an y19.length,ai u0,ai u1,oS 7 14 (u2.length+([x33]).length),.nils,oS 8 26 (u3.length+1),oS 10 1 y22.length]) (by kernel_rfl) ?_;refine F5 (Bc (by kernel_rfl)) (bn_ (tn_ ?_));refine ⟨_,B8 (e1:=23) (e:=3) (u:=.int) (n:=u3.length+1) (len:=y36.length) (row:=y36) (ys:=y36) (xss:=u3) 9000 (oi 8 26) (oi 9 1) (oi 1072 24) (by kernel_rfl) (by kernel_rfl) rfl (by kernel_rfl) (by kernel_rfl) (H2 rfl) (H1 rfl) (by kernel_rfl) (by kernel_rfl) (by kernel_rfl),?_⟩;obtain ⟨g38,h⟩:=Am h;refine Aa 32 ?_;refine zA g38 ?_;refine rsB 1 ?_;refine Aq (tn_ ?_);obtain rfl:=zj h;exact ⟨(ue+1,u2++([x33]),u3++[y36]),_,(C7 (oi 5 1) (.cells 39 [an y19.length,ai u0,ai u1,oS 7 14 (u2.length+([x33]).length),.nils,oS 8 26 (u3.length+1),oS 10 1 y22.length]) (.cells 39 [an y19.length,ai u0,ai u1,oS 7 14 ((u2++([x33])).length),.nils,oS 8 26 (u3.length+1),oS 10 1 y22.length]) (by kernel_rfl) (congrArg (fun z_=>(.cells 39 [an y19.length,ai u0,ai u1,oS 7 14 z_,.nils,oS 8 26 (u3.length+1),oS 10 1 y22.length]:Ob)) ((by simp):u2.length+([x33]).length=(u2++([x33])).length))).trans ((C7 (oi 5 1) (.cells 39 [an y19.length,ai u0,ai u1,oS 7 14 ((u2++([x33])).length),.nils,oS 8 26 (u3.length+1),oS 10 1 y22.length]) (.cells 39 [an y19.length,ai u0,ai u1,oS 7 14 ((u2++([x33])).length),.nils,oS 8 26 ((u3++[y36]).length),oS 10 1 y22.length]) (by kernel_rfl) (congrArg (fun z_=>(.cells 39 [an y19.length,ai u0,ai u1,oS 7 14 ((u2++([x33])).length),.nils,oS 8 26 z_,oS 10 1 y22.length]:Ob)) ((by simp):u3.length+1=(u3++[y36]).length))).trans (Ac [(oi 7 1,oi 7 14),(oi 8 1,oi 8 26),(oi 9 1,oi 9000 29)])),⟨ue+1,u2++([x33]),u3++[y36],rfl,rfl⟩,hn25⟩
  have q28_:=of_decide_eq_false q28;refine Ag q28 ?_;refine Au (te_ (te_ (be_ (tn_ ?_))));obtain rfl:=zj h;have h:=hn25
  (try dsimp only at h);obtain rfl:=zj h;exact ⟨_,Ac [],⟨u2,u3,rfl,rfl⟩⟩
 rintro _ _ ⟨ub,ua,rfl,rfl⟩ h
 (try dsimp only at h);refine Ab ?_;obtain ⟨y40,h40,h⟩:=Ad h;obtain ⟨y41,h41,h⟩:=Ad h;refine Ax 14 ?_;refine dz0 (.fn 65 [.box (oi 2 1) 0,.box (oi 3 1) 0,.box (oi 4 1) 0]) ?_;refine dz0 (.box (oi 5 1) 3) ?_;refine dzl (oS 7 1 ub.length) ?_;refine N6 (oS 1200 5 y40.length) [(oi 1200 5,some (.mat 23 (oi 1201 5) .int y40)),(oi 1201 5,some (.pool 3 .int y40))] [] [oS 7 1 ub.length,.box (oi 2 1) 0,.box (oi 3 1) 0,.box (oi 4 1) 0] (caps:=[.box (oi 2 1) 0,.box (oi 3 1) 0,.box (oi 4 1) 0]) trivial (L7 (F0 h40)) Fv trivial (.cons (.gnd (by kernel_rfl) (A0d (e:=23) (m:=none) (t:=sI) (xs:=ub) ((G4 (by kernel_rfl) (by kernel_rfl) (by kernel_rfl)).trans (by kernel_rfl)) rfl)) (.cons (.gnd (by kernel_rfl) (Abc (ty:=37) (cs:=[.ftr nz_ sI y3]) (es:=[.ftr nz_ sI y3]) ((G4 (by kernel_rfl) (by kernel_rfl) (by kernel_rfl)).trans (by kernel_rfl)) (by kernel_rfl) (Ay (by kernel_rfl) B9))) (.cons (.gnd (by kernel_rfl) (Abc (ty:=3) (cs:=[ai a1]) (es:=[ai a1]) ((G4 (by kernel_rfl) (by kernel_rfl) (by kernel_rfl)).trans (by kernel_rfl)) (by kernel_rfl) (Ay (by kernel_rfl) B9))) (.cons (.gnd (by kernel_rfl) (Abc (ty:=23) (cs:=[oI 6 1 y19.length]) (es:=[oI 6 1 y19.length]) ((G4 (by kernel_rfl) (by kernel_rfl) (by kernel_rfl)).trans (by kernel_rfl)) (by kernel_rfl) (Ay (Ca (e:=3) ((G4 (by kernel_rfl) (by kernel_rfl) (by kernel_rfl)).trans (by kernel_rfl)) rfl) B9))) .nil)))) (Bj (by kernel_rfl) (by kernel_rfl) trivial) (Pp (by kernel_rfl)) ?_;refine dz0 (.fn 65 [.box (oi 2 1) 0,.box (oi 3 1) 0,.box (oi 4 1) 0]) ?_;refine dz0 (.box (oi 0 1) 4) ?_;refine dzl (tS u7) ?_;refine N6 (oS 1264 9 y41.length) [(oi 1264 9,some (.mat 23 (oi 1265 9) .int y41)),(oi 1265 9,some (.pool 3 .int y41))] [] [tS u7,.box (oi 2 1) 0,.box (oi 3 1) 0,.box (oi 4 1) 0] (caps:=[.box (oi 2 1) 0,.box (oi 3 1) 0,.box (oi 4 1) 0]) trivial (L7 (F0 h41)) Fv trivial (.cons (.ren (by kernel_rfl)) (.cons (.gnd (by kernel_rfl) (Abc (ty:=37) (cs:=[.ftr nz_ sI y3]) (es:=[.ftr nz_ sI y3]) ((G4 (by kernel_rfl) (by kernel_rfl) (by kernel_rfl)).trans (by kernel_rfl)) (by kernel_rfl) (Ay (by kernel_rfl) B9))) (.cons (.gnd (by kernel_rfl) (Abc (ty:=3) (cs:=[ai a1]) (es:=[ai a1]) ((G4 (by kernel_rfl) (by kernel_rfl) (by kernel_rfl)).trans (by kernel_rfl)) (by kernel_rfl) (Ay (by kernel_rfl) B9))) (.cons (.gnd (by kernel_rfl) (Abc (ty:=23) (cs:=[oI 6 1 y19.length]) (es:=[oI 6 1 y19.length]) ((G4 (by kernel_rfl) (by kernel_rfl) (by kernel_rfl)).trans (by kernel_rfl)) (by kernel_rfl) (Ay (Ca (e:=3) ((G4 (by kernel_rfl) (by kernel_rfl) (by kernel_rfl)).trans (by kernel_rfl)) rfl) B9))) .nil)))) (Bj (by kernel_rfl) (by kernel_rfl) trivial) (Pp (by kernel_rfl)) ?_;refine dz0 (.box (oi 5 1) 3) ?_;refine K7 (oi 5 1) (oi 5 1) (.cells 39 [an y19.length,ai u0,ai u1,oS 1200 5 y40.length,.nils,oS 8 1 ua.length,oS 10 1 y22.length]) (by kernel_rfl) ?_;refine dz0 (.box (oi 5 1) 4) ?_;refine K7 (oi 5 1) (oi 5 1) (.cells 39 [an y19.length,ai u0,ai u1,oS 1200 5 y40.length,oS 1264 9 y41.length,oS 8 1 ua.length,oS 10 1 y22.length]) (by kernel_rfl) ?_;refine F5 ⟨Ru (by kernel_rfl),trivial⟩ (tn_ ?_);refine wr_ ?_;refine Al ?_;refine An ?_;obtain rfl:=zj h;exact Kk [(true,[an y19.length,ai u0,ai u1,oS 1200 5 y40.length,oS 1264 9 y41.length,oS 8 1 ua.length,oS 10 1 y22.length])] (Oa (Az C3 (Az C3 (Az C3 (Az (Bp (.mat (p:=oi 1201 5) (e1:=23) (e:=3) (by kernel_rfl) (Bn (by kernel_rfl)) rfl)) (Az (Bp (.mat (p:=oi 1265 9) (e1:=23) (e:=3) (by kernel_rfl) (Bn (by kernel_rfl)) rfl)) (Az (Bp (.mat (p:=oi 9 1) (e1:=23) (e:=3) (by kernel_rfl) (Bn (by kernel_rfl)) rfl)) (Az (Bp (.mat (p:=oi 11 1) (e1:=23) (e:=3) (by kernel_rfl) (Bn (by kernel_rfl)) rfl)) Oe))))))) Gz)
def Iy:AC :=
 (.seq (rg [xo 2 (.i (.box 39 (tm 0))),xo 4 (.i (.alloc 39 [.int .i64 0,.int .i64 0,.int .i64 0,.nils,.nils,.nils,.nils]))])
 (.seq (rg [xo 5 (.i (.ld false 7 (tm 2))),xm 6 1,xo 7 (qc 30 [tm 5,tm 6] [[none,none,none,some sI,some sI,some sI,some sI],[]]),xm 8 1,xo 9 (qc 31 [tm 7,tm 8] [[none,none,none,some sI,some sI,some sI,some sI],[]]),xn (.st false 7 (tm 4) (tm 9))])
 .ret))
def O0:List Res:=[.cell 4 false 7]
theorem Oy:At Tryd.prog Tryd.f16=some (Iy,O0):=by kernel_rfl
def Cf (u0 u1 u2:Int) (u3 u4:LL) (u5 u6:LL) (a1:Int):Option (Int×Int×Int×LL×LL×LL×LL) :=
 Option.bind (Bu u0 u1 u2 u3 u4 u5 u6 a1) fun y3 =>
Option.bind (B3 y3.1 y3.2.1 y3.2.2.1 y3.2.2.2.1 y3.2.2.2.2.1 y3.2.2.2.2.2.1 y3.2.2.2.2.2.2 a1) fun y4 =>
some (y4.1,y4.2.1,y4.2.2.1,y4.2.2.2.1,y4.2.2.2.2.1,y4.2.2.2.2.2.1,y4.2.2.2.2.2.2)
def N9 (r:Int×Int×Int×LL×LL×LL×LL):RV:=⟨false,[(true,[.sc (.int .i64 r.1),.sc (.int .i64 r.2.1),.sc (.int .i64 r.2.2.1),.frz (tS r.2.2.2.1),.frz (tS r.2.2.2.2.1),.frz (tS r.2.2.2.2.2.1),.frz (tS r.2.2.2.2.2.2)])]⟩
theorem N8 {u0 u1 u2:Int} {u3 u4:LL} {u5 u6:LL} {a1:Int} {r:Int×Int×Int×LL×LL×LL×LL} (h:Cf u0 u1 u2 u3 u4 u5 u6 a1=some r):A0 Tryd.prog Tab 16 [.agg [ai u0,ai u1,ai u2,tS u3,tS u4,tS u5,tS u6],ai a1] (N9 r):=by
 refine Ej (by kernel_rfl) Tryd.func16 Oy (n:=10) (by kernel_rfl) (by simp) (tl:=[(0,.agg [ai u0,ai u1,ai u2,tS u3,tS u4,tS u5,tS u6]),(1,ai a1)]) rfl fun zn_ nz_ hz_=>?_
 unfold Iy;unfold Cf at h;refine Al ?_;refine Ab ?_;obtain ⟨y3,h3,h⟩:=Ad h;obtain ⟨y4,h4,h⟩:=Ad h;refine Aa 9 ?_;refine rsB 2 ?_;refine zc (.agg [ai y3.1,ai y3.2.1,ai y3.2.2.1,.ftr nz_ sI y3.2.2.2.1,.ftr nz_ sI y3.2.2.2.2.1,.ftr nz_ sI y3.2.2.2.2.2.1,.ftr nz_ sI y3.2.2.2.2.2.2]) [] [.agg [ai u0,ai u1,ai u2,tS u3,tS u4,tS u5,tS u6],ai a1] (Ld hz_ (Jo h3)) ?_;refine rsB 1 ?_;refine Cm (.agg [ai y4.1,ai y4.2.1,ai y4.2.2.1,.ftr nz_ sI y4.2.2.2.1,.ftr nz_ sI y4.2.2.2.2.1,.ftr nz_ sI y4.2.2.2.2.2.1,.ftr nz_ sI y4.2.2.2.2.2.2]) [] [.agg [ai y3.1,ai y3.2.1,ai y3.2.2.1,.ftr nz_ sI y3.2.2.2.1,.ftr nz_ sI y3.2.2.2.2.1,.ftr nz_ sI y3.2.2.2.2.2.1,.ftr nz_ sI y3.2.2.2.2.2.2],ai a1] _ (caps:=[]) (args0:=[.agg [ai y3.1,ai y3.2.1,ai y3.2.2.1,tS y3.2.2.2.1,tS y3.2.2.2.2.1,tS y3.2.2.2.2.2.1,tS y3.2.2.2.2.2.2],ai a1]) trivial (by kernel_rfl) (Ld hz_ (Ls h4)) Lq ?_;refine rsB 1 ?_;refine Aq (tn_ ?_);refine wr_ ?_;refine An ?_;obtain rfl:=zj h;exact Kk [(true,[ai y4.1,ai y4.2.1,ai y4.2.2.1,.ftr nz_ sI y4.2.2.2.1,.ftr nz_ sI y4.2.2.2.2.1,.ftr nz_ sI y4.2.2.2.2.2.1,.ftr nz_ sI y4.2.2.2.2.2.2])] (Oa (Az C3 (Az C3 (Az C3 (Az (Bp .ftr) (Az (Bp .ftr) (Az (Bp .ftr) (Az (Bp .ftr) Oe))))))) Gz)
def Li:AC :=
 (.seq (rg [xo 3 (.i (.box 31 (tm 1))),xo 4 (qm (ci 0)),xo 5 (qm (cb false))])
 (.seq (rg [xm 9 0,xo 10 (.i (.ld false 3 (tm 3))),⟨some 11,none,qc 15 [tm 9,tm 10] [[],[none,some T4,some .int]]⟩,xm 8 11,xo 12 (.i (.extr 0 (tm 8))),xo 13 (.i (.extr 1 (tm 8))),xo 6 (.i (.alloc 39 [.int .i64 0,.int .i64 0,.int .i64 0,.nils,.nils,.nils,.nils])),xn (.st false 7 (tm 6) (tm 12)),xm 7 13])
 (.seq (.seq (rg [xm 14 7,xo 15 (.i (.not (tm 14)))])
 (.cond (tm 15)
  (.seq (rg [xo 4 (qm (ci 0)),xo 5 (qm (cb false))])
  .ret)
  .skip))
 (.seq (rg [xo 16 (.i (.ld false 7 (tm 6))),xm 17 0,xo 18 (qc 16 [tm 16,tm 17] [[none,none,none,some sI,some sI,some sI,some sI],[]]),xo 19 (.i (.ofld true 1 0 (tm 18))),xm 4 19,xo 5 (qm (cb true))])
 .ret))))
def Sy:List Res:=[.tmp 4,.tmp 5]
theorem Sh:At Tryd.prog Tryd.f7=some (Li,Sy):=by kernel_rfl
theorem Rs:Be Tryd.prog 7=true:=by kernel_rfl
def C8 (a0 u0:Int) (u1:List (Int×Int×Int×Int)) (u2:List Int):Option (Int×Bool) :=
 Option.bind (F4 a0 u0 u1 u2) fun y3 =>
cond (!y3.2.2.2.2.2.2.2)
 (some (0,false))
 (Option.bind (Cf y3.1 y3.2.1 y3.2.2.1 y3.2.2.2.1 y3.2.2.2.2.1 y3.2.2.2.2.2.1 y3.2.2.2.2.2.2.1 a0) fun y9 =>
 some (y9.1,true))
def R0 (r:Int×Bool):RV:=⟨true,[(false,[.sc (.int .i64 r.1)]),(false,[.sc (.bool r.2)])]⟩
theorem Rr {a0 u0:Int} {u1:List (Int×Int×Int×Int)} {u2:List Int} {r:Int×Bool} (h:C8 a0 u0 u1 u2=some r):A0 Tryd.prog Tab 7 [ai a0,.agg [ai u0,.tree T4 u1,tI u2]] (R0 r):=by
 refine A1 (by kernel_rfl) Tryd.func7 Sh (n:=20) (by kernel_rfl) (by simp) (tl:=[(0,ai a0),(1,.agg [ai u0,.tree T4 u1,tI u2])]) rfl ?_;unfold Li;unfold C8 at h;refine Al ?_;refine Ab ?_;obtain ⟨y3,h3,h⟩:=Ad h;refine Aa 13 ?_;refine rsB 2 ?_;refine zc (.tup [.agg [ai y3.1,ai y3.2.1,ai y3.2.2.1,tS y3.2.2.2.1,tS y3.2.2.2.2.1,tS y3.2.2.2.2.2.1,tS y3.2.2.2.2.2.2.1],.bool y3.2.2.2.2.2.2.2]) [] [ai a0,.agg [ai u0,.tree T4 u1,tI u2]] (Up h3) ?_;refine rsB 6 ?_;refine Aq (tn_ ?_);refine wr_ ?_;refine Ab ?_;refine Al ?_;rcases Af h with ⟨q6,h⟩ | ⟨q6,h⟩
 ·refine Ah q6 ?_;refine Al ?_;refine An (tr_ ?_);obtain rfl:=zj h;exact Bo [ai 0,.bool false] (A2 rfl zl (A2 rfl zl A5))
 refine Ag q6 ?_;refine Ai (tn_ ?_);refine wr_ ?_;refine Ab ?_;obtain ⟨y9,h9,h⟩:=Ad h;refine Aa 21 ?_;refine rsB 2 ?_;refine zc (.agg [ai y9.1,ai y9.2.1,ai y9.2.2.1,tS y9.2.2.2.1,tS y9.2.2.2.2.1,tS y9.2.2.2.2.2.1,tS y9.2.2.2.2.2.2]) [] [.agg [ai y3.1,ai y3.2.1,ai y3.2.2.1,tS y3.2.2.2.1,tS y3.2.2.2.2.1,tS y3.2.2.2.2.2.1,tS y3.2.2.2.2.2.2.1],ai a0] (N8 h9) ?_;refine rsB 3 ?_;refine Aq (tn_ ?_);refine wr_ ?_;refine An ?_;obtain rfl:=zj h;exact Bo [ai y9.1,.bool true] (A2 rfl zl (A2 rfl zl A5))
def Ho:AC :=
 (.seq (rg [xo 3 (.i (.box 25 (tm 1))),xo 4 (qm (cb false))])
 (.seq (rg [xo 5 (qm (ci 1048576))])
 (.seq (rg [xo 11 (.i (.ld false 3 (tm 3))),xm 12 5,⟨some 13,none,qc 4 [tm 11,tm 12] [[none,some T4,some .int],[]]⟩,xm 5 13])
 (.seq (.seq (rg [xm 14 5,xo 15 (qb .lss (tm 14) (ci 0))])
 (.cond (tm 15)
  (.seq (rg [xo 4 (qm (cb true))])
  .ret)
  .skip))
 (.seq (rg [xm 17 0,xo 18 (.i (.ld false 3 (tm 3))),⟨some 19,none,qc 6 [tm 18] [[none,some T4,some .int]]⟩,⟨some 20,none,qc 5 [tm 17,tm 19] [[],[none,some T4,some .int]]⟩,xm 16 20,xo 21 (.i (.extr 0 (tm 16))),xo 22 (.i (.extr 1 (tm 16))),xm 6 21,xm 7 22])
 (.seq (rg [xo 23 (.i (.ld false 3 (tm 3))),⟨some 24,none,qc 6 [tm 23] [[none,some T4,some .int]]⟩,xo 8 (.i (.alloc 31 [.int .i64 0,.nils,.nils])),xn (.st false 3 (tm 8) (tm 24))])
 (.seq (rg [xm 26 0,xo 27 (.i (.ld false 3 (tm 8))),⟨some 28,none,qc 7 [tm 26,tm 27] [[],[none,some T4,some .int]]⟩,xm 25 28,xo 29 (.i (.extr 0 (tm 25))),xo 30 (.i (.extr 1 (tm 25))),xm 9 29,xm 10 30])
 (.seq (.seq (rg [xm 31 9,xm 32 6,xo 33 (qb .neq (tm 31) (tm 32)),xm 34 33,⟨some 35,some (34,false),qm (tm 10)⟩,⟨some 36,some (34,false),qm (tm 7)⟩,⟨some 37,some (34,false),.i (.cmp true 0 (tm 35) (tm 36))⟩,xo 38 (.i (.pick (tm 34) (cb true) (tm 37)))])
 (.cond (tm 38)
  (.seq (rg [xo 4 (qm (cb false))])
  .ret)
  .skip))
 (.seq (.seq (.region [xo 39 (.i (.ld false 3 (tm 8))),xo 40 (.i (.ld false 3 (tm 3))),⟨some 41,none,qc 6 [tm 40] [[none,some T4,some .int]]⟩,⟨some 42,none,qc 8 [tm 39,tm 41] [[none,some T4,some .int],[none,some T4,some .int]]⟩,xo 43 (.i (.not (tm 42)))] true [(0,2)])
 (.cond (tm 43)
  (.seq (rg [xo 4 (qm (cb false))])
  .ret)
  .skip))
 (.seq (rg [xo 4 (qm (cb true))])
 .ret))))))))))
def M3:List Res:=[.tmp 4]
theorem Mw:At Tryd.prog Tryd.f3=some (Ho,M3):=by kernel_rfl
def B7 (a0 u0:Int) (u1:List (Int×Int×Int×Int)) (u2:List Int):Option Bool :=
 Option.bind (Hv u0 u1 u2 1048576) fun y4 =>
cond (decide (y4<0))
 (some true)
 (Option.bind (D8 u0 u1 u2) fun y10 =>
 Option.bind (C6 a0 y10.1 y10.2.1 y10.2.2) fun y11 =>
 Option.bind (D8 u0 u1 u2) fun y13 =>
 Option.bind (C8 a0 y13.1 y13.2.1 y13.2.2) fun y15 =>
 Option.bind (cond (y15.1 !=y11.1)
   (some true)
   (some (y15.2 !=y11.2))) fun u3 =>
 cond u3
  (some false)
  (Option.bind (D8 u0 u1 u2) fun y23 =>
  Option.bind (G6 y13.1 y13.2.1 y13.2.2 y23.1 y23.2.1 y23.2.2) fun y24 =>
  cond (!y24)
   (some false)
   (some true)))
def Mg (r:Bool):RV:=⟨false,[(false,[.sc (.bool r)])]⟩
theorem Mh {a0 u0:Int} {u1:List (Int×Int×Int×Int)} {u2:List Int} {r:Bool} (h:B7 a0 u0 u1 u2=some r):A0 Tryd.prog Tab 3 [ai a0,.agg [ai u0,.tree T4 u1,tI u2]] (Mg r):=by
 refine A1 (by kernel_rfl) Tryd.func3 Mw (n:=44) (by kernel_rfl) (by simp) (tl:=[(0,ai a0),(1,.agg [ai u0,.tree T4 u1,tI u2])]) rfl ?_;unfold Ho;unfold B7 at h;refine Al ?_;refine Al ?_;refine Ab ?_;obtain ⟨y4,h4,h⟩:=Ad h;refine Aa 8 ?_;refine rsB 2 ?_;refine zc (ai y4) [] [.agg [ai u0,.tree T4 u1,tI u2],ai 1048576] (Zv h4) ?_;refine rsB 1 ?_;refine Aq (tn_ ?_);refine wr_ ?_;refine Ab ?_;refine Al ?_;rcases Af h with ⟨q7,h⟩ | ⟨q7,h⟩
 ·have q7_:=of_decide_eq_true q7;refine Ah q7 ?_;refine Al ?_;refine An (tr_ ?_);obtain rfl:=zj h;exact Bo [.bool true] (A2 rfl zl A5)
 have q7_:=of_decide_eq_false q7;refine Ag q7 ?_;refine Ai (tn_ ?_);refine wr_ ?_;refine Ab ?_;obtain ⟨y10,h10,h⟩:=Ad h;obtain ⟨y11,h11,h⟩:=Ad h;refine Aa 19 ?_;refine rsB 2 ?_;refine zc (.agg [ai y10.1,.own (oi 304 12) T4 0 y10.2.1.length,oI 305 12 y10.2.2.length]) [(oi 304 12,some (.arr 55 T4 y10.2.1)),nI 305 12 y10.2.2] [.agg [ai u0,.tree T4 u1,tI u2]] (L4 h10) ?_;refine Cm (.tup [ai y11.1,.bool y11.2]) [] [ai a0,.agg [ai y10.1,.own (oi 304 12) T4 0 y10.2.1.length,oI 305 12 y10.2.2.length]] _ (caps:=[]) (args0:=[ai a0,.agg [ai y10.1,.tree T4 y10.2.1,tI y10.2.2]]) trivial (Ay (by kernel_rfl) (Ay (Aie (Ay (by kernel_rfl) (Ay (Ca (e:=55) (by kernel_rfl) rfl) (Ay (Ca (e:=3) (by kernel_rfl) rfl) B9)))) B9)) (Rw h11) Rt ?_;refine rsB 5 ?_;refine Aq (tn_ ?_);refine wr_ ?_;refine Ab ?_;obtain ⟨y13,h13,h⟩:=Ad h;refine Aa 23 ?_;refine rsB 1 ?_;refine zc (.agg [ai y13.1,.own (oi 384 20) T4 0 y13.2.1.length,oI 385 20 y13.2.2.length]) [(oi 384 20,some (.arr 55 T4 y13.2.1)),nI 385 20 y13.2.2] [.agg [ai u0,.tree T4 u1,tI u2]] (L4 h13) ?_;refine rsB 2 ?_;refine Aq (tn_ ?_);refine wr_ ?_;refine Ab ?_;obtain ⟨y15,h15,h⟩:=Ad h;refine Aa 31 ?_;refine rsB 2 ?_;refine Cm (.tup [ai y15.1,.bool y15.2]) [] [ai a0,.agg [ai y13.1,.own (oi 384 20) T4 0 y13.2.1.length,oI 385 20 y13.2.2.length]] _ (caps:=[]) (args0:=[ai a0,.agg [ai y13.1,.tree T4 y13.2.1,tI y13.2.2]]) trivial (Ay (by kernel_rfl) (Ay (Aie (Ay (by kernel_rfl) (Ay (Ca (e:=55) (by kernel_rfl) rfl) (Ay (Ca (e:=3) (by kernel_rfl) rfl) B9)))) B9)) (Rr h15) Rs ?_;refine rsB 5 ?_;refine Aq (tn_ ?_);refine wr_ ?_;refine Ab ?_;refine Ar h (fun (u3:Bool) S_=>S_=⟨Ao [(3,.box (oi 0 1) 0),(8,.box (oi 1 1) 0),(38,.bool u3)],Aj (Ap [(oi 0 1,.cells 25 [ai u0,.tree T4 u1,tI u2]),(oi 1 1,.cells 31 [ai y13.1,.own (oi 2 1) T4 0 y13.2.1.length,oI 3 1 y13.2.2.length]),(oi 2 1,.arr 55 T4 y13.2.1),(oi 3 1,.arr 3 .int y13.2.2)]),2⟩) ?_ ?_
 ·intro v_ h;rcases Af h with ⟨q18,h⟩ | ⟨q18,h⟩
  ·refine Aa 39 ?_;refine rsB 4 ?_;refine zs q18 ?_;refine zs q18 ?_;refine zs q18 ?_;refine rs0 (.bool true) (zT q18) ?_;refine Aq (tn_ ?_);obtain rfl:=zj h;exact ⟨_,Ac [(oi 0 1,oi 3 1),(oi 1 1,oi 8 21),(oi 2 1,oi 384 20),(oi 3 1,oi 385 20)],rfl⟩
  refine Aa 39 ?_;refine rsB 4 ?_;refine rs0 (.bool y15.2) (zg q18) ?_;refine rs0 (.bool y11.2) (zg q18) ?_;refine rs0 (.bool (y15.2 !=y11.2)) (zg q18) ?_;refine rs0 (.bool (y15.2 !=y11.2)) (zF q18) ?_;refine Aq (tn_ ?_);obtain rfl:=zj h;exact ⟨_,Ac [(oi 0 1,oi 3 1),(oi 1 1,oi 8 21),(oi 2 1,oi 384 20),(oi 3 1,oi 385 20)],rfl⟩
 rintro u3 _ rfl h
 (try dsimp only at h);rcases Af h with ⟨q19,h⟩ | ⟨q19,h⟩
 ·refine Ah q19 ?_;refine Al ?_;refine An (tr_ ?_);obtain rfl:=zj h;exact Bo [.bool false] (A2 rfl zl A5)
 refine Ag q19 ?_;refine Ai (tn_ ?_);refine wr_ ?_;refine Ab ?_;refine Ab ?_;obtain ⟨y23,h23,h⟩:=Ad h;obtain ⟨y24,h24,h⟩:=Ad h;refine Ax 7 ?_;refine dzl (.agg [ai y13.1,.own (oi 2 1) T4 0 y13.2.1.length,oI 3 1 y13.2.2.length]) ?_;refine dzl (.agg [ai u0,.tree T4 u1,tI u2]) ?_;refine dzc (.agg [ai y23.1,.own (oi 656 4) T4 0 y23.2.1.length,oI 657 4 y23.2.2.length]) [(oi 656 4,some (.arr 55 T4 y23.2.1)),nI 657 4 y23.2.2] [.agg [ai u0,.tree T4 u1,tI u2]] (L4 h23) ?_;refine Lg (.bool y24) [] [.agg [ai y13.1,.own (oi 2 1) T4 0 y13.2.1.length,oI 3 1 y13.2.2.length],.agg [ai y23.1,.own (oi 656 4) T4 0 y23.2.1.length,oI 657 4 y23.2.2.length]] _ (caps:=[]) (args0:=[.agg [ai y13.1,.tree T4 y13.2.1,tI y13.2.2],.agg [ai y23.1,.tree T4 y23.2.1,tI y23.2.2]]) trivial (Ay (Aie (Ay (by kernel_rfl) (Ay (Ca (e:=55) (by kernel_rfl) rfl) (Ay (Ca (e:=3) (by kernel_rfl) rfl) B9)))) (Ay (Aie (Ay (by kernel_rfl) (Ay (Ca (e:=55) (by kernel_rfl) rfl) (Ay (Ca (e:=3) (by kernel_rfl) rfl) B9)))) B9)) (Zj h24) Zl ?_;refine dz0 (.bool (!y24)) ?_;refine F5 (Bc (by kernel_rfl)) (tn_ ?_);refine wr_ ?_;rcases Af h with ⟨q25,h⟩ | ⟨q25,h⟩
 ·refine Ah q25 ?_;refine Al ?_;refine An (tr_ ?_);obtain rfl:=zj h;exact Bo [.bool false] (A2 rfl zl A5)
 refine Ag q25 ?_;refine Ai (tn_ ?_);refine wr_ ?_;refine Al ?_;refine An ?_;obtain rfl:=zj h;exact Bo [.bool true] (A2 rfl zl A5)
end

section
section
variable {p:Int} {n:Nat} {m:List (List Int)}
theorem Wm (x:List Int) (hx:x.length<=1000):Ea x=some ((Dm x:Nat):Int):=by
 unfold Ea;have hle:Dm x<=x.length:=List.findIdx_le_length
 have h:Aw (fun s_:Nat=>G7 x s_) 4611686018427387904 0=some (Dm x):=by
  refine A4 (Dm x) (fun i=>i) (by omega) _ rfl (fun i hi=>?_) ?_
  ·have h0:=List.not_of_lt_findIdx hi;have h1:x[i]'(by omega)=0:=by simpa using h0
   try dsimp only
   unfold G7;rw [Bd (by omega),cond_true,gEg (show i<x.length by omega),obs,obs,h1,show ((0:Int)==0)=true from rfl,cond_true,Ak (by omega)]
  ·unfold G7;by_cases h:Dm x=x.length
   ·rw [Bg (by omega),cond_false,obs,cond_false]
   ·have h0:=List.findIdx_getElem (w:=show Dm x<x.length by omega);rw [Bd (by omega),cond_true,gEg (show Dm x<x.length by omega),obs,obs,show ((x[Dm x]'(by omega))==0)=false from Bool.eq_false_iff.2 (fun e=>bne_iff_ne.1 h0 (beq_iff_eq.1 e)),cond_false]
 rw [h,obs]
theorem And (x:List Int) (hx:x.length<=100000):H4 x=some ((Dm x:Nat):Int):=by
 unfold H4;have hle:Dm x<=x.length:=List.findIdx_le_length
 have h:Aw (fun s_:Nat=>Jc x s_) 4611686018427387904 0=some (if Dm x=x.length then .next () else .out ((Dm x:Nat):Int)):=by
  refine A4 (Dm x) (fun i=>i) (by omega) _ rfl (fun i hi=>?_) ?_
  ·have h0:=List.not_of_lt_findIdx hi;have h1:x[i]'(by omega)=0:=by simpa using h0
   try dsimp only
   unfold Jc;rw [Bd (by omega),cond_true,gEg (show i<x.length by omega),obs,h1,show ((0:Int) !=0)=false from rfl,cond_false,Ak (by omega)]
  ·unfold Jc;by_cases h:Dm x=x.length
   ·rw [Bg (by omega),cond_false,if_pos h]
   ·have h0:(x[Dm x]'(by omega) !=0)=true:=List.findIdx_getElem (w:=show Dm x<x.length by omega);rw [Bd (by omega),cond_true,gEg (show Dm x<x.length by omega),obs,h0,cond_true,if_neg h]
 rw [h];by_cases h2:Dm x=x.length
 ·rw [if_pos h2]; show some _=some _; rw [h2]
 ·rw [if_neg h2]; rfl
def spV (p:Int) (n:Nat) (m:List (List Int)) (c:List Int):Nat->List Int
 | 0=>List.replicate n 0
 | i+1=>List.zipWith (fun a x=>(a+c.getD i 0*x) % p) (spV p n m c i) (m.getD i [])
theorem Yt {c:List Int} (hp:2<=p) (hm:MatW p n m):∀ i,i<=m.length->VecW p n (spV p n m c i)
 | 0,_=>⟨by simp [spV],fun a ha=>by obtain rfl:=(List.mem_replicate.1 ha).2; omega⟩
 | i+1,hi=>by
  have h1:=Yt (c:=c) hp hm i (by omega);have h2:=hm _ (Fu (show i<m.length by omega));refine ⟨by unfold spV; rw [List.length_zipWith,h1.1,h2.1]; omega,fun a ha=>?_⟩;obtain ⟨b,d,rfl⟩:=Arg ha;exact Abu hp
theorem Az9 {c:List Int} (hp:2<=p) (hm:MatW p n m):∀ i,i<=m.length->∀ j,j<n->Cg p ((spV p n m c i).getD j 0) (sm i fun t=>c.getD t 0*en m t j)
 | 0,_,j,_=>Cg.of (by show (List.replicate n (0:Int)).getD j 0=0; rw [gDg,List.getElem?_replicate]; split <;> rfl)
 | i+1,hi,j,hj=>by
  have h1:=Yt (c:=c) hp hm i (by omega);have h2:=hm _ (Fu (show i<m.length by omega))
  have e:(spV p n m c (i+1)).getD j 0=((spV p n m c i).getD j 0+c.getD i 0*en m i j) % p:=by
   have k1:=(Du h1 hj).2.2;have k2:=(Du h2 hj).2.2;show (List.zipWith (fun a x=>(a+c.getD i 0*x) % p) (spV p n m c i) (m.getD i [])).getD j 0=_;unfold en;generalize spV p n m c i=X at *;rw [gDg,List.getElem?_zipWith,k1,k2]; rfl
  rw [e];exact Cg.md.trans ((Az9 hp hm i (by omega) j hj).add Cg.rf)
theorem Ayi {c:List Int} (hp:2<=p∧p<=97) (hm:MatW p n m) (hc:VecW p m.length c) (hn:n<=1000) (hl:m.length<=1000):Lr p (n:Int) m c=some (spV p n m c m.length):=by
 unfold Lr;rw [Ak (by omega),Int.toNat_natCast]
 have key:Aw (fun s_:Nat×List Int=>Im m c p s_.1 s_.2) 4611686018427387904 (0,List.replicate n 0)=some (spV p n m c m.length):=by
  refine A4 m.length (fun i=>(i,spV p n m c i)) (by omega) _ rfl (fun i hi=>?_) ?_
  ·have h1:=Yt (c:=c) hp.1 hm i (by omega);have h2:=hm _ (List.getElem_mem hi);have hl1:=h1.1;have hl2:=h2.1;have hcc:=hc.1;have hci:=Om hc (j:=i) (by omega)
   have hin:Aw (fun s_:Nat×List Int=>Ij m[i] c i p s_.1 s_.2) 4611686018427387904 (0,spV p n m c i)=some (spV p n m c (i+1)):=by
    have hv:=Yt (c:=c) hp.1 hm (i+1) (by omega);have hvl:=hv.1;refine Zk (y:=spV p n m c (i+1)) (by omega) (by omega) (fun j hj z hz=>?_) ?_
    ·have a1:=Om h1 hj;have a2:=Om h2 (j:=j) (by omega);have a3:=Yj hp hci a2
     try dsimp only
     unfold Ij;rw [Bd (by omega),cond_true,gEg (show j<m[i].length by omega),obs,hz,obs,gEg (show i<c.length by omega),obs,Ak (by omega),Ak (by omega),D6 (n:=c[i]'(by omega)*m[i][j]'(by omega)) (by omega) (by omega),D6 (by omega) (by omega),Int.tmod_eq_emod_of_nonneg (by omega)];congr 4;simp only [spV,List.getElem_zipWith,Bq (gEg (show i<c.length by omega)),Bq (m:=m) (gEg hi)]
    ·try dsimp only
     unfold Ij;rw [Bg (by omega),cond_false]
   try dsimp only
   unfold Im;rw [Bd (by omega),cond_true,gEg hi,obs,hin,obs,Ak (by omega)]
  ·try dsimp only
   unfold Im;rw [Bg (by omega),cond_false]
 rw [key,obs]
def cvV (m:List (List Int)) (x:List Int) (i:Nat):List Int:=(List.range i).map fun t=>x.getD (lv m t) 0
theorem Axf {x:List Int} {i:Nat}:(cvV m x i).length=i:=by simp [cvV]
theorem Ax7 {x:List Int} {i:Nat}:cvV m x (i+1)=cvV m x i++[x.getD (lv m i) 0]:=by simp [cvV,List.range_succ]
theorem Aps {i:Nat} (hi:i<m.length):Dm m[i]=lv m i:=by unfold lv; rw [Bq (gEg hi)]
theorem A06 {x:List Int} (h:Jl n m.length m (lv m)) (hx:VecW p n x):VecW p m.length (cvV m x m.length):=by
 refine ⟨Axf,fun a ha=>?_⟩;obtain ⟨t,ht,rfl⟩:=List.mem_map.1 ha;have:=Du hx (h.lt t (List.mem_range.1 ht));exact ⟨this.1,this.2.1⟩
theorem Ag9 {x:List Int} (hm:MatW p n m) (h:Jl n m.length m (lv m)) (hx:VecW p n x) (hn:n<=1000) (hl:m.length<=1000):F9 m x=some (cvV m x m.length):=by
 unfold F9
 have key:Aw (fun s_:Nat×List Int=>Fp m x s_.1 s_.2) 4611686018427387904 (0,[])=some (cvV m x m.length):=by
  refine A4 m.length (fun i=>(i,cvV m x i)) (by omega) _ rfl (fun i hi=>?_) ?_
  ·have h1:=hm _ (List.getElem_mem hi);have h2:=Du hx (h.lt i hi);have h3:=Axf (m:=m) (x:=x) (i:=i)
   try dsimp only
   unfold Fp;rw [Bd (by omega),cond_true,gEg hi,obs,Wm _ (by rw [h1.1]; exact hn),obs,C5 (by omega),Int.toNat_natCast,Aps hi,h2.2.2,obs,Ak (by omega),Ak (by omega),Ax7]
  ·try dsimp only
   unfold Fp;rw [Bg (by omega),cond_false]
 rw [key]; rfl
theorem Awd (a b:List (List Int)) (ha:a.length+b.length<=1000):Kj a b=some (a++b):=by
 unfold Kj;rw [Ak (by simp; omega),Ak (by simp; omega),List.nil_append]
theorem Awl {x:List Int} (hp:2<=p∧p<=97) (hm:MatW p n m) (h:Jl n m.length m (lv m)) (hx:VecW p n x) (hn:n<=1000) (hl:m.length<=1000):∃ b,Fn p m x=some (cvV m x m.length,b):=by
 unfold Fn
 have hcv:((List.range m.length).map fun t=>(Gd p m x t).getD (lv m t) 0)=cvV m x m.length:=by
  refine List.map_congr_left fun t ht=>?_
  have ht:=List.mem_range.1 ht;have g1:=Du (L9 hp.1 hm hx t (by omega)) (h.lt t ht);have g2:=Du hx (h.lt t ht);refine Cg.eq ((Awb hp.1 hm hx h t (by omega) _ (h.lt t ht)).trans (Cg.of ?_)) ⟨g1.1,g1.2.1⟩ ⟨g2.1,g2.2.1⟩;rw [Jp fun s hs=>by rw [h.zero t ht s (by omega)]; omega];omega
 have hxl:=hx.1;rw [Aer x (by omega),obs]
 have key:Aw (fun s_:Nat×List Int×List Int=>D1 m p s_.1 s_.2.1 s_.2.2) 4611686018427387904 (0,x,[])=some (Gd p m x m.length,(List.range m.length).map fun t=>(Gd p m x t).getD (lv m t) 0):=by
  refine A4 m.length (fun i=>(i,Gd p m x i,(List.range i).map fun t=>(Gd p m x t).getD (lv m t) 0)) (by omega) _ rfl (fun i hi=>?_) ?_
  ·have h1:=hm _ (List.getElem_mem hi);have hc:=L9 hp.1 hm hx i (by omega);have hc':=L9 hp.1 hm hx (i+1) (by omega);have h2:=Du hc (h.lt i hi)
   have e:Cw p ((Gd p m x i).getD (lv m i) 0) (Gd p m x i) m[i]=Gd p m x (i+1):=by
    show _=Cw p _ _ (m.getD i []);rw [Bq (m:=m) (gEg hi)]
   try dsimp only
   unfold D1;rw [Bd (by omega),cond_true,gEg hi,obs,And _ (by rw [h1.1]; omega),obs,C5 (by omega),Int.toNat_natCast,Aps hi,h2.2.2,obs,Ak (by simp; omega),Y8 hp hc h1 (by omega) ⟨h2.1,h2.2.1⟩,obs,e,Ak (by rw [hc.1,hc'.1]),Ak (by omega),List.range_succ,List.map_append]; rfl
  ·try dsimp only
   unfold D1;rw [Bg (by omega),cond_false]
 have hc:=L9 hp.1 hm hx m.length (Nat.le_refl _);rw [key,obs];dsimp only;unfold M9;rw [And _ (by rw [hc.1]; omega),obs,obs,hcv];exact ⟨_,rfl⟩
end
end
section
def bvT (p:Int) (n:Nat) (R:List (List Int)) (j:Nat):Nat->List Int
 | 0=>(List.replicate n 0).set j 1
 | i+1=>(bvT p n R j i).set (lv R i) ((p - en R i j) % p)
def ldT (n:Nat) (R:List (List Int)):Nat->List Int
 | 0=>List.replicate n (-1)
 | i+1=>(ldT n R i).set (lv R i) (i:Int)
def Ags (n:Nat) (R:List (List Int)):List Nat:=(List.range n).filter fun j=> !pvs R.length (lv R) j
def Xr (p:Int) (n:Nat) (R:List (List Int)):List (List Int):=(Ags n R).map fun j=>bvT p n R j R.length
def Arx (p:Int) (n:Nat) (m:List (List Int)):List (List Int):=gj p n (Xr p n (gj p n m))
section
variable {p:Int} {n:Nat} {R m:List (List Int)}
theorem Aow {pv:Nat->Nat} {i j:Nat}:pvs (i+1) pv j=(pvs i pv j||(pv i==j)):=by simp [pvs,List.range_succ]
theorem Amk:∀ i,(ldT n R i).length=n
 | 0=>by simp [ldT]
 | i+1=>by unfold ldT; rw [List.length_set,Amk i]
theorem Avd (hlt:∀ i,i<R.length->lv R i<n) {j:Nat} (hj:j<n):∀ i,i<=R.length->∃ v,(ldT n R i)[j]? =some v∧(decide (0<=v)=pvs i (lv R) j)
 | 0,_=>⟨-1,by simp [ldT,hj],rfl⟩
 | i+1,hi=>by
  obtain ⟨v,h1,h2⟩:=Avd hlt hj i (by omega);have hl:=Amk (n:=n) (R:=R) i;by_cases e:lv R i=j
  ·refine ⟨(i:Int),?_,?_⟩
   ·unfold ldT;rw [e,List.getElem?_set_self (by omega)]
   ·rw [Aow,beq_iff_eq.2 e,Bool.or_true,Bd (by omega)]
  ·refine ⟨v,?_,?_⟩
   ·unfold ldT;rw [List.getElem?_set_ne e]; exact h1
   ·rw [Aow,beq_eq_false_iff_ne.2 e,Bool.or_false]; exact h2
theorem Aap {j:Nat}:∀ i,(bvT p n R j i).length=n
 | 0=>by simp [bvT]
 | i+1=>by unfold bvT; rw [List.length_set,Aap i]
theorem Ax1 {j:Nat} (hp:2<=p):∀ i,inV p (bvT p n R j i)
 | 0=>fun a ha=>by
  rcases List.mem_or_eq_of_mem_set ha with ha | rfl
  ·obtain rfl:=(List.mem_replicate.1 ha).2; omega
  ·omega
 | i+1=>fun a ha=>by
  rcases List.mem_or_eq_of_mem_set ha with ha | rfl
  ·exact Ax1 hp i a ha
  ·exact Abu hp
theorem W2 {x:List Int} {i j:Nat} {a:Int} (hi:i<x.length):(x.set i a).getD j 0=if i=j then a else x.getD j 0:=by
 rw [gDg];by_cases e:i=j
 ·subst e; rw [if_pos rfl,List.getElem?_set_self hi]; rfl
 ·rw [if_neg e,List.getElem?_set_ne e,← gDg]
theorem Atn {j:Nat} (h:Jl n R.length R (lv R)):∀ i,i<=R.length->∀ t,t<i->(bvT p n R j i).getD (lv R t) 0=(p - en R t j) % p
 | 0,_,t,ht=>by omega
 | i+1,hi,t,ht=>by
  unfold bvT;rw [W2 (by rw [Aap]; exact h.lt i (by omega))];by_cases e:i=t
  ·subst e; rw [if_pos rfl]
  ·have:=h.mono t i (by omega) (by omega);rw [if_neg (by omega)];exact Atn h i (by omega) t (by omega)
theorem Agl {j q:Nat} (h:Jl n R.length R (lv R)) (hj:j<n):∀ i,i<=R.length->(∀ t,t<i->lv R t≠q)->(bvT p n R j i).getD q 0=if j=q then 1 else 0
 | 0,_,_=>by
  unfold bvT;rw [W2 (by simpa using hj)];by_cases e:j=q
  ·rw [if_pos e,if_pos e]
  ·rw [if_neg e,if_neg e,gDg,List.getElem?_replicate];split <;> rfl
 | i+1,hi,hq=>by
  unfold bvT;rw [W2 (by rw [Aap]; exact h.lt i (by omega)),if_neg (hq i (by omega))];exact Agl h hj i (by omega) fun t ht=>hq t (by omega)
theorem V1 (hp:2<=p):MatW p n (Xr p n R):=fun x hx=>by
 obtain ⟨j,_,rfl⟩:=List.mem_map.1 hx;exact ⟨Aap _,Ax1 hp _⟩
theorem Avf:(Xr p n R).length<=n:=by
 unfold Xr Ags;rw [List.length_map];exact Nat.le_trans (List.length_filter_le ..) (by simp)
theorem Ayk (hp:2<=p) (h:Jl n R.length R (lv R)):A16 p n R (lv R) (Xr p n R):=by
 have hb:∀ j,j<n->pvs R.length (lv R) j=false->Cg p ((bvT p n R j R.length).getD j 0) 1∧(∀ i,i<R.length->Cg p ((bvT p n R j R.length).getD (lv R i) 0) (-en R i j))∧∀ q,q<n->q≠j->pvs R.length (lv R) q=false->Cg p ((bvT p n R j R.length).getD q 0) 0:=fun j hj hf=>by
  refine ⟨?_,fun i hi=>?_,fun q _ hne hfq=>?_⟩
  ·rw [Agl h hj _ (Nat.le_refl _) fun t ht=>Asa hf ht,if_pos rfl]; exact Cg.rf
  ·rw [Atn h _ (Nat.le_refl _) i hi];exact Cg.md.trans ⟨1,by omega⟩
  ·rw [Agl h hj _ (Nat.le_refl _) fun t ht=>Asa hfq ht,if_neg (Ne.symm hne)]; exact Cg.rf
 have he:∀ t j,(Ags n R)[t]? =some j->∀ q,en (Xr p n R) t q=(bvT p n R j R.length).getD q 0:=fun t j ht q=>by
  unfold en Xr;rw [Bq (x:=bvT p n R j R.length) (by rw [List.getElem?_map,ht]; rfl)]
 have hl:(Xr p n R).length=(Ags n R).length:=List.length_map ..;refine ⟨fun j hj hf=>?_,fun t ht=>?_⟩
 ·have hm:j∈Ags n R:=List.mem_filter.2 ⟨List.mem_range.2 hj,by rw [hf]; rfl⟩;obtain ⟨t,ht,e⟩:=List.getElem_of_mem hm;have h1:(Ags n R)[t]? =some j:=by rw [gEg ht,e]
  refine ⟨t,by omega,?_⟩;simp only [he t j h1];exact hb j hj hf
 ·obtain ⟨j,hj⟩:=K8 (show t<(Ags n R).length by omega);have hm:=List.mem_filter.1 (List.mem_of_getElem? hj);have hjn:=List.mem_range.1 hm.1;have hf:pvs R.length (lv R) j=false:=by simpa using hm.2
  refine ⟨j,hjn,hf,?_⟩;simp only [he t j hj];exact hb j hjn hf
theorem Afw {f:Nat->Int} (hp:isF p=true) (hm:MatW p n m):Cu p n (Xr p n (gj p n m)) f↔G3 p n m f:=by
 have hb:=Ep hp;obtain ⟨⟨pv,h1⟩,h2⟩:=Ua hb.1 (Afo hp) hm;have h3:=Acc h1 (Abm hb.1 hm) (Nat.le_refl n);refine (Aup h3 (Ayk hb.1 h3)).trans ⟨Aen fun i hi=>(h2 _).2 (Cb hi),Aen fun i hi=>(h2 _).1 (Cb hi)⟩
theorem Ayq {x:Int} (hp:2<=p∧p<=97) (hx:0<=x∧x<p):L5 p x=some ((p - x) % p):=by
 unfold L5;rw [Ak (by omega),D6 (by omega) (by omega),Int.tmod_eq_emod_of_nonneg (by omega)]
theorem Aw7 (hp:isF p=true) (hm:MatW p n m) (hn:n<=1000) (hl:m.length<=100000):Kv p (n:Int) m=some (Arx p n m):=by
 have hb:=Ep hp;obtain ⟨⟨pv,h1⟩,_⟩:=Ua hb.1 (Afo hp) hm;have hRm:=Abm (n:=n) hb.1 hm;have h:=Acc h1 hRm (Nat.le_refl n)
 have hRl:(gj p n m).length<=n:=by
  have:=Aht (k:=n) (u:=id) (fun i j h _=>h) h.mono;refine Nat.le_of_not_lt fun hlt=>?_
  have hge:∀ i,i<(gj p n m).length->i<=lv (gj p n m) i:=by
   intro i
   induction i with
   | zero=>intro _; omega
   | succ i ih=>intro hi; have:=ih (by omega); have:=h.mono i (i+1) (by omega) hi; omega
  have:=hge n hlt;have:=h.lt n hlt;omega
 unfold Kv Arx;rw [T7 hp hm (Nat.le_refl n) (by omega) hl,obs,Ak (by omega),Int.toNat_natCast];generalize gj p n m=R at *
 have l1:Aw (fun s_:Nat×List Int=>Hf (n:Int) s_.1 s_.2) 4611686018427387904 (0,List.replicate n 0)=some (ldT n R 0):=by
  refine Zk (y:=ldT n R 0) (by simp [ldT]) (by simp; omega) (fun j hj z hz=>?_) ?_
  ·simp at hj
   try dsimp only
   unfold Hf;rw [Int.toNat_natCast,Bd (by omega),cond_true,hz,obs,Ak (by omega)];simp [ldT]
  ·try dsimp only
   unfold Hf;rw [Int.toNat_natCast,Bg (by simp),cond_false]
 have hrow:∀ i,i<R.length->R[i]? =some (R.getD i [])∧VecW p n (R.getD i []):=fun i hi=>⟨by rw [gEg hi,Bq (gEg hi)],hRm _ (Fu hi)⟩
 have l2:Aw (fun s_:Nat×List Int=>Hu R s_.1 s_.2) 4611686018427387904 (0,ldT n R 0)=some (ldT n R R.length):=by
  refine A4 R.length (fun i=>(i,ldT n R i)) (by omega) _ rfl (fun i hi=>?_) ?_
  ·obtain ⟨g1,g2⟩:=hrow i hi;have hlt:=h.lt i hi;obtain ⟨x,hx⟩:=K8 (m:=ldT n R i) (i:=lv R i) (by rw [Amk]; exact hlt)
   try dsimp only
   unfold Hu;rw [Bd (by omega),cond_true,g1,obs,Wm _ (by rw [g2.1]; exact hn),obs,C5 (by omega),Int.toNat_natCast,show (ldT n R i)[Dm (R.getD i [])]? =some x from hx,obs,Ak (by omega)]; rfl
  ·try dsimp only
   unfold Hu;rw [Bg (by omega),cond_false]
 have l4:∀ j,j<n->Aw (fun s_:Nat×List Int=>G8 R j p s_.1 s_.2) 4611686018427387904 (0,(List.replicate n 0).set j 1)=some (bvT p n R j R.length):=fun j hj=>by
  refine A4 R.length (fun i=>(i,bvT p n R j i)) (by omega) _ rfl (fun i hi=>?_) ?_
  ·obtain ⟨g1,g2⟩:=hrow i hi;have hlt:=h.lt i hi;obtain ⟨q1,q2,q3⟩:=Du g2 hj;obtain ⟨x,hx⟩:=K8 (m:=bvT p n R j i) (i:=lv R i) (by rw [Aap]; exact hlt)
   try dsimp only
   unfold G8;rw [Bd (by omega),cond_true,g1,obs,Wm _ (by rw [g2.1]; exact hn),obs,q3,obs,Ayq hb ⟨q1,q2⟩,obs,C5 (by omega),Int.toNat_natCast,show (bvT p n R j i)[Dm (R.getD i [])]? =some x from hx,obs,Ak (by omega)]; rfl
  ·try dsimp only
   unfold G8;rw [Bg (by omega),cond_false]
 have l3:Aw (fun s_:Nat×List (List Int)=>Hi (n:Int) (ldT n R R.length) R p s_.1 s_.2) 4611686018427387904 (0,[])=some (Xr p n R):=by
  refine A4 n (fun k=>(k,((List.range k).filter fun j=> !pvs R.length (lv R) j).map fun j=>bvT p n R j R.length)) (by omega) _ rfl (fun k hk=>?_) ?_
  ·obtain ⟨v,v1,v2⟩:=Avd h.lt hk R.length (Nat.le_refl _)
   have hle:(((List.range k).filter fun j=> !pvs R.length (lv R) j).map fun j=>bvT p n R j R.length).length<=k:=by
    rw [List.length_map]; exact Nat.le_trans (List.length_filter_le ..) (by simp)
   try dsimp only
   unfold Hi;rw [Bd (by omega),cond_true,v1,obs,v2,List.range_succ,List.filter_append];cases hc:pvs R.length (lv R) k
   ·rw [cond_false,Ak (by omega),Int.toNat_natCast,List.getElem?_replicate,if_pos hk,obs,l4 k hk,obs,Ak (by omega),obs,Ak (by omega)];simp [hc]
   ·rw [cond_true,obs,Ak (by omega)];simp [hc]
  ·try dsimp only
   unfold Hi;rw [Bg (by omega),cond_false]; rfl
 rw [l1,obs,l2,obs,l3,obs,T7 hp (V1 hb.1) (Nat.le_refl n) (by omega) (Nat.le_trans Avf (by omega)),obs]
def trV (m:List (List Int)) (n:Nat):List (List Int):=(List.range n).map fun j=>m.map fun x=>x.getD j 0
def unV (n k:Nat):List Int:=(List.replicate n 0).set k 1
def idV (n:Nat):List (List Int):=(List.range n).map (unV n)
theorem Azq {k:Nat} (hk:k<n) (hn:n<=1000):Ee (n:Int) (k:Int)=some (unV n k):=by
 unfold Ee;rw [T0 (by omega),obs,C5 (by omega),Int.toNat_natCast,Int.toNat_natCast,List.getElem?_replicate,if_pos hk,obs]; rfl
theorem Af9 (hn:n<=1000):E6 (n:Int)=some (idV n):=by
 unfold E6
 have key:Aw (fun s_:Nat×List (List Int)=>Dh (n:Int) s_.1 s_.2) 4611686018427387904 (0,[])=some (idV n):=by
  refine A4 n (fun k=>(k,(List.range k).map (unV n))) (by omega) _ rfl (fun k hk=>?_) ?_
  ·try dsimp only
   unfold Dh;rw [Bd (by omega),cond_true,Azq hk hn,obs,Ak (by simp; omega),Ak (by omega),List.range_succ,List.map_append]; rfl
  ·try dsimp only
   unfold Dh;rw [Bg (by omega),cond_false]; rfl
 rw [key,obs]
theorem Ase {k:Nat} (hp:2<=p):VecW p n (unV n k):=⟨by simp [unV],fun a ha=>by
 rcases List.mem_or_eq_of_mem_set ha with ha | rfl
 ·obtain rfl:=(List.mem_replicate.1 ha).2; omega
 ·omega⟩
theorem A02 {k j:Nat} (hk:k<n):(unV n k).getD j 0=if j=k then 1 else 0:=by
 unfold unV;rw [W2 (by simpa using hk)];by_cases e:k=j
 ·rw [if_pos e,if_pos e.symm]
 ·rw [if_neg e,if_neg (Ne.symm e),gDg,List.getElem?_replicate];split <;> rfl
def wiV (m:List (List Int)) (n:Nat):List (List Int):=(List.range n).map fun j=>(m.map fun x=>x.getD j 0)++unV n j
theorem Auw (hp:isF p=true) (hm:MatW p n m) (hn:n<=1000) (hl:m.length<=1000):Ir p (trV m n) (m.length:Int)=some (Arx p n m):=by
 have hb:=Ep hp;have hwl:(wiV m n).length=n:=by simp [wiV]
 have hcol:∀ j,VecW p m.length (m.map fun x=>x.getD j 0):=fun j=>⟨by simp,fun a ha=>by
  obtain ⟨x,hx,rfl⟩:=List.mem_map.1 ha;by_cases hj:j<n
  ·obtain ⟨q1,q2,_⟩:=Du (hm x hx) hj; exact ⟨q1,q2⟩
  ·have:=(hm x hx).1;rw [gDg,List.getElem?_eq_none (by omega)]; simp; omega⟩
 have hW:MatW p (m.length+n) (wiV m n):=fun x hx=>by
  obtain ⟨j,_,rfl⟩:=List.mem_map.1 hx;refine ⟨by rw [List.length_append,(hcol j).1,(Ase (k:=j) (n:=n) hb.1).1],fun a ha=>?_⟩;rcases List.mem_append.1 ha with ha | ha
  ·exact (hcol j).2 a ha
  ·exact (Ase hb.1).2 a ha
 have e1:rdW m.length (wiV m n)=trV m n:=by
  unfold rdW wiV trV;rw [List.map_map];exact List.map_congr_left fun j _=>List.take_left' (by simp)
 have e2:alW m.length (wiV m n)=idV n:=by
  unfold alW wiV idV;rw [List.map_map];exact List.map_congr_left fun j _=>List.drop_left' (by simp)
 obtain ⟨g1,g2,g3⟩:=Rz hb.1 hW m.length;have hred:=Acx hp hW (Nat.le_refl m.length) (show m.length<=m.length+n by omega) (by omega) (by omega);rw [e1,e2] at hred
 have hmat:MatW p n (((gjT p (wiV m n) m.length).2.drop (gjT p (wiV m n) m.length).1).map (·.drop m.length)):=fun x hx=>by
  obtain ⟨y,hy,rfl⟩:=List.mem_map.1 hx;have:=(g1 y (List.mem_of_mem_drop hy)).dr (u:=m.length)
  rwa [Nat.add_sub_cancel_left] at this
 have hdr:(alW m.length (gjT p (wiV m n) m.length).2).drop (gjT p (wiV m n) m.length).1=((gjT p (wiV m n) m.length).2.drop (gjT p (wiV m n) m.length).1).map (·.drop m.length):=by
  unfold alW; rw [List.map_drop]
 have htm:MatW p m.length (trV m n):=fun x hx=>by
  obtain ⟨j,_,rfl⟩:=List.mem_map.1 hx;exact hcol j
 have htl:(trV m n).length=n:=by simp [trV]
 have hil:(idV n).length=n:=by simp [idV]
 have key:gj p n (((gjT p (wiV m n) m.length).2.drop (gjT p (wiV m n) m.length).1).map (·.drop m.length))=Arx p n m:=by
  refine As8 hb.1 (Afo hp) hmat (V1 hb.1) fun f=>?_
  refine (Auo (A:=m) hb.1 (Afo hp) hW hwl rfl (fun t ht i hi=>?_) fun t ht j hj=>?_).trans (Afw hp hm).symm
  ·unfold en;have h1:(wiV m n)[t]? =some ((m.map fun x=>x.getD t 0)++unV n t):=by simp [wiV,ht]
   rw [Bq h1,gDg,List.getElem?_append_left (by simpa using hi),List.getElem?_map,gEg hi,Bq (m:=m) (gEg hi)]; rfl
  ·unfold en;have h1:(wiV m n)[t]? =some ((m.map fun x=>x.getD t 0)++unV n t):=by simp [wiV,ht]
   rw [Bq h1,gDg,List.getElem?_append_right (by simp),List.length_map,Nat.add_sub_cancel_left,← gDg,A02 ht]
 unfold Ir;rw [Sg htm (by omega) (by omega),obs,htl,Af9 hn,obs,hred,obs];have a1:(rdW m.length (gjT p (wiV m n) m.length).2).length=n:=by simp only [rdW,List.length_map]; omega
 have a2:(alW m.length (gjT p (wiV m n) m.length).2).length=(idV n).length:=by simp only [alW,List.length_map]; omega
 dsimp only;rw [Ak a1,Ak a2,Ak (by omega),hdr,Abr hp hmat (by omega) (by simp; omega),obs,key]
theorem A2a (hm:MatW p n m):trV (trV m n) m.length=m:=by
 refine List.ext_getElem (by simp [trV]) fun i h1 h2=>?_
 have hx:=hm _ (List.getElem_mem h2);simp only [trV,List.getElem_map,List.getElem_range,List.map_map];refine List.ext_getElem (by simp [hx.1]) fun j h3 h4=>?_
 simp only [List.length_map,List.length_range] at h3;simp only [List.getElem_map,List.getElem_range,Function.comp_apply,gDg,List.getElem?_map,gEg h2,gEg h4,Option.map_some,Option.getD_some]
theorem Aa8 (hm:MatW p n m):MatW p m.length (trV m n):=fun x hx=>by
 obtain ⟨j,hj,rfl⟩:=List.mem_map.1 hx;refine ⟨by simp,fun a ha=>?_⟩;obtain ⟨y,hy,rfl⟩:=List.mem_map.1 ha;have:=Du (hm y hy) (List.mem_range.1 hj);exact ⟨this.1,this.2.1⟩
theorem N1:(trV m n).length=n:=by simp [trV]
theorem Axb {i j:Nat} (hi:i<n) (hj:j<m.length):en (trV m n) i j=en m j i:=by
 unfold en;have h1:(trV m n)[i]? =some (m.map fun x=>x.getD i 0):=by simp [trV,hi]
 rw [Bq h1,gDg,List.getElem?_map,gEg hj,Bq (m:=m) (gEg hj)]; rfl
theorem Avc (hp:isF p=true) (hm:MatW p n m) (hn:n<=1000) (hl:m.length<=1000):Ir p m (n:Int)=some (Arx p m.length (trV m n)):=by
 have:=Auw (m:=trV m n) (n:=m.length) hp (Aa8 hm) hl (by rw [N1]; exact hn)
 rwa [A2a hm,N1] at this
end
end
section
section
variable {p:Int} {n:Nat} {m:List (List Int)}
theorem A1l {w:Nat} {x v:List Int} {f:Int} (hp:2<=p∧p<=97) (hx:VecW p w x) (hv:VecW p w v) (hw:w<=100000) (hf:0<=f∧f<p) :
  Cn p x f v=some (List.zipWith (fun a b=>(a+f*b) % p) x v):=by
 have hl:=hx.1;have hl':=hv.1;unfold Cn;refine Zk (y:=List.zipWith (fun a b=>(a+f*b) % p) x v) (by simp; omega) (by omega) (fun j hj z hz=>?_) ?_
 ·have h1:=Om hx hj;have h2:=Om hv (j:=j) (by omega);have h3:=Yj hp hf h2
  try dsimp only
  unfold D2;rw [Bd (by omega),cond_true,gEg (show j<v.length by omega),obs,hz,obs,D6 (n:=f*v[j]) (by omega) (by omega),D6 (by omega) (by omega),Ar5 hp,obs,Ak (by omega)];simp
 ·try dsimp only
  unfold D2;rw [Bg (by omega),cond_false]
theorem Aty {c:List Int} (hp:2<=p∧p<=97) (hm:MatW p n m) (hc:VecW p m.length c) (hn:n<=1000) (hl:m.length<=1000):Jm p c m (n:Int)=some (spV p n m c m.length):=by
 unfold Jm;rw [T0 (by omega),obs,Int.toNat_natCast]
 have key:Aw (fun s_:Nat×List Int=>Gg m c p s_.1 s_.2) 4611686018427387904 (0,List.replicate n 0)=some (spV p n m c m.length):=by
  refine A4 m.length (fun i=>(i,spV p n m c i)) (by omega) _ rfl (fun i hi=>?_) ?_
  ·have h1:=Yt (c:=c) hp.1 hm i (by omega);have h1':=(Yt (c:=c) hp.1 hm (i+1) (by omega)).1;have h2:=hm _ (List.getElem_mem hi);have hcl:=hc.1;have hci:=Om hc (j:=i) (by omega)
   have e:List.zipWith (fun a b=>(a+c[i]*b) % p) (spV p n m c i) m[i]=spV p n m c (i+1):=by
    simp only [spV,Bq (gEg (show i<c.length by omega)),Bq (m:=m) (gEg hi)]
   have h1l:=h1.1
   try dsimp only
   unfold Gg;rw [Bd (by omega),cond_true,gEg hi,obs,gEg (show i<c.length by omega),obs,A1l hp h1 h2 (by omega) hci,obs,e,Ak (by omega),Ak (by omega)]
  ·try dsimp only
   unfold Gg;rw [Bg (by omega),cond_false]
 rw [key,obs]
def Tk (p:Int) (n:Nat) (x m:List (List Int)):List (List Int):=x.map fun v=>spV p n m v m.length
theorem Rg {x:List (List Int)} (hp:2<=p) (hm:MatW p n m):MatW p n (Tk p n x m):=fun y hy=>by
 obtain ⟨v,_,rfl⟩:=List.mem_map.1 hy;exact Yt hp hm _ (Nat.le_refl _)
theorem O1 {x:List (List Int)}:(Tk p n x m).length=x.length:=by simp [Tk]
theorem Ace {x:List (List Int)} (hp:2<=p∧p<=97) (hm:MatW p n m) (hx:MatW p m.length x) (hn:n<=1000) (hl:m.length<=1000) (hxl:x.length<=1000):Fs p (n:Int) x m=some (Tk p n x m):=by
 unfold Fs
 have key:Aw (fun s_:Nat×List (List Int)=>Gp x p n m s_.1 s_.2) 4611686018427387904 (0,[])=some ([]++Tk p n x m):=by
  refine D3 x (fun v=>spV p n m v m.length) [] (by omega) _ (fun j v h=>?_) ?_
  ·have:=As h
   try dsimp only
   unfold Gp;rw [Bd (by omega),cond_true,h,obs,Ayi hp hm (hx _ (List.mem_of_getElem? h)) hn hl,obs,Ak (by simp; omega),Ak (by omega)]
  ·try dsimp only
   unfold Gp;rw [Bg (by omega),cond_false]; rfl
 rw [key]; rfl
theorem W6 {x:List (List Int)} (hp:2<=p∧p<=97) (hm:MatW p n m) (hx:MatW p m.length x) (hn:n<=1000) (hl:m.length<=1000) (hxl:x.length<=1000):Ek p x m (n:Int)=some (Tk p n x m):=by
 unfold Ek
 have key:Aw (fun s_:Nat×List (List Int)=>Gl x p m n s_.1 s_.2) 4611686018427387904 (0,[])=some ([]++Tk p n x m):=by
  refine D3 x (fun v=>spV p n m v m.length) [] (by omega) _ (fun j v h=>?_) ?_
  ·have:=As h
   try dsimp only
   unfold Gl;rw [Bd (by omega),cond_true,h,obs,Aty hp hm (hx _ (List.mem_of_getElem? h)) hn hl,obs,Ak (by simp; omega),Ak (by omega)]
  ·try dsimp only
   unfold Gl;rw [Bg (by omega),cond_false]; rfl
 rw [key]; rfl
theorem Awi (hm:MatW p n m) (hn:n<=1000) (hl:m.length<=1000):Ko m=some m:=by
 unfold Ko
 have key:Aw (fun s_:Nat×List (List Int)=>Hg m s_.1 s_.2) 4611686018427387904 (0,[])=some ([]++m.map id):=by
  refine D3 m id [] (by omega) _ (fun j v h=>?_) ?_
  ·have:=As h;have hv:=(hm _ (List.mem_of_getElem? h)).1
   try dsimp only
   unfold Hg;rw [Bd (by omega),cond_true,h,obs,Qz _ (by omega),obs,Ak (by simp; omega),Ak (by omega)]; rfl
  ·try dsimp only
   unfold Hg;rw [Bg (by omega),cond_false]
 rw [key,List.map_id]; rfl
end
structure Ac4 (p:Int) (st ins ou:Nat) (A B C D:List (List Int)):Prop where
 hp:isF p=true
 hs:st<=24
 hi:ins<=8
 ho:ou<=8
 lA:A.length=st
 lB:B.length=ins
 lC:C.length=st
 lD:D.length=ins
 mA:MatW p st A
 mB:MatW p st B
 mC:MatW p ou C
 mD:MatW p ou D
section
variable {p:Int} {st ins ou:Nat} {A B C D:List (List Int)}
end
end
section
section
variable {p:Int} {n:Nat} {A B C:List (List Int)}
def Qy (p:Int) (n:Nat) (A X:List (List Int)):List (List Int):=Tk p n X A
theorem Avq {X M:List (List Int)} {w i j:Nat} (hp:2<=p) (hM:MatW p w M) (hi:i<X.length) (hj:j<w):Cg p (en (Tk p w X M) i j) (sm M.length fun t=>en X i t*en M t j):=by
 have h1:(Tk p w X M)[i]? =some (spV p w M X[i] M.length):=by simp [Tk,hi]
 unfold en;rw [Bq h1];refine (Az9 hp hM M.length (Nat.le_refl _) j hj).trans (Cg.of (I6 fun t _=>?_));rw [Bq (m:=X) (gEg hi)]; rfl
theorem Aoy (hp:isF p=true) (hA:MatW p n A) (lA:A.length=n) (hB:MatW p n B):Ada p n A (Qy p n A) B where
 hp:=(Ep hp).1
 hI:=Afo hp
 hB:=hB
 hG:=fun X _ _=>⟨Rg (Ep hp).1 hA,O1,fun i hi j hj=>by
  have:=Avq (Ep hp).1 hA hi hj
  rwa [lA] at this⟩
def Md (p:Int) (n:Nat) (A B:List (List Int)):List (List Int):=chn p n (Qy p n A) B n
theorem Ak8 {i1 i2:Int} {C D:List (List Int)} (hp:isF p=true) (hA:MatW p n A) (lA:A.length=n) (hB:MatW p n B) (hn:n<=24) (hl:B.length<=1000):Hl p (n:Int) i1 i2 A B C D=some (Md p n A B):=by
 have H:=Aoy hp hA lA hB;have hb:=Ep hp;obtain ⟨k,k1,_,k3,k4,k5⟩:=Ao7 H;unfold Hl;rw [T7 hp hB (Nat.le_refl n) (by omega) (by omega),obs]
 have hstep:∀ i,I0 p (n:Int) A (chn p n (Qy p n A) B i)=cond (((((chn p n (Qy p n A) B (i+1)).length:Nat):Int))==(((chn p n (Qy p n A) B i).length:Nat):Int)) (some (Ctl.out (chn p n (Qy p n A) B i))) (some (Ctl.next (chn p n (Qy p n A) B (i+1)))):=fun i=>by
  obtain ⟨h1,h2,h3⟩:=Jf H i;unfold I0;rw [Ace hb hA (by rw [lA]; exact h1) (by omega) (by omega) (by omega),obs,Awd _ _ (by rw [O1]; omega),obs,T7 hp (Aed h1 (Rg hb.1 hA)) (Nat.le_refl n) (by omega) (by rw [List.length_append,O1]; omega),obs];rfl
 refine A4 k (fun i=>chn p n (Qy p n A) B i) (by omega) _ rfl (fun i hi=>?_) ?_
 ·have:=k3 i hi;rw [hstep,beq_eq_false_iff_ne.2 (by omega),cond_false]
 ·rw [hstep,beq_iff_eq.2 (by omega),cond_true];unfold Md;rw [k5 n k1]
theorem Apx {i1 i2:Int} {C D:List (List Int)} (hp:isF p=true) (hA:MatW p n A) (lA:A.length=n) (hB:MatW p n B) (hn:n<=24) (hl:B.length<=1000):Ch (n:Int) i1 i2 A B C D p=some (Md p n A B):=by
 have H:=Aoy hp hA lA hB;have hb:=Ep hp;unfold Ch;rw [Abr hp hB (by omega) (by omega),obs]
 have key:Aw (fun s_:Nat×List (List Int)=>B6 (n:Int) p A s_.1 s_.2) 4611686018427387904 (0,gj p n B)=some (Md p n A B):=by
  refine A4 n (fun i=>(i,chn p n (Qy p n A) B i)) (by omega) _ rfl (fun i hi=>?_) ?_
  ·obtain ⟨h1,h2,h3⟩:=Jf H i;have hlp:(Tk p n (chn p n (Qy p n A) B i) A).length=(chn p n (Qy p n A) B i).length:=O1
   try dsimp only
   unfold B6;rw [Bd (by omega),cond_true,Sg h1 (by omega) (by omega),obs,W6 hb hA (by rw [lA]; exact h1) (by omega) (by omega) (by omega),obs,Ak (by omega),Abr hp (Aed h1 (Rg hb.1 hA)) (by omega) (by rw [List.length_append]; omega),obs,Ak (by omega)];rfl
  ·try dsimp only
   unfold B6;rw [Bg (by omega),cond_false]; rfl
 rw [key,obs]
theorem Aod {m:List (List Int)} (hm:MatW p n m) (hn:n<=1000) (hl:m.length<=1000):Ip m (n:Int)=some (trV m n):=by
 unfold Ip;have htl:(trV m n).length=n:=N1
 have key:Aw (fun s_:Nat×List (List Int)=>Hq (n:Int) m s_.1 s_.2) 4611686018427387904 (0,List.replicate n [])=some (trV m n):=by
  refine A4 n (fun j=>(j,(trV m n).take j++List.replicate ((trV m n).length - j) [])) (by omega) _ (by simp [htl]) (fun j hj=>?_) ?_
  ·have hx:(trV m n)[j]? =some (m.map fun x=>x.getD j 0):=by simp [trV,hj]
   have hg:=So (xs:=trV m n) (d:=([]:List Int)) (i:=j) (by omega)
   have hin:Aw (fun s_:Nat×List (List Int)=>Hk m j s_.1 s_.2) 4611686018427387904 (0,(trV m n).take j++List.replicate ((trV m n).length - j) [])=some (((trV m n).take j++List.replicate ((trV m n).length - j) []).set j (m.map fun x:List Int=>x.getD j 0)):=by
    refine A4 m.length (fun i=>(i,((trV m n).take j++List.replicate ((trV m n).length - j) []).set j ((m.take i).map fun x:List Int=>x.getD j 0))) (by omega) _ ?_ (fun i hi=>?_) ?_
    ·rw [List.take_zero,List.map_nil,L8 hg]
    ·have hr:=hm _ (List.getElem_mem hi);obtain ⟨_,_,q3⟩:=Du hr hj
     try dsimp only
     unfold Hk;rw [Bd (by omega),cond_true,gEg hi,obs,Um hg,obs,q3,obs,Ak (by simp; omega),Ak (by omega),List.set_set,List.take_add_one,gEg hi,List.map_append];rfl
    ·try dsimp only
     unfold Hk;rw [Bg (by omega),cond_false,List.take_length]
   try dsimp only
   unfold Hq;rw [Int.toNat_natCast,Bd (by omega),cond_true,hin,obs,Ak (by omega),Sf hx]
  ·try dsimp only
   unfold Hq;rw [Int.toNat_natCast,Bg (by omega),cond_false,htl,Nat.sub_self,List.replicate_zero,List.append_nil,List.take_of_length_le (by omega)]
 rw [Ak (by omega),Int.toNat_natCast,key,obs]
def V6 (p:Int) (n ou:Nat) (A C:List (List Int)):List (List Int):=Arx p n (Md p n (trV A n) (trV C ou))
theorem Aq7 {ou:Nat} {i1:Int} {D:List (List Int)} (hp:isF p=true) (hA:MatW p n A) (lA:A.length=n) (hC:MatW p ou C) (lC:C.length=n) (hn:n<=24) (ho:ou<=8):Il p (n:Int) i1 (ou:Int) A B C D=some (V6 p n ou A C):=by
 have hAt:MatW p n (trV A n):=by have:=Aa8 hA; rwa [lA] at this
 have hCt:MatW p n (trV C ou):=by have:=Aa8 hC; rwa [lC] at this
 unfold Il;rw [Aod hA (by omega) (by omega),obs,Aod hC (by omega) (by omega),obs]
 have key:Aw (fun s_:Nat×List (List Int)=>F2 (trV C ou) (n:Int) s_.1 s_.2) 4611686018427387904 (0,trV C ou)=some (trV C ou):=by
  have hl:(trV C ou).length=ou:=N1;refine A4 ou (fun i=>(i,trV C ou)) (by omega) _ rfl (fun i hi=>?_) ?_
  ·have hx:=gEg (show i<(trV C ou).length by omega);have hxl:=(hCt _ (List.getElem_mem (show i<(trV C ou).length by omega))).1
   try dsimp only
   unfold F2;rw [Bd (by omega),cond_true,hx,obs,hxl];by_cases h0:n=0
   ·have e:(trV C ou)[i]'(by omega)=[]:=List.eq_nil_of_length_eq_zero (by omega);rw [beq_iff_eq.2 (by omega),cond_true,Ak (by omega),obs,Ak (by omega),show (List.replicate (n:Int).toNat (0:Int))=(trV C ou)[i]'(by omega) from by rw [e,h0]; rfl,L8 hx]
   ·rw [beq_eq_false_iff_ne.2 (by omega),cond_false,obs,Ak (by omega)]
  ·try dsimp only
   unfold F2;rw [Bg (by omega),cond_false]
 have H:=Aoy hp hAt N1 hCt;rw [key,obs,Ak8 hp hAt N1 hCt hn (by rw [N1]; omega),obs,Aw7 hp (show MatW p n (Md p n (trV A n) (trV C ou)) from (Jf H n).1) (by omega) (by have:=(Jf H n).2.2; show (chn p n (Qy p n (trV A n)) (trV C ou) n).length<=_; omega),obs]; rfl
def M2 (p:Int) (ou:Nat) (A C:List (List Int)):Nat->List (List Int)
 | 0=>C
 | k+1=>Tk p ou A (M2 p ou A C k)
def Qm (n:Nat) (F:Nat->List (List Int)):Nat->List (List Int)
 | 0=>List.replicate n []
 | k+1=>List.zipWith (fun a b=>a++b) (Qm n F k) (F k)
theorem Amg {ou:Nat} (hp:2<=p) (lA:A.length=n) (hC:MatW p ou C) (lC:C.length=n):∀ k,MatW p ou (M2 p ou A C k)∧(M2 p ou A C k).length=n
 | 0=>⟨hC,lC⟩
 | k+1=>⟨Rg hp (Amg hp lA hC lC k).1,by show (Tk p ou A _).length=n; rw [O1]; exact lA⟩
theorem Z2 {F:Nat->List (List Int)} (hF:∀ k,(F k).length=n):∀ k,(Qm n F k).length=n
 | 0=>List.length_replicate
 | k+1=>by show (List.zipWith _ (Qm n F k) (F k)).length=n; rw [List.length_zipWith,Z2 hF k,hF k,Nat.min_self]
theorem Aem {ou:Nat} {F:Nat->List (List Int)} (hF:∀ k,MatW p ou (F k)∧(F k).length=n):∀ k i,i<n->∃ x,(Qm n F k)[i]? =some x∧VecW p (k*ou) x∧∀ t o,t<k->o<ou->x.getD (t*ou+o) 0=en (F t) i o
 | 0,i,hi=>⟨[],by simp [Qm,hi],⟨by simp,fun a ha=>nomatch ha⟩,fun t o ht _=>by omega⟩
 | k+1,i,hi=>by
  obtain ⟨x,h1,h2,h3⟩:=Aem hF k i hi;have hy:=gEg (show i<(F k).length by rw [(hF k).2]; exact hi);have hyv:=(hF k).1 _ (List.getElem_mem (show i<(F k).length by rw [(hF k).2]; exact hi));refine ⟨x++(F k)[i]'(by rw [(hF k).2]; exact hi),?_,⟨by rw [List.length_append,h2.1,hyv.1,Nat.succ_mul],fun a ha=>(List.mem_append.1 ha).elim (h2.2 a) (hyv.2 a)⟩,fun t o ht ho=>?_⟩
  ·show (List.zipWith _ (Qm n F k) (F k))[i]? =_;rw [List.getElem?_zipWith,h1,hy]
  ·by_cases htk:t<k
   ·have hm:t*ou+o<k*ou:=by
     have:=Nat.mul_le_mul_right ou (show t+1<=k by omega);rw [Nat.succ_mul] at this; omega
    rw [gDg,List.getElem?_append_left (by rw [h2.1]; exact hm),← gDg];exact h3 t o htk ho
   ·obtain rfl:t=k:=by omega
    rw [gDg,List.getElem?_append_right (by rw [h2.1]; omega),h2.1,Nat.add_sub_cancel_left,← gDg];unfold en;rw [Bq (m:=F t) hy]
theorem Aor {ou:Nat} {F:Nat->List (List Int)} (hF:∀ k,MatW p ou (F k)∧(F k).length=n) (k:Nat):MatW p (k*ou) (Qm n F k):=fun y hy=>by
 obtain ⟨i,hi,rfl⟩:=List.mem_iff_getElem.1 hy;obtain ⟨x,h1,h2,_⟩:=Aem hF k i (by rw [Z2 fun k=>(hF k).2] at hi; exact hi);rw [gEg hi] at h1;exact (osj h1)▸h2
theorem Avb {ou:Nat} (hp:isF p=true) (hA:MatW p n A) (lA:A.length=n) (hC:MatW p ou C) (lC:C.length=n):Arx p n (trV (Qm n (M2 p ou A C) n) (n*ou))=V6 p n ou A C:=by
 have hb:=Ep hp;have hF:=Amg hb.1 lA hC lC;have hAt:MatW p n (trV A n):=by have:=Aa8 hA; rwa [lA] at this
 have hCt:MatW p n (trV C ou):=by have:=Aa8 hC; rwa [lC] at this
 have H:=Aoy hp hAt N1 hCt;have hsl:=Z2 (n:=n) (fun k=>(hF k).2) n
 have hst:MatW p n (trV (Qm n (M2 p ou A C) n) (n*ou)):=by
  have:=Aa8 (Aor hF n)
  rwa [hsl] at this
 refine As8 hb.1 (Afo hp) (V1 hb.1) (V1 hb.1) fun f=>(Afw hp hst).trans (Iff.trans ?_ (Afw hp (Jf H n).1).symm)
 have hrow:G3 p n (trV (Qm n (M2 p ou A C) n) (n*ou)) f↔∀ k,k<n->G3 p n (trV C ou) (pwF n A k f):=by
  have e1:∀ k o,k<n->o<ou->(sm n fun i=>en (trV (Qm n (M2 p ou A C) n) (n*ou)) (k*ou+o) i*f i)=sm n fun i=>f i*en (M2 p ou A C k) i o:=fun k o hk ho=>I6 fun i hi=>by
   have hlt:k*ou+o<n*ou:=by
    have:=Nat.mul_le_mul_right ou (show k+1<=n by omega);rw [Nat.succ_mul] at this; omega
   obtain ⟨x,h1,_,h3⟩:=Aem hF n i hi;rw [Axb hlt (by rw [hsl]; exact hi),Int.mul_comm];unfold en;rw [Bq h1,h3 k o hk ho]; rfl
  have e2:∀ k o,o<ou->Cg p (sm n fun i=>f i*en (M2 p ou A C k) i o) (sm n fun i=>en (trV C ou) o i*pwF n A k f i):=fun k o ho=>by
   refine (As5 (C:=M2 p ou A C) (A:=A) (fun k i o hi ho=>?_) k f o ho).trans (Cg.of (I6 fun i hi=>?_))
   ·have:=Avq hb.1 (hF k).1 (X:=A) (i:=i) (by omega) ho
    rwa [(hF k).2] at this
   ·rw [Axb ho (by omega),Int.mul_comm]; rfl
  constructor
  ·intro h k hk o ho;rw [N1] at ho;refine (e2 k o ho).symm.trans ?_;rw [← e1 k o hk ho];refine h (k*ou+o) ?_;rw [N1];have:=Nat.mul_le_mul_right ou (show k+1<=n by omega);rw [Nat.succ_mul] at this; omega
  ·intro h q hq;rw [N1] at hq;have ho0:0<ou:=Nat.pos_of_ne_zero fun e=>by rw [e] at hq; omega
   have hk:q / ou<n:=(Nat.div_lt_iff_lt_mul ho0).2 hq;have ho:=Nat.mod_lt q ho0;have hq':q / ou*ou+q % ou=q:=by have:=Nat.div_add_mod q ou; rw [Nat.mul_comm] at this; exact this
   have:=h (q / ou) hk (q % ou) (by rw [N1]; exact ho);rw [← hq',e1 _ _ hk ho];exact (e2 _ _ ho).trans this
 have hchn:G3 p n (Md p n (trV A n) (trV C ou)) f↔∀ k,k<n->G3 p n (trV C ou) (pwF n A k f):=by
  unfold Md;by_cases h0:n=0
  ·subst h0;exact ⟨fun _ k hk=>by omega,fun _ i hi=>Cg.rf⟩
  ·obtain ⟨k,k1,k2,_,_,k5⟩:=Ao7 H;rw [show chn p n (Qy p n (trV A n)) (trV C ou) n=chn p n (Qy p n (trV A n)) (trV C ou) (n - 1) by rw [k5 n k1,k5 (n - 1) (by have:=k2 h0; omega)],Ail H (fun i j hi hj=>Axb hi (by omega)) (n - 1) f];exact ⟨fun h k hk=>h k (by omega),fun h k hk=>h k (by omega)⟩
 exact hrow.trans hchn.symm
theorem Ax4 {ou:Nat} {i1:Int} {D:List (List Int)} (hp:isF p=true) (hA:MatW p n A) (lA:A.length=n) (hC:MatW p ou C) (lC:C.length=n) (hn:n<=24) (ho:ou<=8):Cz (n:Int) i1 (ou:Int) A B C D p=some (V6 p n ou A C):=by
 have hb:=Ep hp;have hF:=Amg hb.1 lA hC lC;have hsl:=Z2 (n:=n) fun k=>(hF k).2
 unfold Cz;rw [Ak (by omega),Sg hC (by omega) (by omega),obs,Int.toNat_natCast];have hno:n*ou<=192:=Nat.le_trans (Nat.mul_le_mul hn ho) (by omega)
 have key:Aw (fun s_:List (List Int)×Nat×List (List Int)=>Ce (n:Int) p A (ou:Int) s_.1 s_.2.1 s_.2.2) 4611686018427387904 (C,0,List.replicate n [])=some (Qm n (M2 p ou A C) n):=by
  refine A4 n (fun k=>(M2 p ou A C k,k,Qm n (M2 p ou A C) k)) (by omega) _ rfl (fun k hk=>?_) ?_
  ·have hin:Aw (fun s_:Nat×List (List Int)=>Ci (Qm n (M2 p ou A C) k) (M2 p ou A C k) s_.1 s_.2) 4611686018427387904 (0,Qm n (M2 p ou A C) k)=some (Qm n (M2 p ou A C) (k+1)):=by
    have hl1:=hsl (k+1);refine A4 n (fun i=>(i,(Qm n (M2 p ou A C) (k+1)).take i++(Qm n (M2 p ou A C) k).drop i)) (by omega) _ (by simp) (fun i hi=>?_) ?_
    ·obtain ⟨x,h1,h2,_⟩:=Aem hF k i hi;have hi1:i<(Qm n (M2 p ou A C) k).length:=by rw [hsl]; exact hi
     have hi2:i<(M2 p ou A C k).length:=by rw [(hF k).2]; exact hi
     have hxe:(Qm n (M2 p ou A C) k)[i]=x:=by rw [gEg hi1] at h1; exact osj h1
     have ht:((Qm n (M2 p ou A C) (k+1)).take i).length=i:=by rw [List.length_take]; omega
     have hyv:=(hF k).1 _ (List.getElem_mem hi2);have hko:k*ou<=192:=Nat.le_trans (Nat.mul_le_mul (show k<=24 by omega) ho) (by omega)
     have hz:(Qm n (M2 p ou A C) (k+1))[i]? =some (x++(M2 p ou A C k)[i]):=by
      show (List.zipWith _ (Qm n (M2 p ou A C) k) (M2 p ou A C k))[i]? =_;rw [List.getElem?_zipWith,h1,gEg hi2]
     try dsimp only
     unfold Ci;rw [Bd (by rw [hsl]; omega),cond_true,O9 hi1 ht,obs,gEg hi2,obs,hxe,Ak (by rw [h2.1,hyv.1]; omega),Ak (by omega),Pb hi1 ht,List.take_add_one,hz]; rfl
    ·try dsimp only
     unfold Ci;rw [Bg (by rw [hsl]; omega),cond_false,List.drop_of_length_le (by rw [hsl]; exact Nat.le_refl _),List.append_nil,List.take_of_length_le (by omega)]
   try dsimp only
   unfold Ce;rw [Bd (by omega),cond_true,hin,obs,W6 hb (hF k).1 (by rw [(hF k).2]; exact hA) (by omega) (by rw [(hF k).2]; omega) (by omega),obs,obs];dsimp only;rw [Ak (by omega)]; rfl
  ·try dsimp only
   unfold Ce;rw [Bg (by omega),cond_false]
 rw [key,obs,show wI ((n:Int)*(ou:Int))=((n*ou:Nat):Int) by rw [← Int.natCast_mul,D6 (by omega) (by omega)],Avc hp (Aor hF n) (by omega) (by rw [hsl]; omega),obs,hsl,Avb hp hA lA hC lC]
theorem Axx {ou:Nat} (hp:isF p=true) (hA:MatW p n A) (lA:A.length=n) (hC:MatW p ou C) (lC:C.length=n):MatW p n (V6 p n ou A C)∧Jl n (V6 p n ou A C).length (V6 p n ou A C) (lv (V6 p n ou A C))∧(V6 p n ou A C).length<=n:=by
 have:=Apm (Ep hp).1 (Afo hp) (V1 (R:=gj p n (Md p n (trV A n) (trV C ou))) (n:=n) (Ep hp).1);exact ⟨this.1,this.2,Amh this.2⟩
end
end
end Go.Proofs.YtpnofkjgeokdhaaDoor
