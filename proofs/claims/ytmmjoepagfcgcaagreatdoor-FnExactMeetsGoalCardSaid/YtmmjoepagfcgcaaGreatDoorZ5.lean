/- Lemmas on the program and on partial functions that stand in place of its code (part 5); no condition beyond those that each one states. -/
import Derived.Test.YtmmjoepagfcgcaaGreatDoorZ4
namespace Go.Proofs.YtmmjoepagfcgcaaGreatDoor
section
open Go.RowKit Go.Deep
set_option maxRecDepth 4000
set_option maxHeartbeats 4800000
variable {bA bB bC bD bE:Int} {dA dB:LL} {cA:Bool} {aA aB aC:List Int} {eA:LL×LL} {fA:LL×LL×Nat}
def Abk (a0 a1:Int) (u0:Nat):Option (Ctl Nat (Ctl Unit Int)) :=
 cond (decide ((u0:Int)<a0))
 (og (a0≠0) <|
 cond ((Int.tmod (wI (a1*(u0:Int))) a0)==1)
  (some (Ctl.out (Ctl.out (u0:Int))))
  (og (u0+1<4611686018427387904) <|
  some (Ctl.next (u0+1))))
 (some (Ctl.out (Ctl.next ())))
def O2 (a0 a1:Int):Option Int :=
 Cz (Aq (fun s_:Nat=>Abk a0 a1 s_) 4611686018427387904 1) fun _ =>
some 0
theorem Afn (h:O2 bA bB=some bC):cK 181 [ai bA,ai bB] (A4 bC):=by
 refine cO Tryz.func181 (Ae (sqC h (fun _=>sT [] []) ?_ fun _ h=>Ae (Ac (jS h))));intro _ h hk2;refine Ae (Ad (lpF h (fun u0=>sT [(0,ai bA),(1,ai bB),(5,an u0)] []) (Ag []) ?_));intro n_ u0 c_ h hn4;refine Ab (Ae (kQ h (fun _ h=>skW (Ab (Ad (Ab (Aa 11 (rsT 4 ?_)))))) fun _ h=>lxT (have h:=jO h hn4;jC [])));obtain ⟨g10,h⟩:=Al h;exact rs0 (ai (Int.tmod (wI (bB*(u0:Int))) bA)) (R2 (k:=.i64) (a:=wI (bB*(u0:Int))) (b:=bA) kr kr g10) (rsT 1 (rnW (kQ h (fun _ h=>Ae (Ac (br_ (tr_ (tr_ (br_ (tr_ (have h:=jO h hn4;(have h:=jO h hk2;jS h))))))))) fun _ h=>Aw (bn_ (tn_ (wr_ (Aa 14 (rsT 1 (raH h fun h=>rsT 1 (An (tn_ (jL []))))))))))))
def F3 (a0 a1:Int):Option Int :=
 og (a0≠0) <|
some (Int.tmod (wI (a0 - a1)) a0)
theorem Rg (h:F3 bA bB=some bC):cK 140 [ai bA,ai bB] (A4 bC):=by
 refine cO Tryz.func140 (Ae (Ab (Aa 8 (rsT 4 ?_))));obtain ⟨g3,h⟩:=Al h;exact rs0 (ai (Int.tmod (wI (bA - bB)) bA)) (R2 (k:=.i64) (a:=wI (bA - bB)) (b:=bA) kr kr g3) (rsT 1 (rnW (Ac (jS h))))
def O8 (a0 a1 a2:Int):Option Int :=
 og (a0≠0) <|
some (Int.tmod (wI ((wI (a1+a0)) - a2)) a0)
theorem Afx (h:O8 bA bB bC=some bD):cK 183 [ai bA,ai bB,ai bC] (A4 bD):=by
 refine cO Tryz.func183 (Ae (Ab (Aa 10 (rsT 6 ?_))));obtain ⟨g3,h⟩:=Al h;exact rs0 (ai (Int.tmod (wI ((wI (bB+bA)) - bC)) bA)) (R2 (k:=.i64) (a:=wI ((wI (bB+bA)) - bC)) (b:=bA) kr kr g3) (rsT 1 (rnW (Ac (jS h))))
def Fj (a2:LL) (u0:Nat) (u1:LL):Option (Ctl (Nat×LL) (LL)) :=
 cond (decide ((u0:Int)<(a2.length:Int)))
 ((a2[u0]?).bind fun x12 =>
 (Hh x12).bind fun y13 =>
 og (u1.length+1<=1073741824/\(u1.length+1)*24<=140737488355328) <|
 og (u0+1<4611686018427387904) <|
 some (Ctl.next (u0+1,u1++[y13])))
 (some (Ctl.out u1))
def Fk (u1:LL) (u2 u0:Nat):Option (Ctl Nat Nat) :=
 (cond (decide ((u0:Int)<(u1.length:Int)))
  ((u1[u0]?).bind fun x31 =>
  (x31[u2]?).bind fun x32 =>
  some (x32==0))
  (some false)).bind fun u3 =>
cond u3
 (og (u0+1<4611686018427387904) <|
 some (Ctl.next (u0+1)))
 (some (Ctl.out u0))
def Hg (x44:List Int) (u2:Nat) (a0 y46:Int) (u0:Nat) (u1:LL):Option (Ctl (Nat×LL) (LL)) :=
 cond (decide ((u0:Int)<(x44.length:Int)))
 ((u1[u2]?).bind fun x55 =>
 (x55[u0]?).bind fun x56 =>
 (Mv a0 x56 y46).bind fun y57 =>
 og (u0+1<4611686018427387904) <|
 some (Ctl.next (u0+1,u1.set u2 (x55.set u0 y57))))
 (some (Ctl.out u1))
def Hu (x74:List Int) (u2 u3:Nat) (a0 x75:Int) (u0:Nat) (u1:LL):Option (Ctl (Nat×LL) (LL)) :=
 cond (decide ((u0:Int)<(x74.length:Int)))
 ((u1[u2]?).bind fun x83 =>
 (x83[u0]?).bind fun x84 =>
 (u1[u3]?).bind fun x85 =>
 (x85[u0]?).bind fun x86 =>
 (Mv a0 x75 x86).bind fun y87 =>
 (O8 a0 x84 y87).bind fun y88 =>
 og (u0+1<4611686018427387904) <|
 some (Ctl.next (u0+1,u1.set u2 (x83.set u0 y88))))
 (some (Ctl.out u1))
def Hi (u4:LL) (u2 u3:Nat) (a0:Int) (u0:Nat) (u1:LL):Option (Ctl (Nat×LL) (LL)) :=
 cond (decide ((u0:Int)<(u4.length:Int)))
 (((cond ((u0:Int)==(u2:Int))
       (some true)
       ((u1[u0]?).bind fun x70 =>
       (x70[u3]?).bind fun x71 =>
       some (x71==0))).bind fun u5 =>
  cond u5
   (some u1)
   ((u1[u0]?).bind fun x74 =>
   (x74[u3]?).bind fun x75 =>
   Aq (fun s_:Nat×LL=>Hu x74 u0 u2 a0 x75 s_.1 s_.2) 4611686018427387904 (0,u1))).bind fun u6 =>
 og (u0+1<4611686018427387904) <|
 some (Ctl.next (u0+1,u6)))
 (some (Ctl.out u1))
def D9 (a1 a0:Int) (u0 u2:Nat) (u1:LL):Option (Ctl (Nat×Nat×LL) (Nat×LL)) :=
 (cond (decide ((u2:Int)<a1))
  (some (decide ((u0:Int)<(u1.length:Int))))
  (some false)).bind fun u5 =>
cond u5
 (((Aq (fun s_:Nat=>Fk u1 u2 s_) 4611686018427387904 u0).bind fun u3 =>
  cond ((u3:Int)==(u1.length:Int))
   (some (u0,u1))
   ((u1[u0]?).bind fun x39 =>
   (u1[u3]?).bind fun x41 =>
   (((u1.set u0 x41).set u3 x39)[u0]?).bind fun x44 =>
   (x44[u2]?).bind fun x45 =>
   (O2 a0 x45).bind fun y46 =>
   (Aq (fun s_:Nat×LL=>Hg x44 u0 a0 y46 s_.1 s_.2) 4611686018427387904 (0,(u1.set u0 x41).set u3 x39)).bind fun u4 =>
   (Aq (fun s_:Nat×LL=>Hi u4 u0 u2 a0 s_.1 s_.2) 4611686018427387904 (0,u4)).bind fun u6 =>
   og (u0+1<4611686018427387904) <|
   some (u0+1,u6))).bind fun (u7,u8) =>
 og (u2+1<4611686018427387904) <|
 some (Ctl.next (u7,u2+1,u8)))
 (some (Ctl.out (u0,u1)))
def Ew (a0 a1:Int) (a2:LL):Option (LL) :=
 (Aq (fun s_:Nat×LL=>Fj a2 s_.1 s_.2) 4611686018427387904 (0,([]:LL))).bind fun u2 =>
(Aq (fun s_:Nat×Nat×LL=>D9 a1 a0 s_.1 s_.2.1 s_.2.2) 4611686018427387904 (0,0,u2)).bind fun (u0,u1) =>
og ((0:Int)<=0/\0<=(u0:Int)/\(u0:Int)<=(u1.length:Int)) <|
some (u1.take u0)
theorem J2 (h:Ew bA bB dA=some dB):Fw Tryz.prog Tab 154 [ai bA,ai bB,tS dA] [] (oS 0 1 dB.length) [(oi 0 1,.mat 82 (oi 1 1) .int dB),(oi 1 1,.pool 3 .int dB)]:=by
 refine Cv kr Tryz.func154 (Cs kr) (n:=177) kr (by simp) rfl kr trivial ⟨⟨3,.tail _ (.head _)⟩,⟨trivial,trivial⟩⟩ (Ae (Ae (sqF h (fun uf=>sT [(0,ai bA),(1,ai bB),(7,oS 0 1 uf.length)] [(oi 0 1,.mat 82 (oi 1 1) .int uf),(oi 1 1,.pool 3 .int uf)]) ?_ ?_)))
 ·intro _ h;refine Ae (Ad (lpF h (fun (uj,uc)=>sT [(0,ai bA),(1,ai bB),(7,oS 0 1 uc.length),(19,tS dA),(20,an dA.length),(21,an uj)] [(oi 0 1,.mat 82 (oi 1 1) .int uc),(oi 1 1,.pool 3 .int uc)]) ((Ng 7 82 sI kr).trans ((Ev (e1:=82) (n:=0) 9000 (oi 7 6) 3 .int kr kr rfl kr kr).trans (Ag [(oi 0 1,oi 7 6),(oi 1 1,oi 9000 7)]))) ?_));rintro n_ ⟨uj,uc⟩ c_ h hn6
  (try dsimp only at h);refine Ae (Ab (kQ h (fun q9 h=>?_) fun q9 h=>?_))
  ·have q9_:=of_decide_eq_true q9;refine skW (Ab (Ad (Ab (Aa 6 (riH sI h fun x12 _ h=>rsT 2 (rnW (Aa 12 (rsT 2 (rcH h Nm fun y13 h=>Ia (oS 28 9 1) (oi 28 9) (.vec 82 1 1 ([oI 432 8 y13.length])) trivial (Cy kr) ?_)))))))));obtain ⟨g14,h⟩:=Al h;refine zV (oi 0 1) (oi 28 9) (oi 1 1) uc [oI 432 8 y13.length] g14 (rsT 1 (An (bn_ (tn_ ⟨_,Em (e1:=82) (e:=3) (u:=.int) (n:=uc.length+1) (len:=y13.length) (row:=y13) (ys:=y13) (xss:=uc) 9000 (oi 0 10) (oi 1 1) (oi 432 8) kr kr rfl kr kr (N4 rfl) (Oc rfl) kr kr kr,Aa 15 ?_⟩))));obtain ⟨g15,h⟩:=Al h;refine zA g15 (rsT 1 (An (tn_ ?_)));obtain rfl:=zj h;exact jLw hn6 ((wL 7 ((by simp):uc.length+1=(uc++[y13]).length)).trans (Ag [(oi 0 1,oi 0 10),(oi 1 1,oi 9000 12)]))
  have q9_:=of_decide_eq_false q9;refine lxT ?_;have h:=jO h hn6
  (try dsimp only at h);exact jE []
 intro uf h
 (try dsimp only at h);refine Ae (sqF h (fun (ua,ub)=>sT [(7,oS 0 1 ub.length),(10,an ua)] [(oi 0 1,.mat 82 (oi 1 1) .int ub),(oi 1 1,.pool 3 .int ub)]) ?_ ?_)
 ·intro _ h;refine Ae (Ad (lpF h (fun (u0,u3,u1)=>sT [(0,ai bA),(1,ai bB),(7,oS 0 1 u1.length),(10,an u0),(11,an u3)] [(oi 0 1,.mat 82 (oi 1 1) .int u1),(oi 1 1,.pool 3 .int u1)]) (Ag []) ?_));rintro n_ ⟨u0,u3,u1⟩ c_ h hn19
  (try dsimp only at h);refine Ab (sqF h (fun uk=>sT [(0,ai bA),(1,ai bB),(7,oS 0 1 u1.length),(10,an u0),(11,an u3),(39,.bool uk)] [(oi 0 1,.mat 82 (oi 1 1) .int u1),(oi 1 1,.pool 3 .int u1)]) ?_ ?_)
  ·intro _ h;refine Aa 11 (rsT 4 (kR h 34 (fun q22 h=>?_) fun q22 h=>?_))
   ·have q22_:=of_decide_eq_true q22;exact rsT 5 (An (tn_ (jE [])))
   have q22_:=of_decide_eq_false q22;exact rsT 5 (An (tn_ (jE [])))
  intro uk h
  (try dsimp only at h);refine kQ h (fun _ h=>?_) fun _ h=>?_
  ·refine skW (sqF h (fun (ul,ug)=>sT [(0,ai bA),(1,ai bB),(7,oS 0 1 ug.length),(10,an ul),(11,an u3)] [(oi 0 1,.mat 82 (oi 1 1) .int ug),(oi 1 1,.pool 3 .int ug)]) ?_ ?_)
   ·intro _ h;refine Ad (Ae (sqF h (fun u6=>sT [(0,ai bA),(1,ai bB),(7,oS 0 1 u1.length),(10,an u0),(11,an u3),(12,an u6)] [(oi 0 1,.mat 82 (oi 1 1) .int u1),(oi 1 1,.pool 3 .int u1)]) ?_ ?_))
    ·intro _ h;refine Ad (lpF h (fun ud=>sT [(0,ai bA),(1,ai bB),(7,oS 0 1 u1.length),(10,an u0),(11,an u3),(12,an ud)] [(oi 0 1,.mat 82 (oi 1 1) .int u1),(oi 1 1,.pool 3 .int u1)]) (Ag []) ?_);intro n_ ud c_ h hn27
     (try dsimp only at h);refine Ab (sqF h (fun um=>sT [(0,ai bA),(1,ai bB),(7,oS 0 1 u1.length),(10,an u0),(11,an u3),(12,an ud),(56,.bool um)] [(oi 0 1,.mat 82 (oi 1 1) .int u1),(oi 1 1,.pool 3 .int u1)]) ?_ ?_)
     ·intro _ h;refine Aa 16 (rsT 5 ?_);rcases A0 h with ⟨q30,h⟩|⟨q30,h⟩
      ·have q30_:=of_decide_eq_true q30;refine rq 47 q30 (rsT 2 ?_);obtain ⟨x31,e31,h⟩:=Ah h;refine zO (oi 0 1) sI u1.length (Ai e31) (rsl (.own (kid (oi 1 1) ud) .int 0 x31.length) (Fa (o:=oi 0 1) (p:=oi 1 1) (e1:=82) (u:=.int) (xss:=u1) (row:=x31) (j:=ud) kr kr e31) (rsT 1 ?_));obtain ⟨x32,e32,h⟩:=Ah h;exact rs0 (.elt (kid (oi 1 1) ud) u3 0) (zo (t:=.int) (o:=kid (oi 1 1) ud) (len:=x31.length) (k:=.i64) (m:=(u3:Int)) (Dx _) (Ai e32)) (rsl (ai x32) (He (i:=kid (oi 1 1) ud) (j:=u3) (k:=0) (e:=3) (t:=.int) (xs:=x31) kr (Bk kr e31) e32 kr) (rsT 2 (An (tn_ (jE [])))))
      have q30_:=of_decide_eq_false q30;exact rq 47 q30 (rsT 9 (An (tn_ (jE []))))
     intro um h
     (try dsimp only at h);refine kQ h (fun _ h=>?_) fun _ h=>?_
     ·refine skW (Ad (Aa 5 (rsT 1 ?_)));obtain ⟨g34,h⟩:=Al h;exact zA g34 (rsT 1 (An (bn_ (tn_ (jL [])))))
     refine lxT ?_;have h:=jO h hn27
     (try dsimp only at h);exact jE []
    intro u6 h
    (try dsimp only at h);refine Ab (Ae (kQ h (fun _ h=>D7 (te_ (be_ (tn_ (jE []))))) fun _ h=>skW (Ab (Aa 11 (rsT 2 ?_)))));obtain ⟨x39,e39,h⟩:=Ah h;refine zO (oi 0 1) sI u1.length (Ai e39) (rsl (.own (kid (oi 1 1) u0) .int 0 x39.length) (Fa (o:=oi 0 1) (p:=oi 1 1) (e1:=82) (u:=.int) (xss:=u1) (row:=x39) (j:=u0) kr kr e39) (rsT 1 (rnW (Ab (Aa 19 (rsT 4 ?_))))));obtain ⟨x41,e41,h⟩:=Ah h;refine zO (oi 0 1) sI u1.length (Ai e41) (rsl (.own (kid (oi 1 1) u6) .int 0 x41.length) (Fa (o:=oi 0 1) (p:=oi 1 1) (e1:=82) (u:=.int) (xss:=u1) (row:=x41) (j:=u6) kr kr e41) (zO (oi 0 1) sI u1.length (Ai e39) (Ai1 (oi 0 1) (oi 0 1) (.vec 82 1 u1.length ((hdL (oi 1 1) .int u1).set u0 (.own (kid (oi 1 1) u6) .int 0 x41.length))) (Adk (o:=oi 0 1) (e1:=82) (m:=u1.length) (cs:=hdL (oi 1 1) .int u1) (v:=.own (kid (oi 1 1) u6) .int 0 x41.length) (j:=u0) kr kr kr rfl (by rw [Dg];exact Ai e39)) (rnW (Ab (Aa 24 (rsT 3 (zO (oi 0 1) sI u1.length (Ai e41) (Ai1 (oi 0 1) (oi 0 1) (.vec 82 1 u1.length (((hdL (oi 1 1) .int u1).set u0 (.own (kid (oi 1 1) u6) .int 0 x41.length)).set u6 (.own (kid (oi 1 1) u0) .int 0 x39.length))) (Adk (o:=oi 0 1) (e1:=82) (m:=u1.length) (cs:=(hdL (oi 1 1) .int u1).set u0 (.own (kid (oi 1 1) u6) .int 0 x41.length)) (v:=.own (kid (oi 1 1) u0) .int 0 x39.length) (j:=u6) kr kr kr rfl (by rw [List.length_set,Dg];exact Ai e41)) (An (tn_ ⟨_,Afc (e1:=82) (e:=3) (u:=.int) (xss:=u1) (i:=u0) (j:=u6) (n:=u1.length) (li:=x39.length) (lj:=x41.length) (ri:=x39) (rj:=x41) 9000 (oi 0 1) (oi 1 1) kr kr rfl kr e39 e41 rfl rfl kr kr,Ab (Aa 35 (rsT 3 ?_))⟩)))))))))));obtain ⟨x44,e44,h⟩:=Ah h;refine rs0 (.elt (oi 0 1) u0 0) (zo (t:=sI) (o:=oi 0 1) (len:=u1.length) (k:=.i64) (m:=(u0:Int)) (Dx _) (Nat.lt_of_lt_of_le (Ai e44) (Nat.le_of_eq (Eq.symm (Eq.trans (b:=u1.length) rfl (by simp)))))) (rsl (.own (kid (oi 9000 24) u0) .int 0 x44.length) (Fa (o:=oi 0 1) (p:=oi 9000 24) (e1:=82) (u:=.int) (xss:=(u1.set u0 x41).set u6 x39) (row:=x44) (j:=u0) kr kr e44) (rsT 1 ?_));obtain ⟨x45,e45,h⟩:=Ah h;refine rs0 (.elt (kid (oi 9000 24) u0) u3 0) (zo (t:=.int) (o:=kid (oi 9000 24) u0) (len:=x44.length) (k:=.i64) (m:=(u3:Int)) (Dx _) (Ai e45)) (rsl (ai x45) (He (i:=kid (oi 9000 24) u0) (j:=u3) (k:=0) (e:=3) (t:=.int) (xs:=x44) kr (Bk kr e44) e45 kr) (rcH h Afn fun y46 h=>rsT 1 (rnW (sqF h (fun ue=>sT [(0,ai bA),(1,ai bB),(7,oS 0 1 ue.length),(10,an u0),(11,an u3)] [(oi 0 1,.mat 82 (oi 1 1) .int ue),(oi 1 1,.pool 3 .int ue)]) ?_ ?_))))
    ·intro _ h;refine Ab (Aa 41 (rsT 2 (rs0 (.elt (oi 0 1) u0 0) (zo (t:=sI) (o:=oi 0 1) (len:=u1.length) (k:=.i64) (m:=(u0:Int)) (Dx _) (Nat.lt_of_lt_of_le (Ai e44) (Nat.le_of_eq (Eq.symm (Eq.trans (b:=u1.length) rfl (by simp)))))) (rsl (.own (kid (oi 9000 24) u0) .int 0 x44.length) (Fa (o:=oi 0 1) (p:=oi 9000 24) (e1:=82) (u:=.int) (xss:=(u1.set u0 x41).set u6 x39) (row:=x44) (j:=u0) kr kr e44) (rsT 2 (rnW (Ad (lpF h (fun (u9,u7)=>sT [(0,ai bA),(1,ai bB),(7,oS 0 1 u7.length),(10,an u0),(11,an u3),(14,ai y46),(91,an x44.length),(92,an u9)] [(oi 0 1,.mat 82 (oi 1 1) .int u7),(oi 1 1,.pool 3 .int u7)]) ((wL 7 ((Eq.trans (b:=u1.length) rfl (by simp)):u1.length=((u1.set u0 x41).set u6 x39).length)).trans (Ag [(oi 1 1,oi 9000 24)])) ?_))))))));rintro n_ ⟨u9,u7⟩ c_ h hn49
     (try dsimp only at h);refine Ae (Ab (kQ h (fun q52 h=>?_) fun q52 h=>?_))
     ·have q52_:=of_decide_eq_true q52;refine skW (Ab (Ad (Ae (Am 22 (dz0 (oS 0 1 u7.length) (dz0 (an u0) ?_))))));obtain ⟨x55,e55,h⟩:=Ah h;refine dzO (oi 0 1) sI u7.length (Ai e55) (dsl (.own (kid (oi 1 1) u0) .int 0 x55.length) (Fa (o:=oi 0 1) (p:=oi 1 1) (e1:=82) (u:=.int) (xss:=u7) (row:=x55) (j:=u0) kr kr e55) (dsT 4 (dzO (oi 0 1) sI u7.length (Ai e55) (dsl (.own (kid (oi 1 1) u0) .int 0 x55.length) (Fa (o:=oi 0 1) (p:=oi 1 1) (e1:=82) (u:=.int) (xss:=u7) (row:=x55) (j:=u0) kr kr e55) (dz0 (an u9) ?_)))));obtain ⟨x56,e56,h⟩:=Ah h;refine ds0 (.elt (kid (oi 1 1) u0) u9 0) (zo (t:=.int) (o:=kid (oi 1 1) u0) (len:=x55.length) (k:=.i64) (m:=(u9:Int)) (Dx _) (Ai e56)) (dsl (ai x56) (He (i:=kid (oi 1 1) u0) (j:=u9) (k:=0) (e:=3) (t:=.int) (xs:=x55) kr (Aew.trans (Bk kr e55)) e56 kr) (dz0 (ai y46) (dcH h Vw fun y57 h=>ds0 (.elt (kid (oi 1 1) u0) u9 0) (zo (t:=.int) (o:=kid (oi 1 1) u0) (len:=x55.length) (k:=.i64) (m:=(u9:Int)) (Dx _) (Ai e56)) (Ke (kid (oi 1 1) u0) (kid (oi 1 1) u0) (.arr 3 .int (x55.set u9 y57)) (Af9 (i:=kid (oi 1 1) u0) (j:=u9) (k:=0) (e:=3) (t:=.int) (xs:=x55) (cs:=[ai y57]) (x1:=y57) kr (Aew.trans (Bk kr e55)) e56 kr kr) (Apf (Ahj (o:=oi 0 1) (p:=oi 1 1) (e1:=82) (e:=3) (u:=.int) (xss:=u7) (k:=u0) (row:=x55) (row':=x55.set u9 y57) kr rfl kr e55 List.length_set) (B4 (Ar kr) (bn_ (tn_ (wr_ (Aa 24 ?_))))))))));obtain ⟨g58,h⟩:=Al h;refine zA g58 (rsT 1 (An (tn_ ?_)));obtain rfl:=zj h;exact jLw hn49 ((wL 7 ((Eq.trans (b:=u7.length) rfl List.length_set.symm):u7.length=(u7.set u0 (x55.set u9 y57)).length)).trans (Ag []))
     have q52_:=of_decide_eq_false q52;refine lxT ?_;have h:=jO h hn49
     (try dsimp only at h);exact jE []
    intro ue h
    (try dsimp only at h);refine sqF h (fun uh=>sT [(0,ai bA),(1,ai bB),(7,oS 0 1 uh.length),(10,an u0),(11,an u3)] [(oi 0 1,.mat 82 (oi 1 1) .int uh),(oi 1 1,.pool 3 .int uh)]) ?_ ?_
    ·intro _ h;refine Ae (Ad (lpF h (fun (u2,u8)=>sT [(0,ai bA),(1,ai bB),(7,oS 0 1 u8.length),(10,an u0),(11,an u3),(113,an ue.length),(114,an u2)] [(oi 0 1,.mat 82 (oi 1 1) .int u8),(oi 1 1,.pool 3 .int u8)]) (Ag []) ?_));rintro n_ ⟨u2,u8⟩ c_ h hn61
     (try dsimp only at h);refine Ae (Ab (kQ h (fun q64 h=>?_) fun q64 h=>?_))
     ·have q64_:=of_decide_eq_true q64;refine skW (sqF h (fun ui=>sT [(0,ai bA),(1,ai bB),(7,oS 0 1 ui.length),(10,an u0),(11,an u3),(113,an ue.length),(114,an u2)] [(oi 0 1,.mat 82 (oi 1 1) .int ui),(oi 1 1,.pool 3 .int ui)]) ?_ ?_)
      ·intro _ h;refine Ad (Ae (Ab (sqF h (fun un=>sT [(0,ai bA),(1,ai bB),(7,oS 0 1 u8.length),(10,an u0),(11,an u3),(16,an u2),(113,an ue.length),(114,an u2),(129,.bool un)] [(oi 0 1,.mat 82 (oi 1 1) .int u8),(oi 1 1,.pool 3 .int u8)]) ?_ ?_)))
       ·intro _ h;refine Aa 18 (rsT 4 ?_);rcases A0 h with ⟨q69,h⟩|⟨q69,h⟩
        ·exact rq 120 q69 (rsT 9 (An (tn_ (jE []))))
        refine rq 120 q69 (rsT 2 ?_);obtain ⟨x70,e70,h⟩:=Ah h;refine zO (oi 0 1) sI u8.length (Ai e70) (rsl (.own (kid (oi 1 1) u2) .int 0 x70.length) (Fa (o:=oi 0 1) (p:=oi 1 1) (e1:=82) (u:=.int) (xss:=u8) (row:=x70) (j:=u2) kr kr e70) (rsT 1 ?_));obtain ⟨x71,e71,h⟩:=Ah h;exact rs0 (.elt (kid (oi 1 1) u2) u3 0) (zo (t:=.int) (o:=kid (oi 1 1) u2) (len:=x70.length) (k:=.i64) (m:=(u3:Int)) (Dx _) (Ai e71)) (rsl (ai x71) (He (i:=kid (oi 1 1) u2) (j:=u3) (k:=0) (e:=3) (t:=.int) (xs:=x70) kr (Bk kr e70) e71 kr) (rsT 2 (An (tn_ (jE [])))))
       intro un h
       (try dsimp only at h);refine kQ h (fun _ h=>D7 (te_ (be_ (tn_ (jE []))))) fun _ h=>skW (Ab (Aa 10 (rsT 2 ?_)))
       obtain ⟨x74,e74,h⟩:=Ah h;refine zO (oi 0 1) sI u8.length (Ai e74) (rsl (.own (kid (oi 1 1) u2) .int 0 x74.length) (Fa (o:=oi 0 1) (p:=oi 1 1) (e1:=82) (u:=.int) (xss:=u8) (row:=x74) (j:=u2) kr kr e74) (rsT 1 ?_));obtain ⟨x75,e75,h⟩:=Ah h;refine rs0 (.elt (kid (oi 1 1) u2) u3 0) (zo (t:=.int) (o:=kid (oi 1 1) u2) (len:=x74.length) (k:=.i64) (m:=(u3:Int)) (Dx _) (Ai e75)) (rsl (ai x75) (He (i:=kid (oi 1 1) u2) (j:=u3) (k:=0) (e:=3) (t:=.int) (xs:=x74) kr (Bk kr e74) e75 kr) (rsT 1 (rnW (Ab (Aa 16 (rsT 2 (zO (oi 0 1) sI u8.length (Ai e74) (rsl (.own (kid (oi 1 1) u2) .int 0 x74.length) (Fa (o:=oi 0 1) (p:=oi 1 1) (e1:=82) (u:=.int) (xss:=u8) (row:=x74) (j:=u2) kr kr e74) (rsT 2 (rnW (Ad (lpF h (fun (u4,u5)=>sT [(0,ai bA),(1,ai bB),(7,oS 0 1 u5.length),(10,an u0),(11,an u3),(16,an u2),(17,ai x75),(113,an ue.length),(114,an u2),(141,an x74.length),(142,an u4)] [(oi 0 1,.mat 82 (oi 1 1) .int u5),(oi 1 1,.pool 3 .int u5)]) (Ag []) ?_))))))))))));rintro n_ ⟨u4,u5⟩ c_ h hn77
       (try dsimp only at h);refine Ae (Ab (kQ h (fun q80 h=>?_) fun q80 h=>?_))
       ·have q80_:=of_decide_eq_true q80;refine skW (Ab (Ad (Ae (Am 31 (dz0 (oS 0 1 u5.length) (dz0 (an u2) ?_))))));obtain ⟨x83,e83,h⟩:=Ah h;refine dzO (oi 0 1) sI u5.length (Ai e83) (dsl (.own (kid (oi 1 1) u2) .int 0 x83.length) (Fa (o:=oi 0 1) (p:=oi 1 1) (e1:=82) (u:=.int) (xss:=u5) (row:=x83) (j:=u2) kr kr e83) (dsT 4 (dzO (oi 0 1) sI u5.length (Ai e83) (dsl (.own (kid (oi 1 1) u2) .int 0 x83.length) (Fa (o:=oi 0 1) (p:=oi 1 1) (e1:=82) (u:=.int) (xss:=u5) (row:=x83) (j:=u2) kr kr e83) (dz0 (an u4) ?_)))));obtain ⟨x84,e84,h⟩:=Ah h;refine ds0 (.elt (kid (oi 1 1) u2) u4 0) (zo (t:=.int) (o:=kid (oi 1 1) u2) (len:=x83.length) (k:=.i64) (m:=(u4:Int)) (Dx _) (Ai e84)) (dsl (ai x84) (He (i:=kid (oi 1 1) u2) (j:=u4) (k:=0) (e:=3) (t:=.int) (xs:=x83) kr (Aew.trans (Bk kr e83)) e84 kr) (dz0 (ai bA) (dz0 (ai x75) (dz0 (oS 0 1 u5.length) (dz0 (an u0) ?_)))));obtain ⟨x85,e85,h⟩:=Ah h;refine dzO (oi 0 1) sI u5.length (Ai e85) (dsl (.own (kid (oi 1 1) u0) .int 0 x85.length) (Fa (o:=oi 0 1) (p:=oi 1 1) (e1:=82) (u:=.int) (xss:=u5) (row:=x85) (j:=u0) kr kr e85) (dz0 (an u4) ?_));obtain ⟨x86,e86,h⟩:=Ah h;refine ds0 (.elt (kid (oi 1 1) u0) u4 0) (zo (t:=.int) (o:=kid (oi 1 1) u0) (len:=x85.length) (k:=.i64) (m:=(u4:Int)) (Dx _) (Ai e86)) (dsl (ai x86) (He (i:=kid (oi 1 1) u0) (j:=u4) (k:=0) (e:=3) (t:=.int) (xs:=x85) kr (Aew.trans (Bk kr e85)) e86 kr) (dcH h Vw fun y87 h=>dcH h Afx fun y88 h=>ds0 (.elt (kid (oi 1 1) u2) u4 0) (zo (t:=.int) (o:=kid (oi 1 1) u2) (len:=x83.length) (k:=.i64) (m:=(u4:Int)) (Dx _) (Ai e84)) (Ke (kid (oi 1 1) u2) (kid (oi 1 1) u2) (.arr 3 .int (x83.set u4 y88)) (Af9 (i:=kid (oi 1 1) u2) (j:=u4) (k:=0) (e:=3) (t:=.int) (xs:=x83) (cs:=[ai y88]) (x1:=y88) kr (Aew.trans (Bk kr e83)) e84 kr kr) (Apf (Ahj (o:=oi 0 1) (p:=oi 1 1) (e1:=82) (e:=3) (u:=.int) (xss:=u5) (k:=u2) (row:=x83) (row':=x83.set u4 y88) kr rfl kr e83 List.length_set) (B4 (Ar kr) (bn_ (tn_ (wr_ (Aa 33 ?_)))))))));obtain ⟨g89,h⟩:=Al h;refine zA g89 (rsT 1 (An (tn_ ?_)));obtain rfl:=zj h;exact jLw hn77 ((wL 7 ((Eq.trans (b:=u5.length) rfl List.length_set.symm):u5.length=(u5.set u2 (x83.set u4 y88)).length)).trans (Ag []))
       have q80_:=of_decide_eq_false q80;refine D7 (te_ (te_ (be_ (bn_ (tn_ ?_)))));have h:=jO h hn77
       (try dsimp only at h);exact jE []
      intro ui h
      (try dsimp only at h);refine Aa 4 ?_;obtain ⟨g90,h⟩:=Al h;exact zA g90 (rsT 1 (An (tn_ (jL []))))
     have q64_:=of_decide_eq_false q64;refine lxT ?_;have h:=jO h hn61
     (try dsimp only at h);exact jE []
    intro uh h
    (try dsimp only at h);refine Aa 5 (rsT 1 ?_);obtain ⟨g91,h⟩:=Al h;exact zA g91 (rsT 1 (An (bn_ (tn_ (jE [])))))
   rintro ⟨ul,ug⟩ h
   (try dsimp only at h);refine Aa 5 (rsT 1 ?_);obtain ⟨g92,h⟩:=Al h;exact zA g92 (rsT 1 (An (tn_ (jL []))))
  refine lxT ?_;have h:=jO h hn19
  (try dsimp only at h);exact jE []
 rintro ⟨ua,ub⟩ h
 (try dsimp only at h);refine Ab (Aa 6 (rsT 2 ?_));obtain ⟨g94,h⟩:=Al h;refine rs0 (oS 0 1 ua) (F9 (t:=sI) (i:=oi 0 1) (off:=0) (len:=ub.length) (l:=0) (h:=(ua:Int)) kr kr kr rfl g94 rfl oM) (rsT 1 (rnW (Ac ?_)));obtain rfl:=zj h;exact H3 [oS 0 1 ((ub.take ua).length)] ((Amt (e1:=82) (e:=3) (u:=.int) (xss:=ub) (n:=ub.length) (k:=ua) 9000 (oi 0 1) (oi 1 1) kr kr rfl kr oM kr kr kr).trans ((Ae8 6 (oS 0 1 ua) (oS 0 1 ((ub.take ua).length)) kr (congrArg (fun z_=>((oS 0 1 z_):AV)) ((An4 oM):ua=(ub.take ua).length))).trans (Ag (tl:=[(6,oS 0 1 (ub.take ua).length)]) (g:=2) [(oi 1 1,oi 9000 6)])))
def Abv (a0 u0:Int) (u1 u2:Int):Option (Ctl (Int×Int×Int) Int) :=
 cond (decide (0<u1))
 ((cond ((Int.tmod u1 2)==1)
   (og (a0≠0) <|
   some (Int.tmod (wI (u2*u0)) a0))
   (some u2)).bind fun u3 =>
 og (a0≠0) <|
 some (Ctl.next (Int.tmod (wI (u0*u0)) a0,wI (Int.tdiv u1 2),u3)))
 (some (Ctl.out u2))
def Xz (a0 a1 a2:Int):Option Int :=
 og (a0≠0) <|
(Aq (fun s_:Int×Int×Int=>Abv a0 s_.1 s_.2.1 s_.2.2) 4611686018427387904 (a1,a2,Int.tmod 1 a0)).bind fun u0 =>
some u0
theorem Afu (h:Xz bA bB bC=some bD):cK 199 [ai bA,ai bB,ai bC] (A4 bD):=by
 refine cO Tryz.func199 (Ae (Ab (Aa 5 (rsT 1 ?_))));obtain ⟨g3,h⟩:=Al h;refine rs0 (ai (Int.tmod 1 bA)) (R2 (k:=.i64) (a:=1) (b:=bA) kr kr g3) (rsT 1 (rnW (sqF h (fun u3=>sT [(7,ai u3)] []) ?_ fun u3 h=>Ae (Ac (jS h)))));intro _ h;refine Ad (lpF h (fun (u0,u1,u2)=>sT [(0,ai bA),(1,ai u0),(2,ai u1),(7,ai u2)] []) (Ag []) ?_);rintro n_ ⟨u0,u1,u2⟩ c_ h hn5;refine Ab (Ae (kQ h (fun _ h=>skW (Ab (Ad (sqF h (fun u4=>sT [(0,ai bA),(1,ai u0),(2,ai u1),(7,ai u4)] []) ?_ ?_)))) fun _ h=>lxT (have h:=jO h hn5;jE [])))
 ·intro _ h;refine Ab (Aa 7 (rsT 1 (rs0 (ai (Int.tmod u1 2)) (R2 (k:=.i64) (a:=u1) (b:=2) kr kr (by decide)) (rsT 1 (rnW (kQ h (fun _ h=>Aa 13 (rsT 4 ?_)) fun _ h=>Aw (tn_ (jE []))))))));obtain ⟨g13,h⟩:=Al h;exact rs0 (ai (Int.tmod (wI (u2*u0)) bA)) (R2 (k:=.i64) (a:=wI (u2*u0)) (b:=bA) kr kr g13) (rsT 1 (An (tn_ (jE []))))
 intro u4 h;refine Aa 8 (rsT 4 ?_);obtain ⟨g14,h⟩:=Al h;exact rs0 (ai (Int.tmod (wI (u0*u0)) bA)) (R2 (k:=.i64) (a:=wI (u0*u0)) (b:=bA) kr kr g14) (rsT 1 (An (bn_ (tn_ (wr_ (Aa 11 (rsT 1 (rs0 (ai (wI (Int.tdiv u1 2))) (A0c (k:=.i64) (a:=u1) (b:=2) kr kr (by decide)) (rsT 1 (An (tn_ (jL []))))))))))))
def Aea (a0:Bool):Option Int :=
 cond a0
 (some 1)
 (some 0)
theorem Aj9 (h:Aea cA=some bA):cK 200 [.bool cA] (A4 bA):=by
 exact cO Tryz.func200 (Ae (Ab (Ae (kQ h (fun _ h=>Ae (Ac (tr_ (jS h)))) fun _ h=>skW (Ae (Ac (jS h)))))))
def Mi (a0 a1:Int):Option Int :=
 (Aea (a0==2)).bind fun y3 =>
(Xz a0 a1 (wI (wI (a0 - 2)+y3))).bind fun y4 =>
some y4
theorem Abj (h:Mi bA bB=some bC):cK 196 [ai bA,ai bB] (A4 bC):=by
 exact cO Tryz.func196 (Ae (Ab (Aa 12 (rsT 6 (rcH h Aj9 fun y3 h=>rsT 1 (rcH h Afu fun y4 h=>rsT 1 (rnW (Ac (jS h)))))))))
def C7 (a3:List Int) (a0 a2:Int) (u0:Nat) (u1:List Int):Option (Ctl (Nat×List Int) (List Int)) :=
 cond (decide ((u0:Int)<(a3.length:Int)))
 ((a3[u0]?).bind fun x9 =>
 (u1[u0]?).bind fun x10 =>
 (S5 a0 (wI (x10+wI (a2*x9)))).bind fun y11 =>
 og (u0+1<4611686018427387904) <|
 some (Ctl.next (u0+1,u1.set u0 y11)))
 (some (Ctl.out u1))
def Cc (a0:Int) (a1:List Int) (a2:Int) (a3:List Int):Option (List Int) :=
 Aq (fun s_:Nat×List Int=>C7 a3 a0 a2 s_.1 s_.2) 4611686018427387904 (0,a1)
theorem Jl (h:Cc bA aA bB aB=some aC) {n_a1:Nat} (hn_a1:n_a1=aA.length):Fw Tryz.prog Tab 126 [ai bA,oI 0 0 n_a1,ai bB,tI aB] [(oi 0 0,.arr 3 .int aA)] (.tup []) [(oi 0 0,.arr 3 .int aC)]:=by
 refine Cv kr Tryz.func126 (Cs kr) (n:=31) kr (by simp) rfl kr ⟨trivial,trivial⟩ ⟨trivial,trivial⟩ (Ae (Ad (lpF h (fun (u1,u0)=>sT [(0,ai bA),(1,oI 0 0 u0.length),(2,ai bB),(10,tI aB),(11,an aB.length),(12,an u1)] [(oi 0 0,.arr 3 .int u0)]) ((wL 1 (hn_a1:n_a1=aA.length)).trans (Ag [])) ?_)));rintro n_ ⟨u1,u0⟩ c_ h hn3;refine Ae (Ab (kQ h (fun _ h=>skW (Ab (Ad (Ab (Aa 8 (rsT 1 (riH .int h fun x9 _ h=>rsT 3 (rnW (Aa 22 (rsT 5 ?_)))))))))) fun _ h=>D7 (te_ (te_ (be_ (have h:=jO h hn3;(by obtain rfl:=osj h;exact H3 [] (Ag (tl:=[]) (g:=2) []))))))));obtain ⟨x10,e10,h⟩:=Ah h;refine zO (oi 0 0) .int u0.length (Ai e10) (zE (oi 0 0) e10 (rsT 4 (rcH h Ak4 fun y11 h=>zO (oi 0 0) .int u0.length (Ai e10) (zS (oi 0 0) (y11) e10 (An (bn_ (tn_ (wr_ (Aa 24 (raH h fun h=>rsT 1 (An (tn_ ?_))))))))))));obtain rfl:=zj h;exact jLw hn3 ((wL 1 (((rfl:u0.length=u0.length).trans List.length_set.symm):u0.length=(u0.set u1 y11).length)).trans (Ag []))
def Ha (a0:LL) (u0:Nat) (u1:LL):Option (Ctl (Nat×LL) (LL)) :=
 cond (decide ((u0:Int)<(a0.length:Int)))
 ((a0[u0]?).bind fun x13 =>
 (Mg x13).bind fun y14 =>
 og (u1.length+1<=1073741824/\(u1.length+1)*24<=140737488355328) <|
 og (u0+1<4611686018427387904) <|
 some (Ctl.next (u0+1,u1++[y14])))
 (some (Ctl.out u1))
def Gj (a0:LL):Option (LL) :=
 og (0<=(0:Int)/\(0:Int)<=(a0.length:Int)/\(a0.length:Int)<=1073741824/\(24:Int)*(a0.length:Int)<=140737488355328) <|
(Aq (fun s_:Nat×LL=>Ha a0 s_.1 s_.2) 4611686018427387904 (0,List.replicate 0 ([]:List Int))).bind fun u0 =>
some u0
theorem P6 (h:Gj dA=some dB):Fw Tryz.prog Tab 149 [tS dA] [] (oS 0 1 dB.length) [(oi 0 1,.mat 82 (oi 1 1) .int dB),(oi 1 1,.pool 3 .int dB)]:=by
 refine Cv kr Tryz.func149 (Cs kr) (n:=22) kr (by simp) rfl kr trivial ⟨⟨3,.tail _ (.head _)⟩,⟨trivial,trivial⟩⟩ (Ae (Ab (Aa 6 (rsT 2 ?_))));obtain ⟨g4,h⟩:=Al h;refine Ai2 (oS 128 4 0) (oi 128 4) 82 3 .int (List.replicate 0 ([]:List Int)) trivial (Abz (j:=0) (k:=.i64) (k':=.i64) (m:=0) (c:=(dA.length:Int)) 3 kr kr g4 kr rfl) kr (by rw [List.length_replicate]) kr (rsT 1 (rnW (sqF h (fun u1=>sT [(3,oS 0 1 u1.length)] [(oi 0 1,.mat 82 (oi 1 1) .int u1),(oi 1 1,.pool 3 .int u1)]) ?_ fun u1 h=>Ae (Ac (by obtain rfl:=osj h;exact H3 [oS 0 1 u1.length] (Ag (tl:=[(2,oS 0 1 u1.length)]) (g:=2) []))))));intro _ h;refine Ae (Ad (lpF h (fun (u2,u0)=>sT [(3,oS 0 1 u0.length),(9,tS dA),(10,an dA.length),(11,an u2)] [(oi 0 1,.mat 82 (oi 1 1) .int u0),(oi 1 1,.pool 3 .int u0)]) ((wL 3 (List.length_replicate.symm:0=(List.replicate 0 ([]:List Int)).length)).trans (Ag [(oi 0 1,oi 128 4),(oi 1 1,oi 128 4)])) ?_));rintro n_ ⟨u2,u0⟩ c_ h hn7;refine Ae (Ab (kQ h (fun _ h=>skW (Ab (Ad (Ab (Aa 6 (riH sI h fun x13 _ h=>rsT 2 (rnW (Aa 12 (rsT 2 (rcH h Vy fun y14 h=>Ia (oS 18 9 1) (oi 18 9) (.vec 82 1 1 ([oI 272 8 y14.length])) trivial (Cy kr) ?_)))))))))) fun _ h=>lxT (have h:=jO h hn7;jE [])));obtain ⟨g15,h⟩:=Al h;refine zV (oi 0 1) (oi 18 9) (oi 1 1) u0 [oI 272 8 y14.length] g15 (rsT 1 (An (bn_ (tn_ ⟨_,Em (e1:=82) (e:=3) (u:=.int) (n:=u0.length+1) (len:=y14.length) (row:=y14) (ys:=y14) (xss:=u0) 9000 (oi 0 10) (oi 1 1) (oi 272 8) kr kr rfl kr kr (N4 rfl) (Oc rfl) kr kr kr,Aa 15 (raH h fun h=>rsT 1 (An (tn_ ?_)))⟩))));obtain rfl:=zj h;exact jLw hn7 ((wL 3 ((by simp):u0.length+1=(u0++[y14]).length)).trans (Ag [(oi 0 1,oi 0 10),(oi 1 1,oi 9000 12)]))
def Ex (x13:List Int) (u2 a1 y11:Int) (u0:Nat) (u1:LL):Option (Ctl (Nat×LL) (LL)) :=
 cond (decide ((u0:Int)<(x13.length:Int)))
 ((B2 u1 u2).bind fun x20 =>
 og (0<=(u0:Int)/\u0<x13.length) <|
 (x20[u0]?).bind fun x22 =>
 og (a1≠0) <|
 og (u0+1<4611686018427387904) <|
 some (Ctl.next (u0+1,u1.set u2.toNat (x20.set u0 (Int.tmod (wI (x22*y11)) a1)))))
 (some (Ctl.out u1))
def Bi (u2 u0:Int) (u1 u3 a1:Int) (a2:LL):Option (LL) :=
 cond (u2==0)
 ((B2 a2 u1).bind fun x6 =>
 (B2 a2 u0).bind fun x7 =>
 some ((a2.set u0.toNat x6).set u1.toNat x7))
 (cond (u2==1)
  ((Mi a1 u3).bind fun y11 =>
  (B2 a2 u0).bind fun x13 =>
  Aq (fun s_:Nat×LL=>Ex x13 u0 a1 y11 s_.1 s_.2) 4611686018427387904 (0,a2))
  (cond (u2==2)
   ((B2 a2 u0).bind fun x27 =>
   (B2 a2 u1).bind fun x28 =>
   og (u0.toNat≠u1.toNat) <|
   (Cc a1 x27 (wI (0 - u3)) x28).bind fun y30 =>
   og (y30.length=x27.length) <|
   some (a2.set u0.toNat y30))
   (some a2)))
theorem Je (h:Bi bA bB bC bD bE dA=some dB) {n_a2:Nat} (hn_a2:n_a2=dA.length):Fw Tryz.prog Tab 189 [.agg [ai bA,ai bB,ai bC,ai bD],ai bE,oS 0 0 n_a2] [(oi 0 0,.mat 82 (oi 1 0) .int dA),(oi 1 0,.pool 3 .int dA)] (.tup []) [(oi 0 0,.mat 82 (oi 0 1) .int dB),(oi 0 1,.pool 3 .int dB)]:=by
 refine Cv kr Tryz.func189 (Cs kr) (n:=78) kr (by simp) rfl kr ⟨⟨3,.tail _ (.head _)⟩,⟨trivial,trivial⟩⟩ ⟨⟨3,.tail _ (.head _)⟩,⟨trivial,trivial⟩⟩ (Ae (Ae (Ad (Ae (kQ h (fun _ h=>?_) fun _ h=>?_)))))
 ·refine Am 26 (dsT 9 ?_);obtain ⟨x6,f6,h⟩:=Ah h;obtain ⟨p6,b6,e6⟩:=As f6;refine ds0 (.elt (oi 0 0) bC.toNat 0) (zo (t:=sI) (o:=oi 0 0) (len:=n_a2) (k:=.i64) (m:=bC) p6 (Nat.lt_of_lt_of_le (Ai e6) (Nat.le_of_eq (Eq.symm hn_a2)))) (dsl (.own (kid (oi 1 0) bC.toNat) .int 0 x6.length) (Fa (o:=oi 0 0) (p:=oi 1 0) (e1:=82) (u:=.int) (xss:=dA) (row:=x6) (j:=bC.toNat) kr kr e6) (dz0 (oS 0 0 n_a2) (dz0 (.box (oi 3 1) 1) (dzl (ai bB) ?_))));obtain ⟨x7,f7,h⟩:=Ah h;obtain ⟨p7,b7,e7⟩:=As f7;refine ds0 (.elt (oi 0 0) bB.toNat 0) (zo (t:=sI) (o:=oi 0 0) (len:=n_a2) (k:=.i64) (m:=bB) p7 (Nat.lt_of_lt_of_le (Ai e7) (Nat.le_of_eq (Eq.symm hn_a2)))) (dsl (.own (kid (oi 1 0) bB.toNat) .int 0 x7.length) (Fa (o:=oi 0 0) (p:=oi 1 0) (e1:=82) (u:=.int) (xss:=dA) (row:=x7) (j:=bB.toNat) kr kr e7) (ds0 (.elt (oi 0 0) bB.toNat 0) (zo (t:=sI) (o:=oi 0 0) (len:=n_a2) (k:=.i64) (m:=bB) p7 (Nat.lt_of_lt_of_le (Ai e7) (Nat.le_of_eq (Eq.symm hn_a2)))) (Ke (oi 0 0) (oi 0 0) (.vec 82 1 n_a2 ((hdL (oi 1 0) .int dA).set bB.toNat (.own (kid (oi 1 0) bC.toNat) .int 0 x6.length))) (Adk (o:=oi 0 0) (e1:=82) (m:=n_a2) (cs:=hdL (oi 1 0) .int dA) (v:=.own (kid (oi 1 0) bC.toNat) .int 0 x6.length) (j:=bB.toNat) kr (Az3 kr hn_a2) kr rfl (by rw [Dg];exact Ai e7)) (ds0 (.elt (oi 0 0) bC.toNat 0) (zo (t:=sI) (o:=oi 0 0) (len:=n_a2) (k:=.i64) (m:=bC) p6 (Nat.lt_of_lt_of_le (Ai e6) (Nat.le_of_eq (Eq.symm hn_a2)))) (Ke (oi 0 0) (oi 0 0) (.vec 82 1 n_a2 (((hdL (oi 1 0) .int dA).set bB.toNat (.own (kid (oi 1 0) bC.toNat) .int 0 x6.length)).set bC.toNat (.own (kid (oi 1 0) bB.toNat) .int 0 x7.length))) (Adk (o:=oi 0 0) (e1:=82) (m:=n_a2) (cs:=(hdL (oi 1 0) .int dA).set bB.toNat (.own (kid (oi 1 0) bC.toNat) .int 0 x6.length)) (v:=.own (kid (oi 1 0) bB.toNat) .int 0 x7.length) (j:=bC.toNat) kr kr kr rfl (by rw [List.length_set,Dg];exact Ai e6)) (B4 (Ar kr) (bn_ ?_)))))));obtain rfl:=zj h;exact H3 [] ((Afc (e1:=82) (e:=3) (u:=.int) (xss:=dA) (i:=bB.toNat) (j:=bC.toNat) (n:=n_a2) (li:=x7.length) (lj:=x6.length) (ri:=x7) (rj:=x6) 9000 (oi 0 0) (oi 1 0) kr kr hn_a2 kr e7 e6 rfl rfl kr kr).trans (Ag (tl:=[]) (g:=2) [(oi 0 1,oi 9000 26)]))
 refine Ae (kQ h (fun _ h=>?_) fun _ h=>?_)
 ·refine Ab (Aa 13 (rsT 3 (rcH h Abj fun y11 h=>rsT 1 (rnW (Ab (Aa 20 (rsT 3 ?_)))))));obtain ⟨x13,f13,h⟩:=Ah h;obtain ⟨p13,b13,e13⟩:=As f13;refine rs0 (.elt (oi 0 0) bB.toNat 0) (zo (t:=sI) (o:=oi 0 0) (len:=n_a2) (k:=.i64) (m:=bB) p13 (Nat.lt_of_lt_of_le (Ai e13) (Nat.le_of_eq (Eq.symm hn_a2)))) (rsl (.own (kid (oi 1 0) bB.toNat) .int 0 x13.length) (Fa (o:=oi 0 0) (p:=oi 1 0) (e1:=82) (u:=.int) (xss:=dA) (row:=x13) (j:=bB.toNat) kr kr e13) (rsT 2 (rnW (Ad (lpF h (fun (u2,u3)=>sT [(1,ai bE),(2,oS 0 0 u3.length),(3,.box (oi 1 1) 0),(6,ai y11),(41,.own (kid (oi 0 1) bB.toNat) .int 0 x13.length),(42,an x13.length),(43,an u2)] [(oi 0 0,.mat 82 (oi 0 1) .int u3),(oi 0 1,.pool 3 .int u3),(oi 1 1,.cells 200 [ai bA,ai bB,ai bC,ai bD])]) ((wL 2 (hn_a2:n_a2=dA.length)).trans (Ag [(oi 0 1,oi 1 0),(oi 1 1,oi 3 1)])) ?_)))));rintro n_ ⟨u2,u3⟩ c_ h hn14;refine Ae (Ab (kQ h (fun _ h=>skW (Ab (Ad (Ab (Aa 8 (rsT 1 ?_)))))) fun _ h=>D7 (te_ (te_ (be_ (bn_ (have h:=jO h hn14;(by obtain rfl:=osj h;exact H3 [] (Ag (tl:=[]) (g:=2) [])))))))));obtain ⟨x20,f20,h⟩:=Ah h;obtain ⟨p20,b20,e20⟩:=As f20;obtain ⟨g21,h⟩:=Al h;refine rs0 (.elt (kid (oi 0 1) bB.toNat) u2 0) (Ax3 (t:=.int) (o:=kid (oi 0 1) bB.toNat) (off:=0) (len:=x13.length) (k:=.i64) (m:=(u2:Int)) kr kr rfl g21.1 (Nat.zero_add _) g21.2) ?_;obtain ⟨x22,e22,h⟩:=Ah h;refine rsl (ai x22) (He (i:=kid (oi 0 1) bB.toNat) (j:=u2) (k:=0) (e:=3) (t:=.int) (xs:=x20) kr (Bk kr e20) e22 kr) (rsT 2 (rnW (Am 21 (dz0 (oS 0 0 u3.length) (dz0 (.box (oi 1 1) 1) (dzl (ai bB) (ds0 (.elt (oi 0 0) bB.toNat 0) (zo (t:=sI) (o:=oi 0 0) (len:=u3.length) (k:=.i64) (m:=bB) p20 (Ai e20)) (dsl (.own (kid (oi 0 1) bB.toNat) .int 0 x20.length) (Fa (o:=oi 0 0) (p:=oi 0 1) (e1:=82) (u:=.int) (xss:=u3) (row:=x20) (j:=bB.toNat) kr kr e20) (dsT 5 ?_)))))))));obtain ⟨g23,h⟩:=Al h;refine ds0 (ai (Int.tmod (wI (x22*y11)) bE)) (R2 (k:=.i64) (a:=wI (x22*y11)) (b:=bE) kr kr g23) (ds0 (.elt (kid (oi 0 1) bB.toNat) u2 0) (zo (t:=.int) (o:=kid (oi 0 1) bB.toNat) (len:=x20.length) (k:=.i64) (m:=(u2:Int)) (Dx _) (Ai e22)) (Ke (kid (oi 0 1) bB.toNat) (kid (oi 0 1) bB.toNat) (.arr 3 .int (x20.set u2 (Int.tmod (wI (x22*y11)) bE))) (Af9 (i:=kid (oi 0 1) bB.toNat) (j:=u2) (k:=0) (e:=3) (t:=.int) (xs:=x20) (cs:=[ai (Int.tmod (wI (x22*y11)) bE)]) (x1:=Int.tmod (wI (x22*y11)) bE) kr (Aew.trans (Bk kr e20)) e22 kr kr) (Apf (Ahj (o:=oi 0 0) (p:=oi 0 1) (e1:=82) (e:=3) (u:=.int) (xss:=u3) (k:=bB.toNat) (row:=x20) (row':=x20.set u2 (Int.tmod (wI (x22*y11)) bE)) kr rfl kr e20 List.length_set) (B4 (Ar kr) (bn_ (tn_ (wr_ (Aa 23 (raH h fun h=>rsT 1 (An (tn_ ?_)))))))))));obtain rfl:=zj h;exact jLw hn14 ((wL 2 ((Eq.trans (b:=u3.length) rfl List.length_set.symm):u3.length=(u3.set bB.toNat (x20.set u2 (Int.tmod (wI (x22*y11)) bE))).length)).trans (Ag []))
 refine Ae (kQ h (fun _ h=>Am 25 (dz0 (ai bE) (dz0 (oS 0 0 n_a2) (dz0 (.box (oi 3 1) 1) (dzl (ai bB) ?_))))) fun _ h=>Aw (bn_ (by obtain rfl:=osj h;exact H3 [] (Ag (tl:=[]) (g:=2) [(oi 0 1,oi 1 0)]))));obtain ⟨x27,f27,h⟩:=Ah h;obtain ⟨p27,b27,e27⟩:=As f27;refine ds0 (.elt (oi 0 0) bB.toNat 0) (zo (t:=sI) (o:=oi 0 0) (len:=n_a2) (k:=.i64) (m:=bB) p27 (Nat.lt_of_lt_of_le (Ai e27) (Nat.le_of_eq (Eq.symm hn_a2)))) (dsl (.own (kid (oi 1 0) bB.toNat) .int 0 x27.length) (Fa (o:=oi 0 0) (p:=oi 1 0) (e1:=82) (u:=.int) (xss:=dA) (row:=x27) (j:=bB.toNat) kr kr e27) (dsT 6 ?_));obtain ⟨x28,f28,h⟩:=Ah h;obtain ⟨p28,b28,e28⟩:=As f28;refine ds0 (.elt (oi 0 0) bC.toNat 0) (zo (t:=sI) (o:=oi 0 0) (len:=n_a2) (k:=.i64) (m:=bC) p28 (Nat.lt_of_lt_of_le (Ai e28) (Nat.le_of_eq (Eq.symm hn_a2)))) (dsl (.own (kid (oi 1 0) bC.toNat) .int 0 x28.length) (Fa (o:=oi 0 0) (p:=oi 1 0) (e1:=82) (u:=.int) (xss:=dA) (row:=x28) (j:=bC.toNat) kr kr e28) ?_);obtain ⟨g29,h⟩:=Al h;obtain ⟨y30,h30,h⟩:=Ah h;refine Ahf (.tup []) [(kid (oi 1 0) bB.toNat,some (.arr 3 .int y30)),(kid (oi 1 0) bB.toNat,none)] [(oi 0 0,kid (oi 1 0) bB.toNat)] [ai bE,.own (kid (oi 1 0) bB.toNat) .int 0 x27.length,ai (wI (0 - bD)),.own (kid (oi 1 0) bC.toNat) .int 0 x28.length] (caps:=[]) trivial (Jl h30 rfl) kr ⟨Ap8 kr e27,trivial⟩ (.cons (.ren kr) (.cons (.ren kr) (.cons (.ren kr) (.cons (.gnd kr (D6 (e:=3) (u:=.int) (xs:=x28) ((Awb (L:=[kid (oi 1 0) bB.toNat]) kr ⟨Ayf g29,trivial⟩).trans ((Gm (Qz (t:=.int) (off:=0) (len:=x28.length) 3 rfl kr)).trans (Bk kr e28))) rfl)) .nil)))) (A5 kr kr ⟨.arg (by simp [AV.nmsL,AV.nms,Bh]),trivial⟩) (Ayu (Qz (t:=.int) (off:=0) (len:=x27.length) 1 rfl kr) Ayh) ?_;obtain ⟨g31,h⟩:=Al h;refine Apf (Ahj (o:=oi 0 0) (p:=oi 1 0) (e1:=82) (e:=3) (u:=.int) (xss:=dA) (k:=bB.toNat) (row:=x27) (row':=y30) kr rfl kr e27 g31) (B4 (Ar kr) (bn_ ?_));obtain rfl:=zj h;exact H3 [] (Ag (tl:=[]) (g:=2) [(oi 0 1,oi 1 0)])
def Px:AC :=
 (.seq (rg [xo 4 (.i (.box 200 (tm 0)))])
 (.seq (.seq (rg [xo 5 (.i (.ld false 4 (tm 4))),xf 6 1 4,xl 7 6,xf 8 1 4,xl 9 8,xo 10 (.build [.int .i64 0,.int .i64 0,.int .i64 0,.int .i64 0] [(0,1,ci 0),(1,1,tm 7),(2,1,tm 9)]),xo 11 (.i (.cmp false 7 (tm 5) (tm 10)))])
 (.cond (tm 11)
  .ret
  .skip))
 (.seq (rg [xo 12 (.i (.ld false 4 (tm 4))),xl 13 1,xl 14 2,xo 15 (qc 189 [tm 12,tm 13,tm 14] [[none,none,none,none],[],[some sI]])])
 (rg [xo 16 (.i (.ld false 4 (tm 4))),xl 17 1,xl 18 3,xo 19 (qc 189 [tm 16,tm 17,tm 18] [[none,none,none,none],[],[some sI]])]))))
def V4:List Res:=[]
theorem V8:Cm Tryz.prog Tryz.f188=some (Px,V4):=by kernel_rfl
def Bz (u1 u0:Int) (u2 u3 u6:Int) (u4 u5:LL):Option (LL×LL) :=
 cond ([u1,u0,u2,u3]==[0,u0,u0,0])
 (some (u4,u5))
 ((Bi u1 u0 u2 u3 u6 u4).bind fun y7 =>
 og (y7.length=u4.length) <|
 (Bi u1 u0 u2 u3 u6 u5).bind fun y9 =>
 og (y9.length=u5.length) <|
 some (y7,y9))
theorem Kg (h:Bz bA bB bC bD bE dA dB=some eA):Fw Tryz.prog Tab 188 [.agg [ai bA,ai bB,ai bC,ai bD],.box (oi 0 0) 0,.box (oi 1 0) 0,.box (oi 4 0) 0] [(oi 0 0,.cells 3 [ai bE]),(oi 1 0,.cells 25 [oS 2 0 dA.length]),(oi 2 0,.mat 82 (oi 3 0) .int dA),(oi 3 0,.pool 3 .int dA),(oi 4 0,.cells 25 [oS 5 0 dB.length]),(oi 5 0,.mat 82 (oi 6 0) .int dB),(oi 6 0,.pool 3 .int dB)] (.tup []) [(oi 0 0,.cells 3 [ai bE]),(oi 1 0,.cells 25 [oS 2 0 eA.1.length]),(oi 2 0,.mat 82 (oi 0 1) .int eA.1),(oi 0 1,.pool 3 .int eA.1),(oi 4 0,.cells 25 [oS 5 0 eA.2.length]),(oi 5 0,.mat 82 (oi 1 1) .int eA.2),(oi 1 1,.pool 3 .int eA.2)]:=by
 refine Cv kr Tryz.func188 V8 (n:=20) kr (by simp) rfl kr ⟨trivial,⟨trivial,⟨⟨3,.tail _ (.tail _ (.tail _ (.head _)))⟩,⟨trivial,⟨trivial,⟨⟨3,.tail _ (.tail _ (.tail _ (.tail _ (.tail _ (.tail _ (.head _))))))⟩,⟨trivial,trivial⟩⟩⟩⟩⟩⟩⟩ ⟨trivial,⟨trivial,⟨⟨3,.tail _ (.tail _ (.tail _ (.head _)))⟩,⟨trivial,⟨trivial,⟨⟨3,.tail _ (.tail _ (.tail _ (.tail _ (.tail _ (.tail _ (.head _))))))⟩,⟨trivial,trivial⟩⟩⟩⟩⟩⟩⟩ ?_;unfold Px;refine Ae (Ab (Ae (kQ h (fun _ h=>Ac (tr_ (by obtain rfl:=osj h;exact H3 [] (Ag (tl:=[]) (g:=2) [(oi 0 1,oi 3 0),(oi 1 1,oi 6 0)])))) fun _ h=>skW (Ab (Aa 13 (rsT 3 (rcM h [(oi 0 0,oi 2 0),(oi 1 0,oi 3 0)] [.agg [ai bA,ai bB,ai bC,ai bD],ai bE,oS 2 0 dA.length] (fun h=>Je h rfl) ⟨kr,⟨kr,trivial⟩⟩ (aR kr) (A5 kr kr ⟨Cj kr,⟨La (o:=oi 2 0) (p:=oi 3 0) (e1:=82) (m:=dA.length) (u:=.int) (xss:=dA) (Cj kr) kr,trivial⟩⟩) fun y7 h=>rnW (Aa 17 (rsT 3 ?_)))))))));obtain ⟨g8,h⟩:=Al h;obtain ⟨y9,h9,h⟩:=Ah h;refine Wq (.tup []) [(oi 5 0,some (.mat 82 (oi 304 16) .int y9)),(oi 304 16,some (.pool 3 .int y9)),(oi 5 0,none),(oi 6 0,some (.pool 3 .int []))] [(oi 0 0,oi 5 0),(oi 1 0,oi 6 0)] [.agg [ai bA,ai bB,ai bC,ai bD],ai bE,oS 5 0 dB.length] (caps:=[]) trivial (Je h9 rfl) kr ⟨kr,⟨kr,trivial⟩⟩ (.cons (.ren kr) (.cons (.ren kr) (.cons (.ren kr) .nil))) (A5 kr kr ⟨Cj kr,⟨La (o:=oi 5 0) (p:=oi 6 0) (e1:=82) (m:=dB.length) (u:=.int) (xss:=dB) (Cj kr) kr,trivial⟩⟩) (An ?_);obtain ⟨g10,h⟩:=Al h;obtain rfl:=zj h;exact H3 [] ((Tu (oi 1 0) (.cells 25 [oS 2 0 dA.length]) (.cells 25 [oS 2 0 y7.length]) kr (congrArg (fun z_=>(.cells 25 [oS 2 0 z_]:Ob)) (g8.symm:dA.length=y7.length))).trans ((Tu (oi 4 0) (.cells 25 [oS 5 0 dB.length]) (.cells 25 [oS 5 0 y9.length]) kr (congrArg (fun z_=>(.cells 25 [oS 5 0 z_]:Ob)) (g10.symm:dB.length=y9.length))).trans (Ag (tl:=[]) (g:=2) [(oi 0 1,oi 240 12),(oi 1 1,oi 304 16)])))
def E0 (l7_p0:LL) (u1 u0:Nat):Option (Ctl Nat Nat) :=
 (cond (decide ((u0:Int)<(l7_p0.length:Int)))
  ((l7_p0[u0]?).bind fun x19 =>
  (x19[u1]?).bind fun x20 =>
  some (x20==0))
  (some false)).bind fun u2 =>
cond u2
 (og (u0+1<4611686018427387904) <|
 some (Ctl.next (u0+1)))
 (some (Ctl.out u0))
def Gp (y31:LL×LL) (u1 u2:Nat) (a0:Int) (u0:Nat) (l34_p0 l34_p2:LL):Option (Ctl (Nat×LL×LL) (LL×LL)) :=
 cond (decide ((u0:Int)<(y31.1.length:Int)))
 (((cond ((u0:Int) !=(u1:Int))
       ((l34_p0[u0]?).bind fun x42 =>
       (x42[u2]?).bind fun x43 =>
       some (x43 !=0))
       (some false)).bind fun u3 =>
  cond u3
   ((l34_p0[u0]?).bind fun x45 =>
   (x45[u2]?).bind fun x46 =>
   (Bz 2 (u0:Int) (u1:Int) x46 a0 l34_p0 l34_p2).bind fun y47 =>
   some (y47.1,y47.2))
   (some (l34_p0,l34_p2))).bind fun (l38_p0,l38_p2) =>
 og (u0+1<4611686018427387904) <|
 some (Ctl.next (u0+1,l38_p0,l38_p2)))
 (some (Ctl.out (l34_p0,l34_p2)))
def Ds (a2 a0:Int) (u0 u1:Nat) (l7_p0 l7_p2:LL):Option (Ctl (Nat×Nat×LL×LL) (Nat×LL×LL)) :=
 (cond (decide ((u1:Int)<a2))
  (some (decide ((u0:Int)<(l7_p0.length:Int))))
  (some false)).bind fun u3 =>
cond u3
 (((Aq (fun s_:Nat=>E0 l7_p0 u1 s_) 4611686018427387904 u0).bind fun u2 =>
  cond ((u2:Int)==(l7_p0.length:Int))
   (some (u0,l7_p0,l7_p2))
   ((Bz 0 (u0:Int) (u2:Int) 0 a0 l7_p0 l7_p2).bind fun y27 =>
   (y27.1[u0]?).bind fun x29 =>
   (x29[u1]?).bind fun x30 =>
   (Bz 1 (u0:Int) 0 x30 a0 y27.1 y27.2).bind fun y31 =>
   (Aq (fun s_:Nat×LL×LL=>Gp y31 u0 u1 a0 s_.1 s_.2.1 s_.2.2) 4611686018427387904 (0,y31.1,y31.2)).bind fun (l32_p0,l32_p2) =>
   og (u0+1<4611686018427387904) <|
   some (u0+1,l32_p0,l32_p2))).bind fun (u4,l12_p0,l12_p2) =>
 og (u1+1<4611686018427387904) <|
 some (Ctl.next (u4,u1+1,l12_p0,l12_p2)))
 (some (Ctl.out (u0,l7_p0,l7_p2)))
def Gz (a0:Int) (a1:LL) (a2:Int) (a3:LL):Option (LL×LL×Nat) :=
 (Aq (fun s_:Nat×Nat×LL×LL=>Ds a2 a0 s_.1 s_.2.1 s_.2.2.1 s_.2.2.2) 4611686018427387904 (0,0,a1,a3)).bind fun (u0,l5_p0,l5_p2) =>
some (l5_p0,l5_p2,u0)
theorem Qi (h:Gz bA dA bB dB=some fA) {n_a1:Nat} (hn_a1:n_a1=dA.length) {n_a3:Nat} (hn_a3:n_a3=dB.length):Fw Tryz.prog Tab 168 [ai bA,oS 0 0 n_a1,ai bB,oS 2 0 n_a3] [(oi 0 0,.mat 82 (oi 1 0) .int dA),(oi 1 0,.pool 3 .int dA),(oi 2 0,.mat 82 (oi 3 0) .int dB),(oi 3 0,.pool 3 .int dB)] (an fA.2.2) [(oi 0 0,.mat 82 (oi 0 1) .int fA.1),(oi 0 1,.pool 3 .int fA.1),(oi 2 0,.mat 82 (oi 1 1) .int fA.2.1),(oi 1 1,.pool 3 .int fA.2.1)]:=by
 refine Cv kr Tryz.func168 (Cs kr) (n:=97) kr (by simp) rfl kr ⟨⟨3,.tail _ (.head _)⟩,⟨trivial,⟨⟨3,.tail _ (.tail _ (.tail _ (.head _)))⟩,⟨trivial,trivial⟩⟩⟩⟩ ⟨⟨3,.tail _ (.head _)⟩,⟨trivial,⟨⟨3,.tail _ (.tail _ (.tail _ (.head _)))⟩,⟨trivial,trivial⟩⟩⟩⟩ (Ae (Ae (Ae (sqF h (fun (u4,l5_p0,l5_p2)=>sT [(9,an u4)] [(oi 0 0,.mat 82 (oi 0 1) .int l5_p0),(oi 0 1,.pool 3 .int l5_p0),(oi 2 0,.mat 82 (oi 1 1) .int l5_p2),(oi 1 1,.pool 3 .int l5_p2)]) ?_ ?_))))
 ·intro _ h;refine Ae (Ad (lpF h (fun (u1,u0,l7_p0,l7_p2)=>sT [(2,ai bB),(5,.box (oi 0 1) 0),(9,an u1),(10,.fn 188 [.box (oi 1 1) 0,.box (oi 0 1) 0,.box (oi 2 1) 0]),(11,an u0)] [(oi 0 1,.cells 25 [oS 0 0 l7_p0.length]),(oi 1 1,.cells 3 [ai bA]),(oi 2 1,.cells 25 [oS 2 0 l7_p2.length]),(oi 0 0,.mat 82 (oi 3 1) .int l7_p0),(oi 3 1,.pool 3 .int l7_p0),(oi 2 0,.mat 82 (oi 4 1) .int l7_p2),(oi 4 1,.pool 3 .int l7_p2)]) ((Tu (oi 5 2) (.cells 25 [oS 0 0 n_a1]) (.cells 25 [oS 0 0 dA.length]) kr (congrArg (fun z_=>(.cells 25 [oS 0 0 z_]:Ob)) (hn_a1:n_a1=dA.length))).trans ((Tu (oi 7 3) (.cells 25 [oS 2 0 n_a3]) (.cells 25 [oS 2 0 dB.length]) kr (congrArg (fun z_=>(.cells 25 [oS 2 0 z_]:Ob)) (hn_a3:n_a3=dB.length))).trans (Ag [(oi 0 1,oi 5 2),(oi 3 1,oi 1 0),(oi 1 1,oi 4 1),(oi 2 1,oi 7 3),(oi 4 1,oi 3 0)]))) ?_));rintro n_ ⟨u1,u0,l7_p0,l7_p2⟩ c_ h hn7;refine Ab (sqF h (fun u6=>sT [(2,ai bB),(5,.box (oi 0 1) 0),(9,an u1),(10,.fn 188 [.box (oi 1 1) 0,.box (oi 0 1) 0,.box (oi 2 1) 0]),(11,an u0),(23,.bool u6)] [(oi 0 1,.cells 25 [oS 0 0 l7_p0.length]),(oi 1 1,.cells 3 [ai bA]),(oi 2 1,.cells 25 [oS 2 0 l7_p2.length]),(oi 0 0,.mat 82 (oi 3 1) .int l7_p0),(oi 3 1,.pool 3 .int l7_p0),(oi 2 0,.mat 82 (oi 4 1) .int l7_p2),(oi 4 1,.pool 3 .int l7_p2)]) (fun _ h=>Aa 11 (rsT 4 (kR h 18 (fun _ h=>rsT 5 (An (tn_ (jE [])))) fun _ h=>rsT 5 (An (tn_ (jE [])))))) ?_);intro u6 h;refine kQ h (fun _ h=>skW (sqF h (fun (u7,l12_p0,l12_p2)=>sT [(2,ai bB),(5,.box (oi 0 1) 0),(9,an u7),(10,.fn 188 [.box (oi 1 1) 0,.box (oi 0 1) 0,.box (oi 2 1) 0]),(11,an u0)] [(oi 0 1,.cells 25 [oS 0 0 l12_p0.length]),(oi 1 1,.cells 3 [ai bA]),(oi 2 1,.cells 25 [oS 2 0 l12_p2.length]),(oi 0 0,.mat 82 (oi 3 1) .int l12_p0),(oi 3 1,.pool 3 .int l12_p0),(oi 2 0,.mat 82 (oi 4 1) .int l12_p2),(oi 4 1,.pool 3 .int l12_p2)]) ?_ ?_)) fun _ h=>lxT (have h:=jO h hn7;jE [(oi 0 1,oi 3 1),(oi 1 1,oi 4 1)])
  ·intro _ h;refine Ad (Ae (sqF h (fun u5=>sT [(2,ai bB),(5,.box (oi 0 1) 0),(9,an u1),(10,.fn 188 [.box (oi 1 1) 0,.box (oi 0 1) 0,.box (oi 2 1) 0]),(11,an u0),(12,an u5)] [(oi 0 1,.cells 25 [oS 0 0 l7_p0.length]),(oi 1 1,.cells 3 [ai bA]),(oi 2 1,.cells 25 [oS 2 0 l7_p2.length]),(oi 0 0,.mat 82 (oi 3 1) .int l7_p0),(oi 3 1,.pool 3 .int l7_p0),(oi 2 0,.mat 82 (oi 4 1) .int l7_p2),(oi 4 1,.pool 3 .int l7_p2)]) ?_ ?_))
   ·intro _ h;refine Ad (lpF h (fun u3=>sT [(2,ai bB),(5,.box (oi 0 1) 0),(9,an u1),(10,.fn 188 [.box (oi 1 1) 0,.box (oi 0 1) 0,.box (oi 2 1) 0]),(11,an u0),(12,an u3)] [(oi 0 1,.cells 25 [oS 0 0 l7_p0.length]),(oi 1 1,.cells 3 [ai bA]),(oi 2 1,.cells 25 [oS 2 0 l7_p2.length]),(oi 0 0,.mat 82 (oi 3 1) .int l7_p0),(oi 3 1,.pool 3 .int l7_p0),(oi 2 0,.mat 82 (oi 4 1) .int l7_p2),(oi 4 1,.pool 3 .int l7_p2)]) (Ag []) ?_);intro n_ u3 c_ h hn15;refine Ab (sqF h (fun u8=>sT [(2,ai bB),(5,.box (oi 0 1) 0),(9,an u1),(10,.fn 188 [.box (oi 1 1) 0,.box (oi 0 1) 0,.box (oi 2 1) 0]),(11,an u0),(12,an u3),(40,.bool u8)] [(oi 0 1,.cells 25 [oS 0 0 l7_p0.length]),(oi 1 1,.cells 3 [ai bA]),(oi 2 1,.cells 25 [oS 2 0 l7_p2.length]),(oi 0 0,.mat 82 (oi 3 1) .int l7_p0),(oi 3 1,.pool 3 .int l7_p0),(oi 2 0,.mat 82 (oi 4 1) .int l7_p2),(oi 4 1,.pool 3 .int l7_p2)]) ?_ fun u8 h=>kQ h (fun _ h=>skW (Ad (Aa 5 (rsT 1 (raH h fun h=>rsT 1 (An (bn_ (tn_ (jL []))))))))) fun _ h=>lxT (have h:=jO h hn15;jE []));intro _ h;refine Aa 16 (rsT 5 ?_);rcases A0 h with ⟨q18,h⟩|⟨q18,h⟩
    ·refine rq 31 q18 (rsT 2 ?_);obtain ⟨x19,e19,h⟩:=Ah h;refine zO (oi 0 0) sI l7_p0.length (Ai e19) (rsl (.own (kid (oi 3 1) u3) .int 0 x19.length) (Fa (o:=oi 0 0) (p:=oi 3 1) (e1:=82) (u:=.int) (xss:=l7_p0) (row:=x19) (j:=u3) kr kr e19) (rsT 1 ?_));obtain ⟨x20,e20,h⟩:=Ah h;exact rs0 (.elt (kid (oi 3 1) u3) u0 0) (zo (t:=.int) (o:=kid (oi 3 1) u3) (len:=x19.length) (k:=.i64) (m:=(u0:Int)) (Dx _) (Ai e20)) (rsl (ai x20) (He (i:=kid (oi 3 1) u3) (j:=u0) (k:=0) (e:=3) (t:=.int) (xs:=x19) kr (Bk kr e19) e20 kr) (rsT 2 (An (tn_ (jE [])))))
    exact rq 31 q18 (rsT 9 (An (tn_ (jE []))))
   intro u5 h;refine Ab (Ae (kQ h (fun _ h=>D7 (te_ (be_ (tn_ (jE []))))) fun _ h=>skW (Ab (Aa 11 (rsT 4 ?_)))));obtain ⟨y27,h27,h⟩:=Ah h;refine Wq (.tup []) [(oi 1 1,some (.cells 3 [ai bA])),(oi 0 1,some (.cells 25 [oS 0 0 y27.1.length])),(oi 0 0,some (.mat 82 (oi 816 10) .int y27.1)),(oi 816 10,some (.pool 3 .int y27.1)),(oi 2 1,some (.cells 25 [oS 2 0 y27.2.length])),(oi 2 0,some (.mat 82 (oi 817 10) .int y27.2)),(oi 817 10,some (.pool 3 .int y27.2)),(oi 1 1,none),(oi 0 1,none),(oi 0 0,none),(oi 3 1,some (.pool 3 .int [])),(oi 2 1,none),(oi 2 0,none),(oi 4 1,some (.pool 3 .int []))] [(oi 0 0,oi 1 1),(oi 1 0,oi 0 1),(oi 2 0,oi 0 0),(oi 3 0,oi 3 1),(oi 4 0,oi 2 1),(oi 5 0,oi 2 0),(oi 6 0,oi 4 1)] [.agg [ai 0,an u1,an u5,ai 0],.box (oi 1 1) 0,.box (oi 0 1) 0,.box (oi 2 1) 0] (caps:=[.box (oi 1 1) 0,.box (oi 0 1) 0,.box (oi 2 1) 0]) trivial (Kg h27) kr ⟨kr,⟨kr,⟨kr,⟨kr,⟨kr,⟨kr,⟨kr,trivial⟩⟩⟩⟩⟩⟩⟩ (.cons (.ren kr) (.cons (.ren kr) (.cons (.ren kr) (.cons (.ren kr) .nil)))) (A5 kr kr ⟨Cj kr,⟨Cj kr,⟨H2 (k:=oi 0 1) (ty:=25) (cs:=[oS 0 0 l7_p0.length]) (Cj kr) kr kr,⟨La (o:=oi 0 0) (p:=oi 3 1) (e1:=82) (m:=l7_p0.length) (u:=.int) (xss:=l7_p0) (H2 (k:=oi 0 1) (ty:=25) (cs:=[oS 0 0 l7_p0.length]) (Cj kr) kr kr) kr,⟨Cj kr,⟨H2 (k:=oi 2 1) (ty:=25) (cs:=[oS 2 0 l7_p2.length]) (Cj kr) kr kr,⟨La (o:=oi 2 0) (p:=oi 4 1) (e1:=82) (m:=l7_p2.length) (u:=.int) (xss:=l7_p2) (H2 (k:=oi 2 1) (ty:=25) (cs:=[oS 2 0 l7_p2.length]) (Cj kr) kr kr) kr,trivial⟩⟩⟩⟩⟩⟩⟩) (rnW (Ab (Aa 22 (rsT 4 ?_))));obtain ⟨x29,e29,h⟩:=Ah h;refine zO (oi 0 0) sI y27.1.length (Ai e29) (rsl (.own (kid (oi 816 10) u1) .int 0 x29.length) (Fa (o:=oi 0 0) (p:=oi 816 10) (e1:=82) (u:=.int) (xss:=y27.1) (row:=x29) (j:=u1) kr kr e29) (rsT 1 ?_));obtain ⟨x30,e30,h⟩:=Ah h;refine rs0 (.elt (kid (oi 816 10) u1) u0 0) (zo (t:=.int) (o:=kid (oi 816 10) u1) (len:=x29.length) (k:=.i64) (m:=(u0:Int)) (Dx _) (Ai e30)) (rsl (ai x30) (He (i:=kid (oi 816 10) u1) (j:=u0) (k:=0) (e:=3) (t:=.int) (xs:=x29) kr (Bk kr e29) e30 kr) (rsT 1 ?_));obtain ⟨y31,h31,h⟩:=Ah h;refine Wq (.tup []) [(oi 1 1,some (.cells 3 [ai bA])),(oi 0 1,some (.cells 25 [oS 0 0 y31.1.length])),(oi 0 0,some (.mat 82 (oi 992 21) .int y31.1)),(oi 992 21,some (.pool 3 .int y31.1)),(oi 2 1,some (.cells 25 [oS 2 0 y31.2.length])),(oi 2 0,some (.mat 82 (oi 993 21) .int y31.2)),(oi 993 21,some (.pool 3 .int y31.2)),(oi 1 1,none),(oi 0 1,none),(oi 0 0,none),(oi 816 10,some (.pool 3 .int [])),(oi 2 1,none),(oi 2 0,none),(oi 817 10,some (.pool 3 .int []))] [(oi 0 0,oi 1 1),(oi 1 0,oi 0 1),(oi 2 0,oi 0 0),(oi 3 0,oi 816 10),(oi 4 0,oi 2 1),(oi 5 0,oi 2 0),(oi 6 0,oi 817 10)] [.agg [ai 1,an u1,ai 0,ai x30],.box (oi 1 1) 0,.box (oi 0 1) 0,.box (oi 2 1) 0] (caps:=[.box (oi 1 1) 0,.box (oi 0 1) 0,.box (oi 2 1) 0]) trivial (Kg h31) kr ⟨kr,⟨kr,⟨kr,⟨kr,⟨kr,⟨kr,⟨kr,trivial⟩⟩⟩⟩⟩⟩⟩ (.cons (.ren kr) (.cons (.ren kr) (.cons (.ren kr) (.cons (.ren kr) .nil)))) (A5 kr kr ⟨Cj kr,⟨Cj kr,⟨H2 (k:=oi 0 1) (ty:=25) (cs:=[oS 0 0 y27.1.length]) (Cj kr) kr kr,⟨La (o:=oi 0 0) (p:=oi 816 10) (e1:=82) (m:=y27.1.length) (u:=.int) (xss:=y27.1) (H2 (k:=oi 0 1) (ty:=25) (cs:=[oS 0 0 y27.1.length]) (Cj kr) kr kr) kr,⟨Cj kr,⟨H2 (k:=oi 2 1) (ty:=25) (cs:=[oS 2 0 y27.2.length]) (Cj kr) kr kr,⟨La (o:=oi 2 0) (p:=oi 817 10) (e1:=82) (m:=y27.2.length) (u:=.int) (xss:=y27.2) (H2 (k:=oi 2 1) (ty:=25) (cs:=[oS 2 0 y27.2.length]) (Cj kr) kr kr) kr,trivial⟩⟩⟩⟩⟩⟩⟩) (rnW (sqF h (fun (l32_p0,l32_p2)=>sT [(2,ai bB),(5,.box (oi 0 1) 0),(9,an u1),(10,.fn 188 [.box (oi 1 1) 0,.box (oi 0 1) 0,.box (oi 2 1) 0]),(11,an u0)] [(oi 0 1,.cells 25 [oS 0 0 l32_p0.length]),(oi 1 1,.cells 3 [ai bA]),(oi 2 1,.cells 25 [oS 2 0 l32_p2.length]),(oi 0 0,.mat 82 (oi 3 1) .int l32_p0),(oi 3 1,.pool 3 .int l32_p0),(oi 2 0,.mat 82 (oi 4 1) .int l32_p2),(oi 4 1,.pool 3 .int l32_p2)]) ?_ ?_))
   ·intro _ h;refine Ae (Ad (lpF h (fun (u2,l34_p0,l34_p2)=>sT [(2,ai bB),(5,.box (oi 0 1) 0),(9,an u1),(10,.fn 188 [.box (oi 1 1) 0,.box (oi 0 1) 0,.box (oi 2 1) 0]),(11,an u0),(64,an y31.1.length),(65,an u2)] [(oi 0 1,.cells 25 [oS 0 0 l34_p0.length]),(oi 1 1,.cells 3 [ai bA]),(oi 2 1,.cells 25 [oS 2 0 l34_p2.length]),(oi 0 0,.mat 82 (oi 3 1) .int l34_p0),(oi 3 1,.pool 3 .int l34_p0),(oi 2 0,.mat 82 (oi 4 1) .int l34_p2),(oi 4 1,.pool 3 .int l34_p2)]) (Ag [(oi 3 1,oi 992 21),(oi 4 1,oi 993 21)]) ?_));rintro n_ ⟨u2,l34_p0,l34_p2⟩ c_ h hn34;refine Ae (Ab (kQ h (fun _ h=>skW (sqF h (fun (l38_p0,l38_p2)=>sT [(2,ai bB),(5,.box (oi 0 1) 0),(9,an u1),(10,.fn 188 [.box (oi 1 1) 0,.box (oi 0 1) 0,.box (oi 2 1) 0]),(11,an u0),(64,an y31.1.length),(65,an u2)] [(oi 0 1,.cells 25 [oS 0 0 l38_p0.length]),(oi 1 1,.cells 3 [ai bA]),(oi 2 1,.cells 25 [oS 2 0 l38_p2.length]),(oi 0 0,.mat 82 (oi 3 1) .int l38_p0),(oi 3 1,.pool 3 .int l38_p0),(oi 2 0,.mat 82 (oi 4 1) .int l38_p2),(oi 4 1,.pool 3 .int l38_p2)]) ?_ ?_)) fun _ h=>lxT (have h:=jO h hn34;jE [])))
    ·intro _ h;refine Ad (Ae (sqF h (fun u9=>sT [(2,ai bB),(5,.box (oi 0 1) 0),(9,an u1),(10,.fn 188 [.box (oi 1 1) 0,.box (oi 0 1) 0,.box (oi 2 1) 0]),(11,an u0),(13,an u2),(64,an y31.1.length),(65,an u2),(80,.bool u9)] [(oi 0 1,.cells 25 [oS 0 0 l34_p0.length]),(oi 1 1,.cells 3 [ai bA]),(oi 2 1,.cells 25 [oS 2 0 l34_p2.length]),(oi 0 0,.mat 82 (oi 3 1) .int l34_p0),(oi 3 1,.pool 3 .int l34_p0),(oi 2 0,.mat 82 (oi 4 1) .int l34_p2),(oi 4 1,.pool 3 .int l34_p2)]) ?_ ?_))
     ·intro _ h;refine Aa 18 (rsT 4 ?_);rcases A0 h with ⟨q41,h⟩|⟨q41,h⟩
      ·refine rq 71 q41 (rsT 2 ?_);obtain ⟨x42,e42,h⟩:=Ah h;refine zO (oi 0 0) sI l34_p0.length (Ai e42) (rsl (.own (kid (oi 3 1) u2) .int 0 x42.length) (Fa (o:=oi 0 0) (p:=oi 3 1) (e1:=82) (u:=.int) (xss:=l34_p0) (row:=x42) (j:=u2) kr kr e42) (rsT 1 ?_));obtain ⟨x43,e43,h⟩:=Ah h;exact rs0 (.elt (kid (oi 3 1) u2) u0 0) (zo (t:=.int) (o:=kid (oi 3 1) u2) (len:=x42.length) (k:=.i64) (m:=(u0:Int)) (Dx _) (Ai e43)) (rsl (ai x43) (He (i:=kid (oi 3 1) u2) (j:=u0) (k:=0) (e:=3) (t:=.int) (xs:=x42) kr (Bk kr e42) e43 kr) (rsT 2 (An (tn_ (jE [])))))
      exact rq 71 q41 (rsT 9 (An (tn_ (jE []))))
     intro u9 h;refine kQ h (fun _ h=>Aa 14 (rsT 5 ?_)) fun _ h=>Aw (bn_ (tn_ (jE [])))
     obtain ⟨x45,e45,h⟩:=Ah h;refine zO (oi 0 0) sI l34_p0.length (Ai e45) (rsl (.own (kid (oi 3 1) u2) .int 0 x45.length) (Fa (o:=oi 0 0) (p:=oi 3 1) (e1:=82) (u:=.int) (xss:=l34_p0) (row:=x45) (j:=u2) kr kr e45) (rsT 1 ?_));obtain ⟨x46,e46,h⟩:=Ah h;refine rs0 (.elt (kid (oi 3 1) u2) u0 0) (zo (t:=.int) (o:=kid (oi 3 1) u2) (len:=x45.length) (k:=.i64) (m:=(u0:Int)) (Dx _) (Ai e46)) (rsl (ai x46) (He (i:=kid (oi 3 1) u2) (j:=u0) (k:=0) (e:=3) (t:=.int) (xs:=x45) kr (Bk kr e45) e46 kr) (rsT 1 ?_));obtain ⟨y47,h47,h⟩:=Ah h;exact Wq (.tup []) [(oi 1 1,some (.cells 3 [ai bA])),(oi 0 1,some (.cells 25 [oS 0 0 y47.1.length])),(oi 0 0,some (.mat 82 (oi 1472 13) .int y47.1)),(oi 1472 13,some (.pool 3 .int y47.1)),(oi 2 1,some (.cells 25 [oS 2 0 y47.2.length])),(oi 2 0,some (.mat 82 (oi 1473 13) .int y47.2)),(oi 1473 13,some (.pool 3 .int y47.2)),(oi 1 1,none),(oi 0 1,none),(oi 0 0,none),(oi 3 1,some (.pool 3 .int [])),(oi 2 1,none),(oi 2 0,none),(oi 4 1,some (.pool 3 .int []))] [(oi 0 0,oi 1 1),(oi 1 0,oi 0 1),(oi 2 0,oi 0 0),(oi 3 0,oi 3 1),(oi 4 0,oi 2 1),(oi 5 0,oi 2 0),(oi 6 0,oi 4 1)] [.agg [ai 2,an u2,an u1,ai x46],.box (oi 1 1) 0,.box (oi 0 1) 0,.box (oi 2 1) 0] (caps:=[.box (oi 1 1) 0,.box (oi 0 1) 0,.box (oi 2 1) 0]) trivial (Kg h47) kr ⟨kr,⟨kr,⟨kr,⟨kr,⟨kr,⟨kr,⟨kr,trivial⟩⟩⟩⟩⟩⟩⟩ (.cons (.ren kr) (.cons (.ren kr) (.cons (.ren kr) (.cons (.ren kr) .nil)))) (A5 kr kr ⟨Cj kr,⟨Cj kr,⟨H2 (k:=oi 0 1) (ty:=25) (cs:=[oS 0 0 l34_p0.length]) (Cj kr) kr kr,⟨La (o:=oi 0 0) (p:=oi 3 1) (e1:=82) (m:=l34_p0.length) (u:=.int) (xss:=l34_p0) (H2 (k:=oi 0 1) (ty:=25) (cs:=[oS 0 0 l34_p0.length]) (Cj kr) kr kr) kr,⟨Cj kr,⟨H2 (k:=oi 2 1) (ty:=25) (cs:=[oS 2 0 l34_p2.length]) (Cj kr) kr kr,⟨La (o:=oi 2 0) (p:=oi 4 1) (e1:=82) (m:=l34_p2.length) (u:=.int) (xss:=l34_p2) (H2 (k:=oi 2 1) (ty:=25) (cs:=[oS 2 0 l34_p2.length]) (Cj kr) kr kr) kr,trivial⟩⟩⟩⟩⟩⟩⟩) (An (bn_ (tn_ (jE [(oi 3 1,oi 1472 13),(oi 4 1,oi 1473 13)]))))
    rintro ⟨l38_p0,l38_p2⟩ h;exact Aa 4 (raH h fun h=>rsT 1 (An (tn_ (jL []))))
   rintro ⟨l32_p0,l32_p2⟩ h;exact Aa 5 (rsT 1 (raH h fun h=>rsT 1 (An (bn_ (tn_ (jE []))))))
  rintro ⟨u7,l12_p0,l12_p2⟩ h;exact Aa 5 (rsT 1 (raH h fun h=>rsT 1 (An (tn_ (jL [])))))
 rintro ⟨u4,l5_p0,l5_p2⟩ h;refine Ae (Ac ?_);obtain rfl:=zj h;exact H3 [an u4] (Ag (tl:=[(8,an u4)]) (g:=2) [])
end


section
open Go.RowKit Go.Deep
set_option maxRecDepth 4000
set_option maxHeartbeats 4800000
variable {dA dB:LL} {bA bB bC bD:Int} {cA:Bool} {aA aB:List Int}
def Ik (a0:LL) (u1:Int) (u0:Nat):Option (Ctl (Int×Nat) (Ctl Int Int)) :=
 cond (decide ((u0:Int)<(a0.length:Int)))
 ((a0[u0]?).bind fun x15 =>
 (Ns x15 u1).bind fun y16 =>
 cond (decide (y16<0))
  (some (Ctl.out (Ctl.out (-1))))
  (og (u0+1<4611686018427387904) <|
  some (Ctl.next (y16,u0+1))))
 (some (Ctl.out (Ctl.next u1)))
def Ml (a0:LL) (a1:Int):Option Int :=
 cond (decide (wI (a1 - (a0.length:Int))<0))
 (some (-1))
 (Cz (Aq (fun s_:Int×Nat=>Ik a0 s_.1 s_.2) 4611686018427387904 (wI (a1 - (a0.length:Int)),0)) fun u0 =>
 some u0)
theorem Abu (h:Ml dA bA=some bB):cK 54 [tS dA,ai bA] (A4 bB):=by
 refine cO Tryz.func54 (Ae (Ae (Ab (Ae (kQ h (fun _ h=>Ae (Ac (tr_ (jS h)))) fun _ h=>skW (sqC h (fun u0=>sT [(1,ai u0)] []) ?_ fun u0 h=>Ae (Ac (jS h))))))));intro _ h hk7;refine Ae (Ad (lpF h (fun (u1,u2)=>sT [(0,tS dA),(1,ai u1),(5,an u2)] []) (Ag []) ?_));rintro n_ ⟨u1,u2⟩ c_ h hn9;exact Ab (Ae (kQ h (fun _ h=>skW (Ab (Ad (Ab (Aa 13 (rsT 2 (riH sI h fun x15 _ h=>rsT 2 (rcH h Aec fun y16 h=>rsT 1 (rnW (Ae (kQ h (fun _ h=>Ae (Ac (br_ (tr_ (tr_ (br_ (tr_ (have h:=jO h hn9;(have h:=jO h hk7;jS h))))))))) fun _ h=>Aw (bn_ (tn_ (wr_ (Aa 18 (rsT 1 (raH h fun h=>rsT 1 (An (tn_ (jL [])))))))))))))))))))) fun _ h=>lxT (have h:=jO h hn9;jC [])))
def Il (a0:LL) (u0:Nat) (u1:LL):Option (Ctl (Nat×LL) (LL)) :=
 cond (decide ((u0:Int)<(a0.length:Int)))
 ((a0[u0]?).bind fun x12 =>
 (Nl x12).bind fun y13 =>
 (u1[u0]?).bind fun x14 =>
 og (u0+1<4611686018427387904) <|
 some (Ctl.next (u0+1,u1.set u0 y13)))
 (some (Ctl.out u1))
def L3 (a0:LL):Option (LL) :=
 og (0<=(a0.length:Int)/\(a0.length:Int)<=(a0.length:Int)/\(a0.length:Int)<=1073741824/\(24:Int)*(a0.length:Int)<=140737488355328) <|
(Aq (fun s_:Nat×LL=>Il a0 s_.1 s_.2) 4611686018427387904 (0,List.replicate a0.length ([]:List Int))).bind fun u0 =>
some u0
theorem Abn (h:L3 dA=some dB):Fw Tryz.prog Tab 57 [tS dA] [] (oS 0 1 dB.length) [(oi 0 1,.mat 82 (oi 1 1) .int dB),(oi 1 1,.pool 3 .int dB)]:=by
 refine Cv kr Tryz.func57 (Cs kr) (n:=23) kr (by simp) rfl kr trivial ⟨⟨3,.tail _ (.head _)⟩,⟨trivial,trivial⟩⟩ (Ae (Ab (Aa 6 (rsT 2 ?_))));obtain ⟨g4,h⟩:=Al h;refine Ai2 (oS 112 4 dA.length) (oi 112 4) 82 3 .int (List.replicate dA.length ([]:List Int)) trivial (Abz (j:=dA.length) (k:=.i64) (k':=.i64) (m:=(dA.length:Int)) (c:=(dA.length:Int)) 3 kr kr g4 kr rfl) kr (by rw [List.length_replicate]) kr (rsT 1 (rnW (sqF h (fun u1=>sT [(3,oS 0 1 u1.length)] [(oi 0 1,.mat 82 (oi 1 1) .int u1),(oi 1 1,.pool 3 .int u1)]) ?_ fun u1 h=>Ae (Ac (by obtain rfl:=osj h;exact H3 [oS 0 1 u1.length] (Ag (tl:=[(2,oS 0 1 u1.length)]) (g:=2) []))))));intro _ h;refine Ae (Ad (lpF h (fun (u2,u0)=>sT [(0,tS dA),(3,oS 0 1 u0.length),(4,an u2)] [(oi 0 1,.mat 82 (oi 1 1) .int u0),(oi 1 1,.pool 3 .int u0)]) ((wL 3 (List.length_replicate.symm:dA.length=(List.replicate dA.length ([]:List Int)).length)).trans (Ag [(oi 0 1,oi 112 4),(oi 1 1,oi 112 4)])) ?_));rintro n_ ⟨u2,u0⟩ c_ h hn7;refine Ab (Ae (kQ h (fun _ h=>skW (Ab (Ad (Aa 15 (rsT 4 (riH sI h fun x12 _ h=>rsT 1 (rcH h Aee fun y13 h=>?_))))))) fun _ h=>lxT (have h:=jO h hn7;jE [])));obtain ⟨x14,e14,h⟩:=Ah h;refine zO (oi 0 1) sI u0.length (Ai e14) (Ai1 (oi 0 1) (oi 0 1) (.vec 82 1 u0.length ((hdL (oi 1 1) .int u0).set u2 (oI 320 12 y13.length))) (Adk (o:=oi 0 1) (e1:=82) (m:=u0.length) (cs:=hdL (oi 1 1) .int u0) (v:=oI 320 12 y13.length) (j:=u2) kr kr kr rfl (by rw [Dg];exact Ai e14)) (An (bn_ (tn_ ⟨_,Aqv (e1:=82) (e:=3) (u:=.int) (n:=u0.length) (len:=y13.length) (row:=y13) (ys:=y13) (xss:=u0) (j:=u2) 9000 (oi 0 1) (oi 1 1) (oi 320 12) kr kr rfl kr kr (N4 rfl) (Oc rfl) kr kr kr,Aa 19 (rsT 1 (raH h fun h=>rsT 1 (An (tn_ ?_))))⟩))));obtain rfl:=zj h;exact jLw hn7 ((wL 3 ((Eq.trans (b:=u0.length) rfl List.length_set.symm):u0.length=(u0.set u2 y13).length)).trans (Ag [(oi 1 1,oi 9000 15)]))
def Im (a0 a1:LL) (u0:Nat):Option (Ctl Nat (Ctl Unit Bool)) :=
 cond (decide ((u0:Int)<(a0.length:Int)))
 ((a0[u0]?).bind fun x14 =>
 (a1[u0]?).bind fun x15 =>
 (Nq x14 x15).bind fun y16 =>
 cond (!y16)
  (some (Ctl.out (Ctl.out false)))
  (og (u0+1<4611686018427387904) <|
  some (Ctl.next (u0+1))))
 (some (Ctl.out (Ctl.next ())))
def Mx (a0 a1:LL):Option Bool :=
 cond ((a0.length:Int) !=(a1.length:Int))
 (some false)
 (Cz (Aq (fun s_:Nat=>Im a0 a1 s_) 4611686018427387904 0) fun _ =>
 some true)
theorem Abg (h:Mx dA dB=some cA):cK 47 [tS dA,tS dB] (Ak cA):=by
 exact cO Tryz.func47 (Ae (Ab (Ae (kQ h (fun _ h=>Ae (Ac (tr_ (jS h)))) fun _ h=>skW (sqC h (fun _=>sT [] []) (fun _ h hk6=>Ae (Ad (lpF h (fun u0=>sT [(0,tS dA),(1,tS dB),(5,an u0)] []) (Ag []) (fun n_ u0 c_ h hn8=>Ab (Ae (kQ h (fun _ h=>skW (Ab (Ad (Ab (Am 16 (ds0 (tS dA) kr (ds0 (an u0) kr (diH sI h fun x14 _ h=>dsT 3 (diH sI h fun x15 _ h=>ds0 (tI x15) kr (dcH h Adz fun y16 h=>ds0 (.bool (!y16)) kr (B4 (Ar kr) (tn_ (wr_ (kQ h (fun _ h=>Ae (Ac (br_ (tr_ (tr_ (br_ (tr_ (have h:=jO h hn8;(have h:=jO h hk6;jS h))))))))) fun _ h=>Aw (bn_ (tn_ (wr_ (Aa 19 (rsT 1 (raH h fun h=>rsT 1 (An (tn_ (jL []))))))))))))))))))))))) fun _ h=>lxT (have h:=jO h hn8;jC []))))))) fun _ h=>Ae (Ac (jS h)))))))
def Ge (u1 u2:Int) (u0:LL) (a1:Int):Option Int :=
 (Ml u0 a1).bind fun y3 =>
cond (decide (y3<0))
 (some (-1))
 (some y3)
theorem P7 (h:Ge bA bB dA bC=some bD):cK 29 [.agg [ai bA,ai bB,tS dA],ai bC] (A4 bD):=by
 exact cO Tryz.func29 (Ae (Ab (Aa 8 (rsT 3 (rcH h Abu fun y3 h=>rsT 1 (rnW (Ab (Ae (kQ h (fun _ h=>Ae (Ac (tr_ (jS h)))) fun _ h=>skW (Ae (Ac (jS h))))))))))))
def Dr (u1 u2:Int) (u0:LL):Option (LL) :=
 (L3 u0).bind fun y7 =>
some y7
theorem Hp (h:Dr bA bB dA=some dB):Fw Tryz.prog Tab 31 [.agg [ai bA,ai bB,tS dA]] [] (.agg [ai bA,ai bB,oS 1 1 dB.length]) [(oi 0 1,.cells 34 [ai bA,ai bB,oS 1 1 dB.length]),(oi 1 1,.mat 82 (oi 2 1) .int dB),(oi 2 1,.pool 3 .int dB)]:=by
 refine Cv kr Tryz.func31 (Cs kr) (n:=15) kr (by simp) rfl kr trivial ⟨trivial,⟨⟨3,.tail _ (.tail _ (.head _))⟩,⟨trivial,trivial⟩⟩⟩ (Ae (Ae (Ae (Ae (Ab (Aa 17 (rsT 2 (rcM h [] [tS dA] Abn trivial (aR kr) (A5 kr kr trivial) fun y7 h=>rsB 2 (rnW (Ae (Ac ?_)))))))))));obtain rfl:=zj h;exact H3 [.agg [ai bA,ai bB,oS 1 1 y7.length]] (Ag (tl:=[(2,.box (oi 0 1) 0)]) (g:=2) [(oi 0 1,oi 2 2),(oi 1 1,oi 192 14),(oi 2 1,oi 193 14)])
def Gd (u0 u1:Int) (u2:LL) (u3 u4:Int) (u5:LL):Option Bool :=
 cond (u0 !=u3)
 (some false)
 (cond (u1 !=u4)
  (some false)
  ((Mx u2 u5).bind fun y12 =>
  cond (!y12)
   (some false)
   (some true)))
theorem Pz (h:Gd bA bB dA bC bD dB=some cA):cK 20 [.agg [ai bA,ai bB,tS dA],.agg [ai bC,ai bD,tS dB]] (Ak cA):=by
 exact cO Tryz.func20 (Ae (Ab (Ae (kQ h (fun _ h=>Ae (Ac (tr_ (jS h)))) fun _ h=>skW (Ab (Ae (kQ h (fun _ h=>Ae (Ac (tr_ (jS h)))) fun _ h=>skW (Ab (Ab (Aa 20 (rsT 4 (rcH h Abg fun y12 h=>rsT 1 (rnW (kQ h (fun _ h=>Ae (Ac (tr_ (jS h)))) fun _ h=>skW (Ae (Ac (jS h)))))))))))))))))
def Nc (a2:LL) (a1 a0:Int) (u0:Nat):Option (Ctl Nat (Ctl Unit Bool)) :=
 cond (decide ((u0:Int)<(a2.length:Int)))
 ((a2[u0]?).bind fun x10 =>
 (cond ((x10.length:Int) !=a1)
   (some true)
   ((Ql a0 x10).bind fun y13 =>
   some (!y13))).bind fun u1 =>
 cond u1
  (some (Ctl.out (Ctl.out false)))
  (og (u0+1<4611686018427387904) <|
  some (Ctl.next (u0+1))))
 (some (Ctl.out (Ctl.next ())))
def Nu (a0 a1:Int) (a2:LL):Option Bool :=
 Cz (Aq (fun s_:Nat=>Nc a2 a1 a0 s_) 4611686018427387904 0) fun _ =>
some true
theorem Adw (h:Nu bA bB dA=some cA):cK 152 [ai bA,ai bB,tS dA] (Ak cA):=by
 refine cO Tryz.func152 (Ae (sqC h (fun _=>sT [] []) ?_ fun _ h=>Ae (Ac (jS h))));intro _ h hk2;refine Ae (Ad (lpF h (fun u0=>sT [(0,ai bA),(1,ai bB),(9,tS dA),(10,an dA.length),(11,an u0)] []) (Ag []) ?_));intro n_ u0 c_ h hn4;refine Ae (Ab (kQ h (fun _ h=>skW (Ab (Ad (Ab (Aa 6 (riH sI h fun x10 _ h=>rsT 2 (rnW (sqF h (fun u1=>sT [(0,ai bA),(1,ai bB),(9,tS dA),(10,an dA.length),(11,an u0),(24,.bool u1)] []) ?_ fun u1 h=>kQ h (fun _ h=>Ae (Ac (br_ (tr_ (tr_ (br_ (tr_ (have h:=jO h hn4;(have h:=jO h hk2;jS h))))))))) fun _ h=>Aw (bn_ (tn_ (wr_ (Aa 4 (raH h fun h=>rsT 1 (An (tn_ (jL [])))))))))))))))) fun _ h=>lxT (have h:=jO h hn4;jC [])));intro _ h;refine Aa 16 (rsT 5 ?_);rcases A0 h with ⟨q12,h⟩|⟨q12,h⟩
 ·exact rq 19 q12 (rsT 5 (An (tn_ (jE []))))
 exact rq 19 q12 (rsT 2 (rcH h Aij fun y13 h=>rsT 2 (An (tn_ (jE [])))))
def Jn (a0 a1:List Int) (u0:Nat):Option (Ctl Nat (Ctl Unit Bool)) :=
 cond (decide ((u0:Int)<(a0.length:Int)))
 ((a0[u0]?).bind fun x15 =>
 (a1[u0]?).bind fun x16 =>
 cond (x15 !=x16)
  (some (Ctl.out (Ctl.out false)))
  (og (u0+1<4611686018427387904) <|
  some (Ctl.next (u0+1))))
 (some (Ctl.out (Ctl.next ())))
def Kp (a0 a1:List Int):Option Bool :=
 cond ((a0.length:Int) !=(a1.length:Int))
 (some false)
 (Cz (Aq (fun s_:Nat=>Jn a0 a1 s_) 4611686018427387904 0) fun _ =>
 some true)
theorem Tv (h:Kp aA aB=some cA):cK 155 [tI aA,tI aB] (Ak cA):=by
 exact cO Tryz.func155 (Ae (Ab (Ae (kQ h (fun _ h=>Ae (Ac (tr_ (jS h)))) fun _ h=>skW (sqC h (fun _=>sT [] []) (fun _ h hk6=>Ae (Ad (lpF h (fun u0=>sT [(0,tI aA),(1,tI aB),(12,an aA.length),(13,an u0)] []) (Ag []) (fun n_ u0 c_ h hn8=>Ae (Ab (kQ h (fun _ h=>skW (Ab (Ad (Ae (Ab (Am 14 (ds0 (tI aA) kr (ds0 (an u0) kr (diH .int h fun x15 _ h=>dsT 3 (diH .int h fun x16 _ h=>ds0 (ai x16) kr (ds0 (.bool (x15 !=x16)) kr (B4 (Ar kr) (tn_ (wr_ (kQ h (fun _ h=>Ae (Ac (br_ (tr_ (tr_ (br_ (tr_ (have h:=jO h hn8;(have h:=jO h hk6;jS h))))))))) fun _ h=>Aw (bn_ (tn_ (wr_ (Aa 16 (raH h fun h=>rsT 1 (An (tn_ (jL []))))))))))))))))))))))) fun _ h=>lxT (have h:=jO h hn8;jC []))))))) fun _ h=>Ae (Ac (jS h)))))))
def Ju (a0 a1:LL) (u0:Nat):Option (Ctl Nat (Ctl Unit Bool)) :=
 cond (decide ((u0:Int)<(a0.length:Int)))
 ((a0[u0]?).bind fun x15 =>
 (a1[u0]?).bind fun x16 =>
 (Kp x15 x16).bind fun y17 =>
 cond (!y17)
  (some (Ctl.out (Ctl.out false)))
  (og (u0+1<4611686018427387904) <|
  some (Ctl.next (u0+1))))
 (some (Ctl.out (Ctl.next ())))
def N3 (a0 a1:LL):Option Bool :=
 cond ((a0.length:Int) !=(a1.length:Int))
 (some false)
 (Cz (Aq (fun s_:Nat=>Ju a0 a1 s_) 4611686018427387904 0) fun _ =>
 some true)
theorem Adm (h:N3 dA dB=some cA):cK 153 [tS dA,tS dB] (Ak cA):=by
 exact cO Tryz.func153 (Ae (Ab (Ae (kQ h (fun _ h=>Ae (Ac (tr_ (jS h)))) fun _ h=>skW (sqC h (fun _=>sT [] []) (fun _ h hk6=>Ae (Ad (lpF h (fun u0=>sT [(0,tS dA),(1,tS dB),(12,an dA.length),(13,an u0)] []) (Ag []) (fun n_ u0 c_ h hn8=>Ae (Ab (kQ h (fun _ h=>skW (Ab (Ad (Ae (Ab (Am 15 (ds0 (tS dA) kr (ds0 (an u0) kr (diH sI h fun x15 _ h=>dsT 3 (diH sI h fun x16 _ h=>ds0 (tI x16) kr (dcH h Tv fun y17 h=>ds0 (.bool (!y17)) kr (B4 (Ar kr) (tn_ (wr_ (kQ h (fun _ h=>Ae (Ac (br_ (tr_ (tr_ (br_ (tr_ (have h:=jO h hn8;(have h:=jO h hk6;jS h))))))))) fun _ h=>Aw (bn_ (tn_ (wr_ (Aa 17 (raH h fun h=>rsT 1 (An (tn_ (jL []))))))))))))))))))))))) fun _ h=>lxT (have h:=jO h hn8;jC []))))))) fun _ h=>Ae (Ac (jS h)))))))
def Q6 (a0 u0:Int) (u1:LL):Option Bool :=
 ((Gi a0).bind fun y3 =>
 cond y3
  ((Cn u0 0 24).bind fun y5 =>
  cond y5
   (cond (decide ((u1.length:Int)<=u0))
    ((Nu a0 u0 u1).bind fun y8 =>
    cond y8
     ((Ew a0 u0 u1).bind fun y10 =>
     (N3 y10 u1).bind fun y11 =>
     some y11)
     (some false))
    (some false))
   (some false))
  (some false)).bind fun u2 =>
some u2
theorem Ac5 (h:Q6 bA bB dA=some cA):cK 101 [ai bA,.agg [ai bB,tS dA]] (Ak cA):=by
 refine cO Tryz.func101 (Ae (sqF h (fun u2=>sT [(4,.bool u2)] []) ?_ fun u2 h=>Ac (jS h)));intro _ h;refine Am 38 (dz0 (ai bA) (dcH h Lz fun y3 h=>dz0 (.bool y3) ?_));rcases A0 h with ⟨q4,h⟩|⟨q4,h⟩
 ·refine dq 7 q4 (dz0 (.box (oi 3 1) 0) (dzl (ai bB) (dcH h C4 fun y5 h=>dz0 (.bool y5) (dz0 (.bool y5) (kD h 12 (fun _ h=>dsT 8 ?_) fun _ h=>dsT 27 (B4 (Ar kr) (tn_ (jE []))))))));rcases A0 h with ⟨q7,h⟩|⟨q7,h⟩
  ·refine dq 20 q7 (dsT 5 (dcH h Adw fun y8 h=>dz0 (.bool y8) (dz0 (.bool y8) ?_)));rcases A0 h with ⟨q9,h⟩|⟨q9,h⟩
   ·exact dq 28 q9 (dsT 5 (dcM h [] [ai bA,ai bB,tS dA] J2 trivial (aR kr) (A5 kr kr trivial) (Z5 kr) fun y10 h=>dz0 (.box (oi 3 1) 1) (dzl (tS dA) (dcG h [oS 544 32 y10.length,tS dA] Adm (Ap (L2 (p:=oi 545 32) (e1:=82) (e:=3) (u:=.int) (xss:=y10) kr (Aej (t:=sI) (off:=0) (len:=y10.length) (i:=oi 544 32) (e1:=82) (z:=1) (m:=y10.length) 0 rfl kr kr (Cd kr)) rfl) (Ap kr Br)) fun y11 h=>dz0 (.bool y11) (dz0 (.bool y11) (B4 ⟨Anf kr,trivial⟩ (tn_ (jE []))))))))
   exact dq 28 q9 (dsT 11 (B4 (Ar kr) (tn_ (jE []))))
  exact dq 20 q7 (dsT 19 (B4 (Ar kr) (tn_ (jE []))))
 exact dq 7 q4 (dsT 32 (B4 (Ar kr) (tn_ (jE []))))
def Kn (a0 u0 u1:Int) (u2:LL):Option Bool :=
 ((Cn u0 0 24).bind fun y3 =>
 cond y3
  ((Cn u1 0 (wI (24 - u0))).bind fun y5 =>
  cond y5
   ((Q6 a0 (wI (u0+u1)) u2).bind fun y7 =>
   some y7)
   (some false))
  (some false)).bind fun u3 =>
some u3
theorem Tm (h:Kn bA bB bC dA=some cA):cK 55 [ai bA,.agg [ai bB,ai bC,tS dA]] (Ak cA):=by
 refine cO Tryz.func55 (Ae (sqF h (fun u3=>sT [(4,.bool u3)] []) ?_ fun u3 h=>Ac (jS h)));intro _ h;refine Aa 27 (rsT 2 (rcH h C4 fun y3 h=>rsT 1 ?_));rcases A0 h with ⟨q4,h⟩|⟨q4,h⟩
 ·refine rq 8 q4 (rsT 5 (rcH h C4 fun y5 h=>rsT 2 ?_));rcases A0 h with ⟨q6,h⟩|⟨q6,h⟩
  ·exact rq 16 q6 (rsT 9 (rcH h Ac5 fun y7 h=>rsT 2 (An (tn_ (jE [])))))
  exact rq 16 q6 (rsT 12 (An (tn_ (jE []))))
 exact rq 8 q4 (rsT 20 (An (tn_ (jE []))))
def Qh (a0 a1:Int):Option Bool :=
 ((B7 a0 0 24).bind fun y3 =>
 cond y3
  ((B7 a1 0 24).bind fun y5 =>
  cond y5
   (some (decide (wI (a0+a1)<=24)))
   (some false))
  (some false)).bind fun u0 =>
some u0
theorem Ahv (h:Qh bA bB=some cA):cK 105 [ai bA,ai bB] (Ak cA):=by
 refine cO Tryz.func105 (Ae (sqF h (fun u0=>sT [(4,.bool u0)] []) ?_ fun u0 h=>Ac (jS h)));intro _ h;refine Aa 15 (rsT 1 (rcH h C0 fun y3 h=>rsT 1 ?_));rcases A0 h with ⟨q4,h⟩|⟨q4,h⟩
 ·exact rq 7 q4 (rsT 1 (rcH h C0 fun y5 h=>rsT 2 (kR h 11 (fun _ h=>rsT 6 (An (tn_ (jE [])))) fun _ h=>rsT 6 (An (tn_ (jE []))))))
 exact rq 7 q4 (rsT 10 (An (tn_ (jE []))))
def Jb (a1:LL) (a0 a2:Int) (u0:Nat):Option (Ctl Nat (Ctl Unit Bool)) :=
 cond (decide ((u0:Int)<(a1.length:Int)))
 ((a1[u0]?).bind fun x10 =>
 (Lb a0 x10 a2).bind fun y12 =>
 cond (!y12)
  (some (Ctl.out (Ctl.out false)))
  (og (u0+1<4611686018427387904) <|
  some (Ctl.next (u0+1))))
 (some (Ctl.out (Ctl.next ())))
def Is (a0:Int) (a1:LL) (a2:Int):Option Bool :=
 Cz (Aq (fun s_:Nat=>Jb a1 a0 a2 s_) 4611686018427387904 0) fun _ =>
some true
theorem Wj (h:Is bA dA bB=some cA):cK 157 [ai bA,tS dA,ai bB] (Ak cA):=by
 exact cO Tryz.func157 (Ae (sqC h (fun _=>sT [] []) (fun _ h hk2=>Ae (Ad (lpF h (fun u0=>sT [(0,ai bA),(2,ai bB),(9,tS dA),(10,an dA.length),(11,an u0)] []) (Ag []) (fun n_ u0 c_ h hn4=>Ae (Ab (kQ h (fun _ h=>skW (Ab (Ad (Ab (Aa 6 (riH sI h fun x10 _ h=>rsT 2 (rnW (Ab (Aa 11 (rsT 3 (rcH h Z8 fun y12 h=>rsT 1 (rnW (kQ h (fun _ h=>Ae (Ac (br_ (tr_ (tr_ (br_ (tr_ (have h:=jO h hn4;(have h:=jO h hk2;jS h))))))))) fun _ h=>Aw (bn_ (tn_ (wr_ (Aa 13 (raH h fun h=>rsT 1 (An (tn_ (jL []))))))))))))))))))))) fun _ h=>lxT (have h:=jO h hn4;jC []))))))) fun _ h=>Ae (Ac (jS h))))
def Fp (a0:Int) (a1:LL) (a2:Int):Option (LL) :=
 (Gj a1).bind fun y4 =>
og (0<=(y4.length:Int)/\(y4.length:Int)<=(y4.length:Int)/\(y4.length:Int)<=1073741824/\(24:Int)*(y4.length:Int)<=140737488355328) <|
(Gz a0 y4 a2 (List.replicate y4.length ([]:List Int))).bind fun y8 =>
og (y8.1.length=y4.length) <|
og (y8.2.1.length=y4.length) <|
og ((0:Int)<=(y8.2.2:Int)/\(y8.2.2:Int)<=(y8.2.2:Int)/\(y8.2.2:Int)<=(y4.length:Int)) <|
some (y8.1.take y8.2.2)
theorem K4 (h:Fp bA dA bB=some dB):Fw Tryz.prog Tab 158 [ai bA,tS dA,ai bB] [] (oS 0 1 dB.length) [(oi 0 1,.mat 82 (oi 1 1) .int dB),(oi 1 1,.pool 3 .int dB)]:=by
 refine Cv kr Tryz.func158 (Cs kr) (n:=24) kr (by simp) rfl kr trivial ⟨⟨3,.tail _ (.head _)⟩,⟨trivial,trivial⟩⟩ (Ae (Ab (Aa 5 (rsT 1 (rcM h [] [tS dA] P6 trivial (aR kr) (A5 kr kr trivial) fun y4 h=>rsT 1 (rnW (Ab (Aa 9 (rsT 2 ?_)))))))));obtain ⟨g6,h⟩:=Al h;refine Ai2 (oS 224 7 y4.length) (oi 224 7) 82 3 .int (List.replicate y4.length ([]:List Int)) trivial (Abz (j:=y4.length) (k:=.i64) (k':=.i64) (m:=(y4.length:Int)) (c:=(y4.length:Int)) 3 kr kr g6 kr rfl) kr (by rw [List.length_replicate]) kr (rsT 1 (rnW (Ab (Aa 15 (rsT 4 (rcM h [(oi 0 0,oi 176 3),(oi 1 0,oi 177 3),(oi 2 0,oi 224 7),(oi 3 0,oi 224 7)] [ai bA,oS 176 3 y4.length,ai bB,oS 224 7 y4.length] (fun h=>Qi h rfl List.length_replicate.symm) ⟨kr,⟨kr,⟨kr,⟨kr,trivial⟩⟩⟩⟩ (aR kr) (A5 kr kr ⟨Cj kr,⟨La (o:=oi 176 3) (p:=oi 177 3) (e1:=82) (m:=y4.length) (u:=.int) (xss:=y4) (Cj kr) kr,⟨Cj kr,⟨La (o:=oi 224 7) (p:=oi 224 7) (e1:=82) (m:=(List.replicate y4.length ([]:List Int)).length) (u:=.int) (xss:=List.replicate y4.length ([]:List Int)) (Cj kr) kr,trivial⟩⟩⟩⟩) fun y8 h=>rsT 1 (rnW (Ab (Aa 20 (rsT 3 ?_))))))))));obtain ⟨g9,h⟩:=Al h;obtain ⟨g10,h⟩:=Al h;obtain ⟨g12,h⟩:=Al h;refine rs2 (oS 23 18 y8.2.2) (oi 176 3) (oi 23 18) (.vec 82 1 y8.2.2 ((hdL (oi 304 13) .int y8.1).take y8.2.2)) (Api (t:=sI) (len:=y4.length) (kh:=.i64) (km:=.i64) (h:=(y8.2.2:Int)) (m:=(y8.2.2:Int)) (j:=y8.2.2) (i:=oi 176 3) (N:=y8.1.length) (e:=82) (cs:=hdL (oi 304 13) .int y8.1) kr kr kr kr rfl g12 rfl (by have z_:y4.length=y8.1.length:=g9.symm;omega)) (rsT 1 (An (tn_ ⟨_,Al6 (e1:=82) (e:=3) (u:=.int) (xss:=y8.1) (k:=y8.2.2) 9000 (oi 23 18) (oi 304 13) kr kr kr (by have z_:y4.length=y8.1.length:=g9.symm;omega) kr kr,Ac ?_⟩)));obtain rfl:=zj h;exact H3 [oS 0 1 ((y8.1.take y8.2.2).length)] ((Ae8 6 (oS 23 18 y8.2.2) (oS 23 18 ((y8.1.take y8.2.2).length)) kr (congrArg (fun z_=>((oS 23 18 z_):AV)) ((An4 (by have z_:y4.length=y8.1.length:=g9.symm;omega)):y8.2.2=(y8.1.take y8.2.2).length))).trans (Ag (tl:=[(6,oS 0 1 (y8.1.take y8.2.2).length)]) (g:=2) [(oi 0 1,oi 23 18),(oi 1 1,oi 9000 20)]))
def Sm (a0:List Int):Option (List Int) :=
 some (a0.take 48++(List.replicate 48 0).drop (a0.take 48).length)
def Akf (r:List Int):RV:=⟨false,[(true,((tyA 47).av (Ic 47 r)).map .sc)]⟩
theorem Aas (h:Sm aA=some aB):cK 159 [tI aA] (Akf aB):=by
 exact cO Tryz.func159 (Ae (Ae (Ab (Aa 8 (rsl (.sla (oi 3 3) 0 48) (A0b (N:=47) (i:=oi 3 3) (j:=0) (e:=175) (xs:=[Ic 47 (List.replicate 48 0)]) kr kr kr) (rsT 1 (rs2 (an ((aA.take 48).length)) (oi 3 3) (oi 3 3) (.arr 175 (tyA 47) [Ic 47 (aA.take 48++(List.replicate 48 0).drop (aA.take 48).length)]) (Ava (N:=47) (i:=oi 3 3) (e:=175) (l:=List.replicate 48 0) (ys:=aA) (zs:=aA.take 48++(List.replicate 48 0).drop (aA.take 48).length) kr K3 kr kr (by simp) rfl) (rnW (Ab (Aa 10 (rsl (.agg ((tyA 47).av (Ic 47 (aA.take 48++(List.replicate 48 0).drop (aA.take 48).length)))) (Az4 (N:=47) (ty:=175) (i:=oi 3 3) (e:=0) (l:=aA.take 48++(List.replicate 48 0).drop (aA.take 48).length) (xs:=[Ic 47 (aA.take 48++(List.replicate 48 0).drop (aA.take 48).length)]) kr kr rfl rfl) (Ai1 (oi 2 1) (oi 2 1) (.arr 175 (tyA 47) [Ic 47 (aA.take 48++(List.replicate 48 0).drop (aA.take 48).length)]) (Az1 (N:=47) (ty:=175) (i:=oi 2 1) (e:=0) (l:=List.replicate 48 0) (l2:=aA.take 48++(List.replicate 48 0).drop (aA.take 48).length) (xs:=[Ic 47 (List.replicate 48 0)]) kr kr rfl rfl kr rfl) (rnW (Ac (jR h [.agg ((tyA 47).av (Ic 47 (aA.take 48++(List.replicate 48 0).drop (aA.take 48).length)))] (V0 (Axr 47 (aA.take 48++(List.replicate 48 0).drop (aA.take 48).length)) G8))))))))))))))))
def O1:AC :=
 (.seq (rg [xs1 26 25 24])
 (.seq (.cond (tm 26)
  .skip
  (.exit 0))
 (.seq (.block 1 (.seq (rg [xm 27 25,xx 28 1 23 25,xl 29 28,xm 7 27,xm 8 29])
 (.seq (.region [xm 30 8,xo 31 (qc 159 [tm 30] [[some .int]]),xm 32 1,xm 33 7,xx 34 1 32 33,xl 35 34,xo 36 (qc 159 [tm 35] [[some .int]]),xo 37 (.i (.cmp true 51 (tm 31) (tm 36)))] true [(1,5)])
 (.cond (tm 37)
  (.seq (rg [xo 6 (qm (cb false))])
  .ret)
  .skip))))
 (rg [xa 38 25,xm 25 38]))))
def R1:AC :=
 (.seq (rg [xo 6 (qm (cb false))])
 (.seq (.seq (rg [xm 9 1,xn1 10 9,xm 11 2,xo 12 (qb .gtr (tm 10) (tm 11)),xm 13 12,⟨some 14,some (13,false),qm (tm 0)⟩,⟨some 15,some (13,false),qm (tm 1)⟩,⟨some 16,some (13,false),qm (tm 2)⟩,⟨some 17,some (13,false),qc 157 [tm 14,tm 15,tm 16] [[],[some sI],[]]⟩,⟨some 18,some (13,false),.i (.not (tm 17))⟩,xo 19 (.i (.pick (tm 13) (cb true) (tm 18)))])
 (.cond (tm 19)
  (.seq (rg [xo 6 (qm (cb false))])
  .ret)
  .skip))
 (.seq (.seq (rg [xm 20 0,xm 21 1,xm 22 2,xo 23 (qc 158 [tm 20,tm 21,tm 22] [[],[some sI],[]]),xn1 24 23,xo 25 (qm (ci 0))])
 (.block 0 (.loop O1)))
 (.seq (rg [xm 39 0,xm 40 1,xm 41 2,xo 42 (qc 158 [tm 39,tm 40,tm 41] [[],[some sI],[]]),xn1 43 42,xm 44 1,xn1 45 44,xo 46 (qb .eql (tm 43) (tm 45)),xm 6 46])
 .ret))))
def Zh:List Res:=[.tmp 6]
theorem Zo:Cm Tryz.prog Tryz.f106=some (R1,Zh):=by kernel_rfl
def Gr (y10 a1:LL) (u0:Nat):Option (Ctl Nat (Ctl Unit Bool)) :=
 cond (decide ((u0:Int)<(y10.length:Int)))
 ((y10[u0]?).bind fun x17 =>
 (Sm x17).bind fun y19 =>
 (a1[u0]?).bind fun x20 =>
 (Sm x20).bind fun y21 =>
 og (y19.length=47+1/\y21.length=47+1) <|
 cond (!(y19==y21))
  (some (Ctl.out (Ctl.out false)))
  (og (u0+1<4611686018427387904) <|
  some (Ctl.next (u0+1))))
 (some (Ctl.out (Ctl.next ())))
def Jq (a0:Int) (a1:LL) (a2:Int):Option Bool :=
 (cond (decide (a2<(a1.length:Int)))
  (some true)
  ((Is a0 a1 a2).bind fun y5 =>
  some (!y5))).bind fun u0 =>
cond u0
 (some false)
 (Cz ((Fp a0 a1 a2).bind fun y10 =>
  Aq (fun s_:Nat=>Gr y10 a1 s_) 4611686018427387904 0) fun _ =>
 (Fp a0 a1 a2).bind fun y27 =>
 some ((y27.length:Int)==(a1.length:Int)))
theorem Xv (h:Jq bA dA bB=some cA):cK 106 [ai bA,tS dA,ai bB] (Ak cA):=by
 refine Xg kr Tryz.func106 Zo (n:=47) kr (by simp) rfl ?_;unfold R1;refine Ae (Ab (sqF h (fun u1=>sT [(0,ai bA),(1,tS dA),(2,ai bB),(19,.bool u1)] []) ?_ ?_))
 ·intro _ h;refine Aa 13 (rsT 5 ?_);rcases A0 h with ⟨q4,h⟩|⟨q4,h⟩
  ·exact rq 13 q4 (rsT 6 (An (tn_ (jE []))))
  exact rq 13 q4 (rsT 3 (rcH h Wj fun y5 h=>rsT 2 (An (tn_ (jE [])))))
 intro u1 h;refine kQ h (fun _ h=>Ae (Ac (tr_ (jS h)))) fun _ h=>skW (sqC h (fun _=>sT [(0,ai bA),(1,tS dA),(2,ai bB)] []) ?_ fun _ h=>Ab (Aa 11 (rsT 3 (rcM h [] [ai bA,tS dA,ai bB] K4 trivial (aR kr) (A5 kr kr trivial) fun y27 h=>rsT 5 (rnW (Ac (jS h)))))))
 intro _ h hk8;refine Ab (Aa 8 (rsT 3 (rcM h [] [ai bA,tS dA,ai bB] K4 trivial (aR kr) (A5 kr kr trivial) fun y10 h=>rsT 2 (rnW (Ad (lpF h (fun u0=>sT [(0,ai bA),(1,tS dA),(2,ai bB),(23,oS 0 1 y10.length),(24,an y10.length),(25,an u0)] [(oi 0 1,.mat 82 (oi 1 1) .int y10),(oi 1 1,.pool 3 .int y10)]) (Ag [(oi 0 1,oi 368 5),(oi 1 1,oi 369 5)]) ?_))))));intro n_ u0 c_ h hn11;unfold O1;refine Ae (Ab (kQ h (fun _ h=>skW (Ab (Ad (Ab (Aa 8 (rsT 1 ?_)))))) fun _ h=>lxT (have h:=jO h hn11;jC [])));obtain ⟨x17,e17,h⟩:=Ah h;refine zO (oi 0 1) sI y10.length (Ai e17) (rsl (.own (kid (oi 1 1) u0) .int 0 x17.length) (Fa (o:=oi 0 1) (p:=oi 1 1) (e1:=82) (u:=.int) (xss:=y10) (row:=x17) (j:=u0) kr kr e17) (rsT 2 (rnW (Ab (Am 16 (dz0 (.own (kid (oi 1 1) u0) .int 0 x17.length) (dcG h [.own (kid (oi 1 1) u0) .int 0 x17.length] Aas (Ap (D6 (e:=3) (u:=.int) (xs:=x17) ((Gm (Qz (t:=.int) (off:=0) (len:=x17.length) 0 rfl kr)).trans (Bk kr e17)) rfl) Br) fun y19 h=>dz0 (tS dA) (dz0 (an u0) (diH sI h fun x20 _ h=>dz0 (tI x20) (dcH h Aas fun y21 h=>?_))))))))));obtain ⟨g22,h⟩:=Al h;exact ds0 (.bool (!(y19==y21))) (Azm (N:=47) (l:=y19) (l':=y21) kr kr g22) (B4 (Ar kr) (tn_ (wr_ (kQ h (fun _ h=>Ae (Ac (br_ (tr_ (tr_ (br_ (tr_ (have h:=jO h hn11;(have h:=jO h hk8;jS h))))))))) fun _ h=>Aw (bn_ (tn_ (wr_ (Aa 18 (raH h fun h=>rsT 1 (An (tn_ (jL []))))))))))))
def Gf (a0 u0 u1:Int) (u2:LL):Option Bool :=
 ((Fi a0).bind fun y3 =>
 cond y3
  ((Qh u0 u1).bind fun y5 =>
  cond y5
   ((Jq a0 u2 (wI (u0+u1))).bind fun y7 =>
   some y7)
   (some false))
  (some false)).bind fun u3 =>
some u3
theorem P2 (h:Gf bA bB bC dA=some cA):cK 58 [ai bA,.agg [ai bB,ai bC,tS dA]] (Ak cA):=by
 refine cO Tryz.func58 (Ae (sqF h (fun u3=>sT [(4,.bool u3)] []) ?_ fun u3 h=>Ac (jS h)));intro _ h;refine Aa 24 (rsT 1 (rcH h Ot fun y3 h=>rsT 1 ?_));rcases A0 h with ⟨q4,h⟩|⟨q4,h⟩
 ·refine rq 7 q4 (rsT 4 (rcH h Ahv fun y5 h=>rsT 2 ?_));rcases A0 h with ⟨q6,h⟩|⟨q6,h⟩
  ·exact rq 14 q6 (rsT 8 (rcH h Xv fun y7 h=>rsT 2 (An (tn_ (jE [])))))
  exact rq 14 q6 (rsT 11 (An (tn_ (jE []))))
 exact rq 7 q4 (rsT 18 (An (tn_ (jE []))))
end


section
open Go.RowKit Go.Deep
theorem gw3 (w:World):Calls Tryz.prog 134 #[.int .i64 3] w fun e w'=>e=.returned (.agg #[.int .i64 1,.int .i64 2])/\Below w.heap.size w w':=by
 go_enter Tryz.func134,Tryz.ntmps134
 go_wp2
 refine bodyPost_ret (v:=.agg #[.int .i64 1,.int .i64 2]) (by simp [results,Tryz.results134,go_sem]) rfl ⟨rfl,?_⟩;exact (by repeat (first|with_reducible exact Below.refl _ _|((with_reducible refine Below.setCell ?_ ?_ _);rotate_left;focus (first|(simp;done)|omega|(simp;omega)))|((with_reducible refine Below.alloc ?_ ?_ _);rotate_left;focus (first|(simp;done)|omega|(simp;omega)))|(with_reducible refine Below.drew ?_)|(with_reducible refine below_draws_ ?_ _)))
theorem gw4 (w:World):Calls Tryz.prog 134 #[.int .i64 4] w fun e w'=>e=.returned (.agg #[.int .i64 1,.int .i64 0])/\Below w.heap.size w w':=by
 go_enter Tryz.func134,Tryz.ntmps134
 go_wp2
 refine bodyPost_ret (v:=.agg #[.int .i64 1,.int .i64 0]) (by simp [results,Tryz.results134,go_sem]) rfl ⟨rfl,?_⟩;exact (by repeat (first|with_reducible exact Below.refl _ _|((with_reducible refine Below.setCell ?_ ?_ _);rotate_left;focus (first|(simp;done)|omega|(simp;omega)))|((with_reducible refine Below.alloc ?_ ?_ _);rotate_left;focus (first|(simp;done)|omega|(simp;omega)))|(with_reducible refine Below.drew ?_)|(with_reducible refine below_draws_ ?_ _)))
theorem gw5 (w:World):Calls Tryz.prog 134 #[.int .i64 5] w fun e w'=>e=.returned (.agg #[.int .i64 2,.int .i64 1])/\Below w.heap.size w w':=by
 go_enter Tryz.func134,Tryz.ntmps134
 go_wp2
 refine bodyPost_ret (v:=.agg #[.int .i64 2,.int .i64 1]) (by simp [results,Tryz.results134,go_sem]) rfl ⟨rfl,?_⟩;exact (by repeat (first|with_reducible exact Below.refl _ _|((with_reducible refine Below.setCell ?_ ?_ _);rotate_left;focus (first|(simp;done)|omega|(simp;omega)))|((with_reducible refine Below.alloc ?_ ?_ _);rotate_left;focus (first|(simp;done)|omega|(simp;omega)))|(with_reducible refine Below.drew ?_)|(with_reducible refine below_draws_ ?_ _)))
theorem gw6 (w:World):Calls Tryz.prog 134 #[.int .i64 6] w fun e w'=>e=.returned (.agg #[.int .i64 0,.int .i64 1])/\Below w.heap.size w w':=by
 go_enter Tryz.func134,Tryz.ntmps134
 go_wp2
 refine bodyPost_ret (v:=.agg #[.int .i64 0,.int .i64 1]) (by simp [results,Tryz.results134,go_sem]) rfl ⟨rfl,?_⟩;exact (by repeat (first|with_reducible exact Below.refl _ _|((with_reducible refine Below.setCell ?_ ?_ _);rotate_left;focus (first|(simp;done)|omega|(simp;omega)))|((with_reducible refine Below.alloc ?_ ?_ _);rotate_left;focus (first|(simp;done)|omega|(simp;omega)))|(with_reducible refine Below.drew ?_)|(with_reducible refine below_draws_ ?_ _)))
theorem gw7 (w:World):Calls Tryz.prog 134 #[.int .i64 7] w fun e w'=>e=.returned (.agg #[.int .i64 1,.int .i64 1])/\Below w.heap.size w w':=by
 go_enter Tryz.func134,Tryz.ntmps134
 go_wp2
 refine bodyPost_ret (v:=.agg #[.int .i64 1,.int .i64 1]) (by simp [results,Tryz.results134,go_sem]) rfl ⟨rfl,?_⟩;exact (by repeat (first|with_reducible exact Below.refl _ _|((with_reducible refine Below.setCell ?_ ?_ _);rotate_left;focus (first|(simp;done)|omega|(simp;omega)))|((with_reducible refine Below.alloc ?_ ?_ _);rotate_left;focus (first|(simp;done)|omega|(simp;omega)))|(with_reducible refine Below.drew ?_)|(with_reducible refine below_draws_ ?_ _)))
theorem gw8 (w:World):Calls Tryz.prog 134 #[.int .i64 8] w fun e w'=>e=.returned (.agg #[.int .i64 1,.int .i64 1])/\Below w.heap.size w w':=by
 go_enter Tryz.func134,Tryz.ntmps134
 go_wp2
 refine bodyPost_ret (v:=.agg #[.int .i64 1,.int .i64 1]) (by simp [results,Tryz.results134,go_sem]) rfl ⟨rfl,?_⟩;exact (by repeat (first|with_reducible exact Below.refl _ _|((with_reducible refine Below.setCell ?_ ?_ _);rotate_left;focus (first|(simp;done)|omega|(simp;omega)))|((with_reducible refine Below.alloc ?_ ?_ _);rotate_left;focus (first|(simp;done)|omega|(simp;omega)))|(with_reducible refine Below.drew ?_)|(with_reducible refine below_draws_ ?_ _)))
theorem gw9 (w:World):Calls Tryz.prog 134 #[.int .i64 9] w fun e w'=>e=.returned (.agg #[.int .i64 2,.int .i64 1])/\Below w.heap.size w w':=by
 go_enter Tryz.func134,Tryz.ntmps134
 go_wp2
 refine bodyPost_ret (v:=.agg #[.int .i64 2,.int .i64 1]) (by simp [results,Tryz.results134,go_sem]) rfl ⟨rfl,?_⟩;exact (by repeat (first|with_reducible exact Below.refl _ _|((with_reducible refine Below.setCell ?_ ?_ _);rotate_left;focus (first|(simp;done)|omega|(simp;omega)))|((with_reducible refine Below.alloc ?_ ?_ _);rotate_left;focus (first|(simp;done)|omega|(simp;omega)))|(with_reducible refine Below.drew ?_)|(with_reducible refine below_draws_ ?_ _)))
theorem A0h (w:World):Calls Tryz.prog 134 #[.int .i64 10] w fun e w'=>e=.returned (.agg #[.int .i64 0,.int .i64 1])/\Below w.heap.size w w':=by
 go_enter Tryz.func134,Tryz.ntmps134
 go_wp2
 refine bodyPost_ret (v:=.agg #[.int .i64 0,.int .i64 1]) (by simp [results,Tryz.results134,go_sem]) rfl ⟨rfl,?_⟩;exact (by repeat (first|with_reducible exact Below.refl _ _|((with_reducible refine Below.setCell ?_ ?_ _);rotate_left;focus (first|(simp;done)|omega|(simp;omega)))|((with_reducible refine Below.alloc ?_ ?_ _);rotate_left;focus (first|(simp;done)|omega|(simp;omega)))|(with_reducible refine Below.drew ?_)|(with_reducible refine below_draws_ ?_ _)))
theorem A0f (w:World):Calls Tryz.prog 134 #[.int .i64 11] w fun e w'=>e=.returned (.agg #[.int .i64 1,.int .i64 2])/\Below w.heap.size w w':=by
 go_enter Tryz.func134,Tryz.ntmps134
 go_wp2
 refine bodyPost_ret (v:=.agg #[.int .i64 1,.int .i64 2]) (by simp [results,Tryz.results134,go_sem]) rfl ⟨rfl,?_⟩;exact (by repeat (first|with_reducible exact Below.refl _ _|((with_reducible refine Below.setCell ?_ ?_ _);rotate_left;focus (first|(simp;done)|omega|(simp;omega)))|((with_reducible refine Below.alloc ?_ ?_ _);rotate_left;focus (first|(simp;done)|omega|(simp;omega)))|(with_reducible refine Below.drew ?_)|(with_reducible refine below_draws_ ?_ _)))
theorem A0g (w:World):Calls Tryz.prog 134 #[.int .i64 12] w fun e w'=>e=.returned (.agg #[.int .i64 1,.int .i64 0])/\Below w.heap.size w w':=by
 go_enter Tryz.func134,Tryz.ntmps134
 go_wp2
 refine bodyPost_ret (v:=.agg #[.int .i64 1,.int .i64 0]) (by simp [results,Tryz.results134,go_sem]) rfl ⟨rfl,?_⟩;exact (by repeat (first|with_reducible exact Below.refl _ _|((with_reducible refine Below.setCell ?_ ?_ _);rotate_left;focus (first|(simp;done)|omega|(simp;omega)))|((with_reducible refine Below.alloc ?_ ?_ _);rotate_left;focus (first|(simp;done)|omega|(simp;omega)))|(with_reducible refine Below.drew ?_)|(with_reducible refine below_draws_ ?_ _)))
theorem A0e (w:World):Calls Tryz.prog 134 #[.int .i64 13] w fun e w'=>e=.returned (.agg #[.int .i64 1,.int .i64 1])/\Below w.heap.size w w':=by
 go_enter Tryz.func134,Tryz.ntmps134
 go_wp2
 refine bodyPost_ret (v:=.agg #[.int .i64 1,.int .i64 1]) (by simp [results,Tryz.results134,go_sem]) rfl ⟨rfl,?_⟩;exact (by repeat (first|with_reducible exact Below.refl _ _|((with_reducible refine Below.setCell ?_ ?_ _);rotate_left;focus (first|(simp;done)|omega|(simp;omega)))|((with_reducible refine Below.alloc ?_ ?_ _);rotate_left;focus (first|(simp;done)|omega|(simp;omega)))|(with_reducible refine Below.drew ?_)|(with_reducible refine below_draws_ ?_ _)))
theorem A0i (w:World):Calls Tryz.prog 134 #[.int .i64 14] w fun e w'=>e=.returned (.agg #[.int .i64 1,.int .i64 1])/\Below w.heap.size w w':=by
 go_enter Tryz.func134,Tryz.ntmps134
 go_wp2
 refine bodyPost_ret (v:=.agg #[.int .i64 1,.int .i64 1]) (by simp [results,Tryz.results134,go_sem]) rfl ⟨rfl,?_⟩;exact (by repeat (first|with_reducible exact Below.refl _ _|((with_reducible refine Below.setCell ?_ ?_ _);rotate_left;focus (first|(simp;done)|omega|(simp;omega)))|((with_reducible refine Below.alloc ?_ ?_ _);rotate_left;focus (first|(simp;done)|omega|(simp;omega)))|(with_reducible refine Below.drew ?_)|(with_reducible refine below_draws_ ?_ _)))
def gwV (k:Int):Int×Int:=if k=3 then (1,2) else if k=4 then (1,0) else if k=5 then (2,1) else if k=6 then (0,1) else if k=9 then (2,1) else if k=10 then (0,1) else if k=11 then (1,2) else if k=12 then (1,0) else (1,1)
def Dz (a0:Int):Option (Int×Int):=og (3<=a0/\a0<=14) (some (gwV a0))
def Sd (r:Int×Int):RV:=⟨false,[(true,[.sc (.int .i64 r.1),.sc (.int .i64 r.2)])]⟩
theorem Azj (k:Int) (h:3<=k/\k<=14) (w:World):Calls Tryz.prog 134 #[.int .i64 k] w fun e w'=>e=.returned (.agg #[.int .i64 (gwV k).1,.int .i64 (gwV k).2])/\Below w.heap.size w w':=by
 have hk:k=3∨k=4∨k=5∨k=6∨k=7∨k=8∨k=9∨k=10∨k=11∨k=12∨k=13∨k=14:=by omega
 rcases hk with rfl|rfl|rfl|rfl|rfl|rfl|rfl|rfl|rfl|rfl|rfl|rfl
 ·exact gw3 w
 ·exact gw4 w
 ·exact gw5 w
 ·exact gw6 w
 ·exact gw7 w
 ·exact gw8 w
 ·exact gw9 w
 ·exact A0h w
 ·exact A0f w
 ·exact A0g w
 ·exact A0e w
 ·exact A0i w
theorem Hm {a0:Int} {r:Int×Int} (h:Dz a0=some r):Cu Tryz.prog Tab 134 [.int .i64 a0] (Sd r):=by
 obtain ⟨hb,h⟩:=Al h;obtain rfl:=osj h;intro w im vs hG hr;obtain ⟨u1,_,rfl,h1,h2⟩:=hr;obtain rfl:_=[]:=h2;obtain rfl:u1=.int .i64 a0:=h1;refine (Azj a0 hb w).mono ?_;rintro e w' ⟨rfl,hw⟩;exact ⟨_,rfl,hw,[_,_],[],⟨_,_,rfl,rfl,rfl,_,_,rfl,rfl,rfl,rfl,rfl⟩,⟨trivial,fun _=>rfl⟩,rfl⟩
end
section
open Go.RowKit Go.Deep
def Ty.zav:Ty->List AV
 | .int=>[.int .i64 0]
 | .bool=>[.bool false]
 | .str=>[.str ByteArray.empty]
 | .slice _=>[.nils]
 | .pair a b=>a.zav++b.zav
theorem Va:∀ t:Ty,t.zav.length=t.size
 | .int | .bool | .str | .slice _=>rfl
 | .pair a b=>by simp only [Ty.zav,List.length_append,Va a,Va b,Ty.size]
section
variable {σ:Oid->Option Loc} {im:Nat->Prop} {w:World}
theorem Aa7 {R:Nat->Prop} {t:Ty} {v:Value} (h1:v=.slice none 0 0):∃ A c l,v=.slice A ([]:List t.D).length c/\Sl R w t A c ([]:List t.D) l :=
 ⟨none,0,[],h1,by simp,by simp [maxLen],fun _=>[],by simp,fun h=>absurd h (by simp)⟩
theorem Aiy (m:Option (Nat->Prop)):∀ (t:Ty) (vs:List Value),AV.RepL σ im w t.zav vs->AV.RepL σ im w (t.avM m t.dflt) vs
 | .int,_,h | .bool,_,h | .str,_,h=>h
 | .slice t,_,⟨v,vs',e,h1,h2⟩=>by
  refine ⟨v,vs',e,?_,h2⟩;have h1:v=.slice none 0 0:=h1;cases m with
  | none=>exact Aa7 h1
  | some n=>exact Aa7 h1
 | .pair a b,vs,h=>by
  have h1:=h.take a.size;have h2:=h.drop a.size;have e1:(Ty.pair a b).zav.take a.size=a.zav:=List.take_left' (Va a);have e2:(Ty.pair a b).zav.drop a.size=b.zav:=List.drop_left' (Va a);rw [e1] at h1;rw [e2] at h2;have:=(Aiy m a _ h1).append (Aiy m b _ h2);rw [List.take_append_drop] at this;exact this
theorem Ak7 (m:Option (Nat->Prop)) (t:Ty):∀ (n:Nat) (vs:List Value),AV.RepL σ im w (Aeg n t.zav) vs->AV.RepL σ im w (tvC m t (List.replicate n t.dflt)) vs
 | 0,_,h=>h
 | n+1,vs,h=>by
  have e:Aeg (n+1) t.zav=t.zav++Aeg n t.zav:=by simp only [Aeg,List.replicate_succ,List.flatten_cons]
  rw [e] at h;have h1:=h.take t.size;have h2:=h.drop t.size;rw [List.take_left' (Va t)] at h1;rw [List.drop_left' (Va t)] at h2;have:=(Aiy m t _ h1).append (Ak7 m t n _ h2);rw [List.take_append_drop] at this;exact this
end
theorem Apz {G:World->Prop} {tl:List (Nat×AV)} {ol:List (Oid×Option Ob)} {g:Nat} (o:Oid) {e:TypeId} {sz n:Nat} {cs ds:List AV} (h:Aj ol o=some (.vec e sz n cs)) (hr:∀ (σ:Oid->Option Loc) (im:Nat->Prop) (w:World) (vs:List Value),AV.RepL σ im w cs vs->AV.RepL σ im w ds vs) :
  WeakG G ⟨Ao tl,Aj ol,g⟩ ⟨Ao tl,upd (Aj ol) o (some (.vec e sz n ds)),g⟩:=by
 intro w0 B N a w hR;obtain ⟨σ,hm,hf,hB⟩:=hR.ex
 have hwas:∀ i x,upd (Aj ol) o (some (.vec e sz n ds)) i=some x->∃ y,Aj ol i=some y:=fun i x hx=>by
  by_cases hi:i=o
  ·subst hi;exact ⟨_,h⟩
  ·rw [Ax _ _ _ _ hi] at hx;exact ⟨x,hx⟩
 have him:∀ b,imm (Aj ol) σ b->imm (upd (Aj ol) o (some (.vec e sz n ds))) σ b:=fun b hb i x c s hx hs=>by
  obtain ⟨y,hy⟩:=hwas i x hx;exact hb i y c s hy hs
 have hL:Later σ σ (imm (Aj ol) σ) (imm (upd (Aj ol) o (some (.vec e sz n ds))) σ) w w:=⟨fun _ _ h=>h,fun b _ hb=>him b hb,fun _ _ _=>rfl,Nat.le_refl _⟩
 refine ⟨⟨σ,⟨hm.below,hm.inv,hm.gen,hm.lt,hm.cap,fun i j b c s c' s' x y hi hj=>?_,fun i x l hx hl=>?_⟩,fun t=>AV.Rep.later hL _ _ (hf t),hB.trans hL⟩,hR.size,hR.defers,fun i hi=>?_⟩
 ·obtain ⟨x',hx'⟩:=hwas i x hi;obtain ⟨y',hy'⟩:=hwas j y hj;exact hm.inj i j b c s c' s' x' y' hx' hy'
 ·have hx:upd (Aj ol) o (some (.vec e sz n ds)) i=some x:=hx;by_cases hi:i=o
  ·subst hi;rw [Bb] at hx;obtain rfl:=osj hx;obtain ⟨vs,p1,p2,p3,p4⟩:=hm.obs i _ l h hl;exact ⟨vs,p1,hr _ _ _ _ (AV.RepL.later hL _ _ p2),p3,p4⟩
  ·rw [Ax _ _ _ _ hi] at hx;exact (hm.obs i x l hx hl).later hL fun _ _ _ _=>rfl
 ·refine hR.obg i fun hn=>hi ?_
  show upd (Aj ol) o (some (.vec e sz n ds)) i=none;by_cases hio:i=o
  ·subst hio;have hn:Aj ol i=none:=hn;rw [h] at hn;cases hn
  ·rw [Ax _ _ _ _ hio];exact hn
theorem Ax2 {ol:List (Oid×Option Ob)} {o:Oid} {e:TypeId} {m:Option (Nat->Prop)} {t:Ty} {xs:List t.D} {N:Nat} (hN:N=xs.length):upd (Aj ol) o (some (.vec e t.size N (tvC m t xs)))=Aj ((o,some (.tv e m t xs)) :: ol):=by
 subst hN;funext i;show _=if i=o then some (Ob.vec e t.size xs.length (tvC m t xs)) else Aj ol i
 by_cases hi:i=o
 ·subst hi;rw [Bb,if_pos rfl]
 ·rw [Ax _ _ _ _ hi,if_neg hi]
theorem Atu {G:World->Prop} {tl:List (Nat×AV)} {ol:List (Oid×Option Ob)} {g:Nat} (o:Oid) (e:TypeId) (m:Option (Nat->Prop)) (t:Ty) {n sz:Nat} {zc:List AV} (h:Aj ol o=some (.vec e sz n (Aeg n zc))) (hz:t.zav=zc) (hs:t.size=sz):WeakG G ⟨Ao tl,Aj ol,g⟩ ⟨Ao tl,Aj ((o,some (.tv e m t (List.replicate n t.dflt))) :: ol),g⟩:=by
 subst hz hs;rw [← Ax2 (N:=n) (by simp)];exact Apz o h fun σ im w vs hv=>Ak7 m t n vs hv
theorem Z2 {m:Option (Nat->Prop)} {t:Ty}:∀ {xs:List t.D} {j:Nat} {z:t.D},xs[j]? =some z->tvC m t xs=tvC m t (xs.take j)++(t.avM m z++tvC m t (xs.drop (j+1)))
 | [],_,_,h=>by simp at h
 | y :: r,0,z,h=>by obtain rfl:=osj h;rfl
 | y :: r,j+1,z,h=>by
  have ih:=Z2 (m:=m) (xs:=r) (j:=j) (z:=z) (by simpa using h);have e:tvC m t (y :: r)=t.avM m y++tvC m t r:=rfl;have e2:tvC m t ((y :: r).take (j+1))=t.avM m y++tvC m t (r.take j):=rfl;rw [e,e2,ih,List.append_assoc];rfl
theorem Avh {m:Option (Nat->Prop)} {t:Ty} {xs:List t.D} {j:Nat} {z:t.D} (h:j<xs.length):tvC m t (xs.set j z)=tvC m t (xs.take j)++(t.avM m z++tvC m t (xs.drop (j+1))):=by
 rw [Z2 (xs:=xs.set j z) (j:=j) (z:=z) (by rw [List.getElem?_set_self h]),List.take_set_of_le (Nat.le_refl _),List.drop_set_of_lt oM]
section
variable {n:Nat} {d:Option Nat} {f:Nat->AV} {ob:Oid->Option Ob}
theorem At2 {e:TypeId} {t:Ty} {b:Nat} {zc:List AV} {x y:Opd} {k k':IntKind} {m c:Int} {j:Nat} (hx:x.ev f=.int k m) (hy:y.ev f=.int k' c) (hz:t.size=zc.length) (h:0<=m/\m<=c/\c<=1073741824/\(b:Int)*c<=140737488355328) (hj:m.toNat=j) :
  A9 n ⟨d,none,.makeV e t b zc x y⟩ f ob=some (1,.own ((d.getD 0,0),n) t 0 j,[(((d.getD 0,0),n),some (.vec e zc.length j (Aeg j zc)))]):=by
 subst hj;simp only [A9,ev,X5,hx,hy];rw [if_pos ⟨hz,h⟩]
theorem Azs {one:Bool} {k m1:Nat} {x y:Opd} {o:Oid} {e1:TypeId} {t:Ty} {N j:Nat} {m:Option (Nat->Prop)} {xs:List t.D} {z z1:t.D} (hx:x.ev f=.elt o j k) (hob:ob o=some (.vec e1 t.size N (tvC m t xs))) (hz:xs[j]? =some z) (hc:Hn one m1 k (t.avM m z) (y.ev f)=some (t.avM m z1)) :
  A9 n ⟨d,none,.st one m1 x y⟩ f ob=some (2,.any,[(o,none),(o,some (.vec e1 t.size N (tvC m t (xs.set j z1))))]):=by
 have hj:=(gSi.1 hz).1;have hl:(tvC m t (xs.take j)).length=j*t.size:=by rw [N1,List.length_take,Nat.min_eq_left oM]
 have e:Hn one m1 (j*t.size+k) (tvC m t xs) (y.ev f)=some (tvC m t (xs.set j z1)):=by
  rw [Avh hj,Z2 hz];have hz0:=Eo m t z;generalize tvC m t (xs.take j)=A at hl ⊢;generalize tvC m t (xs.drop (j+1))=B;generalize t.avM m z=C at hc hz0 ⊢;generalize t.avM m z1=D at hc ⊢;generalize y.ev f=v at hc ⊢;rw [← hl];unfold Hn at hc ⊢;cases one with
  | true =>
   rw [if_pos rfl] at hc ⊢;split at hc
   ·rename_i hk;obtain rfl:=osj hc;rw [if_pos ⟨by simp;omega,hk.2⟩,List.set_append,if_neg oM,Nat.add_sub_cancel_left,List.set_append,if_pos hk.1]
   ·cases hc
  | false =>
   rw [if_neg (by simp)] at hc ⊢;split at hc
   ·rename_i ds;split at hc
    ·rename_i hk;obtain rfl:=osj hc;rw [if_pos ⟨hk.1,by simp;omega,hk.2.2⟩];congr 1;rw [List.take_append,List.take_of_length_le oM,Nat.add_sub_cancel_left,List.take_append_of_le_length oM,Nat.add_assoc,← List.drop_drop,List.drop_left' rfl,List.drop_append_of_le_length oM];simp only [List.append_assoc]
    ·cases hc
   ·cases hc
 simp only [A9,ev,Ado,hx,hob,e,Option.map_some]
end
end
section
open Go.RowKit Go.Deep
set_option maxRecDepth 4000
set_option maxHeartbeats 4800000
variable {bA bB bC bD:Int} {gA gB:ByteArray} {hA hB:List (Int×Int×ByteArray)} {iA:Int×Int×ByteArray} {cA:Bool} {dA dB:LL} {jA:ByteArray×(List (Int×Int×ByteArray))×Int×Int×LL} {kA:List ByteArray} {lA:Int×Int×Bool}
def Q8 (u1 u2:Int) (u0:ByteArray) (a1:Int):Option Int :=
 cond (decide (wI (a1 - (u0.size:Int))<0))
 (some (-1))
 (some (wI (a1 - (u0.size:Int))))
theorem Aet (h:Q8 bA bB gA bC=some bD):cK 75 [.agg [ai bA,ai bB,.str gA],ai bC] (A4 bD):=by
 exact cO Tryz.func75 (Ae (Ae (Ab (Ae (kQ h (fun _ h=>Ae (Ac (tr_ (jS h)))) fun _ h=>skW (Ae (Ac (jS h))))))))
def It (a0:List (Int×Int×ByteArray)) (u1:Int) (u0:Nat):Option (Ctl (Int×Nat) (Ctl Int Int)) :=
 cond (decide ((u0:Int)<(a0.length:Int)))
 ((a0[u0]?).bind fun x15 =>
 (Q8 x15.1 x15.2.1 x15.2.2 u1).bind fun y16 =>
 cond (decide (y16<0))
  (some (Ctl.out (Ctl.out (-1))))
  (og (u0+1<4611686018427387904) <|
  some (Ctl.next (y16,u0+1))))
 (some (Ctl.out (Ctl.next u1)))
def L7 (a0:List (Int×Int×ByteArray)) (a1:Int):Option Int :=
 cond (decide (wI (a1 - (a0.length:Int))<0))
 (some (-1))
 (Cz (Aq (fun s_:Int×Nat=>It a0 s_.1 s_.2) 4611686018427387904 (wI (a1 - (a0.length:Int)),0)) fun u0 =>
 some u0)
theorem Abe (h:L7 hA bA=some bB):cK 41 [.tree Y8 hA,ai bA] (A4 bB):=by
 refine cO Tryz.func41 (Ae (Ae (Ab (Ae (kQ h (fun _ h=>Ae (Ac (tr_ (jS h)))) fun _ h=>skW (sqC h (fun u0=>sT [(1,ai u0)] []) ?_ fun u0 h=>Ae (Ac (jS h))))))));intro _ h hk7;refine Ae (Ad (lpF h (fun (u1,u2)=>sT [(0,.tree Y8 hA),(1,ai u1),(5,an u2)] []) (Ag []) ?_));rintro n_ ⟨u1,u2⟩ c_ h hn9;exact Ab (Ae (kQ h (fun _ h=>skW (Ab (Ad (Ab (Aa 13 (rsT 2 (riH Y8 h fun x15 _ h=>rsT 2 (rcH h Aet fun y16 h=>rsT 1 (rnW (Ae (kQ h (fun _ h=>Ae (Ac (br_ (tr_ (tr_ (br_ (tr_ (have h:=jO h hn9;(have h:=jO h hk7;jS h))))))))) fun _ h=>Aw (bn_ (tn_ (wr_ (Aa 18 (rsT 1 (raH h fun h=>rsT 1 (An (tn_ (jL [])))))))))))))))))))) fun _ h=>lxT (have h:=jO h hn9;jC [])))
def Q7 (u0 u1:Int) (u2:ByteArray):Option (Int×Int×ByteArray) :=
 some (u0,u1,u2)
def Ad2 (r:Int×Int×ByteArray):RV:=⟨false,[(true,[.sc (.int .i64 r.1),.sc (.int .i64 r.2.1),.sc (.str r.2.2)])]⟩
theorem Aeq (h:Q7 bA bB gA=some iA):cK 83 [.agg [ai bA,ai bB,.str gA]] (Ad2 iA):=by
 exact cO Tryz.func83 (Ae (Ae (Ae (Ae (Ae (Ae (Ac (jS h))))))))
def Ip (a0:List (Int×Int×ByteArray)) (u0:Nat) (u1:List (Int×Int×ByteArray)):Option (Ctl (Nat×(List (Int×Int×ByteArray))) (List (Int×Int×ByteArray))) :=
 cond (decide ((u0:Int)<(a0.length:Int)))
 ((a0[u0]?).bind fun x11 =>
 (Q7 x11.1 x11.2.1 x11.2.2).bind fun y12 =>
 (u1[u0]?).bind fun x13 =>
 og (u0+1<4611686018427387904) <|
 some (Ctl.next (u0+1,u1.set u0 y12)))
 (some (Ctl.out u1))
def Mc (a0:List (Int×Int×ByteArray)):Option (List (Int×Int×ByteArray)) :=
 og (0<=(a0.length:Int)/\(a0.length:Int)<=(a0.length:Int)/\(a0.length:Int)<=1073741824/\(32:Int)*(a0.length:Int)<=140737488355328) <|
(Aq (fun s_:Nat×(List (Int×Int×ByteArray))=>Ip a0 s_.1 s_.2) 4611686018427387904 (0,List.replicate a0.length ((0,0,(⟨#[]⟩:ByteArray)):Int×Int×ByteArray))).bind fun u0 =>
some u0
def Abt (r:List (Int×Int×ByteArray)):RV:=⟨false,[(false,[.new 98 Y8 r])]⟩
theorem Abq (h:Mc hA=some hB):cK 44 [.tree Y8 hA] (Abt hB):=by
 refine cO Tryz.func44 (Ae (Ab (Aa 6 (rsT 2 ?_))));obtain ⟨g3,h⟩:=Al h;refine rs1 (.own (oi 7 4) Y8 0 hA.length) (oi 7 4) (.arr 98 Y8 (List.replicate hA.length ((0,0,(⟨#[]⟩:ByteArray)):Int×Int×ByteArray))) (Pw (t:=Y8) (k:=.i64) (k':=.i64) (m:=(hA.length:Int)) (m':=(hA.length:Int)) kr kr g3 rfl) (rsT 1 (rnW (sqF h (fun u2=>sT [(3,.own (oi 0 1) Y8 0 u2.length)] [(oi 0 1,.arr 98 Y8 u2)]) ?_ fun u2 h=>Ae (Ac (jR h [.own (oi 0 1) Y8 0 u2.length] (Gl rfl (Du kr rfl) G8))))));intro _ h;refine Ae (Ad (lpF h (fun (u1,u0)=>sT [(0,.tree Y8 hA),(3,.own (oi 0 1) Y8 0 u0.length),(4,an u1)] [(oi 0 1,.arr 98 Y8 u0)]) ((wL 3 (List.length_replicate.symm:hA.length=(List.replicate hA.length ((0,0,(⟨#[]⟩:ByteArray)):Int×Int×ByteArray)).length)).trans (Ag [(oi 0 1,oi 7 4)])) ?_));rintro n_ ⟨u1,u0⟩ c_ h hn6;refine Ab (Ae (kQ h (fun _ h=>skW (Ab (Ad (Aa 15 (rsT 4 (riH Y8 h fun x11 _ h=>rsT 1 (rcH h Aeq fun y12 h=>?_))))))) fun _ h=>lxT (have h:=jO h hn6;jE [])));obtain ⟨x13,e13,h⟩:=Ah h;refine rs0 (.elt (oi 0 1) u1 0) (zo (t:=Y8) (o:=oi 0 1) (len:=u0.length) (k:=.i64) (m:=(u1:Int)) (Dx _) (Ai e13)) (Ai1 (oi 0 1) (oi 0 1) (.arr 98 Y8 (u0.set u1 y12)) (Af9 (i:=oi 0 1) (j:=u1) (k:=0) (e:=98) (t:=Y8) (xs:=u0) (cs:=[ai y12.1,ai y12.2.1,.str y12.2.2]) (x1:=y12) kr kr e13 kr kr) (An (bn_ (tn_ (wr_ (Aa 18 (rsT 1 (raH h fun h=>rsT 1 (An (tn_ ?_))))))))));obtain rfl:=zj h;exact jLw hn6 ((wL 3 (((rfl:u0.length=u0.length).trans List.length_set.symm):u0.length=(u0.set u1 y12).length)).trans (Ag []))
def Qy (u0 u1:Int) (u2:ByteArray) (u3 u4:Int) (u5:ByteArray):Option Bool :=
 cond (u0 !=u3)
 (some false)
 (cond (u1 !=u4)
  (some false)
  (cond (!(u2.toList==u5.toList))
   (some false)
   (some true)))
theorem Afb (h:Qy bA bB gA bC bD gB=some cA):cK 95 [.agg [ai bA,ai bB,.str gA],.agg [ai bC,ai bD,.str gB]] (Ak cA):=by
 exact cO Tryz.func95 (Ae (Ab (Ae (kQ h (fun _ h=>Ae (Ac (tr_ (jS h)))) fun _ h=>skW (Ab (Ae (kQ h (fun _ h=>Ae (Ac (tr_ (jS h)))) fun _ h=>skW (Ab (Ae (kQ h (fun _ h=>Ae (Ac (tr_ (jS h)))) fun _ h=>skW (Ae (Ac (jS h)))))))))))))
def Ix (a0:List (Int×Int×ByteArray)) (a1:List (Int×Int×ByteArray)) (u0:Nat):Option (Ctl Nat (Ctl Unit Bool)) :=
 cond (decide ((u0:Int)<(a0.length:Int)))
 ((a0[u0]?).bind fun x14 =>
 (a1[u0]?).bind fun x15 =>
 (Qy x14.1 x14.2.1 x14.2.2 x15.1 x15.2.1 x15.2.2).bind fun y16 =>
 cond (!y16)
  (some (Ctl.out (Ctl.out false)))
  (og (u0+1<4611686018427387904) <|
  some (Ctl.next (u0+1))))
 (some (Ctl.out (Ctl.next ())))
def Mn (a0:List (Int×Int×ByteArray)) (a1:List (Int×Int×ByteArray)):Option Bool :=
 cond ((a0.length:Int) !=(a1.length:Int))
 (some false)
 (Cz (Aq (fun s_:Nat=>Ix a0 a1 s_) 4611686018427387904 0) fun _ =>
 some true)
theorem Abi (h:Mn hA hB=some cA):cK 48 [.tree Y8 hA,.tree Y8 hB] (Ak cA):=by
 exact cO Tryz.func48 (Ae (Ab (Ae (kQ h (fun _ h=>Ae (Ac (tr_ (jS h)))) fun _ h=>skW (sqC h (fun _=>sT [] []) (fun _ h hk6=>Ae (Ad (lpF h (fun u0=>sT [(0,.tree Y8 hA),(1,.tree Y8 hB),(5,an u0)] []) (Ag []) (fun n_ u0 c_ h hn8=>Ab (Ae (kQ h (fun _ h=>skW (Ab (Ad (Ab (Am 16 (ds0 (.tree Y8 hA) kr (ds0 (an u0) kr (diH Y8 h fun x14 _ h=>dsT 3 (diH Y8 h fun x15 _ h=>ds0 (.agg [ai x15.1,ai x15.2.1,.str x15.2.2]) kr (dcH h Afb fun y16 h=>ds0 (.bool (!y16)) kr (B4 (Ar kr) (tn_ (wr_ (kQ h (fun _ h=>Ae (Ac (br_ (tr_ (tr_ (br_ (tr_ (have h:=jO h hn8;(have h:=jO h hk6;jS h))))))))) fun _ h=>Aw (bn_ (tn_ (wr_ (Aa 19 (rsT 1 (raH h fun h=>rsT 1 (An (tn_ (jL []))))))))))))))))))))))) fun _ h=>lxT (have h:=jO h hn8;jC []))))))) fun _ h=>Ae (Ac (jS h)))))))
def Kv (u0:List (Int×Int×ByteArray)) (a1:Int):Option Int :=
 (L7 u0 a1).bind fun y3 =>
cond (decide (y3<0))
 (some (-1))
 (some y3)
theorem Uw (h:Kv hA bA=some bB):cK 15 [.agg [.tree Y8 hA],ai bA] (A4 bB):=by
 exact cO Tryz.func15 (Ae (Ab (Aa 8 (rsT 3 (rcH h Abe fun y3 h=>rsT 1 (rnW (Ab (Ae (kQ h (fun _ h=>Ae (Ac (tr_ (jS h)))) fun _ h=>skW (Ae (Ac (jS h))))))))))))
def Gh (u0:List (Int×Int×ByteArray)):Option (List (Int×Int×ByteArray)) :=
 (Mc u0).bind fun y4 =>
some y4
def Aez (r:List (Int×Int×ByteArray)):RV:=⟨false,[(true,[.new 98 Y8 r])]⟩
theorem Mf (h:Gh hA=some hB):cK 18 [.agg [.tree Y8 hA]] (Aez hB):=by
 exact cO Tryz.func18 (Ae (Ae (Ab (Aa 9 (rsT 2 (rcH h Abq fun y4 h=>rsB 2 (rnW (Ae (Ac (jR h [.agg [.own (oi 96 6) Y8 0 y4.length]] (V0 (E8 (Du kr rfl) Xw) G8)))))))))))
def Km (u0:List (Int×Int×ByteArray)) (u1:List (Int×Int×ByteArray)):Option Bool :=
 (Mn u0 u1).bind fun y4 =>
cond (!y4)
 (some false)
 (some true)
theorem Um (h:Km hA hB=some cA):cK 22 [.agg [.tree Y8 hA],.agg [.tree Y8 hB]] (Ak cA):=by
 exact cO Tryz.func22 (Ae (Ab (Ab (Aa 10 (rsT 4 (rcH h Abi fun y4 h=>rsT 1 (rnW (kQ h (fun _ h=>Ae (Ac (tr_ (jS h)))) fun _ h=>skW (Ae (Ac (jS h)))))))))))
def Hl (u0:ByteArray) (u1:List (Int×Int×ByteArray)) (u2 u3:Int) (u4:LL) (a1:Int):Option Int :=
 cond (decide (wI (a1 - (u0.size:Int))<0))
 (some (-1))
 ((Kv u1 (wI (a1 - (u0.size:Int)))).bind fun y8 =>
 cond (decide (y8<0))
  (some (-1))
  ((Ge u2 u3 u4 y8).bind fun y14 =>
  cond (decide (y14<0))
   (some (-1))
   (some y14)))
theorem Vp (h:Hl gA hA bA bB dA bC=some bD):cK 7 [.agg [.str gA,.tree Y8 hA,ai bA,ai bB,tS dA],ai bC] (A4 bD):=by
 exact cO Tryz.func7 (Ae (Ae (Ab (Ae (kQ h (fun _ h=>Ae (Ac (tr_ (jS h)))) fun _ h=>skW (Ab (Aa 16 (rsT 3 (rcH h Uw fun y8 h=>rsT 1 (rnW (Ab (Ae (kQ h (fun _ h=>Ae (Ac (tr_ (jS h)))) fun _ h=>skW (Ab (Aa 23 (rsT 3 (rcH h P7 fun y14 h=>rsT 1 (rnW (Ab (Ae (kQ h (fun _ h=>Ae (Ac (tr_ (jS h)))) fun _ h=>skW (Ae (Ac (jS h))))))))))))))))))))))))
def Hv (u2:ByteArray) (u3:List (Int×Int×ByteArray)) (u0 u1:Int) (u4:LL):Option (ByteArray×(List (Int×Int×ByteArray))×Int×Int×LL) :=
 (Gh u3).bind fun y5 =>
(Dr u0 u1 u4).bind fun y7 =>
some (u2,y5,u0,u1,y7)
def Vm (r:ByteArray×(List (Int×Int×ByteArray))×Int×Int×LL):RV:=⟨false,[(true,[.sc (.str r.1),.frz (.tree Y8 r.2.1),.sc (.int .i64 r.2.2.1),.sc (.int .i64 r.2.2.2.1),.frz (tS r.2.2.2.2)])]⟩
theorem Vs (h:Hv gA hA bA bB dA=some jA):cK 9 [.agg [.str gA,.tree Y8 hA,ai bA,ai bB,tS dA]] (Vm jA):=by
 exact cZ Tryz.func9 fun zn_ nz_ hz_=>Ae (Ae (Ae (Ab (Aa 13 (rsT 2 (rcH h (fun h=>G1 (Mf h)) fun y5 h=>rsB 2 (rnW (Ab (Aa 18 (rsT 2 (rcM h [] [.agg [ai bA,ai bB,tS dA]] (fun h=>Ra (Hp h)) trivial (aR kr) (A5 kr kr trivial) fun y7 h=>rsB 2 (rnW (Ae (Ac (jZ h [(true,[.str gA,.own (oi 144 10) Y8 0 y5.length,ai bA,ai bB,oS 209 15 y7.length])] (D4 (Au Bx (Au (Bq (.arr (e:=98) kr rfl)) (Au Bx (Au Bx (Au (Bq (.mat (p:=oi 210 15) (e1:=82) (e:=3) kr (Cd kr) rfl)) D5))))) B8))))))))))))))))
def Hq (u0:ByteArray) (u1:List (Int×Int×ByteArray)) (u2 u3:Int) (u4:LL) (u5:ByteArray) (u6:List (Int×Int×ByteArray)) (u7 u8:Int) (u9:LL):Option Bool :=
 cond (!(u0.toList==u5.toList))
 (some false)
 ((Km u1 u6).bind fun y8 =>
 cond (!y8)
  (some false)
  ((Gd u2 u3 u4 u7 u8 u9).bind fun y13 =>
  cond (!y13)
   (some false)
   (some true)))
theorem Vr (h:Hq gA hA bA bB dA gB hB bC bD dB=some cA):cK 11 [.agg [.str gA,.tree Y8 hA,ai bA,ai bB,tS dA],.agg [.str gB,.tree Y8 hB,ai bC,ai bD,tS dB]] (Ak cA):=by
 exact cO Tryz.func11 (Ae (Ab (Ae (kQ h (fun _ h=>Ae (Ac (tr_ (jS h)))) fun _ h=>skW (Ab (Ab (Aa 15 (rsT 4 (rcH h Um fun y8 h=>rsT 1 (rnW (kQ h (fun _ h=>Ae (Ac (tr_ (jS h)))) fun _ h=>skW (Ab (Ab (Aa 21 (rsT 4 (rcH h Pz fun y13 h=>rsT 1 (rnW (kQ h (fun _ h=>Ae (Ac (tr_ (jS h)))) fun _ h=>skW (Ae (Ac (jS h)))))))))))))))))))))
def I7 (a0:Int):Option Bool :=
 (cond (decide (97<=a0))
  (some (decide (a0<=122)))
  (some false)).bind fun u0 =>
some u0
theorem Tc (h:I7 bA=some cA):cK 116 [.int .u8 bA] (Ak cA):=by
 exact cO Tryz.func116 (Ae (sqF h (fun u0=>sT [(2,.bool u0)] []) (fun _ h=>Aa 9 (rsT 3 (kR h 5 (fun _ h=>rsT 4 (An (tn_ (jE [])))) fun _ h=>rsT 4 (An (tn_ (jE [])))))) fun u0 h=>Ac (jS h)))
def Nh  : Option (List ByteArray) :=
 some ([(⟨#[]⟩:ByteArray),(⟨#[105,100]⟩:ByteArray),(⟨#[115,119,97,112]⟩:ByteArray),(⟨#[99,111,112,121]⟩:ByteArray),(⟨#[100,105,115,99,97,114,100]⟩:ByteArray),(⟨#[97,100,100]⟩:ByteArray),(⟨#[122,101,114,111]⟩:ByteArray),(⟨#[115,99,97,108,101]⟩:ByteArray),(⟨#[100,101,108,97,121]⟩:ByteArray),(⟨#[99,111,99,111,112,121]⟩:ByteArray),(⟨#[99,111,100,105,115,99,97,114,100]⟩:ByteArray),(⟨#[99,111,97,100,100]⟩:ByteArray),(⟨#[99,111,122,101,114,111]⟩:ByteArray),(⟨#[99,111,115,99,97,108,101]⟩:ByteArray),(⟨#[99,111,100,101,108,97,121]⟩:ByteArray)])
def Qp (r:List ByteArray):RV:=⟨false,[(false,[.new 9 .str r])]⟩
theorem Xu (h:Nh=some kA):cK 161 [] (Qp kA):=by
 exact cO Tryz.func161 (Ae (Ae (Ac (jR h [.own (oi 1 2) .str 0 15] (Gl rfl (Du kr rfl) G8)))))
def Ff (y4:List ByteArray) (a0:ByteArray) (u0:Nat):Option (Ctl Nat (Ctl Unit Int)) :=
 cond (decide ((u0:Int)<(y4.length:Int)))
 ((y4[u0]?).bind fun x11 =>
 cond (x11.toList==a0.toList)
  (some (Ctl.out (Ctl.out (u0:Int))))
  (og (u0+1<4611686018427387904) <|
  some (Ctl.next (u0+1))))
 (some (Ctl.out (Ctl.next ())))
def Ny (a0:ByteArray):Option Int :=
 Cz ((Nh).bind fun y4 =>
 Aq (fun s_:Nat=>Ff y4 a0 s_) 4611686018427387904 0) fun _ =>
some 17
theorem Ae2 (h:Ny gA=some bA):cK 117 [.str gA] (A4 bA):=by
 refine cO Tryz.func117 (Ae (sqC h (fun _=>sT [] []) ?_ fun _ h=>Ae (Ac (jS h))));intro _ h hk2;refine Ab (Aa 5 (rcH h Xu fun y4 h=>rsT 2 (rnW (Ad (lpF h (fun u0=>sT [(0,.str gA),(5,.own (oi 0 1) .str 0 y4.length),(6,an y4.length),(7,an u0)] [(oi 0 1,.arr 9 .str y4)]) (Ag [(oi 0 1,oi 80 2)]) ?_)))));intro n_ u0 c_ h hn5;refine Ae (Ab (kQ h (fun _ h=>skW (Ab (Ad (Ab (Aa 8 (rsT 1 ?_)))))) fun _ h=>lxT (have h:=jO h hn5;jC [])));obtain ⟨x11,e11,h⟩:=Ah h;exact zO (oi 0 1) .str y4.length (Ai e11) (rsl (.str x11) (He (i:=oi 0 1) (j:=u0) (k:=0) (e:=9) (t:=.str) (xs:=y4) kr kr e11 kr) (rsT 2 (rnW (Ae (kQ h (fun _ h=>Ae (Ac (br_ (tr_ (tr_ (br_ (tr_ (have h:=jO h hn5;(have h:=jO h hk2;jS h))))))))) fun _ h=>Aw (bn_ (tn_ (wr_ (Aa 13 (raH h fun h=>rsT 1 (An (tn_ (jL [])))))))))))))
def Ms (a0:Int):Option Bool :=
 (cond (decide (48<=a0))
  (some (decide (a0<=57)))
  (some false)).bind fun u0 =>
some u0
theorem Abo (h:Ms bA=some cA):cK 118 [.int .u8 bA] (Ak cA):=by
 exact cO Tryz.func118 (Ae (sqF h (fun u0=>sT [(2,.bool u0)] []) (fun _ h=>Aa 9 (rsT 3 (kR h 5 (fun _ h=>rsT 4 (An (tn_ (jE [])))) fun _ h=>rsT 4 (An (tn_ (jE [])))))) fun u0 h=>Ac (jS h)))
def J8 (a0:ByteArray) (u0:Nat):Option (Ctl Nat (Ctl Unit Bool)) :=
 cond (decide ((u0:Int)<(a0.size:Int)))
 (((a0[u0]?).bind fun x21 =>
  (I7 (x21.toNat:Int)).bind fun y22 =>
  cond (!y22)
   ((a0[u0]?).bind fun x24 =>
   (Ms (x24.toNat:Int)).bind fun y25 =>
   some (!y25))
   (some false)).bind fun u1 =>
 cond u1
  (some (Ctl.out (Ctl.out false)))
  (og (u0+1<4611686018427387904) <|
  some (Ctl.next (u0+1))))
 (some (Ctl.out (Ctl.next ())))
def H8 (a0:ByteArray):Option Bool :=
 ((B7 (a0.size:Int) 1 8).bind fun y4 =>
 cond (!y4)
  (some true)
  ((a0[0]?).bind fun x6 =>
  (I7 (x6.toNat:Int)).bind fun y7 =>
  cond (!y7)
   (some true)
   ((Ny a0).bind fun y9 =>
   some (y9 !=17)))).bind fun u0 =>
cond u0
 (some false)
 (Cz (Aq (fun s_:Nat=>J8 a0 s_) 4611686018427387904 0) fun _ =>
 some true)
theorem Uf (h:H8 gA=some cA):cK 67 [.str gA] (Ak cA):=by
 refine cO Tryz.func67 (Ae (Ab (sqF h (fun u1=>sT [(0,.str gA),(18,.bool u1)] []) ?_ ?_)))
 ·intro _ h;refine Aa 17 (rsT 2 (rcH h C0 fun y4 h=>rsT 2 ?_));rcases A0 h with ⟨q5,h⟩|⟨q5,h⟩
  ·exact rq 8 q5 (rsT 10 (An (tn_ (jE []))))
  refine rq 8 q5 (rsT 1 ?_);obtain ⟨x6,e6,h⟩:=Ah h;refine rs0 (.int .u8 (x6.toNat:Int)) (Pf (s:=gA) (k:=.i64) (m:=0) kr kr (by decide) rfl e6) (rcH h Tc fun y7 h=>rsT 3 ?_);rcases A0 h with ⟨q8,h⟩|⟨q8,h⟩
  ·exact rq 14 q8 (rsT 4 (An (tn_ (jE []))))
  exact rq 14 q8 (rsT 1 (rcH h Ae2 fun y9 h=>rsT 2 (An (tn_ (jE [])))))
 intro u1 h;refine kQ h (fun _ h=>Ae (Ac (tr_ (jS h)))) fun _ h=>skW (sqC h (fun _=>sT [] []) ?_ fun _ h=>Ae (Ac (jS h)))
 intro _ h hk12;refine Ae (Ad (lpF h (fun u0=>sT [(0,.str gA),(20,an gA.size),(21,an u0)] []) (Ag []) ?_));intro n_ u0 c_ h hn14;refine Ae (Ab (kQ h (fun _ h=>skW (Ab (Ad (Ae (sqF h (fun u2=>sT [(0,.str gA),(20,an gA.size),(21,an u0),(35,.bool u2)] []) ?_ fun u2 h=>kQ h (fun _ h=>Ae (Ac (br_ (tr_ (tr_ (br_ (tr_ (have h:=jO h hn14;(have h:=jO h hk12;jS h))))))))) fun _ h=>Aw (bn_ (tn_ (wr_ (Aa 4 (raH h fun h=>rsT 1 (An (tn_ (jL []))))))))))))) fun _ h=>lxT (have h:=jO h hn14;jC [])));intro _ h;refine Aa 17 (rsT 2 ?_);obtain ⟨x21,e21,h⟩:=Ah h;refine rs0 (.int .u8 (x21.toNat:Int)) (Pf (s:=gA) (k:=.i64) (m:=(u0:Int)) kr kr (Dx _) rfl e21) (rcH h Tc fun y22 h=>rsT 2 ?_);rcases A0 h with ⟨q23,h⟩|⟨q23,h⟩
 ·refine rq 29 q23 (rsT 2 ?_);obtain ⟨x24,e24,h⟩:=Ah h;exact rs0 (.int .u8 (x24.toNat:Int)) (Pf (s:=gA) (k:=.i64) (m:=(u0:Int)) kr kr (Dx _) rfl e24) (rcH h Abo fun y25 h=>rsT 2 (An (tn_ (jE []))))
 exact rq 29 q23 (rsT 6 (An (tn_ (jE []))))
def Li (a0:Int):Option Bool :=
 (B7 a0 3 14).bind fun y3 =>
some y3
theorem Vl (h:Li bA=some cA):cK 164 [ai bA] (Ak cA):=by
 exact cO Tryz.func164 (Ae (Ab (Aa 5 (rsT 1 (rcH h C0 fun y3 h=>rsT 1 (rnW (Ac (jS h))))))))
def Ey (a0:Int):Option Bool :=
 (cond (a0==7)
  (some true)
  (some (a0==13))).bind fun u0 =>
some u0
theorem M8 (h:Ey bA=some cA):cK 90 [ai bA] (Ak cA):=by
 exact cO Tryz.func90 (Ae (sqF h (fun u0=>sT [(2,.bool u0)] []) (fun _ h=>Aa 9 (rsT 3 (kR h 5 (fun _ h=>rsT 4 (An (tn_ (jE [])))) fun _ h=>rsT 4 (An (tn_ (jE [])))))) fun u0 h=>Ac (jS h)))
def G0 (a0 a1:Int):Option Bool :=
 (Ey a0).bind fun y4 =>
cond y4
 ((B7 a1 0 96).bind fun y7 =>
 some y7)
 (some (a1==0))
theorem Rc (h:G0 bA bB=some cA):cK 165 [ai bA,ai bB] (Ak cA):=by
 exact cO Tryz.func165 (Ae (Ab (Ab (Aa 4 (rsT 1 (rcH h M8 fun y4 h=>rnW (kQ h (fun _ h=>Ab (Aa 7 (rsT 1 (rcH h C0 fun y7 h=>rsT 1 (rnW (Ac (tr_ (jS h)))))))) fun _ h=>skW (Ae (Ac (jS h))))))))))
def Fd (u0 u1:Int) (u2:ByteArray):Option (Int×Int×Bool) :=
 cond (!(u2.toList==(⟨#[]⟩:ByteArray).toList))
 (some (0,0,false))
 (cond (u0==1)
  ((B7 u1 0 12).bind fun y9 =>
  some (u1,u1,y9))
  (cond (u0==2)
   (some (2,2,u1==0))
   ((Li u0).bind fun y14 =>
   cond y14
    ((Dz u0).bind fun y17 =>
    (G0 u0 u1).bind fun y18 =>
    some (y17.1,y17.2,y18))
    (some (0,0,false)))))
def Et (r:Int×Int×Bool):RV:=⟨true,[(true,[.sc (.int .i64 r.1),.sc (.int .i64 r.2.1)]),(false,[.sc (.bool r.2.2)])]⟩
theorem Qj (h:Fd bA bB gA=some lA):cK 121 [.agg [ai bA,ai bB,.str gA]] (Et lA):=by
 exact cO Tryz.func121 (Ae (Ab (Ad (Ae (kQ h (fun _ h=>Ae (Ac (br_ (tr_ (jS h))))) fun _ h=>Ae (kQ h (fun _ h=>Ab (Am 22 (dsT 7 (dcH h C0 fun y9 h=>Ke (oi 2 2) (oi 2 2) (.cells 93 [ai bB,ai bB]) kr (ds0 (.bool y9) kr (B4 (Ar kr) (tn_ (wr_ (Ac (br_ (tr_ (jS h)))))))))))) fun _ h=>Ae (kQ h (fun _ h=>Ab (Am 22 (dsT 4 (Ke (oi 2 2) (oi 2 2) (.cells 93 [ai 2,ai 2]) kr (ds0 (.bool (bB==0)) kr (B4 (Ar kr) (tn_ (wr_ (Ac (br_ (tr_ (jS h)))))))))))) fun _ h=>Ab (Aa 20 (rsT 2 (rcH h Vl fun y14 h=>rsT 1 (rnW (kQ h (fun _ h=>Ab (Am 30 (ds0 (.box (oi 1 1) 0) kr (dsl (ai bA) kr (dcH h Hm fun y17 h=>dsT 4 (dcH h Rc fun y18 h=>Ke (oi 2 2) (oi 2 2) (.cells 93 [ai y17.1,ai y17.2]) kr (ds0 (.bool y18) kr (B4 (Ar kr) (tn_ (wr_ (Ac (br_ (tr_ (jS h)))))))))))))) fun _ h=>Aw (bn_ (tn_ (wr_ (Ae (Ac (jS h))))))))))))))))))
def Ce (a0:ByteArray) (u0:Nat):Option (Ctl Nat (Ctl Unit Bool)) :=
 cond (decide ((u0:Int)<(a0.size:Int)))
 (((a0[u0]?).bind fun x19 =>
  cond (decide ((x19.toNat:Int)<97))
   ((a0[u0]?).bind fun x21 =>
   cond (decide ((x21.toNat:Int)<48))
    (some true)
    ((a0[u0]?).bind fun x23 =>
    some (decide (57<(x23.toNat:Int)))))
   ((a0[u0]?).bind fun x24 =>
   cond (decide (122<(x24.toNat:Int)))
    ((a0[u0]?).bind fun x26 =>
    cond (decide ((x26.toNat:Int)<48))
     (some true)
     ((a0[u0]?).bind fun x28 =>
     some (decide (57<(x28.toNat:Int)))))
    (some false))).bind fun u1 =>
 cond u1
  (some (Ctl.out (Ctl.out false)))
  (og (u0+1<4611686018427387904) <|
  some (Ctl.next (u0+1))))
 (some (Ctl.out (Ctl.next ())))
def Q5 (a0:ByteArray):Option Bool :=
 ((Cn (a0.size:Int) 1 8).bind fun y4 =>
 cond (!y4)
  (some true)
  ((a0[0]?).bind fun x6 =>
  cond (decide ((x6.toNat:Int)<97))
   (some true)
   ((a0[0]?).bind fun x8 =>
   some (decide (122<(x8.toNat:Int)))))).bind fun u0 =>
cond u0
 (some false)
 (Cz (Aq (fun s_:Nat=>Ce a0 s_) 4611686018427387904 1) fun _ =>
 some true)
theorem Acj (h:Q5 gA=some cA):cK 109 [.str gA] (Ak cA):=by
 refine cO Tryz.func109 (Ae (Ab (sqF h (fun u1=>sT [(0,.str gA),(17,.bool u1)] []) ?_ ?_)))
 ·intro _ h;refine Aa 16 (rsT 2 (rcH h C4 fun y4 h=>rsT 2 ?_));rcases A0 h with ⟨q5,h⟩|⟨q5,h⟩
  ·exact rq 8 q5 (rsT 9 (An (tn_ (jE []))))
  refine rq 8 q5 (rsT 1 ?_);obtain ⟨x6,e6,h⟩:=Ah h;refine rs0 (.int .u8 (x6.toNat:Int)) (Pf (s:=gA) (k:=.i64) (m:=0) kr kr (by decide) rfl e6) (rsT 3 ?_);rcases A0 h with ⟨q7,h⟩|⟨q7,h⟩
  ·exact rq 13 q7 (rsT 4 (An (tn_ (jE []))))
  refine rq 13 q7 (rsT 1 ?_);obtain ⟨x8,e8,h⟩:=Ah h;exact rs0 (.int .u8 (x8.toNat:Int)) (Pf (s:=gA) (k:=.i64) (m:=0) kr kr (by decide) rfl e8) (rsT 2 (An (tn_ (jE []))))
 intro u1 h;refine kQ h (fun _ h=>Ae (Ac (tr_ (jS h)))) fun _ h=>skW (sqC h (fun _=>sT [] []) ?_ fun _ h=>Ae (Ac (jS h)))
 intro _ h hk11;refine Ae (Ad (lpF h (fun u0=>sT [(0,.str gA),(3,an u0)] []) (Ag []) ?_));intro n_ u0 c_ h hn13;refine Ab (Ae (kQ h (fun _ h=>skW (Ab (Ad (sqF h (fun u2=>sT [(0,.str gA),(3,an u0),(45,.bool u2)] []) ?_ fun u2 h=>kQ h (fun _ h=>Ae (Ac (br_ (tr_ (tr_ (br_ (tr_ (have h:=jO h hn13;(have h:=jO h hk11;jS h))))))))) fun _ h=>Aw (bn_ (tn_ (wr_ (Aa 5 (rsT 1 (raH h fun h=>rsT 1 (An (tn_ (jL []))))))))))))) fun _ h=>lxT (have h:=jO h hn13;jC [])));intro _ h;refine Aa 28 (rsT 2 ?_);obtain ⟨x19,e19,h⟩:=Ah h;refine rs0 (.int .u8 (x19.toNat:Int)) (Pf (s:=gA) (k:=.i64) (m:=(u0:Int)) kr kr (Dx _) rfl e19) (rsT 2 ?_);rcases A0 h with ⟨q20,h⟩|⟨q20,h⟩
 ·refine rq 28 q20 (rsT 8 ?_);obtain ⟨x21,e21,h⟩:=Ah h;refine rs0 (.int .u8 (x21.toNat:Int)) (Pf (s:=gA) (k:=.i64) (m:=(u0:Int)) kr kr (Dx _) rfl e21) (rsT 2 ?_);rcases A0 h with ⟨q22,h⟩|⟨q22,h⟩
  ·exact rq 39 q22 (rsT 6 (An (tn_ (jE []))))
  refine rq 39 q22 (rsT 2 ?_);obtain ⟨x23,e23,h⟩:=Ah h;exact rs0 (.int .u8 (x23.toNat:Int)) (Pf (s:=gA) (k:=.i64) (m:=(u0:Int)) kr kr (Dx _) rfl e23) (rsT 3 (An (tn_ (jE []))))
 refine rq 28 q20 (rsT 2 ?_);obtain ⟨x24,e24,h⟩:=Ah h;refine rs0 (.int .u8 (x24.toNat:Int)) (Pf (s:=gA) (k:=.i64) (m:=(u0:Int)) kr kr (Dx _) rfl e24) (rsT 3 ?_);rcases A0 h with ⟨q25,h⟩|⟨q25,h⟩
 ·refine rq 34 q25 (rsT 2 ?_);obtain ⟨x26,e26,h⟩:=Ah h;refine rs0 (.int .u8 (x26.toNat:Int)) (Pf (s:=gA) (k:=.i64) (m:=(u0:Int)) kr kr (Dx _) rfl e26) (rsT 2 ?_);rcases A0 h with ⟨q27,h⟩|⟨q27,h⟩
  ·exact rq 39 q27 (rsT 6 (An (tn_ (jE []))))
  refine rq 39 q27 (rsT 2 ?_);obtain ⟨x28,e28,h⟩:=Ah h;exact rs0 (.int .u8 (x28.toNat:Int)) (Pf (s:=gA) (k:=.i64) (m:=(u0:Int)) kr kr (Dx _) rfl e28) (rsT 3 (An (tn_ (jE []))))
 exact rq 34 q25 (rsT 5 (rs0 (.tup []) (Qe kr) (rs0 (.tup []) (Qe kr) (rs0 (.tup []) (Qe kr) (rs0 (.tup []) (Qe kr) (rsT 2 (An (tn_ (jE [])))))))))
def Mj  : Option (List ByteArray) :=
 some ([(⟨#[105,100]⟩:ByteArray),(⟨#[115,119,97,112]⟩:ByteArray),(⟨#[99,111,112,121]⟩:ByteArray),(⟨#[100,105,115,99,97,114,100]⟩:ByteArray),(⟨#[97,100,100]⟩:ByteArray),(⟨#[122,101,114,111]⟩:ByteArray),(⟨#[115,99,97,108,101]⟩:ByteArray),(⟨#[100,101,108,97,121]⟩:ByteArray),(⟨#[99,111,99,111,112,121]⟩:ByteArray),(⟨#[99,111,100,105,115,99,97,114,100]⟩:ByteArray),(⟨#[99,111,97,100,100]⟩:ByteArray),(⟨#[99,111,122,101,114,111]⟩:ByteArray),(⟨#[99,111,115,99,97,108,101]⟩:ByteArray),(⟨#[99,111,100,101,108,97,121]⟩:ByteArray)])
theorem V3 (h:Mj=some kA):cK 111 [] (Qp kA):=by
 exact cO Tryz.func111 (Ae (Ae (Ac (jR h [.own (oi 1 2) .str 0 14] (Gl rfl (Du kr rfl) G8)))))
def Fc (a0:List ByteArray) (a1:ByteArray) (u0:Nat):Option (Ctl Nat (Ctl Unit Bool)) :=
 cond (decide ((u0:Int)<(a0.length:Int)))
 ((a0[u0]?).bind fun x10 =>
 cond (x10.toList==a1.toList)
  (some (Ctl.out (Ctl.out true)))
  (og (u0+1<4611686018427387904) <|
  some (Ctl.next (u0+1))))
 (some (Ctl.out (Ctl.next ())))
def Nr (a0:List ByteArray) (a1:ByteArray):Option Bool :=
 Cz (Aq (fun s_:Nat=>Fc a0 a1 s_) 4611686018427387904 0) fun _ =>
some false
theorem Aes (h:Nr kA gA=some cA):cK 110 [.tree .str kA,.str gA] (Ak cA):=by
 exact cO Tryz.func110 (Ae (sqC h (fun _=>sT [] []) (fun _ h hk2=>Ae (Ad (lpF h (fun u0=>sT [(1,.str gA),(7,.tree .str kA),(8,an kA.length),(9,an u0)] []) (Ag []) (fun n_ u0 c_ h hn4=>Ae (Ab (kQ h (fun _ h=>skW (Ab (Ad (Ab (Aa 6 (riH .str h fun x10 _ h=>rsT 2 (rnW (Ae (kQ h (fun _ h=>Ae (Ac (br_ (tr_ (tr_ (br_ (tr_ (have h:=jO h hn4;(have h:=jO h hk2;jS h))))))))) fun _ h=>Aw (bn_ (tn_ (wr_ (Aa 11 (raH h fun h=>rsT 1 (An (tn_ (jL []))))))))))))))))) fun _ h=>lxT (have h:=jO h hn4;jC []))))))) fun _ h=>Ae (Ac (jS h))))
def N0 (a0:ByteArray):Option Bool :=
 ((Q5 a0).bind fun y3 =>
 cond y3
  ((Mj).bind fun y5 =>
  (Nr y5 a0).bind fun y6 =>
  some (!y6))
  (some false)).bind fun u0 =>
some u0
theorem Aff (h:N0 gA=some cA):cK 61 [.str gA] (Ak cA):=by
 refine cO Tryz.func61 (Ae (sqF h (fun u0=>sT [(2,.bool u0)] []) ?_ fun u0 h=>Ac (jS h)));intro _ h;refine Aa 11 (rsT 1 (rcH h Acj fun y3 h=>rsT 1 ?_));rcases A0 h with ⟨q4,h⟩|⟨q4,h⟩
 ·exact rq 5 q4 (rcH h V3 fun y5 h=>rsT 1 (rcG h [.own (oi 96 5) .str 0 y5.length,.str gA] Aes (Ap (D6 (e:=9) kr rfl) (Ap kr Br)) fun y6 h=>rsT 3 (An (tn_ (jE [])))))
 exact rq 5 q4 (rsT 6 (An (tn_ (jE []))))
end


section
open Go.RowKit Go.Deep
set_option maxRecDepth 4000
set_option maxHeartbeats 4800000
variable {bA bB bC bD bE:Int} {cA:Bool} {lA:Int×Int×Bool} {hA:List (Int×Int×ByteArray)} {gA:ByteArray} {dA:LL}
def M6 (u0 u1:Int):Option Bool :=
 (cond (decide (u0<=12))
  (some (decide (u1<=12)))
  (some false)).bind fun u2 =>
some u2
theorem X6 (h:M6 bA bB=some cA):cK 187 [.agg [ai bA,ai bB]] (Ak cA):=by
 exact cO Tryz.func187 (Ae (sqF h (fun u2=>sT [(2,.bool u2)] []) (fun _ h=>Aa 12 (rsT 4 (kR h 6 (fun _ h=>rsT 5 (An (tn_ (jE [])))) fun _ h=>rsT 5 (An (tn_ (jE [])))))) fun u2 h=>Ac (jS h)))
def Fg (a0 u0:Int) (u1 u2 u3:Int):Option (Int×Int×Bool) :=
 cond (a0==15)
 (some (u0,u3,u1==u2))
 ((M6 (wI (u0+u2)) (wI (u1+u3))).bind fun y8 =>
 some (wI (u0+u2),wI (u1+u3),y8))
theorem Qx (h:Fg bA bB bC bD bE=some lA):cK 163 [ai bA,.agg [ai bB,ai bC],.agg [ai bD,ai bE]] (Et lA):=by
 exact cO Tryz.func163 (Ae (Ab (Ae (kQ h (fun _ h=>Ab (Am 19 (dsT 10 (Ke (oi 6 3) (oi 6 3) (.cells 93 [ai bB,ai bE]) kr (ds0 (.bool (bC==bD)) kr (B4 (Ar kr) (tn_ (wr_ (Ac (tr_ (jS h))))))))))) fun _ h=>skW (Ae (Ab (Am 25 (dsl (.agg [ai (wI (bB+bD)),ai (wI (bC+bE))]) kr (dsl (.agg [ai (wI (bB+bD)),ai (wI (bC+bE))]) kr (dcH h X6 fun y8 h=>Ke (oi 6 3) (oi 6 3) (.cells 93 [ai (wI (bB+bD)),ai (wI (bC+bE))]) kr (ds0 (.bool y8) kr (B4 (Ar kr) (tn_ (wr_ (Ac (jS h))))))))))))))))
def Lo (a0:List (Int×Int×ByteArray)) (u1:Nat) (u0:List (Int×Int)):Option (Ctl (Nat×(List (Int×Int))) (Ctl (List (Int×Int)) (Int×Int×Bool))) :=
 cond (decide ((u1:Int)<(a0.length:Int)))
 (Cz ((a0[u1]?).bind fun x16 =>
  (cond (x16.1 !=15)
    (some (x16.1 !=16))
    (some false)).bind fun u2 =>
  cond u2
   ((Fd x16.1 x16.2.1 x16.2.2).bind fun y22 =>
   cond (!y22.2.2)
    (some (Ctl.out (Ctl.out (Ctl.out (0,0,false)))))
    (og (u0.length+1<=1073741824/\(u0.length+1)*16<=140737488355328) <|
    some (Ctl.next (u0++([(y22.1,y22.2.1)])))))
   ((cond (x16.2.1 !=0)
     (some true)
     (cond (!(x16.2.2.toList==(⟨#[]⟩:ByteArray).toList))
      (some true)
      (some (decide ((u0.length:Int)<2))))).bind fun u3 =>
   cond u3
    (some (Ctl.out (Ctl.out (Ctl.out (0,0,false)))))
    ((B2 u0 (wI ((wI ((u0.length:Int) - 1)) - 1))).bind fun x37 =>
    (B2 u0 (wI ((wI ((u0.length:Int) - 1)) - 1))).bind fun x38 =>
    (B2 u0 (wI ((u0.length:Int) - 1))).bind fun x39 =>
    (B2 u0 (wI ((u0.length:Int) - 1))).bind fun x40 =>
    (Fg x16.1 x38.1 x38.2 x40.1 x40.2).bind fun y41 =>
    cond (!y41.2.2)
     (some (Ctl.out (Ctl.out (Ctl.out (0,0,false)))))
     (og ((0:Int)<=0/\0<=wI ((wI ((u0.length:Int) - 1)) - 1)/\wI ((wI ((u0.length:Int) - 1)) - 1)<=(u0.length:Int)) <|
     og (((u0.take ((wI ((wI ((u0.length:Int) - 1)) - 1)).toNat)).length)+1<=1073741824/\(((u0.take ((wI ((wI ((u0.length:Int) - 1)) - 1)).toNat)).length)+1)*16<=140737488355328) <|
     some (Ctl.next ((u0.take ((wI ((wI ((u0.length:Int) - 1)) - 1)).toNat))++([(y41.1,y41.2.1)]))))))) fun u4 =>
 og (u1+1<4611686018427387904) <|
 some (Ctl.next (u1+1,u4)))
 (some (Ctl.out (Ctl.next u0)))
def Dw (a0:List (Int×Int×ByteArray)):Option (Int×Int×Bool) :=
 (B7 (a0.length:Int) 1 400).bind fun y4 =>
cond (!y4)
 (some (0,0,false))
 (Cz (Aq (fun s_:Nat×(List (Int×Int))=>Lo a0 s_.1 s_.2) 4611686018427387904 (0,[])) fun u0 =>
 (u0[0]?).bind fun x50 =>
 some (x50.1,x50.2,(u0.length:Int)==1))
theorem Me (h:Dw hA=some lA):cK 120 [.tree Y8 hA,.fn 121 []] (Et lA):=by
 refine cO Tryz.func120 (Ae (Ab (Ab (Aa 7 (rsT 2 (rcH h C0 fun y4 h=>rsT 1 (rnW (kQ h (fun _ h=>Ae (Ac (tr_ (jS h)))) fun _ h=>skW (Ae (sqC h (fun u1=>sT [(4,.box (oi 0 1) 0),(6,.own (oi 1 1) Y3 0 u1.length)] [(oi 0 1,.cells 93 [ai 0,ai 0]),(oi 1 1,.arr 93 Y3 u1)]) ?_ ?_))))))))))
 ·intro _ h hk8;refine Ae (Ad (lpF h (fun (u2,u0)=>sT [(1,.fn 121 []),(4,.box (oi 0 1) 0),(6,.own (oi 1 1) Y3 0 u0.length),(20,.tree Y8 hA),(21,an hA.length),(22,an u2)] [(oi 0 1,.cells 93 [ai 0,ai 0]),(oi 1 1,.arr 93 Y3 u0)]) (Ag [(oi 0 1,oi 4 1),(oi 1 1,oi 19 7)]) ?_));rintro n_ ⟨u2,u0⟩ c_ h hn10
  (try dsimp only at h);refine Ae (Ab (kQ h (fun q13 h=>?_) fun q13 h=>?_))
  ·have q13_:=of_decide_eq_true q13;refine skW (sqC h (fun u3=>sT [(1,.fn 121 []),(4,.box (oi 0 1) 0),(6,.own (oi 1 1) Y3 0 u3.length),(20,.tree Y8 hA),(21,an hA.length),(22,an u2)] [(oi 0 1,.cells 93 [ai 0,ai 0]),(oi 1 1,.arr 93 Y3 u3)]) ?_ ?_)
   ·intro _ h hk14;refine Ad (Ab (Aa 7 (riH Y8 h fun x16 _ h=>rsB 3 (rnW (Ab (sqF h (fun u4=>sT [(1,.fn 121 []),(4,.box (oi 0 1) 0),(6,.own (oi 1 1) Y3 0 u0.length),(8,.box (oi 2 1) 0),(20,.tree Y8 hA),(21,an hA.length),(22,an u2),(33,.bool u4)] [(oi 0 1,.cells 93 [ai 0,ai 0]),(oi 1 1,.arr 93 Y3 u0),(oi 2 1,.cells 98 [ai x16.1,ai x16.2.1,.str x16.2.2])]) (fun _ h=>Aa 15 (rsT 4 (kR h 29 (fun _ h=>rsT 4 (An (tn_ (jE [(oi 2 1,oi 8 5)])))) fun _ h=>rsT 4 (An (tn_ (jE [(oi 2 1,oi 8 5)])))))) ?_))))));intro u4 h
    (try dsimp only at h);refine kQ h (fun _ h=>?_) fun _ h=>?_
    ·refine Ab (Aa 11 (rsT 2 (rcH h Qj fun y22 h=>rsB 6 (rnW (Ab (Ae (kQ h (fun _ h=>?_) fun _ h=>?_)))))))
     ·refine Ae (Ac (tr_ (tr_ (br_ (tr_ (tr_ (br_ (tr_ ?_))))))));have h:=jO h hk14
      (try dsimp only at h);have h:=jO h hn10
      (try dsimp only at h);have h:=jO h hk8
      (try dsimp only at h);exact jS h
     refine skW (Ab (Aa 18 (rsB 3 ?_)));obtain ⟨g28,h⟩:=Al h;exact rs2 (.own (oi 1 16) Y3 0 ((u0++([(y22.1,y22.2.1)])).length)) (oi 1 1) (oi 1 16) (.arr 93 Y3 (u0++([(y22.1,y22.2.1)]))) (Pv (t:=Y3) (t':=Y3) (xs:=u0) (ys:=[(y22.1,y22.2.1)]) (zs:=u0++([(y22.1,y22.2.1)])) (j:=oi 1 1) (len:=u0.length) (c:=.own (oi 45 15) Y3 0 1) kr kr rfl kr (Ib (e:=93) kr rfl) rfl g28) (rsT 1 (rnW (D7 (te_ (be_ (tn_ (jC [(oi 1 1,oi 1 16)])))))))
    refine skW (Ab (sqF h (fun u5=>sT [(1,.fn 121 []),(4,.box (oi 0 1) 0),(6,.own (oi 1 1) Y3 0 u0.length),(8,.box (oi 2 1) 0),(20,.tree Y8 hA),(21,an hA.length),(22,an u2),(59,.bool u5)] [(oi 0 1,.cells 93 [ai 0,ai 0]),(oi 1 1,.arr 93 Y3 u0),(oi 2 1,.cells 98 [ai x16.1,ai x16.2.1,.str x16.2.2])]) (fun _ h=>Aa 15 (rsT 4 (kR h 50 (fun _ h=>rsT 9 (An (tn_ (jE [])))) fun _ h=>rsT 5 (kR h 55 (fun _ h=>rsT 4 (An (tn_ (jE [])))) fun _ h=>rsT 4 (An (tn_ (jE []))))))) ?_));intro u5 h
    (try dsimp only at h);refine kQ h (fun _ h=>?_) fun _ h=>?_
    ·refine Ae (Ac (tr_ (br_ (tr_ (tr_ (br_ (tr_ ?_)))))));have h:=jO h hk14
     (try dsimp only at h);have h:=jO h hn10
     (try dsimp only at h);have h:=jO h hk8
     (try dsimp only at h);exact jS h
    refine skW (Ae (Ab (Am 24 (dsT 5 ?_))));obtain ⟨x37,f37,h⟩:=Ah h;obtain ⟨p37,b37,e37⟩:=As f37;refine ds0 (.elt (oi 1 1) ((wI ((wI ((u0.length:Int) - 1)) - 1)).toNat) 0) (zo (t:=Y3) (o:=oi 1 1) (len:=u0.length) (k:=.i64) (m:=wI ((wI ((u0.length:Int) - 1)) - 1)) p37 (Ai e37)) ?_;obtain ⟨x38,f38,h⟩:=Ah h;obtain ⟨p38,b38,e38⟩:=As f38;refine dsl (.agg [ai x38.1,ai x38.2]) (He (i:=oi 1 1) (j:=(wI ((wI ((u0.length:Int) - 1)) - 1)).toNat) (k:=0) (e:=93) (t:=Y3) (xs:=u0) kr kr e38 kr) (dz0 (.own (oi 1 1) Y3 0 u0.length) (dz0 (ai (wI ((u0.length:Int) - 1))) ?_));obtain ⟨x39,f39,h⟩:=Ah h;obtain ⟨p39,b39,e39⟩:=As f39;refine ds0 (.elt (oi 1 1) ((wI ((u0.length:Int) - 1)).toNat) 0) (zo (t:=Y3) (o:=oi 1 1) (len:=u0.length) (k:=.i64) (m:=wI ((u0.length:Int) - 1)) p39 (Ai e39)) ?_;obtain ⟨x40,f40,h⟩:=Ah h;obtain ⟨p40,b40,e40⟩:=As f40;refine dsl (.agg [ai x40.1,ai x40.2]) (He (i:=oi 1 1) (j:=(wI ((u0.length:Int) - 1)).toNat) (k:=0) (e:=93) (t:=Y3) (xs:=u0) kr kr e40 kr) (dcH h Qx fun y41 h=>dz0 (.tup [.agg [ai y41.1,ai y41.2.1],.bool y41.2.2]) (dz0 (.agg [ai y41.1,ai y41.2.1]) (dz0 (.bool y41.2.2) (ds1 (.box (oi 12 21) 0) (oi 12 21) (.cells 93 [ai 0,ai 0]) kr (Ke (oi 12 21) (oi 12 21) (.cells 93 [ai y41.1,ai y41.2.1]) kr (dz0 (.bool y41.2.2) (B4 (Ar kr) (tn_ (wr_ (Ab (Ae (kQ h (fun _ h=>?_) fun _ h=>?_))))))))))))
    ·refine Ae (Ac (tr_ (br_ (tr_ (tr_ (br_ (tr_ ?_)))))));have h:=jO h hk14
     (try dsimp only at h);have h:=jO h hn10
     (try dsimp only at h);have h:=jO h hk8
     (try dsimp only at h);exact jS h
    refine skW (Am 34 (dsT 3 ?_));obtain ⟨g46,h⟩:=Al h;obtain ⟨g47,h⟩:=Al h;exact ds0 (.own (oi 1 1) Y3 0 ((wI ((wI ((u0.length:Int) - 1)) - 1)).toNat)) (F9 (t:=Y3) (i:=oi 1 1) (off:=0) (len:=u0.length) (l:=0) (h:=wI ((wI ((u0.length:Int) - 1)) - 1)) kr kr kr rfl g46 rfl oM) (dzl (.agg [ai y41.1,ai y41.2.1]) (ds1 (.own (oi 87 31) Y3 0 1) (oi 87 31) (.arr 93 Y3 ([(y41.1,y41.2.1)])) kr (ds2 (.own (oi 1 32) Y3 0 (((u0.take ((wI ((wI ((u0.length:Int) - 1)) - 1)).toNat))++([(y41.1,y41.2.1)])).length)) (oi 1 1) (oi 1 32) (.arr 93 Y3 ((u0.take ((wI ((wI ((u0.length:Int) - 1)) - 1)).toNat))++([(y41.1,y41.2.1)]))) (Arh (t:=Y3) (t':=Y3) (xs:=u0) (ys:=[(y41.1,y41.2.1)]) (zs:=(u0.take ((wI ((wI ((u0.length:Int) - 1)) - 1)).toNat))++([(y41.1,y41.2.1)])) (j:=oi 1 1) (len:=(wI ((wI ((u0.length:Int) - 1)) - 1)).toNat) (c:=.own (oi 87 31) Y3 0 1) kr kr oM kr (Ib (e:=93) kr rfl) rfl g47) (dz0 (.own (oi 1 32) Y3 0 (((u0.take ((wI ((wI ((u0.length:Int) - 1)) - 1)).toNat))++([(y41.1,y41.2.1)])).length)) (B4 (Ar kr) (bn_ (tn_ (jC [(oi 1 1,oi 1 32)]))))))))
   intro u3 h
   (try dsimp only at h);refine Aa 4 ?_;obtain ⟨g48,h⟩:=Al h;exact zA g48 (rsT 1 (An (tn_ (jL []))))
  have q13_:=of_decide_eq_false q13;refine lxT ?_;have h:=jO h hn10
  (try dsimp only at h);exact jC []
 intro u1 h
 (try dsimp only at h);refine Ab (Aa 10 (rsT 1 ?_));obtain ⟨x50,e50,h⟩:=Ah h;exact rs0 (.elt (oi 1 1) 0 0) (Tq (t:=Y3) (o:=oi 1 1) (len:=u1.length) (k:=.i64) (m:=0) kr kr rfl (by decide) rfl (Ai e50)) (rsl (.agg [ai x50.1,ai x50.2]) (He (i:=oi 1 1) (j:=0) (k:=0) (e:=93) (t:=Y3) (xs:=u1) kr kr e50 kr) (rsB 5 (rnW (Ac (jS h)))))
def Gg (u0:List (Int×Int×ByteArray)):Option (Int×Int×Bool) :=
 (Dw u0).bind fun y3 =>
some (y3.1,y3.2.1,y3.2.2)
theorem Pk (h:Gg hA=some lA):cK 69 [.agg [.tree Y8 hA]] (Et lA):=by
 exact cO Tryz.func69 (Ae (Ab (Aa 11 (rsT 2 (rcH h Me fun y3 h=>rsB 4 (rnW (Ac (jS h))))))))
def Kd (u0:List (Int×Int×ByteArray)):Option Bool :=
 (Gg u0).bind fun y3 =>
some y3.2.2
theorem Ua (h:Kd hA=some cA):cK 162 [.agg [.tree Y8 hA]] (Ak cA):=by
 exact cO Tryz.func162 (Ae (Ab (Aa 11 (rsT 1 (rcH h Pk fun y3 h=>rsB 6 (rnW (Ae (Ac (jS h)))))))))
def Ft (u1:List (Int×Int×ByteArray)) (a1:Int) (u0:Nat):Option (Ctl Nat (Ctl Unit Bool)) :=
 cond (decide ((u0:Int)<(u1.length:Int)))
 ((u1[u0]?).bind fun x17 =>
 ((Ey x17.1).bind fun y19 =>
  cond y19
   (some (decide (a1<=x17.2.1)))
   (some false)).bind fun u2 =>
 cond u2
  (some (Ctl.out (Ctl.out false)))
  (og (u0+1<4611686018427387904) <|
  some (Ctl.next (u0+1))))
 (some (Ctl.out (Ctl.next ())))
def Hr (u0:List (Int×Int×ByteArray)) (a1:Int):Option Bool :=
 ((Fi a1).bind fun y4 =>
 cond (!y4)
  (some true)
  ((Kd u0).bind fun y6 =>
  some (!y6))).bind fun u1 =>
cond u1
 (some false)
 (Cz (Aq (fun s_:Nat=>Ft u0 a1 s_) 4611686018427387904 0) fun _ =>
 some true)
theorem Vk (h:Hr hA bA=some cA):cK 119 [.agg [.tree Y8 hA],ai bA] (Ak cA):=by
 refine cO Tryz.func119 (Ae (Ab (sqF h (fun u2=>sT [(1,ai bA),(2,.box (oi 0 1) 0),(14,.bool u2)] [(oi 0 1,.cells 33 [.tree Y8 hA])]) ?_ fun u2 h=>kQ h (fun _ h=>Ae (Ac (tr_ (jS h)))) fun _ h=>skW (sqC h (fun _=>sT [] []) (fun _ h hk9=>Ae (Ad (lpF h (fun u1=>sT [(1,ai bA),(16,.tree Y8 hA),(17,an hA.length),(18,an u1)] []) (Ag []) (fun n_ u1 c_ h hn11=>Ae (Ab (kQ h (fun _ h=>skW (Ab (Ad (Ab (Aa 7 (riH Y8 h fun x17 _ h=>rsB 3 (rnW (sqF h (fun u3=>sT [(1,ai bA),(16,.tree Y8 hA),(17,an hA.length),(18,an u1),(30,.bool u3)] []) (fun _ h=>Aa 16 (rsT 2 (rcH h M8 fun y19 h=>rsT 1 (kR h 25 (fun _ h=>rsT 5 (An (tn_ (jE [])))) fun _ h=>rsT 5 (An (tn_ (jE []))))))) fun u3 h=>kQ h (fun _ h=>Ae (Ac (br_ (tr_ (tr_ (br_ (tr_ (have h:=jO h hn11;(have h:=jO h hk9;jS h))))))))) fun _ h=>Aw (bn_ (tn_ (wr_ (Aa 4 (raH h fun h=>rsT 1 (An (tn_ (jL [])))))))))))))))) fun _ h=>lxT (have h:=jO h hn11;jC []))))))) fun _ h=>Ae (Ac (jS h))))));intro _ h;refine Aa 11 (rsT 1 (rcH h Ot fun y4 h=>rsT 2 ?_));rcases A0 h with ⟨q5,h⟩|⟨q5,h⟩
 ·exact rq 10 q5 (rsT 4 (An (tn_ (jE [(oi 0 1,oi 2 1)]))))
 exact rq 10 q5 (rsT 1 (rcH h Ua fun y6 h=>rsT 2 (An (tn_ (jE [(oi 0 1,oi 2 1)])))))
def I8 (a0:Int):Option Bool :=
 (cond (a0==8)
  (some true)
  (some (a0==14))).bind fun u0 =>
some u0
theorem S8 (h:I8 bA=some cA):cK 89 [ai bA] (Ak cA):=by
 exact cO Tryz.func89 (Ae (sqF h (fun u0=>sT [(2,.bool u0)] []) (fun _ h=>Aa 9 (rsT 3 (kR h 5 (fun _ h=>rsT 4 (An (tn_ (jE [])))) fun _ h=>rsT 4 (An (tn_ (jE [])))))) fun u0 h=>Ac (jS h)))
def Ep (u1:List (Int×Int×ByteArray)) (u0:Nat):Option (Ctl Nat (Ctl Unit Bool)) :=
 cond (decide ((u0:Int)<(u1.length:Int)))
 ((u1[u0]?).bind fun x15 =>
 (I8 x15.1).bind fun y17 =>
 cond y17
  (some (Ctl.out (Ctl.out false)))
  (og (u0+1<4611686018427387904) <|
  some (Ctl.next (u0+1))))
 (some (Ctl.out (Ctl.next ())))
def F6 (u0:List (Int×Int×ByteArray)) (a1:Int):Option Bool :=
 (Hr u0 a1).bind fun y4 =>
cond (!y4)
 (some false)
 (Cz (Aq (fun s_:Nat=>Ep u0 s_) 4611686018427387904 0) fun _ =>
 some true)
theorem Tg (h:F6 hA bA=some cA):cK 68 [.agg [.tree Y8 hA],ai bA] (Ak cA):=by
 exact cO Tryz.func68 (Ae (Ab (Ab (Aa 7 (rsT 2 (rcH h Vk fun y4 h=>rsT 1 (rnW (kQ h (fun _ h=>Ae (Ac (tr_ (jS h)))) fun _ h=>skW (sqC h (fun _=>sT [] []) (fun _ h hk7=>Ae (Ad (lpF h (fun u1=>sT [(12,.tree Y8 hA),(13,an hA.length),(14,an u1)] []) (Ag []) (fun n_ u1 c_ h hn9=>Ae (Ab (kQ h (fun _ h=>skW (Ab (Ad (Ab (Aa 7 (riH Y8 h fun x15 _ h=>rsB 3 (rnW (Ab (Aa 10 (rsT 2 (rcH h S8 fun y17 h=>rnW (kQ h (fun _ h=>Ae (Ac (br_ (tr_ (tr_ (br_ (tr_ (have h:=jO h hn9;(have h:=jO h hk7;jS h))))))))) fun _ h=>Aw (bn_ (tn_ (wr_ (Aa 12 (raH h fun h=>rsT 1 (An (tn_ (jL [])))))))))))))))))))) fun _ h=>lxT (have h:=jO h hn9;jC []))))))) fun _ h=>Ae (Ac (jS h)))))))))))
def Pt:AC :=
 (.seq (rg [xo 3 (.i (.box 36 (tm 1))),xo 4 (qm (cb false))])
 (.seq (.seq (rg [xf 7 0 3,xl 8 7,xo 9 (qc 67 [tm 8] [[]]),xo 10 (.i (.not (tm 9))),xm 11 10,⟨some 12,some (11,false),qf 1 (tm 3)⟩,⟨some 13,some (11,false),.i (.ld false 1 (tm 12))⟩,⟨some 14,some (11,false),qm (tm 0)⟩,⟨some 15,some (11,false),qc 68 [tm 13,tm 14] [[some Y8],[]]⟩,⟨some 16,some (11,false),.i (.not (tm 15))⟩,xo 17 (.i (.pick (tm 11) (cb true) (tm 16))),xm 18 17,⟨some 19,some (18,false),qm (tm 0)⟩,⟨some 20,some (18,false),qf 2 (tm 3)⟩,⟨some 21,some (18,false),.i (.ld false 3 (tm 20))⟩,⟨some 22,some (18,false),qc 58 [tm 19,tm 21] [[],[none,none,some sI]]⟩,⟨some 23,some (18,false),.i (.not (tm 22))⟩,xo 24 (.i (.pick (tm 18) (cb true) (tm 23)))])
 (.cond (tm 24)
  (.seq (rg [xo 4 (qm (cb false))])
  .ret)
  .skip))
 (.seq (rg [xf 26 1 3,xo 27 (.i (.ld false 1 (tm 26))),⟨some 28,none,qc 69 [tm 27] [[some Y8]]⟩,xm 25 28,xo 29 (.i (.extr 0 (tm 25))),xo 30 (.i (.extr 1 (tm 25))),xo 5 (.i (.alloc 93 [.int .i64 0,.int .i64 0])),xn (.st false 2 (tm 5) (tm 29)),xm 6 30])
 (.seq (rg [xo 31 (.i (.ld false 2 (tm 5))),xf 32 2 3,xf 33 0 32,xl 34 33,xf 35 2 3,xf 36 1 35,xl 37 36,xo 38 (.build [.int .i64 0,.int .i64 0] [(0,1,tm 34),(1,1,tm 37)]),xo 39 (.i (.cmp false 5 (tm 31) (tm 38))),xm 4 39])
 .ret))))
def W4:List Res:=[.tmp 4]
theorem V7:Cm Tryz.prog Tryz.f37=some (Pt,W4):=by kernel_rfl
def Fm (a0:Int) (u3:ByteArray) (u0:List (Int×Int×ByteArray)) (u1 u2:Int) (u4:LL):Option Bool :=
 ((H8 u3).bind fun y4 =>
 cond (!y4)
  (some true)
  ((F6 u0 a0).bind fun y6 =>
  cond (!y6)
   (some true)
   ((Gf a0 u1 u2 u4).bind fun y8 =>
   some (!y8)))).bind fun u5 =>
cond u5
 (some false)
 ((Gg u0).bind fun y12 =>
 some ([y12.1,y12.2.1]==[u1,u2]))
theorem Vo (h:Fm bA gA hA bB bC dA=some cA):cK 37 [ai bA,.agg [.str gA,.tree Y8 hA,ai bB,ai bC,tS dA]] (Ak cA):=by
 refine Xg kr Tryz.func37 V7 (n:=40) kr (by simp) rfl ?_;unfold Pt;refine Ae (Ab (sqF h (fun u5=>sT [(3,.box (oi 0 1) 0),(24,.bool u5)] [(oi 0 1,.cells 36 [.str gA,.tree Y8 hA,ai bB,ai bC,tS dA])]) ?_ fun u5 h=>kQ h (fun _ h=>Ae (Ac (tr_ (jS h)))) fun _ h=>skW (Ab (Aa 11 (rsT 2 (rcH h Pk fun y12 h=>rsB 6 (rnW (Ae (Ac (jS h))))))))));intro _ h;refine Aa 21 (rsT 2 (rcH h Uf fun y4 h=>rsT 2 ?_));rcases A0 h with ⟨q5,h⟩|⟨q5,h⟩
 ·exact rq 11 q5 (rsT 13 (An (tn_ (jE [(oi 0 1,oi 3 1)]))))
 refine rq 11 q5 (rsT 3 (rcH h Tg fun y6 h=>rsT 3 ?_));rcases A0 h with ⟨q7,h⟩|⟨q7,h⟩
 ·exact rq 18 q7 (rsT 6 (An (tn_ (jE [(oi 0 1,oi 3 1)]))))
 exact rq 18 q7 (rsT 3 (rcH h P2 fun y8 h=>rsT 2 (An (tn_ (jE [(oi 0 1,oi 3 1)])))))
end


section
open Go.RowKit Go.Deep
set_option maxRecDepth 4000
set_option maxHeartbeats 4800000
variable {bA bB bC:Int} {gA:ByteArray} {cA:Bool} {mA:Int×Int} {nA:List (ByteArray×Int×Int×List (Int×Int×ByteArray))} {hA:List (Int×Int×ByteArray)} {oA:List Int×List Int×List Int×Bool} {lA:Int×Int×Bool} {dA:LL}
def Kt (u0 u1:Int) (u2:ByteArray):Option Bool :=
 (cond (!(u2.toList==(⟨#[]⟩:ByteArray).toList))
  (some true)
  ((Cn u0 1 14).bind fun y5 =>
  some (!y5))).bind fun u3 =>
cond u3
 (some false)
 (cond (u0==1)
  ((Cn u1 0 12).bind fun y13 =>
  some y13)
  ((cond (u0==7)
    (some (u0==7))
    (some (u0==13))).bind fun u4 =>
  cond u4
   ((Cn u1 0 96).bind fun y19 =>
   some y19)
   (some (u1==0))))
theorem Ux (h:Kt bA bB gA=some cA):cK 138 [.agg [ai bA,ai bB,.str gA]] (Ak cA):=by
 refine cO Tryz.func138 (Ae (Ab (sqF h (fun u3=>sT [(1,.box (oi 0 1) 0),(11,.bool u3)] [(oi 0 1,.cells 98 [ai bA,ai bB,.str gA])]) ?_ fun u3 h=>kQ h (fun _ h=>Ae (Ac (tr_ (jS h)))) fun _ h=>skW (Ab (Ae (Ad (Ae (kQ h (fun _ h=>Ab (Aa 10 (rsT 2 (rcH h C4 fun y13 h=>rsT 1 (rnW (Ac (br_ (tr_ (jS h))))))))) fun _ h=>sqF h (fun u4=>sT [(1,.box (oi 0 1) 0),(19,.bool u4)] [(oi 0 1,.cells 98 [ai bA,ai bB,.str gA])]) (fun _ h=>Ae (kQ h (fun _ h=>Aw (tn_ (jE []))) fun _ h=>Aa 10 (rsT 2 (An (tn_ (jE [])))))) fun u4 h=>kQ h (fun _ h=>Ab (Aa 6 (rsT 2 (rcH h C4 fun y19 h=>rsT 1 (rnW (Ac (br_ (tr_ (jS h))))))))) fun _ h=>Aw (bn_ (tn_ (wr_ (Ae (Ac (jS h))))))))))))));intro _ h;refine Aa 12 (rsT 4 ?_);rcases A0 h with ⟨q4,h⟩|⟨q4,h⟩
 ·exact rq 6 q4 (rsT 5 (An (tn_ (jE [(oi 0 1,oi 1 1)]))))
 exact rq 6 q4 (rsT 2 (rcH h C4 fun y5 h=>rsT 2 (An (tn_ (jE [(oi 0 1,oi 1 1)])))))
def H6 (a0:Int):Option (Int×Int) :=
 cond (a0==2)
 (some (2,2))
 ((cond (a0==3)
   (some (a0==3))
   (some (a0==11))).bind fun u0 =>
 cond u0
  (some (1,2))
  ((cond (a0==4)
    (some (a0==4))
    (some (a0==12))).bind fun u1 =>
  cond u1
   (some (1,0))
   ((cond (a0==5)
     (some (a0==5))
     (some (a0==9))).bind fun u2 =>
   cond u2
    (some (2,1))
    ((cond (a0==6)
      (some (a0==6))
      (some (a0==10))).bind fun u3 =>
    cond u3
     (some (0,1))
     (some (1,1))))))
def Tw (r:Int×Int):RV:=⟨true,[(false,[.sc (.int .i64 r.1)]),(false,[.sc (.int .i64 r.2)])]⟩
theorem P0 (h:H6 bA=some mA):cK 171 [ai bA] (Tw mA):=by
 exact cO Tryz.func171 (Ae (Ab (Ae (Ad (Ae (kQ h (fun _ h=>Ae (Ac (br_ (tr_ (jS h))))) fun _ h=>sqF h (fun u0=>sT [(4,ai bA),(7,.bool u0)] []) (fun _ h=>Ae (kQ h (fun _ h=>Aw (tn_ (jE []))) fun _ h=>Aa 10 (rsT 2 (An (tn_ (jE [])))))) fun u0 h=>kQ h (fun _ h=>Ae (Ac (br_ (tr_ (jS h))))) fun _ h=>sqF h (fun u1=>sT [(4,ai bA),(10,.bool u1)] []) (fun _ h=>Ae (kQ h (fun _ h=>Aw (tn_ (jE []))) fun _ h=>Aa 6 (rsT 2 (An (tn_ (jE [])))))) fun u1 h=>kQ h (fun _ h=>Ae (Ac (br_ (tr_ (jS h))))) fun _ h=>sqF h (fun u2=>sT [(4,ai bA),(13,.bool u2)] []) (fun _ h=>Ae (kQ h (fun _ h=>Aw (tn_ (jE []))) fun _ h=>Aa 6 (rsT 2 (An (tn_ (jE [])))))) fun u2 h=>kQ h (fun _ h=>Ae (Ac (br_ (tr_ (jS h))))) fun _ h=>sqF h (fun u3=>sT [(16,.bool u3)] []) (fun _ h=>Ae (kQ h (fun _ h=>Aw (tn_ (jE []))) fun _ h=>Aa 6 (rsT 2 (An (tn_ (jE [])))))) fun u3 h=>kQ h (fun _ h=>Ae (Ac (br_ (tr_ (jS h))))) fun _ h=>Aw (bn_ (tn_ (wr_ (Ae (Ac (jS h))))))))))))
def G3 (u0 u1:Int) (u2:ByteArray):Option (Int×Int) :=
 cond (u0==1)
 (some (u1,u1))
 ((H6 u0).bind fun y7 =>
 some (y7.1,y7.2))
theorem Aa9 (h:G3 bA bB gA=some mA):cK 139 [.agg [ai bA,ai bB,.str gA]] (Tw mA):=by
 exact cO Tryz.func139 (Ae (Ab (Ae (kQ h (fun _ h=>Ab (Am 13 (dsT 6 (B4 (Ar kr) (tn_ (wr_ (Ac (tr_ (jS h))))))))) fun _ h=>skW (Ab (Aa 14 (rsT 2 (rcH h P0 fun y7 h=>rsT 4 (rnW (Ac (jS h)))))))))))
def Ct (a0:List (ByteArray×Int×Int×List (Int×Int×ByteArray))) (a1:ByteArray) (u0:Nat):Option (Ctl Nat (Ctl Unit Int)) :=
 cond (decide ((u0:Int)<(a0.length:Int)))
 ((a0[u0]?).bind fun x10 =>
 cond (x10.1.toList==a1.toList)
  (some (Ctl.out (Ctl.out (u0:Int))))
  (og (u0+1<4611686018427387904) <|
  some (Ctl.next (u0+1))))
 (some (Ctl.out (Ctl.next ())))
def C1 (a0:List (ByteArray×Int×Int×List (Int×Int×ByteArray))) (a1:ByteArray):Option Int :=
 Cz (Aq (fun s_:Nat=>Ct a0 a1 s_) 4611686018427387904 0) fun _ =>
some (-1)
theorem P5 (h:C1 nA gA=some bA):cK 81 [.tree Ye nA,.str gA] (A4 bA):=by
 exact cO Tryz.func81 (Ae (sqC h (fun _=>sT [] []) (fun _ h hk2=>Ae (Ad (lpF h (fun u0=>sT [(1,.str gA),(7,.tree Ye nA),(8,an nA.length),(9,an u0)] []) (Ag []) (fun n_ u0 c_ h hn4=>Ae (Ab (kQ h (fun _ h=>skW (Ab (Ad (Ab (Aa 9 (rsT 1 (riH Ye h fun x10 _ h=>rsB 4 (rnW (Ae (kQ h (fun _ h=>Ae (Ac (br_ (tr_ (tr_ (br_ (tr_ (have h:=jO h hn4;(have h:=jO h hk2;jS h))))))))) fun _ h=>Aw (bn_ (tn_ (wr_ (Aa 15 (raH h fun h=>rsT 1 (An (tn_ (jL [])))))))))))))))))) fun _ h=>lxT (have h:=jO h hn4;jC []))))))) fun _ h=>Ae (Ac (jS h))))
def Jr (u4:List (Int×Int×ByteArray)) (a0:List (ByteArray×Int×Int×List (Int×Int×ByteArray))) (u1:Nat) (u0 u2 u3:List Int):Option (Ctl (Nat×List Int×List Int×List Int) (Ctl (List Int×List Int×List Int) (List Int×List Int×List Int×Bool))) :=
 cond (decide ((u1:Int)<(u4.length:Int)))
 (Cz ((u4[u1]?).bind fun x16 =>
  ((Kt x16.1 x16.2.1 x16.2.2).bind fun y19 =>
   cond y19
    (some true)
    (some (x16.1==17))).bind fun u7 =>
  cond u7
   ((G3 x16.1 x16.2.1 x16.2.2).bind fun y23 =>
   Cz (cond (x16.1==17)
     ((C1 a0 x16.2.2).bind fun y28 =>
     (cond (decide (y28<0))
       (some true)
       (some (x16.2.1 !=0))).bind fun u8 =>
     cond u8
      (some (Ctl.out (Ctl.out (Ctl.out (Ctl.out (u0,u2,u3,false))))))
      ((B2 a0 y28).bind fun x34 =>
      some (Ctl.next (x34.2.1,x34.2.2.1))))
     (some (Ctl.next (y23.1,y23.2)))) fun (u9,ua) =>
   og (u0.length+1<=1073741824/\(u0.length+1)*8<=140737488355328) <|
   og (u2.length+1<=1073741824/\(u2.length+1)*8<=140737488355328) <|
   og (u3.length+1<=1073741824/\(u3.length+1)*8<=140737488355328) <|
   some (Ctl.next (u0++([(u1:Int)]),u2++([u9]),u3++([ua]))))
   ((cond (x16.1 !=15)
     (cond (x16.1 !=16)
      (some true)
      (cond (!(x16.2.2.toList==(⟨#[]⟩:ByteArray).toList))
       (some true)
       (cond (x16.2.1 !=0)
        (some true)
        (cond (decide ((u1:Int)<2))
         (some true)
         ((B2 u0 (wI ((u1:Int) - 1))).bind fun x48 =>
         (B2 u0 (wI ((u1:Int) - 1))).bind fun x49 =>
         some (decide (x49<1)))))))
     (cond (!(x16.2.2.toList==(⟨#[]⟩:ByteArray).toList))
      (some true)
      (cond (x16.2.1 !=0)
       (some true)
       (cond (decide ((u1:Int)<2))
        (some true)
        ((B2 u0 (wI ((u1:Int) - 1))).bind fun x53 =>
        (B2 u0 (wI ((u1:Int) - 1))).bind fun x54 =>
        some (decide (x54<1))))))).bind fun ub =>
   cond ub
    (some (Ctl.out (Ctl.out (Ctl.out (u0,u2,u3,false)))))
    ((B2 u0 (wI ((u1:Int) - 1))).bind fun x59 =>
    (B2 u0 (wI ((u1:Int) - 1))).bind fun x60 =>
    (B2 u2 (wI (x60 - 1))).bind fun x62 =>
    (B2 u2 (wI (x60 - 1))).bind fun x63 =>
    (B2 u2 (wI ((u1:Int) - 1))).bind fun x64 =>
    (B2 u2 (wI ((u1:Int) - 1))).bind fun x65 =>
    (B2 u3 (wI (x60 - 1))).bind fun x66 =>
    (B2 u3 (wI (x60 - 1))).bind fun x67 =>
    (B2 u3 (wI ((u1:Int) - 1))).bind fun x68 =>
    (B2 u3 (wI ((u1:Int) - 1))).bind fun x69 =>
    Cz (cond (x16.1==15)
      (cond (x67 !=x65)
       (some (Ctl.out (Ctl.out (Ctl.out (Ctl.out (u0,u2,u3,false))))))
       (some (Ctl.next (x63,x69))))
      (some (Ctl.next (wI (x63+x65),wI (x67+x69))))) fun (u5,u6) =>
    (cond (decide (12<u5))
      (some true)
      (some (decide (12<u6)))).bind fun uc =>
    cond uc
     (some (Ctl.out (Ctl.out (Ctl.out (u0,u2,u3,false)))))
     ((B2 u0 (wI (x60 - 1))).bind fun x83 =>
     (B2 u0 (wI (x60 - 1))).bind fun x84 =>
     og (u0.length+1<=1073741824/\(u0.length+1)*8<=140737488355328) <|
     og (u2.length+1<=1073741824/\(u2.length+1)*8<=140737488355328) <|
     og (u3.length+1<=1073741824/\(u3.length+1)*8<=140737488355328) <|
     some (Ctl.next (u0++([x84]),u2++([u5]),u3++([u6]))))))) fun (ud,ue,uf) =>
 og (u1+1<4611686018427387904) <|
 some (Ctl.next (u1+1,ud,ue,uf)))
 (some (Ctl.out (Ctl.next (u0,u2,u3))))
def H4 (a0:List (ByteArray×Int×Int×List (Int×Int×ByteArray))) (u0:List (Int×Int×ByteArray)):Option (List Int×List Int×List Int×Bool) :=
 (Cn (u0.length:Int) 1 400).bind fun y5 =>
cond (!y5)
 (some ([],[],[],false))
 (Cz (Aq (fun s_:Nat×List Int×List Int×List Int=>Jr u0 a0 s_.1 s_.2.1 s_.2.2.1 s_.2.2.2) 4611686018427387904 (0,[],[],[])) fun (u1,u2,u3) =>
 (B2 u1 (wI ((u0.length:Int) - 1))).bind fun x91 =>
 (B2 u1 (wI ((u0.length:Int) - 1))).bind fun x92 =>
 some (u1,u2,u3,x92==0))
def Uh (r:List Int×List Int×List Int×Bool):RV:=⟨true,[(true,[.new 3 .int r.1,.new 3 .int r.2.1,.new 3 .int r.2.2.1]),(false,[.sc (.bool r.2.2.2)])]⟩
theorem Uc (h:H4 nA hA=some oA):cK 77 [.tree Ye nA,.agg [.tree Y8 hA]] (Uh oA):=by
 refine cO Tryz.func77 (Ae (Ae (Ab (Ab (Aa 10 (rsT 3 (rcH h C4 fun y5 h=>rsT 1 (rnW (kQ h (fun _ h=>Ae (Ac (tr_ (jR h [.agg [.nils,.nils,.nils],.bool false] (V0 (E8 (Amd rfl) (E8 (Amd rfl) (E8 (Amd rfl) Xw))) (Gl rfl zl G8)))))) fun _ h=>skW (sqC h (fun (u5,u6,u7)=>sT [(3,.box (oi 0 1) 0),(4,.box (oi 1 1) 0),(6,.box (oi 2 1) 0)] [(oi 0 1,.cells 33 [.tree Y8 hA]),(oi 1 1,.cells 106 [.nils,.nils,.nils]),(oi 2 1,.cells 106 [oI 3 1 u5.length,oI 4 1 u6.length,oI 5 1 u7.length]),(oi 3 1,.arr 3 .int u5),(oi 4 1,.arr 3 .int u6),(oi 5 1,.arr 3 .int u7)]) ?_ ?_))))))))))
 ·intro _ h hk8;refine Ae (Ad (lpF h (fun (u0,u4,u1,u2)=>sT [(0,.tree Ye nA),(3,.box (oi 0 1) 0),(4,.box (oi 1 1) 0),(6,.box (oi 2 1) 0),(23,.tree Y8 hA),(24,an hA.length),(25,an u0)] [(oi 0 1,.cells 33 [.tree Y8 hA]),(oi 1 1,.cells 106 [.nils,.nils,.nils]),(oi 2 1,.cells 106 [oI 3 1 u4.length,oI 4 1 u1.length,oI 5 1 u2.length]),(oi 3 1,.arr 3 .int u4),(oi 4 1,.arr 3 .int u1),(oi 5 1,.arr 3 .int u2)]) ((Dp 9000 (oi 6 4) 0 106 [.nils,.nils,.nils] [oI 9000 14 0,.nils,.nils] 3 .int rfl kr kr kr).trans ((Dp 9001 (oi 6 4) 1 106 [oI 9000 14 0,.nils,.nils] [oI 9000 14 0,oI 9001 15 0,.nils] 3 .int rfl kr kr kr).trans ((Dp 9002 (oi 6 4) 2 106 [oI 9000 14 0,oI 9001 15 0,.nils] [oI 9000 14 0,oI 9001 15 0,oI 9002 16 0] 3 .int rfl kr kr kr).trans (Ag [(oi 0 1,oi 3 1),(oi 1 1,oi 4 2),(oi 2 1,oi 6 4),(oi 3 1,oi 9000 14),(oi 4 1,oi 9001 15),(oi 5 1,oi 9002 16)])))) ?_));rintro n_ ⟨u0,u4,u1,u2⟩ c_ h hn10;refine Ae (Ab (kQ h (fun _ h=>skW (sqC h (fun (ua,ub,uc)=>sT [(0,.tree Ye nA),(3,.box (oi 0 1) 0),(4,.box (oi 1 1) 0),(6,.box (oi 2 1) 0),(23,.tree Y8 hA),(24,an hA.length),(25,an u0)] [(oi 0 1,.cells 33 [.tree Y8 hA]),(oi 1 1,.cells 106 [.nils,.nils,.nils]),(oi 2 1,.cells 106 [oI 3 1 ua.length,oI 4 1 ub.length,oI 5 1 uc.length]),(oi 3 1,.arr 3 .int ua),(oi 4 1,.arr 3 .int ub),(oi 5 1,.arr 3 .int uc)]) ?_ ?_)) fun _ h=>lxT (have h:=jO h hn10;jC [])))
  ·intro _ h hk14;refine Ad (Ab (Aa 9 (rsT 1 (riH Y8 h fun x16 _ h=>rsB 4 (rnW (Ab (sqF h (fun uf=>sT [(0,.tree Ye nA),(3,.box (oi 0 1) 0),(4,.box (oi 1 1) 0),(6,.box (oi 2 1) 0),(7,an u0),(8,.box (oi 3 1) 0),(23,.tree Y8 hA),(24,an hA.length),(25,an u0),(36,.bool uf)] [(oi 0 1,.cells 33 [.tree Y8 hA]),(oi 1 1,.cells 106 [.nils,.nils,.nils]),(oi 2 1,.cells 106 [oI 4 1 u4.length,oI 5 1 u1.length,oI 6 1 u2.length]),(oi 3 1,.cells 98 [ai x16.1,ai x16.2.1,.str x16.2.2]),(oi 4 1,.arr 3 .int u4),(oi 5 1,.arr 3 .int u1),(oi 6 1,.arr 3 .int u2)]) (fun _ h=>Aa 16 (rsT 1 (rcH h Ux fun y19 h=>rsT 1 (kR h 32 (fun _ h=>rsT 4 (An (tn_ (jE [(oi 4 1,oi 3 1),(oi 5 1,oi 4 1),(oi 6 1,oi 5 1),(oi 3 1,oi 8 6)])))) fun _ h=>rsT 4 (An (tn_ (jE [(oi 4 1,oi 3 1),(oi 5 1,oi 4 1),(oi 6 1,oi 5 1),(oi 3 1,oi 8 6)]))))))) ?_)))))));intro uf h;refine kQ h (fun _ h=>?_) fun _ h=>?_
   ·refine Ab (Aa 9 (rsT 1 (rcH h Aa9 fun y23 h=>rsT 5 (rnW (sqC h (fun (ud,ue)=>sT [(0,.tree Ye nA),(3,.box (oi 0 1) 0),(4,.box (oi 1 1) 0),(6,.box (oi 2 1) 0),(7,an u0),(9,ai ud),(10,ai ue),(23,.tree Y8 hA),(24,an hA.length),(25,an u0)] [(oi 0 1,.cells 33 [.tree Y8 hA]),(oi 1 1,.cells 106 [.nils,.nils,.nils]),(oi 2 1,.cells 106 [oI 3 1 u4.length,oI 4 1 u1.length,oI 5 1 u2.length]),(oi 3 1,.arr 3 .int u4),(oi 4 1,.arr 3 .int u1),(oi 5 1,.arr 3 .int u2)]) ?_ ?_)))))
    ·intro _ h hk24;refine Ae (kQ h (fun _ h=>Ab (Aa 17 (rsT 3 (rcH h P5 fun y28 h=>rsT 1 (rnW (Ab (sqF h (fun ug=>sT [(0,.tree Ye nA),(3,.box (oi 0 1) 0),(4,.box (oi 1 1) 0),(6,.box (oi 2 1) 0),(7,an u0),(11,ai y28),(23,.tree Y8 hA),(24,an hA.length),(25,an u0),(55,.bool ug)] [(oi 0 1,.cells 33 [.tree Y8 hA]),(oi 1 1,.cells 106 [.nils,.nils,.nils]),(oi 2 1,.cells 106 [oI 3 1 u4.length,oI 4 1 u1.length,oI 5 1 u2.length]),(oi 3 1,.arr 3 .int u4),(oi 4 1,.arr 3 .int u1),(oi 5 1,.arr 3 .int u2)]) (fun _ h=>Aa 24 (rsT 3 (kR h 51 (fun _ h=>rsT 4 (An (tn_ (jE [(oi 3 1,oi 4 1),(oi 4 1,oi 5 1),(oi 5 1,oi 6 1)])))) fun _ h=>rsT 4 (An (tn_ (jE [(oi 3 1,oi 4 1),(oi 4 1,oi 5 1),(oi 5 1,oi 6 1)])))))) ?_))))))) fun _ h=>Aw (tn_ (jC [(oi 3 1,oi 4 1),(oi 4 1,oi 5 1),(oi 5 1,oi 6 1)])));intro ug h;refine kQ h (fun _ h=>Ae (Ac (tr_ (tr_ (tr_ (br_ (tr_ (tr_ (br_ (tr_ (have h:=jO h hk24;(have h:=jO h hk14;(have h:=jO h hn10;(have h:=jO h hk8;jR h [.agg [oI 3 1 u4.length,oI 4 1 u1.length,oI 5 1 u2.length],.bool false] (V0 (E8 (Du kr rfl) (E8 (Du kr rfl) (E8 (Du kr rfl) Xw))) (Gl rfl zl G8)))))))))))))))) fun _ h=>skW (Am 14 (dz0 (.tree Ye nA) (dz0 (ai y28) ?_)))
     obtain ⟨x34,f34,h⟩:=Ah h;obtain ⟨p34,b34,e34⟩:=As f34;exact ds0 (.telt none Ye x34 0) (zi (t:=Ye) (xs:=nA) (k:=.i64) (m:=y28) p34 e34) (dsT 4 (ds0 (.telt none Ye x34 0) (zi (t:=Ye) (xs:=nA) (k:=.i64) (m:=y28) p34 e34) (dz0 (.telt none Ye x34 2) (dz0 (ai x34.2.2.1) (dz0 (ai x34.2.1) (dz0 (ai x34.2.2.1) (B4 (Ar kr) (tn_ (jC [])))))))))
    rintro ⟨ud,ue⟩ h;refine Ab (Aa 9 (rsB 4 ?_));obtain ⟨g36,h⟩:=Al h;refine zB (oi 3 1) (oi 70 5) u4 ((u0:Int)) g36 (rsB 2 (rnW (Ab (Aa 16 (rsB 4 ?_)))));obtain ⟨g38,h⟩:=Al h;refine zB (oi 4 1) (oi 76 12) u1 (ud) g38 (rsB 2 (rnW (Ab (Aa 23 (rsB 4 ?_)))));obtain ⟨g40,h⟩:=Al h;exact zB (oi 5 1) (oi 82 19) u2 (ue) g40 (rsB 2 (rnW (D7 (te_ (be_ (tn_ (jC [(oi 3 1,oi 3 6),(oi 4 1,oi 4 13),(oi 5 1,oi 5 20)])))))))
   refine skW (Ab (sqF h (fun uh=>sT [(0,.tree Ye nA),(3,.box (oi 0 1) 0),(4,.box (oi 1 1) 0),(6,.box (oi 2 1) 0),(7,an u0),(8,.box (oi 3 1) 0),(23,.tree Y8 hA),(24,an hA.length),(25,an u0),(115,.bool uh)] [(oi 0 1,.cells 33 [.tree Y8 hA]),(oi 1 1,.cells 106 [.nils,.nils,.nils]),(oi 2 1,.cells 106 [oI 4 1 u4.length,oI 5 1 u1.length,oI 6 1 u2.length]),(oi 3 1,.cells 98 [ai x16.1,ai x16.2.1,.str x16.2.2]),(oi 4 1,.arr 3 .int u4),(oi 5 1,.arr 3 .int u1),(oi 6 1,.arr 3 .int u2)]) ?_ ?_))
   ·intro _ h;refine Aa 33 (rsT 4 (kR h 88 (fun _ h=>?_) fun _ h=>?_))
    ·refine rsT 5 (kR h 93 (fun _ h=>rsT 22 (An (tn_ (jE [])))) fun _ h=>rsT 5 (kR h 98 (fun _ h=>rsT 17 (An (tn_ (jE [])))) fun _ h=>rsT 5 (kR h 103 (fun _ h=>rsT 12 (An (tn_ (jE [])))) fun _ h=>rsT 4 ?_)));rcases A0 h with ⟨q47,h⟩|⟨q47,h⟩
     ·exact rq 107 q47 (rsT 8 (An (tn_ (jE []))))
     refine rq 107 q47 (rsT 4 ?_);obtain ⟨x48,f48,h⟩:=Ah h;obtain ⟨p48,b48,e48⟩:=As f48;refine rs0 (.elt (oi 4 1) ((wI ((u0:Int) - 1)).toNat) 0) (zo (t:=.int) (o:=oi 4 1) (len:=u4.length) (k:=.i64) (m:=wI ((u0:Int) - 1)) p48 (Ai e48)) ?_;obtain ⟨x49,f49,h⟩:=Ah h;obtain ⟨p49,b49,e49⟩:=As f49;exact zE (oi 4 1) e49 (rsT 2 (An (tn_ (jE []))))
    refine rsT 10 (kR h 98 (fun _ h=>rsT 17 (An (tn_ (jE [])))) fun _ h=>rsT 5 (kR h 103 (fun _ h=>rsT 12 (An (tn_ (jE [])))) fun _ h=>rsT 4 ?_));rcases A0 h with ⟨q52,h⟩|⟨q52,h⟩
    ·exact rq 107 q52 (rsT 8 (An (tn_ (jE []))))
    refine rq 107 q52 (rsT 4 ?_);obtain ⟨x53,f53,h⟩:=Ah h;obtain ⟨p53,b53,e53⟩:=As f53;refine rs0 (.elt (oi 4 1) ((wI ((u0:Int) - 1)).toNat) 0) (zo (t:=.int) (o:=oi 4 1) (len:=u4.length) (k:=.i64) (m:=wI ((u0:Int) - 1)) p53 (Ai e53)) ?_;obtain ⟨x54,f54,h⟩:=Ah h;obtain ⟨p54,b54,e54⟩:=As f54;exact zE (oi 4 1) e54 (rsT 2 (An (tn_ (jE []))))
   intro uh h;refine kQ h (fun _ h=>Ae (Ac (tr_ (br_ (tr_ (tr_ (br_ (tr_ (have h:=jO h hk14;(have h:=jO h hn10;(have h:=jO h hk8;jR h [.agg [oI 4 1 u4.length,oI 5 1 u1.length,oI 6 1 u2.length],.bool false] (V0 (E8 (Du kr rfl) (E8 (Du kr rfl) (E8 (Du kr rfl) Xw))) (Gl rfl zl G8))))))))))))) fun _ h=>skW (Ae (Ab (Aa 12 (rsT 3 ?_))))
   obtain ⟨x59,f59,h⟩:=Ah h;obtain ⟨p59,b59,e59⟩:=As f59;refine rs0 (.elt (oi 4 1) ((wI ((u0:Int) - 1)).toNat) 0) (zo (t:=.int) (o:=oi 4 1) (len:=u4.length) (k:=.i64) (m:=wI ((u0:Int) - 1)) p59 (Ai e59)) ?_;obtain ⟨x60,f60,h⟩:=Ah h;obtain ⟨p60,b60,e60⟩:=As f60;refine zE (oi 4 1) e60 (rsT 2 (rnW (Ab (Am 36 (dz0 (.box (oi 2 1) 1) (dzl (oI 5 1 u1.length) (dz0 (ai (wI (x60 - 1))) ?_)))))));obtain ⟨x62,f62,h⟩:=Ah h;obtain ⟨p62,b62,e62⟩:=As f62;refine ds0 (.elt (oi 5 1) ((wI (x60 - 1)).toNat) 0) (zo (t:=.int) (o:=oi 5 1) (len:=u1.length) (k:=.i64) (m:=wI (x60 - 1)) p62 (Ai e62)) ?_;obtain ⟨x63,f63,h⟩:=Ah h;obtain ⟨p63,b63,e63⟩:=As f63;refine dzE (oi 5 1) e63 (dz0 (.box (oi 2 1) 1) (dzl (oI 5 1 u1.length) (dz0 (ai (wI ((u0:Int) - 1))) ?_)));obtain ⟨x64,f64,h⟩:=Ah h;obtain ⟨p64,b64,e64⟩:=As f64;refine ds0 (.elt (oi 5 1) ((wI ((u0:Int) - 1)).toNat) 0) (zo (t:=.int) (o:=oi 5 1) (len:=u1.length) (k:=.i64) (m:=wI ((u0:Int) - 1)) p64 (Ai e64)) ?_;obtain ⟨x65,f65,h⟩:=Ah h;obtain ⟨p65,b65,e65⟩:=As f65;refine dzE (oi 5 1) e65 (dsT 4 ?_);obtain ⟨x66,f66,h⟩:=Ah h;obtain ⟨p66,b66,e66⟩:=As f66;refine ds0 (.elt (oi 6 1) ((wI (x60 - 1)).toNat) 0) (zo (t:=.int) (o:=oi 6 1) (len:=u2.length) (k:=.i64) (m:=wI (x60 - 1)) p66 (Ai e66)) ?_;obtain ⟨x67,f67,h⟩:=Ah h;obtain ⟨p67,b67,e67⟩:=As f67;refine dzE (oi 6 1) e67 (dz0 (.box (oi 2 1) 2) (dzl (oI 6 1 u2.length) (dz0 (ai (wI ((u0:Int) - 1))) ?_)));obtain ⟨x68,f68,h⟩:=Ah h;obtain ⟨p68,b68,e68⟩:=As f68;refine ds0 (.elt (oi 6 1) ((wI ((u0:Int) - 1)).toNat) 0) (zo (t:=.int) (o:=oi 6 1) (len:=u2.length) (k:=.i64) (m:=wI ((u0:Int) - 1)) p68 (Ai e68)) ?_;obtain ⟨x69,f69,h⟩:=Ah h;obtain ⟨p69,b69,e69⟩:=As f69;refine dzE (oi 6 1) e69 (dz0 (ai (wI (x67+x69))) (dz0 (ai (wI (x63+x65))) (dz0 (ai (wI (x67+x69))) (B4 (Ar kr) (tn_ (wr_ (sqC h (fun (u8,u9)=>sT [(0,.tree Ye nA),(3,.box (oi 0 1) 0),(4,.box (oi 1 1) 0),(6,.box (oi 2 1) 0),(13,ai (wI (x60 - 1))),(14,ai u8),(15,ai u9),(23,.tree Y8 hA),(24,an hA.length),(25,an u0)] [(oi 0 1,.cells 33 [.tree Y8 hA]),(oi 1 1,.cells 106 [.nils,.nils,.nils]),(oi 2 1,.cells 106 [oI 3 1 u4.length,oI 4 1 u1.length,oI 5 1 u2.length]),(oi 3 1,.arr 3 .int u4),(oi 4 1,.arr 3 .int u1),(oi 5 1,.arr 3 .int u2)]) (fun _ h hk70=>Ae (kQ h (fun _ h=>Ab (Ab (Am 50 (dsT 3 (ds0 (.elt (oi 6 1) ((wI (x60 - 1)).toNat) 0) (zo (t:=.int) (o:=oi 6 1) (len:=u2.length) (k:=.i64) (m:=wI (x60 - 1)) p66 (Ai e66)) (dsl (ai x67) (He (i:=oi 6 1) (j:=(wI (x60 - 1)).toNat) (k:=0) (e:=3) (t:=.int) (xs:=u2) kr kr e67 kr) (ds0 (.box (oi 2 1) 1) kr (dsl (oI 5 1 u1.length) kr (ds0 (ai (wI ((u0:Int) - 1))) kr (ds0 (.elt (oi 5 1) ((wI ((u0:Int) - 1)).toNat) 0) (zo (t:=.int) (o:=oi 5 1) (len:=u1.length) (k:=.i64) (m:=wI ((u0:Int) - 1)) p64 (Ai e64)) (dsl (ai x65) (He (i:=oi 5 1) (j:=(wI ((u0:Int) - 1)).toNat) (k:=0) (e:=3) (t:=.int) (xs:=u1) kr kr e65 kr) (ds0 (.bool (x67 !=x65)) kr (B4 (Ar kr) (tn_ (wr_ (kQ h (fun _ h=>Ae (Ac (tr_ (tr_ (br_ (tr_ (tr_ (br_ (tr_ (have h:=jO h hk70;(have h:=jO h hk14;(have h:=jO h hn10;(have h:=jO h hk8;jR h [.agg [oI 4 1 u4.length,oI 5 1 u1.length,oI 6 1 u2.length],.bool false] (V0 (E8 (Du kr rfl) (E8 (Du kr rfl) (E8 (Du kr rfl) Xw))) (Gl rfl zl G8))))))))))))))) fun _ h=>skW (Am 62 (dsT 3 (ds0 (.elt (oi 5 1) ((wI (x60 - 1)).toNat) 0) (zo (t:=.int) (o:=oi 5 1) (len:=u1.length) (k:=.i64) (m:=wI (x60 - 1)) p62 (Ai e62)) (dsl (ai x63) (He (i:=oi 5 1) (j:=(wI (x60 - 1)).toNat) (k:=0) (e:=3) (t:=.int) (xs:=u1) kr kr e63 kr) (ds0 (.box (oi 2 1) 2) kr (dsl (oI 6 1 u2.length) kr (ds0 (ai (wI ((u0:Int) - 1))) kr (ds0 (.elt (oi 6 1) ((wI ((u0:Int) - 1)).toNat) 0) (zo (t:=.int) (o:=oi 6 1) (len:=u2.length) (k:=.i64) (m:=wI ((u0:Int) - 1)) p68 (Ai e68)) (dsl (ai x69) (He (i:=oi 6 1) (j:=(wI ((u0:Int) - 1)).toNat) (k:=0) (e:=3) (t:=.int) (xs:=u2) kr kr e69 kr) (ds0 (ai x63) kr (ds0 (ai x69) kr (B4 (Ar kr) (tn_ (jC [(oi 3 1,oi 4 1),(oi 4 1,oi 5 1),(oi 5 1,oi 6 1)])))))))))))))))))))))))))))))) fun _ h=>Aw (tn_ (jC [(oi 3 1,oi 4 1),(oi 4 1,oi 5 1),(oi 5 1,oi 6 1)])))) ?_)))))));rintro ⟨u8,u9⟩ h;refine Ab (sqF h (fun ui=>sT [(0,.tree Ye nA),(3,.box (oi 0 1) 0),(4,.box (oi 1 1) 0),(6,.box (oi 2 1) 0),(13,ai (wI (x60 - 1))),(14,ai u8),(15,ai u9),(23,.tree Y8 hA),(24,an hA.length),(25,an u0),(177,.bool ui)] [(oi 0 1,.cells 33 [.tree Y8 hA]),(oi 1 1,.cells 106 [.nils,.nils,.nils]),(oi 2 1,.cells 106 [oI 3 1 u4.length,oI 4 1 u1.length,oI 5 1 u2.length]),(oi 3 1,.arr 3 .int u4),(oi 4 1,.arr 3 .int u1),(oi 5 1,.arr 3 .int u2)]) (fun _ h=>Aa 8 (rsT 3 (kR h 174 (fun _ h=>rsT 3 (An (tn_ (jE [])))) fun _ h=>rsT 3 (An (tn_ (jE [])))))) ?_);intro ui h;refine kQ h (fun _ h=>Ae (Ac (tr_ (br_ (tr_ (tr_ (br_ (tr_ (have h:=jO h hk14;(have h:=jO h hn10;(have h:=jO h hk8;jR h [.agg [oI 3 1 u4.length,oI 4 1 u1.length,oI 5 1 u2.length],.bool false] (V0 (E8 (Du kr rfl) (E8 (Du kr rfl) (E8 (Du kr rfl) Xw))) (Gl rfl zl G8))))))))))))) fun _ h=>skW (Ab (Am 13 (dsT 5 ?_)))
   obtain ⟨x83,f83,h⟩:=Ah h;obtain ⟨p83,b83,e83⟩:=As f83;refine ds0 (.elt (oi 3 1) ((wI (x60 - 1)).toNat) 0) (zo (t:=.int) (o:=oi 3 1) (len:=u4.length) (k:=.i64) (m:=wI (x60 - 1)) p83 (Ai e83)) ?_;obtain ⟨x84,f84,h⟩:=Ah h;obtain ⟨p84,b84,e84⟩:=As f84;refine dzE (oi 3 1) e84 (ds1 (oI 186 9 1) (oi 186 9) (.arr 3 .int ([x84])) kr ?_);obtain ⟨g85,h⟩:=Al h;refine dzB (oi 3 1) (oi 186 9) u4 (x84) g85 (dz0 (.box (oi 2 1) 0) (Ke (oi 2 1) (oi 2 1) (.cells 106 [oI 3 10 ((u4++([x84])).length),oI 4 1 u1.length,oI 5 1 u2.length]) kr (B4 (Ar kr) (tn_ (wr_ (Ab (Aa 20 (rsB 4 ?_))))))));obtain ⟨g87,h⟩:=Al h;refine zB (oi 4 1) (oi 192 16) u1 (u8) g87 (rsB 2 (rnW (Aa 27 (rsB 4 ?_))));obtain ⟨g88,h⟩:=Al h;exact zB (oi 5 1) (oi 198 23) u2 (u9) g88 (rsB 2 (An (bn_ (tn_ (jC [(oi 3 1,oi 3 10),(oi 4 1,oi 4 17),(oi 5 1,oi 5 24)])))))
  rintro ⟨ua,ub,uc⟩ h;exact Aa 4 (raH h fun h=>rsT 1 (An (tn_ (jL []))))
 rintro ⟨u5,u6,u7⟩ h;refine Ab (Am 14 (dsT 7 ?_));obtain ⟨x91,f91,h⟩:=Ah h;obtain ⟨p91,b91,e91⟩:=As f91;refine ds0 (.elt (oi 3 1) ((wI ((hA.length:Int) - 1)).toNat) 0) (zo (t:=.int) (o:=oi 3 1) (len:=u5.length) (k:=.i64) (m:=wI ((hA.length:Int) - 1)) p91 (Ai e91)) ?_;obtain ⟨x92,f92,h⟩:=Ah h;obtain ⟨p92,b92,e92⟩:=As f92;exact dzE (oi 3 1) e92 (dz0 (.bool (x92==0)) (Ke (oi 1 1) (oi 1 1) (.cells 106 [oI 3 1 u5.length,oI 4 1 u6.length,oI 5 1 u7.length]) kr (dz0 (.bool (x92==0)) (B4 (Ar kr) (tn_ (wr_ (Ac (jR h [.agg [oI 3 1 u5.length,oI 4 1 u6.length,oI 5 1 u7.length],.bool (x92==0)] (V0 (E8 (Du kr rfl) (E8 (Du kr rfl) (E8 (Du kr rfl) Xw))) (Gl rfl zl G8))))))))))
def Kr (u0:List (Int×Int×ByteArray)):Option (List Int×List Int×List Int×Bool) :=
 (H4 ([]) u0).bind fun y3 =>
some (y3.1,y3.2.1,y3.2.2.1,y3.2.2.2)
theorem Ue (h:Kr hA=some oA):cK 108 [.agg [.tree Y8 hA]] (Uh oA):=by
 exact cO Tryz.func108 (Ae (Ab (Aa 10 (rsT 1 (rcH h Uc fun y3 h=>rsB 4 (rnW (Ac (jR h [.agg [oI 80 5 y3.1.length,oI 81 5 y3.2.1.length,oI 82 5 y3.2.2.1.length],.bool y3.2.2.2] (V0 (E8 (Du kr rfl) (E8 (Du kr rfl) (E8 (Du kr rfl) Xw))) (Gl rfl zl G8))))))))))
def Nn (u0:List (Int×Int×ByteArray)):Option (Int×Int×Bool) :=
 (Kr u0).bind fun y3 =>
cond (!y3.2.2.2)
 (some (0,0,false))
 ((B2 y3.2.1 (wI ((u0.length:Int) - 1))).bind fun x10 =>
 (B2 y3.2.1 (wI ((u0.length:Int) - 1))).bind fun x11 =>
 (B2 y3.2.2.1 (wI ((u0.length:Int) - 1))).bind fun x12 =>
 (B2 y3.2.2.1 (wI ((u0.length:Int) - 1))).bind fun x13 =>
 some (x11,x13,true))
def Ade (r:Int×Int×Bool):RV:=⟨true,[(false,[.sc (.int .i64 r.1)]),(false,[.sc (.int .i64 r.2.1)]),(false,[.sc (.bool r.2.2)])]⟩
theorem Acr (h:Nn hA=some lA):cK 60 [.agg [.tree Y8 hA]] (Ade lA):=by
 refine cO Tryz.func60 (Ae (Ab (Aa 13 (rsT 1 (rcH h Ue fun y3 h=>rsB 6 (rnW (Ab (Ae (kQ h (fun _ h=>Ae (Ac (tr_ (jS h)))) fun _ h=>skW (Ae (Ab (Am 33 (dsT 3 ?_)))))))))))));obtain ⟨x10,f10,h⟩:=Ah h;obtain ⟨p10,b10,e10⟩:=As f10;refine ds0 (.elt (oi 161 6) ((wI ((hA.length:Int) - 1)).toNat) 0) (zo (t:=.int) (o:=oi 161 6) (len:=y3.2.1.length) (k:=.i64) (m:=wI ((hA.length:Int) - 1)) p10 (Ai e10)) ?_;obtain ⟨x11,f11,h⟩:=Ah h;obtain ⟨p11,b11,e11⟩:=As f11;refine dzE (oi 161 6) e11 (dz0 (.box (oi 5 10) 2) (dzl (oI 162 6 y3.2.2.1.length) (dz0 (ai (wI ((hA.length:Int) - 1))) ?_)));obtain ⟨x12,f12,h⟩:=Ah h;obtain ⟨p12,b12,e12⟩:=As f12;refine ds0 (.elt (oi 162 6) ((wI ((hA.length:Int) - 1)).toNat) 0) (zo (t:=.int) (o:=oi 162 6) (len:=y3.2.2.1.length) (k:=.i64) (m:=wI ((hA.length:Int) - 1)) p12 (Ai e12)) ?_;obtain ⟨x13,f13,h⟩:=Ah h;obtain ⟨p13,b13,e13⟩:=As f13;exact dzE (oi 162 6) e13 (dz0 (ai x11) (dz0 (ai x13) (dz0 (.bool true) (B4 (Ar kr) (tn_ (wr_ (Ac (jS h))))))))
def Ji (u1:List (Int×Int×ByteArray)) (a0:Int) (u0:Nat):Option (Ctl Nat (Ctl Unit Bool)) :=
 cond (decide ((u0:Int)<(u1.length:Int)))
 ((u1[u0]?).bind fun x18 =>
 (cond (x18.1==7)
   (some (decide (a0<=x18.2.1)))
   (cond (x18.1==13)
    (some (decide (a0<=x18.2.1)))
    (some false))).bind fun u2 =>
 cond u2
  (some (Ctl.out (Ctl.out false)))
  (og (u0+1<4611686018427387904) <|
  some (Ctl.next (u0+1))))
 (some (Ctl.out (Ctl.next ())))
def Ku (a0:Int) (u0:List (Int×Int×ByteArray)):Option Bool :=
 (Kr u0).bind fun y4 =>
(cond (!y4.2.2.2)
  (some true)
  ((Gi a0).bind fun y7 =>
  some (!y7))).bind fun u1 =>
cond u1
 (some false)
 (Cz (Aq (fun s_:Nat=>Ji u0 a0 s_) 4611686018427387904 0) fun _ =>
 some true)
theorem Tl (h:Ku bA hA=some cA):cK 62 [ai bA,.agg [.tree Y8 hA]] (Ak cA):=by
 refine cO Tryz.func62 (Ae (Ab (Ab (Aa 11 (rsT 1 (rcH h Ue fun y4 h=>rsB 6 (rnW (sqF h (fun u2=>sT [(0,ai bA),(3,.box (oi 0 1) 0),(20,.bool u2)] [(oi 0 1,.cells 33 [.tree Y8 hA])]) ?_ fun u2 h=>kQ h (fun _ h=>Ae (Ac (tr_ (jS h)))) fun _ h=>skW (sqC h (fun _=>sT [] []) (fun _ h hk10=>Ae (Ad (lpF h (fun u1=>sT [(0,ai bA),(22,.tree Y8 hA),(23,an hA.length),(24,an u1)] []) (Ag []) (fun n_ u1 c_ h hn12=>Ae (Ab (kQ h (fun _ h=>skW (Ab (Ad (Ab (Aa 7 (riH Y8 h fun x18 _ h=>rsB 3 (rnW (sqF h (fun u3=>sT [(0,ai bA),(22,.tree Y8 hA),(23,an hA.length),(24,an u1),(41,.bool u3)] []) (fun _ h=>Aa 21 (rsT 4 (kR h 31 (fun _ h=>rsT 10 (An (tn_ (jE [])))) fun _ h=>rsT 5 (kR h 36 (fun _ h=>rsT 5 (An (tn_ (jE [])))) fun _ h=>rsT 5 (An (tn_ (jE []))))))) fun u3 h=>kQ h (fun _ h=>Ae (Ac (br_ (tr_ (tr_ (br_ (tr_ (have h:=jO h hn12;(have h:=jO h hk10;jS h))))))))) fun _ h=>Aw (bn_ (tn_ (wr_ (Aa 4 (raH h fun h=>rsT 1 (An (tn_ (jL [])))))))))))))))) fun _ h=>lxT (have h:=jO h hn12;jC []))))))) fun _ h=>Ae (Ac (jS h)))))))))));intro _ h;refine Aa 18 (rsT 3 ?_);rcases A0 h with ⟨q6,h⟩|⟨q6,h⟩
 ·exact rq 16 q6 (rsT 4 (An (tn_ (jE [(oi 0 1,oi 3 1)]))))
 exact rq 16 q6 (rsT 1 (rcH h Lz fun y7 h=>rsT 2 (An (tn_ (jE [(oi 0 1,oi 3 1)])))))
def Dh (a0:Int):Option Bool :=
 (cond (a0 !=8)
  (some (a0 !=14))
  (some false)).bind fun u0 =>
some u0
theorem Lp (h:Dh bA=some cA):cK 113 [ai bA] (Ak cA):=by
 exact cO Tryz.func113 (Ae (sqF h (fun u0=>sT [(2,.bool u0)] []) (fun _ h=>Aa 9 (rsT 3 (kR h 5 (fun _ h=>rsT 4 (An (tn_ (jE [])))) fun _ h=>rsT 4 (An (tn_ (jE [])))))) fun u0 h=>Ac (jS h)))
def F2 (u1:List (Int×Int×ByteArray)) (u0:Nat):Option (Ctl Nat (Ctl Unit Bool)) :=
 cond (decide ((u0:Int)<(u1.length:Int)))
 ((u1[u0]?).bind fun x10 =>
 (Dh x10.1).bind fun y12 =>
 cond (!y12)
  (some (Ctl.out (Ctl.out false)))
  (og (u0+1<4611686018427387904) <|
  some (Ctl.next (u0+1))))
 (some (Ctl.out (Ctl.next ())))
def Ga (u0:List (Int×Int×ByteArray)):Option Bool :=
 Cz (Aq (fun s_:Nat=>F2 u0 s_) 4611686018427387904 0) fun _ =>
some true
theorem Pr (h:Ga hA=some cA):cK 63 [.agg [.tree Y8 hA]] (Ak cA):=by
 exact cO Tryz.func63 (Ae (sqC h (fun _=>sT [] []) (fun _ h hk2=>Ae (Ad (lpF h (fun u1=>sT [(6,.tree Y8 hA),(7,an hA.length),(8,an u1)] []) (Ag []) (fun n_ u1 c_ h hn4=>Ae (Ab (kQ h (fun _ h=>skW (Ab (Ad (Ab (Aa 7 (riH Y8 h fun x10 _ h=>rsB 3 (rnW (Ab (Aa 11 (rsT 2 (rcH h Lp fun y12 h=>rsT 1 (rnW (kQ h (fun _ h=>Ae (Ac (br_ (tr_ (tr_ (br_ (tr_ (have h:=jO h hn4;(have h:=jO h hk2;jS h))))))))) fun _ h=>Aw (bn_ (tn_ (wr_ (Aa 13 (raH h fun h=>rsT 1 (An (tn_ (jL []))))))))))))))))))))) fun _ h=>lxT (have h:=jO h hn4;jC []))))))) fun _ h=>Ae (Ac (jS h))))
def Ec (a0:Int) (u3:ByteArray) (u0:List (Int×Int×ByteArray)) (u1 u2:Int) (u4:LL):Option Bool :=
 (Nn u0).bind fun y3 =>
(cond y3.2.2
  ((N0 u3).bind fun y6 =>
  cond y6
   ((Ku a0 u0).bind fun y8 =>
   cond y8
    ((Ga u0).bind fun y10 =>
    cond y10
     ((Kn a0 u1 u2 u4).bind fun y12 =>
     cond y12
      (cond (u1==y3.1)
       (some (u2==y3.2.1))
       (some false))
      (some false))
     (some false))
    (some false))
   (some false))
  (some false)).bind fun u5 =>
some u5
theorem Acl (h:Ec bA gA hA bB bC dA=some cA):cK 33 [ai bA,.agg [.str gA,.tree Y8 hA,ai bB,ai bC,tS dA]] (Ak cA):=by
 refine cO Tryz.func33 (Ae (Ab (Aa 13 (rsT 2 (rcH h Acr fun y3 h=>rsT 7 (rnW (sqF h (fun u5=>sT [(4,.bool u5)] []) ?_ fun u5 h=>Ac (jS h))))))));intro _ h;refine Aa 51 (rsT 2 ?_);rcases A0 h with ⟨q5,h⟩|⟨q5,h⟩
 ·refine rq 16 q5 (rsT 2 (rcH h Aff fun y6 h=>rsT 2 ?_));rcases A0 h with ⟨q7,h⟩|⟨q7,h⟩
  ·refine rq 21 q7 (rsT 3 (rcH h Tl fun y8 h=>rsT 2 ?_));rcases A0 h with ⟨q9,h⟩|⟨q9,h⟩
   ·refine rq 27 q9 (rsT 2 (rcH h Pr fun y10 h=>rsT 2 ?_));rcases A0 h with ⟨q11,h⟩|⟨q11,h⟩
    ·exact rq 32 q11 (rsT 3 (rcH h Tm fun y12 h=>rsT 2 (kR h 38 (fun _ h=>rsT 7 (kR h 45 (fun _ h=>rsT 7 (An (tn_ (jE [])))) fun _ h=>rsT 7 (An (tn_ (jE []))))) fun _ h=>rsT 14 (An (tn_ (jE []))))))
    exact rq 32 q11 (rsT 20 (An (tn_ (jE []))))
   exact rq 27 q9 (rsT 25 (An (tn_ (jE []))))
  exact rq 21 q7 (rsT 31 (An (tn_ (jE []))))
 exact rq 16 q5 (rsT 36 (An (tn_ (jE []))))
end


section
open Go.RowKit Go.Deep
theorem Arz (A:Option Addr):A.map (·.add (0*1))=A:=by
 cases A with
 | none=>rfl
 | some a=>simp [Addr.add]
def Bp (a0_0:Int) (_:Int) (_:List (List Int)) (a1:List Int):Option Nat:=og (0<=a0_0/\a0_0<=a1.length) (some a0_0.toNat)
def Ho (r:Nat):RV:=⟨false,[(false,[.argS 1 none 1 0 r])]⟩
theorem E7 {a0_0 a0_1:Int} {a0_2:List (List Int)} {a1:List Int} {r:Nat} (h:Bp a0_0 a0_1 a0_2 a1=some r):Cu Tryz.prog Tab 124 [.agg [.int .i64 a0_0,.int .i64 a0_1,.tree (.slice .int) a0_2],.tree .int a1] (Ho r):=by
 obtain ⟨hb,h⟩:=Al h;obtain rfl:=osj h;intro w im vs hG hr;obtain ⟨u1,_,rfl,h1,u2,_,rfl,h2,h3⟩:=hr;obtain rfl:_=[]:=h3;obtain ⟨us,rfl,v1,_,rfl,e1,v2,_,rfl,e2,v3,_,rfl,e3,e4⟩:=h1;obtain rfl:_=[]:=e4;obtain rfl:v1=.int .i64 a0_0:=e1;obtain rfl:v2=.int .i64 a0_1:=e2;obtain ⟨A,c,ls,rfl,hS⟩:=h2;have hc:a1.length<=c/\c<=maxLen:=⟨hS.1,hS.2.1⟩
 go_enter Tryz.func124,Tryz.ntmps124
 go_wp2
 go_ret
 refine ⟨_,rfl,by repeat (first|with_reducible exact Below.refl _ _|((with_reducible refine Below.setCell ?_ ?_ _);rotate_left;focus (first|(simp;done)|omega|(simp;omega)))|((with_reducible refine Below.alloc ?_ ?_ _);rotate_left;focus (first|(simp;done)|omega|(simp;omega)))|(with_reducible refine Below.drew ?_)|(with_reducible refine below_draws_ ?_ _)),[_],[],⟨A,a1.length,c,[],?_,rfl,rfl,rfl⟩,⟨trivial,fun _=>rfl⟩,rfl⟩;show [Value.slice A a0_0.toNat c]=[Value.slice (if c=0 then A else A.map (·.add (0*1))) (a0_0.toNat - 0) (c - 0)];rw [Arz,ite_self,Nat.sub_zero,Nat.sub_zero]
def Bl (a0_0:Int) (_:Int) (_:List (List Int)) (a1:List Int):Option (Nat×Nat):=og (0<=a0_0/\a0_0<=a1.length) (some (a0_0.toNat,a1.length))
def Hb (r:Nat×Nat):RV:=⟨false,[(false,[.argS 1 none 1 r.1 r.2])]⟩
theorem Es {a0_0 a0_1:Int} {a0_2:List (List Int)} {a1:List Int} {r:Nat×Nat} (h:Bl a0_0 a0_1 a0_2 a1=some r):Cu Tryz.prog Tab 123 [.agg [.int .i64 a0_0,.int .i64 a0_1,.tree (.slice .int) a0_2],.tree .int a1] (Hb r):=by
 obtain ⟨hb,h⟩:=Al h;obtain rfl:=osj h;intro w im vs hG hr;obtain ⟨u1,_,rfl,h1,u2,_,rfl,h2,h3⟩:=hr;obtain rfl:_=[]:=h3;obtain ⟨us,rfl,v1,_,rfl,e1,v2,_,rfl,e2,v3,_,rfl,e3,e4⟩:=h1;obtain rfl:_=[]:=e4;obtain rfl:v1=.int .i64 a0_0:=e1;obtain rfl:v2=.int .i64 a0_1:=e2;obtain ⟨A,c,ls,rfl,hS⟩:=h2;have hc:a1.length<=c/\c<=maxLen:=⟨hS.1,hS.2.1⟩
 go_enter Tryz.func123,Tryz.ntmps123
 go_wp2
 ·subst h
  go_ret
  refine ⟨_,rfl,by repeat (first|with_reducible exact Below.refl _ _|((with_reducible refine Below.setCell ?_ ?_ _);rotate_left;focus (first|(simp;done)|omega|(simp;omega)))|((with_reducible refine Below.alloc ?_ ?_ _);rotate_left;focus (first|(simp;done)|omega|(simp;omega)))|(with_reducible refine Below.drew ?_)|(with_reducible refine below_draws_ ?_ _)),[_],[],⟨A,a1.length,a0_0.toNat,[],?_,rfl,rfl,rfl⟩,⟨trivial,fun _=>rfl⟩,rfl⟩;show [Value.slice A (a1.length - a0_0.toNat) 0]=[Value.slice (if a0_0.toNat=a0_0.toNat then A else A.map (·.add (a0_0.toNat*1))) (a1.length - a0_0.toNat) (a0_0.toNat - a0_0.toNat)];rw [if_pos rfl,Nat.sub_self]
 ·go_ret
  refine ⟨_,rfl,by repeat (first|with_reducible exact Below.refl _ _|((with_reducible refine Below.setCell ?_ ?_ _);rotate_left;focus (first|(simp;done)|omega|(simp;omega)))|((with_reducible refine Below.alloc ?_ ?_ _);rotate_left;focus (first|(simp;done)|omega|(simp;omega)))|(with_reducible refine Below.drew ?_)|(with_reducible refine below_draws_ ?_ _)),[_],[],⟨A,a1.length,c,[],?_,rfl,rfl,rfl⟩,⟨trivial,fun _=>rfl⟩,rfl⟩;show [Value.slice (A.map (·.add a0_0.toNat)) (a1.length - a0_0.toNat) (c - a0_0.toNat)]=[Value.slice (if c=a0_0.toNat then A else A.map (·.add (a0_0.toNat*1))) (a1.length - a0_0.toNat) (c - a0_0.toNat)];rw [if_neg h,Nat.mul_one]
theorem Agi {t:Ty} {xs:List t.D} {sz l h:Nat} (h1:t.size=sz) (h2:l<=h) (h3:h<=xs.length):AV.part sz l h (.tree t xs)=.tree t ((xs.take h).drop l):=if_pos ⟨h1,h2,h3⟩
theorem Ht {a0_0 a0_1:Int} {a0_2:List (List Int)} {a1:List Int} {r:Nat} (h:Bp a0_0 a0_1 a0_2 a1=some r) {mk:Nat->Oid} {x:AV}:(Ho r).out mk [x,.tree .int a1]=(.tree .int (a1.take r),[]):=by
 obtain ⟨hb,h⟩:=Al h;obtain rfl:=osj h;have e:=Agi (t:=.int) (xs:=a1) (sz:=1) rfl (Nat.zero_le a0_0.toNat) (show a0_0.toNat<=a1.length by omega);rw [List.drop_zero] at e;exact congrArg (fun z=>(z,([]:List (Oid×Option Ob)))) e
theorem Gy {a0_0 a0_1:Int} {a0_2:List (List Int)} {a1:List Int} {r:Nat×Nat} (h:Bl a0_0 a0_1 a0_2 a1=some r) {mk:Nat->Oid} {x:AV}:(Hb r).out mk [x,.tree .int a1]=(.tree .int (a1.drop r.1),[]):=by
 obtain ⟨hb,h⟩:=Al h;obtain rfl:=osj h;have e:=Agi (t:=.int) (xs:=a1) (sz:=1) rfl (show a0_0.toNat<=a1.length by omega) (Nat.le_refl a1.length);rw [List.take_length] at e;exact congrArg (fun z=>(z,([]:List (Oid×Option Ob)))) e
theorem Aka {R:Nat->Prop} {t:Ty} {xs:List t.D} {sz l h:Nat} (h1:t.size=sz) (h2:l<=h) (h3:h<=xs.length):AV.part sz l h (.ftr R t xs)=.ftr R t ((xs.take h).drop l):=if_pos ⟨h1,h2,h3⟩
theorem R0 {a0_0 a0_1:Int} {a0_2:List (List Int)} {a1:List Int} {r:Nat} (h:Bp a0_0 a0_1 a0_2 a1=some r) {R:Nat->Prop} {mk:Nat->Oid} {x:AV}:(Ho r).out mk [x,.ftr R .int a1]=(.ftr R .int (a1.take r),[]):=by
 obtain ⟨hb,h⟩:=Al h;obtain rfl:=osj h;have e:=Aka (R:=R) (t:=.int) (xs:=a1) (sz:=1) rfl (Nat.zero_le a0_0.toNat) (show a0_0.toNat<=a1.length by omega);rw [List.drop_zero] at e;exact congrArg (fun z=>(z,([]:List (Oid×Option Ob)))) e
theorem Q4 {a0_0 a0_1:Int} {a0_2:List (List Int)} {a1:List Int} {r:Nat×Nat} (h:Bl a0_0 a0_1 a0_2 a1=some r) {R:Nat->Prop} {mk:Nat->Oid} {x:AV}:(Hb r).out mk [x,.ftr R .int a1]=(.ftr R .int (a1.drop r.1),[]):=by
 obtain ⟨hb,h⟩:=Al h;obtain rfl:=osj h;have e:=Aka (R:=R) (t:=.int) (xs:=a1) (sz:=1) rfl (show a0_0.toNat<=a1.length by omega) (Nat.le_refl a1.length);rw [List.take_length] at e;exact congrArg (fun z=>(z,([]:List (Oid×Option Ob)))) e
end
section
open Go.RowKit Go.Deep
theorem Ajx {G:World->Prop} {tl:List (Nat×AV)} {ol:List (Oid×Option Ob)} {g:Nat} (s:Nat) {p:Bool} {n:Nat} (hs:Ao tl s=.abool p n) (hn:n≠0):WeakG G ⟨Ao tl,Aj ol,g⟩ ⟨Ao ((s,.bool (!p)) :: tl),Aj ol,g⟩ :=
 Amu s _ fun σ im w v h=>by
  rw [hs] at h;obtain ⟨b,e,hb⟩:=h;subst e;cases b <;> cases p <;> first|rfl|exact absurd (hb rfl) hn
end
section
open Go.RowKit Go.Deep
section
variable {n:Nat} {d:Option Nat} {f:Nat->AV} {ob:Oid->Option Ob}
theorem Azc {y:Opd} {R:Nat->Prop} {t:Ty} {ys:List t.D} (h:y.ev f=.ftr R t ys):W3 ob t (y.ev f)=some (ys.length,tvC (some R) t ys):=by
 rw [h];simp only [W3,Ty.eq?_self,Co];rfl
theorem An9 {y:Opd} {t:Ty} {ys:List t.D} (h:y.ev f=.tree t ys):W3 ob t (y.ev f)=some (ys.length,tvC none t ys):=by
 have e:t.avM none=t.av:=by
  funext x
  have key:∀ (t:Ty) (x:t.D),t.avM none x=t.av x:=by
   intro t
   induction t with
   | pair a b i1 i2=>intro x;simp only [Ty.avM,Ty.av,i1,i2]
   | _=>intro x;rfl
  exact key t x
 rw [h];simp only [W3,Ty.eq?_self,Co,tvC,e]
theorem Anp {x y:Opd} {o:Oid} {e1:TypeId} {t t':Ty} {b len N:Nat} {m:Option (Nat->Prop)} {xs ys:List t.D} (hx:x.ev f=.own o t' 0 len) (hob:ob o=some (.vec e1 t.size N (tvC m t xs))) (hl:len=xs.length) (hN:N=xs.length) (hy:W3 ob t (y.ev f)=some (ys.length,tvC m t ys)) (h:len+ys.length<=1073741824/\(len+ys.length)*b<=140737488355328) :
  A9 n ⟨d,none,.appV e1 t b x y⟩ f ob=some (2,.own (o.1,n) t 0 (len+ys.length),[(o,none),((o.1,n),some (.vec e1 t.size (len+ys.length) (tvC m t (xs++ys))))]):=by
 subst hl hN;have h1:List.take (xs.length*t.size) (tvC m t xs)=tvC m t xs:=List.take_of_length_le (by rw [N1];exact Nat.le_refl _);simp only [A9,ev,L4,hx,hy,hob,true_and,Nat.le_refl,if_true,h1,h.1,h.2,and_self,Ab0]
end
end
section
open Go.RowKit Go.Deep
def Vu:List (Oid×Option Ob)->Oid->List Oid->Option (Ob×List Oid)
 | [],_,_=>none
 | (j,o) :: r,p,L=>match o with
  | some (.pool e u xss)=>if p.1.1=j.1.1/\p.2=j.2 then some (.pool e u xss,L) else Vu r p L
  | none=>if p.1.1=j.1.1/\p.2=j.2/\j.1.2≠0 then Vu r p (j :: L) else Vu r p L
  | some _=>if p.1.1=j.1.1/\p.2=j.2/\j.1.2≠0 then none else Vu r p L
theorem Rw {e:TypeId} {u:Ty} {xss:List (List u.D)} {p:Oid} {L':List Oid}:∀ {ol:List (Oid×Option Ob)} {L:List Oid},Vu ol p L=some (.pool e u xss,L')->(∀ x∈L,x∈L')/\∀ k,kid p k∉L'->Iv ol (kid p k)=(xss[k]?).map (.arr e u)
 | [],_,h=>by cases h
 | (j,o) :: r,L,h=>by
  have hk:∀ k,¬ (p.1.1=j.1.1/\p.2=j.2/\j.1.2≠0)->kid p k≠j:=fun k hn ej=>hn (by subst ej;exact ⟨rfl,rfl,by simp [kid]⟩)
  cases o with
  | none =>
   simp only [Vu] at h;split at h
   ·obtain ⟨i1,i2⟩:=Rw h;refine ⟨fun x hx=>i1 x (List.mem_cons_of_mem _ hx),fun k hkn=>?_⟩;simp only [Iv];rw [if_neg (fun e=>hkn (by rw [e];exact i1 _ List.mem_cons_self))];exact i2 k hkn
   ·rename_i hn;obtain ⟨i1,i2⟩:=Rw h;refine ⟨i1,fun k hkn=>?_⟩;simp only [Iv];rw [if_neg (hk k hn)];exact i2 k hkn
  | some o =>
   cases o with
   | pool e' u' xss' =>
    simp only [Vu] at h;split at h
    ·rename_i hc;obtain ⟨h1,rfl⟩:=Prod.mk.inj (osj h);obtain ⟨rfl,rfl,he⟩:=Ob.pool.inj h1;obtain rfl:=eq_of_heq he;refine ⟨fun _ hx=>hx,fun k _=>?_⟩;simp only [Iv];rw [if_pos ⟨by simpa [kid] using hc.1,by simpa [kid] using hc.2,by simp [kid]⟩];simp [kid]
    ·rename_i hc;obtain ⟨i1,i2⟩:=Rw h;refine ⟨i1,fun k hkn=>?_⟩;simp only [Iv];rw [if_neg (fun h'=>hc ⟨h'.1,h'.2.1⟩)];exact i2 k hkn
   | _ =>
    simp only [Vu] at h;split at h
    ·cases h
    ·rename_i hn;obtain ⟨i1,i2⟩:=Rw h;refine ⟨i1,fun k hkn=>?_⟩;simp only [Iv];rw [if_neg (hk k hn)];exact i2 k hkn
theorem Ate {e:TypeId} {u:Ty} {xss:List (List u.D)} {p:Oid} {L:List Oid} {ol:List (Oid×Option Ob)} (h:Vu ol p []=some (.pool e u xss,L)) {k:Nat} {row:List u.D} (hk:kid p k∉L) (hx:xss[k]? =some row):Aj ol (kid p k)=some (.arr e u row):=by
 rw [N6,(Rw h).2 k hk,hx];rfl
theorem Ad9 {G:World->Prop} {tl:List (Nat×AV)} {ol:List (Oid×Option Ob)} {g:Nat} (s:Nat) (o p q:Oid) {e1 e:TypeId} {u:Ty} {xss:List (List u.D)} {j n len:Nat} {row ys:List u.D} (hfl:u.flat=true) (ho:Aj ol o=some (.vec e1 1 n ((hdL p u xss).set j (.own q u 0 len)))) (hn:n=xss.length) (hp:Vu ol p []=some (.pool e u xss,[kid p j])) (hq:Iv ol q=some (.arr e u ys)) (hl:len<=ys.length) (hr:row=ys.take len)
  (hqp:(q.1.1==p.1.1&&q.2==p.2&&q.1.2 !=0)=false) (hog:(o.2==g)=false) (hfr:Pn g ((q,none) :: (p,some (.pool e u [])) :: ol)=true) :
  WeakG G ⟨Ao tl,Aj ol,g⟩ ⟨Ao tl,Aj ((o,some (.mat e1 ((s,0),g) u (xss.set j row))) :: (((s,0),g),some (.pool e u (xss.set j row))) :: (q,none) :: (p,some (.pool e u [])) :: ol),g+1⟩:=by
 obtain ⟨r1,r2,r3⟩:=Ael hl hr;have hqk:∀ k,q≠kid p k:=fun k e=>by rw [e] at hqp;simp [kid] at hqp
 have hq':Aj ol q=some (.arr e u ys):=by rw [N6,hq];rfl
 refine Lm s o (fun k=>if k=j then q else kid p k) [(q,none),(p,some (.pool e u []))] hfl ho (by rw [List.length_set];exact hn) (fun k row' hk=>?_) (fun a b ha hb hab=>?_) hog hfr (fun i _=>?_)
 ·rw [List.getElem?_set] at hk ⊢;by_cases h:j=k
  ·subst h;rw [if_pos rfl] at hk ⊢;split at hk
   ·rename_i hlt;obtain rfl:=osj hk;rw [Dg,if_pos hlt,if_pos rfl,r1];exact ⟨rfl,ys,hq',hl,hr⟩
   ·cases hk
  ·rw [if_neg h] at hk ⊢;rw [E2,hk,if_neg (fun e=>h e.symm)];exact ⟨rfl,row',Ate hp (fun hm=>h (Hf (List.mem_singleton.1 hm)).symm) hk,Nat.le_refl _,(List.take_length).symm⟩
 ·by_cases h1:a=j <;> by_cases h2:b=j
  ·rw [h1,h2]
  ·rw [if_pos h1,if_neg h2] at hab;exact absurd hab (hqk b)
  ·rw [if_neg h1,if_pos h2] at hab;exact absurd hab.symm (hqk a)
  ·rw [if_neg h1,if_neg h2] at hab;exact Hf hab
 ·simp only [List.cons_append,List.nil_append,Lt];by_cases h1:i=q
  ·rw [if_pos h1];exact .inl rfl
  ·rw [if_neg h1,M9];split
   ·exact .inl rfl
   ·rename_i h2;refine .inr ⟨rfl,fun k _=>?_⟩;split
    ·exact h1
    ·intro e;exact h2 (by rw [e];exact ⟨rfl,rfl,by simp [kid]⟩)
end
section
open Go.RowKit Go.Deep
theorem Ajh {q:Oid} {e:TypeId} {u:Ty} {xs:List u.D} {r:List (Oid×Option Ob)}:Iv ((q,some (.arr e u xs)) :: r) q=some (.arr e u xs):=by simp [Iv]
theorem Aev {α:Type} {g:List AV->Option α} {sz n:Nat} {d:List AV} {ys:List α} (hd:Ki g sz n d=some ys):∀ {m:Nat} {c:List AV} {xs:List α},c.length=m*sz->Ki g sz m c=some xs->Ki g sz (m+n) (c++d)=some (xs++ys)
 | 0,c,xs,hc,h=>by
  obtain rfl:c=[]:=List.eq_nil_of_length_eq_zero oM;simp only [Ki,Option.some.injEq] at h;subst h
  simpa using hd
 | m+1,c,xs,hc,h=>by
  have hl:sz<=c.length:=by rw [hc,Nat.succ_mul];omega
  rw [show m+1+n=(m+n)+1 by omega];simp only [Ki] at h ⊢;rw [List.take_append_of_le_length hl,List.drop_append_of_le_length hl];cases h1:g (c.take sz) with
  | none=>rw [h1] at h;cases h
  | some x =>
   rw [h1] at h;cases h2:Ki g sz m (c.drop sz) with
   | none=>rw [h2] at h;cases h
   | some zs =>
    rw [h2] at h;obtain rfl:=osj h;rw [Aev hd (m:=m) (c:=c.drop sz) (xs:=zs) (by rw [List.length_drop,hc,Nat.succ_mul];omega) h2];rfl
theorem Ayb {n:Nat} {ob:Oid->Option Ob} {o p:Oid} {e1 e:TypeId} {u:Ty} {m:Option (Nat->Prop)} {xss ys:List (List u.D)} {len N:Nat} (ho:ob o=some (.vec e1 1 N (hdL p u xss++tvC m (.slice u) ys))) (hk:∀ k row,xss[k]? =some row->ob (kid p k)=some (.arr e u row)) (hN:N=xss.length+ys.length) (hl:len=N):gnd ob (n+1) (.own o (.slice u) 0 len)=some (.tree (.slice u) (xss++ys)):=by
 subst hl hN
 have h1:Ki (rdC ob (.slice u)) 1 xss.length (hdL p u xss)=some xss:=by
  have:=S4 (g:=rdC ob (.slice u)) (cs:=hdL p u xss) (xs:=xss) (by rw [Dg]) (fun k c x hc hx=>by
   rw [E2,hx] at hc;obtain rfl:=osj hc;have:=hk _ x hx;simp only [rdC,E1,this,Nat.zero_add,Nat.le_refl,if_true,Ty.eq?_self,Co,List.drop_zero,List.take_length])
  exact this
 have h2:Ki (rdC ob (.slice u)) 1 ys.length (tvC m (.slice u) ys)=some ys:=Z9 (t:=.slice u) ys;have h3:=Aev h2 (m:=xss.length) (by rw [Dg,Nat.mul_one]) h1
 have key:Abc ob 1 (rdC ob (.slice u)) (.own o (.slice u) 0 (xss.length+ys.length))=some (xss++ys):=by
  simp only [Abc,ho];rw [if_pos ⟨trivial,by omega⟩,Nat.zero_mul,List.drop_zero,List.take_of_length_le (by simp only [List.length_append,Dg,N1,Ty.size];omega)];exact h3
 simp only [gnd,ho,Ty.size,key,Option.map_some]
section
variable {n:Nat} {d:Option Nat} {f:Nat->AV} {ob:Oid->Option Ob}
theorem Avd {x y:Opd} {o p:Oid} {e1:TypeId} {u t':Ty} {b len N:Nat} {m:Option (Nat->Prop)} {xss ys:List (List u.D)} (hx:x.ev f=.own o t' 0 len) (hob:ob o=some (.vec e1 1 N (hdL p u xss))) (hN:N=xss.length) (hl:len=N) (hy:W3 ob (.slice u) (y.ev f)=some (ys.length,tvC m (.slice u) ys)) (h:len+ys.length<=1073741824/\(len+ys.length)*b<=140737488355328) :
  A9 n ⟨d,none,.appV e1 (.slice u) b x y⟩ f ob=some (2,.own (o.1,n) (.slice u) 0 (len+ys.length),[(o,none),((o.1,n),some (.vec e1 1 (len+ys.length) (hdL p u xss++tvC m (.slice u) ys)))]):=by
 subst hl hN;have h1:List.take (xss.length*1) (hdL p u xss)=hdL p u xss:=by rw [Nat.mul_one];exact List.take_of_length_le (by rw [Dg];exact Nat.le_refl _)
 simp only [A9,ev,L4,hx,hy,hob,Ty.size,true_and,Nat.le_refl,if_true,h1,h.1,h.2,and_self]
end
end
section
open Go.RowKit Go.Deep
section
variable {P:Program} {G:World->Prop} (hfol:P.follows .mixedOrders=true) {g:FuncId} {fn:Func} (hf:P.funcs[g]? =some fn) {ac:AC} {rs:List Res} (hc:Cm P fn=some (ac,rs)) {args:List AV} {r:RV} {n:Nat}
include hfol hf hc
end
section
variable {σ:Oid->Option Loc} {im:Nat->Prop} {w:World} {θ:Oid->Oid} {t:Ty} {xs:List t.D}
end
theorem Avf {a b:Oid->Option Ob} {σ:Oid->Option Loc} (h:∀ x,(∃ o,a x=some o)↔∃ o,b x=some o):imm a σ=imm b σ:=by
 funext c;refine propext ⟨fun H i o cp s hi=>?_,fun H i o cp s hi=>?_⟩
 ·obtain ⟨o',h'⟩:=(h i).2 ⟨o,hi⟩;exact H i o' cp s h'
 ·obtain ⟨o',h'⟩:=(h i).1 ⟨o,hi⟩;exact H i o' cp s h'
section
variable {ob:Oid->Option Ob} {n:Nat} {k:Oid} {c:AV} {cs:List AV}
end
end
section
open Go.RowKit Go.Deep
theorem Amr {G:World->Prop} {tl:List (Nat×AV)} {ol:List (Oid×Option Ob)} {g:Nat} (d:Nat) (o:Oid) {e:TypeId} {t:Ty} {xs:List t.D} {len:Nat} (hd:Ao tl d=.own o t 0 len) (ho:Aj ol o=some (.arr e t xs)) (hl:len=xs.length) :
  WeakG G ⟨Ao tl,Aj ol,g⟩ ⟨Ao ((d,.tree t xs) :: tl),Aj ((o,none) :: ol),g⟩:=by
 refine Aui (S:=⟨Ao tl,Aj ol,g⟩) (obD:=fun i=>if i=o then Aj ol i else none) (fun i x hx=>?_) (fun i x hx=>?_) fun t'=>?_
 ·rw [Lt] at hx;split at hx
  ·cases hx
  ·exact hx
 ·split at hx
  ·rename_i hc;exact ⟨hx,by rw [Lt,if_pos hc]⟩
  ·cases hx
 ·by_cases ht:t'=d
  ·subst ht;refine .inr ⟨1,?_⟩;show gnd _ 1 (Ao tl t')=some (Ao _ t');rw [hd,show Ao ((t',AV.tree t xs) :: tl) t'=.tree t xs from if_pos rfl];exact D6 (e:=e) (by rw [if_pos rfl];exact ho) hl
  ·exact .inl (if_neg ht)
section
variable {G:World->Prop} {n:Nat} {R:Nat->Prop}
theorem Apn (hR:∀ b,n<=b->R b) {S:St} {ob':Oid->Option Ob} {tm':Nat->AV} {q:Oid} {e:TypeId} {t:Ty} {xs:List t.D} (hq:S.ob q=some (.arr e t xs))
  (h1:∀ i o',ob' i=some o'->i≠q/\∃ o,S.ob i=some o/\(o'=o∨∃ ty cs k t',o=.cells ty cs/\o'=.cells ty (cs.set k (.ftr R t xs))/\cs[k]? =some (.own q t' 0 xs.length)))
  (h3:∀ j,tm' j=S.tm j∨(tm' j=.ftr R t xs/\∃ t',S.tm j=.own q t' 0 xs.length)):WeakG (GN G n) S ⟨tm',ob',S.gen⟩:=by
 intro w0 B N a w hr;obtain ⟨σ,hm,hf,hB⟩:=hr.ex;have hn:n<=w0.heap.size:=(hm.inv w0 (Below.refl _ _)).2
 have him:∀ b,imm S.ob σ b->imm ob' σ b:=fun b hb i o c s ho=>by
  obtain ⟨_,o1,h,_⟩:=h1 i o ho;exact hb i o1 c s h
 have hL:Later σ σ (imm S.ob σ) (imm ob' σ) w w:=⟨fun _ _ h=>h,fun b _ hb=>him b hb,fun _ _ _=>rfl,Nat.le_refl _⟩
 have key:∀ (t':Ty) (v:Value),AV.Rep σ (imm S.ob σ) w (.own q t' 0 xs.length) v->AV.Rep σ (imm ob' σ) w (.ftr R t xs) v:=by
  intro t' v hv
  have:AV.Rep (fun _=>none) (fun b=>imm ob' σ b/\R b) w (.tree t xs) v:=by
   refine Md (ob:=fun j=>if j=q then some (.arr e t xs) else none) (σ:=σ) (im:=fun b=>imm ob' σ b/\R b) (lo:=w0.heap.size) (fun j z l hj hl=>?_) (fun _ hb=>hb) (fun j z b c s hj hs=>?_) 1 _ _ _ (D6 (e:=e) (if_pos rfl) rfl) (Ae5 hv)
   ·split at hj
    ·rename_i e';subst e';obtain rfl:=osj hj;exact hm.obs j _ l hq hl
    ·cases hj
   ·split at hj
    ·rename_i e';subst e';refine ⟨fun j' z' c' s' hj' hs'=>?_,hR b (Nat.le_trans hn (hm.lt j b c s hs).1)⟩;obtain ⟨hne,o1,hj1,_⟩:=h1 j' z' hj';exact hne (hm.inj j j' b c s c' s' _ o1 hq hj1 hs hs').symm
    ·cases hj
  exact this
 refine ⟨⟨σ,⟨hm.below,hm.inv,hm.gen,hm.lt,hm.cap,fun i j b c s c' s' x y hi hj=>?_,fun i x l hi hl=>?_⟩,fun t'=>?_,hB.trans hL⟩,hr.size,hr.defers,fun i hi=>?_⟩
 ·obtain ⟨_,o1,g1,_⟩:=h1 i x hi;obtain ⟨_,o2,g2,_⟩:=h1 j y hj;exact hm.inj i j b c s c' s' o1 o2 g1 g2
 ·obtain ⟨_,o1,g1,g2⟩:=h1 i x hi;rcases g2 with rfl|⟨ty,cs,k,t',rfl,rfl,hk⟩
  ·exact (hm.obs i x l g1 hl).later hL fun _ _ _ _=>rfl
  ·have h0:=(hm.obs i _ l g1 hl)
   cases l with
   | nil=>exact h0
   | at_ b c s =>
    obtain ⟨vs,e1,e2,e3⟩:=h0;refine ⟨vs,e1,?_,e3⟩;obtain ⟨v,hv,hrv⟩:=e2.get hk;have h2:=(AV.RepL.later hL _ _ e2).set (k:=k) (key t' v hrv)
    have e4:vs.set k v=vs:=by
     obtain ⟨hlt,rfl⟩:=gSi.1 hv;exact List.set_getElem_self hlt
    rwa [e4] at h2
 ·rcases h3 t' with e'|⟨e',t2,e2⟩
  ·show AV.Rep σ (imm ob' σ) w (tm' t') _;rw [e'];exact AV.Rep.later hL _ _ (hf t')
  ·show AV.Rep σ (imm ob' σ) w (tm' t') _;rw [e'];have:=hf t';rw [e2] at this;exact key t2 _ this
 ·refine hr.obg i fun hn=>hi ?_
  cases hx:ob' i with
  | none=>exact hx
  | some x =>
   obtain ⟨_,o1,g1,_⟩:=h1 i x hx;rw [g1] at hn;cases hn
theorem Ac0 (hR:∀ b,n<=b->R b) {tl:List (Nat×AV)} {ol:List (Oid×Option Ob)} {g:Nat} (i q:Oid) (k:Nat) {ty e:TypeId} {cs ds:List AV} {t t':Ty} {xs:List t.D} {len:Nat} (hi:Aj ol i=some (.cells ty cs)) (hk:cs[k]? =some (.own q t' 0 len)) (hq:Aj ol q=some (.arr e t xs)) (hl:len=xs.length) (hd:cs.set k (.ftr R t xs)=ds) :
  WeakG (GN G n) ⟨Ao tl,Aj ol,g⟩ ⟨Ao tl,Aj ((q,none) :: (i,some (.cells ty ds)) :: ol),g⟩:=by
 subst hl hd;refine Apn (S:=⟨Ao tl,Aj ol,g⟩) hR hq (fun j o' hj=>?_) fun j=>.inl rfl
 rw [Lt] at hj;split at hj
 ·cases hj
 ·rename_i hne;refine ⟨hne,?_⟩;by_cases hji:j=i
  ·subst hji;refine ⟨_,hi,.inr ⟨ty,cs,k,t',rfl,?_,hk⟩⟩;have:Aj ((j,some (.cells ty (cs.set k (.ftr R t xs)))) :: ol) j=some (.cells ty (cs.set k (.ftr R t xs))):=by simp [Aj]
   exact osj (hj.symm.trans this)
  ·refine ⟨o',?_,.inl rfl⟩;have:Aj ((i,some (.cells ty (cs.set k (.ftr R t xs)))) :: ol) j=Aj ol j:=by simp [Aj,hji]
   exact this.symm.trans hj
end
theorem Oy {α:Type} {xs:List α} {z:α} {N len b:Nat} (hN:N=xs.length) (h:len<=N/\len+1<=1073741824/\(len+1)*b<=140737488355328):len+1=(xs.take len++[z]).length:=by
 rw [List.length_append,List.length_take,List.length_singleton];omega
theorem Aup {m:Option (Nat->Prop)} {t:Ty} {xs:List t.D} {k:Nat} (hk:k<=xs.length):(tvC m t xs).take (k*t.size)=tvC m t (xs.take k):=by
 conv=>lhs;rw [← List.take_append_drop k xs,Ab0]
 rw [List.take_append_of_le_length (by rw [N1,List.length_take,Nat.min_eq_left hk];exact Nat.le_refl _)];exact List.take_of_length_le (by rw [N1,List.length_take,Nat.min_eq_left hk];exact Nat.le_refl _)
theorem Ve {n:Nat} {d:Option Nat} {f:Nat->AV} {ob:Oid->Option Ob} {x y:Opd} {o q:Oid} {e1 e2:TypeId} {t t' t2:Ty} {b len N:Nat} {m:Option (Nat->Prop)} {xs:List t.D} {z:t.D} (hx:x.ev f=.own o t' 0 len) (hob:ob o=some (.vec e1 t.size N (tvC m t xs))) (hN:N=xs.length) (hy:y.ev f=.own q t2 0 1) (hq:ob q=some (.vec e2 t.size 1 (tvC m t [z]))) (h:len<=N/\len+1<=1073741824/\(len+1)*b<=140737488355328) :
  A9 n ⟨d,none,.appV e1 t b x y⟩ f ob=some (2,.own (o.1,n) t 0 (len+1),[(o,none),((o.1,n),some (.vec e1 t.size (len+1) (tvC m t (xs.take len++[z]))))]):=by
 have h1:List.take (len*t.size) (tvC m t xs)=tvC m t (xs.take len):=Aup (hN▸h.1);have h2:List.take (1*t.size) (List.drop (0*t.size) (tvC m t [z]))=tvC m t [z]:=by rw [Nat.zero_mul,List.drop_zero];exact List.take_of_length_le (by rw [N1];exact Nat.le_refl _)
 simp only [A9,ev,L4,hx,hy,W3,hq,hob,true_and,Nat.zero_add,Nat.le_refl,if_true,h1,h2,h.1,h.2.1,h.2.2,and_self,Ab0]
mutual
def AV.unS (R:Nat->Prop):AV->AV->Prop
 | .tree t xs,d=>d=.ftr R t xs
 | .agg cs,d=>∃ ds,d=.agg ds/\AV.unSL R cs ds
 | .ref cs,d=>∃ ds,d=.ref ds/\AV.unSL R cs ds
 | c,d=>c.scal=true/\d=c
def AV.unSL (R:Nat->Prop):List AV->List AV->Prop
 | [],ds=>ds=[]
 | c :: cs,ds=>∃ d ds',ds=d :: ds'/\AV.unS R c d/\AV.unSL R cs ds'
end
mutual
theorem Av8 {R im:Nat->Prop} {w:World} (hR:∀ b,im b->R b):∀ (c d:AV) (u:Value),AV.unS R c d->AV.Rep (fun _=>none) im w c u->AV.Rep (fun _=>none) im w d u
 | .tree t xs,d,u,h,⟨A,c,l,e,hs⟩=>by
  have h:d=.ftr R t xs:=h;subst h;exact ⟨A,c,l,e,Ci (fun b _ hb=>⟨hb,hR b hb⟩) hs⟩
 | .agg cs,d,u,⟨ds,e,h⟩,hr=>by
  subst e;obtain ⟨us,e,hr⟩:=hr;exact ⟨us,e,Xk hR cs ds us h hr⟩
 | .ref cs,d,u,⟨ds,e,h⟩,hr=>by
  subst e;obtain ⟨b,k,vs,e1,e2,e3,hr⟩:=hr;exact ⟨b,k,vs,e1,e2,e3,Xk hR cs ds vs h hr⟩
 | .int ..,d,u,⟨_,e⟩,hr=>by subst e;exact hr
 | .bool ..,d,u,⟨_,e⟩,hr=>by subst e;exact hr
 | .str ..,d,u,⟨_,e⟩,hr=>by subst e;exact hr
 | .err ..,d,u,⟨h,e⟩,hr=>by first|(cases h;done)|(subst e;exact hr)
 | .nils,d,u,⟨_,e⟩,hr=>by subst e;exact hr
 | .any,d,u,⟨h,_⟩,_=>by cases h
 | .mtree ..,d,u,⟨h,_⟩,_=>by cases h
 | .ftr ..,d,u,⟨h,_⟩,_=>by cases h
 | .mp _,d,u,⟨h,_⟩,_=>by cases h
 | .tup _,d,u,⟨h,_⟩,_=>by cases h
 | .fn ..,d,u,⟨h,_⟩,_=>by cases h
 | .own ..,d,u,⟨h,_⟩,_=>by cases h
 | .box ..,d,u,⟨h,_⟩,_=>by cases h
 | .elt ..,d,u,⟨h,_⟩,_=>by cases h
 | .sla ..,d,u,⟨h,_⟩,_=>by cases h
 | .telt ..,d,u,⟨h,_⟩,_=>by cases h
 | .giv ..,d,u,⟨h,_⟩,_=>by cases h
 | .abool ..,d,u,⟨h,_⟩,_=>by cases h
theorem Xk {R im:Nat->Prop} {w:World} (hR:∀ b,im b->R b):∀ (cs ds:List AV) (us:List Value),AV.unSL R cs ds->AV.RepL (fun _=>none) im w cs us->AV.RepL (fun _=>none) im w ds us
 | [],ds,us,h,hr=>by obtain rfl:ds=[]:=h;exact hr
 | c :: cs,ds,us,⟨d,ds',e,h1,h2⟩,hr=>by
  subst e;obtain ⟨u,us',e,r1,r2⟩:=hr;exact ⟨u,us',e,Av8 hR c d u h1 r1,Xk hR cs ds' us' h2 r2⟩
end
theorem Auo {P:Program} [IsP P] {G:World->Prop} (hfol:P.follows .mixedOrders=true) {g:FuncId} {fn:Func} (hf:P.funcs[g]? =some fn) {ac:AC} {rs:List Res} (hc0:Cm P fn=some (ac,rs)) {args:List AV} (args':(Nat->Prop)->List AV) {r:RV} {n:Nat} (hN:fn.ntmps=n) (hn:∀ R,(args' R).length<=n) (hu:∀ R,AV.unSL R args (args' R)) {tl:(Nat->Prop)->List (Nat×AV)} (htl:∀ R,tmL 0 (args' R)=tl R)
  (h:∀ (n:Nat) (R:Nat->Prop),(∀ b,n<=b->R b)->awp P (GN G n) ac (fun e S=>∃ S',WeakG (GN G n) S S'/\(e=.normal∨e=.ret)/\And R false rs S' r) ⟨Ao (tl R),Aj [],1⟩):Cu P G g args r :=
 Acn hfol hf hc0 false hN hn htl (fun R im w us hR hr=>Xk (fun b hb=>hR b hb rfl) _ _ _ (hu R) hr) h
end
end Go.Proofs.YtmmjoepagfcgcaaGreatDoor
