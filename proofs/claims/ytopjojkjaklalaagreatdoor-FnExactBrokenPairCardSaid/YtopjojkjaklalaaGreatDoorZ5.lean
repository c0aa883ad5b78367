/- Lemmas on the program and on partial functions that stand in place of its code (part 5); no condition beyond those that each one states. -/
import Derived.Test.YtopjojkjaklalaaGreatDoorZ4
namespace Go.Proofs.YtopjojkjaklalaaGreatDoor
section
open Go.RowKit Go.Deep
set_option maxRecDepth 4000
set_option maxHeartbeats 4800000
variable {bA bB bC bD bE:Int} {dA dB:LL} {cA:Bool} {aA aB aC:List Int} {eA:LL×LL} {fA:LL×LL×Nat}
def Yx (a0 a1:Int) (u0:Nat):Option (Ctl Nat (Ctl Unit Int)) :=
 cond (decide ((u0:Int)<a0))
 (og (a0≠0) <|
 cond ((Int.tmod (wI (a1*(u0:Int))) a0)==1)
  (some (Ctl.out (Ctl.out (u0:Int))))
  (og (u0+1<4611686018427387904) <|
  some (Ctl.next (u0+1))))
 (some (Ctl.out (Ctl.next ())))
def Nt (a0 a1:Int):Option Int :=
 Di (Aq (fun s_:Nat=>Yx a0 a1 s_) 4611686018427387904 1) fun _ =>
some 0
theorem Adq (h:Nt bA bB=some bC):cK 139 [ai bA,ai bB] (A3 bC):=by
 refine cO Tryz.func139 (Ae (sqC h (fun _=>sT [] []) ?_ fun _ h=>Ae (Ac (jS h))));intro _ h hk2;refine Ae (Ad (lpF h (fun u0=>sT [(0,ai bA),(1,ai bB),(5,an u0)] []) (Ag []) ?_));intro n_ u0 c_ h hn4;refine Ab (Ae (kQ h (fun _ h=>skW (Ab (Ad (Ab (Aa 11 (rsT 4 ?_)))))) fun _ h=>lxT (have h:=jO h hn4;jC [])));obtain ⟨g10,h⟩:=Ak h;exact rs0 (ai (Int.tmod (wI (bB*(u0:Int))) bA)) (Pb (k:=.i64) (a:=wI (bB*(u0:Int))) (b:=bA) kr kr g10) (rsT 1 (rnW (kQ h (fun _ h=>Ae (Ac (br_ (tr_ (tr_ (br_ (tr_ (have h:=jO h hn4;(have h:=jO h hk2;jS h))))))))) fun _ h=>Az (bn_ (tn_ (wr_ (Aa 14 (rsT 1 (raH h fun h=>rsT 1 (Ap (tn_ (jL []))))))))))))
def Fb (a0 a1:Int):Option Int :=
 og (a0≠0) <|
some (Int.tmod (wI (a0 - a1)) a0)
theorem P2 (h:Fb bA bB=some bC):cK 132 [ai bA,ai bB] (A3 bC):=by
 refine cO Tryz.func132 (Ae (Ab (Aa 8 (rsT 4 ?_))));obtain ⟨g3,h⟩:=Ak h;exact rs0 (ai (Int.tmod (wI (bA - bB)) bA)) (Pb (k:=.i64) (a:=wI (bA - bB)) (b:=bA) kr kr g3) (rsT 1 (rnW (Ac (jS h))))
def Nq (a0 a1 a2:Int):Option Int :=
 og (a0≠0) <|
some (Int.tmod (wI ((wI (a1+a0)) - a2)) a0)
theorem Ad0 (h:Nq bA bB bC=some bD):cK 141 [ai bA,ai bB,ai bC] (A3 bD):=by
 refine cO Tryz.func141 (Ae (Ab (Aa 10 (rsT 6 ?_))));obtain ⟨g3,h⟩:=Ak h;exact rs0 (ai (Int.tmod (wI ((wI (bB+bA)) - bC)) bA)) (Pb (k:=.i64) (a:=wI ((wI (bB+bA)) - bC)) (b:=bA) kr kr g3) (rsT 1 (rnW (Ac (jS h))))
def Er (a2:LL) (u0:Nat) (u1:LL):Option (Ctl (Nat×LL) (LL)) :=
 cond (decide ((u0:Int)<(a2.length:Int)))
 ((a2[u0]?).bind fun x12 =>
 (Fi x12).bind fun y13 =>
 og (u1.length+1<=1073741824/\(u1.length+1)*24<=140737488355328) <|
 og (u0+1<4611686018427387904) <|
 some (Ctl.next (u0+1,u1++[y13])))
 (some (Ctl.out u1))
def Ew (u1:LL) (u2 u0:Nat):Option (Ctl Nat Nat) :=
 (cond (decide ((u0:Int)<(u1.length:Int)))
  ((u1[u0]?).bind fun x31 =>
  (x31[u2]?).bind fun x32 =>
  some (x32==0))
  (some false)).bind fun u3 =>
cond u3
 (og (u0+1<4611686018427387904) <|
 some (Ctl.next (u0+1)))
 (some (Ctl.out u0))
def Gj (x44:List Int) (u2:Nat) (a0 y46:Int) (u0:Nat) (u1:LL):Option (Ctl (Nat×LL) (LL)) :=
 cond (decide ((u0:Int)<(x44.length:Int)))
 ((u1[u2]?).bind fun x55 =>
 (x55[u0]?).bind fun x56 =>
 (Ll a0 x56 y46).bind fun y57 =>
 og (u0+1<4611686018427387904) <|
 some (Ctl.next (u0+1,u1.set u2 (x55.set u0 y57))))
 (some (Ctl.out u1))
def Gf (x74:List Int) (u2 u3:Nat) (a0 x75:Int) (u0:Nat) (u1:LL):Option (Ctl (Nat×LL) (LL)) :=
 cond (decide ((u0:Int)<(x74.length:Int)))
 ((u1[u2]?).bind fun x83 =>
 (x83[u0]?).bind fun x84 =>
 (u1[u3]?).bind fun x85 =>
 (x85[u0]?).bind fun x86 =>
 (Ll a0 x75 x86).bind fun y87 =>
 (Nq a0 x84 y87).bind fun y88 =>
 og (u0+1<4611686018427387904) <|
 some (Ctl.next (u0+1,u1.set u2 (x83.set u0 y88))))
 (some (Ctl.out u1))
def Gu (u4:LL) (u2 u3:Nat) (a0:Int) (u0:Nat) (u1:LL):Option (Ctl (Nat×LL) (LL)) :=
 cond (decide ((u0:Int)<(u4.length:Int)))
 (((cond ((u0:Int)==(u2:Int))
       (some true)
       ((u1[u0]?).bind fun x70 =>
       (x70[u3]?).bind fun x71 =>
       some (x71==0))).bind fun u5 =>
  cond u5
   (some u1)
   ((u1[u0]?).bind fun x74 =>
   (x74[u3]?).bind fun x75 =>
   Aq (fun s_:Nat×LL=>Gf x74 u0 u2 a0 x75 s_.1 s_.2) 4611686018427387904 (0,u1))).bind fun u6 =>
 og (u0+1<4611686018427387904) <|
 some (Ctl.next (u0+1,u6)))
 (some (Ctl.out u1))
def Dk (a1 a0:Int) (u0 u2:Nat) (u1:LL):Option (Ctl (Nat×Nat×LL) (Nat×LL)) :=
 (cond (decide ((u2:Int)<a1))
  (some (decide ((u0:Int)<(u1.length:Int))))
  (some false)).bind fun u5 =>
cond u5
 (((Aq (fun s_:Nat=>Ew u1 u2 s_) 4611686018427387904 u0).bind fun u3 =>
  cond ((u3:Int)==(u1.length:Int))
   (some (u0,u1))
   ((u1[u0]?).bind fun x39 =>
   (u1[u3]?).bind fun x41 =>
   (((u1.set u0 x41).set u3 x39)[u0]?).bind fun x44 =>
   (x44[u2]?).bind fun x45 =>
   (Nt a0 x45).bind fun y46 =>
   (Aq (fun s_:Nat×LL=>Gj x44 u0 a0 y46 s_.1 s_.2) 4611686018427387904 (0,(u1.set u0 x41).set u3 x39)).bind fun u4 =>
   (Aq (fun s_:Nat×LL=>Gu u4 u0 u2 a0 s_.1 s_.2) 4611686018427387904 (0,u4)).bind fun u6 =>
   og (u0+1<4611686018427387904) <|
   some (u0+1,u6))).bind fun (u7,u8) =>
 og (u2+1<4611686018427387904) <|
 some (Ctl.next (u7,u2+1,u8)))
 (some (Ctl.out (u0,u1)))
def D2 (a0 a1:Int) (a2:LL):Option (LL) :=
 (Aq (fun s_:Nat×LL=>Er a2 s_.1 s_.2) 4611686018427387904 (0,([]:LL))).bind fun u2 =>
(Aq (fun s_:Nat×Nat×LL=>Dk a1 a0 s_.1 s_.2.1 s_.2.2) 4611686018427387904 (0,0,u2)).bind fun (u0,u1) =>
og ((0:Int)<=0/\0<=(u0:Int)/\(u0:Int)<=(u1.length:Int)) <|
some (u1.take u0)
theorem I2 (h:D2 bA bB dA=some dB):D1 Tryz.prog Tab 104 [ai bA,ai bB,tS dA] [] (oS 0 1 dB.length) [(oi 0 1,.mat 42 (oi 1 1) .int dB),(oi 1 1,.pool 3 .int dB)]:=by
 refine Br kr Tryz.func104 (B6 kr) (n:=177) kr (by simp) rfl kr trivial ⟨⟨3,.tail _ (.head _)⟩,⟨trivial,trivial⟩⟩ (Ae (Ae (sqF h (fun uf=>sT [(0,ai bA),(1,ai bB),(7,oS 0 1 uf.length)] [(oi 0 1,.mat 42 (oi 1 1) .int uf),(oi 1 1,.pool 3 .int uf)]) ?_ ?_)))
 ·intro _ h;refine Ae (Ad (lpF h (fun (uj,uc)=>sT [(0,ai bA),(1,ai bB),(7,oS 0 1 uc.length),(19,tS dA),(20,an dA.length),(21,an uj)] [(oi 0 1,.mat 42 (oi 1 1) .int uc),(oi 1 1,.pool 3 .int uc)]) ((Og 7 42 sI kr).trans ((Ex (e1:=42) (n:=0) 9000 (oi 7 6) 3 .int kr kr rfl kr kr).trans (Ag [(oi 0 1,oi 7 6),(oi 1 1,oi 9000 7)]))) ?_));rintro n_ ⟨uj,uc⟩ c_ h hn6
  (try dsimp only at h);refine Ae (Ab (kQ h (fun q9 h=>?_) fun q9 h=>?_))
  ·have q9_:=of_decide_eq_true q9;refine skW (Ab (Ad (Ab (Aa 6 (riH sI h fun x12 _ h=>rsT 2 (rnW (Aa 12 (rsT 2 (rcH h Jy fun y13 h=>Lq (oS 28 9 1) (oi 28 9) (.vec 42 1 1 ([oI 432 8 y13.length])) trivial (Dt kr) ?_)))))))));obtain ⟨g14,h⟩:=Ak h;refine zV (oi 0 1) (oi 28 9) (oi 1 1) uc [oI 432 8 y13.length] g14 (rsT 1 (Ap (bn_ (tn_ ⟨_,El (e1:=42) (e:=3) (u:=.int) (n:=uc.length+1) (len:=y13.length) (row:=y13) (ys:=y13) (xss:=uc) 9000 (oi 0 10) (oi 1 1) (oi 432 8) kr kr rfl kr kr (Nm rfl) (Nn rfl) kr kr kr,Aa 15 ?_⟩))));obtain ⟨g15,h⟩:=Ak h;refine zA g15 (rsT 1 (Ap (tn_ ?_)));obtain rfl:=zj h;exact jLw hn6 ((wL 7 ((by simp):uc.length+1=(uc++[y13]).length)).trans (Ag [(oi 0 1,oi 0 10),(oi 1 1,oi 9000 12)]))
  have q9_:=of_decide_eq_false q9;refine lxT ?_;have h:=jO h hn6
  (try dsimp only at h);exact jE []
 intro uf h
 (try dsimp only at h);refine Ae (sqF h (fun (ua,ub)=>sT [(7,oS 0 1 ub.length),(10,an ua)] [(oi 0 1,.mat 42 (oi 1 1) .int ub),(oi 1 1,.pool 3 .int ub)]) ?_ ?_)
 ·intro _ h;refine Ae (Ad (lpF h (fun (u0,u3,u1)=>sT [(0,ai bA),(1,ai bB),(7,oS 0 1 u1.length),(10,an u0),(11,an u3)] [(oi 0 1,.mat 42 (oi 1 1) .int u1),(oi 1 1,.pool 3 .int u1)]) (Ag []) ?_));rintro n_ ⟨u0,u3,u1⟩ c_ h hn19
  (try dsimp only at h);refine Ab (sqF h (fun uk=>sT [(0,ai bA),(1,ai bB),(7,oS 0 1 u1.length),(10,an u0),(11,an u3),(39,.bool uk)] [(oi 0 1,.mat 42 (oi 1 1) .int u1),(oi 1 1,.pool 3 .int u1)]) ?_ ?_)
  ·intro _ h;refine Aa 11 (rsT 4 (kR h 34 (fun q22 h=>?_) fun q22 h=>?_))
   ·have q22_:=of_decide_eq_true q22;exact rsT 5 (Ap (tn_ (jE [])))
   have q22_:=of_decide_eq_false q22;exact rsT 5 (Ap (tn_ (jE [])))
  intro uk h
  (try dsimp only at h);refine kQ h (fun _ h=>?_) fun _ h=>?_
  ·refine skW (sqF h (fun (ul,ug)=>sT [(0,ai bA),(1,ai bB),(7,oS 0 1 ug.length),(10,an ul),(11,an u3)] [(oi 0 1,.mat 42 (oi 1 1) .int ug),(oi 1 1,.pool 3 .int ug)]) ?_ ?_)
   ·intro _ h;refine Ad (Ae (sqF h (fun u6=>sT [(0,ai bA),(1,ai bB),(7,oS 0 1 u1.length),(10,an u0),(11,an u3),(12,an u6)] [(oi 0 1,.mat 42 (oi 1 1) .int u1),(oi 1 1,.pool 3 .int u1)]) ?_ ?_))
    ·intro _ h;refine Ad (lpF h (fun ud=>sT [(0,ai bA),(1,ai bB),(7,oS 0 1 u1.length),(10,an u0),(11,an u3),(12,an ud)] [(oi 0 1,.mat 42 (oi 1 1) .int u1),(oi 1 1,.pool 3 .int u1)]) (Ag []) ?_);intro n_ ud c_ h hn27
     (try dsimp only at h);refine Ab (sqF h (fun um=>sT [(0,ai bA),(1,ai bB),(7,oS 0 1 u1.length),(10,an u0),(11,an u3),(12,an ud),(56,.bool um)] [(oi 0 1,.mat 42 (oi 1 1) .int u1),(oi 1 1,.pool 3 .int u1)]) ?_ ?_)
     ·intro _ h;refine Aa 16 (rsT 5 ?_);rcases A0 h with ⟨q30,h⟩|⟨q30,h⟩
      ·have q30_:=of_decide_eq_true q30;refine rq 47 q30 (rsT 2 ?_);obtain ⟨x31,e31,h⟩:=Ah h;refine zO (oi 0 1) sI u1.length (Ai e31) (rsl (.own (kid (oi 1 1) ud) .int 0 x31.length) (D6 (o:=oi 0 1) (p:=oi 1 1) (e1:=42) (u:=.int) (xss:=u1) (row:=x31) (j:=ud) kr kr e31) (rsT 1 ?_));obtain ⟨x32,e32,h⟩:=Ah h;exact rs0 (.elt (kid (oi 1 1) ud) u3 0) (zo (t:=.int) (o:=kid (oi 1 1) ud) (len:=x31.length) (k:=.i64) (m:=(u3:Int)) (Cu _) (Ai e32)) (rsl (ai x32) (H5 (i:=kid (oi 1 1) ud) (j:=u3) (k:=0) (e:=3) (t:=.int) (xs:=x31) kr (Bc kr e31) e32 kr) (rsT 2 (Ap (tn_ (jE [])))))
      have q30_:=of_decide_eq_false q30;exact rq 47 q30 (rsT 9 (Ap (tn_ (jE []))))
     intro um h
     (try dsimp only at h);refine kQ h (fun _ h=>?_) fun _ h=>?_
     ·refine skW (Ad (Aa 5 (rsT 1 ?_)));obtain ⟨g34,h⟩:=Ak h;exact zA g34 (rsT 1 (Ap (bn_ (tn_ (jL [])))))
     refine lxT ?_;have h:=jO h hn27
     (try dsimp only at h);exact jE []
    intro u6 h
    (try dsimp only at h);refine Ab (Ae (kQ h (fun _ h=>Dv (te_ (be_ (tn_ (jE []))))) fun _ h=>skW (Ab (Aa 11 (rsT 2 ?_)))));obtain ⟨x39,e39,h⟩:=Ah h;refine zO (oi 0 1) sI u1.length (Ai e39) (rsl (.own (kid (oi 1 1) u0) .int 0 x39.length) (D6 (o:=oi 0 1) (p:=oi 1 1) (e1:=42) (u:=.int) (xss:=u1) (row:=x39) (j:=u0) kr kr e39) (rsT 1 (rnW (Ab (Aa 19 (rsT 4 ?_))))));obtain ⟨x41,e41,h⟩:=Ah h;refine zO (oi 0 1) sI u1.length (Ai e41) (rsl (.own (kid (oi 1 1) u6) .int 0 x41.length) (D6 (o:=oi 0 1) (p:=oi 1 1) (e1:=42) (u:=.int) (xss:=u1) (row:=x41) (j:=u6) kr kr e41) (zO (oi 0 1) sI u1.length (Ai e39) (Afj (oi 0 1) (oi 0 1) (.vec 42 1 u1.length ((hdL (oi 1 1) .int u1).set u0 (.own (kid (oi 1 1) u6) .int 0 x41.length))) (Abq (o:=oi 0 1) (e1:=42) (m:=u1.length) (cs:=hdL (oi 1 1) .int u1) (v:=.own (kid (oi 1 1) u6) .int 0 x41.length) (j:=u0) kr kr kr rfl (by rw [C7];exact Ai e39)) (rnW (Ab (Aa 24 (rsT 3 (zO (oi 0 1) sI u1.length (Ai e41) (Afj (oi 0 1) (oi 0 1) (.vec 42 1 u1.length (((hdL (oi 1 1) .int u1).set u0 (.own (kid (oi 1 1) u6) .int 0 x41.length)).set u6 (.own (kid (oi 1 1) u0) .int 0 x39.length))) (Abq (o:=oi 0 1) (e1:=42) (m:=u1.length) (cs:=(hdL (oi 1 1) .int u1).set u0 (.own (kid (oi 1 1) u6) .int 0 x41.length)) (v:=.own (kid (oi 1 1) u0) .int 0 x39.length) (j:=u6) kr kr kr rfl (by rw [List.length_set,C7];exact Ai e41)) (Ap (tn_ ⟨_,Aao (e1:=42) (e:=3) (u:=.int) (xss:=u1) (i:=u0) (j:=u6) (n:=u1.length) (li:=x39.length) (lj:=x41.length) (ri:=x39) (rj:=x41) 9000 (oi 0 1) (oi 1 1) kr kr rfl kr e39 e41 rfl rfl kr kr,Ab (Aa 35 (rsT 3 ?_))⟩)))))))))));obtain ⟨x44,e44,h⟩:=Ah h;refine rs0 (.elt (oi 0 1) u0 0) (zo (t:=sI) (o:=oi 0 1) (len:=u1.length) (k:=.i64) (m:=(u0:Int)) (Cu _) (Nat.lt_of_lt_of_le (Ai e44) (Nat.le_of_eq (Eq.symm (Eq.trans (b:=u1.length) rfl (by simp)))))) (rsl (.own (kid (oi 9000 24) u0) .int 0 x44.length) (D6 (o:=oi 0 1) (p:=oi 9000 24) (e1:=42) (u:=.int) (xss:=(u1.set u0 x41).set u6 x39) (row:=x44) (j:=u0) kr kr e44) (rsT 1 ?_));obtain ⟨x45,e45,h⟩:=Ah h;refine rs0 (.elt (kid (oi 9000 24) u0) u3 0) (zo (t:=.int) (o:=kid (oi 9000 24) u0) (len:=x44.length) (k:=.i64) (m:=(u3:Int)) (Cu _) (Ai e45)) (rsl (ai x45) (H5 (i:=kid (oi 9000 24) u0) (j:=u3) (k:=0) (e:=3) (t:=.int) (xs:=x44) kr (Bc kr e44) e45 kr) (rcH h Adq fun y46 h=>rsT 1 (rnW (sqF h (fun ue=>sT [(0,ai bA),(1,ai bB),(7,oS 0 1 ue.length),(10,an u0),(11,an u3)] [(oi 0 1,.mat 42 (oi 1 1) .int ue),(oi 1 1,.pool 3 .int ue)]) ?_ ?_))))
    ·intro _ h;refine Ab (Aa 41 (rsT 2 (rs0 (.elt (oi 0 1) u0 0) (zo (t:=sI) (o:=oi 0 1) (len:=u1.length) (k:=.i64) (m:=(u0:Int)) (Cu _) (Nat.lt_of_lt_of_le (Ai e44) (Nat.le_of_eq (Eq.symm (Eq.trans (b:=u1.length) rfl (by simp)))))) (rsl (.own (kid (oi 9000 24) u0) .int 0 x44.length) (D6 (o:=oi 0 1) (p:=oi 9000 24) (e1:=42) (u:=.int) (xss:=(u1.set u0 x41).set u6 x39) (row:=x44) (j:=u0) kr kr e44) (rsT 2 (rnW (Ad (lpF h (fun (u9,u7)=>sT [(0,ai bA),(1,ai bB),(7,oS 0 1 u7.length),(10,an u0),(11,an u3),(14,ai y46),(91,an x44.length),(92,an u9)] [(oi 0 1,.mat 42 (oi 1 1) .int u7),(oi 1 1,.pool 3 .int u7)]) ((wL 7 ((Eq.trans (b:=u1.length) rfl (by simp)):u1.length=((u1.set u0 x41).set u6 x39).length)).trans (Ag [(oi 1 1,oi 9000 24)])) ?_))))))));rintro n_ ⟨u9,u7⟩ c_ h hn49
     (try dsimp only at h);refine Ae (Ab (kQ h (fun q52 h=>?_) fun q52 h=>?_))
     ·have q52_:=of_decide_eq_true q52;refine skW (Ab (Ad (Ae (Ao 22 (dz0 (oS 0 1 u7.length) (dz0 (an u0) ?_))))));obtain ⟨x55,e55,h⟩:=Ah h;refine dzO (oi 0 1) sI u7.length (Ai e55) (dsl (.own (kid (oi 1 1) u0) .int 0 x55.length) (D6 (o:=oi 0 1) (p:=oi 1 1) (e1:=42) (u:=.int) (xss:=u7) (row:=x55) (j:=u0) kr kr e55) (dsT 4 (dzO (oi 0 1) sI u7.length (Ai e55) (dsl (.own (kid (oi 1 1) u0) .int 0 x55.length) (D6 (o:=oi 0 1) (p:=oi 1 1) (e1:=42) (u:=.int) (xss:=u7) (row:=x55) (j:=u0) kr kr e55) (dz0 (an u9) ?_)))));obtain ⟨x56,e56,h⟩:=Ah h;refine ds0 (.elt (kid (oi 1 1) u0) u9 0) (zo (t:=.int) (o:=kid (oi 1 1) u0) (len:=x55.length) (k:=.i64) (m:=(u9:Int)) (Cu _) (Ai e56)) (dsl (ai x56) (H5 (i:=kid (oi 1 1) u0) (j:=u9) (k:=0) (e:=3) (t:=.int) (xs:=x55) kr (Z8.trans (Bc kr e55)) e56 kr) (dz0 (ai y46) (dcH h Tz fun y57 h=>ds0 (.elt (kid (oi 1 1) u0) u9 0) (zo (t:=.int) (o:=kid (oi 1 1) u0) (len:=x55.length) (k:=.i64) (m:=(u9:Int)) (Cu _) (Ai e56)) (Oz (kid (oi 1 1) u0) (kid (oi 1 1) u0) (.arr 3 .int (x55.set u9 y57)) (Vm (i:=kid (oi 1 1) u0) (j:=u9) (k:=0) (e:=3) (t:=.int) (xs:=x55) (cs:=[ai y57]) (x1:=y57) kr (Z8.trans (Bc kr e55)) e56 kr kr) (Alr (Aa8 (o:=oi 0 1) (p:=oi 1 1) (e1:=42) (e:=3) (u:=.int) (xss:=u7) (k:=u0) (row:=x55) (row':=x55.set u9 y57) kr rfl kr e55 List.length_set) (Co (As kr) (bn_ (tn_ (wr_ (Aa 24 ?_))))))))));obtain ⟨g58,h⟩:=Ak h;refine zA g58 (rsT 1 (Ap (tn_ ?_)));obtain rfl:=zj h;exact jLw hn49 ((wL 7 ((Eq.trans (b:=u7.length) rfl List.length_set.symm):u7.length=(u7.set u0 (x55.set u9 y57)).length)).trans (Ag []))
     have q52_:=of_decide_eq_false q52;refine lxT ?_;have h:=jO h hn49
     (try dsimp only at h);exact jE []
    intro ue h
    (try dsimp only at h);refine sqF h (fun uh=>sT [(0,ai bA),(1,ai bB),(7,oS 0 1 uh.length),(10,an u0),(11,an u3)] [(oi 0 1,.mat 42 (oi 1 1) .int uh),(oi 1 1,.pool 3 .int uh)]) ?_ ?_
    ·intro _ h;refine Ae (Ad (lpF h (fun (u2,u8)=>sT [(0,ai bA),(1,ai bB),(7,oS 0 1 u8.length),(10,an u0),(11,an u3),(113,an ue.length),(114,an u2)] [(oi 0 1,.mat 42 (oi 1 1) .int u8),(oi 1 1,.pool 3 .int u8)]) (Ag []) ?_));rintro n_ ⟨u2,u8⟩ c_ h hn61
     (try dsimp only at h);refine Ae (Ab (kQ h (fun q64 h=>?_) fun q64 h=>?_))
     ·have q64_:=of_decide_eq_true q64;refine skW (sqF h (fun ui=>sT [(0,ai bA),(1,ai bB),(7,oS 0 1 ui.length),(10,an u0),(11,an u3),(113,an ue.length),(114,an u2)] [(oi 0 1,.mat 42 (oi 1 1) .int ui),(oi 1 1,.pool 3 .int ui)]) ?_ ?_)
      ·intro _ h;refine Ad (Ae (Ab (sqF h (fun un=>sT [(0,ai bA),(1,ai bB),(7,oS 0 1 u8.length),(10,an u0),(11,an u3),(16,an u2),(113,an ue.length),(114,an u2),(129,.bool un)] [(oi 0 1,.mat 42 (oi 1 1) .int u8),(oi 1 1,.pool 3 .int u8)]) ?_ ?_)))
       ·intro _ h;refine Aa 18 (rsT 4 ?_);rcases A0 h with ⟨q69,h⟩|⟨q69,h⟩
        ·exact rq 120 q69 (rsT 9 (Ap (tn_ (jE []))))
        refine rq 120 q69 (rsT 2 ?_);obtain ⟨x70,e70,h⟩:=Ah h;refine zO (oi 0 1) sI u8.length (Ai e70) (rsl (.own (kid (oi 1 1) u2) .int 0 x70.length) (D6 (o:=oi 0 1) (p:=oi 1 1) (e1:=42) (u:=.int) (xss:=u8) (row:=x70) (j:=u2) kr kr e70) (rsT 1 ?_));obtain ⟨x71,e71,h⟩:=Ah h;exact rs0 (.elt (kid (oi 1 1) u2) u3 0) (zo (t:=.int) (o:=kid (oi 1 1) u2) (len:=x70.length) (k:=.i64) (m:=(u3:Int)) (Cu _) (Ai e71)) (rsl (ai x71) (H5 (i:=kid (oi 1 1) u2) (j:=u3) (k:=0) (e:=3) (t:=.int) (xs:=x70) kr (Bc kr e70) e71 kr) (rsT 2 (Ap (tn_ (jE [])))))
       intro un h
       (try dsimp only at h);refine kQ h (fun _ h=>Dv (te_ (be_ (tn_ (jE []))))) fun _ h=>skW (Ab (Aa 10 (rsT 2 ?_)))
       obtain ⟨x74,e74,h⟩:=Ah h;refine zO (oi 0 1) sI u8.length (Ai e74) (rsl (.own (kid (oi 1 1) u2) .int 0 x74.length) (D6 (o:=oi 0 1) (p:=oi 1 1) (e1:=42) (u:=.int) (xss:=u8) (row:=x74) (j:=u2) kr kr e74) (rsT 1 ?_));obtain ⟨x75,e75,h⟩:=Ah h;refine rs0 (.elt (kid (oi 1 1) u2) u3 0) (zo (t:=.int) (o:=kid (oi 1 1) u2) (len:=x74.length) (k:=.i64) (m:=(u3:Int)) (Cu _) (Ai e75)) (rsl (ai x75) (H5 (i:=kid (oi 1 1) u2) (j:=u3) (k:=0) (e:=3) (t:=.int) (xs:=x74) kr (Bc kr e74) e75 kr) (rsT 1 (rnW (Ab (Aa 16 (rsT 2 (zO (oi 0 1) sI u8.length (Ai e74) (rsl (.own (kid (oi 1 1) u2) .int 0 x74.length) (D6 (o:=oi 0 1) (p:=oi 1 1) (e1:=42) (u:=.int) (xss:=u8) (row:=x74) (j:=u2) kr kr e74) (rsT 2 (rnW (Ad (lpF h (fun (u4,u5)=>sT [(0,ai bA),(1,ai bB),(7,oS 0 1 u5.length),(10,an u0),(11,an u3),(16,an u2),(17,ai x75),(113,an ue.length),(114,an u2),(141,an x74.length),(142,an u4)] [(oi 0 1,.mat 42 (oi 1 1) .int u5),(oi 1 1,.pool 3 .int u5)]) (Ag []) ?_))))))))))));rintro n_ ⟨u4,u5⟩ c_ h hn77
       (try dsimp only at h);refine Ae (Ab (kQ h (fun q80 h=>?_) fun q80 h=>?_))
       ·have q80_:=of_decide_eq_true q80;refine skW (Ab (Ad (Ae (Ao 31 (dz0 (oS 0 1 u5.length) (dz0 (an u2) ?_))))));obtain ⟨x83,e83,h⟩:=Ah h;refine dzO (oi 0 1) sI u5.length (Ai e83) (dsl (.own (kid (oi 1 1) u2) .int 0 x83.length) (D6 (o:=oi 0 1) (p:=oi 1 1) (e1:=42) (u:=.int) (xss:=u5) (row:=x83) (j:=u2) kr kr e83) (dsT 4 (dzO (oi 0 1) sI u5.length (Ai e83) (dsl (.own (kid (oi 1 1) u2) .int 0 x83.length) (D6 (o:=oi 0 1) (p:=oi 1 1) (e1:=42) (u:=.int) (xss:=u5) (row:=x83) (j:=u2) kr kr e83) (dz0 (an u4) ?_)))));obtain ⟨x84,e84,h⟩:=Ah h;refine ds0 (.elt (kid (oi 1 1) u2) u4 0) (zo (t:=.int) (o:=kid (oi 1 1) u2) (len:=x83.length) (k:=.i64) (m:=(u4:Int)) (Cu _) (Ai e84)) (dsl (ai x84) (H5 (i:=kid (oi 1 1) u2) (j:=u4) (k:=0) (e:=3) (t:=.int) (xs:=x83) kr (Z8.trans (Bc kr e83)) e84 kr) (dz0 (ai bA) (dz0 (ai x75) (dz0 (oS 0 1 u5.length) (dz0 (an u0) ?_)))));obtain ⟨x85,e85,h⟩:=Ah h;refine dzO (oi 0 1) sI u5.length (Ai e85) (dsl (.own (kid (oi 1 1) u0) .int 0 x85.length) (D6 (o:=oi 0 1) (p:=oi 1 1) (e1:=42) (u:=.int) (xss:=u5) (row:=x85) (j:=u0) kr kr e85) (dz0 (an u4) ?_));obtain ⟨x86,e86,h⟩:=Ah h;refine ds0 (.elt (kid (oi 1 1) u0) u4 0) (zo (t:=.int) (o:=kid (oi 1 1) u0) (len:=x85.length) (k:=.i64) (m:=(u4:Int)) (Cu _) (Ai e86)) (dsl (ai x86) (H5 (i:=kid (oi 1 1) u0) (j:=u4) (k:=0) (e:=3) (t:=.int) (xs:=x85) kr (Z8.trans (Bc kr e85)) e86 kr) (dcH h Tz fun y87 h=>dcH h Ad0 fun y88 h=>ds0 (.elt (kid (oi 1 1) u2) u4 0) (zo (t:=.int) (o:=kid (oi 1 1) u2) (len:=x83.length) (k:=.i64) (m:=(u4:Int)) (Cu _) (Ai e84)) (Oz (kid (oi 1 1) u2) (kid (oi 1 1) u2) (.arr 3 .int (x83.set u4 y88)) (Vm (i:=kid (oi 1 1) u2) (j:=u4) (k:=0) (e:=3) (t:=.int) (xs:=x83) (cs:=[ai y88]) (x1:=y88) kr (Z8.trans (Bc kr e83)) e84 kr kr) (Alr (Aa8 (o:=oi 0 1) (p:=oi 1 1) (e1:=42) (e:=3) (u:=.int) (xss:=u5) (k:=u2) (row:=x83) (row':=x83.set u4 y88) kr rfl kr e83 List.length_set) (Co (As kr) (bn_ (tn_ (wr_ (Aa 33 ?_)))))))));obtain ⟨g89,h⟩:=Ak h;refine zA g89 (rsT 1 (Ap (tn_ ?_)));obtain rfl:=zj h;exact jLw hn77 ((wL 7 ((Eq.trans (b:=u5.length) rfl List.length_set.symm):u5.length=(u5.set u2 (x83.set u4 y88)).length)).trans (Ag []))
       have q80_:=of_decide_eq_false q80;refine Dv (te_ (te_ (be_ (bn_ (tn_ ?_)))));have h:=jO h hn77
       (try dsimp only at h);exact jE []
      intro ui h
      (try dsimp only at h);refine Aa 4 ?_;obtain ⟨g90,h⟩:=Ak h;exact zA g90 (rsT 1 (Ap (tn_ (jL []))))
     have q64_:=of_decide_eq_false q64;refine lxT ?_;have h:=jO h hn61
     (try dsimp only at h);exact jE []
    intro uh h
    (try dsimp only at h);refine Aa 5 (rsT 1 ?_);obtain ⟨g91,h⟩:=Ak h;exact zA g91 (rsT 1 (Ap (bn_ (tn_ (jE [])))))
   rintro ⟨ul,ug⟩ h
   (try dsimp only at h);refine Aa 5 (rsT 1 ?_);obtain ⟨g92,h⟩:=Ak h;exact zA g92 (rsT 1 (Ap (tn_ (jL []))))
  refine lxT ?_;have h:=jO h hn19
  (try dsimp only at h);exact jE []
 rintro ⟨ua,ub⟩ h
 (try dsimp only at h);refine Ab (Aa 6 (rsT 2 ?_));obtain ⟨g94,h⟩:=Ak h;refine rs0 (oS 0 1 ua) (G5 (t:=sI) (i:=oi 0 1) (off:=0) (len:=ub.length) (l:=0) (h:=(ua:Int)) kr kr kr rfl g94 rfl oM) (rsT 1 (rnW (Ac ?_)));obtain rfl:=zj h;exact E4 [oS 0 1 ((ub.take ua).length)] ((Ak0 (e1:=42) (e:=3) (u:=.int) (xss:=ub) (n:=ub.length) (k:=ua) 9000 (oi 0 1) (oi 1 1) kr kr rfl kr oM kr kr kr).trans ((Abl 6 (oS 0 1 ua) (oS 0 1 ((ub.take ua).length)) kr (congrArg (fun z_=>((oS 0 1 z_):AV)) ((Amy oM):ua=(ub.take ua).length))).trans (Ag (tl:=[(6,oS 0 1 (ub.take ua).length)]) (g:=2) [(oi 1 1,oi 9000 6)])))
def Yr (a0 u0:Int) (u1 u2:Int):Option (Ctl (Int×Int×Int) Int) :=
 cond (decide (0<u1))
 ((cond ((Int.tmod u1 2)==1)
   (og (a0≠0) <|
   some (Int.tmod (wI (u2*u0)) a0))
   (some u2)).bind fun u3 =>
 og (a0≠0) <|
 some (Ctl.next (Int.tmod (wI (u0*u0)) a0,wI (Int.tdiv u1 2),u3)))
 (some (Ctl.out u2))
def U9 (a0 a1 a2:Int):Option Int :=
 og (a0≠0) <|
(Aq (fun s_:Int×Int×Int=>Yr a0 s_.1 s_.2.1 s_.2.2) 4611686018427387904 (a1,a2,Int.tmod 1 a0)).bind fun u0 =>
some u0
theorem Adu (h:U9 bA bB bC=some bD):cK 166 [ai bA,ai bB,ai bC] (A3 bD):=by
 refine cO Tryz.func166 (Ae (Ab (Aa 5 (rsT 1 ?_))));obtain ⟨g3,h⟩:=Ak h;refine rs0 (ai (Int.tmod 1 bA)) (Pb (k:=.i64) (a:=1) (b:=bA) kr kr g3) (rsT 1 (rnW (sqF h (fun u3=>sT [(7,ai u3)] []) ?_ fun u3 h=>Ae (Ac (jS h)))));intro _ h;refine Ad (lpF h (fun (u0,u1,u2)=>sT [(0,ai bA),(1,ai u0),(2,ai u1),(7,ai u2)] []) (Ag []) ?_);rintro n_ ⟨u0,u1,u2⟩ c_ h hn5;refine Ab (Ae (kQ h (fun _ h=>skW (Ab (Ad (sqF h (fun u4=>sT [(0,ai bA),(1,ai u0),(2,ai u1),(7,ai u4)] []) ?_ ?_)))) fun _ h=>lxT (have h:=jO h hn5;jE [])))
 ·intro _ h;refine Ab (Aa 7 (rsT 1 (rs0 (ai (Int.tmod u1 2)) (Pb (k:=.i64) (a:=u1) (b:=2) kr kr (by decide)) (rsT 1 (rnW (kQ h (fun _ h=>Aa 13 (rsT 4 ?_)) fun _ h=>Az (tn_ (jE []))))))));obtain ⟨g13,h⟩:=Ak h;exact rs0 (ai (Int.tmod (wI (u2*u0)) bA)) (Pb (k:=.i64) (a:=wI (u2*u0)) (b:=bA) kr kr g13) (rsT 1 (Ap (tn_ (jE []))))
 intro u4 h;refine Aa 8 (rsT 4 ?_);obtain ⟨g14,h⟩:=Ak h;exact rs0 (ai (Int.tmod (wI (u0*u0)) bA)) (Pb (k:=.i64) (a:=wI (u0*u0)) (b:=bA) kr kr g14) (rsT 1 (Ap (bn_ (tn_ (wr_ (Aa 11 (rsT 1 (rs0 (ai (wI (Int.tdiv u1 2))) (Avq (k:=.i64) (a:=u1) (b:=2) kr kr (by decide)) (rsT 1 (Ap (tn_ (jL []))))))))))))
def Abs (a0:Bool):Option Int :=
 cond a0
 (some 1)
 (some 0)
theorem Ahc (h:Abs cA=some bA):cK 167 [.bool cA] (A3 bA):=by
 exact cO Tryz.func167 (Ae (Ab (Ae (kQ h (fun _ h=>Ae (Ac (tr_ (jS h)))) fun _ h=>skW (Ae (Ac (jS h)))))))
def Ld (a0 a1:Int):Option Int :=
 (Abs (a0==2)).bind fun y3 =>
(U9 a0 a1 (wI (wI (a0 - 2)+y3))).bind fun y4 =>
some y4
theorem Za (h:Ld bA bB=some bC):cK 163 [ai bA,ai bB] (A3 bC):=by
 exact cO Tryz.func163 (Ae (Ab (Aa 12 (rsT 6 (rcH h Ahc fun y3 h=>rsT 1 (rcH h Adu fun y4 h=>rsT 1 (rnW (Ac (jS h)))))))))
def Cp (a3:List Int) (a0 a2:Int) (u0:Nat) (u1:List Int):Option (Ctl (Nat×List Int) (List Int)) :=
 cond (decide ((u0:Int)<(a3.length:Int)))
 ((a3[u0]?).bind fun x9 =>
 (u1[u0]?).bind fun x10 =>
 (Qp a0 (wI (x10+wI (a2*x9)))).bind fun y11 =>
 og (u0+1<4611686018427387904) <|
 some (Ctl.next (u0+1,u1.set u0 y11)))
 (some (Ctl.out u1))
def Bv (a0:Int) (a1:List Int) (a2:Int) (a3:List Int):Option (List Int) :=
 Aq (fun s_:Nat×List Int=>Cp a3 a0 a2 s_.1 s_.2) 4611686018427387904 (0,a1)
theorem Ir (h:Bv bA aA bB aB=some aC) {n_a1:Nat} (hn_a1:n_a1=aA.length):D1 Tryz.prog Tab 117 [ai bA,oI 0 0 n_a1,ai bB,tI aB] [(oi 0 0,.arr 3 .int aA)] (.tup []) [(oi 0 0,.arr 3 .int aC)]:=by
 refine Br kr Tryz.func117 (B6 kr) (n:=31) kr (by simp) rfl kr ⟨trivial,trivial⟩ ⟨trivial,trivial⟩ (Ae (Ad (lpF h (fun (u1,u0)=>sT [(0,ai bA),(1,oI 0 0 u0.length),(2,ai bB),(10,tI aB),(11,an aB.length),(12,an u1)] [(oi 0 0,.arr 3 .int u0)]) ((wL 1 (hn_a1:n_a1=aA.length)).trans (Ag [])) ?_)));rintro n_ ⟨u1,u0⟩ c_ h hn3;refine Ae (Ab (kQ h (fun _ h=>skW (Ab (Ad (Ab (Aa 8 (rsT 1 (riH .int h fun x9 _ h=>rsT 3 (rnW (Aa 22 (rsT 5 ?_)))))))))) fun _ h=>Dv (te_ (te_ (be_ (have h:=jO h hn3;(by obtain rfl:=osj h;exact E4 [] (Ag (tl:=[]) (g:=2) []))))))));obtain ⟨x10,e10,h⟩:=Ah h;refine zO (oi 0 0) .int u0.length (Ai e10) (zE (oi 0 0) e10 (rsT 4 (rcH h Aio fun y11 h=>zO (oi 0 0) .int u0.length (Ai e10) (zS (oi 0 0) (y11) e10 (Ap (bn_ (tn_ (wr_ (Aa 24 (raH h fun h=>rsT 1 (Ap (tn_ ?_))))))))))));obtain rfl:=zj h;exact jLw hn3 ((wL 1 (((rfl:u0.length=u0.length).trans List.length_set.symm):u0.length=(u0.set u1 y11).length)).trans (Ag []))
def Fz (a0:LL) (u0:Nat) (u1:LL):Option (Ctl (Nat×LL) (LL)) :=
 cond (decide ((u0:Int)<(a0.length:Int)))
 ((a0[u0]?).bind fun x13 =>
 (Iz x13).bind fun y14 =>
 og (u1.length+1<=1073741824/\(u1.length+1)*24<=140737488355328) <|
 og (u0+1<4611686018427387904) <|
 some (Ctl.next (u0+1,u1++[y14])))
 (some (Ctl.out u1))
def Jj (a0:LL):Option (LL) :=
 og (0<=(0:Int)/\(0:Int)<=(a0.length:Int)/\(a0.length:Int)<=1073741824/\(24:Int)*(a0.length:Int)<=140737488355328) <|
(Aq (fun s_:Nat×LL=>Fz a0 s_.1 s_.2) 4611686018427387904 (0,List.replicate 0 ([]:List Int))).bind fun u0 =>
some u0
theorem Su (h:Jj dA=some dB):D1 Tryz.prog Tab 143 [tS dA] [] (oS 0 1 dB.length) [(oi 0 1,.mat 42 (oi 1 1) .int dB),(oi 1 1,.pool 3 .int dB)]:=by
 refine Br kr Tryz.func143 (B6 kr) (n:=22) kr (by simp) rfl kr trivial ⟨⟨3,.tail _ (.head _)⟩,⟨trivial,trivial⟩⟩ (Ae (Ab (Aa 6 (rsT 2 ?_))));obtain ⟨g4,h⟩:=Ak h;refine Afi (oS 128 4 0) (oi 128 4) 42 3 .int (List.replicate 0 ([]:List Int)) trivial (Zn (j:=0) (k:=.i64) (k':=.i64) (m:=0) (c:=(dA.length:Int)) 3 kr kr g4 kr rfl) kr (by rw [List.length_replicate]) kr (rsT 1 (rnW (sqF h (fun u1=>sT [(3,oS 0 1 u1.length)] [(oi 0 1,.mat 42 (oi 1 1) .int u1),(oi 1 1,.pool 3 .int u1)]) ?_ fun u1 h=>Ae (Ac (by obtain rfl:=osj h;exact E4 [oS 0 1 u1.length] (Ag (tl:=[(2,oS 0 1 u1.length)]) (g:=2) []))))));intro _ h;refine Ae (Ad (lpF h (fun (u2,u0)=>sT [(3,oS 0 1 u0.length),(9,tS dA),(10,an dA.length),(11,an u2)] [(oi 0 1,.mat 42 (oi 1 1) .int u0),(oi 1 1,.pool 3 .int u0)]) ((wL 3 (List.length_replicate.symm:0=(List.replicate 0 ([]:List Int)).length)).trans (Ag [(oi 0 1,oi 128 4),(oi 1 1,oi 128 4)])) ?_));rintro n_ ⟨u2,u0⟩ c_ h hn7;refine Ae (Ab (kQ h (fun _ h=>skW (Ab (Ad (Ab (Aa 6 (riH sI h fun x13 _ h=>rsT 2 (rnW (Aa 12 (rsT 2 (rcH h Py fun y14 h=>Lq (oS 18 9 1) (oi 18 9) (.vec 42 1 1 ([oI 272 8 y14.length])) trivial (Dt kr) ?_)))))))))) fun _ h=>lxT (have h:=jO h hn7;jE [])));obtain ⟨g15,h⟩:=Ak h;refine zV (oi 0 1) (oi 18 9) (oi 1 1) u0 [oI 272 8 y14.length] g15 (rsT 1 (Ap (bn_ (tn_ ⟨_,El (e1:=42) (e:=3) (u:=.int) (n:=u0.length+1) (len:=y14.length) (row:=y14) (ys:=y14) (xss:=u0) 9000 (oi 0 10) (oi 1 1) (oi 272 8) kr kr rfl kr kr (Nm rfl) (Nn rfl) kr kr kr,Aa 15 (raH h fun h=>rsT 1 (Ap (tn_ ?_)))⟩))));obtain rfl:=zj h;exact jLw hn7 ((wL 3 ((by simp):u0.length+1=(u0++[y14]).length)).trans (Ag [(oi 0 1,oi 0 10),(oi 1 1,oi 9000 12)]))
def D3 (x13:List Int) (u2 a1 y11:Int) (u0:Nat) (u1:LL):Option (Ctl (Nat×LL) (LL)) :=
 cond (decide ((u0:Int)<(x13.length:Int)))
 ((Cb u1 u2).bind fun x20 =>
 og (0<=(u0:Int)/\u0<x13.length) <|
 (x20[u0]?).bind fun x22 =>
 og (a1≠0) <|
 og (u0+1<4611686018427387904) <|
 some (Ctl.next (u0+1,u1.set u2.toNat (x20.set u0 (Int.tmod (wI (x22*y11)) a1)))))
 (some (Ctl.out u1))
def Bb (u2 u0:Int) (u1 u3 a1:Int) (a2:LL):Option (LL) :=
 cond (u2==0)
 ((Cb a2 u1).bind fun x6 =>
 (Cb a2 u0).bind fun x7 =>
 some ((a2.set u0.toNat x6).set u1.toNat x7))
 (cond (u2==1)
  ((Ld a1 u3).bind fun y11 =>
  (Cb a2 u0).bind fun x13 =>
  Aq (fun s_:Nat×LL=>D3 x13 u0 a1 y11 s_.1 s_.2) 4611686018427387904 (0,a2))
  (cond (u2==2)
   ((Cb a2 u0).bind fun x27 =>
   (Cb a2 u1).bind fun x28 =>
   og (u0.toNat≠u1.toNat) <|
   (Bv a1 x27 (wI (0 - u3)) x28).bind fun y30 =>
   og (y30.length=x27.length) <|
   some (a2.set u0.toNat y30))
   (some a2)))
theorem Ic (h:Bb bA bB bC bD bE dA=some dB) {n_a2:Nat} (hn_a2:n_a2=dA.length):D1 Tryz.prog Tab 160 [.agg [ai bA,ai bB,ai bC,ai bD],ai bE,oS 0 0 n_a2] [(oi 0 0,.mat 42 (oi 1 0) .int dA),(oi 1 0,.pool 3 .int dA)] (.tup []) [(oi 0 0,.mat 42 (oi 0 1) .int dB),(oi 0 1,.pool 3 .int dB)]:=by
 refine Br kr Tryz.func160 (B6 kr) (n:=78) kr (by simp) rfl kr ⟨⟨3,.tail _ (.head _)⟩,⟨trivial,trivial⟩⟩ ⟨⟨3,.tail _ (.head _)⟩,⟨trivial,trivial⟩⟩ (Ae (Ae (Ad (Ae (kQ h (fun _ h=>?_) fun _ h=>?_)))))
 ·refine Ao 26 (dsT 9 ?_);obtain ⟨x6,f6,h⟩:=Ah h;obtain ⟨p6,b6,e6⟩:=Ar f6;refine ds0 (.elt (oi 0 0) bC.toNat 0) (zo (t:=sI) (o:=oi 0 0) (len:=n_a2) (k:=.i64) (m:=bC) p6 (Nat.lt_of_lt_of_le (Ai e6) (Nat.le_of_eq (Eq.symm hn_a2)))) (dsl (.own (kid (oi 1 0) bC.toNat) .int 0 x6.length) (D6 (o:=oi 0 0) (p:=oi 1 0) (e1:=42) (u:=.int) (xss:=dA) (row:=x6) (j:=bC.toNat) kr kr e6) (dz0 (oS 0 0 n_a2) (dz0 (.box (oi 3 1) 1) (dzl (ai bB) ?_))));obtain ⟨x7,f7,h⟩:=Ah h;obtain ⟨p7,b7,e7⟩:=Ar f7;refine ds0 (.elt (oi 0 0) bB.toNat 0) (zo (t:=sI) (o:=oi 0 0) (len:=n_a2) (k:=.i64) (m:=bB) p7 (Nat.lt_of_lt_of_le (Ai e7) (Nat.le_of_eq (Eq.symm hn_a2)))) (dsl (.own (kid (oi 1 0) bB.toNat) .int 0 x7.length) (D6 (o:=oi 0 0) (p:=oi 1 0) (e1:=42) (u:=.int) (xss:=dA) (row:=x7) (j:=bB.toNat) kr kr e7) (ds0 (.elt (oi 0 0) bB.toNat 0) (zo (t:=sI) (o:=oi 0 0) (len:=n_a2) (k:=.i64) (m:=bB) p7 (Nat.lt_of_lt_of_le (Ai e7) (Nat.le_of_eq (Eq.symm hn_a2)))) (Oz (oi 0 0) (oi 0 0) (.vec 42 1 n_a2 ((hdL (oi 1 0) .int dA).set bB.toNat (.own (kid (oi 1 0) bC.toNat) .int 0 x6.length))) (Abq (o:=oi 0 0) (e1:=42) (m:=n_a2) (cs:=hdL (oi 1 0) .int dA) (v:=.own (kid (oi 1 0) bC.toNat) .int 0 x6.length) (j:=bB.toNat) kr (Ax2 kr hn_a2) kr rfl (by rw [C7];exact Ai e7)) (ds0 (.elt (oi 0 0) bC.toNat 0) (zo (t:=sI) (o:=oi 0 0) (len:=n_a2) (k:=.i64) (m:=bC) p6 (Nat.lt_of_lt_of_le (Ai e6) (Nat.le_of_eq (Eq.symm hn_a2)))) (Oz (oi 0 0) (oi 0 0) (.vec 42 1 n_a2 (((hdL (oi 1 0) .int dA).set bB.toNat (.own (kid (oi 1 0) bC.toNat) .int 0 x6.length)).set bC.toNat (.own (kid (oi 1 0) bB.toNat) .int 0 x7.length))) (Abq (o:=oi 0 0) (e1:=42) (m:=n_a2) (cs:=(hdL (oi 1 0) .int dA).set bB.toNat (.own (kid (oi 1 0) bC.toNat) .int 0 x6.length)) (v:=.own (kid (oi 1 0) bB.toNat) .int 0 x7.length) (j:=bC.toNat) kr kr kr rfl (by rw [List.length_set,C7];exact Ai e6)) (Co (As kr) (bn_ ?_)))))));obtain rfl:=zj h;exact E4 [] ((Aao (e1:=42) (e:=3) (u:=.int) (xss:=dA) (i:=bB.toNat) (j:=bC.toNat) (n:=n_a2) (li:=x7.length) (lj:=x6.length) (ri:=x7) (rj:=x6) 9000 (oi 0 0) (oi 1 0) kr kr hn_a2 kr e7 e6 rfl rfl kr kr).trans (Ag (tl:=[]) (g:=2) [(oi 0 1,oi 9000 26)]))
 refine Ae (kQ h (fun _ h=>?_) fun _ h=>?_)
 ·refine Ab (Aa 13 (rsT 3 (rcH h Za fun y11 h=>rsT 1 (rnW (Ab (Aa 20 (rsT 3 ?_)))))));obtain ⟨x13,f13,h⟩:=Ah h;obtain ⟨p13,b13,e13⟩:=Ar f13;refine rs0 (.elt (oi 0 0) bB.toNat 0) (zo (t:=sI) (o:=oi 0 0) (len:=n_a2) (k:=.i64) (m:=bB) p13 (Nat.lt_of_lt_of_le (Ai e13) (Nat.le_of_eq (Eq.symm hn_a2)))) (rsl (.own (kid (oi 1 0) bB.toNat) .int 0 x13.length) (D6 (o:=oi 0 0) (p:=oi 1 0) (e1:=42) (u:=.int) (xss:=dA) (row:=x13) (j:=bB.toNat) kr kr e13) (rsT 2 (rnW (Ad (lpF h (fun (u2,u3)=>sT [(1,ai bE),(2,oS 0 0 u3.length),(3,.box (oi 1 1) 0),(6,ai y11),(41,.own (kid (oi 0 1) bB.toNat) .int 0 x13.length),(42,an x13.length),(43,an u2)] [(oi 0 0,.mat 42 (oi 0 1) .int u3),(oi 0 1,.pool 3 .int u3),(oi 1 1,.cells 209 [ai bA,ai bB,ai bC,ai bD])]) ((wL 2 (hn_a2:n_a2=dA.length)).trans (Ag [(oi 0 1,oi 1 0),(oi 1 1,oi 3 1)])) ?_)))));rintro n_ ⟨u2,u3⟩ c_ h hn14;refine Ae (Ab (kQ h (fun _ h=>skW (Ab (Ad (Ab (Aa 8 (rsT 1 ?_)))))) fun _ h=>Dv (te_ (te_ (be_ (bn_ (have h:=jO h hn14;(by obtain rfl:=osj h;exact E4 [] (Ag (tl:=[]) (g:=2) [])))))))));obtain ⟨x20,f20,h⟩:=Ah h;obtain ⟨p20,b20,e20⟩:=Ar f20;obtain ⟨g21,h⟩:=Ak h;refine rs0 (.elt (kid (oi 0 1) bB.toNat) u2 0) (Aw5 (t:=.int) (o:=kid (oi 0 1) bB.toNat) (off:=0) (len:=x13.length) (k:=.i64) (m:=(u2:Int)) kr kr rfl g21.1 (Nat.zero_add _) g21.2) ?_;obtain ⟨x22,e22,h⟩:=Ah h;refine rsl (ai x22) (H5 (i:=kid (oi 0 1) bB.toNat) (j:=u2) (k:=0) (e:=3) (t:=.int) (xs:=x20) kr (Bc kr e20) e22 kr) (rsT 2 (rnW (Ao 21 (dz0 (oS 0 0 u3.length) (dz0 (.box (oi 1 1) 1) (dzl (ai bB) (ds0 (.elt (oi 0 0) bB.toNat 0) (zo (t:=sI) (o:=oi 0 0) (len:=u3.length) (k:=.i64) (m:=bB) p20 (Ai e20)) (dsl (.own (kid (oi 0 1) bB.toNat) .int 0 x20.length) (D6 (o:=oi 0 0) (p:=oi 0 1) (e1:=42) (u:=.int) (xss:=u3) (row:=x20) (j:=bB.toNat) kr kr e20) (dsT 5 ?_)))))))));obtain ⟨g23,h⟩:=Ak h;refine ds0 (ai (Int.tmod (wI (x22*y11)) bE)) (Pb (k:=.i64) (a:=wI (x22*y11)) (b:=bE) kr kr g23) (ds0 (.elt (kid (oi 0 1) bB.toNat) u2 0) (zo (t:=.int) (o:=kid (oi 0 1) bB.toNat) (len:=x20.length) (k:=.i64) (m:=(u2:Int)) (Cu _) (Ai e22)) (Oz (kid (oi 0 1) bB.toNat) (kid (oi 0 1) bB.toNat) (.arr 3 .int (x20.set u2 (Int.tmod (wI (x22*y11)) bE))) (Vm (i:=kid (oi 0 1) bB.toNat) (j:=u2) (k:=0) (e:=3) (t:=.int) (xs:=x20) (cs:=[ai (Int.tmod (wI (x22*y11)) bE)]) (x1:=Int.tmod (wI (x22*y11)) bE) kr (Z8.trans (Bc kr e20)) e22 kr kr) (Alr (Aa8 (o:=oi 0 0) (p:=oi 0 1) (e1:=42) (e:=3) (u:=.int) (xss:=u3) (k:=bB.toNat) (row:=x20) (row':=x20.set u2 (Int.tmod (wI (x22*y11)) bE)) kr rfl kr e20 List.length_set) (Co (As kr) (bn_ (tn_ (wr_ (Aa 23 (raH h fun h=>rsT 1 (Ap (tn_ ?_)))))))))));obtain rfl:=zj h;exact jLw hn14 ((wL 2 ((Eq.trans (b:=u3.length) rfl List.length_set.symm):u3.length=(u3.set bB.toNat (x20.set u2 (Int.tmod (wI (x22*y11)) bE))).length)).trans (Ag []))
 refine Ae (kQ h (fun _ h=>Ao 25 (dz0 (ai bE) (dz0 (oS 0 0 n_a2) (dz0 (.box (oi 3 1) 1) (dzl (ai bB) ?_))))) fun _ h=>Az (bn_ (by obtain rfl:=osj h;exact E4 [] (Ag (tl:=[]) (g:=2) [(oi 0 1,oi 1 0)]))));obtain ⟨x27,f27,h⟩:=Ah h;obtain ⟨p27,b27,e27⟩:=Ar f27;refine ds0 (.elt (oi 0 0) bB.toNat 0) (zo (t:=sI) (o:=oi 0 0) (len:=n_a2) (k:=.i64) (m:=bB) p27 (Nat.lt_of_lt_of_le (Ai e27) (Nat.le_of_eq (Eq.symm hn_a2)))) (dsl (.own (kid (oi 1 0) bB.toNat) .int 0 x27.length) (D6 (o:=oi 0 0) (p:=oi 1 0) (e1:=42) (u:=.int) (xss:=dA) (row:=x27) (j:=bB.toNat) kr kr e27) (dsT 6 ?_));obtain ⟨x28,f28,h⟩:=Ah h;obtain ⟨p28,b28,e28⟩:=Ar f28;refine ds0 (.elt (oi 0 0) bC.toNat 0) (zo (t:=sI) (o:=oi 0 0) (len:=n_a2) (k:=.i64) (m:=bC) p28 (Nat.lt_of_lt_of_le (Ai e28) (Nat.le_of_eq (Eq.symm hn_a2)))) (dsl (.own (kid (oi 1 0) bC.toNat) .int 0 x28.length) (D6 (o:=oi 0 0) (p:=oi 1 0) (e1:=42) (u:=.int) (xss:=dA) (row:=x28) (j:=bC.toNat) kr kr e28) ?_);obtain ⟨g29,h⟩:=Ak h;obtain ⟨y30,h30,h⟩:=Ah h;refine Alk (.tup []) [(kid (oi 1 0) bB.toNat,some (.arr 3 .int y30)),(kid (oi 1 0) bB.toNat,none)] [(oi 0 0,kid (oi 1 0) bB.toNat)] [ai bE,.own (kid (oi 1 0) bB.toNat) .int 0 x27.length,ai (wI (0 - bD)),.own (kid (oi 1 0) bC.toNat) .int 0 x28.length] (caps:=[]) trivial (Ir h30 rfl) kr ⟨Aeg kr e27,trivial⟩ (.cons (.ren kr) (.cons (.ren kr) (.cons (.ren kr) (.cons (.gnd kr (Bl (e:=3) (u:=.int) (xs:=x28) ((At6 (L:=[kid (oi 1 0) bB.toNat]) kr ⟨Axe g29,trivial⟩).trans ((Fj (P3 (t:=.int) (off:=0) (len:=x28.length) 3 rfl kr)).trans (Bc kr e28))) rfl)) .nil)))) (Ay kr kr ⟨.arg (by simp [AV.nmsL,AV.nms,Ba]),trivial⟩) (Av8 (P3 (t:=.int) (off:=0) (len:=x27.length) 1 rfl kr) Awp) ?_;obtain ⟨g31,h⟩:=Ak h;refine Alr (Aa8 (o:=oi 0 0) (p:=oi 1 0) (e1:=42) (e:=3) (u:=.int) (xss:=dA) (k:=bB.toNat) (row:=x27) (row':=y30) kr rfl kr e27 g31) (Co (As kr) (bn_ ?_));obtain rfl:=zj h;exact E4 [] (Ag (tl:=[]) (g:=2) [(oi 0 1,oi 1 0)])
def N4:AC :=
 (.seq (rg [xo 4 (.i (.box 209 (tm 0)))])
 (.seq (.seq (rg [xo 5 (.i (.ld false 4 (tm 4))),xf 6 1 4,xl 7 6,xf 8 1 4,xl 9 8,xo 10 (.build [.int .i64 0,.int .i64 0,.int .i64 0,.int .i64 0] [(0,1,ci 0),(1,1,tm 7),(2,1,tm 9)]),xo 11 (.i (.cmp false 7 (tm 5) (tm 10)))])
 (.cond (tm 11)
  .ret
  .skip))
 (.seq (rg [xo 12 (.i (.ld false 4 (tm 4))),xl 13 1,xl 14 2,xo 15 (qc 160 [tm 12,tm 13,tm 14] [[none,none,none,none],[],[some sI]])])
 (rg [xo 16 (.i (.ld false 4 (tm 4))),xl 17 1,xl 18 3,xo 19 (qc 160 [tm 16,tm 17,tm 18] [[none,none,none,none],[],[some sI]])]))))
def Uc:List Res:=[]
theorem T9:Ci Tryz.prog Tryz.f159=some (N4,Uc):=by kernel_rfl
def Bn (u1 u0:Int) (u2 u3 u6:Int) (u4 u5:LL):Option (LL×LL) :=
 cond ([u1,u0,u2,u3]==[0,u0,u0,0])
 (some (u4,u5))
 ((Bb u1 u0 u2 u3 u6 u4).bind fun y7 =>
 og (y7.length=u4.length) <|
 (Bb u1 u0 u2 u3 u6 u5).bind fun y9 =>
 og (y9.length=u5.length) <|
 some (y7,y9))
theorem Jc (h:Bn bA bB bC bD bE dA dB=some eA):D1 Tryz.prog Tab 159 [.agg [ai bA,ai bB,ai bC,ai bD],.box (oi 0 0) 0,.box (oi 1 0) 0,.box (oi 4 0) 0] [(oi 0 0,.cells 3 [ai bE]),(oi 1 0,.cells 25 [oS 2 0 dA.length]),(oi 2 0,.mat 42 (oi 3 0) .int dA),(oi 3 0,.pool 3 .int dA),(oi 4 0,.cells 25 [oS 5 0 dB.length]),(oi 5 0,.mat 42 (oi 6 0) .int dB),(oi 6 0,.pool 3 .int dB)] (.tup []) [(oi 0 0,.cells 3 [ai bE]),(oi 1 0,.cells 25 [oS 2 0 eA.1.length]),(oi 2 0,.mat 42 (oi 0 1) .int eA.1),(oi 0 1,.pool 3 .int eA.1),(oi 4 0,.cells 25 [oS 5 0 eA.2.length]),(oi 5 0,.mat 42 (oi 1 1) .int eA.2),(oi 1 1,.pool 3 .int eA.2)]:=by
 refine Br kr Tryz.func159 T9 (n:=20) kr (by simp) rfl kr ⟨trivial,⟨trivial,⟨⟨3,.tail _ (.tail _ (.tail _ (.head _)))⟩,⟨trivial,⟨trivial,⟨⟨3,.tail _ (.tail _ (.tail _ (.tail _ (.tail _ (.tail _ (.head _))))))⟩,⟨trivial,trivial⟩⟩⟩⟩⟩⟩⟩ ⟨trivial,⟨trivial,⟨⟨3,.tail _ (.tail _ (.tail _ (.head _)))⟩,⟨trivial,⟨trivial,⟨⟨3,.tail _ (.tail _ (.tail _ (.tail _ (.tail _ (.tail _ (.head _))))))⟩,⟨trivial,trivial⟩⟩⟩⟩⟩⟩⟩ ?_;unfold N4;refine Ae (Ab (Ae (kQ h (fun _ h=>Ac (tr_ (by obtain rfl:=osj h;exact E4 [] (Ag (tl:=[]) (g:=2) [(oi 0 1,oi 3 0),(oi 1 1,oi 6 0)])))) fun _ h=>skW (Ab (Aa 13 (rsT 3 (rcM h [(oi 0 0,oi 2 0),(oi 1 0,oi 3 0)] [.agg [ai bA,ai bB,ai bC,ai bD],ai bE,oS 2 0 dA.length] (fun h=>Ic h rfl) ⟨kr,⟨kr,trivial⟩⟩ (aR kr) (Ay kr kr ⟨Bh kr,⟨Gm (o:=oi 2 0) (p:=oi 3 0) (e1:=42) (m:=dA.length) (u:=.int) (xss:=dA) (Bh kr) kr,trivial⟩⟩) fun y7 h=>rnW (Aa 17 (rsT 3 ?_)))))))));obtain ⟨g8,h⟩:=Ak h;obtain ⟨y9,h9,h⟩:=Ah h;refine L0 (.tup []) [(oi 5 0,some (.mat 42 (oi 304 16) .int y9)),(oi 304 16,some (.pool 3 .int y9)),(oi 5 0,none),(oi 6 0,some (.pool 3 .int []))] [(oi 0 0,oi 5 0),(oi 1 0,oi 6 0)] [.agg [ai bA,ai bB,ai bC,ai bD],ai bE,oS 5 0 dB.length] (caps:=[]) trivial (Ic h9 rfl) kr ⟨kr,⟨kr,trivial⟩⟩ (.cons (.ren kr) (.cons (.ren kr) (.cons (.ren kr) .nil))) (Ay kr kr ⟨Bh kr,⟨Gm (o:=oi 5 0) (p:=oi 6 0) (e1:=42) (m:=dB.length) (u:=.int) (xss:=dB) (Bh kr) kr,trivial⟩⟩) (Ap ?_);obtain ⟨g10,h⟩:=Ak h;obtain rfl:=zj h;exact E4 [] ((Sv (oi 1 0) (.cells 25 [oS 2 0 dA.length]) (.cells 25 [oS 2 0 y7.length]) kr (congrArg (fun z_=>(.cells 25 [oS 2 0 z_]:Ob)) (g8.symm:dA.length=y7.length))).trans ((Sv (oi 4 0) (.cells 25 [oS 5 0 dB.length]) (.cells 25 [oS 5 0 y9.length]) kr (congrArg (fun z_=>(.cells 25 [oS 5 0 z_]:Ob)) (g10.symm:dB.length=y9.length))).trans (Ag (tl:=[]) (g:=2) [(oi 0 1,oi 240 12),(oi 1 1,oi 304 16)])))
def D5 (l7_p0:LL) (u1 u0:Nat):Option (Ctl Nat Nat) :=
 (cond (decide ((u0:Int)<(l7_p0.length:Int)))
  ((l7_p0[u0]?).bind fun x19 =>
  (x19[u1]?).bind fun x20 =>
  some (x20==0))
  (some false)).bind fun u2 =>
cond u2
 (og (u0+1<4611686018427387904) <|
 some (Ctl.next (u0+1)))
 (some (Ctl.out u0))
def Fs (y31:LL×LL) (u1 u2:Nat) (a0:Int) (u0:Nat) (l34_p0 l34_p2:LL):Option (Ctl (Nat×LL×LL) (LL×LL)) :=
 cond (decide ((u0:Int)<(y31.1.length:Int)))
 (((cond ((u0:Int) !=(u1:Int))
       ((l34_p0[u0]?).bind fun x42 =>
       (x42[u2]?).bind fun x43 =>
       some (x43 !=0))
       (some false)).bind fun u3 =>
  cond u3
   ((l34_p0[u0]?).bind fun x45 =>
   (x45[u2]?).bind fun x46 =>
   (Bn 2 (u0:Int) (u1:Int) x46 a0 l34_p0 l34_p2).bind fun y47 =>
   some (y47.1,y47.2))
   (some (l34_p0,l34_p2))).bind fun (l38_p0,l38_p2) =>
 og (u0+1<4611686018427387904) <|
 some (Ctl.next (u0+1,l38_p0,l38_p2)))
 (some (Ctl.out (l34_p0,l34_p2)))
def C8 (a2 a0:Int) (u0 u1:Nat) (l7_p0 l7_p2:LL):Option (Ctl (Nat×Nat×LL×LL) (Nat×LL×LL)) :=
 (cond (decide ((u1:Int)<a2))
  (some (decide ((u0:Int)<(l7_p0.length:Int))))
  (some false)).bind fun u3 =>
cond u3
 (((Aq (fun s_:Nat=>D5 l7_p0 u1 s_) 4611686018427387904 u0).bind fun u2 =>
  cond ((u2:Int)==(l7_p0.length:Int))
   (some (u0,l7_p0,l7_p2))
   ((Bn 0 (u0:Int) (u2:Int) 0 a0 l7_p0 l7_p2).bind fun y27 =>
   (y27.1[u0]?).bind fun x29 =>
   (x29[u1]?).bind fun x30 =>
   (Bn 1 (u0:Int) 0 x30 a0 y27.1 y27.2).bind fun y31 =>
   (Aq (fun s_:Nat×LL×LL=>Fs y31 u0 u1 a0 s_.1 s_.2.1 s_.2.2) 4611686018427387904 (0,y31.1,y31.2)).bind fun (l32_p0,l32_p2) =>
   og (u0+1<4611686018427387904) <|
   some (u0+1,l32_p0,l32_p2))).bind fun (u4,l12_p0,l12_p2) =>
 og (u1+1<4611686018427387904) <|
 some (Ctl.next (u4,u1+1,l12_p0,l12_p2)))
 (some (Ctl.out (u0,l7_p0,l7_p2)))
def F8 (a0:Int) (a1:LL) (a2:Int) (a3:LL):Option (LL×LL×Nat) :=
 (Aq (fun s_:Nat×Nat×LL×LL=>C8 a2 a0 s_.1 s_.2.1 s_.2.2.1 s_.2.2.2) 4611686018427387904 (0,0,a1,a3)).bind fun (u0,l5_p0,l5_p2) =>
some (l5_p0,l5_p2,u0)
theorem O9 (h:F8 bA dA bB dB=some fA) {n_a1:Nat} (hn_a1:n_a1=dA.length) {n_a3:Nat} (hn_a3:n_a3=dB.length):D1 Tryz.prog Tab 144 [ai bA,oS 0 0 n_a1,ai bB,oS 2 0 n_a3] [(oi 0 0,.mat 42 (oi 1 0) .int dA),(oi 1 0,.pool 3 .int dA),(oi 2 0,.mat 42 (oi 3 0) .int dB),(oi 3 0,.pool 3 .int dB)] (an fA.2.2) [(oi 0 0,.mat 42 (oi 0 1) .int fA.1),(oi 0 1,.pool 3 .int fA.1),(oi 2 0,.mat 42 (oi 1 1) .int fA.2.1),(oi 1 1,.pool 3 .int fA.2.1)]:=by
 refine Br kr Tryz.func144 (B6 kr) (n:=97) kr (by simp) rfl kr ⟨⟨3,.tail _ (.head _)⟩,⟨trivial,⟨⟨3,.tail _ (.tail _ (.tail _ (.head _)))⟩,⟨trivial,trivial⟩⟩⟩⟩ ⟨⟨3,.tail _ (.head _)⟩,⟨trivial,⟨⟨3,.tail _ (.tail _ (.tail _ (.head _)))⟩,⟨trivial,trivial⟩⟩⟩⟩ (Ae (Ae (Ae (sqF h (fun (u4,l5_p0,l5_p2)=>sT [(9,an u4)] [(oi 0 0,.mat 42 (oi 0 1) .int l5_p0),(oi 0 1,.pool 3 .int l5_p0),(oi 2 0,.mat 42 (oi 1 1) .int l5_p2),(oi 1 1,.pool 3 .int l5_p2)]) ?_ ?_))))
 ·intro _ h;refine Ae (Ad (lpF h (fun (u1,u0,l7_p0,l7_p2)=>sT [(2,ai bB),(5,.box (oi 0 1) 0),(9,an u1),(10,.fn 159 [.box (oi 1 1) 0,.box (oi 0 1) 0,.box (oi 2 1) 0]),(11,an u0)] [(oi 0 1,.cells 25 [oS 0 0 l7_p0.length]),(oi 1 1,.cells 3 [ai bA]),(oi 2 1,.cells 25 [oS 2 0 l7_p2.length]),(oi 0 0,.mat 42 (oi 3 1) .int l7_p0),(oi 3 1,.pool 3 .int l7_p0),(oi 2 0,.mat 42 (oi 4 1) .int l7_p2),(oi 4 1,.pool 3 .int l7_p2)]) ((Sv (oi 5 2) (.cells 25 [oS 0 0 n_a1]) (.cells 25 [oS 0 0 dA.length]) kr (congrArg (fun z_=>(.cells 25 [oS 0 0 z_]:Ob)) (hn_a1:n_a1=dA.length))).trans ((Sv (oi 7 3) (.cells 25 [oS 2 0 n_a3]) (.cells 25 [oS 2 0 dB.length]) kr (congrArg (fun z_=>(.cells 25 [oS 2 0 z_]:Ob)) (hn_a3:n_a3=dB.length))).trans (Ag [(oi 0 1,oi 5 2),(oi 3 1,oi 1 0),(oi 1 1,oi 4 1),(oi 2 1,oi 7 3),(oi 4 1,oi 3 0)]))) ?_));rintro n_ ⟨u1,u0,l7_p0,l7_p2⟩ c_ h hn7;refine Ab (sqF h (fun u6=>sT [(2,ai bB),(5,.box (oi 0 1) 0),(9,an u1),(10,.fn 159 [.box (oi 1 1) 0,.box (oi 0 1) 0,.box (oi 2 1) 0]),(11,an u0),(23,.bool u6)] [(oi 0 1,.cells 25 [oS 0 0 l7_p0.length]),(oi 1 1,.cells 3 [ai bA]),(oi 2 1,.cells 25 [oS 2 0 l7_p2.length]),(oi 0 0,.mat 42 (oi 3 1) .int l7_p0),(oi 3 1,.pool 3 .int l7_p0),(oi 2 0,.mat 42 (oi 4 1) .int l7_p2),(oi 4 1,.pool 3 .int l7_p2)]) (fun _ h=>Aa 11 (rsT 4 (kR h 18 (fun _ h=>rsT 5 (Ap (tn_ (jE [])))) fun _ h=>rsT 5 (Ap (tn_ (jE [])))))) ?_);intro u6 h;refine kQ h (fun _ h=>skW (sqF h (fun (u7,l12_p0,l12_p2)=>sT [(2,ai bB),(5,.box (oi 0 1) 0),(9,an u7),(10,.fn 159 [.box (oi 1 1) 0,.box (oi 0 1) 0,.box (oi 2 1) 0]),(11,an u0)] [(oi 0 1,.cells 25 [oS 0 0 l12_p0.length]),(oi 1 1,.cells 3 [ai bA]),(oi 2 1,.cells 25 [oS 2 0 l12_p2.length]),(oi 0 0,.mat 42 (oi 3 1) .int l12_p0),(oi 3 1,.pool 3 .int l12_p0),(oi 2 0,.mat 42 (oi 4 1) .int l12_p2),(oi 4 1,.pool 3 .int l12_p2)]) ?_ ?_)) fun _ h=>lxT (have h:=jO h hn7;jE [(oi 0 1,oi 3 1),(oi 1 1,oi 4 1)])
  ·intro _ h;refine Ad (Ae (sqF h (fun u5=>sT [(2,ai bB),(5,.box (oi 0 1) 0),(9,an u1),(10,.fn 159 [.box (oi 1 1) 0,.box (oi 0 1) 0,.box (oi 2 1) 0]),(11,an u0),(12,an u5)] [(oi 0 1,.cells 25 [oS 0 0 l7_p0.length]),(oi 1 1,.cells 3 [ai bA]),(oi 2 1,.cells 25 [oS 2 0 l7_p2.length]),(oi 0 0,.mat 42 (oi 3 1) .int l7_p0),(oi 3 1,.pool 3 .int l7_p0),(oi 2 0,.mat 42 (oi 4 1) .int l7_p2),(oi 4 1,.pool 3 .int l7_p2)]) ?_ ?_))
   ·intro _ h;refine Ad (lpF h (fun u3=>sT [(2,ai bB),(5,.box (oi 0 1) 0),(9,an u1),(10,.fn 159 [.box (oi 1 1) 0,.box (oi 0 1) 0,.box (oi 2 1) 0]),(11,an u0),(12,an u3)] [(oi 0 1,.cells 25 [oS 0 0 l7_p0.length]),(oi 1 1,.cells 3 [ai bA]),(oi 2 1,.cells 25 [oS 2 0 l7_p2.length]),(oi 0 0,.mat 42 (oi 3 1) .int l7_p0),(oi 3 1,.pool 3 .int l7_p0),(oi 2 0,.mat 42 (oi 4 1) .int l7_p2),(oi 4 1,.pool 3 .int l7_p2)]) (Ag []) ?_);intro n_ u3 c_ h hn15;refine Ab (sqF h (fun u8=>sT [(2,ai bB),(5,.box (oi 0 1) 0),(9,an u1),(10,.fn 159 [.box (oi 1 1) 0,.box (oi 0 1) 0,.box (oi 2 1) 0]),(11,an u0),(12,an u3),(40,.bool u8)] [(oi 0 1,.cells 25 [oS 0 0 l7_p0.length]),(oi 1 1,.cells 3 [ai bA]),(oi 2 1,.cells 25 [oS 2 0 l7_p2.length]),(oi 0 0,.mat 42 (oi 3 1) .int l7_p0),(oi 3 1,.pool 3 .int l7_p0),(oi 2 0,.mat 42 (oi 4 1) .int l7_p2),(oi 4 1,.pool 3 .int l7_p2)]) ?_ fun u8 h=>kQ h (fun _ h=>skW (Ad (Aa 5 (rsT 1 (raH h fun h=>rsT 1 (Ap (bn_ (tn_ (jL []))))))))) fun _ h=>lxT (have h:=jO h hn15;jE []));intro _ h;refine Aa 16 (rsT 5 ?_);rcases A0 h with ⟨q18,h⟩|⟨q18,h⟩
    ·refine rq 31 q18 (rsT 2 ?_);obtain ⟨x19,e19,h⟩:=Ah h;refine zO (oi 0 0) sI l7_p0.length (Ai e19) (rsl (.own (kid (oi 3 1) u3) .int 0 x19.length) (D6 (o:=oi 0 0) (p:=oi 3 1) (e1:=42) (u:=.int) (xss:=l7_p0) (row:=x19) (j:=u3) kr kr e19) (rsT 1 ?_));obtain ⟨x20,e20,h⟩:=Ah h;exact rs0 (.elt (kid (oi 3 1) u3) u0 0) (zo (t:=.int) (o:=kid (oi 3 1) u3) (len:=x19.length) (k:=.i64) (m:=(u0:Int)) (Cu _) (Ai e20)) (rsl (ai x20) (H5 (i:=kid (oi 3 1) u3) (j:=u0) (k:=0) (e:=3) (t:=.int) (xs:=x19) kr (Bc kr e19) e20 kr) (rsT 2 (Ap (tn_ (jE [])))))
    exact rq 31 q18 (rsT 9 (Ap (tn_ (jE []))))
   intro u5 h;refine Ab (Ae (kQ h (fun _ h=>Dv (te_ (be_ (tn_ (jE []))))) fun _ h=>skW (Ab (Aa 11 (rsT 4 ?_)))));obtain ⟨y27,h27,h⟩:=Ah h;refine L0 (.tup []) [(oi 1 1,some (.cells 3 [ai bA])),(oi 0 1,some (.cells 25 [oS 0 0 y27.1.length])),(oi 0 0,some (.mat 42 (oi 816 10) .int y27.1)),(oi 816 10,some (.pool 3 .int y27.1)),(oi 2 1,some (.cells 25 [oS 2 0 y27.2.length])),(oi 2 0,some (.mat 42 (oi 817 10) .int y27.2)),(oi 817 10,some (.pool 3 .int y27.2)),(oi 1 1,none),(oi 0 1,none),(oi 0 0,none),(oi 3 1,some (.pool 3 .int [])),(oi 2 1,none),(oi 2 0,none),(oi 4 1,some (.pool 3 .int []))] [(oi 0 0,oi 1 1),(oi 1 0,oi 0 1),(oi 2 0,oi 0 0),(oi 3 0,oi 3 1),(oi 4 0,oi 2 1),(oi 5 0,oi 2 0),(oi 6 0,oi 4 1)] [.agg [ai 0,an u1,an u5,ai 0],.box (oi 1 1) 0,.box (oi 0 1) 0,.box (oi 2 1) 0] (caps:=[.box (oi 1 1) 0,.box (oi 0 1) 0,.box (oi 2 1) 0]) trivial (Jc h27) kr ⟨kr,⟨kr,⟨kr,⟨kr,⟨kr,⟨kr,⟨kr,trivial⟩⟩⟩⟩⟩⟩⟩ (.cons (.ren kr) (.cons (.ren kr) (.cons (.ren kr) (.cons (.ren kr) .nil)))) (Ay kr kr ⟨Bh kr,⟨Bh kr,⟨G4 (k:=oi 0 1) (ty:=25) (cs:=[oS 0 0 l7_p0.length]) (Bh kr) kr kr,⟨Gm (o:=oi 0 0) (p:=oi 3 1) (e1:=42) (m:=l7_p0.length) (u:=.int) (xss:=l7_p0) (G4 (k:=oi 0 1) (ty:=25) (cs:=[oS 0 0 l7_p0.length]) (Bh kr) kr kr) kr,⟨Bh kr,⟨G4 (k:=oi 2 1) (ty:=25) (cs:=[oS 2 0 l7_p2.length]) (Bh kr) kr kr,⟨Gm (o:=oi 2 0) (p:=oi 4 1) (e1:=42) (m:=l7_p2.length) (u:=.int) (xss:=l7_p2) (G4 (k:=oi 2 1) (ty:=25) (cs:=[oS 2 0 l7_p2.length]) (Bh kr) kr kr) kr,trivial⟩⟩⟩⟩⟩⟩⟩) (rnW (Ab (Aa 22 (rsT 4 ?_))));obtain ⟨x29,e29,h⟩:=Ah h;refine zO (oi 0 0) sI y27.1.length (Ai e29) (rsl (.own (kid (oi 816 10) u1) .int 0 x29.length) (D6 (o:=oi 0 0) (p:=oi 816 10) (e1:=42) (u:=.int) (xss:=y27.1) (row:=x29) (j:=u1) kr kr e29) (rsT 1 ?_));obtain ⟨x30,e30,h⟩:=Ah h;refine rs0 (.elt (kid (oi 816 10) u1) u0 0) (zo (t:=.int) (o:=kid (oi 816 10) u1) (len:=x29.length) (k:=.i64) (m:=(u0:Int)) (Cu _) (Ai e30)) (rsl (ai x30) (H5 (i:=kid (oi 816 10) u1) (j:=u0) (k:=0) (e:=3) (t:=.int) (xs:=x29) kr (Bc kr e29) e30 kr) (rsT 1 ?_));obtain ⟨y31,h31,h⟩:=Ah h;refine L0 (.tup []) [(oi 1 1,some (.cells 3 [ai bA])),(oi 0 1,some (.cells 25 [oS 0 0 y31.1.length])),(oi 0 0,some (.mat 42 (oi 992 21) .int y31.1)),(oi 992 21,some (.pool 3 .int y31.1)),(oi 2 1,some (.cells 25 [oS 2 0 y31.2.length])),(oi 2 0,some (.mat 42 (oi 993 21) .int y31.2)),(oi 993 21,some (.pool 3 .int y31.2)),(oi 1 1,none),(oi 0 1,none),(oi 0 0,none),(oi 816 10,some (.pool 3 .int [])),(oi 2 1,none),(oi 2 0,none),(oi 817 10,some (.pool 3 .int []))] [(oi 0 0,oi 1 1),(oi 1 0,oi 0 1),(oi 2 0,oi 0 0),(oi 3 0,oi 816 10),(oi 4 0,oi 2 1),(oi 5 0,oi 2 0),(oi 6 0,oi 817 10)] [.agg [ai 1,an u1,ai 0,ai x30],.box (oi 1 1) 0,.box (oi 0 1) 0,.box (oi 2 1) 0] (caps:=[.box (oi 1 1) 0,.box (oi 0 1) 0,.box (oi 2 1) 0]) trivial (Jc h31) kr ⟨kr,⟨kr,⟨kr,⟨kr,⟨kr,⟨kr,⟨kr,trivial⟩⟩⟩⟩⟩⟩⟩ (.cons (.ren kr) (.cons (.ren kr) (.cons (.ren kr) (.cons (.ren kr) .nil)))) (Ay kr kr ⟨Bh kr,⟨Bh kr,⟨G4 (k:=oi 0 1) (ty:=25) (cs:=[oS 0 0 y27.1.length]) (Bh kr) kr kr,⟨Gm (o:=oi 0 0) (p:=oi 816 10) (e1:=42) (m:=y27.1.length) (u:=.int) (xss:=y27.1) (G4 (k:=oi 0 1) (ty:=25) (cs:=[oS 0 0 y27.1.length]) (Bh kr) kr kr) kr,⟨Bh kr,⟨G4 (k:=oi 2 1) (ty:=25) (cs:=[oS 2 0 y27.2.length]) (Bh kr) kr kr,⟨Gm (o:=oi 2 0) (p:=oi 817 10) (e1:=42) (m:=y27.2.length) (u:=.int) (xss:=y27.2) (G4 (k:=oi 2 1) (ty:=25) (cs:=[oS 2 0 y27.2.length]) (Bh kr) kr kr) kr,trivial⟩⟩⟩⟩⟩⟩⟩) (rnW (sqF h (fun (l32_p0,l32_p2)=>sT [(2,ai bB),(5,.box (oi 0 1) 0),(9,an u1),(10,.fn 159 [.box (oi 1 1) 0,.box (oi 0 1) 0,.box (oi 2 1) 0]),(11,an u0)] [(oi 0 1,.cells 25 [oS 0 0 l32_p0.length]),(oi 1 1,.cells 3 [ai bA]),(oi 2 1,.cells 25 [oS 2 0 l32_p2.length]),(oi 0 0,.mat 42 (oi 3 1) .int l32_p0),(oi 3 1,.pool 3 .int l32_p0),(oi 2 0,.mat 42 (oi 4 1) .int l32_p2),(oi 4 1,.pool 3 .int l32_p2)]) ?_ ?_))
   ·intro _ h;refine Ae (Ad (lpF h (fun (u2,l34_p0,l34_p2)=>sT [(2,ai bB),(5,.box (oi 0 1) 0),(9,an u1),(10,.fn 159 [.box (oi 1 1) 0,.box (oi 0 1) 0,.box (oi 2 1) 0]),(11,an u0),(64,an y31.1.length),(65,an u2)] [(oi 0 1,.cells 25 [oS 0 0 l34_p0.length]),(oi 1 1,.cells 3 [ai bA]),(oi 2 1,.cells 25 [oS 2 0 l34_p2.length]),(oi 0 0,.mat 42 (oi 3 1) .int l34_p0),(oi 3 1,.pool 3 .int l34_p0),(oi 2 0,.mat 42 (oi 4 1) .int l34_p2),(oi 4 1,.pool 3 .int l34_p2)]) (Ag [(oi 3 1,oi 992 21),(oi 4 1,oi 993 21)]) ?_));rintro n_ ⟨u2,l34_p0,l34_p2⟩ c_ h hn34;refine Ae (Ab (kQ h (fun _ h=>skW (sqF h (fun (l38_p0,l38_p2)=>sT [(2,ai bB),(5,.box (oi 0 1) 0),(9,an u1),(10,.fn 159 [.box (oi 1 1) 0,.box (oi 0 1) 0,.box (oi 2 1) 0]),(11,an u0),(64,an y31.1.length),(65,an u2)] [(oi 0 1,.cells 25 [oS 0 0 l38_p0.length]),(oi 1 1,.cells 3 [ai bA]),(oi 2 1,.cells 25 [oS 2 0 l38_p2.length]),(oi 0 0,.mat 42 (oi 3 1) .int l38_p0),(oi 3 1,.pool 3 .int l38_p0),(oi 2 0,.mat 42 (oi 4 1) .int l38_p2),(oi 4 1,.pool 3 .int l38_p2)]) ?_ ?_)) fun _ h=>lxT (have h:=jO h hn34;jE [])))
    ·intro _ h;refine Ad (Ae (sqF h (fun u9=>sT [(2,ai bB),(5,.box (oi 0 1) 0),(9,an u1),(10,.fn 159 [.box (oi 1 1) 0,.box (oi 0 1) 0,.box (oi 2 1) 0]),(11,an u0),(13,an u2),(64,an y31.1.length),(65,an u2),(80,.bool u9)] [(oi 0 1,.cells 25 [oS 0 0 l34_p0.length]),(oi 1 1,.cells 3 [ai bA]),(oi 2 1,.cells 25 [oS 2 0 l34_p2.length]),(oi 0 0,.mat 42 (oi 3 1) .int l34_p0),(oi 3 1,.pool 3 .int l34_p0),(oi 2 0,.mat 42 (oi 4 1) .int l34_p2),(oi 4 1,.pool 3 .int l34_p2)]) ?_ ?_))
     ·intro _ h;refine Aa 18 (rsT 4 ?_);rcases A0 h with ⟨q41,h⟩|⟨q41,h⟩
      ·refine rq 71 q41 (rsT 2 ?_);obtain ⟨x42,e42,h⟩:=Ah h;refine zO (oi 0 0) sI l34_p0.length (Ai e42) (rsl (.own (kid (oi 3 1) u2) .int 0 x42.length) (D6 (o:=oi 0 0) (p:=oi 3 1) (e1:=42) (u:=.int) (xss:=l34_p0) (row:=x42) (j:=u2) kr kr e42) (rsT 1 ?_));obtain ⟨x43,e43,h⟩:=Ah h;exact rs0 (.elt (kid (oi 3 1) u2) u0 0) (zo (t:=.int) (o:=kid (oi 3 1) u2) (len:=x42.length) (k:=.i64) (m:=(u0:Int)) (Cu _) (Ai e43)) (rsl (ai x43) (H5 (i:=kid (oi 3 1) u2) (j:=u0) (k:=0) (e:=3) (t:=.int) (xs:=x42) kr (Bc kr e42) e43 kr) (rsT 2 (Ap (tn_ (jE [])))))
      exact rq 71 q41 (rsT 9 (Ap (tn_ (jE []))))
     intro u9 h;refine kQ h (fun _ h=>Aa 14 (rsT 5 ?_)) fun _ h=>Az (bn_ (tn_ (jE [])))
     obtain ⟨x45,e45,h⟩:=Ah h;refine zO (oi 0 0) sI l34_p0.length (Ai e45) (rsl (.own (kid (oi 3 1) u2) .int 0 x45.length) (D6 (o:=oi 0 0) (p:=oi 3 1) (e1:=42) (u:=.int) (xss:=l34_p0) (row:=x45) (j:=u2) kr kr e45) (rsT 1 ?_));obtain ⟨x46,e46,h⟩:=Ah h;refine rs0 (.elt (kid (oi 3 1) u2) u0 0) (zo (t:=.int) (o:=kid (oi 3 1) u2) (len:=x45.length) (k:=.i64) (m:=(u0:Int)) (Cu _) (Ai e46)) (rsl (ai x46) (H5 (i:=kid (oi 3 1) u2) (j:=u0) (k:=0) (e:=3) (t:=.int) (xs:=x45) kr (Bc kr e45) e46 kr) (rsT 1 ?_));obtain ⟨y47,h47,h⟩:=Ah h;exact L0 (.tup []) [(oi 1 1,some (.cells 3 [ai bA])),(oi 0 1,some (.cells 25 [oS 0 0 y47.1.length])),(oi 0 0,some (.mat 42 (oi 1472 13) .int y47.1)),(oi 1472 13,some (.pool 3 .int y47.1)),(oi 2 1,some (.cells 25 [oS 2 0 y47.2.length])),(oi 2 0,some (.mat 42 (oi 1473 13) .int y47.2)),(oi 1473 13,some (.pool 3 .int y47.2)),(oi 1 1,none),(oi 0 1,none),(oi 0 0,none),(oi 3 1,some (.pool 3 .int [])),(oi 2 1,none),(oi 2 0,none),(oi 4 1,some (.pool 3 .int []))] [(oi 0 0,oi 1 1),(oi 1 0,oi 0 1),(oi 2 0,oi 0 0),(oi 3 0,oi 3 1),(oi 4 0,oi 2 1),(oi 5 0,oi 2 0),(oi 6 0,oi 4 1)] [.agg [ai 2,an u2,an u1,ai x46],.box (oi 1 1) 0,.box (oi 0 1) 0,.box (oi 2 1) 0] (caps:=[.box (oi 1 1) 0,.box (oi 0 1) 0,.box (oi 2 1) 0]) trivial (Jc h47) kr ⟨kr,⟨kr,⟨kr,⟨kr,⟨kr,⟨kr,⟨kr,trivial⟩⟩⟩⟩⟩⟩⟩ (.cons (.ren kr) (.cons (.ren kr) (.cons (.ren kr) (.cons (.ren kr) .nil)))) (Ay kr kr ⟨Bh kr,⟨Bh kr,⟨G4 (k:=oi 0 1) (ty:=25) (cs:=[oS 0 0 l34_p0.length]) (Bh kr) kr kr,⟨Gm (o:=oi 0 0) (p:=oi 3 1) (e1:=42) (m:=l34_p0.length) (u:=.int) (xss:=l34_p0) (G4 (k:=oi 0 1) (ty:=25) (cs:=[oS 0 0 l34_p0.length]) (Bh kr) kr kr) kr,⟨Bh kr,⟨G4 (k:=oi 2 1) (ty:=25) (cs:=[oS 2 0 l34_p2.length]) (Bh kr) kr kr,⟨Gm (o:=oi 2 0) (p:=oi 4 1) (e1:=42) (m:=l34_p2.length) (u:=.int) (xss:=l34_p2) (G4 (k:=oi 2 1) (ty:=25) (cs:=[oS 2 0 l34_p2.length]) (Bh kr) kr kr) kr,trivial⟩⟩⟩⟩⟩⟩⟩) (Ap (bn_ (tn_ (jE [(oi 3 1,oi 1472 13),(oi 4 1,oi 1473 13)]))))
    rintro ⟨l38_p0,l38_p2⟩ h;exact Aa 4 (raH h fun h=>rsT 1 (Ap (tn_ (jL []))))
   rintro ⟨l32_p0,l32_p2⟩ h;exact Aa 5 (rsT 1 (raH h fun h=>rsT 1 (Ap (bn_ (tn_ (jE []))))))
  rintro ⟨u7,l12_p0,l12_p2⟩ h;exact Aa 5 (rsT 1 (raH h fun h=>rsT 1 (Ap (tn_ (jL [])))))
 rintro ⟨u4,l5_p0,l5_p2⟩ h;refine Ae (Ac ?_);obtain rfl:=zj h;exact E4 [an u4] (Ag (tl:=[(8,an u4)]) (g:=2) [])
end


section
open Go.RowKit Go.Deep
set_option maxRecDepth 4000
set_option maxHeartbeats 4800000
variable {dA dB:LL} {bA bB bC bD:Int} {cA:Bool} {aA aB:List Int}
def Hh (a0:LL) (u1:Int) (u0:Nat):Option (Ctl (Int×Nat) (Ctl Int Int)) :=
 cond (decide ((u0:Int)<(a0.length:Int)))
 ((a0[u0]?).bind fun x15 =>
 (Mr x15 u1).bind fun y16 =>
 cond (decide (y16<0))
  (some (Ctl.out (Ctl.out (-1))))
  (og (u0+1<4611686018427387904) <|
  some (Ctl.next (y16,u0+1))))
 (some (Ctl.out (Ctl.next u1)))
def Lb (a0:LL) (a1:Int):Option Int :=
 cond (decide (wI (a1 - (a0.length:Int))<0))
 (some (-1))
 (Di (Aq (fun s_:Int×Nat=>Hh a0 s_.1 s_.2) 4611686018427387904 (wI (a1 - (a0.length:Int)),0)) fun u0 =>
 some u0)
theorem Ys (h:Lb dA bA=some bB):cK 34 [tS dA,ai bA] (A3 bB):=by
 refine cO Tryz.func34 (Ae (Ae (Ab (Ae (kQ h (fun _ h=>Ae (Ac (tr_ (jS h)))) fun _ h=>skW (sqC h (fun u0=>sT [(1,ai u0)] []) ?_ fun u0 h=>Ae (Ac (jS h))))))));intro _ h hk7;refine Ae (Ad (lpF h (fun (u1,u2)=>sT [(0,tS dA),(1,ai u1),(5,an u2)] []) (Ag []) ?_));rintro n_ ⟨u1,u2⟩ c_ h hn9;exact Ab (Ae (kQ h (fun _ h=>skW (Ab (Ad (Ab (Aa 13 (rsT 2 (riH sI h fun x15 _ h=>rsT 2 (rcH h Ab9 fun y16 h=>rsT 1 (rnW (Ae (kQ h (fun _ h=>Ae (Ac (br_ (tr_ (tr_ (br_ (tr_ (have h:=jO h hn9;(have h:=jO h hk7;jS h))))))))) fun _ h=>Az (bn_ (tn_ (wr_ (Aa 18 (rsT 1 (raH h fun h=>rsT 1 (Ap (tn_ (jL [])))))))))))))))))))) fun _ h=>lxT (have h:=jO h hn9;jC [])))
def Hj (a0:LL) (u0:Nat) (u1:LL):Option (Ctl (Nat×LL) (LL)) :=
 cond (decide ((u0:Int)<(a0.length:Int)))
 ((a0[u0]?).bind fun x12 =>
 (Ml x12).bind fun y13 =>
 (u1[u0]?).bind fun x14 =>
 og (u0+1<4611686018427387904) <|
 some (Ctl.next (u0+1,u1.set u0 y13)))
 (some (Ctl.out u1))
def Lc (a0:LL):Option (LL) :=
 og (0<=(a0.length:Int)/\(a0.length:Int)<=(a0.length:Int)/\(a0.length:Int)<=1073741824/\(24:Int)*(a0.length:Int)<=140737488355328) <|
(Aq (fun s_:Nat×LL=>Hj a0 s_.1 s_.2) 4611686018427387904 (0,List.replicate a0.length ([]:List Int))).bind fun u0 =>
some u0
theorem Yq (h:Lc dA=some dB):D1 Tryz.prog Tab 42 [tS dA] [] (oS 0 1 dB.length) [(oi 0 1,.mat 42 (oi 1 1) .int dB),(oi 1 1,.pool 3 .int dB)]:=by
 refine Br kr Tryz.func42 (B6 kr) (n:=23) kr (by simp) rfl kr trivial ⟨⟨3,.tail _ (.head _)⟩,⟨trivial,trivial⟩⟩ (Ae (Ab (Aa 6 (rsT 2 ?_))));obtain ⟨g4,h⟩:=Ak h;refine Afi (oS 112 4 dA.length) (oi 112 4) 42 3 .int (List.replicate dA.length ([]:List Int)) trivial (Zn (j:=dA.length) (k:=.i64) (k':=.i64) (m:=(dA.length:Int)) (c:=(dA.length:Int)) 3 kr kr g4 kr rfl) kr (by rw [List.length_replicate]) kr (rsT 1 (rnW (sqF h (fun u1=>sT [(3,oS 0 1 u1.length)] [(oi 0 1,.mat 42 (oi 1 1) .int u1),(oi 1 1,.pool 3 .int u1)]) ?_ fun u1 h=>Ae (Ac (by obtain rfl:=osj h;exact E4 [oS 0 1 u1.length] (Ag (tl:=[(2,oS 0 1 u1.length)]) (g:=2) []))))));intro _ h;refine Ae (Ad (lpF h (fun (u2,u0)=>sT [(0,tS dA),(3,oS 0 1 u0.length),(4,an u2)] [(oi 0 1,.mat 42 (oi 1 1) .int u0),(oi 1 1,.pool 3 .int u0)]) ((wL 3 (List.length_replicate.symm:dA.length=(List.replicate dA.length ([]:List Int)).length)).trans (Ag [(oi 0 1,oi 112 4),(oi 1 1,oi 112 4)])) ?_));rintro n_ ⟨u2,u0⟩ c_ h hn7;refine Ab (Ae (kQ h (fun _ h=>skW (Ab (Ad (Aa 15 (rsT 4 (riH sI h fun x12 _ h=>rsT 1 (rcH h Adn fun y13 h=>?_))))))) fun _ h=>lxT (have h:=jO h hn7;jE [])));obtain ⟨x14,e14,h⟩:=Ah h;refine zO (oi 0 1) sI u0.length (Ai e14) (Afj (oi 0 1) (oi 0 1) (.vec 42 1 u0.length ((hdL (oi 1 1) .int u0).set u2 (oI 320 12 y13.length))) (Abq (o:=oi 0 1) (e1:=42) (m:=u0.length) (cs:=hdL (oi 1 1) .int u0) (v:=oI 320 12 y13.length) (j:=u2) kr kr kr rfl (by rw [C7];exact Ai e14)) (Ap (bn_ (tn_ ⟨_,Aob (e1:=42) (e:=3) (u:=.int) (n:=u0.length) (len:=y13.length) (row:=y13) (ys:=y13) (xss:=u0) (j:=u2) 9000 (oi 0 1) (oi 1 1) (oi 320 12) kr kr rfl kr kr (Nm rfl) (Nn rfl) kr kr kr,Aa 19 (rsT 1 (raH h fun h=>rsT 1 (Ap (tn_ ?_))))⟩))));obtain rfl:=zj h;exact jLw hn7 ((wL 3 ((Eq.trans (b:=u0.length) rfl List.length_set.symm):u0.length=(u0.set u2 y13).length)).trans (Ag [(oi 1 1,oi 9000 15)]))
def Hi (a0 a1:LL) (u0:Nat):Option (Ctl Nat (Ctl Unit Bool)) :=
 cond (decide ((u0:Int)<(a0.length:Int)))
 ((a0[u0]?).bind fun x14 =>
 (a1[u0]?).bind fun x15 =>
 (Cx x14 x15).bind fun y16 =>
 cond (!y16)
  (some (Ctl.out (Ctl.out false)))
  (og (u0+1<4611686018427387904) <|
  some (Ctl.next (u0+1))))
 (some (Ctl.out (Ctl.next ())))
def K9 (a0 a1:LL):Option Bool :=
 cond ((a0.length:Int) !=(a1.length:Int))
 (some false)
 (Di (Aq (fun s_:Nat=>Hi a0 a1 s_) 4611686018427387904 0) fun _ =>
 some true)
theorem Yt (h:K9 dA dB=some cA):cK 55 [tS dA,tS dB] (An cA):=by
 exact cO Tryz.func55 (Ae (Ab (Ae (kQ h (fun _ h=>Ae (Ac (tr_ (jS h)))) fun _ h=>skW (sqC h (fun _=>sT [] []) (fun _ h hk6=>Ae (Ad (lpF h (fun u0=>sT [(0,tS dA),(1,tS dB),(5,an u0)] []) (Ag []) (fun n_ u0 c_ h hn8=>Ab (Ae (kQ h (fun _ h=>skW (Ab (Ad (Ab (Ao 16 (ds0 (tS dA) kr (ds0 (an u0) kr (diH sI h fun x14 _ h=>dsT 3 (diH sI h fun x15 _ h=>ds0 (tI x15) kr (dcH h Ev fun y16 h=>ds0 (.bool (!y16)) kr (Co (As kr) (tn_ (wr_ (kQ h (fun _ h=>Ae (Ac (br_ (tr_ (tr_ (br_ (tr_ (have h:=jO h hn8;(have h:=jO h hk6;jS h))))))))) fun _ h=>Az (bn_ (tn_ (wr_ (Aa 19 (rsT 1 (raH h fun h=>rsT 1 (Ap (tn_ (jL []))))))))))))))))))))))) fun _ h=>lxT (have h:=jO h hn8;jC []))))))) fun _ h=>Ae (Ac (jS h)))))))
def Hm (u1 u2:Int) (u0:LL) (a1:Int):Option Int :=
 (Lb u0 a1).bind fun y3 =>
cond (decide (y3<0))
 (some (-1))
 (some y3)
theorem T6 (h:Hm bA bB dA bC=some bD):cK 17 [.agg [ai bA,ai bB,tS dA],ai bC] (A3 bD):=by
 exact cO Tryz.func17 (Ae (Ab (Aa 8 (rsT 3 (rcH h Ys fun y3 h=>rsT 1 (rnW (Ab (Ae (kQ h (fun _ h=>Ae (Ac (tr_ (jS h)))) fun _ h=>skW (Ae (Ac (jS h))))))))))))
def Hs (u1 u2:Int) (u0:LL):Option (LL) :=
 (Lc u0).bind fun y7 =>
some y7
theorem U4 (h:Hs bA bB dA=some dB):D1 Tryz.prog Tab 21 [.agg [ai bA,ai bB,tS dA]] [] (.agg [ai bA,ai bB,oS 1 1 dB.length]) [(oi 0 1,.cells 36 [ai bA,ai bB,oS 1 1 dB.length]),(oi 1 1,.mat 42 (oi 2 1) .int dB),(oi 2 1,.pool 3 .int dB)]:=by
 refine Br kr Tryz.func21 (B6 kr) (n:=15) kr (by simp) rfl kr trivial ⟨trivial,⟨⟨3,.tail _ (.tail _ (.head _))⟩,⟨trivial,trivial⟩⟩⟩ (Ae (Ae (Ae (Ae (Ab (Aa 17 (rsT 2 (rcM h [] [tS dA] Yq trivial (aR kr) (Ay kr kr trivial) fun y7 h=>rsB 2 (rnW (Ae (Ac ?_)))))))))));obtain rfl:=zj h;exact E4 [.agg [ai bA,ai bB,oS 1 1 y7.length]] (Ag (tl:=[(2,.box (oi 0 1) 0)]) (g:=2) [(oi 0 1,oi 2 2),(oi 1 1,oi 192 14),(oi 2 1,oi 193 14)])
def Hl (u0 u1:Int) (u2:LL) (u3 u4:Int) (u5:LL):Option Bool :=
 cond (u0 !=u3)
 (some false)
 (cond (u1 !=u4)
  (some false)
  ((K9 u2 u5).bind fun y12 =>
  cond (!y12)
   (some false)
   (some true)))
theorem Ui (h:Hl bA bB dA bC bD dB=some cA):cK 26 [.agg [ai bA,ai bB,tS dA],.agg [ai bC,ai bD,tS dB]] (An cA):=by
 exact cO Tryz.func26 (Ae (Ab (Ae (kQ h (fun _ h=>Ae (Ac (tr_ (jS h)))) fun _ h=>skW (Ab (Ae (kQ h (fun _ h=>Ae (Ac (tr_ (jS h)))) fun _ h=>skW (Ab (Ab (Aa 20 (rsT 4 (rcH h Yt fun y12 h=>rsT 1 (rnW (kQ h (fun _ h=>Ae (Ac (tr_ (jS h)))) fun _ h=>skW (Ae (Ac (jS h)))))))))))))))))
def L7 (a2:LL) (a1 a0:Int) (u0:Nat):Option (Ctl Nat (Ctl Unit Bool)) :=
 cond (decide ((u0:Int)<(a2.length:Int)))
 ((a2[u0]?).bind fun x10 =>
 (cond ((x10.length:Int) !=a1)
   (some true)
   ((O7 a0 x10).bind fun y13 =>
   some (!y13))).bind fun u1 =>
 cond u1
  (some (Ctl.out (Ctl.out false)))
  (og (u0+1<4611686018427387904) <|
  some (Ctl.next (u0+1))))
 (some (Ctl.out (Ctl.next ())))
def Mk (a0 a1:Int) (a2:LL):Option Bool :=
 Di (Aq (fun s_:Nat=>L7 a2 a1 a0 s_) 4611686018427387904 0) fun _ =>
some true
theorem Aba (h:Mk bA bB dA=some cA):cK 102 [ai bA,ai bB,tS dA] (An cA):=by
 refine cO Tryz.func102 (Ae (sqC h (fun _=>sT [] []) ?_ fun _ h=>Ae (Ac (jS h))));intro _ h hk2;refine Ae (Ad (lpF h (fun u0=>sT [(0,ai bA),(1,ai bB),(9,tS dA),(10,an dA.length),(11,an u0)] []) (Ag []) ?_));intro n_ u0 c_ h hn4;refine Ae (Ab (kQ h (fun _ h=>skW (Ab (Ad (Ab (Aa 6 (riH sI h fun x10 _ h=>rsT 2 (rnW (sqF h (fun u1=>sT [(0,ai bA),(1,ai bB),(9,tS dA),(10,an dA.length),(11,an u0),(24,.bool u1)] []) ?_ fun u1 h=>kQ h (fun _ h=>Ae (Ac (br_ (tr_ (tr_ (br_ (tr_ (have h:=jO h hn4;(have h:=jO h hk2;jS h))))))))) fun _ h=>Az (bn_ (tn_ (wr_ (Aa 4 (raH h fun h=>rsT 1 (Ap (tn_ (jL [])))))))))))))))) fun _ h=>lxT (have h:=jO h hn4;jC [])));intro _ h;refine Aa 16 (rsT 5 ?_);rcases A0 h with ⟨q12,h⟩|⟨q12,h⟩
 ·exact rq 19 q12 (rsT 5 (Ap (tn_ (jE []))))
 exact rq 19 q12 (rsT 2 (rcH h Ag7 fun y13 h=>rsT 2 (Ap (tn_ (jE [])))))
def Iw (a0 a1:List Int) (u0:Nat):Option (Ctl Nat (Ctl Unit Bool)) :=
 cond (decide ((u0:Int)<(a0.length:Int)))
 ((a0[u0]?).bind fun x15 =>
 (a1[u0]?).bind fun x16 =>
 cond (x15 !=x16)
  (some (Ctl.out (Ctl.out false)))
  (og (u0+1<4611686018427387904) <|
  some (Ctl.next (u0+1))))
 (some (Ctl.out (Ctl.next ())))
def Js (a0 a1:List Int):Option Bool :=
 cond ((a0.length:Int) !=(a1.length:Int))
 (some false)
 (Di (Aq (fun s_:Nat=>Iw a0 a1 s_) 4611686018427387904 0) fun _ =>
 some true)
theorem Sr (h:Js aA aB=some cA):cK 92 [tI aA,tI aB] (An cA):=by
 exact cO Tryz.func92 (Ae (Ab (Ae (kQ h (fun _ h=>Ae (Ac (tr_ (jS h)))) fun _ h=>skW (sqC h (fun _=>sT [] []) (fun _ h hk6=>Ae (Ad (lpF h (fun u0=>sT [(0,tI aA),(1,tI aB),(12,an aA.length),(13,an u0)] []) (Ag []) (fun n_ u0 c_ h hn8=>Ae (Ab (kQ h (fun _ h=>skW (Ab (Ad (Ae (Ab (Ao 14 (ds0 (tI aA) kr (ds0 (an u0) kr (diH .int h fun x15 _ h=>dsT 3 (diH .int h fun x16 _ h=>ds0 (ai x16) kr (ds0 (.bool (x15 !=x16)) kr (Co (As kr) (tn_ (wr_ (kQ h (fun _ h=>Ae (Ac (br_ (tr_ (tr_ (br_ (tr_ (have h:=jO h hn8;(have h:=jO h hk6;jS h))))))))) fun _ h=>Az (bn_ (tn_ (wr_ (Aa 16 (raH h fun h=>rsT 1 (Ap (tn_ (jL []))))))))))))))))))))))) fun _ h=>lxT (have h:=jO h hn8;jC []))))))) fun _ h=>Ae (Ac (jS h)))))))
def I5 (a0 a1:LL) (u0:Nat):Option (Ctl Nat (Ctl Unit Bool)) :=
 cond (decide ((u0:Int)<(a0.length:Int)))
 ((a0[u0]?).bind fun x15 =>
 (a1[u0]?).bind fun x16 =>
 (Js x15 x16).bind fun y17 =>
 cond (!y17)
  (some (Ctl.out (Ctl.out false)))
  (og (u0+1<4611686018427387904) <|
  some (Ctl.next (u0+1))))
 (some (Ctl.out (Ctl.next ())))
def Mj (a0 a1:LL):Option Bool :=
 cond ((a0.length:Int) !=(a1.length:Int))
 (some false)
 (Di (Aq (fun s_:Nat=>I5 a0 a1 s_) 4611686018427387904 0) fun _ =>
 some true)
theorem Ac1 (h:Mj dA dB=some cA):cK 103 [tS dA,tS dB] (An cA):=by
 exact cO Tryz.func103 (Ae (Ab (Ae (kQ h (fun _ h=>Ae (Ac (tr_ (jS h)))) fun _ h=>skW (sqC h (fun _=>sT [] []) (fun _ h hk6=>Ae (Ad (lpF h (fun u0=>sT [(0,tS dA),(1,tS dB),(12,an dA.length),(13,an u0)] []) (Ag []) (fun n_ u0 c_ h hn8=>Ae (Ab (kQ h (fun _ h=>skW (Ab (Ad (Ae (Ab (Ao 15 (ds0 (tS dA) kr (ds0 (an u0) kr (diH sI h fun x15 _ h=>dsT 3 (diH sI h fun x16 _ h=>ds0 (tI x16) kr (dcH h Sr fun y17 h=>ds0 (.bool (!y17)) kr (Co (As kr) (tn_ (wr_ (kQ h (fun _ h=>Ae (Ac (br_ (tr_ (tr_ (br_ (tr_ (have h:=jO h hn8;(have h:=jO h hk6;jS h))))))))) fun _ h=>Az (bn_ (tn_ (wr_ (Aa 17 (raH h fun h=>rsT 1 (Ap (tn_ (jL []))))))))))))))))))))))) fun _ h=>lxT (have h:=jO h hn8;jC []))))))) fun _ h=>Ae (Ac (jS h)))))))
def P4 (a0 u0:Int) (u1:LL):Option Bool :=
 ((Hd a0).bind fun y3 =>
 cond y3
  ((B7 u0 0 24).bind fun y5 =>
  cond y5
   (cond (decide ((u1.length:Int)<=u0))
    ((Mk a0 u0 u1).bind fun y8 =>
    cond y8
     ((D2 a0 u0 u1).bind fun y10 =>
     (Mj y10 u1).bind fun y11 =>
     some y11)
     (some false))
    (some false))
   (some false))
  (some false)).bind fun u2 =>
some u2
theorem Ace (h:P4 bA bB dA=some cA):cK 73 [ai bA,.agg [ai bB,tS dA]] (An cA):=by
 refine cO Tryz.func73 (Ae (sqF h (fun u2=>sT [(4,.bool u2)] []) ?_ fun u2 h=>Ac (jS h)));intro _ h;refine Ao 38 (dz0 (ai bA) (dcH h Oc fun y3 h=>dz0 (.bool y3) ?_));rcases A0 h with ⟨q4,h⟩|⟨q4,h⟩
 ·refine dq 7 q4 (dz0 (.box (oi 3 1) 0) (dzl (ai bB) (dcH h Cl fun y5 h=>dz0 (.bool y5) (dz0 (.bool y5) (kD h 12 (fun _ h=>dsT 8 ?_) fun _ h=>dsT 27 (Co (As kr) (tn_ (jE []))))))));rcases A0 h with ⟨q7,h⟩|⟨q7,h⟩
  ·refine dq 20 q7 (dsT 5 (dcH h Aba fun y8 h=>dz0 (.bool y8) (dz0 (.bool y8) ?_)));rcases A0 h with ⟨q9,h⟩|⟨q9,h⟩
   ·exact dq 28 q9 (dsT 5 (dcM h [] [ai bA,ai bB,tS dA] I2 trivial (aR kr) (Ay kr kr trivial) (Aj4 kr) fun y10 h=>dz0 (.box (oi 3 1) 1) (dzl (tS dA) (dcG h [oS 544 32 y10.length,tS dA] Ac1 (Al (La (p:=oi 545 32) (e1:=42) (e:=3) (u:=.int) (xss:=y10) kr (Aar (t:=sI) (off:=0) (len:=y10.length) (i:=oi 544 32) (e1:=42) (z:=1) (m:=y10.length) 0 rfl kr kr (Cc kr)) rfl) (Al kr Bg)) fun y11 h=>dz0 (.bool y11) (dz0 (.bool y11) (Co ⟨Aku kr,trivial⟩ (tn_ (jE []))))))))
   exact dq 28 q9 (dsT 11 (Co (As kr) (tn_ (jE []))))
  exact dq 20 q7 (dsT 19 (Co (As kr) (tn_ (jE []))))
 exact dq 7 q4 (dsT 32 (Co (As kr) (tn_ (jE []))))
def Me (a0 u0 u1:Int) (u2:LL):Option Bool :=
 ((B7 u0 0 24).bind fun y3 =>
 cond y3
  ((B7 u1 0 (wI (24 - u0))).bind fun y5 =>
  cond y5
   ((P4 a0 (wI (u0+u1)) u2).bind fun y7 =>
   some y7)
   (some false))
  (some false)).bind fun u3 =>
some u3
theorem Abf (h:Me bA bB bC dA=some cA):cK 39 [ai bA,.agg [ai bB,ai bC,tS dA]] (An cA):=by
 refine cO Tryz.func39 (Ae (sqF h (fun u3=>sT [(4,.bool u3)] []) ?_ fun u3 h=>Ac (jS h)));intro _ h;refine Aa 27 (rsT 2 (rcH h Cl fun y3 h=>rsT 1 ?_));rcases A0 h with ⟨q4,h⟩|⟨q4,h⟩
 ·refine rq 8 q4 (rsT 5 (rcH h Cl fun y5 h=>rsT 2 ?_));rcases A0 h with ⟨q6,h⟩|⟨q6,h⟩
  ·exact rq 16 q6 (rsT 9 (rcH h Ace fun y7 h=>rsT 2 (Ap (tn_ (jE [])))))
  exact rq 16 q6 (rsT 12 (Ap (tn_ (jE []))))
 exact rq 8 q4 (rsT 20 (Ap (tn_ (jE []))))
def O1 (a0 a1:Int):Option Bool :=
 ((B0 a0 0 24).bind fun y3 =>
 cond y3
  ((B0 a1 0 24).bind fun y5 =>
  cond y5
   (some (decide (wI (a0+a1)<=24)))
   (some false))
  (some false)).bind fun u0 =>
some u0
theorem Afd (h:O1 bA bB=some cA):cK 83 [ai bA,ai bB] (An cA):=by
 refine cO Tryz.func83 (Ae (sqF h (fun u0=>sT [(4,.bool u0)] []) ?_ fun u0 h=>Ac (jS h)));intro _ h;refine Aa 15 (rsT 1 (rcH h C1 fun y3 h=>rsT 1 ?_));rcases A0 h with ⟨q4,h⟩|⟨q4,h⟩
 ·exact rq 7 q4 (rsT 1 (rcH h C1 fun y5 h=>rsT 2 (kR h 11 (fun _ h=>rsT 6 (Ap (tn_ (jE [])))) fun _ h=>rsT 6 (Ap (tn_ (jE []))))))
 exact rq 7 q4 (rsT 10 (Ap (tn_ (jE []))))
def H9 (a1:LL) (a0 a2:Int) (u0:Nat):Option (Ctl Nat (Ctl Unit Bool)) :=
 cond (decide ((u0:Int)<(a1.length:Int)))
 ((a1[u0]?).bind fun x10 =>
 (J4 a0 x10 a2).bind fun y12 =>
 cond (!y12)
  (some (Ctl.out (Ctl.out false)))
  (og (u0+1<4611686018427387904) <|
  some (Ctl.next (u0+1))))
 (some (Ctl.out (Ctl.next ())))
def Hk (a0:Int) (a1:LL) (a2:Int):Option Bool :=
 Di (Aq (fun s_:Nat=>H9 a1 a0 a2 s_) 4611686018427387904 0) fun _ =>
some true
theorem Ug (h:Hk bA dA bB=some cA):cK 108 [ai bA,tS dA,ai bB] (An cA):=by
 exact cO Tryz.func108 (Ae (sqC h (fun _=>sT [] []) (fun _ h hk2=>Ae (Ad (lpF h (fun u0=>sT [(0,ai bA),(2,ai bB),(9,tS dA),(10,an dA.length),(11,an u0)] []) (Ag []) (fun n_ u0 c_ h hn4=>Ae (Ab (kQ h (fun _ h=>skW (Ab (Ad (Ab (Aa 6 (riH sI h fun x10 _ h=>rsT 2 (rnW (Ab (Aa 11 (rsT 3 (rcH h Ws fun y12 h=>rsT 1 (rnW (kQ h (fun _ h=>Ae (Ac (br_ (tr_ (tr_ (br_ (tr_ (have h:=jO h hn4;(have h:=jO h hk2;jS h))))))))) fun _ h=>Az (bn_ (tn_ (wr_ (Aa 13 (raH h fun h=>rsT 1 (Ap (tn_ (jL []))))))))))))))))))))) fun _ h=>lxT (have h:=jO h hn4;jC []))))))) fun _ h=>Ae (Ac (jS h))))
def Ep (a0:Int) (a1:LL) (a2:Int):Option (LL) :=
 (Jj a1).bind fun y4 =>
og (0<=(y4.length:Int)/\(y4.length:Int)<=(y4.length:Int)/\(y4.length:Int)<=1073741824/\(24:Int)*(y4.length:Int)<=140737488355328) <|
(F8 a0 y4 a2 (List.replicate y4.length ([]:List Int))).bind fun y8 =>
og (y8.1.length=y4.length) <|
og (y8.2.1.length=y4.length) <|
og ((0:Int)<=(y8.2.2:Int)/\(y8.2.2:Int)<=(y8.2.2:Int)/\(y8.2.2:Int)<=(y4.length:Int)) <|
some (y8.1.take y8.2.2)
theorem J0 (h:Ep bA dA bB=some dB):D1 Tryz.prog Tab 109 [ai bA,tS dA,ai bB] [] (oS 0 1 dB.length) [(oi 0 1,.mat 42 (oi 1 1) .int dB),(oi 1 1,.pool 3 .int dB)]:=by
 refine Br kr Tryz.func109 (B6 kr) (n:=24) kr (by simp) rfl kr trivial ⟨⟨3,.tail _ (.head _)⟩,⟨trivial,trivial⟩⟩ (Ae (Ab (Aa 5 (rsT 1 (rcM h [] [tS dA] Su trivial (aR kr) (Ay kr kr trivial) fun y4 h=>rsT 1 (rnW (Ab (Aa 9 (rsT 2 ?_)))))))));obtain ⟨g6,h⟩:=Ak h;refine Afi (oS 224 7 y4.length) (oi 224 7) 42 3 .int (List.replicate y4.length ([]:List Int)) trivial (Zn (j:=y4.length) (k:=.i64) (k':=.i64) (m:=(y4.length:Int)) (c:=(y4.length:Int)) 3 kr kr g6 kr rfl) kr (by rw [List.length_replicate]) kr (rsT 1 (rnW (Ab (Aa 15 (rsT 4 (rcM h [(oi 0 0,oi 176 3),(oi 1 0,oi 177 3),(oi 2 0,oi 224 7),(oi 3 0,oi 224 7)] [ai bA,oS 176 3 y4.length,ai bB,oS 224 7 y4.length] (fun h=>O9 h rfl List.length_replicate.symm) ⟨kr,⟨kr,⟨kr,⟨kr,trivial⟩⟩⟩⟩ (aR kr) (Ay kr kr ⟨Bh kr,⟨Gm (o:=oi 176 3) (p:=oi 177 3) (e1:=42) (m:=y4.length) (u:=.int) (xss:=y4) (Bh kr) kr,⟨Bh kr,⟨Gm (o:=oi 224 7) (p:=oi 224 7) (e1:=42) (m:=(List.replicate y4.length ([]:List Int)).length) (u:=.int) (xss:=List.replicate y4.length ([]:List Int)) (Bh kr) kr,trivial⟩⟩⟩⟩) fun y8 h=>rsT 1 (rnW (Ab (Aa 20 (rsT 3 ?_))))))))));obtain ⟨g9,h⟩:=Ak h;obtain ⟨g10,h⟩:=Ak h;obtain ⟨g12,h⟩:=Ak h;refine rs2 (oS 23 18 y8.2.2) (oi 176 3) (oi 23 18) (.vec 42 1 y8.2.2 ((hdL (oi 304 13) .int y8.1).take y8.2.2)) (An8 (t:=sI) (len:=y4.length) (kh:=.i64) (km:=.i64) (h:=(y8.2.2:Int)) (m:=(y8.2.2:Int)) (j:=y8.2.2) (i:=oi 176 3) (N:=y8.1.length) (e:=42) (cs:=hdL (oi 304 13) .int y8.1) kr kr kr kr rfl g12 rfl (by have z_:y4.length=y8.1.length:=g9.symm;omega)) (rsT 1 (Ap (tn_ ⟨_,Ajr (e1:=42) (e:=3) (u:=.int) (xss:=y8.1) (k:=y8.2.2) 9000 (oi 23 18) (oi 304 13) kr kr kr (by have z_:y4.length=y8.1.length:=g9.symm;omega) kr kr,Ac ?_⟩)));obtain rfl:=zj h;exact E4 [oS 0 1 ((y8.1.take y8.2.2).length)] ((Abl 6 (oS 23 18 y8.2.2) (oS 23 18 ((y8.1.take y8.2.2).length)) kr (congrArg (fun z_=>((oS 23 18 z_):AV)) ((Amy (by have z_:y4.length=y8.1.length:=g9.symm;omega)):y8.2.2=(y8.1.take y8.2.2).length))).trans (Ag (tl:=[(6,oS 0 1 (y8.1.take y8.2.2).length)]) (g:=2) [(oi 0 1,oi 23 18),(oi 1 1,oi 9000 20)]))
def Q5 (a0:List Int):Option (List Int) :=
 some (a0.take 48++(List.replicate 48 0).drop (a0.take 48).length)
def Aha (r:List Int):RV:=⟨false,[(true,((tyA 47).av (He 47 r)).map .sc)]⟩
theorem X9 (h:Q5 aA=some aB):cK 110 [tI aA] (Aha aB):=by
 exact cO Tryz.func110 (Ae (Ae (Ab (Aa 8 (rsl (.sla (oi 3 3) 0 48) (Axq (N:=47) (i:=oi 3 3) (j:=0) (e:=159) (xs:=[He 47 (List.replicate 48 0)]) kr kr kr) (rsT 1 (rs2 (an ((aA.take 48).length)) (oi 3 3) (oi 3 3) (.arr 159 (tyA 47) [He 47 (aA.take 48++(List.replicate 48 0).drop (aA.take 48).length)]) (At0 (N:=47) (i:=oi 3 3) (e:=159) (l:=List.replicate 48 0) (ys:=aA) (zs:=aA.take 48++(List.replicate 48 0).drop (aA.take 48).length) kr J2 kr kr (by simp) rfl) (rnW (Ab (Aa 10 (rsl (.agg ((tyA 47).av (He 47 (aA.take 48++(List.replicate 48 0).drop (aA.take 48).length)))) (Ax7 (N:=47) (ty:=159) (i:=oi 3 3) (e:=0) (l:=aA.take 48++(List.replicate 48 0).drop (aA.take 48).length) (xs:=[He 47 (aA.take 48++(List.replicate 48 0).drop (aA.take 48).length)]) kr kr rfl rfl) (Afj (oi 2 1) (oi 2 1) (.arr 159 (tyA 47) [He 47 (aA.take 48++(List.replicate 48 0).drop (aA.take 48).length)]) (Ax6 (N:=47) (ty:=159) (i:=oi 2 1) (e:=0) (l:=List.replicate 48 0) (l2:=aA.take 48++(List.replicate 48 0).drop (aA.take 48).length) (xs:=[He 47 (List.replicate 48 0)]) kr kr rfl rfl kr rfl) (rnW (Ac (jR h [.agg ((tyA 47).av (He 47 (aA.take 48++(List.replicate 48 0).drop (aA.take 48).length)))] (T3 (Avj 47 (aA.take 48++(List.replicate 48 0).drop (aA.take 48).length)) E6))))))))))))))))
def Nl:AC :=
 (.seq (rg [xs1 26 25 24])
 (.seq (.cond (tm 26)
  .skip
  (.exit 0))
 (.seq (.block 1 (.seq (rg [xm 27 25,xx 28 1 23 25,xl 29 28,xm 7 27,xm 8 29])
 (.seq (.region [xm 30 8,xo 31 (qc 110 [tm 30] [[some .int]]),xm 32 1,xm 33 7,xx 34 1 32 33,xl 35 34,xo 36 (qc 110 [tm 35] [[some .int]]),xo 37 (.i (.cmp true 51 (tm 31) (tm 36)))] true [(1,5)])
 (.cond (tm 37)
  (.seq (rg [xo 6 (qm (cb false))])
  .ret)
  .skip))))
 (rg [xa 38 25,xm 25 38]))))
def Qe:AC :=
 (.seq (rg [xo 6 (qm (cb false))])
 (.seq (.seq (rg [xm 9 1,xn1 10 9,xm 11 2,xo 12 (qb .gtr (tm 10) (tm 11)),xm 13 12,⟨some 14,some (13,false),qm (tm 0)⟩,⟨some 15,some (13,false),qm (tm 1)⟩,⟨some 16,some (13,false),qm (tm 2)⟩,⟨some 17,some (13,false),qc 108 [tm 14,tm 15,tm 16] [[],[some sI],[]]⟩,⟨some 18,some (13,false),.i (.not (tm 17))⟩,xo 19 (.i (.pick (tm 13) (cb true) (tm 18)))])
 (.cond (tm 19)
  (.seq (rg [xo 6 (qm (cb false))])
  .ret)
  .skip))
 (.seq (.seq (rg [xm 20 0,xm 21 1,xm 22 2,xo 23 (qc 109 [tm 20,tm 21,tm 22] [[],[some sI],[]]),xn1 24 23,xo 25 (qm (ci 0))])
 (.block 0 (.loop Nl)))
 (.seq (rg [xm 39 0,xm 40 1,xm 41 2,xo 42 (qc 109 [tm 39,tm 40,tm 41] [[],[some sI],[]]),xn1 43 42,xm 44 1,xn1 45 44,xo 46 (qb .eql (tm 43) (tm 45)),xm 6 46])
 .ret))))
def Wz:List Res:=[.tmp 6]
theorem Wy:Ci Tryz.prog Tryz.f84=some (Qe,Wz):=by kernel_rfl
def Fu (y10 a1:LL) (u0:Nat):Option (Ctl Nat (Ctl Unit Bool)) :=
 cond (decide ((u0:Int)<(y10.length:Int)))
 ((y10[u0]?).bind fun x17 =>
 (Q5 x17).bind fun y19 =>
 (a1[u0]?).bind fun x20 =>
 (Q5 x20).bind fun y21 =>
 og (y19.length=47+1/\y21.length=47+1) <|
 cond (!(y19==y21))
  (some (Ctl.out (Ctl.out false)))
  (og (u0+1<4611686018427387904) <|
  some (Ctl.next (u0+1))))
 (some (Ctl.out (Ctl.next ())))
def Ig (a0:Int) (a1:LL) (a2:Int):Option Bool :=
 (cond (decide (a2<(a1.length:Int)))
  (some true)
  ((Hk a0 a1 a2).bind fun y5 =>
  some (!y5))).bind fun u0 =>
cond u0
 (some false)
 (Di ((Ep a0 a1 a2).bind fun y10 =>
  Aq (fun s_:Nat=>Fu y10 a1 s_) 4611686018427387904 0) fun _ =>
 (Ep a0 a1 a2).bind fun y27 =>
 some ((y27.length:Int)==(a1.length:Int)))
theorem We (h:Ig bA dA bB=some cA):cK 84 [ai bA,tS dA,ai bB] (An cA):=by
 refine Acv kr Tryz.func84 Wy (n:=47) kr (by simp) rfl ?_;unfold Qe;refine Ae (Ab (sqF h (fun u1=>sT [(0,ai bA),(1,tS dA),(2,ai bB),(19,.bool u1)] []) ?_ ?_))
 ·intro _ h;refine Aa 13 (rsT 5 ?_);rcases A0 h with ⟨q4,h⟩|⟨q4,h⟩
  ·exact rq 13 q4 (rsT 6 (Ap (tn_ (jE []))))
  exact rq 13 q4 (rsT 3 (rcH h Ug fun y5 h=>rsT 2 (Ap (tn_ (jE [])))))
 intro u1 h;refine kQ h (fun _ h=>Ae (Ac (tr_ (jS h)))) fun _ h=>skW (sqC h (fun _=>sT [(0,ai bA),(1,tS dA),(2,ai bB)] []) ?_ fun _ h=>Ab (Aa 11 (rsT 3 (rcM h [] [ai bA,tS dA,ai bB] J0 trivial (aR kr) (Ay kr kr trivial) fun y27 h=>rsT 5 (rnW (Ac (jS h)))))))
 intro _ h hk8;refine Ab (Aa 8 (rsT 3 (rcM h [] [ai bA,tS dA,ai bB] J0 trivial (aR kr) (Ay kr kr trivial) fun y10 h=>rsT 2 (rnW (Ad (lpF h (fun u0=>sT [(0,ai bA),(1,tS dA),(2,ai bB),(23,oS 0 1 y10.length),(24,an y10.length),(25,an u0)] [(oi 0 1,.mat 42 (oi 1 1) .int y10),(oi 1 1,.pool 3 .int y10)]) (Ag [(oi 0 1,oi 368 5),(oi 1 1,oi 369 5)]) ?_))))));intro n_ u0 c_ h hn11;unfold Nl;refine Ae (Ab (kQ h (fun _ h=>skW (Ab (Ad (Ab (Aa 8 (rsT 1 ?_)))))) fun _ h=>lxT (have h:=jO h hn11;jC [])));obtain ⟨x17,e17,h⟩:=Ah h;refine zO (oi 0 1) sI y10.length (Ai e17) (rsl (.own (kid (oi 1 1) u0) .int 0 x17.length) (D6 (o:=oi 0 1) (p:=oi 1 1) (e1:=42) (u:=.int) (xss:=y10) (row:=x17) (j:=u0) kr kr e17) (rsT 2 (rnW (Ab (Ao 16 (dz0 (.own (kid (oi 1 1) u0) .int 0 x17.length) (dcG h [.own (kid (oi 1 1) u0) .int 0 x17.length] X9 (Al (Bl (e:=3) (u:=.int) (xs:=x17) ((Fj (P3 (t:=.int) (off:=0) (len:=x17.length) 0 rfl kr)).trans (Bc kr e17)) rfl) Bg) fun y19 h=>dz0 (tS dA) (dz0 (an u0) (diH sI h fun x20 _ h=>dz0 (tI x20) (dcH h X9 fun y21 h=>?_))))))))));obtain ⟨g22,h⟩:=Ak h;exact ds0 (.bool (!(y19==y21))) (Aww (N:=47) (l:=y19) (l':=y21) kr kr g22) (Co (As kr) (tn_ (wr_ (kQ h (fun _ h=>Ae (Ac (br_ (tr_ (tr_ (br_ (tr_ (have h:=jO h hn11;(have h:=jO h hk8;jS h))))))))) fun _ h=>Az (bn_ (tn_ (wr_ (Aa 18 (raH h fun h=>rsT 1 (Ap (tn_ (jL []))))))))))))
def Hr (a0 u0 u1:Int) (u2:LL):Option Bool :=
 ((H7 a0).bind fun y3 =>
 cond y3
  ((O1 u0 u1).bind fun y5 =>
  cond y5
   ((Ig a0 u2 (wI (u0+u1))).bind fun y7 =>
   some y7)
   (some false))
  (some false)).bind fun u3 =>
some u3
theorem Uz (h:Hr bA bB bC dA=some cA):cK 45 [ai bA,.agg [ai bB,ai bC,tS dA]] (An cA):=by
 refine cO Tryz.func45 (Ae (sqF h (fun u3=>sT [(4,.bool u3)] []) ?_ fun u3 h=>Ac (jS h)));intro _ h;refine Aa 24 (rsT 1 (rcH h Rd fun y3 h=>rsT 1 ?_));rcases A0 h with ⟨q4,h⟩|⟨q4,h⟩
 ·refine rq 7 q4 (rsT 4 (rcH h Afd fun y5 h=>rsT 2 ?_));rcases A0 h with ⟨q6,h⟩|⟨q6,h⟩
  ·exact rq 14 q6 (rsT 8 (rcH h We fun y7 h=>rsT 2 (Ap (tn_ (jE [])))))
  exact rq 14 q6 (rsT 11 (Ap (tn_ (jE []))))
 exact rq 7 q4 (rsT 18 (Ap (tn_ (jE []))))
end


section
open Go.RowKit Go.Deep
theorem gw3 (w:World):Calls Tryz.prog 113 #[.int .i64 3] w fun e w'=>e=.returned (.agg #[.int .i64 1,.int .i64 2])/\Below w.heap.size w w':=by
 go_enter Tryz.func113,Tryz.ntmps113
 go_wp2
 refine bodyPost_ret (v:=.agg #[.int .i64 1,.int .i64 2]) (by simp [results,Tryz.results113,go_sem]) rfl ⟨rfl,?_⟩;exact (by repeat (first|with_reducible exact Below.refl _ _|((with_reducible refine Below.setCell ?_ ?_ _);rotate_left;focus (first|(simp;done)|omega|(simp;omega)))|((with_reducible refine Below.alloc ?_ ?_ _);rotate_left;focus (first|(simp;done)|omega|(simp;omega)))|(with_reducible refine Below.drew ?_)|(with_reducible refine below_draws_ ?_ _)))
theorem gw4 (w:World):Calls Tryz.prog 113 #[.int .i64 4] w fun e w'=>e=.returned (.agg #[.int .i64 1,.int .i64 0])/\Below w.heap.size w w':=by
 go_enter Tryz.func113,Tryz.ntmps113
 go_wp2
 refine bodyPost_ret (v:=.agg #[.int .i64 1,.int .i64 0]) (by simp [results,Tryz.results113,go_sem]) rfl ⟨rfl,?_⟩;exact (by repeat (first|with_reducible exact Below.refl _ _|((with_reducible refine Below.setCell ?_ ?_ _);rotate_left;focus (first|(simp;done)|omega|(simp;omega)))|((with_reducible refine Below.alloc ?_ ?_ _);rotate_left;focus (first|(simp;done)|omega|(simp;omega)))|(with_reducible refine Below.drew ?_)|(with_reducible refine below_draws_ ?_ _)))
theorem gw5 (w:World):Calls Tryz.prog 113 #[.int .i64 5] w fun e w'=>e=.returned (.agg #[.int .i64 2,.int .i64 1])/\Below w.heap.size w w':=by
 go_enter Tryz.func113,Tryz.ntmps113
 go_wp2
 refine bodyPost_ret (v:=.agg #[.int .i64 2,.int .i64 1]) (by simp [results,Tryz.results113,go_sem]) rfl ⟨rfl,?_⟩;exact (by repeat (first|with_reducible exact Below.refl _ _|((with_reducible refine Below.setCell ?_ ?_ _);rotate_left;focus (first|(simp;done)|omega|(simp;omega)))|((with_reducible refine Below.alloc ?_ ?_ _);rotate_left;focus (first|(simp;done)|omega|(simp;omega)))|(with_reducible refine Below.drew ?_)|(with_reducible refine below_draws_ ?_ _)))
theorem gw6 (w:World):Calls Tryz.prog 113 #[.int .i64 6] w fun e w'=>e=.returned (.agg #[.int .i64 0,.int .i64 1])/\Below w.heap.size w w':=by
 go_enter Tryz.func113,Tryz.ntmps113
 go_wp2
 refine bodyPost_ret (v:=.agg #[.int .i64 0,.int .i64 1]) (by simp [results,Tryz.results113,go_sem]) rfl ⟨rfl,?_⟩;exact (by repeat (first|with_reducible exact Below.refl _ _|((with_reducible refine Below.setCell ?_ ?_ _);rotate_left;focus (first|(simp;done)|omega|(simp;omega)))|((with_reducible refine Below.alloc ?_ ?_ _);rotate_left;focus (first|(simp;done)|omega|(simp;omega)))|(with_reducible refine Below.drew ?_)|(with_reducible refine below_draws_ ?_ _)))
theorem gw7 (w:World):Calls Tryz.prog 113 #[.int .i64 7] w fun e w'=>e=.returned (.agg #[.int .i64 1,.int .i64 1])/\Below w.heap.size w w':=by
 go_enter Tryz.func113,Tryz.ntmps113
 go_wp2
 refine bodyPost_ret (v:=.agg #[.int .i64 1,.int .i64 1]) (by simp [results,Tryz.results113,go_sem]) rfl ⟨rfl,?_⟩;exact (by repeat (first|with_reducible exact Below.refl _ _|((with_reducible refine Below.setCell ?_ ?_ _);rotate_left;focus (first|(simp;done)|omega|(simp;omega)))|((with_reducible refine Below.alloc ?_ ?_ _);rotate_left;focus (first|(simp;done)|omega|(simp;omega)))|(with_reducible refine Below.drew ?_)|(with_reducible refine below_draws_ ?_ _)))
theorem gw8 (w:World):Calls Tryz.prog 113 #[.int .i64 8] w fun e w'=>e=.returned (.agg #[.int .i64 1,.int .i64 1])/\Below w.heap.size w w':=by
 go_enter Tryz.func113,Tryz.ntmps113
 go_wp2
 refine bodyPost_ret (v:=.agg #[.int .i64 1,.int .i64 1]) (by simp [results,Tryz.results113,go_sem]) rfl ⟨rfl,?_⟩;exact (by repeat (first|with_reducible exact Below.refl _ _|((with_reducible refine Below.setCell ?_ ?_ _);rotate_left;focus (first|(simp;done)|omega|(simp;omega)))|((with_reducible refine Below.alloc ?_ ?_ _);rotate_left;focus (first|(simp;done)|omega|(simp;omega)))|(with_reducible refine Below.drew ?_)|(with_reducible refine below_draws_ ?_ _)))
theorem gw9 (w:World):Calls Tryz.prog 113 #[.int .i64 9] w fun e w'=>e=.returned (.agg #[.int .i64 2,.int .i64 1])/\Below w.heap.size w w':=by
 go_enter Tryz.func113,Tryz.ntmps113
 go_wp2
 refine bodyPost_ret (v:=.agg #[.int .i64 2,.int .i64 1]) (by simp [results,Tryz.results113,go_sem]) rfl ⟨rfl,?_⟩;exact (by repeat (first|with_reducible exact Below.refl _ _|((with_reducible refine Below.setCell ?_ ?_ _);rotate_left;focus (first|(simp;done)|omega|(simp;omega)))|((with_reducible refine Below.alloc ?_ ?_ _);rotate_left;focus (first|(simp;done)|omega|(simp;omega)))|(with_reducible refine Below.drew ?_)|(with_reducible refine below_draws_ ?_ _)))
theorem Ayk (w:World):Calls Tryz.prog 113 #[.int .i64 10] w fun e w'=>e=.returned (.agg #[.int .i64 0,.int .i64 1])/\Below w.heap.size w w':=by
 go_enter Tryz.func113,Tryz.ntmps113
 go_wp2
 refine bodyPost_ret (v:=.agg #[.int .i64 0,.int .i64 1]) (by simp [results,Tryz.results113,go_sem]) rfl ⟨rfl,?_⟩;exact (by repeat (first|with_reducible exact Below.refl _ _|((with_reducible refine Below.setCell ?_ ?_ _);rotate_left;focus (first|(simp;done)|omega|(simp;omega)))|((with_reducible refine Below.alloc ?_ ?_ _);rotate_left;focus (first|(simp;done)|omega|(simp;omega)))|(with_reducible refine Below.drew ?_)|(with_reducible refine below_draws_ ?_ _)))
theorem Ayl (w:World):Calls Tryz.prog 113 #[.int .i64 11] w fun e w'=>e=.returned (.agg #[.int .i64 1,.int .i64 2])/\Below w.heap.size w w':=by
 go_enter Tryz.func113,Tryz.ntmps113
 go_wp2
 refine bodyPost_ret (v:=.agg #[.int .i64 1,.int .i64 2]) (by simp [results,Tryz.results113,go_sem]) rfl ⟨rfl,?_⟩;exact (by repeat (first|with_reducible exact Below.refl _ _|((with_reducible refine Below.setCell ?_ ?_ _);rotate_left;focus (first|(simp;done)|omega|(simp;omega)))|((with_reducible refine Below.alloc ?_ ?_ _);rotate_left;focus (first|(simp;done)|omega|(simp;omega)))|(with_reducible refine Below.drew ?_)|(with_reducible refine below_draws_ ?_ _)))
theorem Ayj (w:World):Calls Tryz.prog 113 #[.int .i64 12] w fun e w'=>e=.returned (.agg #[.int .i64 1,.int .i64 0])/\Below w.heap.size w w':=by
 go_enter Tryz.func113,Tryz.ntmps113
 go_wp2
 refine bodyPost_ret (v:=.agg #[.int .i64 1,.int .i64 0]) (by simp [results,Tryz.results113,go_sem]) rfl ⟨rfl,?_⟩;exact (by repeat (first|with_reducible exact Below.refl _ _|((with_reducible refine Below.setCell ?_ ?_ _);rotate_left;focus (first|(simp;done)|omega|(simp;omega)))|((with_reducible refine Below.alloc ?_ ?_ _);rotate_left;focus (first|(simp;done)|omega|(simp;omega)))|(with_reducible refine Below.drew ?_)|(with_reducible refine below_draws_ ?_ _)))
theorem Ayh (w:World):Calls Tryz.prog 113 #[.int .i64 13] w fun e w'=>e=.returned (.agg #[.int .i64 1,.int .i64 1])/\Below w.heap.size w w':=by
 go_enter Tryz.func113,Tryz.ntmps113
 go_wp2
 refine bodyPost_ret (v:=.agg #[.int .i64 1,.int .i64 1]) (by simp [results,Tryz.results113,go_sem]) rfl ⟨rfl,?_⟩;exact (by repeat (first|with_reducible exact Below.refl _ _|((with_reducible refine Below.setCell ?_ ?_ _);rotate_left;focus (first|(simp;done)|omega|(simp;omega)))|((with_reducible refine Below.alloc ?_ ?_ _);rotate_left;focus (first|(simp;done)|omega|(simp;omega)))|(with_reducible refine Below.drew ?_)|(with_reducible refine below_draws_ ?_ _)))
theorem Aym (w:World):Calls Tryz.prog 113 #[.int .i64 14] w fun e w'=>e=.returned (.agg #[.int .i64 1,.int .i64 1])/\Below w.heap.size w w':=by
 go_enter Tryz.func113,Tryz.ntmps113
 go_wp2
 refine bodyPost_ret (v:=.agg #[.int .i64 1,.int .i64 1]) (by simp [results,Tryz.results113,go_sem]) rfl ⟨rfl,?_⟩;exact (by repeat (first|with_reducible exact Below.refl _ _|((with_reducible refine Below.setCell ?_ ?_ _);rotate_left;focus (first|(simp;done)|omega|(simp;omega)))|((with_reducible refine Below.alloc ?_ ?_ _);rotate_left;focus (first|(simp;done)|omega|(simp;omega)))|(with_reducible refine Below.drew ?_)|(with_reducible refine below_draws_ ?_ _)))
def gwV (k:Int):Int×Int:=if k=3 then (1,2) else if k=4 then (1,0) else if k=5 then (2,1) else if k=6 then (0,1) else if k=9 then (2,1) else if k=10 then (0,1) else if k=11 then (1,2) else if k=12 then (1,0) else (1,1)
def Dj (a0:Int):Option (Int×Int):=og (3<=a0/\a0<=14) (some (gwV a0))
def Qq (r:Int×Int):RV:=⟨false,[(true,[.sc (.int .i64 r.1),.sc (.int .i64 r.2)])]⟩
theorem Axb (k:Int) (h:3<=k/\k<=14) (w:World):Calls Tryz.prog 113 #[.int .i64 k] w fun e w'=>e=.returned (.agg #[.int .i64 (gwV k).1,.int .i64 (gwV k).2])/\Below w.heap.size w w':=by
 have hk:k=3∨k=4∨k=5∨k=6∨k=7∨k=8∨k=9∨k=10∨k=11∨k=12∨k=13∨k=14:=by omega
 rcases hk with rfl|rfl|rfl|rfl|rfl|rfl|rfl|rfl|rfl|rfl|rfl|rfl
 ·exact gw3 w
 ·exact gw4 w
 ·exact gw5 w
 ·exact gw6 w
 ·exact gw7 w
 ·exact gw8 w
 ·exact gw9 w
 ·exact Ayk w
 ·exact Ayl w
 ·exact Ayj w
 ·exact Ayh w
 ·exact Aym w
theorem Gl {a0:Int} {r:Int×Int} (h:Dj a0=some r):Cr Tryz.prog Tab 113 [.int .i64 a0] (Qq r):=by
 obtain ⟨hb,h⟩:=Ak h;obtain rfl:=osj h;intro w im vs hG hr;obtain ⟨u1,_,rfl,h1,h2⟩:=hr;obtain rfl:_=[]:=h2;obtain rfl:u1=.int .i64 a0:=h1;refine (Axb a0 hb w).mono ?_;rintro e w' ⟨rfl,hw⟩;exact ⟨_,rfl,hw,[_,_],[],⟨_,_,rfl,rfl,rfl,_,_,rfl,rfl,rfl,rfl,rfl⟩,⟨trivial,fun _=>rfl⟩,rfl⟩
end
section
open Go.RowKit Go.Deep
section
variable {σ:Oid->Option Loc} {im:Nat->Prop} {w:World}
end
section
variable {n:Nat} {d:Option Nat} {f:Nat->AV} {ob:Oid->Option Ob}
end
end
section
open Go.RowKit Go.Deep
set_option maxRecDepth 4000
set_option maxHeartbeats 4800000
variable {bA bB bC bD:Int} {gA gB:ByteArray} {hA hB:List (Int×Int×ByteArray)} {iA:Int×Int×ByteArray} {cA:Bool} {dA dB:LL} {jA:(List (Int×Int×ByteArray))×LL} {kA:List ByteArray} {lA:Int×Int×Bool}
def P1 (u1 u2:Int) (u0:ByteArray) (a1:Int):Option Int :=
 cond (decide (wI (a1 - (u0.size:Int))<0))
 (some (-1))
 (some (wI (a1 - (u0.size:Int))))
theorem Ab5 (h:P1 bA bB gA bC=some bD):cK 64 [.agg [ai bA,ai bB,.str gA],ai bC] (A3 bD):=by
 exact cO Tryz.func64 (Ae (Ae (Ab (Ae (kQ h (fun _ h=>Ae (Ac (tr_ (jS h)))) fun _ h=>skW (Ae (Ac (jS h))))))))
def Hg (a0:List (Int×Int×ByteArray)) (u1:Int) (u0:Nat):Option (Ctl (Int×Nat) (Ctl Int Int)) :=
 cond (decide ((u0:Int)<(a0.length:Int)))
 ((a0[u0]?).bind fun x15 =>
 (P1 x15.1 x15.2.1 x15.2.2 u1).bind fun y16 =>
 cond (decide (y16<0))
  (some (Ctl.out (Ctl.out (-1))))
  (og (u0+1<4611686018427387904) <|
  some (Ctl.next (y16,u0+1))))
 (some (Ctl.out (Ctl.next u1)))
def K7 (a0:List (Int×Int×ByteArray)) (a1:Int):Option Int :=
 cond (decide (wI (a1 - (a0.length:Int))<0))
 (some (-1))
 (Di (Aq (fun s_:Int×Nat=>Hg a0 s_.1 s_.2) 4611686018427387904 (wI (a1 - (a0.length:Int)),0)) fun u0 =>
 some u0)
theorem Zg (h:K7 hA bA=some bB):cK 33 [.tree Y8 hA,ai bA] (A3 bB):=by
 refine cO Tryz.func33 (Ae (Ae (Ab (Ae (kQ h (fun _ h=>Ae (Ac (tr_ (jS h)))) fun _ h=>skW (sqC h (fun u0=>sT [(1,ai u0)] []) ?_ fun u0 h=>Ae (Ac (jS h))))))));intro _ h hk7;refine Ae (Ad (lpF h (fun (u1,u2)=>sT [(0,.tree Y8 hA),(1,ai u1),(5,an u2)] []) (Ag []) ?_));rintro n_ ⟨u1,u2⟩ c_ h hn9;exact Ab (Ae (kQ h (fun _ h=>skW (Ab (Ad (Ab (Aa 13 (rsT 2 (riH Y8 h fun x15 _ h=>rsT 2 (rcH h Ab5 fun y16 h=>rsT 1 (rnW (Ae (kQ h (fun _ h=>Ae (Ac (br_ (tr_ (tr_ (br_ (tr_ (have h:=jO h hn9;(have h:=jO h hk7;jS h))))))))) fun _ h=>Az (bn_ (tn_ (wr_ (Aa 18 (rsT 1 (raH h fun h=>rsT 1 (Ap (tn_ (jL [])))))))))))))))))))) fun _ h=>lxT (have h:=jO h hn9;jC [])))
def Pi (u0 u1:Int) (u2:ByteArray):Option (Int×Int×ByteArray) :=
 some (u0,u1,u2)
def Adc (r:Int×Int×ByteArray):RV:=⟨false,[(true,[.sc (.int .i64 r.1),.sc (.int .i64 r.2.1),.sc (.str r.2.2)])]⟩
theorem Abm (h:Pi bA bB gA=some iA):cK 74 [.agg [ai bA,ai bB,.str gA]] (Adc iA):=by
 exact cO Tryz.func74 (Ae (Ae (Ae (Ae (Ae (Ae (Ac (jS h))))))))
def Hq (a0:List (Int×Int×ByteArray)) (u0:Nat) (u1:List (Int×Int×ByteArray)):Option (Ctl (Nat×(List (Int×Int×ByteArray))) (List (Int×Int×ByteArray))) :=
 cond (decide ((u0:Int)<(a0.length:Int)))
 ((a0[u0]?).bind fun x11 =>
 (Pi x11.1 x11.2.1 x11.2.2).bind fun y12 =>
 (u1[u0]?).bind fun x13 =>
 og (u0+1<4611686018427387904) <|
 some (Ctl.next (u0+1,u1.set u0 y12)))
 (some (Ctl.out u1))
def Kv (a0:List (Int×Int×ByteArray)):Option (List (Int×Int×ByteArray)) :=
 og (0<=(a0.length:Int)/\(a0.length:Int)<=(a0.length:Int)/\(a0.length:Int)<=1073741824/\(32:Int)*(a0.length:Int)<=140737488355328) <|
(Aq (fun s_:Nat×(List (Int×Int×ByteArray))=>Hq a0 s_.1 s_.2) 4611686018427387904 (0,List.replicate a0.length ((0,0,(⟨#[]⟩:ByteArray)):Int×Int×ByteArray))).bind fun u0 =>
some u0
def Zd (r:List (Int×Int×ByteArray)):RV:=⟨false,[(false,[.new 117 Y8 r])]⟩
theorem Yy (h:Kv hA=some hB):cK 41 [.tree Y8 hA] (Zd hB):=by
 refine cO Tryz.func41 (Ae (Ab (Aa 6 (rsT 2 ?_))));obtain ⟨g3,h⟩:=Ak h;refine rs1 (.own (oi 7 4) Y8 0 hA.length) (oi 7 4) (.arr 117 Y8 (List.replicate hA.length ((0,0,(⟨#[]⟩:ByteArray)):Int×Int×ByteArray))) (Ot (t:=Y8) (k:=.i64) (k':=.i64) (m:=(hA.length:Int)) (m':=(hA.length:Int)) kr kr g3 rfl) (rsT 1 (rnW (sqF h (fun u2=>sT [(3,.own (oi 0 1) Y8 0 u2.length)] [(oi 0 1,.arr 117 Y8 u2)]) ?_ fun u2 h=>Ae (Ac (jR h [.own (oi 0 1) Y8 0 u2.length] (Db rfl (Cv kr rfl) E6))))));intro _ h;refine Ae (Ad (lpF h (fun (u1,u0)=>sT [(0,.tree Y8 hA),(3,.own (oi 0 1) Y8 0 u0.length),(4,an u1)] [(oi 0 1,.arr 117 Y8 u0)]) ((wL 3 (List.length_replicate.symm:hA.length=(List.replicate hA.length ((0,0,(⟨#[]⟩:ByteArray)):Int×Int×ByteArray)).length)).trans (Ag [(oi 0 1,oi 7 4)])) ?_));rintro n_ ⟨u1,u0⟩ c_ h hn6;refine Ab (Ae (kQ h (fun _ h=>skW (Ab (Ad (Aa 15 (rsT 4 (riH Y8 h fun x11 _ h=>rsT 1 (rcH h Abm fun y12 h=>?_))))))) fun _ h=>lxT (have h:=jO h hn6;jE [])));obtain ⟨x13,e13,h⟩:=Ah h;refine rs0 (.elt (oi 0 1) u1 0) (zo (t:=Y8) (o:=oi 0 1) (len:=u0.length) (k:=.i64) (m:=(u1:Int)) (Cu _) (Ai e13)) (Afj (oi 0 1) (oi 0 1) (.arr 117 Y8 (u0.set u1 y12)) (Vm (i:=oi 0 1) (j:=u1) (k:=0) (e:=117) (t:=Y8) (xs:=u0) (cs:=[ai y12.1,ai y12.2.1,.str y12.2.2]) (x1:=y12) kr kr e13 kr kr) (Ap (bn_ (tn_ (wr_ (Aa 18 (rsT 1 (raH h fun h=>rsT 1 (Ap (tn_ ?_))))))))));obtain rfl:=zj h;exact jLw hn6 ((wL 3 (((rfl:u0.length=u0.length).trans List.length_set.symm):u0.length=(u0.set u1 y12).length)).trans (Ag []))
def Px (u0 u1:Int) (u2:ByteArray) (u3 u4:Int) (u5:ByteArray):Option Bool :=
 cond (u0 !=u3)
 (some false)
 (cond (u1 !=u4)
  (some false)
  (cond (!(u2.toList==u5.toList))
   (some false)
   (some true)))
theorem Abe (h:Px bA bB gA bC bD gB=some cA):cK 91 [.agg [ai bA,ai bB,.str gA],.agg [ai bC,ai bD,.str gB]] (An cA):=by
 exact cO Tryz.func91 (Ae (Ab (Ae (kQ h (fun _ h=>Ae (Ac (tr_ (jS h)))) fun _ h=>skW (Ab (Ae (kQ h (fun _ h=>Ae (Ac (tr_ (jS h)))) fun _ h=>skW (Ab (Ae (kQ h (fun _ h=>Ae (Ac (tr_ (jS h)))) fun _ h=>skW (Ae (Ac (jS h)))))))))))))
def Hv (a0:List (Int×Int×ByteArray)) (a1:List (Int×Int×ByteArray)) (u0:Nat):Option (Ctl Nat (Ctl Unit Bool)) :=
 cond (decide ((u0:Int)<(a0.length:Int)))
 ((a0[u0]?).bind fun x14 =>
 (a1[u0]?).bind fun x15 =>
 (Px x14.1 x14.2.1 x14.2.2 x15.1 x15.2.1 x15.2.2).bind fun y16 =>
 cond (!y16)
  (some (Ctl.out (Ctl.out false)))
  (og (u0+1<4611686018427387904) <|
  some (Ctl.next (u0+1))))
 (some (Ctl.out (Ctl.next ())))
def Lj (a0:List (Int×Int×ByteArray)) (a1:List (Int×Int×ByteArray)):Option Bool :=
 cond ((a0.length:Int) !=(a1.length:Int))
 (some false)
 (Di (Aq (fun s_:Nat=>Hv a0 a1 s_) 4611686018427387904 0) fun _ =>
 some true)
theorem Yn (h:Lj hA hB=some cA):cK 54 [.tree Y8 hA,.tree Y8 hB] (An cA):=by
 exact cO Tryz.func54 (Ae (Ab (Ae (kQ h (fun _ h=>Ae (Ac (tr_ (jS h)))) fun _ h=>skW (sqC h (fun _=>sT [] []) (fun _ h hk6=>Ae (Ad (lpF h (fun u0=>sT [(0,.tree Y8 hA),(1,.tree Y8 hB),(5,an u0)] []) (Ag []) (fun n_ u0 c_ h hn8=>Ab (Ae (kQ h (fun _ h=>skW (Ab (Ad (Ab (Ao 16 (ds0 (.tree Y8 hA) kr (ds0 (an u0) kr (diH Y8 h fun x14 _ h=>dsT 3 (diH Y8 h fun x15 _ h=>ds0 (.agg [ai x15.1,ai x15.2.1,.str x15.2.2]) kr (dcH h Abe fun y16 h=>ds0 (.bool (!y16)) kr (Co (As kr) (tn_ (wr_ (kQ h (fun _ h=>Ae (Ac (br_ (tr_ (tr_ (br_ (tr_ (have h:=jO h hn8;(have h:=jO h hk6;jS h))))))))) fun _ h=>Az (bn_ (tn_ (wr_ (Aa 19 (rsT 1 (raH h fun h=>rsT 1 (Ap (tn_ (jL []))))))))))))))))))))))) fun _ h=>lxT (have h:=jO h hn8;jC []))))))) fun _ h=>Ae (Ac (jS h)))))))
def Pz (u0:List (Int×Int×ByteArray)) (a1:Int):Option Int :=
 (K7 u0 a1).bind fun y3 =>
cond (decide (y3<0))
 (some (-1))
 (some y3)
theorem Acf (h:Pz hA bA=some bB):cK 16 [.agg [.tree Y8 hA],ai bA] (A3 bB):=by
 exact cO Tryz.func16 (Ae (Ab (Aa 8 (rsT 3 (rcH h Zg fun y3 h=>rsT 1 (rnW (Ab (Ae (kQ h (fun _ h=>Ae (Ac (tr_ (jS h)))) fun _ h=>skW (Ae (Ac (jS h))))))))))))
def Pw (u0:List (Int×Int×ByteArray)):Option (List (Int×Int×ByteArray)) :=
 (Kv u0).bind fun y4 =>
some y4
def Abz (r:List (Int×Int×ByteArray)):RV:=⟨false,[(true,[.new 117 Y8 r])]⟩
theorem Aae (h:Pw hA=some hB):cK 20 [.agg [.tree Y8 hA]] (Abz hB):=by
 exact cO Tryz.func20 (Ae (Ae (Ab (Aa 9 (rsT 2 (rcH h Yy fun y4 h=>rsB 2 (rnW (Ae (Ac (jR h [.agg [.own (oi 96 6) Y8 0 y4.length]] (T3 (Ed (Cv kr rfl) V2) E6)))))))))))
def Ph (u0:List (Int×Int×ByteArray)) (u1:List (Int×Int×ByteArray)):Option Bool :=
 (Lj u0 u1).bind fun y4 =>
cond (!y4)
 (some false)
 (some true)
theorem Ab0 (h:Ph hA hB=some cA):cK 25 [.agg [.tree Y8 hA],.agg [.tree Y8 hB]] (An cA):=by
 exact cO Tryz.func25 (Ae (Ab (Ab (Aa 10 (rsT 4 (rcH h Yn fun y4 h=>rsT 1 (rnW (kQ h (fun _ h=>Ae (Ac (tr_ (jS h)))) fun _ h=>skW (Ae (Ac (jS h)))))))))))
def Gp (u0:ByteArray) (u1:List (Int×Int×ByteArray)) (u2 u3:Int) (u4:LL) (a1:Int):Option Int :=
 cond (decide (wI (a1 - (u0.size:Int))<0))
 (some (-1))
 ((Pz u1 (wI (a1 - (u0.size:Int)))).bind fun y8 =>
 cond (decide (y8<0))
  (some (-1))
  ((Hm u2 u3 u4 y8).bind fun y14 =>
  cond (decide (y14<0))
   (some (-1))
   (some y14)))
theorem Tp (h:Gp gA hA bA bB dA bC=some bD):cK 5 [.agg [.str gA,.tree Y8 hA,ai bA,ai bB,tS dA],ai bC] (A3 bD):=by
 exact cO Tryz.func5 (Ae (Ae (Ab (Ae (kQ h (fun _ h=>Ae (Ac (tr_ (jS h)))) fun _ h=>skW (Ab (Aa 16 (rsT 3 (rcH h Acf fun y8 h=>rsT 1 (rnW (Ab (Ae (kQ h (fun _ h=>Ae (Ac (tr_ (jS h)))) fun _ h=>skW (Ab (Aa 23 (rsT 3 (rcH h T6 fun y14 h=>rsT 1 (rnW (Ab (Ae (kQ h (fun _ h=>Ae (Ac (tr_ (jS h)))) fun _ h=>skW (Ae (Ac (jS h))))))))))))))))))))))))
def Cq (u4:ByteArray) (u0:List (Int×Int×ByteArray)) (u1 u2:Int) (u3:LL):Option ((List (Int×Int×ByteArray))×LL) :=
 (Pw u0).bind fun y6 =>
(Hs u1 u2 u3).bind fun y8 =>
some (y6,y8)
theorem Fr (h:Cq gA hA bA bB dA=some jA):D1 Tryz.prog Tab 7 [.agg [.str gA,.tree Y8 hA,ai bA,ai bB,tS dA]] [] (.agg [.str gA,.own (oi 1 1) Y8 0 jA.1.length,ai bA,ai bB,oS 2 1 jA.2.length]) [(oi 0 1,.cells 38 [.str gA,.own (oi 1 1) Y8 0 jA.1.length,ai bA,ai bB,oS 2 1 jA.2.length]),(oi 1 1,.arr 117 Y8 jA.1),(oi 2 1,.mat 42 (oi 3 1) .int jA.2),(oi 3 1,.pool 3 .int jA.2)]:=by
 refine Br kr Tryz.func7 (B6 kr) (n:=16) kr (by simp) rfl kr trivial ⟨trivial,⟨trivial,⟨⟨3,.tail _ (.tail _ (.tail _ (.head _)))⟩,⟨trivial,trivial⟩⟩⟩⟩ (Ae (Ae (Ae (Ab (Aa 13 (rsT 2 (rcH h Aae fun y6 h=>rsB 2 (rnW (Ab (Aa 18 (rsT 2 (rcM h [] [.agg [ai bA,ai bB,tS dA]] U4 trivial (aR kr) (Ay kr kr trivial) fun y8 h=>rsB 2 (rnW (Ae (Ac ?_)))))))))))))));obtain rfl:=zj h;exact E4 [.agg [.str gA,.own (oi 1 1) Y8 0 y6.length,ai bA,ai bB,oS 2 1 y8.length]] (Ag (tl:=[(2,.box (oi 0 1) 0)]) (g:=2) [(oi 0 1,oi 2 2),(oi 1 1,oi 144 10),(oi 2 1,oi 209 15),(oi 3 1,oi 210 15)])
def Gv (u0:ByteArray) (u1:List (Int×Int×ByteArray)) (u2 u3:Int) (u4:LL) (u5:ByteArray) (u6:List (Int×Int×ByteArray)) (u7 u8:Int) (u9:LL):Option Bool :=
 cond (!(u0.toList==u5.toList))
 (some false)
 ((Ph u1 u6).bind fun y8 =>
 cond (!y8)
  (some false)
  ((Hl u2 u3 u4 u7 u8 u9).bind fun y13 =>
  cond (!y13)
   (some false)
   (some true)))
theorem Tm (h:Gv gA hA bA bB dA gB hB bC bD dB=some cA):cK 9 [.agg [.str gA,.tree Y8 hA,ai bA,ai bB,tS dA],.agg [.str gB,.tree Y8 hB,ai bC,ai bD,tS dB]] (An cA):=by
 exact cO Tryz.func9 (Ae (Ab (Ae (kQ h (fun _ h=>Ae (Ac (tr_ (jS h)))) fun _ h=>skW (Ab (Ab (Aa 15 (rsT 4 (rcH h Ab0 fun y8 h=>rsT 1 (rnW (kQ h (fun _ h=>Ae (Ac (tr_ (jS h)))) fun _ h=>skW (Ab (Ab (Aa 21 (rsT 4 (rcH h Ui fun y13 h=>rsT 1 (rnW (kQ h (fun _ h=>Ae (Ac (tr_ (jS h)))) fun _ h=>skW (Ae (Ac (jS h)))))))))))))))))))))
def Ia (a0:Int):Option Bool :=
 (cond (decide (97<=a0))
  (some (decide (a0<=122)))
  (some false)).bind fun u0 =>
some u0
theorem Rh (h:Ia bA=some cA):cK 77 [.int .u8 bA] (An cA):=by
 exact cO Tryz.func77 (Ae (sqF h (fun u0=>sT [(2,.bool u0)] []) (fun _ h=>Aa 9 (rsT 3 (kR h 5 (fun _ h=>rsT 4 (Ap (tn_ (jE [])))) fun _ h=>rsT 4 (Ap (tn_ (jE [])))))) fun u0 h=>Ac (jS h)))
def Ly  : Option (List ByteArray) :=
 some ([(⟨#[]⟩:ByteArray),(⟨#[105,100]⟩:ByteArray),(⟨#[115,119,97,112]⟩:ByteArray),(⟨#[99,111,112,121]⟩:ByteArray),(⟨#[100,105,115,99,97,114,100]⟩:ByteArray),(⟨#[97,100,100]⟩:ByteArray),(⟨#[122,101,114,111]⟩:ByteArray),(⟨#[115,99,97,108,101]⟩:ByteArray),(⟨#[100,101,108,97,121]⟩:ByteArray),(⟨#[99,111,99,111,112,121]⟩:ByteArray),(⟨#[99,111,100,105,115,99,97,114,100]⟩:ByteArray),(⟨#[99,111,97,100,100]⟩:ByteArray),(⟨#[99,111,122,101,114,111]⟩:ByteArray),(⟨#[99,111,115,99,97,108,101]⟩:ByteArray),(⟨#[99,111,100,101,108,97,121]⟩:ByteArray)])
def Pf (r:List ByteArray):RV:=⟨false,[(false,[.new 9 .str r])]⟩
theorem Wi (h:Ly=some kA):cK 105 [] (Pf kA):=by
 exact cO Tryz.func105 (Ae (Ae (Ac (jR h [.own (oi 1 2) .str 0 15] (Db rfl (Cv kr rfl) E6)))))
def En (y4:List ByteArray) (a0:ByteArray) (u0:Nat):Option (Ctl Nat (Ctl Unit Int)) :=
 cond (decide ((u0:Int)<(y4.length:Int)))
 ((y4[u0]?).bind fun x11 =>
 cond (x11.toList==a0.toList)
  (some (Ctl.out (Ctl.out (u0:Int))))
  (og (u0+1<4611686018427387904) <|
  some (Ctl.next (u0+1))))
 (some (Ctl.out (Ctl.next ())))
def Mf (a0:ByteArray):Option Int :=
 Di ((Ly).bind fun y4 =>
 Aq (fun s_:Nat=>En y4 a0 s_) 4611686018427387904 0) fun _ =>
some 17
theorem Adi (h:Mf gA=some bA):cK 78 [.str gA] (A3 bA):=by
 refine cO Tryz.func78 (Ae (sqC h (fun _=>sT [] []) ?_ fun _ h=>Ae (Ac (jS h))));intro _ h hk2;refine Ab (Aa 5 (rcH h Wi fun y4 h=>rsT 2 (rnW (Ad (lpF h (fun u0=>sT [(0,.str gA),(5,.own (oi 0 1) .str 0 y4.length),(6,an y4.length),(7,an u0)] [(oi 0 1,.arr 9 .str y4)]) (Ag [(oi 0 1,oi 80 2)]) ?_)))));intro n_ u0 c_ h hn5;refine Ae (Ab (kQ h (fun _ h=>skW (Ab (Ad (Ab (Aa 8 (rsT 1 ?_)))))) fun _ h=>lxT (have h:=jO h hn5;jC [])));obtain ⟨x11,e11,h⟩:=Ah h;exact zO (oi 0 1) .str y4.length (Ai e11) (rsl (.str x11) (H5 (i:=oi 0 1) (j:=u0) (k:=0) (e:=9) (t:=.str) (xs:=y4) kr kr e11 kr) (rsT 2 (rnW (Ae (kQ h (fun _ h=>Ae (Ac (br_ (tr_ (tr_ (br_ (tr_ (have h:=jO h hn5;(have h:=jO h hk2;jS h))))))))) fun _ h=>Az (bn_ (tn_ (wr_ (Aa 13 (raH h fun h=>rsT 1 (Ap (tn_ (jL [])))))))))))))
def K0 (a0:Int):Option Bool :=
 (cond (decide (48<=a0))
  (some (decide (a0<=57)))
  (some false)).bind fun u0 =>
some u0
theorem Ze (h:K0 bA=some cA):cK 79 [.int .u8 bA] (An cA):=by
 exact cO Tryz.func79 (Ae (sqF h (fun u0=>sT [(2,.bool u0)] []) (fun _ h=>Aa 9 (rsT 3 (kR h 5 (fun _ h=>rsT 4 (Ap (tn_ (jE [])))) fun _ h=>rsT 4 (Ap (tn_ (jE [])))))) fun u0 h=>Ac (jS h)))
def I3 (a0:ByteArray) (u0:Nat):Option (Ctl Nat (Ctl Unit Bool)) :=
 cond (decide ((u0:Int)<(a0.size:Int)))
 (((a0[u0]?).bind fun x21 =>
  (Ia (x21.toNat:Int)).bind fun y22 =>
  cond (!y22)
   ((a0[u0]?).bind fun x24 =>
   (K0 (x24.toNat:Int)).bind fun y25 =>
   some (!y25))
   (some false)).bind fun u1 =>
 cond u1
  (some (Ctl.out (Ctl.out false)))
  (og (u0+1<4611686018427387904) <|
  some (Ctl.next (u0+1))))
 (some (Ctl.out (Ctl.next ())))
def Mo (a0:ByteArray):Option Bool :=
 ((B0 (a0.size:Int) 1 8).bind fun y4 =>
 cond (!y4)
  (some true)
  ((a0[0]?).bind fun x6 =>
  (Ia (x6.toNat:Int)).bind fun y7 =>
  cond (!y7)
   (some true)
   ((Mf a0).bind fun y9 =>
   some (y9 !=17)))).bind fun u0 =>
cond u0
 (some false)
 (Di (Aq (fun s_:Nat=>I3 a0 s_) 4611686018427387904 0) fun _ =>
 some true)
theorem Abp (h:Mo gA=some cA):cK 43 [.str gA] (An cA):=by
 refine cO Tryz.func43 (Ae (Ab (sqF h (fun u1=>sT [(0,.str gA),(18,.bool u1)] []) ?_ ?_)))
 ·intro _ h;refine Aa 17 (rsT 2 (rcH h C1 fun y4 h=>rsT 2 ?_));rcases A0 h with ⟨q5,h⟩|⟨q5,h⟩
  ·exact rq 8 q5 (rsT 10 (Ap (tn_ (jE []))))
  refine rq 8 q5 (rsT 1 ?_);obtain ⟨x6,e6,h⟩:=Ah h;refine rs0 (.int .u8 (x6.toNat:Int)) (On (s:=gA) (k:=.i64) (m:=0) kr kr (by decide) rfl e6) (rcH h Rh fun y7 h=>rsT 3 ?_);rcases A0 h with ⟨q8,h⟩|⟨q8,h⟩
  ·exact rq 14 q8 (rsT 4 (Ap (tn_ (jE []))))
  exact rq 14 q8 (rsT 1 (rcH h Adi fun y9 h=>rsT 2 (Ap (tn_ (jE [])))))
 intro u1 h;refine kQ h (fun _ h=>Ae (Ac (tr_ (jS h)))) fun _ h=>skW (sqC h (fun _=>sT [] []) ?_ fun _ h=>Ae (Ac (jS h)))
 intro _ h hk12;refine Ae (Ad (lpF h (fun u0=>sT [(0,.str gA),(20,an gA.size),(21,an u0)] []) (Ag []) ?_));intro n_ u0 c_ h hn14;refine Ae (Ab (kQ h (fun _ h=>skW (Ab (Ad (Ae (sqF h (fun u2=>sT [(0,.str gA),(20,an gA.size),(21,an u0),(35,.bool u2)] []) ?_ fun u2 h=>kQ h (fun _ h=>Ae (Ac (br_ (tr_ (tr_ (br_ (tr_ (have h:=jO h hn14;(have h:=jO h hk12;jS h))))))))) fun _ h=>Az (bn_ (tn_ (wr_ (Aa 4 (raH h fun h=>rsT 1 (Ap (tn_ (jL []))))))))))))) fun _ h=>lxT (have h:=jO h hn14;jC [])));intro _ h;refine Aa 17 (rsT 2 ?_);obtain ⟨x21,e21,h⟩:=Ah h;refine rs0 (.int .u8 (x21.toNat:Int)) (On (s:=gA) (k:=.i64) (m:=(u0:Int)) kr kr (Cu _) rfl e21) (rcH h Rh fun y22 h=>rsT 2 ?_);rcases A0 h with ⟨q23,h⟩|⟨q23,h⟩
 ·refine rq 29 q23 (rsT 2 ?_);obtain ⟨x24,e24,h⟩:=Ah h;exact rs0 (.int .u8 (x24.toNat:Int)) (On (s:=gA) (k:=.i64) (m:=(u0:Int)) kr kr (Cu _) rfl e24) (rcH h Ze fun y25 h=>rsT 2 (Ap (tn_ (jE []))))
 exact rq 29 q23 (rsT 6 (Ap (tn_ (jE []))))
def Km (a0:Int):Option Bool :=
 (B0 a0 3 14).bind fun y3 =>
some y3
theorem Tl (h:Km bA=some cA):cK 112 [ai bA] (An cA):=by
 exact cO Tryz.func112 (Ae (Ab (Aa 5 (rsT 1 (rcH h C1 fun y3 h=>rsT 1 (rnW (Ac (jS h))))))))
def G2 (a0:Int):Option Bool :=
 (cond (a0==7)
  (some true)
  (some (a0==13))).bind fun u0 =>
some u0
theorem Qi (h:G2 bA=some cA):cK 107 [ai bA] (An cA):=by
 exact cO Tryz.func107 (Ae (sqF h (fun u0=>sT [(2,.bool u0)] []) (fun _ h=>Aa 9 (rsT 3 (kR h 5 (fun _ h=>rsT 4 (Ap (tn_ (jE [])))) fun _ h=>rsT 4 (Ap (tn_ (jE [])))))) fun u0 h=>Ac (jS h)))
def Fx (a0 a1:Int):Option Bool :=
 (G2 a0).bind fun y4 =>
cond y4
 ((B0 a1 0 96).bind fun y7 =>
 some y7)
 (some (a1==0))
theorem Po (h:Fx bA bB=some cA):cK 114 [ai bA,ai bB] (An cA):=by
 exact cO Tryz.func114 (Ae (Ab (Ab (Aa 4 (rsT 1 (rcH h Qi fun y4 h=>rnW (kQ h (fun _ h=>Ab (Aa 7 (rsT 1 (rcH h C1 fun y7 h=>rsT 1 (rnW (Ac (tr_ (jS h)))))))) fun _ h=>skW (Ae (Ac (jS h))))))))))
def F3 (u0 u1:Int) (u2:ByteArray):Option (Int×Int×Bool) :=
 cond (!(u2.toList==(⟨#[]⟩:ByteArray).toList))
 (some (0,0,false))
 (cond (u0==1)
  ((B0 u1 0 12).bind fun y9 =>
  some (u1,u1,y9))
  (cond (u0==2)
   (some (2,2,u1==0))
   ((Km u0).bind fun y14 =>
   cond y14
    ((Dj u0).bind fun y17 =>
    (Fx u0 u1).bind fun y18 =>
    some (y17.1,y17.2,y18))
    (some (0,0,false)))))
def Hw (r:Int×Int×Bool):RV:=⟨true,[(true,[.sc (.int .i64 r.1),.sc (.int .i64 r.2.1)]),(false,[.sc (.bool r.2.2)])]⟩
theorem V5 (h:F3 bA bB gA=some lA):cK 86 [.agg [ai bA,ai bB,.str gA]] (Hw lA):=by
 exact cO Tryz.func86 (Ae (Ab (Ad (Ae (kQ h (fun _ h=>Ae (Ac (br_ (tr_ (jS h))))) fun _ h=>Ae (kQ h (fun _ h=>Ab (Ao 22 (dsT 7 (dcH h C1 fun y9 h=>Oz (oi 2 2) (oi 2 2) (.cells 81 [ai bB,ai bB]) kr (ds0 (.bool y9) kr (Co (As kr) (tn_ (wr_ (Ac (br_ (tr_ (jS h)))))))))))) fun _ h=>Ae (kQ h (fun _ h=>Ab (Ao 22 (dsT 4 (Oz (oi 2 2) (oi 2 2) (.cells 81 [ai 2,ai 2]) kr (ds0 (.bool (bB==0)) kr (Co (As kr) (tn_ (wr_ (Ac (br_ (tr_ (jS h)))))))))))) fun _ h=>Ab (Aa 20 (rsT 2 (rcH h Tl fun y14 h=>rsT 1 (rnW (kQ h (fun _ h=>Ab (Ao 30 (ds0 (.box (oi 1 1) 0) kr (dsl (ai bA) kr (dcH h Gl fun y17 h=>dsT 4 (dcH h Po fun y18 h=>Oz (oi 2 2) (oi 2 2) (.cells 81 [ai y17.1,ai y17.2]) kr (ds0 (.bool y18) kr (Co (As kr) (tn_ (wr_ (Ac (br_ (tr_ (jS h)))))))))))))) fun _ h=>Az (bn_ (tn_ (wr_ (Ae (Ac (jS h))))))))))))))))))
def B1 (a0:ByteArray) (u0:Nat):Option (Ctl Nat (Ctl Unit Bool)) :=
 cond (decide ((u0:Int)<(a0.size:Int)))
 (((a0[u0]?).bind fun x19 =>
  cond (decide ((x19.toNat:Int)<97))
   ((a0[u0]?).bind fun x21 =>
   cond (decide ((x21.toNat:Int)<48))
    (some true)
    ((a0[u0]?).bind fun x23 =>
    some (decide (57<(x23.toNat:Int)))))
   ((a0[u0]?).bind fun x24 =>
   cond (decide (122<(x24.toNat:Int)))
    ((a0[u0]?).bind fun x26 =>
    cond (decide ((x26.toNat:Int)<48))
     (some true)
     ((a0[u0]?).bind fun x28 =>
     some (decide (57<(x28.toNat:Int)))))
    (some false))).bind fun u1 =>
 cond u1
  (some (Ctl.out (Ctl.out false)))
  (og (u0+1<4611686018427387904) <|
  some (Ctl.next (u0+1))))
 (some (Ctl.out (Ctl.next ())))
def Pj (a0:ByteArray):Option Bool :=
 ((B7 (a0.size:Int) 1 8).bind fun y4 =>
 cond (!y4)
  (some true)
  ((a0[0]?).bind fun x6 =>
  cond (decide ((x6.toNat:Int)<97))
   (some true)
   ((a0[0]?).bind fun x8 =>
   some (decide (122<(x8.toNat:Int)))))).bind fun u0 =>
cond u0
 (some false)
 (Di (Aq (fun s_:Nat=>B1 a0 s_) 4611686018427387904 1) fun _ =>
 some true)
theorem Aa7 (h:Pj gA=some cA):cK 67 [.str gA] (An cA):=by
 refine cO Tryz.func67 (Ae (Ab (sqF h (fun u1=>sT [(0,.str gA),(17,.bool u1)] []) ?_ ?_)))
 ·intro _ h;refine Aa 16 (rsT 2 (rcH h Cl fun y4 h=>rsT 2 ?_));rcases A0 h with ⟨q5,h⟩|⟨q5,h⟩
  ·exact rq 8 q5 (rsT 9 (Ap (tn_ (jE []))))
  refine rq 8 q5 (rsT 1 ?_);obtain ⟨x6,e6,h⟩:=Ah h;refine rs0 (.int .u8 (x6.toNat:Int)) (On (s:=gA) (k:=.i64) (m:=0) kr kr (by decide) rfl e6) (rsT 3 ?_);rcases A0 h with ⟨q7,h⟩|⟨q7,h⟩
  ·exact rq 13 q7 (rsT 4 (Ap (tn_ (jE []))))
  refine rq 13 q7 (rsT 1 ?_);obtain ⟨x8,e8,h⟩:=Ah h;exact rs0 (.int .u8 (x8.toNat:Int)) (On (s:=gA) (k:=.i64) (m:=0) kr kr (by decide) rfl e8) (rsT 2 (Ap (tn_ (jE []))))
 intro u1 h;refine kQ h (fun _ h=>Ae (Ac (tr_ (jS h)))) fun _ h=>skW (sqC h (fun _=>sT [] []) ?_ fun _ h=>Ae (Ac (jS h)))
 intro _ h hk11;refine Ae (Ad (lpF h (fun u0=>sT [(0,.str gA),(3,an u0)] []) (Ag []) ?_));intro n_ u0 c_ h hn13;refine Ab (Ae (kQ h (fun _ h=>skW (Ab (Ad (sqF h (fun u2=>sT [(0,.str gA),(3,an u0),(45,.bool u2)] []) ?_ fun u2 h=>kQ h (fun _ h=>Ae (Ac (br_ (tr_ (tr_ (br_ (tr_ (have h:=jO h hn13;(have h:=jO h hk11;jS h))))))))) fun _ h=>Az (bn_ (tn_ (wr_ (Aa 5 (rsT 1 (raH h fun h=>rsT 1 (Ap (tn_ (jL []))))))))))))) fun _ h=>lxT (have h:=jO h hn13;jC [])));intro _ h;refine Aa 28 (rsT 2 ?_);obtain ⟨x19,e19,h⟩:=Ah h;refine rs0 (.int .u8 (x19.toNat:Int)) (On (s:=gA) (k:=.i64) (m:=(u0:Int)) kr kr (Cu _) rfl e19) (rsT 2 ?_);rcases A0 h with ⟨q20,h⟩|⟨q20,h⟩
 ·refine rq 28 q20 (rsT 8 ?_);obtain ⟨x21,e21,h⟩:=Ah h;refine rs0 (.int .u8 (x21.toNat:Int)) (On (s:=gA) (k:=.i64) (m:=(u0:Int)) kr kr (Cu _) rfl e21) (rsT 2 ?_);rcases A0 h with ⟨q22,h⟩|⟨q22,h⟩
  ·exact rq 39 q22 (rsT 6 (Ap (tn_ (jE []))))
  refine rq 39 q22 (rsT 2 ?_);obtain ⟨x23,e23,h⟩:=Ah h;exact rs0 (.int .u8 (x23.toNat:Int)) (On (s:=gA) (k:=.i64) (m:=(u0:Int)) kr kr (Cu _) rfl e23) (rsT 3 (Ap (tn_ (jE []))))
 refine rq 28 q20 (rsT 2 ?_);obtain ⟨x24,e24,h⟩:=Ah h;refine rs0 (.int .u8 (x24.toNat:Int)) (On (s:=gA) (k:=.i64) (m:=(u0:Int)) kr kr (Cu _) rfl e24) (rsT 3 ?_);rcases A0 h with ⟨q25,h⟩|⟨q25,h⟩
 ·refine rq 34 q25 (rsT 2 ?_);obtain ⟨x26,e26,h⟩:=Ah h;refine rs0 (.int .u8 (x26.toNat:Int)) (On (s:=gA) (k:=.i64) (m:=(u0:Int)) kr kr (Cu _) rfl e26) (rsT 2 ?_);rcases A0 h with ⟨q27,h⟩|⟨q27,h⟩
  ·exact rq 39 q27 (rsT 6 (Ap (tn_ (jE []))))
  refine rq 39 q27 (rsT 2 ?_);obtain ⟨x28,e28,h⟩:=Ah h;exact rs0 (.int .u8 (x28.toNat:Int)) (On (s:=gA) (k:=.i64) (m:=(u0:Int)) kr kr (Cu _) rfl e28) (rsT 3 (Ap (tn_ (jE []))))
 exact rq 34 q25 (rsT 5 (rs0 (.tup []) (Zl kr) (rs0 (.tup []) (Zl kr) (rs0 (.tup []) (Zl kr) (rs0 (.tup []) (Zl kr) (rsT 2 (Ap (tn_ (jE [])))))))))
def Le  : Option (List ByteArray) :=
 some ([(⟨#[105,100]⟩:ByteArray),(⟨#[115,119,97,112]⟩:ByteArray),(⟨#[99,111,112,121]⟩:ByteArray),(⟨#[100,105,115,99,97,114,100]⟩:ByteArray),(⟨#[97,100,100]⟩:ByteArray),(⟨#[122,101,114,111]⟩:ByteArray),(⟨#[115,99,97,108,101]⟩:ByteArray),(⟨#[100,101,108,97,121]⟩:ByteArray),(⟨#[99,111,99,111,112,121]⟩:ByteArray),(⟨#[99,111,100,105,115,99,97,114,100]⟩:ByteArray),(⟨#[99,111,97,100,100]⟩:ByteArray),(⟨#[99,111,122,101,114,111]⟩:ByteArray),(⟨#[99,111,115,99,97,108,101]⟩:ByteArray),(⟨#[99,111,100,101,108,97,121]⟩:ByteArray)])
theorem T7 (h:Le=some kA):cK 69 [] (Pf kA):=by
 exact cO Tryz.func69 (Ae (Ae (Ac (jR h [.own (oi 1 2) .str 0 14] (Db rfl (Cv kr rfl) E6)))))
def Em (a0:List ByteArray) (a1:ByteArray) (u0:Nat):Option (Ctl Nat (Ctl Unit Bool)) :=
 cond (decide ((u0:Int)<(a0.length:Int)))
 ((a0[u0]?).bind fun x10 =>
 cond (x10.toList==a1.toList)
  (some (Ctl.out (Ctl.out true)))
  (og (u0+1<4611686018427387904) <|
  some (Ctl.next (u0+1))))
 (some (Ctl.out (Ctl.next ())))
def Mg (a0:List ByteArray) (a1:ByteArray):Option Bool :=
 Di (Aq (fun s_:Nat=>Em a0 a1 s_) 4611686018427387904 0) fun _ =>
some false
theorem Acw (h:Mg kA gA=some cA):cK 68 [.tree .str kA,.str gA] (An cA):=by
 exact cO Tryz.func68 (Ae (sqC h (fun _=>sT [] []) (fun _ h hk2=>Ae (Ad (lpF h (fun u0=>sT [(1,.str gA),(7,.tree .str kA),(8,an kA.length),(9,an u0)] []) (Ag []) (fun n_ u0 c_ h hn4=>Ae (Ab (kQ h (fun _ h=>skW (Ab (Ad (Ab (Aa 6 (riH .str h fun x10 _ h=>rsT 2 (rnW (Ae (kQ h (fun _ h=>Ae (Ac (br_ (tr_ (tr_ (br_ (tr_ (have h:=jO h hn4;(have h:=jO h hk2;jS h))))))))) fun _ h=>Az (bn_ (tn_ (wr_ (Aa 11 (raH h fun h=>rsT 1 (Ap (tn_ (jL []))))))))))))))))) fun _ h=>lxT (have h:=jO h hn4;jC []))))))) fun _ h=>Ae (Ac (jS h))))
def Ma (a0:ByteArray):Option Bool :=
 ((Pj a0).bind fun y3 =>
 cond y3
  ((Le).bind fun y5 =>
  (Mg y5 a0).bind fun y6 =>
  some (!y6))
  (some false)).bind fun u0 =>
some u0
theorem Acm (h:Ma gA=some cA):cK 36 [.str gA] (An cA):=by
 refine cO Tryz.func36 (Ae (sqF h (fun u0=>sT [(2,.bool u0)] []) ?_ fun u0 h=>Ac (jS h)));intro _ h;refine Aa 11 (rsT 1 (rcH h Aa7 fun y3 h=>rsT 1 ?_));rcases A0 h with ⟨q4,h⟩|⟨q4,h⟩
 ·exact rq 5 q4 (rcH h T7 fun y5 h=>rsT 1 (rcG h [.own (oi 96 5) .str 0 y5.length,.str gA] Acw (Al (Bl (e:=9) kr rfl) (Al kr Bg)) fun y6 h=>rsT 3 (Ap (tn_ (jE [])))))
 exact rq 5 q4 (rsT 6 (Ap (tn_ (jE []))))
end


section
open Go.RowKit Go.Deep
set_option maxRecDepth 4000
set_option maxHeartbeats 4800000
variable {bA bB bC bD bE:Int} {cA:Bool} {lA:Int×Int×Bool} {hA:List (Int×Int×ByteArray)} {gA:ByteArray} {dA:LL}
def Lw (u0 u1:Int):Option Bool :=
 (cond (decide (u0<=12))
  (some (decide (u1<=12)))
  (some false)).bind fun u2 =>
some u2
theorem V3 (h:Lw bA bB=some cA):cK 145 [.agg [ai bA,ai bB]] (An cA):=by
 exact cO Tryz.func145 (Ae (sqF h (fun u2=>sT [(2,.bool u2)] []) (fun _ h=>Aa 12 (rsT 4 (kR h 6 (fun _ h=>rsT 5 (Ap (tn_ (jE [])))) fun _ h=>rsT 5 (Ap (tn_ (jE [])))))) fun u2 h=>Ac (jS h)))
def F1 (a0 u0:Int) (u1 u2 u3:Int):Option (Int×Int×Bool) :=
 cond (a0==15)
 (some (u0,u3,u1==u2))
 ((Lw (wI (u0+u2)) (wI (u1+u3))).bind fun y8 =>
 some (wI (u0+u2),wI (u1+u3),y8))
theorem Ve (h:F1 bA bB bC bD bE=some lA):cK 111 [ai bA,.agg [ai bB,ai bC],.agg [ai bD,ai bE]] (Hw lA):=by
 exact cO Tryz.func111 (Ae (Ab (Ae (kQ h (fun _ h=>Ab (Ao 19 (dsT 10 (Oz (oi 6 3) (oi 6 3) (.cells 81 [ai bB,ai bE]) kr (ds0 (.bool (bC==bD)) kr (Co (As kr) (tn_ (wr_ (Ac (tr_ (jS h))))))))))) fun _ h=>skW (Ae (Ab (Ao 25 (dsl (.agg [ai (wI (bB+bD)),ai (wI (bC+bE))]) kr (dsl (.agg [ai (wI (bB+bD)),ai (wI (bC+bE))]) kr (dcH h V3 fun y8 h=>Oz (oi 6 3) (oi 6 3) (.cells 81 [ai (wI (bB+bD)),ai (wI (bC+bE))]) kr (ds0 (.bool y8) kr (Co (As kr) (tn_ (wr_ (Ac (jS h))))))))))))))))
def Kb (a0:List (Int×Int×ByteArray)) (u1:Nat) (u0:List (Int×Int)):Option (Ctl (Nat×(List (Int×Int))) (Ctl (List (Int×Int)) (Int×Int×Bool))) :=
 cond (decide ((u1:Int)<(a0.length:Int)))
 (Di ((a0[u1]?).bind fun x16 =>
  (cond (x16.1 !=15)
    (some (x16.1 !=16))
    (some false)).bind fun u2 =>
  cond u2
   ((F3 x16.1 x16.2.1 x16.2.2).bind fun y22 =>
   cond (!y22.2.2)
    (some (Ctl.out (Ctl.out (Ctl.out (0,0,false)))))
    (og (u0.length+1<=1073741824/\(u0.length+1)*16<=140737488355328) <|
    some (Ctl.next (u0++([(y22.1,y22.2.1)])))))
   ((cond (x16.2.1 !=0)
     (some true)
     (cond (!(x16.2.2.toList==(⟨#[]⟩:ByteArray).toList))
      (some true)
      (some (decide ((u0.length:Int)<2))))).bind fun u3 =>
   cond u3
    (some (Ctl.out (Ctl.out (Ctl.out (0,0,false)))))
    ((Cb u0 (wI ((wI ((u0.length:Int) - 1)) - 1))).bind fun x37 =>
    (Cb u0 (wI ((wI ((u0.length:Int) - 1)) - 1))).bind fun x38 =>
    (Cb u0 (wI ((u0.length:Int) - 1))).bind fun x39 =>
    (Cb u0 (wI ((u0.length:Int) - 1))).bind fun x40 =>
    (F1 x16.1 x38.1 x38.2 x40.1 x40.2).bind fun y41 =>
    cond (!y41.2.2)
     (some (Ctl.out (Ctl.out (Ctl.out (0,0,false)))))
     (og ((0:Int)<=0/\0<=wI ((wI ((u0.length:Int) - 1)) - 1)/\wI ((wI ((u0.length:Int) - 1)) - 1)<=(u0.length:Int)) <|
     og (((u0.take ((wI ((wI ((u0.length:Int) - 1)) - 1)).toNat)).length)+1<=1073741824/\(((u0.take ((wI ((wI ((u0.length:Int) - 1)) - 1)).toNat)).length)+1)*16<=140737488355328) <|
     some (Ctl.next ((u0.take ((wI ((wI ((u0.length:Int) - 1)) - 1)).toNat))++([(y41.1,y41.2.1)]))))))) fun u4 =>
 og (u1+1<4611686018427387904) <|
 some (Ctl.next (u1+1,u4)))
 (some (Ctl.out (Ctl.next u0)))
def C9 (a0:List (Int×Int×ByteArray)):Option (Int×Int×Bool) :=
 (B0 (a0.length:Int) 1 400).bind fun y4 =>
cond (!y4)
 (some (0,0,false))
 (Di (Aq (fun s_:Nat×(List (Int×Int))=>Kb a0 s_.1 s_.2) 4611686018427387904 (0,[])) fun u0 =>
 (u0[0]?).bind fun x50 =>
 some (x50.1,x50.2,(u0.length:Int)==1))
theorem Ln (h:C9 hA=some lA):cK 85 [.tree Y8 hA,.fn 86 []] (Hw lA):=by
 refine cO Tryz.func85 (Ae (Ab (Ab (Aa 7 (rsT 2 (rcH h C1 fun y4 h=>rsT 1 (rnW (kQ h (fun _ h=>Ae (Ac (tr_ (jS h)))) fun _ h=>skW (Ae (sqC h (fun u1=>sT [(4,.box (oi 0 1) 0),(6,.own (oi 1 1) Y3 0 u1.length)] [(oi 0 1,.cells 81 [ai 0,ai 0]),(oi 1 1,.arr 81 Y3 u1)]) ?_ ?_))))))))))
 ·intro _ h hk8;refine Ae (Ad (lpF h (fun (u2,u0)=>sT [(1,.fn 86 []),(4,.box (oi 0 1) 0),(6,.own (oi 1 1) Y3 0 u0.length),(20,.tree Y8 hA),(21,an hA.length),(22,an u2)] [(oi 0 1,.cells 81 [ai 0,ai 0]),(oi 1 1,.arr 81 Y3 u0)]) (Ag [(oi 0 1,oi 4 1),(oi 1 1,oi 19 7)]) ?_));rintro n_ ⟨u2,u0⟩ c_ h hn10
  (try dsimp only at h);refine Ae (Ab (kQ h (fun q13 h=>?_) fun q13 h=>?_))
  ·have q13_:=of_decide_eq_true q13;refine skW (sqC h (fun u3=>sT [(1,.fn 86 []),(4,.box (oi 0 1) 0),(6,.own (oi 1 1) Y3 0 u3.length),(20,.tree Y8 hA),(21,an hA.length),(22,an u2)] [(oi 0 1,.cells 81 [ai 0,ai 0]),(oi 1 1,.arr 81 Y3 u3)]) ?_ ?_)
   ·intro _ h hk14;refine Ad (Ab (Aa 7 (riH Y8 h fun x16 _ h=>rsB 3 (rnW (Ab (sqF h (fun u4=>sT [(1,.fn 86 []),(4,.box (oi 0 1) 0),(6,.own (oi 1 1) Y3 0 u0.length),(8,.box (oi 2 1) 0),(20,.tree Y8 hA),(21,an hA.length),(22,an u2),(33,.bool u4)] [(oi 0 1,.cells 81 [ai 0,ai 0]),(oi 1 1,.arr 81 Y3 u0),(oi 2 1,.cells 117 [ai x16.1,ai x16.2.1,.str x16.2.2])]) (fun _ h=>Aa 15 (rsT 4 (kR h 29 (fun _ h=>rsT 4 (Ap (tn_ (jE [(oi 2 1,oi 8 5)])))) fun _ h=>rsT 4 (Ap (tn_ (jE [(oi 2 1,oi 8 5)])))))) ?_))))));intro u4 h
    (try dsimp only at h);refine kQ h (fun _ h=>?_) fun _ h=>?_
    ·refine Ab (Aa 11 (rsT 2 (rcH h V5 fun y22 h=>rsB 6 (rnW (Ab (Ae (kQ h (fun _ h=>?_) fun _ h=>?_)))))))
     ·refine Ae (Ac (tr_ (tr_ (br_ (tr_ (tr_ (br_ (tr_ ?_))))))));have h:=jO h hk14
      (try dsimp only at h);have h:=jO h hn10
      (try dsimp only at h);have h:=jO h hk8
      (try dsimp only at h);exact jS h
     refine skW (Ab (Aa 18 (rsB 3 ?_)));obtain ⟨g28,h⟩:=Ak h;exact rs2 (.own (oi 1 16) Y3 0 ((u0++([(y22.1,y22.2.1)])).length)) (oi 1 1) (oi 1 16) (.arr 81 Y3 (u0++([(y22.1,y22.2.1)]))) (P5 (t:=Y3) (t':=Y3) (xs:=u0) (ys:=[(y22.1,y22.2.1)]) (zs:=u0++([(y22.1,y22.2.1)])) (j:=oi 1 1) (len:=u0.length) (c:=.own (oi 45 15) Y3 0 1) kr kr rfl kr (Jf (e:=81) kr rfl) rfl g28) (rsT 1 (rnW (Dv (te_ (be_ (tn_ (jC [(oi 1 1,oi 1 16)])))))))
    refine skW (Ab (sqF h (fun u5=>sT [(1,.fn 86 []),(4,.box (oi 0 1) 0),(6,.own (oi 1 1) Y3 0 u0.length),(8,.box (oi 2 1) 0),(20,.tree Y8 hA),(21,an hA.length),(22,an u2),(59,.bool u5)] [(oi 0 1,.cells 81 [ai 0,ai 0]),(oi 1 1,.arr 81 Y3 u0),(oi 2 1,.cells 117 [ai x16.1,ai x16.2.1,.str x16.2.2])]) (fun _ h=>Aa 15 (rsT 4 (kR h 50 (fun _ h=>rsT 9 (Ap (tn_ (jE [])))) fun _ h=>rsT 5 (kR h 55 (fun _ h=>rsT 4 (Ap (tn_ (jE [])))) fun _ h=>rsT 4 (Ap (tn_ (jE []))))))) ?_));intro u5 h
    (try dsimp only at h);refine kQ h (fun _ h=>?_) fun _ h=>?_
    ·refine Ae (Ac (tr_ (br_ (tr_ (tr_ (br_ (tr_ ?_)))))));have h:=jO h hk14
     (try dsimp only at h);have h:=jO h hn10
     (try dsimp only at h);have h:=jO h hk8
     (try dsimp only at h);exact jS h
    refine skW (Ae (Ab (Ao 24 (dsT 5 ?_))));obtain ⟨x37,f37,h⟩:=Ah h;obtain ⟨p37,b37,e37⟩:=Ar f37;refine ds0 (.elt (oi 1 1) ((wI ((wI ((u0.length:Int) - 1)) - 1)).toNat) 0) (zo (t:=Y3) (o:=oi 1 1) (len:=u0.length) (k:=.i64) (m:=wI ((wI ((u0.length:Int) - 1)) - 1)) p37 (Ai e37)) ?_;obtain ⟨x38,f38,h⟩:=Ah h;obtain ⟨p38,b38,e38⟩:=Ar f38;refine dsl (.agg [ai x38.1,ai x38.2]) (H5 (i:=oi 1 1) (j:=(wI ((wI ((u0.length:Int) - 1)) - 1)).toNat) (k:=0) (e:=81) (t:=Y3) (xs:=u0) kr kr e38 kr) (dz0 (.own (oi 1 1) Y3 0 u0.length) (dz0 (ai (wI ((u0.length:Int) - 1))) ?_));obtain ⟨x39,f39,h⟩:=Ah h;obtain ⟨p39,b39,e39⟩:=Ar f39;refine ds0 (.elt (oi 1 1) ((wI ((u0.length:Int) - 1)).toNat) 0) (zo (t:=Y3) (o:=oi 1 1) (len:=u0.length) (k:=.i64) (m:=wI ((u0.length:Int) - 1)) p39 (Ai e39)) ?_;obtain ⟨x40,f40,h⟩:=Ah h;obtain ⟨p40,b40,e40⟩:=Ar f40;refine dsl (.agg [ai x40.1,ai x40.2]) (H5 (i:=oi 1 1) (j:=(wI ((u0.length:Int) - 1)).toNat) (k:=0) (e:=81) (t:=Y3) (xs:=u0) kr kr e40 kr) (dcH h Ve fun y41 h=>dz0 (.tup [.agg [ai y41.1,ai y41.2.1],.bool y41.2.2]) (dz0 (.agg [ai y41.1,ai y41.2.1]) (dz0 (.bool y41.2.2) (ds1 (.box (oi 12 21) 0) (oi 12 21) (.cells 81 [ai 0,ai 0]) kr (Oz (oi 12 21) (oi 12 21) (.cells 81 [ai y41.1,ai y41.2.1]) kr (dz0 (.bool y41.2.2) (Co (As kr) (tn_ (wr_ (Ab (Ae (kQ h (fun _ h=>?_) fun _ h=>?_))))))))))))
    ·refine Ae (Ac (tr_ (br_ (tr_ (tr_ (br_ (tr_ ?_)))))));have h:=jO h hk14
     (try dsimp only at h);have h:=jO h hn10
     (try dsimp only at h);have h:=jO h hk8
     (try dsimp only at h);exact jS h
    refine skW (Ao 34 (dsT 3 ?_));obtain ⟨g46,h⟩:=Ak h;obtain ⟨g47,h⟩:=Ak h;exact ds0 (.own (oi 1 1) Y3 0 ((wI ((wI ((u0.length:Int) - 1)) - 1)).toNat)) (G5 (t:=Y3) (i:=oi 1 1) (off:=0) (len:=u0.length) (l:=0) (h:=wI ((wI ((u0.length:Int) - 1)) - 1)) kr kr kr rfl g46 rfl oM) (dzl (.agg [ai y41.1,ai y41.2.1]) (ds1 (.own (oi 87 31) Y3 0 1) (oi 87 31) (.arr 81 Y3 ([(y41.1,y41.2.1)])) kr (ds2 (.own (oi 1 32) Y3 0 (((u0.take ((wI ((wI ((u0.length:Int) - 1)) - 1)).toNat))++([(y41.1,y41.2.1)])).length)) (oi 1 1) (oi 1 32) (.arr 81 Y3 ((u0.take ((wI ((wI ((u0.length:Int) - 1)) - 1)).toNat))++([(y41.1,y41.2.1)]))) (Awf (t:=Y3) (t':=Y3) (xs:=u0) (ys:=[(y41.1,y41.2.1)]) (zs:=(u0.take ((wI ((wI ((u0.length:Int) - 1)) - 1)).toNat))++([(y41.1,y41.2.1)])) (j:=oi 1 1) (len:=(wI ((wI ((u0.length:Int) - 1)) - 1)).toNat) (c:=.own (oi 87 31) Y3 0 1) kr kr oM kr (Jf (e:=81) kr rfl) rfl g47) (dz0 (.own (oi 1 32) Y3 0 (((u0.take ((wI ((wI ((u0.length:Int) - 1)) - 1)).toNat))++([(y41.1,y41.2.1)])).length)) (Co (As kr) (bn_ (tn_ (jC [(oi 1 1,oi 1 32)]))))))))
   intro u3 h
   (try dsimp only at h);refine Aa 4 ?_;obtain ⟨g48,h⟩:=Ak h;exact zA g48 (rsT 1 (Ap (tn_ (jL []))))
  have q13_:=of_decide_eq_false q13;refine lxT ?_;have h:=jO h hn10
  (try dsimp only at h);exact jC []
 intro u1 h
 (try dsimp only at h);refine Ab (Aa 10 (rsT 1 ?_));obtain ⟨x50,e50,h⟩:=Ah h;exact rs0 (.elt (oi 1 1) 0 0) (Wn (t:=Y3) (o:=oi 1 1) (len:=u1.length) (k:=.i64) (m:=0) kr kr rfl (by decide) rfl (Ai e50)) (rsl (.agg [ai x50.1,ai x50.2]) (H5 (i:=oi 1 1) (j:=0) (k:=0) (e:=81) (t:=Y3) (xs:=u1) kr kr e50 kr) (rsB 5 (rnW (Ac (jS h)))))
def Fg (u0:List (Int×Int×ByteArray)):Option (Int×Int×Bool) :=
 (C9 u0).bind fun y3 =>
some (y3.1,y3.2.1,y3.2.2)
theorem N1 (h:Fg hA=some lA):cK 46 [.agg [.tree Y8 hA]] (Hw lA):=by
 exact cO Tryz.func46 (Ae (Ab (Aa 11 (rsT 2 (rcH h Ln fun y3 h=>rsB 4 (rnW (Ac (jS h))))))))
def Ja (u0:List (Int×Int×ByteArray)):Option Bool :=
 (Fg u0).bind fun y3 =>
some y3.2.2
theorem R2 (h:Ja hA=some cA):cK 106 [.agg [.tree Y8 hA]] (An cA):=by
 exact cO Tryz.func106 (Ae (Ab (Aa 11 (rsT 1 (rcH h N1 fun y3 h=>rsB 6 (rnW (Ae (Ac (jS h)))))))))
def E0 (u1:List (Int×Int×ByteArray)) (a1:Int) (u0:Nat):Option (Ctl Nat (Ctl Unit Bool)) :=
 cond (decide ((u0:Int)<(u1.length:Int)))
 ((u1[u0]?).bind fun x17 =>
 ((G2 x17.1).bind fun y19 =>
  cond y19
   (some (decide (a1<=x17.2.1)))
   (some false)).bind fun u2 =>
 cond u2
  (some (Ctl.out (Ctl.out false)))
  (og (u0+1<4611686018427387904) <|
  some (Ctl.next (u0+1))))
 (some (Ctl.out (Ctl.next ())))
def Gt (u0:List (Int×Int×ByteArray)) (a1:Int):Option Bool :=
 ((H7 a1).bind fun y4 =>
 cond (!y4)
  (some true)
  ((Ja u0).bind fun y6 =>
  some (!y6))).bind fun u1 =>
cond u1
 (some false)
 (Di (Aq (fun s_:Nat=>E0 u0 a1 s_) 4611686018427387904 0) fun _ =>
 some true)
theorem Tr (h:Gt hA bA=some cA):cK 80 [.agg [.tree Y8 hA],ai bA] (An cA):=by
 refine cO Tryz.func80 (Ae (Ab (sqF h (fun u2=>sT [(1,ai bA),(2,.box (oi 0 1) 0),(14,.bool u2)] [(oi 0 1,.cells 35 [.tree Y8 hA])]) ?_ fun u2 h=>kQ h (fun _ h=>Ae (Ac (tr_ (jS h)))) fun _ h=>skW (sqC h (fun _=>sT [] []) (fun _ h hk9=>Ae (Ad (lpF h (fun u1=>sT [(1,ai bA),(16,.tree Y8 hA),(17,an hA.length),(18,an u1)] []) (Ag []) (fun n_ u1 c_ h hn11=>Ae (Ab (kQ h (fun _ h=>skW (Ab (Ad (Ab (Aa 7 (riH Y8 h fun x17 _ h=>rsB 3 (rnW (sqF h (fun u3=>sT [(1,ai bA),(16,.tree Y8 hA),(17,an hA.length),(18,an u1),(30,.bool u3)] []) (fun _ h=>Aa 16 (rsT 2 (rcH h Qi fun y19 h=>rsT 1 (kR h 25 (fun _ h=>rsT 5 (Ap (tn_ (jE [])))) fun _ h=>rsT 5 (Ap (tn_ (jE []))))))) fun u3 h=>kQ h (fun _ h=>Ae (Ac (br_ (tr_ (tr_ (br_ (tr_ (have h:=jO h hn11;(have h:=jO h hk9;jS h))))))))) fun _ h=>Az (bn_ (tn_ (wr_ (Aa 4 (raH h fun h=>rsT 1 (Ap (tn_ (jL [])))))))))))))))) fun _ h=>lxT (have h:=jO h hn11;jC []))))))) fun _ h=>Ae (Ac (jS h))))));intro _ h;refine Aa 11 (rsT 1 (rcH h Rd fun y4 h=>rsT 2 ?_));rcases A0 h with ⟨q5,h⟩|⟨q5,h⟩
 ·exact rq 10 q5 (rsT 4 (Ap (tn_ (jE [(oi 0 1,oi 2 1)]))))
 exact rq 10 q5 (rsT 1 (rcH h R2 fun y6 h=>rsT 2 (Ap (tn_ (jE [(oi 0 1,oi 2 1)])))))
def Nz (a0:Int):Option Bool :=
 (cond (a0==8)
  (some true)
  (some (a0==14))).bind fun u0 =>
some u0
theorem Zb (h:Nz bA=some cA):cK 81 [ai bA] (An cA):=by
 exact cO Tryz.func81 (Ae (sqF h (fun u0=>sT [(2,.bool u0)] []) (fun _ h=>Aa 9 (rsT 3 (kR h 5 (fun _ h=>rsT 4 (Ap (tn_ (jE [])))) fun _ h=>rsT 4 (Ap (tn_ (jE [])))))) fun u0 h=>Ac (jS h)))
def Dy (u1:List (Int×Int×ByteArray)) (u0:Nat):Option (Ctl Nat (Ctl Unit Bool)) :=
 cond (decide ((u0:Int)<(u1.length:Int)))
 ((u1[u0]?).bind fun x15 =>
 (Nz x15.1).bind fun y17 =>
 cond y17
  (some (Ctl.out (Ctl.out false)))
  (og (u0+1<4611686018427387904) <|
  some (Ctl.next (u0+1))))
 (some (Ctl.out (Ctl.next ())))
def E9 (u0:List (Int×Int×ByteArray)) (a1:Int):Option Bool :=
 (Gt u0 a1).bind fun y4 =>
cond (!y4)
 (some false)
 (Di (Aq (fun s_:Nat=>Dy u0 s_) 4611686018427387904 0) fun _ =>
 some true)
theorem Rj (h:E9 hA bA=some cA):cK 44 [.agg [.tree Y8 hA],ai bA] (An cA):=by
 exact cO Tryz.func44 (Ae (Ab (Ab (Aa 7 (rsT 2 (rcH h Tr fun y4 h=>rsT 1 (rnW (kQ h (fun _ h=>Ae (Ac (tr_ (jS h)))) fun _ h=>skW (sqC h (fun _=>sT [] []) (fun _ h hk7=>Ae (Ad (lpF h (fun u1=>sT [(12,.tree Y8 hA),(13,an hA.length),(14,an u1)] []) (Ag []) (fun n_ u1 c_ h hn9=>Ae (Ab (kQ h (fun _ h=>skW (Ab (Ad (Ab (Aa 7 (riH Y8 h fun x15 _ h=>rsB 3 (rnW (Ab (Aa 10 (rsT 2 (rcH h Zb fun y17 h=>rnW (kQ h (fun _ h=>Ae (Ac (br_ (tr_ (tr_ (br_ (tr_ (have h:=jO h hn9;(have h:=jO h hk7;jS h))))))))) fun _ h=>Az (bn_ (tn_ (wr_ (Aa 12 (raH h fun h=>rsT 1 (Ap (tn_ (jL [])))))))))))))))))))) fun _ h=>lxT (have h:=jO h hn9;jC []))))))) fun _ h=>Ae (Ac (jS h)))))))))))
def Oo:AC :=
 (.seq (rg [xo 3 (.i (.box 38 (tm 1))),xo 4 (qm (cb false))])
 (.seq (.seq (rg [xf 7 0 3,xl 8 7,xo 9 (qc 43 [tm 8] [[]]),xo 10 (.i (.not (tm 9))),xm 11 10,⟨some 12,some (11,false),qf 1 (tm 3)⟩,⟨some 13,some (11,false),.i (.ld false 1 (tm 12))⟩,⟨some 14,some (11,false),qm (tm 0)⟩,⟨some 15,some (11,false),qc 44 [tm 13,tm 14] [[some Y8],[]]⟩,⟨some 16,some (11,false),.i (.not (tm 15))⟩,xo 17 (.i (.pick (tm 11) (cb true) (tm 16))),xm 18 17,⟨some 19,some (18,false),qm (tm 0)⟩,⟨some 20,some (18,false),qf 2 (tm 3)⟩,⟨some 21,some (18,false),.i (.ld false 3 (tm 20))⟩,⟨some 22,some (18,false),qc 45 [tm 19,tm 21] [[],[none,none,some sI]]⟩,⟨some 23,some (18,false),.i (.not (tm 22))⟩,xo 24 (.i (.pick (tm 18) (cb true) (tm 23)))])
 (.cond (tm 24)
  (.seq (rg [xo 4 (qm (cb false))])
  .ret)
  .skip))
 (.seq (rg [xf 26 1 3,xo 27 (.i (.ld false 1 (tm 26))),⟨some 28,none,qc 46 [tm 27] [[some Y8]]⟩,xm 25 28,xo 29 (.i (.extr 0 (tm 25))),xo 30 (.i (.extr 1 (tm 25))),xo 5 (.i (.alloc 81 [.int .i64 0,.int .i64 0])),xn (.st false 2 (tm 5) (tm 29)),xm 6 30])
 (.seq (rg [xo 31 (.i (.ld false 2 (tm 5))),xf 32 2 3,xf 33 0 32,xl 34 33,xf 35 2 3,xf 36 1 35,xl 37 36,xo 38 (.build [.int .i64 0,.int .i64 0] [(0,1,tm 34),(1,1,tm 37)]),xo 39 (.i (.cmp false 5 (tm 31) (tm 38))),xm 4 39])
 .ret))))
def Ua:List Res:=[.tmp 4]
theorem Uq:Ci Tryz.prog Tryz.f22=some (Oo,Ua):=by kernel_rfl
def Gi (a0:Int) (u3:ByteArray) (u0:List (Int×Int×ByteArray)) (u1 u2:Int) (u4:LL):Option Bool :=
 ((Mo u3).bind fun y4 =>
 cond (!y4)
  (some true)
  ((E9 u0 a0).bind fun y6 =>
  cond (!y6)
   (some true)
   ((Hr a0 u1 u2 u4).bind fun y8 =>
   some (!y8)))).bind fun u5 =>
cond u5
 (some false)
 ((Fg u0).bind fun y12 =>
 some ([y12.1,y12.2.1]==[u1,u2]))
theorem Tq (h:Gi bA gA hA bB bC dA=some cA):cK 22 [ai bA,.agg [.str gA,.tree Y8 hA,ai bB,ai bC,tS dA]] (An cA):=by
 refine Acv kr Tryz.func22 Uq (n:=40) kr (by simp) rfl ?_;unfold Oo;refine Ae (Ab (sqF h (fun u5=>sT [(3,.box (oi 0 1) 0),(24,.bool u5)] [(oi 0 1,.cells 38 [.str gA,.tree Y8 hA,ai bB,ai bC,tS dA])]) ?_ fun u5 h=>kQ h (fun _ h=>Ae (Ac (tr_ (jS h)))) fun _ h=>skW (Ab (Aa 11 (rsT 2 (rcH h N1 fun y12 h=>rsB 6 (rnW (Ae (Ac (jS h))))))))));intro _ h;refine Aa 21 (rsT 2 (rcH h Abp fun y4 h=>rsT 2 ?_));rcases A0 h with ⟨q5,h⟩|⟨q5,h⟩
 ·exact rq 11 q5 (rsT 13 (Ap (tn_ (jE [(oi 0 1,oi 3 1)]))))
 refine rq 11 q5 (rsT 3 (rcH h Rj fun y6 h=>rsT 3 ?_));rcases A0 h with ⟨q7,h⟩|⟨q7,h⟩
 ·exact rq 18 q7 (rsT 6 (Ap (tn_ (jE [(oi 0 1,oi 3 1)]))))
 exact rq 18 q7 (rsT 3 (rcH h Uz fun y8 h=>rsT 2 (Ap (tn_ (jE [(oi 0 1,oi 3 1)])))))
end


section
open Go.RowKit Go.Deep
set_option maxRecDepth 4000
set_option maxHeartbeats 4800000
variable {bA bB bC:Int} {gA:ByteArray} {cA:Bool} {mA:Int×Int} {nA:List (ByteArray×Int×Int×List (Int×Int×ByteArray))} {hA:List (Int×Int×ByteArray)} {oA:List Int×List Int×List Int×Bool} {lA:Int×Int×Bool} {dA:LL}
def Jw (u0 u1:Int) (u2:ByteArray):Option Bool :=
 (cond (!(u2.toList==(⟨#[]⟩:ByteArray).toList))
  (some true)
  ((B7 u0 1 14).bind fun y5 =>
  some (!y5))).bind fun u3 =>
cond u3
 (some false)
 (cond (u0==1)
  ((B7 u1 0 12).bind fun y13 =>
  some y13)
  ((cond (u0==7)
    (some (u0==7))
    (some (u0==13))).bind fun u4 =>
  cond u4
   ((B7 u1 0 96).bind fun y19 =>
   some y19)
   (some (u1==0))))
theorem Rt (h:Jw bA bB gA=some cA):cK 135 [.agg [ai bA,ai bB,.str gA]] (An cA):=by
 refine cO Tryz.func135 (Ae (Ab (sqF h (fun u3=>sT [(1,.box (oi 0 1) 0),(11,.bool u3)] [(oi 0 1,.cells 117 [ai bA,ai bB,.str gA])]) ?_ fun u3 h=>kQ h (fun _ h=>Ae (Ac (tr_ (jS h)))) fun _ h=>skW (Ab (Ae (Ad (Ae (kQ h (fun _ h=>Ab (Aa 10 (rsT 2 (rcH h Cl fun y13 h=>rsT 1 (rnW (Ac (br_ (tr_ (jS h))))))))) fun _ h=>sqF h (fun u4=>sT [(1,.box (oi 0 1) 0),(19,.bool u4)] [(oi 0 1,.cells 117 [ai bA,ai bB,.str gA])]) (fun _ h=>Ae (kQ h (fun _ h=>Az (tn_ (jE []))) fun _ h=>Aa 10 (rsT 2 (Ap (tn_ (jE [])))))) fun u4 h=>kQ h (fun _ h=>Ab (Aa 6 (rsT 2 (rcH h Cl fun y19 h=>rsT 1 (rnW (Ac (br_ (tr_ (jS h))))))))) fun _ h=>Az (bn_ (tn_ (wr_ (Ae (Ac (jS h))))))))))))));intro _ h;refine Aa 12 (rsT 4 ?_);rcases A0 h with ⟨q4,h⟩|⟨q4,h⟩
 ·exact rq 6 q4 (rsT 5 (Ap (tn_ (jE [(oi 0 1,oi 1 1)]))))
 exact rq 6 q4 (rsT 2 (rcH h Cl fun y5 h=>rsT 2 (Ap (tn_ (jE [(oi 0 1,oi 1 1)])))))
def G7 (a0:Int):Option (Int×Int) :=
 cond (a0==2)
 (some (2,2))
 ((cond (a0==3)
   (some (a0==3))
   (some (a0==11))).bind fun u0 =>
 cond u0
  (some (1,2))
  ((cond (a0==4)
    (some (a0==4))
    (some (a0==12))).bind fun u1 =>
  cond u1
   (some (1,0))
   ((cond (a0==5)
     (some (a0==5))
     (some (a0==9))).bind fun u2 =>
   cond u2
    (some (2,1))
    ((cond (a0==6)
      (some (a0==6))
      (some (a0==10))).bind fun u3 =>
    cond u3
     (some (0,1))
     (some (1,1))))))
def Se (r:Int×Int):RV:=⟨true,[(false,[.sc (.int .i64 r.1)]),(false,[.sc (.int .i64 r.2)])]⟩
theorem N6 (h:G7 bA=some mA):cK 156 [ai bA] (Se mA):=by
 exact cO Tryz.func156 (Ae (Ab (Ae (Ad (Ae (kQ h (fun _ h=>Ae (Ac (br_ (tr_ (jS h))))) fun _ h=>sqF h (fun u0=>sT [(4,ai bA),(7,.bool u0)] []) (fun _ h=>Ae (kQ h (fun _ h=>Az (tn_ (jE []))) fun _ h=>Aa 10 (rsT 2 (Ap (tn_ (jE [])))))) fun u0 h=>kQ h (fun _ h=>Ae (Ac (br_ (tr_ (jS h))))) fun _ h=>sqF h (fun u1=>sT [(4,ai bA),(10,.bool u1)] []) (fun _ h=>Ae (kQ h (fun _ h=>Az (tn_ (jE []))) fun _ h=>Aa 6 (rsT 2 (Ap (tn_ (jE [])))))) fun u1 h=>kQ h (fun _ h=>Ae (Ac (br_ (tr_ (jS h))))) fun _ h=>sqF h (fun u2=>sT [(4,ai bA),(13,.bool u2)] []) (fun _ h=>Ae (kQ h (fun _ h=>Az (tn_ (jE []))) fun _ h=>Aa 6 (rsT 2 (Ap (tn_ (jE [])))))) fun u2 h=>kQ h (fun _ h=>Ae (Ac (br_ (tr_ (jS h))))) fun _ h=>sqF h (fun u3=>sT [(16,.bool u3)] []) (fun _ h=>Ae (kQ h (fun _ h=>Az (tn_ (jE []))) fun _ h=>Aa 6 (rsT 2 (Ap (tn_ (jE [])))))) fun u3 h=>kQ h (fun _ h=>Ae (Ac (br_ (tr_ (jS h))))) fun _ h=>Az (bn_ (tn_ (wr_ (Ae (Ac (jS h))))))))))))
def F4 (u0 u1:Int) (u2:ByteArray):Option (Int×Int) :=
 cond (u0==1)
 (some (u1,u1))
 ((G7 u0).bind fun y7 =>
 some (y7.1,y7.2))
theorem Zi (h:F4 bA bB gA=some mA):cK 136 [.agg [ai bA,ai bB,.str gA]] (Se mA):=by
 exact cO Tryz.func136 (Ae (Ab (Ae (kQ h (fun _ h=>Ab (Ao 13 (dsT 6 (Co (As kr) (tn_ (wr_ (Ac (tr_ (jS h))))))))) fun _ h=>skW (Ab (Aa 14 (rsT 2 (rcH h N6 fun y7 h=>rsT 4 (rnW (Ac (jS h)))))))))))
def Ip (a0:List (ByteArray×Int×Int×List (Int×Int×ByteArray))) (a1:ByteArray) (u0:Nat):Option (Ctl Nat (Ctl Unit Int)) :=
 cond (decide ((u0:Int)<(a0.length:Int)))
 ((a0[u0]?).bind fun x10 =>
 cond (x10.1.toList==a1.toList)
  (some (Ctl.out (Ctl.out (u0:Int))))
  (og (u0+1<4611686018427387904) <|
  some (Ctl.next (u0+1))))
 (some (Ctl.out (Ctl.next ())))
def Jo (a0:List (ByteArray×Int×Int×List (Int×Int×ByteArray))) (a1:ByteArray):Option Int :=
 Di (Aq (fun s_:Nat=>Ip a0 a1 s_) 4611686018427387904 0) fun _ =>
some (-1)
theorem Acl (h:Jo nA gA=some bA):cK 137 [.tree Ye nA,.str gA] (A3 bA):=by
 exact cO Tryz.func137 (Ae (sqC h (fun _=>sT [] []) (fun _ h hk2=>Ae (Ad (lpF h (fun u0=>sT [(1,.str gA),(7,.tree Ye nA),(8,an nA.length),(9,an u0)] []) (Ag []) (fun n_ u0 c_ h hn4=>Ae (Ab (kQ h (fun _ h=>skW (Ab (Ad (Ab (Aa 9 (rsT 1 (riH Ye h fun x10 _ h=>rsB 4 (rnW (Ae (kQ h (fun _ h=>Ae (Ac (br_ (tr_ (tr_ (br_ (tr_ (have h:=jO h hn4;(have h:=jO h hk2;jS h))))))))) fun _ h=>Az (bn_ (tn_ (wr_ (Aa 15 (raH h fun h=>rsT 1 (Ap (tn_ (jL [])))))))))))))))))) fun _ h=>lxT (have h:=jO h hn4;jC []))))))) fun _ h=>Ae (Ac (jS h))))
def I8 (u4:List (Int×Int×ByteArray)) (a0:List (ByteArray×Int×Int×List (Int×Int×ByteArray))) (u1:Nat) (u0 u2 u3:List Int):Option (Ctl (Nat×List Int×List Int×List Int) (Ctl (List Int×List Int×List Int) (List Int×List Int×List Int×Bool))) :=
 cond (decide ((u1:Int)<(u4.length:Int)))
 (Di ((u4[u1]?).bind fun x16 =>
  ((Jw x16.1 x16.2.1 x16.2.2).bind fun y19 =>
   cond y19
    (some true)
    (some (x16.1==17))).bind fun u7 =>
  cond u7
   ((F4 x16.1 x16.2.1 x16.2.2).bind fun y23 =>
   Di (cond (x16.1==17)
     ((Jo a0 x16.2.2).bind fun y28 =>
     (cond (decide (y28<0))
       (some true)
       (some (x16.2.1 !=0))).bind fun u8 =>
     cond u8
      (some (Ctl.out (Ctl.out (Ctl.out (Ctl.out (u0,u2,u3,false))))))
      ((Cb a0 y28).bind fun x34 =>
      some (Ctl.next (x34.2.1,x34.2.2.1))))
     (some (Ctl.next (y23.1,y23.2)))) fun (u9,ua) =>
   og (u0.length+1<=1073741824/\(u0.length+1)*8<=140737488355328) <|
   og (u2.length+1<=1073741824/\(u2.length+1)*8<=140737488355328) <|
   og (u3.length+1<=1073741824/\(u3.length+1)*8<=140737488355328) <|
   some (Ctl.next (u0++([(u1:Int)]),u2++([u9]),u3++([ua]))))
   ((cond (x16.1 !=15)
     (cond (x16.1 !=16)
      (some true)
      (cond (!(x16.2.2.toList==(⟨#[]⟩:ByteArray).toList))
       (some true)
       (cond (x16.2.1 !=0)
        (some true)
        (cond (decide ((u1:Int)<2))
         (some true)
         ((Cb u0 (wI ((u1:Int) - 1))).bind fun x48 =>
         (Cb u0 (wI ((u1:Int) - 1))).bind fun x49 =>
         some (decide (x49<1)))))))
     (cond (!(x16.2.2.toList==(⟨#[]⟩:ByteArray).toList))
      (some true)
      (cond (x16.2.1 !=0)
       (some true)
       (cond (decide ((u1:Int)<2))
        (some true)
        ((Cb u0 (wI ((u1:Int) - 1))).bind fun x53 =>
        (Cb u0 (wI ((u1:Int) - 1))).bind fun x54 =>
        some (decide (x54<1))))))).bind fun ub =>
   cond ub
    (some (Ctl.out (Ctl.out (Ctl.out (u0,u2,u3,false)))))
    ((Cb u0 (wI ((u1:Int) - 1))).bind fun x59 =>
    (Cb u0 (wI ((u1:Int) - 1))).bind fun x60 =>
    (Cb u2 (wI (x60 - 1))).bind fun x62 =>
    (Cb u2 (wI (x60 - 1))).bind fun x63 =>
    (Cb u2 (wI ((u1:Int) - 1))).bind fun x64 =>
    (Cb u2 (wI ((u1:Int) - 1))).bind fun x65 =>
    (Cb u3 (wI (x60 - 1))).bind fun x66 =>
    (Cb u3 (wI (x60 - 1))).bind fun x67 =>
    (Cb u3 (wI ((u1:Int) - 1))).bind fun x68 =>
    (Cb u3 (wI ((u1:Int) - 1))).bind fun x69 =>
    Di (cond (x16.1==15)
      (cond (x67 !=x65)
       (some (Ctl.out (Ctl.out (Ctl.out (Ctl.out (u0,u2,u3,false))))))
       (some (Ctl.next (x63,x69))))
      (some (Ctl.next (wI (x63+x65),wI (x67+x69))))) fun (u5,u6) =>
    (cond (decide (12<u5))
      (some true)
      (some (decide (12<u6)))).bind fun uc =>
    cond uc
     (some (Ctl.out (Ctl.out (Ctl.out (u0,u2,u3,false)))))
     ((Cb u0 (wI (x60 - 1))).bind fun x83 =>
     (Cb u0 (wI (x60 - 1))).bind fun x84 =>
     og (u0.length+1<=1073741824/\(u0.length+1)*8<=140737488355328) <|
     og (u2.length+1<=1073741824/\(u2.length+1)*8<=140737488355328) <|
     og (u3.length+1<=1073741824/\(u3.length+1)*8<=140737488355328) <|
     some (Ctl.next (u0++([x84]),u2++([u5]),u3++([u6]))))))) fun (ud,ue,uf) =>
 og (u1+1<4611686018427387904) <|
 some (Ctl.next (u1+1,ud,ue,uf)))
 (some (Ctl.out (Ctl.next (u0,u2,u3))))
def Mh (a0:List (ByteArray×Int×Int×List (Int×Int×ByteArray))) (u0:List (Int×Int×ByteArray)):Option (List Int×List Int×List Int×Bool) :=
 (B7 (u0.length:Int) 1 400).bind fun y5 =>
cond (!y5)
 (some ([],[],[],false))
 (Di (Aq (fun s_:Nat×List Int×List Int×List Int=>I8 u0 a0 s_.1 s_.2.1 s_.2.2.1 s_.2.2.2) 4611686018427387904 (0,[],[],[])) fun (u1,u2,u3) =>
 (Cb u1 (wI ((u0.length:Int) - 1))).bind fun x91 =>
 (Cb u1 (wI ((u0.length:Int) - 1))).bind fun x92 =>
 some (u1,u2,u3,x92==0))
def Rr (r:List Int×List Int×List Int×Bool):RV:=⟨true,[(true,[.new 3 .int r.1,.new 3 .int r.2.1,.new 3 .int r.2.2.1]),(false,[.sc (.bool r.2.2.2)])]⟩
theorem Aci (h:Mh nA hA=some oA):cK 101 [.tree Ye nA,.agg [.tree Y8 hA]] (Rr oA):=by
 refine cO Tryz.func101 (Ae (Ae (Ab (Ab (Aa 10 (rsT 3 (rcH h Cl fun y5 h=>rsT 1 (rnW (kQ h (fun _ h=>Ae (Ac (tr_ (jR h [.agg [.nils,.nils,.nils],.bool false] (T3 (Ed (T4 rfl) (Ed (T4 rfl) (Ed (T4 rfl) V2))) (Db rfl zl E6)))))) fun _ h=>skW (sqC h (fun (u5,u6,u7)=>sT [(3,.box (oi 0 1) 0),(4,.box (oi 1 1) 0),(6,.box (oi 2 1) 0)] [(oi 0 1,.cells 35 [.tree Y8 hA]),(oi 1 1,.cells 111 [.nils,.nils,.nils]),(oi 2 1,.cells 111 [oI 3 1 u5.length,oI 4 1 u6.length,oI 5 1 u7.length]),(oi 3 1,.arr 3 .int u5),(oi 4 1,.arr 3 .int u6),(oi 5 1,.arr 3 .int u7)]) ?_ ?_))))))))))
 ·intro _ h hk8;refine Ae (Ad (lpF h (fun (u0,u4,u1,u2)=>sT [(0,.tree Ye nA),(3,.box (oi 0 1) 0),(4,.box (oi 1 1) 0),(6,.box (oi 2 1) 0),(23,.tree Y8 hA),(24,an hA.length),(25,an u0)] [(oi 0 1,.cells 35 [.tree Y8 hA]),(oi 1 1,.cells 111 [.nils,.nils,.nils]),(oi 2 1,.cells 111 [oI 3 1 u4.length,oI 4 1 u1.length,oI 5 1 u2.length]),(oi 3 1,.arr 3 .int u4),(oi 4 1,.arr 3 .int u1),(oi 5 1,.arr 3 .int u2)]) ((C0 9000 (oi 6 4) 0 111 [.nils,.nils,.nils] [oI 9000 14 0,.nils,.nils] 3 .int rfl kr kr kr).trans ((C0 9001 (oi 6 4) 1 111 [oI 9000 14 0,.nils,.nils] [oI 9000 14 0,oI 9001 15 0,.nils] 3 .int rfl kr kr kr).trans ((C0 9002 (oi 6 4) 2 111 [oI 9000 14 0,oI 9001 15 0,.nils] [oI 9000 14 0,oI 9001 15 0,oI 9002 16 0] 3 .int rfl kr kr kr).trans (Ag [(oi 0 1,oi 3 1),(oi 1 1,oi 4 2),(oi 2 1,oi 6 4),(oi 3 1,oi 9000 14),(oi 4 1,oi 9001 15),(oi 5 1,oi 9002 16)])))) ?_));rintro n_ ⟨u0,u4,u1,u2⟩ c_ h hn10;refine Ae (Ab (kQ h (fun _ h=>skW (sqC h (fun (ua,ub,uc)=>sT [(0,.tree Ye nA),(3,.box (oi 0 1) 0),(4,.box (oi 1 1) 0),(6,.box (oi 2 1) 0),(23,.tree Y8 hA),(24,an hA.length),(25,an u0)] [(oi 0 1,.cells 35 [.tree Y8 hA]),(oi 1 1,.cells 111 [.nils,.nils,.nils]),(oi 2 1,.cells 111 [oI 3 1 ua.length,oI 4 1 ub.length,oI 5 1 uc.length]),(oi 3 1,.arr 3 .int ua),(oi 4 1,.arr 3 .int ub),(oi 5 1,.arr 3 .int uc)]) ?_ ?_)) fun _ h=>lxT (have h:=jO h hn10;jC [])))
  ·intro _ h hk14;refine Ad (Ab (Aa 9 (rsT 1 (riH Y8 h fun x16 _ h=>rsB 4 (rnW (Ab (sqF h (fun uf=>sT [(0,.tree Ye nA),(3,.box (oi 0 1) 0),(4,.box (oi 1 1) 0),(6,.box (oi 2 1) 0),(7,an u0),(8,.box (oi 3 1) 0),(23,.tree Y8 hA),(24,an hA.length),(25,an u0),(36,.bool uf)] [(oi 0 1,.cells 35 [.tree Y8 hA]),(oi 1 1,.cells 111 [.nils,.nils,.nils]),(oi 2 1,.cells 111 [oI 4 1 u4.length,oI 5 1 u1.length,oI 6 1 u2.length]),(oi 3 1,.cells 117 [ai x16.1,ai x16.2.1,.str x16.2.2]),(oi 4 1,.arr 3 .int u4),(oi 5 1,.arr 3 .int u1),(oi 6 1,.arr 3 .int u2)]) (fun _ h=>Aa 16 (rsT 1 (rcH h Rt fun y19 h=>rsT 1 (kR h 32 (fun _ h=>rsT 4 (Ap (tn_ (jE [(oi 4 1,oi 3 1),(oi 5 1,oi 4 1),(oi 6 1,oi 5 1),(oi 3 1,oi 8 6)])))) fun _ h=>rsT 4 (Ap (tn_ (jE [(oi 4 1,oi 3 1),(oi 5 1,oi 4 1),(oi 6 1,oi 5 1),(oi 3 1,oi 8 6)]))))))) ?_)))))));intro uf h;refine kQ h (fun _ h=>?_) fun _ h=>?_
   ·refine Ab (Aa 9 (rsT 1 (rcH h Zi fun y23 h=>rsT 5 (rnW (sqC h (fun (ud,ue)=>sT [(0,.tree Ye nA),(3,.box (oi 0 1) 0),(4,.box (oi 1 1) 0),(6,.box (oi 2 1) 0),(7,an u0),(9,ai ud),(10,ai ue),(23,.tree Y8 hA),(24,an hA.length),(25,an u0)] [(oi 0 1,.cells 35 [.tree Y8 hA]),(oi 1 1,.cells 111 [.nils,.nils,.nils]),(oi 2 1,.cells 111 [oI 3 1 u4.length,oI 4 1 u1.length,oI 5 1 u2.length]),(oi 3 1,.arr 3 .int u4),(oi 4 1,.arr 3 .int u1),(oi 5 1,.arr 3 .int u2)]) ?_ ?_)))))
    ·intro _ h hk24;refine Ae (kQ h (fun _ h=>Ab (Aa 17 (rsT 3 (rcH h Acl fun y28 h=>rsT 1 (rnW (Ab (sqF h (fun ug=>sT [(0,.tree Ye nA),(3,.box (oi 0 1) 0),(4,.box (oi 1 1) 0),(6,.box (oi 2 1) 0),(7,an u0),(11,ai y28),(23,.tree Y8 hA),(24,an hA.length),(25,an u0),(55,.bool ug)] [(oi 0 1,.cells 35 [.tree Y8 hA]),(oi 1 1,.cells 111 [.nils,.nils,.nils]),(oi 2 1,.cells 111 [oI 3 1 u4.length,oI 4 1 u1.length,oI 5 1 u2.length]),(oi 3 1,.arr 3 .int u4),(oi 4 1,.arr 3 .int u1),(oi 5 1,.arr 3 .int u2)]) (fun _ h=>Aa 24 (rsT 3 (kR h 51 (fun _ h=>rsT 4 (Ap (tn_ (jE [(oi 3 1,oi 4 1),(oi 4 1,oi 5 1),(oi 5 1,oi 6 1)])))) fun _ h=>rsT 4 (Ap (tn_ (jE [(oi 3 1,oi 4 1),(oi 4 1,oi 5 1),(oi 5 1,oi 6 1)])))))) ?_))))))) fun _ h=>Az (tn_ (jC [(oi 3 1,oi 4 1),(oi 4 1,oi 5 1),(oi 5 1,oi 6 1)])));intro ug h;refine kQ h (fun _ h=>Ae (Ac (tr_ (tr_ (tr_ (br_ (tr_ (tr_ (br_ (tr_ (have h:=jO h hk24;(have h:=jO h hk14;(have h:=jO h hn10;(have h:=jO h hk8;jR h [.agg [oI 3 1 u4.length,oI 4 1 u1.length,oI 5 1 u2.length],.bool false] (T3 (Ed (Cv kr rfl) (Ed (Cv kr rfl) (Ed (Cv kr rfl) V2))) (Db rfl zl E6)))))))))))))))) fun _ h=>skW (Ao 14 (dz0 (.tree Ye nA) (dz0 (ai y28) ?_)))
     obtain ⟨x34,f34,h⟩:=Ah h;obtain ⟨p34,b34,e34⟩:=Ar f34;exact ds0 (.telt none Ye x34 0) (zi (t:=Ye) (xs:=nA) (k:=.i64) (m:=y28) p34 e34) (dsT 4 (ds0 (.telt none Ye x34 0) (zi (t:=Ye) (xs:=nA) (k:=.i64) (m:=y28) p34 e34) (dz0 (.telt none Ye x34 2) (dz0 (ai x34.2.2.1) (dz0 (ai x34.2.1) (dz0 (ai x34.2.2.1) (Co (As kr) (tn_ (jC [])))))))))
    rintro ⟨ud,ue⟩ h;refine Ab (Aa 9 (rsB 4 ?_));obtain ⟨g36,h⟩:=Ak h;refine zB (oi 3 1) (oi 70 5) u4 ((u0:Int)) g36 (rsB 2 (rnW (Ab (Aa 16 (rsB 4 ?_)))));obtain ⟨g38,h⟩:=Ak h;refine zB (oi 4 1) (oi 76 12) u1 (ud) g38 (rsB 2 (rnW (Ab (Aa 23 (rsB 4 ?_)))));obtain ⟨g40,h⟩:=Ak h;exact zB (oi 5 1) (oi 82 19) u2 (ue) g40 (rsB 2 (rnW (Dv (te_ (be_ (tn_ (jC [(oi 3 1,oi 3 6),(oi 4 1,oi 4 13),(oi 5 1,oi 5 20)])))))))
   refine skW (Ab (sqF h (fun uh=>sT [(0,.tree Ye nA),(3,.box (oi 0 1) 0),(4,.box (oi 1 1) 0),(6,.box (oi 2 1) 0),(7,an u0),(8,.box (oi 3 1) 0),(23,.tree Y8 hA),(24,an hA.length),(25,an u0),(115,.bool uh)] [(oi 0 1,.cells 35 [.tree Y8 hA]),(oi 1 1,.cells 111 [.nils,.nils,.nils]),(oi 2 1,.cells 111 [oI 4 1 u4.length,oI 5 1 u1.length,oI 6 1 u2.length]),(oi 3 1,.cells 117 [ai x16.1,ai x16.2.1,.str x16.2.2]),(oi 4 1,.arr 3 .int u4),(oi 5 1,.arr 3 .int u1),(oi 6 1,.arr 3 .int u2)]) ?_ ?_))
   ·intro _ h;refine Aa 33 (rsT 4 (kR h 88 (fun _ h=>?_) fun _ h=>?_))
    ·refine rsT 5 (kR h 93 (fun _ h=>rsT 22 (Ap (tn_ (jE [])))) fun _ h=>rsT 5 (kR h 98 (fun _ h=>rsT 17 (Ap (tn_ (jE [])))) fun _ h=>rsT 5 (kR h 103 (fun _ h=>rsT 12 (Ap (tn_ (jE [])))) fun _ h=>rsT 4 ?_)));rcases A0 h with ⟨q47,h⟩|⟨q47,h⟩
     ·exact rq 107 q47 (rsT 8 (Ap (tn_ (jE []))))
     refine rq 107 q47 (rsT 4 ?_);obtain ⟨x48,f48,h⟩:=Ah h;obtain ⟨p48,b48,e48⟩:=Ar f48;refine rs0 (.elt (oi 4 1) ((wI ((u0:Int) - 1)).toNat) 0) (zo (t:=.int) (o:=oi 4 1) (len:=u4.length) (k:=.i64) (m:=wI ((u0:Int) - 1)) p48 (Ai e48)) ?_;obtain ⟨x49,f49,h⟩:=Ah h;obtain ⟨p49,b49,e49⟩:=Ar f49;exact zE (oi 4 1) e49 (rsT 2 (Ap (tn_ (jE []))))
    refine rsT 10 (kR h 98 (fun _ h=>rsT 17 (Ap (tn_ (jE [])))) fun _ h=>rsT 5 (kR h 103 (fun _ h=>rsT 12 (Ap (tn_ (jE [])))) fun _ h=>rsT 4 ?_));rcases A0 h with ⟨q52,h⟩|⟨q52,h⟩
    ·exact rq 107 q52 (rsT 8 (Ap (tn_ (jE []))))
    refine rq 107 q52 (rsT 4 ?_);obtain ⟨x53,f53,h⟩:=Ah h;obtain ⟨p53,b53,e53⟩:=Ar f53;refine rs0 (.elt (oi 4 1) ((wI ((u0:Int) - 1)).toNat) 0) (zo (t:=.int) (o:=oi 4 1) (len:=u4.length) (k:=.i64) (m:=wI ((u0:Int) - 1)) p53 (Ai e53)) ?_;obtain ⟨x54,f54,h⟩:=Ah h;obtain ⟨p54,b54,e54⟩:=Ar f54;exact zE (oi 4 1) e54 (rsT 2 (Ap (tn_ (jE []))))
   intro uh h;refine kQ h (fun _ h=>Ae (Ac (tr_ (br_ (tr_ (tr_ (br_ (tr_ (have h:=jO h hk14;(have h:=jO h hn10;(have h:=jO h hk8;jR h [.agg [oI 4 1 u4.length,oI 5 1 u1.length,oI 6 1 u2.length],.bool false] (T3 (Ed (Cv kr rfl) (Ed (Cv kr rfl) (Ed (Cv kr rfl) V2))) (Db rfl zl E6))))))))))))) fun _ h=>skW (Ae (Ab (Aa 12 (rsT 3 ?_))))
   obtain ⟨x59,f59,h⟩:=Ah h;obtain ⟨p59,b59,e59⟩:=Ar f59;refine rs0 (.elt (oi 4 1) ((wI ((u0:Int) - 1)).toNat) 0) (zo (t:=.int) (o:=oi 4 1) (len:=u4.length) (k:=.i64) (m:=wI ((u0:Int) - 1)) p59 (Ai e59)) ?_;obtain ⟨x60,f60,h⟩:=Ah h;obtain ⟨p60,b60,e60⟩:=Ar f60;refine zE (oi 4 1) e60 (rsT 2 (rnW (Ab (Ao 36 (dz0 (.box (oi 2 1) 1) (dzl (oI 5 1 u1.length) (dz0 (ai (wI (x60 - 1))) ?_)))))));obtain ⟨x62,f62,h⟩:=Ah h;obtain ⟨p62,b62,e62⟩:=Ar f62;refine ds0 (.elt (oi 5 1) ((wI (x60 - 1)).toNat) 0) (zo (t:=.int) (o:=oi 5 1) (len:=u1.length) (k:=.i64) (m:=wI (x60 - 1)) p62 (Ai e62)) ?_;obtain ⟨x63,f63,h⟩:=Ah h;obtain ⟨p63,b63,e63⟩:=Ar f63;refine dzE (oi 5 1) e63 (dz0 (.box (oi 2 1) 1) (dzl (oI 5 1 u1.length) (dz0 (ai (wI ((u0:Int) - 1))) ?_)));obtain ⟨x64,f64,h⟩:=Ah h;obtain ⟨p64,b64,e64⟩:=Ar f64;refine ds0 (.elt (oi 5 1) ((wI ((u0:Int) - 1)).toNat) 0) (zo (t:=.int) (o:=oi 5 1) (len:=u1.length) (k:=.i64) (m:=wI ((u0:Int) - 1)) p64 (Ai e64)) ?_;obtain ⟨x65,f65,h⟩:=Ah h;obtain ⟨p65,b65,e65⟩:=Ar f65;refine dzE (oi 5 1) e65 (dsT 4 ?_);obtain ⟨x66,f66,h⟩:=Ah h;obtain ⟨p66,b66,e66⟩:=Ar f66;refine ds0 (.elt (oi 6 1) ((wI (x60 - 1)).toNat) 0) (zo (t:=.int) (o:=oi 6 1) (len:=u2.length) (k:=.i64) (m:=wI (x60 - 1)) p66 (Ai e66)) ?_;obtain ⟨x67,f67,h⟩:=Ah h;obtain ⟨p67,b67,e67⟩:=Ar f67;refine dzE (oi 6 1) e67 (dz0 (.box (oi 2 1) 2) (dzl (oI 6 1 u2.length) (dz0 (ai (wI ((u0:Int) - 1))) ?_)));obtain ⟨x68,f68,h⟩:=Ah h;obtain ⟨p68,b68,e68⟩:=Ar f68;refine ds0 (.elt (oi 6 1) ((wI ((u0:Int) - 1)).toNat) 0) (zo (t:=.int) (o:=oi 6 1) (len:=u2.length) (k:=.i64) (m:=wI ((u0:Int) - 1)) p68 (Ai e68)) ?_;obtain ⟨x69,f69,h⟩:=Ah h;obtain ⟨p69,b69,e69⟩:=Ar f69;refine dzE (oi 6 1) e69 (dz0 (ai (wI (x67+x69))) (dz0 (ai (wI (x63+x65))) (dz0 (ai (wI (x67+x69))) (Co (As kr) (tn_ (wr_ (sqC h (fun (u8,u9)=>sT [(0,.tree Ye nA),(3,.box (oi 0 1) 0),(4,.box (oi 1 1) 0),(6,.box (oi 2 1) 0),(13,ai (wI (x60 - 1))),(14,ai u8),(15,ai u9),(23,.tree Y8 hA),(24,an hA.length),(25,an u0)] [(oi 0 1,.cells 35 [.tree Y8 hA]),(oi 1 1,.cells 111 [.nils,.nils,.nils]),(oi 2 1,.cells 111 [oI 3 1 u4.length,oI 4 1 u1.length,oI 5 1 u2.length]),(oi 3 1,.arr 3 .int u4),(oi 4 1,.arr 3 .int u1),(oi 5 1,.arr 3 .int u2)]) (fun _ h hk70=>Ae (kQ h (fun _ h=>Ab (Ab (Ao 50 (dsT 3 (ds0 (.elt (oi 6 1) ((wI (x60 - 1)).toNat) 0) (zo (t:=.int) (o:=oi 6 1) (len:=u2.length) (k:=.i64) (m:=wI (x60 - 1)) p66 (Ai e66)) (dsl (ai x67) (H5 (i:=oi 6 1) (j:=(wI (x60 - 1)).toNat) (k:=0) (e:=3) (t:=.int) (xs:=u2) kr kr e67 kr) (ds0 (.box (oi 2 1) 1) kr (dsl (oI 5 1 u1.length) kr (ds0 (ai (wI ((u0:Int) - 1))) kr (ds0 (.elt (oi 5 1) ((wI ((u0:Int) - 1)).toNat) 0) (zo (t:=.int) (o:=oi 5 1) (len:=u1.length) (k:=.i64) (m:=wI ((u0:Int) - 1)) p64 (Ai e64)) (dsl (ai x65) (H5 (i:=oi 5 1) (j:=(wI ((u0:Int) - 1)).toNat) (k:=0) (e:=3) (t:=.int) (xs:=u1) kr kr e65 kr) (ds0 (.bool (x67 !=x65)) kr (Co (As kr) (tn_ (wr_ (kQ h (fun _ h=>Ae (Ac (tr_ (tr_ (br_ (tr_ (tr_ (br_ (tr_ (have h:=jO h hk70;(have h:=jO h hk14;(have h:=jO h hn10;(have h:=jO h hk8;jR h [.agg [oI 4 1 u4.length,oI 5 1 u1.length,oI 6 1 u2.length],.bool false] (T3 (Ed (Cv kr rfl) (Ed (Cv kr rfl) (Ed (Cv kr rfl) V2))) (Db rfl zl E6))))))))))))))) fun _ h=>skW (Ao 62 (dsT 3 (ds0 (.elt (oi 5 1) ((wI (x60 - 1)).toNat) 0) (zo (t:=.int) (o:=oi 5 1) (len:=u1.length) (k:=.i64) (m:=wI (x60 - 1)) p62 (Ai e62)) (dsl (ai x63) (H5 (i:=oi 5 1) (j:=(wI (x60 - 1)).toNat) (k:=0) (e:=3) (t:=.int) (xs:=u1) kr kr e63 kr) (ds0 (.box (oi 2 1) 2) kr (dsl (oI 6 1 u2.length) kr (ds0 (ai (wI ((u0:Int) - 1))) kr (ds0 (.elt (oi 6 1) ((wI ((u0:Int) - 1)).toNat) 0) (zo (t:=.int) (o:=oi 6 1) (len:=u2.length) (k:=.i64) (m:=wI ((u0:Int) - 1)) p68 (Ai e68)) (dsl (ai x69) (H5 (i:=oi 6 1) (j:=(wI ((u0:Int) - 1)).toNat) (k:=0) (e:=3) (t:=.int) (xs:=u2) kr kr e69 kr) (ds0 (ai x63) kr (ds0 (ai x69) kr (Co (As kr) (tn_ (jC [(oi 3 1,oi 4 1),(oi 4 1,oi 5 1),(oi 5 1,oi 6 1)])))))))))))))))))))))))))))))) fun _ h=>Az (tn_ (jC [(oi 3 1,oi 4 1),(oi 4 1,oi 5 1),(oi 5 1,oi 6 1)])))) ?_)))))));rintro ⟨u8,u9⟩ h;refine Ab (sqF h (fun ui=>sT [(0,.tree Ye nA),(3,.box (oi 0 1) 0),(4,.box (oi 1 1) 0),(6,.box (oi 2 1) 0),(13,ai (wI (x60 - 1))),(14,ai u8),(15,ai u9),(23,.tree Y8 hA),(24,an hA.length),(25,an u0),(177,.bool ui)] [(oi 0 1,.cells 35 [.tree Y8 hA]),(oi 1 1,.cells 111 [.nils,.nils,.nils]),(oi 2 1,.cells 111 [oI 3 1 u4.length,oI 4 1 u1.length,oI 5 1 u2.length]),(oi 3 1,.arr 3 .int u4),(oi 4 1,.arr 3 .int u1),(oi 5 1,.arr 3 .int u2)]) (fun _ h=>Aa 8 (rsT 3 (kR h 174 (fun _ h=>rsT 3 (Ap (tn_ (jE [])))) fun _ h=>rsT 3 (Ap (tn_ (jE [])))))) ?_);intro ui h;refine kQ h (fun _ h=>Ae (Ac (tr_ (br_ (tr_ (tr_ (br_ (tr_ (have h:=jO h hk14;(have h:=jO h hn10;(have h:=jO h hk8;jR h [.agg [oI 3 1 u4.length,oI 4 1 u1.length,oI 5 1 u2.length],.bool false] (T3 (Ed (Cv kr rfl) (Ed (Cv kr rfl) (Ed (Cv kr rfl) V2))) (Db rfl zl E6))))))))))))) fun _ h=>skW (Ab (Ao 13 (dsT 5 ?_)))
   obtain ⟨x83,f83,h⟩:=Ah h;obtain ⟨p83,b83,e83⟩:=Ar f83;refine ds0 (.elt (oi 3 1) ((wI (x60 - 1)).toNat) 0) (zo (t:=.int) (o:=oi 3 1) (len:=u4.length) (k:=.i64) (m:=wI (x60 - 1)) p83 (Ai e83)) ?_;obtain ⟨x84,f84,h⟩:=Ah h;obtain ⟨p84,b84,e84⟩:=Ar f84;refine dzE (oi 3 1) e84 (ds1 (oI 186 9 1) (oi 186 9) (.arr 3 .int ([x84])) kr ?_);obtain ⟨g85,h⟩:=Ak h;refine dzB (oi 3 1) (oi 186 9) u4 (x84) g85 (dz0 (.box (oi 2 1) 0) (Oz (oi 2 1) (oi 2 1) (.cells 111 [oI 3 10 ((u4++([x84])).length),oI 4 1 u1.length,oI 5 1 u2.length]) kr (Co (As kr) (tn_ (wr_ (Ab (Aa 20 (rsB 4 ?_))))))));obtain ⟨g87,h⟩:=Ak h;refine zB (oi 4 1) (oi 192 16) u1 (u8) g87 (rsB 2 (rnW (Aa 27 (rsB 4 ?_))));obtain ⟨g88,h⟩:=Ak h;exact zB (oi 5 1) (oi 198 23) u2 (u9) g88 (rsB 2 (Ap (bn_ (tn_ (jC [(oi 3 1,oi 3 10),(oi 4 1,oi 4 17),(oi 5 1,oi 5 24)])))))
  rintro ⟨ua,ub,uc⟩ h;exact Aa 4 (raH h fun h=>rsT 1 (Ap (tn_ (jL []))))
 rintro ⟨u5,u6,u7⟩ h;refine Ab (Ao 14 (dsT 7 ?_));obtain ⟨x91,f91,h⟩:=Ah h;obtain ⟨p91,b91,e91⟩:=Ar f91;refine ds0 (.elt (oi 3 1) ((wI ((hA.length:Int) - 1)).toNat) 0) (zo (t:=.int) (o:=oi 3 1) (len:=u5.length) (k:=.i64) (m:=wI ((hA.length:Int) - 1)) p91 (Ai e91)) ?_;obtain ⟨x92,f92,h⟩:=Ah h;obtain ⟨p92,b92,e92⟩:=Ar f92;exact dzE (oi 3 1) e92 (dz0 (.bool (x92==0)) (Oz (oi 1 1) (oi 1 1) (.cells 111 [oI 3 1 u5.length,oI 4 1 u6.length,oI 5 1 u7.length]) kr (dz0 (.bool (x92==0)) (Co (As kr) (tn_ (wr_ (Ac (jR h [.agg [oI 3 1 u5.length,oI 4 1 u6.length,oI 5 1 u7.length],.bool (x92==0)] (T3 (Ed (Cv kr rfl) (Ed (Cv kr rfl) (Ed (Cv kr rfl) V2))) (Db rfl zl E6))))))))))
def Jx (u0:List (Int×Int×ByteArray)):Option (List Int×List Int×List Int×Bool) :=
 (Mh ([]) u0).bind fun y3 =>
some (y3.1,y3.2.1,y3.2.2.1,y3.2.2.2)
theorem Sc (h:Jx hA=some oA):cK 66 [.agg [.tree Y8 hA]] (Rr oA):=by
 exact cO Tryz.func66 (Ae (Ab (Aa 10 (rsT 1 (rcH h Aci fun y3 h=>rsB 4 (rnW (Ac (jR h [.agg [oI 80 5 y3.1.length,oI 81 5 y3.2.1.length,oI 82 5 y3.2.2.1.length],.bool y3.2.2.2] (T3 (Ed (Cv kr rfl) (Ed (Cv kr rfl) (Ed (Cv kr rfl) V2))) (Db rfl zl E6))))))))))
def Mi (u0:List (Int×Int×ByteArray)):Option (Int×Int×Bool) :=
 (Jx u0).bind fun y3 =>
cond (!y3.2.2.2)
 (some (0,0,false))
 ((Cb y3.2.1 (wI ((u0.length:Int) - 1))).bind fun x10 =>
 (Cb y3.2.1 (wI ((u0.length:Int) - 1))).bind fun x11 =>
 (Cb y3.2.2.1 (wI ((u0.length:Int) - 1))).bind fun x12 =>
 (Cb y3.2.2.1 (wI ((u0.length:Int) - 1))).bind fun x13 =>
 some (x11,x13,true))
def Acg (r:Int×Int×Bool):RV:=⟨true,[(false,[.sc (.int .i64 r.1)]),(false,[.sc (.int .i64 r.2.1)]),(false,[.sc (.bool r.2.2)])]⟩
theorem Ac0 (h:Mi hA=some lA):cK 35 [.agg [.tree Y8 hA]] (Acg lA):=by
 refine cO Tryz.func35 (Ae (Ab (Aa 13 (rsT 1 (rcH h Sc fun y3 h=>rsB 6 (rnW (Ab (Ae (kQ h (fun _ h=>Ae (Ac (tr_ (jS h)))) fun _ h=>skW (Ae (Ab (Ao 33 (dsT 3 ?_)))))))))))));obtain ⟨x10,f10,h⟩:=Ah h;obtain ⟨p10,b10,e10⟩:=Ar f10;refine ds0 (.elt (oi 161 6) ((wI ((hA.length:Int) - 1)).toNat) 0) (zo (t:=.int) (o:=oi 161 6) (len:=y3.2.1.length) (k:=.i64) (m:=wI ((hA.length:Int) - 1)) p10 (Ai e10)) ?_;obtain ⟨x11,f11,h⟩:=Ah h;obtain ⟨p11,b11,e11⟩:=Ar f11;refine dzE (oi 161 6) e11 (dz0 (.box (oi 5 10) 2) (dzl (oI 162 6 y3.2.2.1.length) (dz0 (ai (wI ((hA.length:Int) - 1))) ?_)));obtain ⟨x12,f12,h⟩:=Ah h;obtain ⟨p12,b12,e12⟩:=Ar f12;refine ds0 (.elt (oi 162 6) ((wI ((hA.length:Int) - 1)).toNat) 0) (zo (t:=.int) (o:=oi 162 6) (len:=y3.2.2.1.length) (k:=.i64) (m:=wI ((hA.length:Int) - 1)) p12 (Ai e12)) ?_;obtain ⟨x13,f13,h⟩:=Ah h;obtain ⟨p13,b13,e13⟩:=Ar f13;exact dzE (oi 162 6) e13 (dz0 (ai x11) (dz0 (ai x13) (dz0 (.bool true) (Co (As kr) (tn_ (wr_ (Ac (jS h))))))))
def Iv (u1:List (Int×Int×ByteArray)) (a0:Int) (u0:Nat):Option (Ctl Nat (Ctl Unit Bool)) :=
 cond (decide ((u0:Int)<(u1.length:Int)))
 ((u1[u0]?).bind fun x18 =>
 (cond (x18.1==7)
   (some (decide (a0<=x18.2.1)))
   (cond (x18.1==13)
    (some (decide (a0<=x18.2.1)))
    (some false))).bind fun u2 =>
 cond u2
  (some (Ctl.out (Ctl.out false)))
  (og (u0+1<4611686018427387904) <|
  some (Ctl.next (u0+1))))
 (some (Ctl.out (Ctl.next ())))
def Jv (a0:Int) (u0:List (Int×Int×ByteArray)):Option Bool :=
 (Jx u0).bind fun y4 =>
(cond (!y4.2.2.2)
  (some true)
  ((Hd a0).bind fun y7 =>
  some (!y7))).bind fun u1 =>
cond u1
 (some false)
 (Di (Aq (fun s_:Nat=>Iv u0 a0 s_) 4611686018427387904 0) fun _ =>
 some true)
theorem R5 (h:Jv bA hA=some cA):cK 37 [ai bA,.agg [.tree Y8 hA]] (An cA):=by
 refine cO Tryz.func37 (Ae (Ab (Ab (Aa 11 (rsT 1 (rcH h Sc fun y4 h=>rsB 6 (rnW (sqF h (fun u2=>sT [(0,ai bA),(3,.box (oi 0 1) 0),(20,.bool u2)] [(oi 0 1,.cells 35 [.tree Y8 hA])]) ?_ fun u2 h=>kQ h (fun _ h=>Ae (Ac (tr_ (jS h)))) fun _ h=>skW (sqC h (fun _=>sT [] []) (fun _ h hk10=>Ae (Ad (lpF h (fun u1=>sT [(0,ai bA),(22,.tree Y8 hA),(23,an hA.length),(24,an u1)] []) (Ag []) (fun n_ u1 c_ h hn12=>Ae (Ab (kQ h (fun _ h=>skW (Ab (Ad (Ab (Aa 7 (riH Y8 h fun x18 _ h=>rsB 3 (rnW (sqF h (fun u3=>sT [(0,ai bA),(22,.tree Y8 hA),(23,an hA.length),(24,an u1),(41,.bool u3)] []) (fun _ h=>Aa 21 (rsT 4 (kR h 31 (fun _ h=>rsT 10 (Ap (tn_ (jE [])))) fun _ h=>rsT 5 (kR h 36 (fun _ h=>rsT 5 (Ap (tn_ (jE [])))) fun _ h=>rsT 5 (Ap (tn_ (jE []))))))) fun u3 h=>kQ h (fun _ h=>Ae (Ac (br_ (tr_ (tr_ (br_ (tr_ (have h:=jO h hn12;(have h:=jO h hk10;jS h))))))))) fun _ h=>Az (bn_ (tn_ (wr_ (Aa 4 (raH h fun h=>rsT 1 (Ap (tn_ (jL [])))))))))))))))) fun _ h=>lxT (have h:=jO h hn12;jC []))))))) fun _ h=>Ae (Ac (jS h)))))))))));intro _ h;refine Aa 18 (rsT 3 ?_);rcases A0 h with ⟨q6,h⟩|⟨q6,h⟩
 ·exact rq 16 q6 (rsT 4 (Ap (tn_ (jE [(oi 0 1,oi 3 1)]))))
 exact rq 16 q6 (rsT 1 (rcH h Oc fun y7 h=>rsT 2 (Ap (tn_ (jE [(oi 0 1,oi 3 1)])))))
def Cf (a0:Int):Option Bool :=
 (cond (a0 !=8)
  (some (a0 !=14))
  (some false)).bind fun u0 =>
some u0
theorem Kn (h:Cf bA=some cA):cK 71 [ai bA] (An cA):=by
 exact cO Tryz.func71 (Ae (sqF h (fun u0=>sT [(2,.bool u0)] []) (fun _ h=>Aa 9 (rsT 3 (kR h 5 (fun _ h=>rsT 4 (Ap (tn_ (jE [])))) fun _ h=>rsT 4 (Ap (tn_ (jE [])))))) fun u0 h=>Ac (jS h)))
def Fe (u1:List (Int×Int×ByteArray)) (u0:Nat):Option (Ctl Nat (Ctl Unit Bool)) :=
 cond (decide ((u0:Int)<(u1.length:Int)))
 ((u1[u0]?).bind fun x10 =>
 (Cf x10.1).bind fun y12 =>
 cond (!y12)
  (some (Ctl.out (Ctl.out false)))
  (og (u0+1<4611686018427387904) <|
  some (Ctl.next (u0+1))))
 (some (Ctl.out (Ctl.next ())))
def Hx (u0:List (Int×Int×ByteArray)):Option Bool :=
 Di (Aq (fun s_:Nat=>Fe u0 s_) 4611686018427387904 0) fun _ =>
some true
theorem Uu (h:Hx hA=some cA):cK 38 [.agg [.tree Y8 hA]] (An cA):=by
 exact cO Tryz.func38 (Ae (sqC h (fun _=>sT [] []) (fun _ h hk2=>Ae (Ad (lpF h (fun u1=>sT [(6,.tree Y8 hA),(7,an hA.length),(8,an u1)] []) (Ag []) (fun n_ u1 c_ h hn4=>Ae (Ab (kQ h (fun _ h=>skW (Ab (Ad (Ab (Aa 7 (riH Y8 h fun x10 _ h=>rsB 3 (rnW (Ab (Aa 11 (rsT 2 (rcH h Kn fun y12 h=>rsT 1 (rnW (kQ h (fun _ h=>Ae (Ac (br_ (tr_ (tr_ (br_ (tr_ (have h:=jO h hn4;(have h:=jO h hk2;jS h))))))))) fun _ h=>Az (bn_ (tn_ (wr_ (Aa 13 (raH h fun h=>rsT 1 (Ap (tn_ (jL []))))))))))))))))))))) fun _ h=>lxT (have h:=jO h hn4;jC []))))))) fun _ h=>Ae (Ac (jS h))))
def Ej (a0:Int) (u3:ByteArray) (u0:List (Int×Int×ByteArray)) (u1 u2:Int) (u4:LL):Option Bool :=
 (Mi u0).bind fun y3 =>
(cond y3.2.2
  ((Ma u3).bind fun y6 =>
  cond y6
   ((Jv a0 u0).bind fun y8 =>
   cond y8
    ((Hx u0).bind fun y10 =>
    cond y10
     ((Me a0 u1 u2 u4).bind fun y12 =>
     cond y12
      (cond (u1==y3.1)
       (some (u2==y3.2.1))
       (some false))
      (some false))
     (some false))
    (some false))
   (some false))
  (some false)).bind fun u5 =>
some u5
theorem Aau (h:Ej bA gA hA bB bC dA=some cA):cK 18 [ai bA,.agg [.str gA,.tree Y8 hA,ai bB,ai bC,tS dA]] (An cA):=by
 refine cO Tryz.func18 (Ae (Ab (Aa 13 (rsT 2 (rcH h Ac0 fun y3 h=>rsT 7 (rnW (sqF h (fun u5=>sT [(4,.bool u5)] []) ?_ fun u5 h=>Ac (jS h))))))));intro _ h;refine Aa 51 (rsT 2 ?_);rcases A0 h with ⟨q5,h⟩|⟨q5,h⟩
 ·refine rq 16 q5 (rsT 2 (rcH h Acm fun y6 h=>rsT 2 ?_));rcases A0 h with ⟨q7,h⟩|⟨q7,h⟩
  ·refine rq 21 q7 (rsT 3 (rcH h R5 fun y8 h=>rsT 2 ?_));rcases A0 h with ⟨q9,h⟩|⟨q9,h⟩
   ·refine rq 27 q9 (rsT 2 (rcH h Uu fun y10 h=>rsT 2 ?_));rcases A0 h with ⟨q11,h⟩|⟨q11,h⟩
    ·exact rq 32 q11 (rsT 3 (rcH h Abf fun y12 h=>rsT 2 (kR h 38 (fun _ h=>rsT 7 (kR h 45 (fun _ h=>rsT 7 (Ap (tn_ (jE [])))) fun _ h=>rsT 7 (Ap (tn_ (jE []))))) fun _ h=>rsT 14 (Ap (tn_ (jE []))))))
    exact rq 32 q11 (rsT 20 (Ap (tn_ (jE []))))
   exact rq 27 q9 (rsT 25 (Ap (tn_ (jE []))))
  exact rq 21 q7 (rsT 31 (Ap (tn_ (jE []))))
 exact rq 16 q5 (rsT 36 (Ap (tn_ (jE []))))
end


section
open Go.RowKit Go.Deep
end
section
open Go.RowKit Go.Deep
section
variable {n:Nat} {d:Option Nat} {f:Nat->AV} {ob:Oid->Option Ob}
theorem Awm {y:Opd} {R:Nat->Prop} {t:Ty} {ys:List t.D} (h:y.ev f=.ftr R t ys):Ud ob t (y.ev f)=some (ys.length,tvC (some R) t ys):=by
 rw [h];simp only [Ud,Ty.eq?_self,Ca];rfl
theorem Am7 {y:Opd} {t:Ty} {ys:List t.D} (h:y.ev f=.tree t ys):Ud ob t (y.ev f)=some (ys.length,tvC none t ys):=by
 have e:t.avM none=t.av:=by
  funext x
  have key:∀ (t:Ty) (x:t.D),t.avM none x=t.av x:=by
   intro t
   induction t with
   | pair a b i1 i2=>intro x;simp only [Ty.avM,Ty.av,i1,i2]
   | _=>intro x;rfl
  exact key t x
 rw [h];simp only [Ud,Ty.eq?_self,Ca,tvC,e]
theorem Als {x y:Opd} {o:Oid} {e1:TypeId} {t t':Ty} {b len N:Nat} {m:Option (Nat->Prop)} {xs ys:List t.D} (hx:x.ev f=.own o t' 0 len) (hob:ob o=some (.vec e1 t.size N (tvC m t xs))) (hl:len=xs.length) (hN:N=xs.length) (hy:Ud ob t (y.ev f)=some (ys.length,tvC m t ys)) (h:len+ys.length<=1073741824/\(len+ys.length)*b<=140737488355328) :
  A7 n ⟨d,none,.appV e1 t b x y⟩ f ob=some (2,.own (o.1,n) t 0 (len+ys.length),[(o,none),((o.1,n),some (.vec e1 t.size (len+ys.length) (tvC m t (xs++ys))))]):=by
 subst hl hN;have h1:List.take (xs.length*t.size) (tvC m t xs)=tvC m t xs:=List.take_of_length_le (by rw [Np];exact Nat.le_refl _);simp only [A7,ev,Li,hx,hy,hob,true_and,Nat.le_refl,if_true,h1,h.1,h.2,and_self,Z3]
end
end
section
open Go.RowKit Go.Deep
def Tw:List (Oid×Option Ob)->Oid->List Oid->Option (Ob×List Oid)
 | [],_,_=>none
 | (j,o) :: r,p,L=>match o with
  | some (.pool e u xss)=>if p.1.1=j.1.1/\p.2=j.2 then some (.pool e u xss,L) else Tw r p L
  | none=>if p.1.1=j.1.1/\p.2=j.2/\j.1.2≠0 then Tw r p (j :: L) else Tw r p L
  | some _=>if p.1.1=j.1.1/\p.2=j.2/\j.1.2≠0 then none else Tw r p L
theorem Qf {e:TypeId} {u:Ty} {xss:List (List u.D)} {p:Oid} {L':List Oid}:∀ {ol:List (Oid×Option Ob)} {L:List Oid},Tw ol p L=some (.pool e u xss,L')->(∀ x∈L,x∈L')/\∀ k,kid p k∉L'->Ho ol (kid p k)=(xss[k]?).map (.arr e u)
 | [],_,h=>by cases h
 | (j,o) :: r,L,h=>by
  have hk:∀ k,¬ (p.1.1=j.1.1/\p.2=j.2/\j.1.2≠0)->kid p k≠j:=fun k hn ej=>hn (by subst ej;exact ⟨rfl,rfl,by simp [kid]⟩)
  cases o with
  | none =>
   simp only [Tw] at h;split at h
   ·obtain ⟨i1,i2⟩:=Qf h;refine ⟨fun x hx=>i1 x (List.mem_cons_of_mem _ hx),fun k hkn=>?_⟩;simp only [Ho];rw [if_neg (fun e=>hkn (by rw [e];exact i1 _ List.mem_cons_self))];exact i2 k hkn
   ·rename_i hn;obtain ⟨i1,i2⟩:=Qf h;refine ⟨i1,fun k hkn=>?_⟩;simp only [Ho];rw [if_neg (hk k hn)];exact i2 k hkn
  | some o =>
   cases o with
   | pool e' u' xss' =>
    simp only [Tw] at h;split at h
    ·rename_i hc;obtain ⟨h1,rfl⟩:=Prod.mk.inj (osj h);obtain ⟨rfl,rfl,he⟩:=Ob.pool.inj h1;obtain rfl:=eq_of_heq he;refine ⟨fun _ hx=>hx,fun k _=>?_⟩;simp only [Ho];rw [if_pos ⟨by simpa [kid] using hc.1,by simpa [kid] using hc.2,by simp [kid]⟩];simp [kid]
    ·rename_i hc;obtain ⟨i1,i2⟩:=Qf h;refine ⟨i1,fun k hkn=>?_⟩;simp only [Ho];rw [if_neg (fun h'=>hc ⟨h'.1,h'.2.1⟩)];exact i2 k hkn
   | _ =>
    simp only [Tw] at h;split at h
    ·cases h
    ·rename_i hn;obtain ⟨i1,i2⟩:=Qf h;refine ⟨i1,fun k hkn=>?_⟩;simp only [Ho];rw [if_neg (hk k hn)];exact i2 k hkn
theorem Asw {e:TypeId} {u:Ty} {xss:List (List u.D)} {p:Oid} {L:List Oid} {ol:List (Oid×Option Ob)} (h:Tw ol p []=some (.pool e u xss,L)) {k:Nat} {row:List u.D} (hk:kid p k∉L) (hx:xss[k]? =some row):Aj ol (kid p k)=some (.arr e u row):=by
 rw [M6,(Qf h).2 k hk,hx];rfl
theorem Abk {G:World->Prop} {tl:List (Nat×AV)} {ol:List (Oid×Option Ob)} {g:Nat} (s:Nat) (o p q:Oid) {e1 e:TypeId} {u:Ty} {xss:List (List u.D)} {j n len:Nat} {row ys:List u.D} (hfl:u.flat=true) (ho:Aj ol o=some (.vec e1 1 n ((hdL p u xss).set j (.own q u 0 len)))) (hn:n=xss.length) (hp:Tw ol p []=some (.pool e u xss,[kid p j])) (hq:Ho ol q=some (.arr e u ys)) (hl:len<=ys.length) (hr:row=ys.take len)
  (hqp:(q.1.1==p.1.1&&q.2==p.2&&q.1.2 !=0)=false) (hog:(o.2==g)=false) (hfr:Ow g ((q,none) :: (p,some (.pool e u [])) :: ol)=true) :
  WeakG G ⟨Am tl,Aj ol,g⟩ ⟨Am tl,Aj ((o,some (.mat e1 ((s,0),g) u (xss.set j row))) :: (((s,0),g),some (.pool e u (xss.set j row))) :: (q,none) :: (p,some (.pool e u [])) :: ol),g+1⟩:=by
 obtain ⟨r1,r2,r3⟩:=Abo hl hr;have hqk:∀ k,q≠kid p k:=fun k e=>by rw [e] at hqp;simp [kid] at hqp
 have hq':Aj ol q=some (.arr e u ys):=by rw [M6,hq];rfl
 refine Ke s o (fun k=>if k=j then q else kid p k) [(q,none),(p,some (.pool e u []))] hfl ho (by rw [List.length_set];exact hn) (fun k row' hk=>?_) (fun a b ha hb hab=>?_) hog hfr (fun i _=>?_)
 ·rw [List.getElem?_set] at hk ⊢;by_cases h:j=k
  ·subst h;rw [if_pos rfl] at hk ⊢;split at hk
   ·rename_i hlt;obtain rfl:=osj hk;rw [C7,if_pos hlt,if_pos rfl,r1];exact ⟨rfl,ys,hq',hl,hr⟩
   ·cases hk
  ·rw [if_neg h] at hk ⊢;rw [D9,hk,if_neg (fun e=>h e.symm)];exact ⟨rfl,row',Asw hp (fun hm=>h (Gh (List.mem_singleton.1 hm)).symm) hk,Nat.le_refl _,(List.take_length).symm⟩
 ·by_cases h1:a=j <;> by_cases h2:b=j
  ·rw [h1,h2]
  ·rw [if_pos h1,if_neg h2] at hab;exact absurd hab (hqk b)
  ·rw [if_neg h1,if_pos h2] at hab;exact absurd hab.symm (hqk a)
  ·rw [if_neg h1,if_neg h2] at hab;exact Gh hab
 ·simp only [List.cons_append,List.nil_append,Kp];by_cases h1:i=q
  ·rw [if_pos h1];exact .inl rfl
  ·rw [if_neg h1,L6];split
   ·exact .inl rfl
   ·rename_i h2;refine .inr ⟨rfl,fun k _=>?_⟩;split
    ·exact h1
    ·intro e;exact h2 (by rw [e];exact ⟨rfl,rfl,by simp [kid]⟩)
end
section
open Go.RowKit Go.Deep
theorem Ahe {q:Oid} {e:TypeId} {u:Ty} {xs:List u.D} {r:List (Oid×Option Ob)}:Ho ((q,some (.arr e u xs)) :: r) q=some (.arr e u xs):=by simp [Ho]
theorem Acy {α:Type} {g:List AV->Option α} {sz n:Nat} {d:List AV} {ys:List α} (hd:Jh g sz n d=some ys):∀ {m:Nat} {c:List AV} {xs:List α},c.length=m*sz->Jh g sz m c=some xs->Jh g sz (m+n) (c++d)=some (xs++ys)
 | 0,c,xs,hc,h=>by
  obtain rfl:c=[]:=List.eq_nil_of_length_eq_zero oM;simp only [Jh,Option.some.injEq] at h;subst h
  simpa using hd
 | m+1,c,xs,hc,h=>by
  have hl:sz<=c.length:=by rw [hc,Nat.succ_mul];omega
  rw [show m+1+n=(m+n)+1 by omega];simp only [Jh] at h ⊢;rw [List.take_append_of_le_length hl,List.drop_append_of_le_length hl];cases h1:g (c.take sz) with
  | none=>rw [h1] at h;cases h
  | some x =>
   rw [h1] at h;cases h2:Jh g sz m (c.drop sz) with
   | none=>rw [h2] at h;cases h
   | some zs =>
    rw [h2] at h;obtain rfl:=osj h;rw [Acy hd (m:=m) (c:=c.drop sz) (xs:=zs) (by rw [List.length_drop,hc,Nat.succ_mul];omega) h2];rfl
theorem Awd {n:Nat} {ob:Oid->Option Ob} {o p:Oid} {e1 e:TypeId} {u:Ty} {m:Option (Nat->Prop)} {xss ys:List (List u.D)} {len N:Nat} (ho:ob o=some (.vec e1 1 N (hdL p u xss++tvC m (.slice u) ys))) (hk:∀ k row,xss[k]? =some row->ob (kid p k)=some (.arr e u row)) (hN:N=xss.length+ys.length) (hl:len=N):gnd ob (n+1) (.own o (.slice u) 0 len)=some (.tree (.slice u) (xss++ys)):=by
 subst hl hN
 have h1:Jh (rdC ob (.slice u)) 1 xss.length (hdL p u xss)=some xss:=by
  have:=Qn (g:=rdC ob (.slice u)) (cs:=hdL p u xss) (xs:=xss) (by rw [C7]) (fun k c x hc hx=>by
   rw [D9,hx] at hc;obtain rfl:=osj hc;have:=hk _ x hx;simp only [rdC,D8,this,Nat.zero_add,Nat.le_refl,if_true,Ty.eq?_self,Ca,List.drop_zero,List.take_length])
  exact this
 have h2:Jh (rdC ob (.slice u)) 1 ys.length (tvC m (.slice u) ys)=some ys:=Xr (t:=.slice u) ys;have h3:=Acy h2 (m:=xss.length) (by rw [C7,Nat.mul_one]) h1
 have key:Zf ob 1 (rdC ob (.slice u)) (.own o (.slice u) 0 (xss.length+ys.length))=some (xss++ys):=by
  simp only [Zf,ho];rw [if_pos ⟨trivial,by omega⟩,Nat.zero_mul,List.drop_zero,List.take_of_length_le (by simp only [List.length_append,C7,Np,Ty.size];omega)];exact h3
 simp only [gnd,ho,Ty.size,key,Option.map_some]
section
variable {n:Nat} {d:Option Nat} {f:Nat->AV} {ob:Oid->Option Ob}
theorem Auo {x y:Opd} {o p:Oid} {e1:TypeId} {u t':Ty} {b len N:Nat} {m:Option (Nat->Prop)} {xss ys:List (List u.D)} (hx:x.ev f=.own o t' 0 len) (hob:ob o=some (.vec e1 1 N (hdL p u xss))) (hN:N=xss.length) (hl:len=N) (hy:Ud ob (.slice u) (y.ev f)=some (ys.length,tvC m (.slice u) ys)) (h:len+ys.length<=1073741824/\(len+ys.length)*b<=140737488355328) :
  A7 n ⟨d,none,.appV e1 (.slice u) b x y⟩ f ob=some (2,.own (o.1,n) (.slice u) 0 (len+ys.length),[(o,none),((o.1,n),some (.vec e1 1 (len+ys.length) (hdL p u xss++tvC m (.slice u) ys)))]):=by
 subst hl hN;have h1:List.take (xss.length*1) (hdL p u xss)=hdL p u xss:=by rw [Nat.mul_one];exact List.take_of_length_le (by rw [C7];exact Nat.le_refl _)
 simp only [A7,ev,Li,hx,hy,hob,Ty.size,true_and,Nat.le_refl,if_true,h1,h.1,h.2,and_self]
end
end
section
open Go.RowKit Go.Deep
section
variable {P:Program} {G:World->Prop} (hfol:P.follows .mixedOrders=true) {g:FuncId} {fn:Func} (hf:P.funcs[g]? =some fn) {ac:AC} {rs:List Res} (hc:Ci P fn=some (ac,rs)) {args:List AV} {r:RV} {n:Nat}
include hfol hf hc
end
section
variable {σ:Oid->Option Loc} {im:Nat->Prop} {w:World} {θ:Oid->Oid} {t:Ty} {xs:List t.D}
end
theorem Au2 {a b:Oid->Option Ob} {σ:Oid->Option Loc} (h:∀ x,(∃ o,a x=some o)↔∃ o,b x=some o):imm a σ=imm b σ:=by
 funext c;refine propext ⟨fun H i o cp s hi=>?_,fun H i o cp s hi=>?_⟩
 ·obtain ⟨o',h'⟩:=(h i).2 ⟨o,hi⟩;exact H i o' cp s h'
 ·obtain ⟨o',h'⟩:=(h i).1 ⟨o,hi⟩;exact H i o' cp s h'
section
variable {ob:Oid->Option Ob} {n:Nat} {k:Oid} {c:AV} {cs:List AV}
end
end
section
open Go.RowKit Go.Deep
theorem Aj9 {G:World->Prop} {tl:List (Nat×AV)} {ol:List (Oid×Option Ob)} {g:Nat} (d:Nat) (o:Oid) {e:TypeId} {t:Ty} {xs:List t.D} {len:Nat} (hd:Am tl d=.own o t 0 len) (ho:Aj ol o=some (.arr e t xs)) (hl:len=xs.length) :
  WeakG G ⟨Am tl,Aj ol,g⟩ ⟨Am ((d,.tree t xs) :: tl),Aj ((o,none) :: ol),g⟩:=by
 refine Arw (S:=⟨Am tl,Aj ol,g⟩) (obD:=fun i=>if i=o then Aj ol i else none) (fun i x hx=>?_) (fun i x hx=>?_) fun t'=>?_
 ·rw [Kp] at hx;split at hx
  ·cases hx
  ·exact hx
 ·split at hx
  ·rename_i hc;exact ⟨hx,by rw [Kp,if_pos hc]⟩
  ·cases hx
 ·by_cases ht:t'=d
  ·subst ht;refine .inr ⟨1,?_⟩;show gnd _ 1 (Am tl t')=some (Am _ t');rw [hd,show Am ((t',AV.tree t xs) :: tl) t'=.tree t xs from if_pos rfl];exact Bl (e:=e) (by rw [if_pos rfl];exact ho) hl
  ·exact .inl (if_neg ht)
section
variable {G:World->Prop} {n:Nat} {R:Nat->Prop}
theorem An1 (hR:∀ b,n<=b->R b) {S:St} {ob':Oid->Option Ob} {tm':Nat->AV} {q:Oid} {e:TypeId} {t:Ty} {xs:List t.D} (hq:S.ob q=some (.arr e t xs))
  (h1:∀ i o',ob' i=some o'->i≠q/\∃ o,S.ob i=some o/\(o'=o∨∃ ty cs k t',o=.cells ty cs/\o'=.cells ty (cs.set k (.ftr R t xs))/\cs[k]? =some (.own q t' 0 xs.length)))
  (h3:∀ j,tm' j=S.tm j∨(tm' j=.ftr R t xs/\∃ t',S.tm j=.own q t' 0 xs.length)):WeakG (GN G n) S ⟨tm',ob',S.gen⟩:=by
 intro w0 B N a w hr;obtain ⟨σ,hm,hf,hB⟩:=hr.ex;have hn:n<=w0.heap.size:=(hm.inv w0 (Below.refl _ _)).2
 have him:∀ b,imm S.ob σ b->imm ob' σ b:=fun b hb i o c s ho=>by
  obtain ⟨_,o1,h,_⟩:=h1 i o ho;exact hb i o1 c s h
 have hL:Later σ σ (imm S.ob σ) (imm ob' σ) w w:=⟨fun _ _ h=>h,fun b _ hb=>him b hb,fun _ _ _=>rfl,Nat.le_refl _⟩
 have key:∀ (t':Ty) (v:Value),AV.Rep σ (imm S.ob σ) w (.own q t' 0 xs.length) v->AV.Rep σ (imm ob' σ) w (.ftr R t xs) v:=by
  intro t' v hv
  have:AV.Rep (fun _=>none) (fun b=>imm ob' σ b/\R b) w (.tree t xs) v:=by
   refine Ky (ob:=fun j=>if j=q then some (.arr e t xs) else none) (σ:=σ) (im:=fun b=>imm ob' σ b/\R b) (lo:=w0.heap.size) (fun j z l hj hl=>?_) (fun _ hb=>hb) (fun j z b c s hj hs=>?_) 1 _ _ _ (Bl (e:=e) (if_pos rfl) rfl) (Abc hv)
   ·split at hj
    ·rename_i e';subst e';obtain rfl:=osj hj;exact hm.obs j _ l hq hl
    ·cases hj
   ·split at hj
    ·rename_i e';subst e';refine ⟨fun j' z' c' s' hj' hs'=>?_,hR b (Nat.le_trans hn (hm.lt j b c s hs).1)⟩;obtain ⟨hne,o1,hj1,_⟩:=h1 j' z' hj';exact hne (hm.inj j j' b c s c' s' _ o1 hq hj1 hs hs').symm
    ·cases hj
  exact this
 refine ⟨⟨σ,⟨hm.below,hm.inv,hm.gen,hm.lt,hm.cap,fun i j b c s c' s' x y hi hj=>?_,fun i x l hi hl=>?_⟩,fun t'=>?_,hB.trans hL⟩,hr.size,hr.defers,fun i hi=>?_⟩
 ·obtain ⟨_,o1,g1,_⟩:=h1 i x hi;obtain ⟨_,o2,g2,_⟩:=h1 j y hj;exact hm.inj i j b c s c' s' o1 o2 g1 g2
 ·obtain ⟨_,o1,g1,g2⟩:=h1 i x hi;rcases g2 with rfl|⟨ty,cs,k,t',rfl,rfl,hk⟩
  ·exact (hm.obs i x l g1 hl).later hL fun _ _ _ _=>rfl
  ·have h0:=(hm.obs i _ l g1 hl)
   cases l with
   | nil=>exact h0
   | at_ b c s =>
    obtain ⟨vs,e1,e2,e3⟩:=h0;refine ⟨vs,e1,?_,e3⟩;obtain ⟨v,hv,hrv⟩:=e2.get hk;have h2:=(AV.RepL.later hL _ _ e2).set (k:=k) (key t' v hrv)
    have e4:vs.set k v=vs:=by
     obtain ⟨hlt,rfl⟩:=gSi.1 hv;exact List.set_getElem_self hlt
    rwa [e4] at h2
 ·rcases h3 t' with e'|⟨e',t2,e2⟩
  ·show AV.Rep σ (imm ob' σ) w (tm' t') _;rw [e'];exact AV.Rep.later hL _ _ (hf t')
  ·show AV.Rep σ (imm ob' σ) w (tm' t') _;rw [e'];have:=hf t';rw [e2] at this;exact key t2 _ this
 ·refine hr.obg i fun hn=>hi ?_
  cases hx:ob' i with
  | none=>exact hx
  | some x =>
   obtain ⟨_,o1,g1,_⟩:=h1 i x hx;rw [g1] at hn;cases hn
theorem Abj (hR:∀ b,n<=b->R b) {tl:List (Nat×AV)} {ol:List (Oid×Option Ob)} {g:Nat} (i q:Oid) (k:Nat) {ty e:TypeId} {cs ds:List AV} {t t':Ty} {xs:List t.D} {len:Nat} (hi:Aj ol i=some (.cells ty cs)) (hk:cs[k]? =some (.own q t' 0 len)) (hq:Aj ol q=some (.arr e t xs)) (hl:len=xs.length) (hd:cs.set k (.ftr R t xs)=ds) :
  WeakG (GN G n) ⟨Am tl,Aj ol,g⟩ ⟨Am tl,Aj ((q,none) :: (i,some (.cells ty ds)) :: ol),g⟩:=by
 subst hl hd;refine An1 (S:=⟨Am tl,Aj ol,g⟩) hR hq (fun j o' hj=>?_) fun j=>.inl rfl
 rw [Kp] at hj;split at hj
 ·cases hj
 ·rename_i hne;refine ⟨hne,?_⟩;by_cases hji:j=i
  ·subst hji;refine ⟨_,hi,.inr ⟨ty,cs,k,t',rfl,?_,hk⟩⟩;have:Aj ((j,some (.cells ty (cs.set k (.ftr R t xs)))) :: ol) j=some (.cells ty (cs.set k (.ftr R t xs))):=by simp [Aj]
   exact osj (hj.symm.trans this)
  ·refine ⟨o',?_,.inl rfl⟩;have:Aj ((i,some (.cells ty (cs.set k (.ftr R t xs)))) :: ol) j=Aj ol j:=by simp [Aj,hji]
   exact this.symm.trans hj
end
theorem So {α:Type} {xs:List α} {z:α} {N len b:Nat} (hN:N=xs.length) (h:len<=N/\len+1<=1073741824/\(len+1)*b<=140737488355328):len+1=(xs.take len++[z]).length:=by
 rw [List.length_append,List.length_take,List.length_singleton];omega
theorem Ar5 {m:Option (Nat->Prop)} {t:Ty} {xs:List t.D} {k:Nat} (hk:k<=xs.length):(tvC m t xs).take (k*t.size)=tvC m t (xs.take k):=by
 conv=>lhs;rw [← List.take_append_drop k xs,Z3]
 rw [List.take_append_of_le_length (by rw [Np,List.length_take,Nat.min_eq_left hk];exact Nat.le_refl _)];exact List.take_of_length_le (by rw [Np,List.length_take,Nat.min_eq_left hk];exact Nat.le_refl _)
theorem Zw {n:Nat} {d:Option Nat} {f:Nat->AV} {ob:Oid->Option Ob} {x y:Opd} {o q:Oid} {e1 e2:TypeId} {t t' t2:Ty} {b len N:Nat} {m:Option (Nat->Prop)} {xs:List t.D} {z:t.D} (hx:x.ev f=.own o t' 0 len) (hob:ob o=some (.vec e1 t.size N (tvC m t xs))) (hN:N=xs.length) (hy:y.ev f=.own q t2 0 1) (hq:ob q=some (.vec e2 t.size 1 (tvC m t [z]))) (h:len<=N/\len+1<=1073741824/\(len+1)*b<=140737488355328) :
  A7 n ⟨d,none,.appV e1 t b x y⟩ f ob=some (2,.own (o.1,n) t 0 (len+1),[(o,none),((o.1,n),some (.vec e1 t.size (len+1) (tvC m t (xs.take len++[z]))))]):=by
 have h1:List.take (len*t.size) (tvC m t xs)=tvC m t (xs.take len):=Ar5 (hN▸h.1);have h2:List.take (1*t.size) (List.drop (0*t.size) (tvC m t [z]))=tvC m t [z]:=by rw [Nat.zero_mul,List.drop_zero];exact List.take_of_length_le (by rw [Np];exact Nat.le_refl _)
 simp only [A7,ev,Li,hx,hy,Ud,hq,hob,true_and,Nat.zero_add,Nat.le_refl,if_true,h1,h2,h.1,h.2.1,h.2.2,and_self,Z3]
mutual
def AV.unS (R:Nat->Prop):AV->AV->Prop
 | .tree t xs,d=>d=.ftr R t xs
 | .agg cs,d=>∃ ds,d=.agg ds/\AV.unSL R cs ds
 | .ref cs,d=>∃ ds,d=.ref ds/\AV.unSL R cs ds
 | c,d=>c.scal=true/\d=c
def AV.unSL (R:Nat->Prop):List AV->List AV->Prop
 | [],ds=>ds=[]
 | c :: cs,ds=>∃ d ds',ds=d :: ds'/\AV.unS R c d/\AV.unSL R cs ds'
end
mutual
theorem At3 {R im:Nat->Prop} {w:World} (hR:∀ b,im b->R b):∀ (c d:AV) (u:Value),AV.unS R c d->AV.Rep (fun _=>none) im w c u->AV.Rep (fun _=>none) im w d u
 | .tree t xs,d,u,h,⟨A,c,l,e,hs⟩=>by
  have h:d=.ftr R t xs:=h;subst h;exact ⟨A,c,l,e,Bz (fun b _ hb=>⟨hb,hR b hb⟩) hs⟩
 | .agg cs,d,u,⟨ds,e,h⟩,hr=>by
  subst e;obtain ⟨us,e,hr⟩:=hr;exact ⟨us,e,Abw hR cs ds us h hr⟩
 | .ref cs,d,u,⟨ds,e,h⟩,hr=>by
  subst e;obtain ⟨b,k,vs,e1,e2,e3,hr⟩:=hr;exact ⟨b,k,vs,e1,e2,e3,Abw hR cs ds vs h hr⟩
 | .int ..,d,u,⟨_,e⟩,hr=>by subst e;exact hr
 | .bool ..,d,u,⟨_,e⟩,hr=>by subst e;exact hr
 | .str ..,d,u,⟨_,e⟩,hr=>by subst e;exact hr
 | .err ..,d,u,⟨h,e⟩,hr=>by first|(cases h;done)|(subst e;exact hr)
 | .nils,d,u,⟨_,e⟩,hr=>by subst e;exact hr
 | .any,d,u,⟨h,_⟩,_=>by cases h
 | .mtree ..,d,u,⟨h,_⟩,_=>by cases h
 | .ftr ..,d,u,⟨h,_⟩,_=>by cases h
 | .mp _,d,u,⟨h,_⟩,_=>by cases h
 | .tup _,d,u,⟨h,_⟩,_=>by cases h
 | .fn ..,d,u,⟨h,_⟩,_=>by cases h
 | .own ..,d,u,⟨h,_⟩,_=>by cases h
 | .box ..,d,u,⟨h,_⟩,_=>by cases h
 | .elt ..,d,u,⟨h,_⟩,_=>by cases h
 | .sla ..,d,u,⟨h,_⟩,_=>by cases h
 | .telt ..,d,u,⟨h,_⟩,_=>by cases h
 | .giv ..,d,u,⟨h,_⟩,_=>by cases h
 | .abool ..,d,u,⟨h,_⟩,_=>by cases h
theorem Abw {R im:Nat->Prop} {w:World} (hR:∀ b,im b->R b):∀ (cs ds:List AV) (us:List Value),AV.unSL R cs ds->AV.RepL (fun _=>none) im w cs us->AV.RepL (fun _=>none) im w ds us
 | [],ds,us,h,hr=>by obtain rfl:ds=[]:=h;exact hr
 | c :: cs,ds,us,⟨d,ds',e,h1,h2⟩,hr=>by
  subst e;obtain ⟨u,us',e,r1,r2⟩:=hr;exact ⟨u,us',e,At3 hR c d u h1 r1,Abw hR cs ds' us' h2 r2⟩
end
end
end Go.Proofs.YtopjojkjaklalaaGreatDoor
