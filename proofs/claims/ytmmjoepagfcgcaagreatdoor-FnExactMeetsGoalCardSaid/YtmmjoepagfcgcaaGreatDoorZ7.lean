/- Lemmas on the program and on partial functions that stand in place of its code (part 7); no condition beyond those that each one states. -/
import Derived.Test.YtmmjoepagfcgcaaGreatDoorZ6
import Derived.Laws.Strings
import Derived.KernelRfl
namespace Go.Proofs.YtmmjoepagfcgcaaGreatDoor
section
open Go.RowKit Go.Deep
set_option maxRecDepth 4000
set_option maxHeartbeats 4800000
variable {bA bB bC bD bE:Int} {gA gB:ByteArray} {qA:Int×Int×LL} {hA:List (Int×Int×ByteArray)} {dA dB:LL} {cA:Bool} {pA:List (ByteArray×(List (Int×Int×ByteArray))×Int×Int×LL)} {jA:ByteArray×(List (Int×Int×ByteArray))×Int×Int×LL} {aA:List Int} {wA:List Int×Bool} {xA:Sum Unit (List Int)}
def Bd (a0 u0 u1:Int) (u2:ByteArray):Option (Int×Int×LL) :=
 cond (u0==1)
 ((Er u1).bind fun y6 =>
 some (y6.1,y6.2.1,y6.2.2))
 (cond (u0==2)
  ((B3 a0 2 2 ([[1,0,0,1],[0,1,1,0]])).bind fun y10 =>
  some (y10.1,y10.2.1,y10.2.2))
  (cond (decide (9<=u0))
   ((Mp u0).bind fun y14 =>
   (Dz y14).bind fun y15 =>
   (Mp u0).bind fun y17 =>
   (Jf y17 u1).bind fun y18 =>
   (B3 a0 y15.1 y15.2 y18).bind fun y19 =>
   (Oq a0 y19.1 y19.2.1 y19.2.2).bind fun y20 =>
   some (y20.1,y20.2.1,y20.2.2))
   ((Dz u0).bind fun y22 =>
   (Jf u0 u1).bind fun y24 =>
   (B3 a0 y22.1 y22.2 y24).bind fun y25 =>
   some (y25.1,y25.2.1,y25.2.2))))
theorem Ur (h:Bd bA bB bC gA=some qA):cK 73 [ai bA,.agg [ai bB,ai bC,.str gA]] (C3 qA):=by
 exact cZ Tryz.func73 fun zn_ nz_ hz_=>Ae (Ab (Ad (Ae (kQ h (fun _ h=>Ab (Aa 11 (rsT 2 (rcH h (fun h=>G9 hz_ (Q2 h)) fun y6 h=>rsB 1 (rnW (Ac (br_ (tr_ (jZ h [(true,[ai y6.1,ai y6.2.1,.ftr nz_ sI y6.2.2])] (D4 (Au Bx (Au Bx (Au (Bq .ftr) D5))) B8)))))))))) fun _ h=>Ae (kQ h (fun _ h=>Ab (Aa 17 (rsB 3 (rsU (tS ([[1,0,0,1],[0,1,1,0]])) [(oi 19 12,none),(oi 20 13,none)] (Ach (t:=.int) (yss:=[[1,0,0,1],[0,1,1,0]]) (Ei (t:=.int) (c:=oI 19 12 4) (ys:=[1,0,0,1]) kr (Ib (e:=3) kr rfl) (Ei (t:=.int) (c:=oI 20 13 4) (ys:=[0,1,1,0]) kr (Ib (e:=3) kr rfl) Sg)) kr) (rcH h (fun h=>G9 hz_ (Fh h)) fun y10 h=>rsB 1 (rnW (Ac (br_ (tr_ (jZ h [(true,[ai y10.1,ai y10.2.1,.ftr nz_ sI y10.2.2])] (D4 (Au Bx (Au Bx (Au (Bq .ftr) D5))) B8))))))))))) fun _ h=>Ae (kQ h (fun _ h=>Ab (Aa 21 (rsT 2 (rcH h (fun h=>G1 (Qa h)) fun y14 h=>rcH h (fun h=>G1 (Hm h)) fun y15 h=>rsB 2 (rnW (Ab (Am 36 (dsT 8 (dcH h (fun h=>G1 (Qa h)) fun y17 h=>ds0 (.box (oi 3 1) 1) kr (dsl (ai bC) kr (dcH h (fun h=>G9 hz_ (M4 h)) fun y18 h=>dcH h (fun h=>G9 hz_ (Fh h)) fun y19 h=>dcH h (fun h=>G9 hz_ (Aai h)) fun y20 h=>Ke (oi 4 2) (oi 4 2) (.cells 34 [ai y20.1,ai y20.2.1,.ftr nz_ sI y20.2.2]) kr (B4 (Ar kr) (tn_ (wr_ (Ac (br_ (tr_ (jZ h [(true,[ai y20.1,ai y20.2.1,.ftr nz_ sI y20.2.2])] (D4 (Au Bx (Au Bx (Au (Bq .ftr) D5))) B8))))))))))))))))))) fun _ h=>Aw (bn_ (tn_ (wr_ (Ab (Aa 20 (rsT 2 (rcH h (fun h=>G1 (Hm h)) fun y22 h=>rsB 2 (rnW (Ab (Am 32 (dsT 9 (dcH h (fun h=>G9 hz_ (M4 h)) fun y24 h=>dcH h (fun h=>G9 hz_ (Fh h)) fun y25 h=>Ke (oi 4 2) (oi 4 2) (.cells 34 [ai y25.1,ai y25.2.1,.ftr nz_ sI y25.2.2]) kr (B4 (Ar kr) (tn_ (wr_ (Ac (jZ h [(true,[ai y25.1,ai y25.2.1,.ftr nz_ sI y25.2.2])] (D4 (Au Bx (Au Bx (Au (Bq .ftr) D5))) B8))))))))))))))))))))))))
def G2 (u0:ByteArray) (u2:List (Int×Int×ByteArray)) (u3 u4:Int) (u5:LL) (u1:ByteArray):Option Bool :=
 some (u0.toList==u1.toList)
theorem Rh (h:G2 gA hA bA bB dA gB=some cA):cK 151 [.agg [.str gA,.tree Y8 hA,ai bA,ai bB,tS dA],.ref [.str gB]] (Ak cA):=by
 exact cO Tryz.func151 (Ae (Ae (Ac (jS h))))
def A8 (a0:List (ByteArray×(List (Int×Int×ByteArray))×Int×Int×LL)) (u1:ByteArray) (u0:Nat):Option (Ctl Nat (Ctl Unit Int)) :=
 cond (decide ((u0:Int)<(a0.length:Int)))
 ((a0[u0]?).bind fun x11 =>
 (G2 x11.1 x11.2.1 x11.2.2.1 x11.2.2.2.1 x11.2.2.2.2 u1).bind fun y12 =>
 cond y12
  (some (Ctl.out (Ctl.out (u0:Int))))
  (og (u0+1<4611686018427387904) <|
  some (Ctl.next (u0+1))))
 (some (Ctl.out (Ctl.next ())))
def Bc (a0:List (ByteArray×(List (Int×Int×ByteArray))×Int×Int×LL)) (u0:ByteArray):Option Int :=
 Cz (Aq (fun s_:Nat=>A8 a0 u0 s_) 4611686018427387904 0) fun _ =>
some (-1)
theorem Cl (h:Bc pA gA=some bA):cK 150 [.tree Yg pA,.fn 151 [.ref [.str gA]]] (A4 bA):=by
 refine cO Tryz.func150 (Ae (sqC h (fun _=>sT [] []) ?_ fun _ h=>Ae (Ac (jS h))));intro _ h hk2;refine Ae (Ad (lpF h (fun u1=>sT [(0,.tree Yg pA),(1,.fn 151 [.ref [.str gA]]),(7,an pA.length),(8,an u1)] []) (Ag []) ?_));intro n_ u1 c_ h hn4;refine Ae (Ab (kQ h (fun _ h=>skW (Ab (Ad (Ae (Ab (Aa 11 (rsT 3 (riH Yg h fun x11 _ h=>rsT 1 ?_)))))))) fun _ h=>lxT (have h:=jO h hn4;jC [])));obtain ⟨y12,h12,h⟩:=Ah h;exact Rz (.bool y12) [] [.agg [.str x11.1,.tree Y8 x11.2.1,ai x11.2.2.1,ai x11.2.2.2.1,tS x11.2.2.2.2],.ref [.str gA]] _ (caps:=[.ref [.str gA]]) (args0:=[.agg [.str x11.1,.tree Y8 x11.2.1,ai x11.2.2.1,ai x11.2.2.2.1,tS x11.2.2.2.2],.ref [.str gA]]) trivial kr (Rh h12) kr (rnW (kQ h (fun _ h=>Ae (Ac (br_ (tr_ (tr_ (br_ (tr_ (have h:=jO h hn4;(have h:=jO h hk2;jS h))))))))) fun _ h=>Aw (bn_ (tn_ (wr_ (Aa 13 (raH h fun h=>rsT 1 (An (tn_ (jL []))))))))))
def Ih (a0:List (ByteArray×(List (Int×Int×ByteArray))×Int×Int×LL)) (a1:ByteArray):Option (ByteArray×(List (Int×Int×ByteArray))×Int×Int×LL) :=
 (Bc a0 a1).bind fun y3 =>
(B2 a0 y3).bind fun x4 =>
some (x4.1,x4.2.1,x4.2.2.1,x4.2.2.2.1,x4.2.2.2.2)
def Se (r:ByteArray×(List (Int×Int×ByteArray))×Int×Int×LL):RV:=⟨false,[(true,[.sc (.str r.1),.imm (.tree Y8 r.2.1),.sc (.int .i64 r.2.2.1),.sc (.int .i64 r.2.2.2.1),.imm (tS r.2.2.2.2)])]⟩
theorem Sr (h:Ih pA gA=some jA):cK 93 [.tree Yg pA,.str gA] (Se jA):=by
 refine Xf kr Tryz.func93 (Cs kr) (fun nz_=>[.ftr nz_ Yg pA,.str gA]) (n:=11) kr (fun _=>by simp) (fun _=>⟨_,_,rfl,rfl,⟨_,_,rfl,⟨rfl,rfl⟩,rfl⟩⟩) (tl:=fun nz_=>[(0,.ftr nz_ Yg pA),(1,.str gA)]) (fun _=>rfl) fun zn_ nz_ hz_=>Ae (Ab (Aa 10 (rsT 3 (rcH h (fun h=>G1 (Cl h)) fun y3 h=>?_))))
 obtain ⟨x4,f4,h⟩:=Ah h;obtain ⟨p4,b4,e4⟩:=As f4;exact rs0 (.telt (some nz_) Yg x4 0) (zi (t:=Yg) (xs:=pA) (k:=.i64) (m:=y3) p4 e4) (rsB 2 (rnW (Ac (jZ h [(true,[.str x4.1,.ftr nz_ Y8 x4.2.1,ai x4.2.2.1,ai x4.2.2.2.1,.ftr nz_ sI x4.2.2.2.2])] (D4 (Au Bx (Au (Bq .ftr) (Au Bx (Au Bx (Au (Bq .ftr) D5))))) B8)))))
def F4 (a0:ByteArray) (u0:List (ByteArray×(List (Int×Int×ByteArray))×Int×Int×LL)):Option (Int×Int×LL) :=
 (Ih u0 a0).bind fun y3 =>
some (y3.2.2.1,y3.2.2.2.1,y3.2.2.2.2)
def Wt (r:Int×Int×LL):RV:=⟨false,[(true,[.sc (.int .i64 r.1),.sc (.int .i64 r.2.1),.imm (tS r.2.2)])]⟩
theorem Wk (h:F4 gA pA=some qA):cK 92 [.str gA,.ref [.tree Yg pA]] (Wt qA):=by
 refine Auo kr Tryz.func92 (Cs kr) (fun nz_=>[.str gA,.ref [.ftr nz_ Yg pA]]) (n:=8) kr (fun _=>by simp) (fun _=>⟨_,_,rfl,⟨rfl,rfl⟩,⟨_,_,rfl,⟨_,rfl,⟨_,_,rfl,rfl,rfl⟩⟩,rfl⟩⟩) (tl:=fun nz_=>[(0,.str gA),(1,.ref [.ftr nz_ Yg pA])]) (fun _=>rfl) fun zn_ nz_ hz_=>Ae (Ab (Aa 7 (rsT 2 ?_)))
 obtain ⟨y3,h3,h⟩:=Ah h;exact Ah1 (.agg [.str y3.1,.ftr nz_ Y8 y3.2.1,ai y3.2.2.1,ai y3.2.2.2.1,.ftr nz_ sI y3.2.2.2.2]) [] [.ftr nz_ Yg pA,.str gA] [.ftr nz_ Yg pA,.str gA] (caps:=[]) trivial (Az6 (args:=[.tree Yg pA,.str gA]) hz_ ⟨_,_,rfl,rfl,⟨_,_,rfl,⟨rfl,rfl⟩,rfl⟩⟩ (Sr h3)) kr (rsB 2 (rnW (Ac (jZ h [(true,[ai y3.2.2.1,ai y3.2.2.2.1,.ftr nz_ sI y3.2.2.2.2])] (D4 (Au Bx (Au Bx (Au (Bq .ftr) D5))) B8)))))
def Bo (u2:List (Int×Int×ByteArray)) (a0:Int) (u3:List (ByteArray×(List (Int×Int×ByteArray))×Int×Int×LL)) (u1:Nat) (u0:List (Int×Int×LL)):Option (Ctl (Nat×(List (Int×Int×LL))) (List (Int×Int×LL))) :=
 cond (decide ((u1:Int)<(u2.length:Int)))
 (((u2[u1]?).bind fun x12 =>
  cond (x12.1==15)
   (og ((0:Int)<=0/\0<=wI ((wI ((u0.length:Int) - 1)) - 1)/\wI ((wI ((u0.length:Int) - 1)) - 1)<=(u0.length:Int)) <|
   (B2 u0 (wI ((wI ((u0.length:Int) - 1)) - 1))).bind fun x18 =>
   (B2 u0 (wI ((wI ((u0.length:Int) - 1)) - 1))).bind fun x19 =>
   (B2 u0 (wI ((u0.length:Int) - 1))).bind fun x20 =>
   (B2 u0 (wI ((u0.length:Int) - 1))).bind fun x21 =>
   (Hy a0 x19.1 x19.2.1 x19.2.2 x21.1 x21.2.1 x21.2.2).bind fun y22 =>
   og ((wI ((wI ((u0.length:Int) - 1)) - 1)).toNat<=u0.length/\(wI ((wI ((u0.length:Int) - 1)) - 1)).toNat+1<=1073741824/\((wI ((wI ((u0.length:Int) - 1)) - 1)).toNat+1)*40<=140737488355328) <|
   some (u0.take ((wI ((wI ((u0.length:Int) - 1)) - 1)).toNat)++[y22]))
   (cond (x12.1==16)
    (og ((0:Int)<=0/\0<=wI ((wI ((u0.length:Int) - 1)) - 1)/\wI ((wI ((u0.length:Int) - 1)) - 1)<=(u0.length:Int)) <|
    (B2 u0 (wI ((wI ((u0.length:Int) - 1)) - 1))).bind fun x27 =>
    (B2 u0 (wI ((wI ((u0.length:Int) - 1)) - 1))).bind fun x28 =>
    (B2 u0 (wI ((u0.length:Int) - 1))).bind fun x29 =>
    (B2 u0 (wI ((u0.length:Int) - 1))).bind fun x30 =>
    (Kq a0 x28.1 x28.2.1 x28.2.2 x30.1 x30.2.1 x30.2.2).bind fun y31 =>
    og ((wI ((wI ((u0.length:Int) - 1)) - 1)).toNat<=u0.length/\(wI ((wI ((u0.length:Int) - 1)) - 1)).toNat+1<=1073741824/\((wI ((wI ((u0.length:Int) - 1)) - 1)).toNat+1)*40<=140737488355328) <|
    some (u0.take ((wI ((wI ((u0.length:Int) - 1)) - 1)).toNat)++[y31]))
    (cond (x12.1==17)
     ((F4 x12.2.2 u3).bind fun y35 =>
     og (u0.length+1<=1073741824/\(u0.length+1)*40<=140737488355328) <|
     some (u0++[y35]))
     ((Bd a0 x12.1 x12.2.1 x12.2.2).bind fun y37 =>
     og (u0.length+1<=1073741824/\(u0.length+1)*40<=140737488355328) <|
     some (u0++[y37]))))).bind fun u4 =>
 og (u1+1<4611686018427387904) <|
 some (Ctl.next (u1+1,u4)))
 (some (Ctl.out u0))
def C8 (a0:Int) (u0:List (Int×Int×ByteArray)) (u1:List (ByteArray×(List (Int×Int×ByteArray))×Int×Int×LL)):Option (Int×Int×LL) :=
 (Aq (fun s_:Nat×(List (Int×Int×LL))=>Bo u0 a0 u1 s_.1 s_.2) 4611686018427387904 (0,[])).bind fun u2 =>
(u2[0]?).bind fun x41 =>
(Gj x41.2.2).bind fun y43 =>
some (x41.1,x41.2.1,y43)
theorem Kx (h:C8 bA hA pA=some qA):Fw Tryz.prog Tab 91 [ai bA,.agg [.tree Y8 hA],.fn 92 [.ref [.tree Yg pA]]] [] (.agg [ai qA.1,ai qA.2.1,oS 1 1 qA.2.2.length]) [(oi 0 1,.cells 34 [ai qA.1,ai qA.2.1,oS 1 1 qA.2.2.length]),(oi 1 1,.mat 82 (oi 2 1) .int qA.2.2),(oi 2 1,.pool 3 .int qA.2.2)]:=by
 refine Cv kr Tryz.func91 (Cs kr) (n:=90) kr (by simp) rfl kr trivial ⟨trivial,⟨⟨3,.tail _ (.tail _ (.head _))⟩,⟨trivial,trivial⟩⟩⟩ (Ae (Ab (Aa 5 (Ia (.own (oi 12 3) Y9 0 0) (oi 12 3) (.vec 34 3 0 (tvC none Y9 [])) trivial (Cy kr) (rsT 1 (An (tn_ ⟨_,B1 (N:=0) (oi 12 3) 34 none Y9 [] kr rfl,sqF h (fun u3=>sT [(6,.box (oi 0 1) 0),(7,.own (oi 1 1) Y9 0 u3.length)] [(oi 0 1,.cells 34 [ai 0,ai 0,.nils]),(oi 1 1,.tv 34 none Y9 u3)]) ?_ ?_⟩)))))))
 ·intro _ h;refine Ae (Ad (lpF h (fun (u4,u0)=>sT [(0,ai bA),(2,.fn 92 [.ref [.tree Yg pA]]),(6,.box (oi 0 1) 0),(7,.own (oi 1 1) Y9 0 u0.length),(14,.tree Y8 hA),(15,an hA.length),(16,an u4)] [(oi 0 1,.cells 34 [ai 0,ai 0,.nils]),(oi 1 1,.tv 34 none Y9 u0)]) (Ag [(oi 0 1,oi 6 2),(oi 1 1,oi 12 3)]) ?_));rintro n_ ⟨u4,u0⟩ c_ h hn6
  (try dsimp only at h);refine Ae (Ab (kQ h (fun q9 h=>?_) fun q9 h=>?_))
  ·have q9_:=of_decide_eq_true q9;refine skW (sqF h (fun u5=>sT [(0,ai bA),(2,.fn 92 [.ref [.tree Yg pA]]),(6,.box (oi 0 1) 0),(7,.own (oi 1 1) Y9 0 u5.length),(14,.tree Y8 hA),(15,an hA.length),(16,an u4)] [(oi 0 1,.cells 34 [ai 0,ai 0,.nils]),(oi 1 1,.tv 34 none Y9 u5)]) ?_ ?_)
   ·intro _ h;refine Ad (Ab (Aa 7 (riH Y8 h fun x12 _ h=>rsB 3 (rnW (Ae (Ae (Ad (Ae (kQ h (fun _ h=>?_) fun _ h=>?_)))))))))
    ·refine Am 33 (dz0 (.own (oi 1 1) Y9 0 u0.length) (dz0 (ai (wI ((u0.length:Int) - 1))) (dz0 (ai (wI ((wI ((u0.length:Int) - 1)) - 1))) ?_)));obtain ⟨g17,h⟩:=Al h;obtain ⟨x18,f18,h⟩:=Ah h;obtain ⟨p18,b18,e18⟩:=As f18;obtain ⟨x19,f19,h⟩:=Ah h;obtain ⟨p19,b19,e19⟩:=As f19;obtain ⟨x20,f20,h⟩:=Ah h;obtain ⟨p20,b20,e20⟩:=As f20;obtain ⟨x21,f21,h⟩:=Ah h;obtain ⟨p21,b21,e21⟩:=As f21;obtain ⟨y22,h22,h⟩:=Ah h;obtain ⟨g23,h⟩:=Al h;refine ds0 (.own (oi 1 1) Y9 0 ((wI ((wI ((u0.length:Int) - 1)) - 1)).toNat)) (F9 (t:=Y9) (i:=oi 1 1) (off:=0) (len:=u0.length) (l:=0) (h:=wI ((wI ((u0.length:Int) - 1)) - 1)) kr kr kr rfl g17 rfl oM) (dsT 4 (ds0 (.elt (oi 1 1) ((wI ((wI ((u0.length:Int) - 1)) - 1)).toNat) 0) (zo (t:=Y9) (o:=oi 1 1) (len:=u0.length) (k:=.i64) (m:=wI ((wI ((u0.length:Int) - 1)) - 1)) p18 (Ai e18)) (dsl (.agg [ai x19.1,ai x19.2.1,tS x19.2.2]) (Tb (o:=oi 1 1) (k:=0) (e1:=34) (N:=List.length u0) (t:=Y9) (m:=none) (xs:=u0) (z:=x19) kr kr e19 kr (Nat.le_of_ble_eq_true kr)) (dz0 (.own (oi 1 1) Y9 0 u0.length) (dz0 (ai (wI ((u0.length:Int) - 1))) (ds0 (.elt (oi 1 1) ((wI ((u0.length:Int) - 1)).toNat) 0) (zo (t:=Y9) (o:=oi 1 1) (len:=u0.length) (k:=.i64) (m:=wI ((u0.length:Int) - 1)) p20 (Ai e20)) (dsl (.agg [ai x21.1,ai x21.2.1,tS x21.2.2]) (Tb (o:=oi 1 1) (k:=0) (e1:=34) (N:=List.length u0) (t:=Y9) (m:=none) (xs:=u0) (z:=x21) kr kr e21 kr (Nat.le_of_ble_eq_true kr)) (dzc (.agg [ai y22.1,ai y22.2.1,tS y22.2.2]) [] [ai bA,.agg [ai x19.1,ai x19.2.1,tS x19.2.2],.agg [ai x21.1,ai x21.2.1,tS x21.2.2]] (Z7 h22) (Al3 (.own (oi 48 30) Y9 0 1) (oi 48 30) (.vec 34 3 1 (tvC none Y9 ([y22]))) trivial (Cy kr) (ds2 (.own (oi 1 31) Y9 0 ((wI ((wI ((u0.length:Int) - 1)) - 1)).toNat+1)) (oi 1 1) (oi 1 31) (.vec 34 3 ((wI ((wI ((u0.length:Int) - 1)) - 1)).toNat+1) (tvC none Y9 (u0.take ((wI ((wI ((u0.length:Int) - 1)) - 1)).toNat)++[y22]))) (Ve (o:=oi 1 1) (q:=oi 48 30) (e2:=34) (t:=Y9) (t':=Y9) (t2:=Y9) (len:=(wI ((wI ((u0.length:Int) - 1)) - 1)).toNat) (N:=u0.length) (m:=none) (xs:=u0) (z:=y22) kr kr rfl kr kr g23) ?_))))))))));refine dz0 (.own (oi 1 31) Y9 0 ((wI ((wI ((u0.length:Int) - 1)) - 1)).toNat+1)) (B4 (Ar kr) (bn_ (bn_ (tn_ ?_))));obtain rfl:=zj h;exact (B1 (N:=(wI ((wI ((u0.length:Int) - 1)) - 1)).toNat+1) (oi 1 31) 34 none Y9 (u0.take ((wI ((wI ((u0.length:Int) - 1)) - 1)).toNat)++[y22]) kr (Oy rfl g23)).trans ((wL 7 ((Oy rfl g23):(wI ((wI ((u0.length:Int) - 1)) - 1)).toNat+1=(u0.take ((wI ((wI ((u0.length:Int) - 1)) - 1)).toNat)++[y22]).length)).trans (Ag [(oi 1 1,oi 1 31)]))
    refine Ae (kQ h (fun _ h=>?_) fun _ h=>?_)
    ·refine Am 35 (dz0 (.own (oi 1 1) Y9 0 u0.length) (dz0 (ai (wI ((u0.length:Int) - 1))) (dz0 (ai (wI ((wI ((u0.length:Int) - 1)) - 1))) ?_)));obtain ⟨g26,h⟩:=Al h;obtain ⟨x27,f27,h⟩:=Ah h;obtain ⟨p27,b27,e27⟩:=As f27;obtain ⟨x28,f28,h⟩:=Ah h;obtain ⟨p28,b28,e28⟩:=As f28;obtain ⟨x29,f29,h⟩:=Ah h;obtain ⟨p29,b29,e29⟩:=As f29;obtain ⟨x30,f30,h⟩:=Ah h;obtain ⟨p30,b30,e30⟩:=As f30;obtain ⟨y31,h31,h⟩:=Ah h;obtain ⟨g32,h⟩:=Al h;refine ds0 (.own (oi 1 1) Y9 0 ((wI ((wI ((u0.length:Int) - 1)) - 1)).toNat)) (F9 (t:=Y9) (i:=oi 1 1) (off:=0) (len:=u0.length) (l:=0) (h:=wI ((wI ((u0.length:Int) - 1)) - 1)) kr kr kr rfl g26 rfl oM) (dsT 4 (ds0 (.elt (oi 1 1) ((wI ((wI ((u0.length:Int) - 1)) - 1)).toNat) 0) (zo (t:=Y9) (o:=oi 1 1) (len:=u0.length) (k:=.i64) (m:=wI ((wI ((u0.length:Int) - 1)) - 1)) p27 (Ai e27)) (dsl (.agg [ai x28.1,ai x28.2.1,tS x28.2.2]) (Tb (o:=oi 1 1) (k:=0) (e1:=34) (N:=List.length u0) (t:=Y9) (m:=none) (xs:=u0) (z:=x28) kr kr e28 kr (Nat.le_of_ble_eq_true kr)) (dz0 (.own (oi 1 1) Y9 0 u0.length) (dz0 (ai (wI ((u0.length:Int) - 1))) (ds0 (.elt (oi 1 1) ((wI ((u0.length:Int) - 1)).toNat) 0) (zo (t:=Y9) (o:=oi 1 1) (len:=u0.length) (k:=.i64) (m:=wI ((u0.length:Int) - 1)) p29 (Ai e29)) (dsl (.agg [ai x30.1,ai x30.2.1,tS x30.2.2]) (Tb (o:=oi 1 1) (k:=0) (e1:=34) (N:=List.length u0) (t:=Y9) (m:=none) (xs:=u0) (z:=x30) kr kr e30 kr (Nat.le_of_ble_eq_true kr)) (dzc (.agg [ai y31.1,ai y31.2.1,tS y31.2.2]) [] [ai bA,.agg [ai x28.1,ai x28.2.1,tS x28.2.2],.agg [ai x30.1,ai x30.2.1,tS x30.2.2]] (Ae1 h31) (Al3 (.own (oi 67 32) Y9 0 1) (oi 67 32) (.vec 34 3 1 (tvC none Y9 ([y31]))) trivial (Cy kr) (ds2 (.own (oi 1 33) Y9 0 ((wI ((wI ((u0.length:Int) - 1)) - 1)).toNat+1)) (oi 1 1) (oi 1 33) (.vec 34 3 ((wI ((wI ((u0.length:Int) - 1)) - 1)).toNat+1) (tvC none Y9 (u0.take ((wI ((wI ((u0.length:Int) - 1)) - 1)).toNat)++[y31]))) (Ve (o:=oi 1 1) (q:=oi 67 32) (e2:=34) (t:=Y9) (t':=Y9) (t2:=Y9) (len:=(wI ((wI ((u0.length:Int) - 1)) - 1)).toNat) (N:=u0.length) (m:=none) (xs:=u0) (z:=y31) kr kr rfl kr kr g32) ?_))))))))));refine dz0 (.own (oi 1 33) Y9 0 ((wI ((wI ((u0.length:Int) - 1)) - 1)).toNat+1)) (B4 (Ar kr) (bn_ (bn_ (tn_ ?_))));obtain rfl:=zj h;exact (B1 (N:=(wI ((wI ((u0.length:Int) - 1)) - 1)).toNat+1) (oi 1 33) 34 none Y9 (u0.take ((wI ((wI ((u0.length:Int) - 1)) - 1)).toNat)++[y31]) kr (Oy rfl g32)).trans ((wL 7 ((Oy rfl g32):(wI ((wI ((u0.length:Int) - 1)) - 1)).toNat+1=(u0.take ((wI ((wI ((u0.length:Int) - 1)) - 1)).toNat)++[y31]).length)).trans (Ag [(oi 1 1,oi 1 33)]))
    refine Ae (kQ h (fun _ h=>?_) fun _ h=>?_)
    ·refine Aa 27 (rsT 4 ?_);obtain ⟨y35,h35,h⟩:=Ah h;refine Ah1 (.agg [ai y35.1,ai y35.2.1,tS y35.2.2]) [] [.str x12.2.2,.ref [.tree Yg pA]] _ (caps:=[.ref [.tree Yg pA]]) trivial (Wk h35) kr (Ia (.own (oi 76 24) Y9 0 1) (oi 76 24) (.vec 34 3 1 (tvC none Y9 ([y35]))) trivial (Cy kr) ?_);obtain ⟨g36,h⟩:=Al h;refine rs2 (.own (oi 1 25) Y9 0 (u0.length+1)) (oi 1 1) (oi 1 25) (.vec 34 3 (u0.length+1) (tvC none Y9 (u0++[y35]))) (Np (t':=Y9) (t:=Y9) (t2:=Y9) (e2:=34) (q:=oi 76 24) (m:=none) (z:=y35) (o:=oi 1 1) (xs:=u0) (len:=u0.length) kr kr rfl kr kr g36) (rsT 1 (An (bn_ (bn_ (tn_ ?_)))));obtain rfl:=zj h;exact (B1 (N:=u0.length+1) (oi 1 25) 34 none Y9 (u0++[y35]) kr (by simp)).trans ((wL 7 ((by simp):u0.length+1=(u0++[y35]).length)).trans (Ag [(oi 1 1,oi 1 25)]))
    refine Aa 26 (rsT 3 (rcH h Ur fun y37 h=>Ia (.own (oi 29 23) Y9 0 1) (oi 29 23) (.vec 34 3 1 (tvC none Y9 ([y37]))) trivial (Cy kr) ?_));obtain ⟨g38,h⟩:=Al h;refine rs2 (.own (oi 1 24) Y9 0 (u0.length+1)) (oi 1 1) (oi 1 24) (.vec 34 3 (u0.length+1) (tvC none Y9 (u0++[y37]))) (Np (t':=Y9) (t:=Y9) (t2:=Y9) (e2:=34) (q:=oi 29 23) (m:=none) (z:=y37) (o:=oi 1 1) (xs:=u0) (len:=u0.length) kr kr rfl kr kr g38) (rsT 1 (An (bn_ (bn_ (tn_ ?_)))));obtain rfl:=zj h;exact (B1 (N:=u0.length+1) (oi 1 24) 34 none Y9 (u0++[y37]) kr (by simp)).trans ((wL 7 ((by simp):u0.length+1=(u0++[y37]).length)).trans (Ag [(oi 1 1,oi 1 24)]))
   intro u5 h
   (try dsimp only at h);refine Aa 4 ?_;obtain ⟨g39,h⟩:=Al h;exact zA g39 (rsT 1 (An (tn_ (jL []))))
  have q9_:=of_decide_eq_false q9;refine lxT ?_;have h:=jO h hn6
  (try dsimp only at h);exact jE []
 intro u3 h
 (try dsimp only at h);refine Ab (Aa 7 (rsT 1 ?_));obtain ⟨x41,e41,h⟩:=Ah h;refine rs0 (.elt (oi 1 1) 0 0) (Tq (t:=Y9) (o:=oi 1 1) (len:=u3.length) (k:=.i64) (m:=0) kr kr rfl (by decide) rfl (Ai e41)) (rsl (.agg [ai x41.1,ai x41.2.1,tS x41.2.2]) (Tb (o:=oi 1 1) (k:=0) (e1:=34) (N:=List.length u3) (t:=Y9) (m:=none) (xs:=u3) (z:=x41) kr kr e41 kr (Nat.le_of_ble_eq_true kr)) (rsB 2 (rnW (Ab (Am 16 (dsT 6 (dcM h [] [tS x41.2.2] P6 trivial (aR kr) (A5 kr kr trivial) (Z5 kr) fun y43 h=>dz0 (.agg [ai x41.1,ai x41.2.1,oS 1408 13 y43.length]) (Ke (oi 0 1) (oi 0 1) (.cells 34 [ai x41.1,ai x41.2.1,oS 1408 13 y43.length]) kr (B4 ⟨Ww kr,⟨Ww kr,trivial⟩⟩ (tn_ (wr_ (Ac ?_))))))))))));obtain rfl:=zj h;exact H3 [.agg [ai x41.1,ai x41.2.1,oS 1 1 y43.length]] (Ag (tl:=[(6,.box (oi 0 1) 0)]) (g:=2) [(oi 1 1,oi 1408 13),(oi 2 1,oi 1409 13)])
def K6 (a0:Int) (a1:List (ByteArray×(List (Int×Int×ByteArray))×Int×Int×LL)) (u0:List (Int×Int×ByteArray)):Option (Int×Int×LL) :=
 (C8 a0 u0 a1).bind fun y3 =>
some (y3.1,y3.2.1,y3.2.2)
theorem Zy (h:K6 bA pA hA=some qA):cK 46 [ai bA,.tree Yg pA,.agg [.tree Y8 hA]] (C3 qA):=by
 exact cZ Tryz.func46 fun zn_ nz_ hz_=>Ae (Ab (Aa 9 (rsT 3 (rcM h [] [ai bA,.agg [.tree Y8 hA],.fn 92 [.box (oi 4 1) 0]] (fun h=>Ra (Kx h)) trivial (.cons (.ren kr) (.cons (.ren kr) (.cons (.gnd kr (Asm (Ap (Aiv (ty:=48) (cs:=[.tree Yg pA]) (es:=[.tree Yg pA]) ((Mu kr kr kr).trans kr) kr (Ap kr Br)) Br))) .nil))) (A5 kr kr trivial) fun y3 h=>rsB 1 (rnW (Ac (jZ h [(true,[ai y3.1,ai y3.2.1,oS 161 7 y3.2.2.length])] (D4 (Au Bx (Au Bx (Au (Bq (.mat (p:=oi 162 7) (e1:=82) (e:=3) kr (Cd kr) rfl)) D5))) B8))))))))
def Mo (a0:List Int) (u0:Nat):Option (Ctl Nat (Ctl Unit Int)) :=
 cond (decide ((u0:Int)<(a0.length:Int)))
 ((a0[u0]?).bind fun x10 =>
 cond (x10 !=0)
  (some (Ctl.out (Ctl.out (u0:Int))))
  (og (u0+1<4611686018427387904) <|
  some (Ctl.next (u0+1))))
 (some (Ctl.out (Ctl.next ())))
def Oj (a0:List Int):Option Int :=
 Cz (Aq (fun s_:Nat=>Mo a0 s_) 4611686018427387904 0) fun _ =>
some (a0.length:Int)
theorem Xo (h:Oj aA=some bA):cK 185 [tI aA] (A4 bA):=by
 exact cO Tryz.func185 (Ae (sqC h (fun _=>sT [(0,tI aA)] []) (fun _ h hk2=>Ae (Ad (lpF h (fun u0=>sT [(0,tI aA),(5,tI aA),(6,an aA.length),(7,an u0)] []) (Ag []) (fun n_ u0 c_ h hn4=>Ae (Ab (kQ h (fun _ h=>skW (Ab (Ad (Ab (Aa 8 (rsT 1 (riH .int h fun x10 _ h=>rsT 3 (rnW (Ae (kQ h (fun _ h=>Ae (Ac (br_ (tr_ (tr_ (br_ (tr_ (have h:=jO h hn4;(have h:=jO h hk2;jS h))))))))) fun _ h=>Aw (bn_ (tn_ (wr_ (Aa 12 (raH h fun h=>rsT 1 (An (tn_ (jL [])))))))))))))))))) fun _ h=>lxT (have h:=jO h hn4;jC []))))))) fun _ h=>Ae (Ac (jS h))))
def Q3 (a0:List Int):Option Bool :=
 (Oj a0).bind fun y3 =>
some (y3==(a0.length:Int))
theorem Add (h:Q3 aA=some cA):cK 186 [tI aA] (Ak cA):=by
 exact cO Tryz.func186 (Ae (Ab (Aa 8 (rsT 1 (rcH h Xo fun y3 h=>rsT 4 (rnW (Ac (jS h))))))))
def Fr (a1:LL) (a0:Int) (u0:Nat) (u1 u2:List Int):Option (Ctl (Nat×List Int×List Int) (List Int×List Int)) :=
 cond (decide ((u0:Int)<(a1.length:Int)))
 ((a1[u0]?).bind fun x13 =>
 (Oj x13).bind fun y15 =>
 (B2 u1 y15).bind fun x16 =>
 og (u2.length+1<=1073741824/\(u2.length+1)*8<=140737488355328) <|
 (Cc a0 u1 (wI (0 - x16)) x13).bind fun y19 =>
 og (y19.length=u1.length) <|
 og (u0+1<4611686018427387904) <|
 some (Ctl.next (u0+1,y19,u2++([x16]))))
 (some (Ctl.out (u1,u2)))
def Lj (a0:Int) (a1:LL) (a2:List Int):Option (List Int×Bool) :=
 (Mg a2).bind fun y3 =>
(Aq (fun s_:Nat×List Int×List Int=>Fr a1 a0 s_.1 s_.2.1 s_.2.2) 4611686018427387904 (0,y3,[])).bind fun (u0,u1) =>
(Q3 u0).bind fun y23 =>
some (u1,y23)
def Vq (r:List Int×Bool):RV:=⟨true,[(false,[.new 3 .int r.1]),(false,[.sc (.bool r.2)])]⟩
theorem Vn (h:Lj bA dA aA=some wA):cK 160 [ai bA,tS dA,tI aA] (Vq wA):=by
 refine cO Tryz.func160 (Ae (Ab (Aa 6 (rsT 1 (rcH h Vy fun y3 h=>rsT 1 (rnW (Ae (sqF h (fun (u1,u2)=>sT [(8,oI 0 1 u1.length),(9,oI 1 1 u2.length)] [(oi 0 1,.arr 3 .int u1),(oi 1 1,.arr 3 .int u2)]) ?_ ?_))))))))
 ·intro _ h;refine Ae (Ad (lpF h (fun (u4,u0,u3)=>sT [(0,ai bA),(8,oI 0 1 u0.length),(9,oI 1 1 u3.length),(16,tS dA),(17,an dA.length),(18,an u4)] [(oi 0 1,.arr 3 .int u0),(oi 1 1,.arr 3 .int u3)]) (Ag [(oi 0 1,oi 224 4),(oi 1 1,oi 15 6)]) ?_));rintro n_ ⟨u4,u0,u3⟩ c_ h hn7;refine Ae (Ab (kQ h (fun _ h=>skW (Ab (Ad (Ab (Aa 6 (riH sI h fun x13 _ h=>rsT 2 (rnW (Ab (Aa 12 (rsT 2 (rcH h Xo fun y15 h=>?_))))))))))) fun _ h=>lxT (have h:=jO h hn7;jE [])));obtain ⟨x16,f16,h⟩:=Ah h;obtain ⟨p16,b16,e16⟩:=As f16;refine rs0 (.elt (oi 0 1) y15.toNat 0) (zo (t:=.int) (o:=oi 0 1) (len:=u0.length) (k:=.i64) (m:=y15) p16 (Ai e16)) (zE (oi 0 1) e16 (rsT 1 (rnW (Ab (Aa 17 (rsB 3 ?_))))));obtain ⟨g18,h⟩:=Al h;refine zB (oi 1 1) (oi 29 14) u3 (x16) g18 (rsT 1 (rnW (Aa 23 (rsT 5 (rcM h [(oi 0 0,oi 0 1)] [ai bA,oI 0 1 u0.length,ai (wI (0 - x16)),tI x13] (fun h=>Jl h rfl) ⟨kr,trivial⟩ (aR kr) (A5 kr kr ⟨Cj kr,trivial⟩) fun y19 h=>An (bn_ (tn_ (wr_ (Aa 25 ?_)))))))));obtain ⟨g20,h⟩:=Al h;obtain ⟨g21,h⟩:=Al h;refine zA g21 (rsT 1 (An (tn_ ?_)));obtain rfl:=zj h;exact jLw hn7 ((wL 8 (g20.symm:u0.length=y19.length)).trans (Ag [(oi 1 1,oi 1 15)]))
 rintro ⟨u1,u2⟩ h;exact Ab (Aa 7 (rsT 2 (rcG h [oI 0 1 u1.length] Add (Ap (D6 (e:=3) kr rfl) Br) fun y23 h=>rsT 2 (rnW (Ac (jR h [oI 1 1 u2.length,.bool y23] (Gl rfl (Du kr rfl) (Gl rfl zl G8))))))))
def Mm (a0 u1 u2:Int) (u0:LL) (a2:List Int):Option Bool :=
 (Lj a0 u0 a2).bind fun y3 =>
some y3.2
theorem Abm (h:Mm bA bB bC dA aA=some cA):cK 107 [ai bA,.agg [ai bB,ai bC,tS dA],tI aA] (Ak cA):=by
 exact cO Tryz.func107 (Ae (Ab (Aa 13 (rsT 4 (rcH h Vn fun y3 h=>rsT 5 (rnW (Ae (Ac (jS h)))))))))
def Iq (u1:LL) (a0 u2 u3:Int) (u4:LL) (u0:Nat):Option (Ctl Nat (Ctl Unit (Sum Unit (List Int)))) :=
 cond (decide ((u0:Int)<(u1.length:Int)))
 ((u1[u0]?).bind fun x10 =>
 (Mm a0 u2 u3 u4 x10).bind fun y12 =>
 cond (!y12)
  (some (Ctl.out (Ctl.out (.inr x10))))
  (og (u0+1<4611686018427387904) <|
  some (Ctl.next (u0+1))))
 (some (Ctl.out (Ctl.next ())))
def Mw (a0 u0 u1:Int) (u2:LL) (u4 u5:Int) (u3:LL):Option (Sum Unit (List Int)) :=
 Cz (Aq (fun s_:Nat=>Iq u3 a0 u0 u1 u2 s_) 4611686018427387904 0) fun _ =>
some (.inl ())
def Abp:Sum Unit (List Int)->RV
 | .inl _=>⟨false,[(false,[.sc .nils])]⟩
 | .inr r=>⟨false,[(false,[.imm (tI r)])]⟩
theorem Ta (h:Mw bA bB bC dA bD bE dB=some xA):cK 59 [ai bA,.agg [ai bB,ai bC,tS dA],.agg [ai bD,ai bE,tS dB]] (Abp xA):=by
 exact Xf kr Tryz.func59 (Cs kr) (fun nz_=>[ai bA,.agg [ai bB,ai bC,.ftr nz_ sI dA],.agg [ai bD,ai bE,.ftr nz_ sI dB]]) (n:=23) kr (fun _=>by simp) (fun _=>⟨_,_,rfl,⟨rfl,rfl⟩,⟨_,_,rfl,⟨_,rfl,⟨_,_,rfl,⟨rfl,rfl⟩,⟨_,_,rfl,⟨rfl,rfl⟩,⟨_,_,rfl,rfl,rfl⟩⟩⟩⟩,⟨_,_,rfl,⟨_,rfl,⟨_,_,rfl,⟨rfl,rfl⟩,⟨_,_,rfl,⟨rfl,rfl⟩,⟨_,_,rfl,rfl,rfl⟩⟩⟩⟩,rfl⟩⟩⟩) (tl:=fun nz_=>[(0,ai bA),(1,.agg [ai bB,ai bC,.ftr nz_ sI dA]),(2,.agg [ai bD,ai bE,.ftr nz_ sI dB])]) (fun _=>rfl) fun zn_ nz_ hz_=>Ae (sqC h (fun _=>sT [] []) (fun _ h hk2=>Ae (Ad (lpF h (fun u6=>sT [(0,ai bA),(4,.box (oi 0 1) 0),(10,.ftr nz_ sI dB),(11,an dB.length),(12,an u6)] [(oi 0 1,.cells 34 [ai bB,ai bC,.ftr nz_ sI dA])]) (Ag [(oi 0 1,oi 4 1)]) (fun n_ u6 c_ h hn4=>Ae (Ab (kQ h (fun _ h=>skW (Ab (Ad (Ab (Aa 6 (riH sI h fun x10 _ h=>rsT 2 (rnW (Ab (Aa 11 (rsT 3 (rcH h (fun h=>G1 (Abm h)) fun y12 h=>rsT 1 (rnW (kQ h (fun _ h=>Ae (Ac (br_ (tr_ (tr_ (br_ (tr_ (have h:=jO h hn4;(have h:=jO h hk2;jZ h [(false,[.ftr nz_ .int x10])] (Ig (Bq .ftr) B8)))))))))) fun _ h=>Aw (bn_ (tn_ (wr_ (Aa 13 (raH h fun h=>rsT 1 (An (tn_ (jL []))))))))))))))))))))) fun _ h=>lxT (have h:=jO h hn4;jC []))))))) fun _ h=>Ae (Ac (jZ h [(false,[.nils])] (Ig Bx B8))))
end


section
section
variable {α β σ ρ:Type}
theorem Af1 {body:σ->Option (Ctl σ ρ)} {Post:ρ->Prop} (n:Nat) (I:Nat->σ->Prop)
  (hs:∀ i s,i<n->I i s->(∃ s',body s=some (.next s')/\I (i+1) s')∨∃ r,body s=some (.out r)/\Post r) (he:∀ s,I n s->∃ r,body s=some (.out r)/\Post r) :
  ∀ (F k:Nat) (s:σ),k<=n->n - k<F->I k s->∃ r,Aq body F s=some r/\Post r
 | 0,_,_,_,h,_=>by omega
 | F+1,k,s,hk,h,hi=>by
  have key:(∃ r,body s=some (.out r)/\Post r)->∃ r,Aq body (F+1) s=some r/\Post r:=by
   rintro ⟨r,h1,h2⟩;exact ⟨r,by simp only [Aq,h1,obs,Ctl.then],h2⟩
  rcases Nat.lt_or_ge k n with hlt|hge
  ·rcases hs k s hlt hi with ⟨s',h1,h2⟩|h
   ·obtain ⟨r,h3,h4⟩:=Af1 n I hs he F (k+1) s' hlt oM h2;exact ⟨r,by simp only [Aq,h1,obs,Ctl.then];exact h3,h4⟩
   ·exact key h
  ·obtain rfl:k=n:=by omega
   exact key (he s hi)
theorem I2 {body:σ->Option (Ctl σ ρ)} {Post:ρ->Prop} (n:Nat) (I:Nat->σ->Prop) {F:Nat} (hn:n<F) {s0:σ} (h0:I 0 s0)
  (hs:∀ i s,i<n->I i s->(∃ s',body s=some (.next s')/\I (i+1) s')∨∃ r,body s=some (.out r)/\Post r) (he:∀ s,I n s->∃ r,body s=some (.out r)/\Post r):∃ r,Aq body F s0=some r/\Post r :=
 Af1 n I hs he F 0 s0 (Nat.zero_le _) oM h0
theorem Hx {body:σ->Option (Ctl σ ρ)} (n:Nat) (I:Nat->σ->Prop) {F:Nat} (hn:n<F) {s0:σ} (r:ρ) (h0:I 0 s0)
  (hs:∀ i s,i<n->I i s->(∃ s',body s=some (.next s')/\I (i+1) s')∨body s=some (.out r)) (he:∀ s,I n s->body s=some (.out r)):Aq body F s0=some r:=by
 obtain ⟨r',h1,rfl⟩:=I2 (Post:=fun r'=>r'=r) n I hn h0 (fun i s hi hI=>(hs i s hi hI).imp id fun h=>⟨r,h,rfl⟩) (fun s h=>⟨r,he s h,rfl⟩);exact h1
theorem A7 {body:σ->Option (Ctl σ ρ)} (n:Nat) (S:Nat->σ) {F:Nat} (hn:n<F) {s0:σ} (r:ρ) (h0:s0=S 0) (hs:∀ i,i<n->body (S i)=some (.next (S (i+1)))) (he:body (S n)=some (.out r)):Aq body F s0=some r:=by
 subst h0;refine Hx n (fun i s=>s=S i) hn r rfl (fun i s hi e=>.inl ?_) (fun s e=>by subst e;exact he);subst e;exact ⟨_,hs i hi,rfl⟩
theorem G5 {body:Nat->Option (Ctl Nat ρ)} (xs:List α) (q:α->Bool) (good bad:ρ) {F:Nat} (hn:xs.length<F) (hs:∀ i x,xs[i]? =some x->body i=some (if q x then .next (i+1) else .out bad)) (he:body xs.length=some (.out good)):Aq body F 0=some (if xs.all q then good else bad):=by
 refine Hx xs.length (fun i s=>s=i/\(xs.take i).all q=true) hn _ ⟨rfl,by simp⟩ ?_ ?_
 ·rintro i s hi ⟨hsi,hq⟩;subst s;have hx:=gEg hi;rw [hs i _ hx];cases hc:q xs[i]
  ·refine .inr ?_
   have:xs.all q=false:=by
    rw [Bool.eq_false_iff];intro ha;rw [List.all_eq_true] at ha;rw [ha _ (List.getElem_mem hi)] at hc;cases hc
   rw [this];rfl
  ·refine .inl ⟨i+1,rfl,rfl,?_⟩;rw [List.take_add_one,List.all_append,hq,hx];simp [hc]
 ·rintro s ⟨rfl,hq⟩;rw [List.take_length] at hq;rw [he,hq];rfl
theorem Pd {body:Nat->Option (Ctl Nat ρ)} (xs:List α) (q:α->Bool) (none_:ρ) (g:Nat->ρ) {F:Nat} (hn:xs.length<F) (hs:∀ i x,xs[i]? =some x->body i=some (if q x then .out (g i) else .next (i+1))) (he:body xs.length=some (.out none_)) :
  (xs.any q=true/\∃ i,i<xs.length/\Aq body F 0=some (g i))∨(xs.any q=false/\Aq body F 0=some none_):=by
 have key:∃ r,Aq body F 0=some r/\((xs.any q=true/\∃ i,i<xs.length/\r=g i)∨(xs.any q=false/\r=none_)):=by
  refine I2 xs.length (fun i s=>s=i/\(xs.take i).any q=false) hn ⟨rfl,by simp⟩ ?_ ?_
  ·rintro i s hi ⟨hsi,hq⟩;subst s;have hx:=gEg hi;rw [hs i _ hx];cases hc:q xs[i]
   ·refine .inl ⟨i+1,rfl,rfl,?_⟩;rw [List.take_add_one,List.any_append,hq,hx];simp [hc]
   ·exact .inr ⟨_,rfl,.inl ⟨List.any_eq_true.2 ⟨_,List.getElem_mem hi,hc⟩,i,hi,rfl⟩⟩
  ·rintro s ⟨hsi,hq⟩;subst hsi;rw [List.take_length] at hq;exact ⟨_,he,.inr ⟨hq,rfl⟩⟩
 obtain ⟨r,h,⟨h1,i,hi,rfl⟩|⟨h1,rfl⟩⟩:=key
 ·exact .inl ⟨h1,i,hi,h⟩
 ·exact .inr ⟨h1,h⟩
theorem Da {body:Nat×List β->Option (Ctl (Nat×List β) ρ)} (xs:List α) (f:α->β) (ys:List β) {F:Nat} (hn:xs.length<F) (r:ρ) (hs:∀ i x,xs[i]? =some x->body (i,ys++(xs.take i).map f)=some (.next (i+1,(ys++(xs.take i).map f)++[f x]))) (he:body (xs.length,ys++xs.map f)=some (.out r)):Aq body F (0,ys)=some r:=by
 refine A7 xs.length (fun i=>(i,ys++(xs.take i).map f)) hn r (by simp) (fun i hi=>?_) (by rw [List.take_length];exact he);have hx:=gEg hi;rw [hs i _ hx,List.take_add_one,hx];simp only [List.map_append,Option.toList,List.map_cons,List.map_nil,List.append_assoc]
theorem U5 {xs:List α} {d:α} {i:Nat} (h:i<xs.length):(xs.take i++List.replicate (xs.length - i) d)[i]? =some d:=by
 have h1:(xs.take i).length=i:=by rw [List.length_take];omega
 rw [List.getElem?_append_right oM,h1,Nat.sub_self,List.getElem?_replicate,if_pos oM]
theorem Vb {xs:List α} {d x:α} {i:Nat} (h:xs[i]? =some x):(xs.take i++List.replicate (xs.length - i) d).set i x=xs.take (i+1)++List.replicate (xs.length - (i+1)) d:=by
 have hi:=(gSi.1 h).1;have e:xs.length - i=(xs.length - (i+1))+1:=by omega
 rw [List.take_add_one,h,e,List.replicate_succ,List.set_append,if_neg (by simp;omega)];simp [Nat.min_eq_left (Nat.le_of_lt hi)]
theorem R3 {xs ys:List α} {i:Nat} (h:i<xs.length) (hl:ys.length=i):(ys++xs.drop i)[i]? =some xs[i]:=by
 rw [List.getElem?_append_right oM,hl];simp [List.getElem?_drop,h]
theorem R7 {xs ys:List α} {y:α} {i:Nat} (h:i<xs.length) (hl:ys.length=i):(ys++xs.drop i).set i y=(ys++[y])++xs.drop (i+1):=by
 rw [List.set_append,if_neg oM,hl,Nat.sub_self,List.drop_eq_getElem_cons h,List.append_assoc];rfl
end
theorem Bg {n:Int} (h1: -9223372036854775808<=n) (h2:n<9223372036854775808):wI n=n:=Go.IntWalk.i64_in _ oM
theorem Av {p:Prop} [Decidable p] (h:p):decide p=true:=decide_eq_true h
theorem At {p:Prop} [Decidable p] (h:¬ p):decide p=false:=decide_eq_false h
end
section
theorem Nx (b:Bool):Cz (some (if b then Ctl.next () else Ctl.out false)) (fun _:Unit=>some true)=some b:=by cases b <;> rfl
theorem Re (x lo hi:Int):Cn x lo hi=some (inR x lo hi):=by
 unfold Cn inR;by_cases h:lo<=x <;> simp [h]
theorem Py (x lo hi:Int):B7 x lo hi=some (inR x lo hi):=by
 unfold B7 inR;by_cases h:lo<=x <;> simp [h]
theorem Avv (xs:List Int) (lo hi:Int) (hx:xs.length<=1099511627776):Fz xs lo hi=some (xs.all fun x=>inR x lo hi):=by
 unfold Fz;rw [G5 xs (fun x=>inR x lo hi) (.next ()) (.out false) oM (fun i x h=>?_) ?_,Nx]
 ·unfold Ov;rw [At oM,cond_false]
 ·have:=Ai h;unfold Ov;rw [Av oM,cond_true,h,obs,Re,obs,Af oM];cases inR x lo hi <;> rfl
theorem Avz {p:Int} (h:inR p 2 97=false):isF p=false:=by rcases Aqb.1 h with h|h <;> simp [isF] <;> omega
theorem Ug (p:Int):Gi p=some (isF p):=by
 unfold Gi;rw [Re,obs];cases hr:inR p 2 97
 ·rw [Avz hr];rfl
 rw [Bool.not_true,cond_false];obtain ⟨h1,h2⟩:=Ez.1 hr;obtain ⟨n,rfl⟩:=Int.eq_ofNat_of_zero_le (show 0<=p by omega)
 have h:Aq (fun s_:Nat=>Jh n s_) 4611686018427387904 2=some (if isF n then .next () else .out false):=by
  refine Hx 8 (fun i s=>s=i+2/\Ag5 n s=true) oM _ ⟨rfl,by simp [Ag5,List.range_succ]⟩ ?_ ?_
  ·rintro i s hi ⟨hs,hd⟩;unfold Jh;have hm:((s:Int)*(s:Int))=((s*s:Nat):Int):=by simp
   have hss:s*s<=9*9:=Nat.mul_le_mul oM oM;rw [hm,Bg oM oM];by_cases hle:s*s<=n
   ·rw [Av oM,cond_true,Af oM,show Int.tmod (n:Int) (s:Int)=((n % s:Nat):Int) from by rw [Int.tmod_eq_emod_of_nonneg oM];rfl];by_cases h0:n % s=0
    ·refine .inr ?_;rw [h0,Ave n oM s oM oM hle h0];rfl
    ·refine .inl ⟨s+1,?_,by omega,Al0 hd h0⟩;rw [show (((n % s:Nat):Int)==0)=false from by rw [beq_eq_false_iff_ne];omega,cond_false,Af oM]
   ·refine .inr ?_;rw [At oM,cond_false,Agx n oM oM s oM hd oM];rfl
  ·rintro s ⟨hs,hd⟩;obtain rfl:s=10:=by omega
   unfold Jh;rw [show wI (((10:Nat):Int)*((10:Nat):Int))=100 from Bg oM oM,At oM,cond_false,Agx n oM oM 10 oM hd oM];rfl
 rw [h,Nx]
theorem Aj0 (p x:Int):Jo p x=some (inR x 0 (p - 1)):=by
 unfold Jo inR;by_cases h:0<=x
 ·simp [h,show (x<p↔x<=p - 1) by omega]
 ·simp [h]
theorem Ax6 (p:Int) (xs:List Int) (hp:2<=p/\p<=97) (hx:xs.length<=1099511627776):Ql p xs=some (xs.all fun x=>inR x 0 (p - 1)):=by
 unfold Ql;rw [Bg oM oM,Avv _ _ _ hx];rfl
theorem Anb (p:Int) (xs:List Int) (n:Int) (hx:xs.length<=1099511627776):Lb p xs n=some (((xs.length:Nat):Int)==n&&xs.all fun x=>inR x 0 (p - 1)):=by
 unfold Lb;cases hn:((xs.length:Nat):Int)==n
 ·rw [show (((xs.length:Nat):Int) !=n)=true by simp only [bne,hn,Bool.not_false]];rfl
 rw [show (((xs.length:Nat):Int) !=n)=false by simp only [bne,hn,Bool.not_true],cond_false];rw [G5 xs (fun x=>inR x 0 (p - 1)) (.next ()) (.out false) oM (fun i x h=>?_) ?_,Nx,Bool.true_and]
 ·unfold Ld;rw [At oM,cond_false]
 ·have:=Ai h;unfold Ld;rw [Av oM,cond_true,h,obs,Aj0,obs,Af oM];cases inR x 0 (p - 1) <;> rfl
theorem Auv {p x:Int} (hp:2<=p/\p<=97):S5 p x=some (x % p):=by
 unfold S5;rw [Af oM]
 have e1:x.tmod p=if 0<=x∨x % p=0 then x % p else x % p - p:=by
  simp only [Int.tmod_eq_emod,Int.dvd_iff_emod_eq_zero];split <;> simp <;> omega
 have h1:=Int.emod_nonneg x (show p≠0 by omega);have h2:=Int.emod_lt_of_pos x (show 0<p by omega);by_cases h:x.tmod p<0
 ·rw [Av h,cond_true,obs,Bg oM oM];congr 1;split at e1 <;> omega
 ·rw [At h,cond_false,obs];congr 1;split at e1 <;> omega
theorem Aot (xs:List Int) (h:xs.length<=1000000):Mg xs=some xs:=by
 unfold Mg;rw [Af oM]
theorem Xl (xs:List Int) (h:xs.length<=1000000):Hh xs=some xs:=by
 unfold Hh;rw [Af oM]
theorem Aod {p x y:Int} (hp:2<=p/\p<=97) (hx:0<=x/\x<p) (hy:0<=y/\y<p):Ed p x y=some ((x+y) % p):=by
 unfold Ed;rw [Af oM,Bg oM oM,Int.tmod_eq_emod_of_nonneg oM]
theorem Afh {p x y:Int} (hp:2<=p/\p<=97) (hx:0<=x/\x<p) (hy:0<=y/\y<p):0<=x*y/\x*y<=10000:=by
 refine ⟨Int.mul_nonneg hx.1 hy.1,?_⟩;have h1:x*y<=97*y:=Int.mul_le_mul_of_nonneg_right oM hy.1;omega
theorem Ant {p x y:Int} (hp:2<=p/\p<=97) (hx:0<=x/\x<p) (hy:0<=y/\y<p):Mv p x y=some ((x*y) % p):=by
 have:=Afh hp hx hy;unfold Mv;rw [Af oM,Bg oM oM,Int.tmod_eq_emod_of_nonneg oM]
end
section
theorem Art (a b:ByteArray):(a.toList==b.toList)=(a.data.toList==b.data.toList):=by rw [ByteArray.toList_eq,ByteArray.toList_eq]
theorem Am4 (s:ByteArray) (i:Nat):s[i]? =s.data.toList[i]?:=by
 by_cases h:i<s.size
 ·rw [getElem?_pos s i h];have h':i<s.data.toList.length:=by simpa using h
  rw [gEg h'];rfl
 ·rw [getElem?_neg s i h,List.getElem?_eq_none (by simp;exact Nat.le_of_not_lt h)]
theorem Avw (s:ByteArray):s.size=s.data.toList.length:=by
 show s.data.size=_;exact Array.length_toList.symm
def loB (c:UInt8):Bool:=decide (97<=((c.toNat:Nat):Int))&&decide (((c.toNat:Nat):Int)<=122)
def dgB (c:UInt8):Bool:=decide (48<=((c.toNat:Nat):Int))&&decide (((c.toNat:Nat):Int)<=57)
theorem Agk (c:UInt8):I7 ((c.toNat:Nat):Int)=some (loB c):=by
 unfold I7 loB;cases decide (97<=((c.toNat:Nat):Int)) <;> rfl
theorem App (c:UInt8):Ms ((c.toNat:Nat):Int)=some (dgB c):=by
 unfold Ms dgB;cases decide (48<=((c.toNat:Nat):Int)) <;> rfl
def Ws:List ByteArray:=[(⟨#[105,100]⟩:ByteArray),(⟨#[115,119,97,112]⟩:ByteArray),(⟨#[99,111,112,121]⟩:ByteArray),(⟨#[100,105,115,99,97,114,100]⟩:ByteArray),(⟨#[97,100,100]⟩:ByteArray),(⟨#[122,101,114,111]⟩:ByteArray),(⟨#[115,99,97,108,101]⟩:ByteArray),(⟨#[100,101,108,97,121]⟩:ByteArray),(⟨#[99,111,99,111,112,121]⟩:ByteArray),(⟨#[99,111,100,105,115,99,97,114,100]⟩:ByteArray),(⟨#[99,111,97,100,100]⟩:ByteArray),(⟨#[99,111,122,101,114,111]⟩:ByteArray),(⟨#[99,111,115,99,97,108,101]⟩:ByteArray),(⟨#[99,111,100,101,108,97,121]⟩:ByteArray)]
theorem Am5:Mj=some Ws:=rfl
theorem Alc:Nh=some ((⟨#[]⟩:ByteArray) :: Ws):=rfl
theorem Ayr (l:List ByteArray) (hl:l.length<=1000) (s:ByteArray):Nr l s=some (l.any fun x=>x.toList==s.toList):=by
 unfold Nr
 have hs:∀ i x,l[i]? =some x->Fc l s i=some (if x.toList==s.toList then Ctl.out (Ctl.out true) else Ctl.next (i+1)):=fun i x h=>by
  have:=Ai h;unfold Fc;rw [Av oM,cond_true,h,obs,Af oM];cases x.toList==s.toList <;> rfl
 have he:Fc l s l.length=some (Ctl.out (Ctl.next ())):=by
  unfold Fc;rw [At oM,cond_false]
 rcases Pd (body:=fun s_:Nat=>Fc l s s_) l (fun x=>x.toList==s.toList) (Ctl.next ()) (fun i=>Ctl.out true) (F:=4611686018427387904) oM hs he with ⟨h1,i,hi,h2⟩|⟨h1,h2⟩
 ·rw [h2,h1];rfl
 ·rw [h2,h1];rfl
theorem Asa (s:ByteArray):∃ k:Int,Ny s=some k/\(k !=17)=(((⟨#[]⟩:ByteArray) :: Ws).any fun x=>x.toList==s.toList):=by
 unfold Ny;rw [Alc,obs];have hl:((⟨#[]⟩:ByteArray) :: Ws).length=15:=rfl;generalize ((⟨#[]⟩:ByteArray) :: Ws)=l at hl ⊢
 have hs:∀ i x,l[i]? =some x->Ff l s i=some (if x.toList==s.toList then Ctl.out (Ctl.out (i:Int)) else Ctl.next (i+1)):=fun i x h=>by
  have:=Ai h;unfold Ff;rw [Av oM,cond_true,h,obs,Af oM];cases x.toList==s.toList <;> rfl
 have he:Ff l s l.length=some (Ctl.out (Ctl.next ())):=by
  unfold Ff;rw [At oM,cond_false]
 rcases Pd (body:=fun s_:Nat=>Ff l s s_) l (fun x=>x.toList==s.toList) (Ctl.next ()) (fun i=>Ctl.out (i:Int)) (F:=4611686018427387904) oM hs he with ⟨h1,i,hi,h2⟩|⟨h1,h2⟩
 ·rw [h2,h1];exact ⟨_,rfl,by rw [bne_iff_ne];omega⟩
 ·rw [h2,h1];exact ⟨_,rfl,rfl⟩
theorem Ane (s:ByteArray):∃ b,H8 s=some b/\N0 s=some b:=by
 unfold H8 N0 Q5;rw [Py,Re];cases hr:inR ((s.size:Nat):Int) 1 8
 ·exact ⟨false,rfl,rfl⟩
 have hb:=Ez.1 hr;have hsz:=Avw s;obtain ⟨c,hc⟩:∃ c,s[0]? =some c:=⟨_,getElem?_pos s 0 oM⟩
 have hcl:s.data.toList[0]? =some c:=by rw [← Am4];exact hc
 rw [obs,obs,Bool.not_true,cond_false,cond_false,hc,obs,obs,Agk,obs,obs];cases hlo:loB c
 ·refine ⟨false,rfl,?_⟩
  have:(decide (((c.toNat:Nat):Int)<97))=true∨decide (122<((c.toNat:Nat):Int))=true:=by
   simp only [decide_eq_true_eq];simp only [loB,Bool.and_eq_false_iff,decide_eq_false_iff_not] at hlo;omega
  rcases this with h|h
  ·rw [h];rfl
  ·rw [h];cases decide (((c.toNat:Nat):Int)<97) <;> rfl
 have hlo':=hlo;simp only [loB,Bool.and_eq_true,decide_eq_true_eq] at hlo';obtain ⟨k,hk,hk2⟩:=Asa s;rw [hk,obs,Bool.not_true,cond_false,obs,hk2,At (show ¬ ((c.toNat:Nat):Int)<97 by omega),cond_false,At (show ¬ 122<((c.toNat:Nat):Int) by omega),obs,cond_false]
 have hne:((⟨#[]⟩:ByteArray).toList==s.toList)=false:=by
  rw [Art,beq_eq_false_iff_ne];intro e;rw [← e] at hcl;simp at hcl
 rw [List.any_cons,hne,Bool.false_or]
 -- the rest of the letters
 have hI:Aq (fun s_:Nat=>J8 s s_) 4611686018427387904 0=some (if s.data.toList.all (fun x=>loB x||dgB x) then Ctl.next () else Ctl.out false):=by
  refine G5 s.data.toList (fun x=>loB x||dgB x) (Ctl.next ()) (Ctl.out false) oM (fun i x h=>?_) ?_
  ·have:=Ai h;unfold J8;rw [Av oM,cond_true,Am4,h,obs,Agk,obs,obs,App,obs,Af oM];cases loB x <;> cases dgB x <;> rfl
  ·unfold J8;rw [At oM,cond_false]
 have hstep:∀ i x,s.data.toList[i]? =some x->Ce s i=some (if loB x||dgB x then Ctl.next (i+1) else Ctl.out (Ctl.out false)):=fun i x h=>by
  have:=Ai h;unfold Ce;rw [Av oM,cond_true,Am4,h];simp only [obs];rw [Af oM]
  have e:∀ n:Int,(cond (decide (n<97)) (cond (decide (n<48)) (some true) (some (decide (57<n)))) (cond (decide (122<n)) (cond (decide (n<48)) (some true) (some (decide (57<n)))) (some false)):Option Bool)=some (!((decide (97<=n)&&decide (n<=122))||(decide (48<=n)&&decide (n<=57)))):=by
   intro n;by_cases h1:n<97
   ·by_cases h2:n<48
    ·rw [Av h1,Av h2,At (show ¬ 97<=n by omega),At (show ¬ 48<=n by omega)];rfl
    ·by_cases h3:57<n
     ·rw [Av h1,At h2,Av h3,At (show ¬ 97<=n by omega),At (show ¬ n<=57 by omega),Bool.and_false];rfl
     ·rw [Av h1,At h2,At h3,At (show ¬ 97<=n by omega),Av (show 48<=n by omega),Av (show n<=57 by omega)];rfl
   ·by_cases h2:122<n
    ·rw [At h1,Av h2,At (show ¬ n<48 by omega),Av (show 57<n by omega),At (show ¬ n<=122 by omega),At (show ¬ n<=57 by omega),Bool.and_false,Bool.and_false];rfl
    ·rw [At h1,At h2,Av (show 97<=n by omega),Av (show n<=122 by omega)];rfl
  have e':=e ((x.toNat:Nat):Int);rw [e',obs];show cond (!(loB x||dgB x)) _ _=_;cases loB x||dgB x <;> rfl
 have hS0:Aq (fun s_:Nat=>Ce s s_) (4611686018427387904+1) 0=some (if s.data.toList.all (fun x=>loB x||dgB x) then Ctl.next () else Ctl.out false):=by
  refine G5 s.data.toList (fun x=>loB x||dgB x) (Ctl.next ()) (Ctl.out false) oM hstep ?_;unfold Ce;rw [At oM,cond_false]
 have hS:Aq (fun s_:Nat=>Ce s s_) 4611686018427387904 1=some (if s.data.toList.all (fun x=>loB x||dgB x) then Ctl.next () else Ctl.out false):=by
  rw [← hS0];have h0:Ce s 0=some (Ctl.next 1):=by rw [hstep 0 c hcl,hlo];rfl
  have hu:∀ n,Aq (fun s_:Nat=>Ce s s_) (n+1) 0=Aq (fun s_:Nat=>Ce s s_) n 1:=fun n=>by
   show (Ce s 0).bind _=_;rw [h0];rfl
  exact (hu _).symm
 rw [hI,hS,Am5,obs,Ayr Ws (by decide) s];generalize (Ws.any fun x=>x.toList==s.toList)=u;cases s.data.toList.all (fun x=>loB x||dgB x) <;> cases u <;> exact ⟨_,rfl,rfl⟩
end
section
abbrev Nd:=Int×Int×ByteArray
abbrev M7 (s:ByteArray):Bool:=s.toList==(⟨#[]⟩:ByteArray).toList
def Abl (k v:Int):Bool:=if k=7∨k=13 then inR v 0 96 else v==0
def lfW (n:Nd):Option (Int×Int) :=
 if M7 n.2.2=true then
  if n.1=1 then (if 0<=n.2.1/\n.2.1<=12 then some (n.2.1,n.2.1) else none)
  else if n.1=2 then (if n.2.1=0 then some (2,2) else none)
  else if 3<=n.1/\n.1<=14 then (if Abl n.1 n.2.1=true then some (gwV n.1) else none)
  else none
 else none
def okW (w:Int×Int):Prop:=(0<=w.1/\w.1<=12)/\(0<=w.2/\w.2<=12)
theorem Aya (k:Int):okW (gwV k):=by
 unfold gwV
 repeat' split
 all_goals exact ⟨⟨by decide,by decide⟩,⟨by decide,by decide⟩⟩
theorem Amg {n:Nd} {w:Int×Int} (h:lfW n=some w):okW w:=by
 unfold lfW at h;split at h
 ·split at h
  ·split at h
   ·rename_i h1;obtain rfl:=osj h;exact ⟨h1,h1⟩
   ·cases h
  ·split at h
   ·split at h
    ·obtain rfl:=osj h;exact ⟨⟨by decide,by decide⟩,⟨by decide,by decide⟩⟩
    ·cases h
   ·split at h
    ·split at h
     ·obtain rfl:=osj h;exact Aya _
     ·cases h
    ·cases h
 ·cases h
theorem Rv {n:Nd} {w:Int×Int} (h:lfW n=some w):1<=n.1/\n.1<=14:=by
 unfold lfW at h;split at h
 ·split at h
  ·omega
  ·split at h
   ·omega
   ·split at h
    ·omega
    ·cases h
 ·cases h
def lfL (lib:List (ByteArray×Int×Int×List Nd)) (n:Nd):Option (Int×Int) :=
 if n.1=17 then (if n.2.1=0 then (lib.find? fun d=>d.1.toList==n.2.2.toList).map fun d=>(d.2.1,d.2.2.1) else none) else lfW n
theorem Aw7:lfL []=lfW:=by
 funext n;unfold lfL;by_cases h:n.1=17
 ·rw [if_pos h];cases hw:lfW n with
  | some w=>have:=Rv hw;omega
  | none=>split <;> rfl
 ·rw [if_neg h]
theorem Zu {lib:List (ByteArray×Int×Int×List Nd)} (hl:∀ d∈lib,okW (d.2.1,d.2.2.1)) (n:Nd) (w:Int×Int) (h:lfL lib n=some w):okW w:=by
 unfold lfL at h;split at h
 ·split at h
  ·obtain ⟨d,hd,rfl⟩:=oms.1 h;exact hl d (List.mem_of_find?_eq_some hd)
  ·cases h
 ·exact Amg h
section
variable (lf:Nd->Option (Int×Int))
def Do (n:Nd) (T:List (Int×Int)):Option (List (Int×Int)) :=
 if n.1=15∨n.1=16 then
  if n.2.1=0/\M7 n.2.2=true then
   match T with
   | b :: a :: r=>if n.1=15 then (if a.2=b.1 then some ((a.1,b.2) :: r) else none) else (if a.1+b.1<=12/\a.2+b.2<=12 then some ((a.1+b.1,a.2+b.2) :: r) else none)
   | _=>none
  else none
 else (lf n).map (· :: T)
def Id:List Nd->List (Int×Int)->Option (List (Int×Int))
 | [],T=>some T
 | n :: r,T=>(Do lf n T).bind (Id r)
end
section
variable {lf:Nd->Option (Int×Int)}
def okT (T:List (Int×Int)):Prop:=∀ w∈T,okW w
theorem Pp (hlf:∀ n w,lf n=some w->okW w) {n:Nd} {T T':List (Int×Int)} (h:Do lf n T=some T') (hT:okT T):okT T':=by
 unfold Do at h;split at h
 ·split at h
  ·split at h
   ·rename_i b a r;have ha:=hT a (by simp);have hb:=hT b (by simp);have hr:okT r:=fun w hw=>hT w (by simp [hw])
    split at h
    ·split at h
     ·obtain rfl:=osj h;intro w hw;rcases List.mem_cons.1 hw with rfl|hw
      ·exact ⟨ha.1,hb.2⟩
      ·exact hr w hw
     ·cases h
    ·split at h
     ·rename_i h1;obtain rfl:=osj h;intro w hw;rcases List.mem_cons.1 hw with rfl|hw
      ·have:=ha.1;have:=hb.1;have:=ha.2;have:=hb.2;refine ⟨⟨?_,h1.1⟩,⟨?_,h1.2⟩⟩ <;> (try show (0:Int)<=_+_) <;> omega
      ·exact hr w hw
     ·cases h
   ·cases h
  ·cases h
 ·obtain ⟨w,hw,rfl⟩:=oms.1 h;intro v hv;rcases List.mem_cons.1 hv with rfl|hv
  ·exact hlf _ _ hw
  ·exact hT v hv
theorem Afg:∀ (xs ys:List Nd) (T:List (Int×Int)),Id lf (xs++ys) T=(Id lf xs T).bind (Id lf ys)
 | [],_,_=>rfl
 | n :: r,ys,T=>by
  show (Do lf n T).bind (Id lf (r++ys))=((Do lf n T).bind (Id lf r)).bind (Id lf ys);cases Do lf n T with
  | none=>rfl
  | some T'=>exact Afg r ys T'
theorem O9 {xs:List Nd} {k:Nat} {n:Nd} {T:List (Int×Int)} (h:xs[k]? =some n) (hT:Id lf (xs.take k) []=some T):Id lf (xs.take (k+1)) []=Do lf n T:=by
 rw [List.take_add_one,h,Afg,hT,obs];show (Do lf n T).bind (Id lf [])=_;cases Do lf n T <;> rfl
theorem Vi {xs:List Nd} {k:Nat} (h:Id lf (xs.take k) []=none):Id lf xs []=none:=by
 rw [← List.take_append_drop k xs,Afg,h];rfl
theorem Anu {xs:List Nd} {T:List (Int×Int)} (hx:xs≠[]) (h:Id lf xs []=some T):T≠[]:=by
 obtain ⟨k,hk⟩:∃ k,xs.length=k+1:=⟨xs.length - 1,by have:=List.length_pos_iff.2 hx;omega⟩
 have hl:xs.take xs.length=xs:=List.take_length;have hn:=gEg (show k<xs.length by omega);cases hp:Id lf (xs.take k) [] with
 | none=>rw [Vi hp] at h;cases h
 | some T0 =>
  have h2:=O9 hn hp;rw [← hk,hl,h] at h2;intro e;subst e;unfold Do at h2;split at h2
  ·split at h2
   ·split at h2
    ·split at h2 <;> split at h2 <;> cases h2
    ·cases h2
   ·cases h2
  ·cases hw:lf (xs[k]'oM) with
   | none=>rw [hw] at h2;cases h2
   | some w=>rw [hw] at h2;cases h2
end
def tyG (lf:Nd->Option (Int×Int)) (xs:List Nd):Option (Int×Int) :=
 if 1<=xs.length/\xs.length<=400 then (match Id lf xs [] with|some [w]=>some w|_=>none) else none
def tyV (xs:List Nd):Option (Int×Int):=tyG lfW xs
-- leaves on both sides
theorem As3 (n:Nd):∃ r:Int×Int×Bool,Fd n.1 n.2.1 n.2.2=some r/\match lfW n with|some w=>r=(w.1,w.2,true)|none=>r.2.2=false:=by
 obtain ⟨k,v,s⟩:=n;dsimp only;unfold Fd lfW;dsimp only;cases hs:M7 s
 ·have hs':(s.toList==(⟨#[]⟩:ByteArray).toList)=false:=hs;rw [hs'];exact ⟨_,rfl,rfl⟩
 have hs':(s.toList==(⟨#[]⟩:ByteArray).toList)=true:=hs;rw [hs',if_pos rfl,Bool.not_true,cond_false];by_cases h1:k=1
 ·subst h1;rw [beq_self_eq_true,cond_true,Py,if_pos rfl];by_cases h2:0<=v/\v<=12
  ·rw [if_pos h2,Ez.2 h2];exact ⟨_,rfl,rfl⟩
  ·rw [if_neg h2,show inR v 0 12=false by rw [Bool.eq_false_iff];intro e;exact h2 (Ez.1 e)];exact ⟨_,rfl,rfl⟩
 rw [beq_eq_false_iff_ne.2 h1,cond_false,if_neg h1];by_cases h2:k=2
 ·subst h2;rw [beq_self_eq_true,cond_true,if_pos rfl];by_cases h3:v=0
  ·subst h3;exact ⟨_,rfl,rfl⟩
  ·rw [if_neg h3,beq_eq_false_iff_ne.2 h3];exact ⟨_,rfl,rfl⟩
 rw [beq_eq_false_iff_ne.2 h2,cond_false,if_neg h2];unfold Li;rw [Py];by_cases h3:3<=k/\k<=14
 ·rw [if_pos h3,Ez.2 h3,obs,obs,cond_true];unfold Dz G0 Ey;rw [Af h3,obs];by_cases h7:k=7∨k=13
  ·have e:cond (k==7) (some true) (some (k==13))=some true:=by
    rcases h7 with rfl|rfl <;> rfl
   rw [e,obs,obs,cond_true,Py,show Abl k v=inR v 0 96 from if_pos h7];cases inR v 0 96 <;> exact ⟨_,rfl,rfl⟩
  ·have e:cond (k==7) (some true) (some (k==13))=some false:=by
    rw [beq_eq_false_iff_ne.2 (fun e=>h7 (.inl e)),beq_eq_false_iff_ne.2 (fun e=>h7 (.inr e))];rfl
   rw [e,obs,obs,cond_false,show Abl k v=(v==0) from if_neg h7];cases v==0 <;> exact ⟨_,rfl,rfl⟩
 ·rw [if_neg h3,show inR k 3 14=false by rw [Bool.eq_false_iff];intro e;exact h3 (Ez.1 e)];exact ⟨_,rfl,rfl⟩
theorem Asj (n:Nd):Kt n.1 n.2.1 n.2.2=some (lfW n).isSome:=by
 obtain ⟨k,v,s⟩:=n;dsimp only;unfold Kt lfW;dsimp only;cases hs:M7 s
 ·have hs':(s.toList==(⟨#[]⟩:ByteArray).toList)=false:=hs;rw [hs'];rfl
 have hs':(s.toList==(⟨#[]⟩:ByteArray).toList)=true:=hs;rw [hs',if_pos rfl,Bool.not_true,cond_false,Re,obs];by_cases h0:1<=k/\k<=14
 ·rw [Ez.2 h0,obs,Bool.not_true,cond_false];by_cases h1:k=1
  ·subst h1;rw [beq_self_eq_true,cond_true,Re,if_pos rfl];by_cases h2:0<=v/\v<=12
   ·rw [if_pos h2,Ez.2 h2];rfl
   ·rw [if_neg h2,show inR v 0 12=false by rw [Bool.eq_false_iff];intro e;exact h2 (Ez.1 e)];rfl
  rw [beq_eq_false_iff_ne.2 h1,cond_false,if_neg h1];by_cases h7:k=7∨k=13
  ·have e:cond (k==7) (some (k==7)) (some (k==13))=some true:=by
    rcases h7 with rfl|rfl <;> rfl
   rw [e,obs,cond_true,Re,if_neg oM,if_pos oM,show Abl k v=inR v 0 96 from if_pos h7];cases inR v 0 96 <;> rfl
  ·have e:cond (k==7) (some (k==7)) (some (k==13))=some false:=by
    rw [beq_eq_false_iff_ne.2 (fun e=>h7 (.inl e)),beq_eq_false_iff_ne.2 (fun e=>h7 (.inr e))];rfl
   rw [e,obs,cond_false];by_cases h2:k=2
   ·rw [if_pos h2];by_cases h3:v=0
    ·rw [if_pos h3,beq_iff_eq.2 h3];rfl
    ·rw [if_neg h3,beq_eq_false_iff_ne.2 h3];rfl
   ·rw [if_neg h2,if_pos oM,show Abl k v=(v==0) from if_neg h7];cases v==0 <;> rfl
 ·rw [show inR k 1 14=false by rw [Bool.eq_false_iff];intro e;exact h0 (Ez.1 e),if_neg oM,if_neg oM,if_neg oM];rfl
theorem Av5 {n:Nd} {w:Int×Int} (h:lfW n=some w):G3 n.1 n.2.1 n.2.2=some w:=by
 have hk:=Rv h;obtain ⟨k,v,s⟩:=n;dsimp only at hk ⊢;unfold lfW at h;dsimp only at h;unfold G3 H6;split at h
 ·split at h
  ·rename_i h1;subst h1;split at h
   ·obtain rfl:=osj h;rfl
   ·cases h
  ·rename_i h1;rw [beq_eq_false_iff_ne.2 h1,cond_false];split at h
   ·rename_i h2;subst h2;split at h
    ·obtain rfl:=osj h;rfl
    ·cases h
   ·split at h
    ·split at h
     ·obtain rfl:=osj h;have hk':k=3∨k=4∨k=5∨k=6∨k=7∨k=8∨k=9∨k=10∨k=11∨k=12∨k=13∨k=14:=by omega
      rcases hk' with rfl|rfl|rfl|rfl|rfl|rfl|rfl|rfl|rfl|rfl|rfl|rfl <;> rfl
     ·cases h
    ·cases h
 ·cases h
end
section
theorem A0k {a b:Int×Int} {r:List (Int×Int)}:(b :: a :: r).reverse=r.reverse++[a,b]:=by simp
theorem Avq {a b:Int×Int} {r:List (Int×Int)}:(r.reverse++[a,b])[r.length]? =some a/\(r.reverse++[a,b])[r.length+1]? =some b:=by
 constructor
 ·rw [List.getElem?_append_right (by simp),List.length_reverse,Nat.sub_self];rfl
 ·rw [List.getElem?_append_right (by simp),List.length_reverse,Nat.add_sub_cancel_left];rfl
theorem Ayq {k:Int} {a b:Int×Int} (ha:okW a) (hb:okW b):Fg k a.1 a.2 b.1 b.2=some (if k=15 then (a.1,b.2,a.2==b.1) else (a.1+b.1,a.2+b.2,decide (a.1+b.1<=12)&&decide (a.2+b.2<=12))):=by
 obtain ⟨⟨a1,a2⟩,a3,a4⟩:=ha;obtain ⟨⟨b1,b2⟩,b3,b4⟩:=hb;unfold Fg M6;by_cases h:k=15
 ·rw [if_pos h,beq_iff_eq.2 h];rfl
 ·rw [if_neg h,beq_eq_false_iff_ne.2 h,cond_false,Bg (n:=a.1+b.1) oM oM,Bg (n:=a.2+b.2) oM oM];cases decide (a.1+b.1<=12) <;> rfl
def Av4 (leaf:Int->Int->ByteArray->Option (Int×Int×Bool)) (a0:List (Int×Int×ByteArray)) (l10_m22:Nat) (l10_m6:List (Int×Int)):Option (Ctl (Nat×(List (Int×Int))) (Ctl (List (Int×Int)) (Int×Int×Bool))) :=
 cond (decide (((l10_m22:Nat):Int)<((a0.length:Nat):Int)))
 (Cz (Option.bind (a0[l10_m22]?) fun x16 =>
  Option.bind (cond (x16.1 !=15)
   (some (x16.1 !=16))
   (some false)) fun l18_m33 =>
  cond l18_m33
   (Option.bind (leaf x16.1 x16.2.1 x16.2.2) fun y22 =>
   cond (!y22.2.2)
    (some (Ctl.out (Ctl.out (Ctl.out (0,0,false)))))
    (og (l10_m6.length+1<=1073741824/\(l10_m6.length+1)*16<=140737488355328) <|
    some (Ctl.next (l10_m6++([(y22.1,y22.2.1)])))))
   (Option.bind (cond (x16.2.1 !=0)
    (some true)
    (cond (!(x16.2.2.toList==(⟨#[]⟩:ByteArray).toList))
     (some true)
     (some (decide (((l10_m6.length:Nat):Int)<2))))) fun l30_m59 =>
   cond l30_m59
    (some (Ctl.out (Ctl.out (Ctl.out (0,0,false)))))
    (Option.bind (B2 l10_m6 (wI ((wI (((l10_m6.length:Nat):Int) - 1)) - 1))) fun x37 =>
    Option.bind (B2 l10_m6 (wI ((wI (((l10_m6.length:Nat):Int) - 1)) - 1))) fun x38 =>
    Option.bind (B2 l10_m6 (wI (((l10_m6.length:Nat):Int) - 1))) fun x39 =>
    Option.bind (B2 l10_m6 (wI (((l10_m6.length:Nat):Int) - 1))) fun x40 =>
    Option.bind (Fg x16.1 x38.1 x38.2 x40.1 x40.2) fun y41 =>
    cond (!y41.2.2)
     (some (Ctl.out (Ctl.out (Ctl.out (0,0,false)))))
     (og ((0:Int)<=0/\0<=wI ((wI (((l10_m6.length:Nat):Int) - 1)) - 1)/\wI ((wI (((l10_m6.length:Nat):Int) - 1)) - 1)<=((l10_m6.length:Nat):Int)) <|
     og (((l10_m6.take ((wI ((wI (((l10_m6.length:Nat):Int) - 1)) - 1)).toNat)).length)+1<=1073741824/\(((l10_m6.take ((wI ((wI (((l10_m6.length:Nat):Int) - 1)) - 1)).toNat)).length)+1)*16<=140737488355328) <|
     some (Ctl.next ((l10_m6.take ((wI ((wI (((l10_m6.length:Nat):Int) - 1)) - 1)).toNat))++([(y41.1,y41.2.1)]))))))) fun l14_m6 =>
 og (l10_m22+1<4611686018427387904) <|
 some (Ctl.next (l10_m22+1,l14_m6)))
 (some (Ctl.out (Ctl.next l10_m6)))
section
variable {lf:Nd->Option (Int×Int)} {leaf:Int->Int->ByteArray->Option (Int×Int×Bool)}
theorem Azn (hlf:∀ n w,lf n=some w->okW w) {xs:List Nd} (hleaf:∀ n∈xs,n.1≠15->n.1≠16->∃ r:Int×Int×Bool,leaf n.1 n.2.1 n.2.2=some r/\match lf n with|some w=>r=(w.1,w.2,true)|none=>r.2.2=false) (hx:1<=xs.length/\xs.length<=400):Aq (fun s_:Nat×List (Int×Int)=>Av4 leaf xs s_.1 s_.2) 4611686018427387904 (0,[])=some (match Id lf xs [] with|some T=>Ctl.next T.reverse|none=>Ctl.out (0,0,false)):=by
 refine Hx xs.length (fun k s=>∃ T,s=(k,T.reverse)/\Id lf (xs.take k) []=some T/\okT T/\T.length<=k) oM _ ⟨[],rfl,rfl,(fun _ h=>by cases h),Nat.le_refl _⟩ ?_ ?_
 ·rintro k s hk ⟨T,rfl,hT,hok,hlen⟩;have hn:=gEg hk;generalize xs[k]=n at hn;have hnext:=O9 hn hT;have hfail:Do lf n T=none->Id lf xs []=none:=fun h=>Vi (k:=k+1) (by rw [hnext,h])
  have hlr:T.reverse.length=T.length:=by simp
  try dsimp only
  unfold Av4;rw [Av oM,cond_true,hn,obs];by_cases hj:n.1=15∨n.1=16
  ·have e:(cond (n.1 !=15) (some (n.1 !=16)) (some false):Option Bool)=some false:=by
    rcases hj with h|h <;> rw [h] <;> rfl
   rw [e,obs,cond_false];by_cases hv:n.2.1=0/\M7 n.2.2=true
   ·have hs':(n.2.2.toList==(⟨#[]⟩:ByteArray).toList)=true:=hv.2;rw [hv.1,hs',show ((0:Int) !=0)=false from rfl,cond_false,Bool.not_true,cond_false,obs,hlr]
    match T,hT,hok,hlen,hnext,hfail with
    | [],hT,hok,hlen,hnext,hfail =>
     refine .inr ?_;rw [hfail (by unfold Do;rw [if_pos hj,if_pos hv]),Av (by simp),cond_true];rfl
    | [b],hT,hok,hlen,hnext,hfail =>
     refine .inr ?_;rw [hfail (by unfold Do;rw [if_pos hj,if_pos hv]),Av (by simp),cond_true];rfl
    | b :: a :: r,hT,hok,hlen,hnext,hfail =>
     have hb:=hok b (by simp);have ha:=hok a (by simp);have hl2:(b :: a :: r).length=r.length+2:=by simp
     have w1:wI (((r.length+2:Nat):Int) - 1)=((r.length+1:Nat):Int):=by rw [Bg oM oM];omega
     have w2:wI (((r.length+1:Nat):Int) - 1)=((r.length:Nat):Int):=by rw [Bg oM oM];omega
     obtain ⟨g1,g2⟩:=Avq (a:=a) (b:=b) (r:=r);rw [hl2,At oM,cond_false,w1,w2,A0k,B0 oM,Int.toNat_natCast,g1,obs,obs,B0 oM,Int.toNat_natCast,g2,obs,obs,Ayq ha hb,obs];have htake:(r.reverse++[a,b]).take r.length=r.reverse:=List.take_left' (by simp)
     have hst:Do lf n (b :: a :: r)=if n.1=15 then (if a.2=b.1 then some ((a.1,b.2) :: r) else none) else (if a.1+b.1<=12/\a.2+b.2<=12 then some ((a.1+b.1,a.2+b.2) :: r) else none):=by
      unfold Do;rw [if_pos hj,if_pos hv]
     have hfin:∀ w:Int×Int,Do lf n (b :: a :: r)=some (w :: r)->∃ s',(Cz (og ((0:Int)<=0/\0<=((r.length:Nat):Int)/\((r.length:Nat):Int)<=((r.length+2:Nat):Int)) (og ((((r.reverse++[a,b]).take r.length).length)+1<=1073741824/\((((r.reverse++[a,b]).take r.length).length)+1)*16<=140737488355328) (some (Ctl.next (((r.reverse++[a,b]).take r.length)++([(w.1,w.2)])):Ctl (List (Int×Int)) (Ctl (Nat×(List (Int×Int))) (Ctl (List (Int×Int)) (Int×Int×Bool))))))) fun l14_m6=>og (k+1<4611686018427387904) (some (Ctl.next (k+1,l14_m6))))=some (.next s')/\∃ T,s'=(k+1,T.reverse)/\Id lf (xs.take (k+1)) []=some T/\okT T/\T.length<=k+1:=fun w hw=>by
      refine ⟨(k+1,r.reverse++[w]),?_,w :: r,by simp,by rw [hnext,hw],Pp hlf hw hok,by simp at hlen ⊢;omega⟩;rw [Af oM,htake,Af (by simp at hlen ⊢;omega)];simp only [Cz,obs,Ctl.then];rw [Af oM]
     by_cases h15:n.1=15
     ·rw [if_pos h15];rw [if_pos h15] at hst;dsimp only;by_cases hab:a.2=b.1
      ·rw [if_pos hab] at hst;rw [beq_iff_eq.2 hab,Bool.not_true,cond_false];exact .inl (hfin (a.1,b.2) hst)
      ·rw [if_neg hab] at hst;rw [beq_eq_false_iff_ne.2 hab,hfail hst];exact .inr rfl
     ·rw [if_neg h15];rw [if_neg h15] at hst;dsimp only;by_cases hab:a.1+b.1<=12/\a.2+b.2<=12
      ·rw [if_pos hab] at hst;rw [Av hab.1,Av hab.2,Bool.and_true,Bool.not_true,cond_false];exact .inl (hfin (a.1+b.1,a.2+b.2) hst)
      ·rw [if_neg hab] at hst
       have e:(decide (a.1+b.1<=12)&&decide (a.2+b.2<=12))=false:=by
        rw [Bool.eq_false_iff];intro h;simp only [Bool.and_eq_true,decide_eq_true_eq] at h;exact hab h
       rw [e,hfail hst];exact .inr rfl
   ·refine .inr ?_;rw [hfail (by unfold Do;rw [if_pos hj,if_neg hv])];by_cases h0:n.2.1=0
    ·have hs':(n.2.2.toList==(⟨#[]⟩:ByteArray).toList)=false:=by
      rw [Bool.eq_false_iff];intro h;exact hv ⟨h0,h⟩
     rw [h0,hs'];rfl
    ·rw [show (n.2.1 !=0)=true by rw [bne_iff_ne];exact h0];rfl
  ·have h15:n.1≠15:=fun e=>hj (.inl e)
   have h16:n.1≠16:=fun e=>hj (.inr e)
   have e:(cond (n.1 !=15) (some (n.1 !=16)) (some false):Option Bool)=some true:=by
    rw [bne_iff_ne.2 h15,cond_true,bne_iff_ne.2 h16]
   rw [e,obs,cond_true];have hst:Do lf n T=(lf n).map (· :: T):=if_neg hj;obtain ⟨r,hr,hm⟩:=hleaf n (List.mem_of_getElem? hn) h15 h16;rw [hr,obs];cases hw:lf n with
   | none =>
    rw [hw] at hm hst;dsimp only at hm;rw [hm,hfail hst];exact .inr rfl
   | some w =>
    rw [hw] at hm hst;dsimp only at hm;subst hm;refine .inl ⟨(k+1,T.reverse++[w]),?_,w :: T,by simp,by rw [hnext,hst];rfl,Pp hlf hst hok,by simp;omega⟩;rw [Bool.not_true,cond_false,Af (by rw [hlr];omega)];simp only [Cz,obs,Ctl.then];rw [Af oM]
 ·rintro s ⟨T,rfl,hT,hok,hlen⟩;rw [List.take_length] at hT;rw [hT]
  try dsimp only
  unfold Av4;rw [At oM,cond_false]
theorem Axk (hlf:∀ n w,lf n=some w->okW w) {xs:List Nd} (hleaf:∀ n∈xs,n.1≠15->n.1≠16->∃ r:Int×Int×Bool,leaf n.1 n.2.1 n.2.2=some r/\match lf n with|some w=>r=(w.1,w.2,true)|none=>r.2.2=false) :
  ∃ r:Int×Int×Bool,(Option.bind (B7 ((xs.length:Nat):Int) 1 400) fun y4=>cond (!y4) (some (0,0,false)) (Cz (Aq (fun s_:Nat×(List (Int×Int))=>Av4 leaf xs s_.1 s_.2) 4611686018427387904 (0,[])) fun l8_m6=>Option.bind (l8_m6[0]?) fun x50=>some (x50.1,x50.2,((l8_m6.length:Nat):Int)==1)))=some r/\match tyG lf xs with|some w=>r=(w.1,w.2,true)|none=>r.2.2=false:=by
 unfold tyG;rw [Py];by_cases hx:1<=xs.length/\xs.length<=400
 ·rw [Ez.2 (show (1:Int)<=((xs.length:Nat):Int)/\((xs.length:Nat):Int)<=400 by omega),obs,Bool.not_true,cond_false,if_pos hx,Azn hlf hleaf hx];cases hr:Id lf xs [] with
  | none=>exact ⟨_,rfl,rfl⟩
  | some T =>
   have hne:=Anu (fun e=>by subst e;simp at hx) hr;dsimp only [Cz,obs,Ctl.then]
   match T,hne with
   | [w],_=>exact ⟨_,rfl,rfl⟩
   | a :: b :: r,_ =>
    obtain ⟨c,hc⟩:∃ c,(a :: b :: r).reverse[0]? =some c:=⟨_,gEg (by simp)⟩
    rw [hc];refine ⟨_,rfl,?_⟩;show ((((a :: b :: r).reverse.length:Nat):Int)==1)=false;rw [beq_eq_false_iff_ne];simp;omega
 ·rw [if_neg hx,show inR ((xs.length:Nat):Int) 1 400=false by rw [Bool.eq_false_iff];intro e;have:=Ez.1 e;exact hx oM];exact ⟨_,rfl,rfl⟩
end
theorem Ao5 (xs:List Nd):∃ r:Int×Int×Bool,Gg xs=some r/\match tyV xs with|some w=>r=(w.1,w.2,true)|none=>r.2.2=false:=by
 obtain ⟨r,h,hm⟩:=Axk (lf:=lfW) (leaf:=Fd) (xs:=xs) (fun _ _ h=>Amg h) fun n _ _ _=>As3 n
 refine ⟨r,?_,hm⟩;unfold Gg;rw [show Dw xs=some r from h];rfl
end
section
def SRel (F I O:List Int):Nat->List (Int×Int)->Prop
 | k,[]=>k=0
 | k,w :: T=>∃ j:Nat,j<k/\F[k - 1]? =some (j:Int)/\I[k - 1]? =some w.1/\O[k - 1]? =some w.2/\SRel F I O j T
theorem Aid {l:List Int} {k:Nat} {x y:Int} (h:l[k]? =some x):(l++[y])[k]? =some x:=by
 rw [List.getElem?_append_left (gSi.1 h).1];exact h
theorem SRel.app {F I O:List Int} {x y z:Int}:∀ {T:List (Int×Int)} {k:Nat},SRel F I O k T->SRel (F++[x]) (I++[y]) (O++[z]) k T
 | [],_,h=>h
 | _ :: _,_,⟨j,h1,h2,h3,h4,h5⟩=>⟨j,h1,Aid h2,Aid h3,Aid h4,h5.app⟩
theorem L1 {l:List Int} {k:Nat} {y:Int} (h:l.length=k):(l++[y])[k+1 - 1]? =some y:=by
 subst h;rw [Nat.add_sub_cancel,List.getElem?_append_right (Nat.le_refl _),Nat.sub_self];rfl
abbrev ScR:=List Int×List Int×List Int×Bool
def Axu (n:Nat) (t:Option (List (Int×Int))) (r:Ctl (List Int×List Int×List Int) ScR):Prop :=
 match t with
 | some T=>∃ F I O,r=Ctl.next (F,I,O)/\F.length=n/\I.length=n/\O.length=n/\okT T/\SRel F I O n T
 | none=>∃ F I O,r=Ctl.out (F,I,O,false)
theorem Akr (l:List (ByteArray×Int×Int×List Nd)) (hl:l.length<=1048576) (s:ByteArray):(∃ (i:Nat) (d:ByteArray×Int×Int×List Nd),C1 l s=some (i:Int)/\l[i]? =some d/\l.find? (fun d=>d.1.toList==s.toList)=some d)∨(C1 l s=some (-1)/\l.find? (fun d=>d.1.toList==s.toList)=none):=by
 unfold C1
 have key:∀ i,i<=l.length->(∀ k (hk:k<l.length),k<i->(l[k].1.toList==s.toList)=false)->(∃ (i:Nat) (d:ByteArray×Int×Int×List Nd),l[i]? =some d/\l.find? (fun d=>d.1.toList==s.toList)=some d)∨l.find? (fun d=>d.1.toList==s.toList)=none:=fun i _ _=>by
  cases h:l.find? (fun d=>d.1.toList==s.toList) with
  | none=>exact .inr rfl
  | some d =>
   obtain ⟨k,hk⟩:=List.mem_iff_getElem?.1 (List.mem_of_find?_eq_some h);exact .inl ⟨k,d,hk,rfl⟩
 have hP:∃ r,Aq (fun s_:Nat=>Ct l s s_) 4611686018427387904 0=some r/\((∃ (i:Nat) (d:ByteArray×Int×Int×List Nd),r=Ctl.out (i:Int)/\l[i]? =some d/\l.find? (fun d=>d.1.toList==s.toList)=some d)∨(r=Ctl.next ()/\l.find? (fun d=>d.1.toList==s.toList)=none)):=by
  refine I2 (Post:=fun r=>(∃ (i:Nat) (d:ByteArray×Int×Int×List Nd),r=Ctl.out (i:Int)/\l[i]? =some d/\l.find? (fun d=>d.1.toList==s.toList)=some d)∨(r=Ctl.next ()/\l.find? (fun d=>d.1.toList==s.toList)=none)) l.length (fun i st=>st=i/\(l.take i).find? (fun d=>d.1.toList==s.toList)=none) oM ⟨rfl,by simp⟩ ?_ ?_
  ·rintro i st hi ⟨rfl,hI⟩;have hx:=gEg hi;unfold Ct;rw [Av oM,cond_true,hx,obs];have e:l.take (st+1)=l.take st++[l[st]]:=by rw [List.take_add_one,hx];rfl
   cases hb:(l[st].1.toList==s.toList)
   ·rw [cond_false,Af oM];exact .inl ⟨_,rfl,rfl,by rw [e,List.find?_append,hI];simp [hb]⟩
   ·refine .inr ⟨_,rfl,.inl ⟨st,l[st],rfl,hx,?_⟩⟩;have e2:l=l.take (st+1)++l.drop (st+1):=(List.take_append_drop _ _).symm
    conv=>lhs;rw [e2,e]
    rw [List.find?_append,List.find?_append,hI];simp [hb]
  ·rintro st ⟨rfl,hI⟩;unfold Ct;rw [At oM,cond_false];rw [List.take_length] at hI;exact ⟨_,rfl,.inr ⟨rfl,hI⟩⟩
 obtain ⟨r,hr,⟨i,d,rfl,h1,h2⟩|⟨rfl,h1⟩⟩:=hP
 ·rw [hr];exact .inl ⟨i,d,rfl,h1,h2⟩
 ·rw [hr];exact .inr ⟨rfl,h1⟩
theorem Ayl {lib:List (ByteArray×Int×Int×List Nd)} (hll:lib.length<=1048576) (hlb:∀ d∈lib,okW (d.2.1,d.2.2.1)) {xs:List Nd} (hx:1<=xs.length/\xs.length<=400):∃ r,Aq (fun s_:Nat×List Int×List Int×List Int=>Jr xs lib s_.1 s_.2.1 s_.2.2.1 s_.2.2.2) 4611686018427387904 (0,[],[],[])=some r/\Axu xs.length (Id (lfL lib) xs []) r:=by
 refine I2 (Post:=Axu xs.length (Id (lfL lib) xs [])) xs.length (fun k s=>∃ F I O T,s=(k,F,I,O)/\F.length=k/\I.length=k/\O.length=k/\Id (lfL lib) (xs.take k) []=some T/\okT T/\SRel F I O k T) oM ⟨[],[],[],[],rfl,rfl,rfl,rfl,rfl,(fun _ h=>by cases h),rfl⟩ ?_ ?_
 ·rintro k s hk ⟨F,I,O,T,rfl,lF,lI,lO,hT,hok,hS⟩;have hn:=gEg hk;generalize xs[k]=n at hn;have hnext:=O9 hn hT;have hfail:Do (lfL lib) n T=none->Id (lfL lib) xs []=none:=fun h=>Vi (k:=k+1) (by rw [hnext,h])
  try dsimp only
  unfold Jr;rw [Av oM,cond_true,hn,obs,Asj,obs];by_cases hj:n.1=15∨n.1=16
  ·have hnl:lfW n=none:=by
    cases hw:lfW n with
    | none=>rfl
    | some w=>have:=Rv hw;omega
   rw [hnl];have e17:(n.1==17)=false:=by rw [beq_eq_false_iff_ne];omega
   rw [Option.isSome_none,cond_false,e17,obs,cond_false]
   have hst0:Do (lfL lib) n T=if n.2.1=0/\M7 n.2.2=true then (match T with
     | b :: a :: r=>if n.1=15 then (if a.2=b.1 then some ((a.1,b.2) :: r) else none) else (if a.1+b.1<=12/\a.2+b.2<=12 then some ((a.1+b.1,a.2+b.2) :: r) else none)
     | _=>none) else none:=if_pos hj
   have hcond:∀ q:Option Bool,(cond (n.1 !=15) (cond (n.1 !=16) (some true) q) q:Option Bool)=q:=fun q=>by
    rcases hj with h|h <;> rw [h] <;> rfl
   rw [hcond];by_cases hv:n.2.1=0/\M7 n.2.2=true
   ·have hs':(n.2.2.toList==(⟨#[]⟩:ByteArray).toList)=true:=hv.2;rw [if_pos hv] at hst0;rw [hv.1,hs',Bool.not_true,cond_false,show ((0:Int) !=0)=false from rfl,cond_false]
    match T,hT,hok,hS,hnext,hfail,hst0 with
    | [],hT,hok,hS,hnext,hfail,hst0 =>
     refine .inr ⟨Ctl.out (F,I,O,false),?_,?_⟩
     ·have:k=0:=hS;rw [Av oM];rfl
     ·rw [hfail hst0];exact ⟨_,_,_,rfl⟩
    | [b],hT,hok,hS,hnext,hfail,hst0 =>
     refine .inr ⟨Ctl.out (F,I,O,false),?_,?_⟩
     ·obtain ⟨j,h1,h2,h3,h4,h5⟩:=hS;have h5:j=0:=h5;subst h5;by_cases h:k<2
      ·rw [Av oM];rfl
      ·have w1:wI ((k:Int) - 1)=((k - 1:Nat):Int):=by rw [Bg oM oM];omega
       rw [At oM,cond_false,w1,B0 oM,Int.toNat_natCast,h2];rfl
     ·rw [hfail hst0];exact ⟨_,_,_,rfl⟩
    | b :: a :: r,hT,hok,hS,hnext,hfail,hst0 =>
     have hb:=hok b (by simp);have ha:=hok a (by simp);obtain ⟨⟨b1,b2⟩,b3,b4⟩:=hb;obtain ⟨⟨a1,a2⟩,a3,a4⟩:=ha;obtain ⟨j,h1,h2,h3,h4,j0,g1,g2,g3,g4,g5⟩:=hS;have w1:wI ((k:Int) - 1)=((k - 1:Nat):Int):=by rw [Bg oM oM];omega
     have w2:wI ((j:Int) - 1)=((j - 1:Nat):Int):=by rw [Bg oM oM];omega
     have G:∀ (l:List Int) (m:Nat),B2 l ((m:Nat):Int)=l[m]?:=fun l m=>by rw [B0 oM,Int.toNat_natCast]
     rw [At oM,cond_false,w1];simp only [G,h2,h3,h4,obs,w2,g2,g3,g4];rw [At (show ¬ ((j:Nat):Int)<1 by omega),cond_false];dsimp only at hst0
     have hfin:∀ w:Int×Int,Do (lfL lib) n (b :: a :: r)=some (w :: r)->∃ s',(Cz (some (Ctl.next (F++([(j0:Int)]),I++([w.1]),O++([w.2])):Ctl (List Int×List Int×List Int) (Ctl (Nat×List Int×List Int×List Int) (Ctl (List Int×List Int×List Int) ScR)))) fun q=>og (k+1<4611686018427387904) (some (Ctl.next (k+1,q.1,q.2.1,q.2.2))))=some (.next s')/\∃ F I O T,s'=(k+1,F,I,O)/\F.length=k+1/\I.length=k+1/\O.length=k+1/\Id (lfL lib) (xs.take (k+1)) []=some T/\okT T/\SRel F I O (k+1) T:=fun w hw=>by
      refine ⟨_,?_,F++[(j0:Int)],I++[w.1],O++[w.2],w :: r,rfl,by simp [lF],by simp [lI],by simp [lO],by rw [hnext,hw],Pp (Zu hlb) hw hok,j0,by omega,L1 lF,L1 lI,L1 lO,g5.app⟩;simp only [Cz,obs,Ctl.then];rw [Af oM]
     by_cases h15:n.1=15
     ·rw [if_pos h15] at hst0;rw [beq_iff_eq.2 h15,cond_true];by_cases hab:a.2=b.1
      ·rw [if_pos hab] at hst0;rw [show (a.2 !=b.1)=false by rw [hab];exact bne_self_eq_false _,cond_false];simp only [Cz,obs,Ctl.then];rw [At (show ¬ 12<a.1 by omega),At (show ¬ 12<b.2 by omega),cond_false,obs,cond_false,Af oM,Af oM,Af oM];exact .inl (hfin (a.1,b.2) hst0)
      ·rw [if_neg hab] at hst0;rw [bne_iff_ne.2 hab,hfail hst0];exact .inr ⟨_,rfl,_,_,_,rfl⟩
     ·rw [if_neg h15] at hst0;rw [beq_eq_false_iff_ne.2 h15,cond_false,Bg (n:=a.1+b.1) oM oM,Bg (n:=a.2+b.2) oM oM];simp only [Cz,obs,Ctl.then];by_cases hab:a.1+b.1<=12/\a.2+b.2<=12
      ·rw [if_pos hab] at hst0;rw [At (show ¬ 12<a.1+b.1 by omega),At (show ¬ 12<a.2+b.2 by omega),cond_false,obs,cond_false,Af oM,Af oM,Af oM];exact .inl (hfin (a.1+b.1,a.2+b.2) hst0)
      ·rw [if_neg hab] at hst0;rw [hfail hst0];refine .inr ⟨Ctl.out (F,I,O,false),?_,_,_,_,rfl⟩;by_cases h1:12<a.1+b.1
       ·rw [Av h1];rfl
       ·rw [At h1,Av (show 12<a.2+b.2 by omega)];rfl
   ·rw [if_neg hv] at hst0;refine .inr ⟨Ctl.out (F,I,O,false),?_,?_⟩
    ·by_cases hn0:M7 n.2.2=true
     ·have hs':(n.2.2.toList==(⟨#[]⟩:ByteArray).toList)=true:=hn0;rw [hs',show (n.2.1 !=0)=true by rw [bne_iff_ne];exact fun e=>hv ⟨e,hn0⟩];rfl
     ·have hs':(n.2.2.toList==(⟨#[]⟩:ByteArray).toList)=false:=by simpa using hn0
      rw [hs'];rfl
    ·rw [hfail hst0];exact ⟨_,_,_,rfl⟩
  ·have hst:Do (lfL lib) n T=(lfL lib n).map (· :: T):=if_neg hj;by_cases h17:n.1=17
   ·have hnl:lfW n=none:=by
     cases hw:lfW n with
     | none=>rfl
     | some w=>have:=Rv hw;omega
    have har:G3 n.1 n.2.1 n.2.2=some (1,1):=by
     unfold G3 H6;rw [h17];rfl
    rw [hnl,Option.isSome_none,cond_false,beq_iff_eq.2 h17,obs,cond_true,har,obs,cond_true];have hlf:lfL lib n=if n.2.1=0 then (lib.find? fun d=>d.1.toList==n.2.2.toList).map fun d=>(d.2.1,d.2.2.1) else none:=if_pos h17
    rcases Akr lib hll n.2.2 with ⟨i,d,h1,h2,h3⟩|⟨h1,h3⟩
    ·have hi:=Ai h2;rw [h1,obs,At oM,cond_false,obs];by_cases hv:n.2.1=0
     ·rw [if_pos hv,h3] at hlf;have hlf:lfL lib n=some (d.2.1,d.2.2.1):=hlf;rw [hlf] at hst;rw [hv,show ((0:Int) !=0)=false from rfl,cond_false,B0 oM,Int.toNat_natCast,h2,obs];simp only [Cz,obs,Ctl.then];rw [Af oM,Af oM,Af oM];simp only [obs,Ctl.then];rw [Af oM];exact .inl ⟨_,rfl,F++[(k:Int)],I++[d.2.1],O++[d.2.2.1],(d.2.1,d.2.2.1) :: T,rfl,by simp [lF],by simp [lI],by simp [lO],by rw [hnext,hst];rfl,Pp (Zu hlb) hst hok,k,by omega,L1 lF,L1 lI,L1 lO,hS.app⟩
     ·rw [if_neg hv] at hlf;rw [hlf] at hst;rw [bne_iff_ne.2 hv,cond_true,hfail hst];exact .inr ⟨_,rfl,_,_,_,rfl⟩
    ·have hlf:lfL lib n=none:=by rw [hlf,h3];split <;> rfl
     rw [hlf] at hst;rw [h1,obs,Av oM,cond_true,obs,cond_true,hfail hst];exact .inr ⟨_,rfl,_,_,_,rfl⟩
   have hlw:lfL lib n=lfW n:=if_neg h17;rw [hlw] at hst;have e17:(n.1==17)=false:=beq_eq_false_iff_ne.2 h17;cases hw:lfW n with
   | some w =>
    rw [hw] at hst;rw [Option.isSome_some,cond_true,obs,cond_true,Av5 hw,obs,e17,cond_false];simp only [Cz,obs,Ctl.then];rw [Af oM,Af oM,Af oM];simp only [obs,Ctl.then];rw [Af oM];exact .inl ⟨_,rfl,F++[(k:Int)],I++[w.1],O++[w.2],w :: T,rfl,by simp [lF],by simp [lI],by simp [lO],by rw [hnext,hst];rfl,Pp (Zu hlb) hst hok,k,by omega,L1 lF,L1 lI,L1 lO,hS.app⟩
   | none =>
    rw [hw] at hst;rw [Option.isSome_none,cond_false];refine .inr ⟨Ctl.out (F,I,O,false),?_,?_⟩
    ·have h15:n.1≠15:=fun e=>hj (.inl e)
     have h16:n.1≠16:=fun e=>hj (.inr e)
     rw [e17,obs,cond_false,bne_iff_ne.2 h15,cond_true,bne_iff_ne.2 h16];rfl
    ·rw [hfail hst];exact ⟨_,_,_,rfl⟩
 ·rintro s ⟨F,I,O,T,rfl,lF,lI,lO,hT,hok,hS⟩;rw [List.take_length] at hT;rw [hT]
  try dsimp only
  unfold Jr;rw [At oM,cond_false];exact ⟨_,rfl,_,_,_,rfl,lF,lI,lO,hok,hS⟩
theorem Ajq {lib:List (ByteArray×Int×Int×List Nd)} (hll:lib.length<=1048576) (hlb:∀ d∈lib,okW (d.2.1,d.2.2.1)) (xs:List Nd):∃ F I O b,H4 lib xs=some (F,I,O,b)/\match tyG (lfL lib) xs with|some w=>b=true/\I[xs.length - 1]? =some w.1/\O[xs.length - 1]? =some w.2|none=>b=false:=by
 unfold H4 tyG;rw [Re];by_cases hx:1<=xs.length/\xs.length<=400
 ·rw [Ez.2 (show (1:Int)<=((xs.length:Nat):Int)/\((xs.length:Nat):Int)<=400 by omega),obs,Bool.not_true,cond_false,if_pos hx];obtain ⟨r,hr,hP⟩:=Ayl hll hlb hx;rw [hr];cases ht:Id (lfL lib) xs [] with
  | none =>
   rw [ht] at hP;obtain ⟨F,I,O,rfl⟩:=hP;exact ⟨_,_,_,_,rfl,rfl⟩
  | some T =>
   rw [ht] at hP;obtain ⟨F,I,O,rfl,lF,lI,lO,hok,hS⟩:=hP;have hne:=Anu (fun e=>by subst e;simp at hx) ht;have w1:wI (((xs.length:Nat):Int) - 1)=((xs.length - 1:Nat):Int):=by rw [Bg oM oM];omega
   simp only [Cz,obs,Ctl.then]
   match T,hne,hS with
   | w :: T,_,⟨j,h1,h2,h3,h4,h5⟩ =>
    rw [w1,B0 oM,Int.toNat_natCast,h2,obs,obs];refine ⟨F,I,O,_,rfl,?_⟩;cases T with
    | nil =>
     have h5:j=0:=h5;subst h5;exact ⟨rfl,h3,h4⟩
    | cons v T =>
     obtain ⟨j',h',_⟩:=h5;show ((j:Int)==0)=false;rw [beq_eq_false_iff_ne];omega
 ·rw [if_neg hx,show inR ((xs.length:Nat):Int) 1 400=false by rw [Bool.eq_false_iff];intro e;have:=Ez.1 e;exact hx oM];exact ⟨_,_,_,_,rfl,rfl⟩
theorem Ak2 (xs:List Nd):∃ F I O b,Kr xs=some (F,I,O,b)/\match tyV xs with|some w=>b=true/\I[xs.length - 1]? =some w.1/\O[xs.length - 1]? =some w.2|none=>b=false:=by
 obtain ⟨F,I,O,b,h1,h2⟩:=Ajq (lib:=[]) (by simp) (fun d hd=>by cases hd) xs;rw [Aw7] at h2;refine ⟨F,I,O,b,?_,h2⟩;unfold Kr;rw [h1];rfl
theorem Ad8 (xs:List Nd):Nn xs=some (match tyV xs with|some w=>(w.1,w.2,true)|none=>(0,0,false)):=by
 unfold Nn;obtain ⟨F,I,O,b,h,hm⟩:=Ak2 xs;rw [h,obs];cases ht:tyV xs with
 | none=>rw [ht] at hm;dsimp only at hm;subst hm;rfl
 | some w =>
  rw [ht] at hm;obtain ⟨rfl,h1,h2⟩:=hm
  have hx:1<=xs.length/\xs.length<=400:=by
   unfold tyV tyG at ht;split at ht
   ·assumption
   ·cases ht
  have w1:wI (((xs.length:Nat):Int) - 1)=((xs.length - 1:Nat):Int):=by rw [Bg oM oM];omega
  dsimp only;rw [Bool.not_true,cond_false,w1,B0 oM,Int.toNat_natCast,h1,obs,obs,B0 oM,Int.toNat_natCast,h2];rfl
end
section
def szV (v:Int) (n:Nat):Int:=if v<n then -1 else v - n
theorem Atq (xs:List Int) {v:Int} (hv:0<=v/\v<=1048576) (hx:xs.length<=9223372036854775807):Ns xs v=some (szV v xs.length):=by
 unfold Ns szV;rw [Bg oM oM];by_cases h:v<xs.length
 ·rw [Av oM,if_pos h];rfl
 ·rw [At oM,if_neg h];rfl
theorem Arg (xs:List Int) (hx:xs.length<=1073741824):Nl xs=some xs:=by
 unfold Nl;rw [Af oM]
 have h:Aq (fun s_:Nat×List Int=>Jt xs s_.1 s_.2) 4611686018427387904 (0,List.replicate xs.length (0:Int))=some xs:=by
  refine A7 xs.length (fun i=>(i,xs.take i++List.replicate (xs.length - i) 0)) oM xs (by simp) (fun i hi=>?_) ?_
  ·have hx:=gEg hi
   try dsimp only
   unfold Jt;rw [Av oM,cond_true,hx,obs,U5 hi,obs,Af oM,Vb hx]
  ·try dsimp only
   unfold Jt;rw [At oM,cond_false];simp
 rw [h];rfl
theorem Asy (xs:List Int) (hx:xs.length<=1073741824):Nq xs xs=some true:=by
 unfold Nq
 have h:Aq (fun s_:Nat=>J6 xs xs s_) 4611686018427387904 0=some (.next ()):=by
  refine A7 xs.length (fun i=>i) oM _ rfl (fun i hi=>?_) ?_
  ·have hx:=gEg hi
   try dsimp only
   unfold J6;rw [Av oM,cond_true,hx,obs,obs,bne_self_eq_false,cond_false,Af oM]
  ·try dsimp only
   unfold J6;rw [At oM,cond_false]
 rw [h,bne_self_eq_false,cond_false];rfl
end
section
section
variable {σ ρ:Type}
end
def Iw (b:Nat) (xss:List (List Int)):Prop:=∀ x∈xss,x.length<=b
def N9 (xss:List (List Int)):Nat:=(xss.map List.length).sum
theorem Ap1 {xss:List (List Int)} {i:Nat} (h:i<xss.length):N9 (xss.take (i+1))=N9 (xss.take i)+xss[i].length:=by
 unfold N9;rw [List.take_add_one,gEg h];simp only [Option.toList,List.map_append,List.map_cons,List.map_nil,List.sum_append,List.sum_cons,List.sum_nil,Nat.add_zero]
theorem Ap9 (xss:List (List Int)) (hn:xss.length<=1048576) (hb:Iw 1048576 xss):Mx xss xss=some true:=by
 unfold Mx
 have h:Aq (fun s_:Nat=>Im xss xss s_) 4611686018427387904 0=some (.next ()):=by
  refine A7 xss.length (fun i=>i) oM _ rfl (fun i hi=>?_) ?_
  ·have hx:=gEg hi;have:=hb _ (List.getElem_mem hi)
   try dsimp only
   unfold Im;rw [Av oM,cond_true,hx,obs,obs,Asy _ oM,obs,Bool.not_true,cond_false,Af oM]
  ·try dsimp only
   unfold Im;rw [At oM,cond_false]
 rw [h,bne_self_eq_false,cond_false];rfl
def szW (v:Int) (xss:List (List Int)):Int:=if v<xss.length+N9 xss then -1 else v - (xss.length+N9 xss)
theorem Ar4 {v:Int} {xss:List (List Int)} (hv:v<=1048576) (h:¬ szW v xss<0):xss.length+N9 xss<=1048576/\Iw 1048576 xss/\szW v xss=v - (xss.length+N9 xss):=by
 unfold szW at h ⊢;split at h
 ·omega
 rename_i h1;have h2:xss.length+N9 xss<=1048576:=by omega
 refine ⟨h2,fun x hx=>?_,if_neg h1⟩
 have:∀ {l:List (List Int)},x∈l->x.length<=N9 l:=by
  intro l
  induction l with
  | nil=>intro h;cases h
  | cons y r ih =>
   intro h;simp only [N9,List.map_cons,List.sum_cons] at ih ⊢;rcases List.mem_cons.1 h with rfl|h
   ·omega
   ·have:=ih h;omega
 have:=this hx;omega
theorem Aqj (xss:List (List Int)) {v:Int} (hv:0<=v/\v<=1048576) (hn:xss.length<=9223372036854775807) (hb:Iw 9223372036854775807 xss):Ml xss v=some (szW v xss):=by
 unfold Ml;rw [Bg oM oM];by_cases h0:v<xss.length
 ·rw [Av oM,szW,if_pos oM];rfl
 rw [At oM,cond_false]
 have h:Aq (fun s_:Int×Nat=>Ik xss s_.1 s_.2) 4611686018427387904 (v - xss.length,0)=some (if v<xss.length+N9 xss then .out (-1) else .next (v - (xss.length+N9 xss))):=by
  have hm:∀ i,N9 (xss.take i)<=N9 xss:=fun i=>by
   have:N9 xss=N9 (xss.take i)+N9 (xss.drop i):=by
    conv=>lhs;rw [← List.take_append_drop i xss]
    rw [N9,List.map_append,List.sum_append];rfl
   omega
  refine Hx xss.length (fun i s=>s=(v - xss.length - N9 (xss.take i),i)/\(xss.length:Int)+N9 (xss.take i)<=v) oM _ ⟨by simp [N9],by simp [N9];omega⟩ ?_ ?_
  ·rintro i s hi ⟨rfl,h1⟩;have hx:=gEg hi;have hr:=hb _ (List.getElem_mem hi);have hs:=Ap1 hi;have hm1:=hm (i+1)
   try dsimp only
   unfold Ik;rw [Av oM,cond_true,hx,obs,Atq _ oM hr,obs,szV];by_cases h2:v - xss.length - N9 (xss.take i)<xss[i].length
   ·refine .inr ?_;rw [if_pos h2,if_pos oM];rfl
   ·refine .inl ⟨(v - xss.length - N9 (xss.take (i+1)),i+1),?_,rfl,by omega⟩;rw [if_neg h2,At oM,cond_false,Af oM,hs,show v - ↑xss.length - ↑(N9 (List.take i xss)) - ↑xss[i].length=v - ↑xss.length - ↑(N9 (List.take i xss)+xss[i].length) by omega]
  ·rintro s ⟨rfl,h1⟩;rw [List.take_length] at h1 ⊢
   try dsimp only
   unfold Ik;rw [At oM,cond_false,if_neg oM];simp [Int.sub_sub]
 rw [h,szW];split <;> rfl
theorem Aqe (xss:List (List Int)) (hn:xss.length<=1048576) (hb:Iw 1048576 xss):L3 xss=some xss:=by
 unfold L3;rw [Af oM]
 have h:Aq (fun s_:Nat×List (List Int)=>Il xss s_.1 s_.2) 4611686018427387904 (0,List.replicate xss.length ([]:List Int))=some xss:=by
  refine A7 xss.length (fun i=>(i,xss.take i++List.replicate (xss.length - i) [])) oM xss (by simp) (fun i hi=>?_) ?_
  ·have hx:=gEg hi;have hr:=hb _ (List.getElem_mem hi)
   try dsimp only
   unfold Il;rw [Av oM,cond_true,hx,obs,Arg _ oM,obs,U5 hi,obs,Af oM,Vb hx]
  ·try dsimp only
   unfold Il;rw [At oM,cond_false];simp
 rw [h];rfl
theorem An0 {R:Nat->Prop} {w:World} {t:Ty} {A:Option Addr} {c:Nat} {xss:List (List t.D)} {l:List Addr} (h:Sl R w (.slice t) A c xss l):∀ x∈xss,x.length<=9223372036854775807:=by
 obtain ⟨_,_,f,_,h4⟩:=h;intro x hx;obtain ⟨i,hi,rfl⟩:=List.getElem_of_mem hx;obtain ⟨_,_,_,h5⟩:=h4 oM;obtain ⟨A',c',_,h6⟩:=h5 i hi;exact (Zz (xs:=xss[i]) h6).2
end
section
def inV (p:Int) (x:List Int):Prop:=∀ a,a∈x->0<=a/\a<p
def VecW (p:Int) (w:Nat) (x:List Int):Prop:=x.length=w/\inV p x
def MatW (p:Int) (w:Nat) (m:List (List Int)):Prop:=∀ x,x∈m->VecW p w x
def Fb (p k:Int) (v:List Int):List Int:=v.map fun a=>a*k % p
def D3 (p f:Int) (x v:List Int):List Int:=List.zipWith (fun a b=>(a - f*b) % p) x v
def Eh (m:List (List Int)) (c r:Nat):Nat:=r+(m.drop r).findIdx fun x=>x.getD c 0 !=0
def Mz (m:List (List Int)) (r k:Nat):List (List Int):=(m.set r (m.getD k [])).set k (m.getD r [])
def Ie (p:Int) (c r:Nat) (pr:List Int) (m:List (List Int)):List (List Int):=m.mapIdx fun i x=>if i=r then pr else D3 p (x.getD c 0) x pr
def Pg (p a:Int):Int:=(((List.range p.toNat).find? fun (x:Nat)=>a*(x:Int) % p==1).getD 0:Nat)
def prV (p:Int) (c:Nat) (x:List Int):List Int:=Fb p (Pg p (x.getD c 0)) x
def gjS (p:Int) (c:Nat) (s:Nat×List (List Int)):Nat×List (List Int) :=
 if s.1<s.2.length then
  if Eh s.2 c s.1=s.2.length then s
  else (s.1+1,Ie p c s.1 (prV p c (s.2.getD (Eh s.2 c s.1) [])) (Mz s.2 s.1 (Eh s.2 c s.1)))
 else s
def gjT (p:Int) (m:List (List Int)):Nat->Nat×List (List Int)
 | 0=>(0,m)
 | c+1=>gjS p c (gjT p m c)
def gj (p:Int) (n:Nat) (m:List (List Int)):List (List Int):=(gjT p m n).2.take (gjT p m n).1
theorem Uy {p x:Int} (hp:2<=p):0<=x % p/\x % p<p:=⟨Int.emod_nonneg x oM,Int.emod_lt_of_pos x oM⟩
theorem T4 {p k:Int} {w:Nat} {x:List Int} (hp:2<=p) (h:x.length=w):VecW p w (Fb p k x) :=
 ⟨by simp [Fb,h],fun a ha=>by obtain ⟨b,_,rfl⟩:=List.mem_map.1 ha;exact Uy hp⟩
theorem Alu {α β γ:Type} {f:α->β->γ}:∀ {x:List α} {v:List β} {c:γ},c∈List.zipWith f x v->∃ a b,c=f a b
 | [],_,_,h=>by simp at h
 | _ :: _,[],_,h=>by simp at h
 | a :: x,b :: v,c,h=>by
  rw [List.zipWith_cons_cons,List.mem_cons] at h;rcases h with h|h
  ·exact ⟨a,b,h⟩
  ·exact Alu h
theorem Akm {p f:Int} {w:Nat} {x v:List Int} (hp:2<=p) (hx:x.length=w) (hv:v.length=w):VecW p w (D3 p f x v) :=
 ⟨by simp [D3,hx,hv],fun a ha=>by obtain ⟨b,c,rfl⟩:=Alu ha;exact Uy hp⟩
theorem Zp {p:Int} {x v:List Int} (hx:inV p x) (hl:x.length<=v.length):D3 p 0 x v=x:=by
 apply List.ext_getElem
 ·simp [D3];omega
 ·intro i h1 h2;have:=hx x[i] (List.getElem_mem h2);simp only [D3,List.getElem_zipWith,Int.zero_mul,Int.sub_zero];exact Int.emod_eq_of_lt this.1 this.2
theorem Bm {α:Type} {m:List α} {i:Nat} {d x:α} (h:m[i]? =some x):m.getD i d=x:=by rw [gDg,h];rfl
theorem Ln {α:Type} {m:List α} {i:Nat} (h:i<m.length):∃ x,m[i]? =some x:=⟨_,gEg h⟩
theorem Tx {m:List (List Int)} {c r:Nat} (h:r<=m.length):Eh m c r<=m.length:=by
 have:=List.findIdx_le_length (xs:=m.drop r) (p:=fun x=>x.getD c 0 !=0);rw [List.length_drop] at this;unfold Eh;omega
theorem Aye (m:List (List Int)) (c r:Nat):r<=Eh m c r:=by unfold Eh;omega
theorem Afd {m:List (List Int)} {c r i:Nat} (h1:r<=i) (h2:i<Eh m c r) (hr:r<=m.length):(m.getD i []).getD c 0=0:=by
 have hl:=Tx (c:=c) hr;have h3:i - r<(m.drop r).findIdx fun x=>x.getD c 0 !=0:=by unfold Eh at h2;omega
 have h4:i - r<(m.drop r).length:=by rw [List.length_drop];omega
 have h5:=List.not_of_lt_findIdx h3;rw [List.getElem_drop] at h5
 have e:m[r+(i - r)]'(by rw [List.length_drop] at h4;omega)=m.getD i []:=by
  rw [gDg,gEg oM];simp only [show r+(i - r)=i by omega,Option.getD_some]
 rw [e] at h5
 simpa using h5
theorem Ad4 {m:List (List Int)} {c r:Nat} (h:Eh m c r≠m.length) (hr:r<=m.length):(m.getD (Eh m c r) []).getD c 0≠0:=by
 have hl:=Tx (c:=c) hr;have h4:(m.drop r).findIdx (fun x=>x.getD c 0 !=0)<(m.drop r).length:=by rw [List.length_drop];unfold Eh at h hl;omega
 have h5:=List.findIdx_getElem (w:=h4);rw [List.getElem_drop] at h5
 have e:m[r+(m.drop r).findIdx (fun x=>x.getD c 0 !=0)]'(by rw [List.length_drop] at h4;omega)=m.getD (Eh m c r) []:=by
  rw [gDg,gEg oM];rfl
 rw [e] at h5
 simpa using h5
theorem Sn (m:List (List Int)) (r k:Nat):(Mz m r k).length=m.length:=by simp [Mz]
theorem Qq (p:Int) (c r:Nat) (pr:List Int) (m:List (List Int)):(Ie p c r pr m).length=m.length:=by simp [Ie]
theorem Jd {m:List (List Int)} {i:Nat} (h:i<m.length):m.getD i []∈m:=by
 rw [gDg,gEg h];exact List.getElem_mem h
theorem Ab3 {p:Int} {w:Nat} {m:List (List Int)} {r k:Nat} (h:MatW p w m) (hr:r<m.length) (hk:k<m.length):MatW p w (Mz m r k):=by
 intro x hx;unfold Mz at hx;rcases List.mem_or_eq_of_mem_set hx with hx|rfl
 ·rcases List.mem_or_eq_of_mem_set hx with hx|rfl
  ·exact h x hx
  ·exact h _ (Jd hk)
 ·exact h _ (Jd hr)
theorem Avg {p:Int} {w c r:Nat} {m:List (List Int)} {pr:List Int} (hp:2<=p) (h:MatW p w m) (hpr:VecW p w pr):MatW p w (Ie p c r pr m):=by
 intro x hx;unfold Ie at hx;obtain ⟨i,hi,rfl⟩:=List.mem_mapIdx.1 hx;split
 ·exact hpr
 ·exact Akm hp (h _ (List.getElem_mem hi)).1 hpr.1
theorem Ayp {p:Int} {w c:Nat} {s:Nat×List (List Int)} (hp:2<=p) (h:MatW p w s.2) (hr:s.1<=s.2.length):MatW p w (gjS p c s).2/\(gjS p c s).1<=(gjS p c s).2.length/\(gjS p c s).2.length=s.2.length:=by
 unfold gjS;split
 ·rename_i h1;split
  ·exact ⟨h,hr,rfl⟩
  ·rename_i h2;have h3:=Tx (c:=c) hr;have hk:Eh s.2 c s.1<s.2.length:=by omega
   refine ⟨Avg hp (Ab3 h h1 hk) (T4 hp (h _ (Jd hk)).1),?_,?_⟩
   ·simp only [Qq,Sn];omega
   ·simp only [Qq,Sn]
 ·exact ⟨h,hr,rfl⟩
theorem Nf {p:Int} {w:Nat} {m:List (List Int)} (hp:2<=p) (h:MatW p w m):∀ c,MatW p w (gjT p m c).2/\(gjT p m c).1<=(gjT p m c).2.length/\(gjT p m c).2.length=m.length
 | 0=>⟨h,Nat.zero_le _,rfl⟩
 | c+1=>by
  obtain ⟨h1,h2,h3⟩:=Nf hp h c;obtain ⟨k1,k2,k3⟩:=Ayp (c:=c) hp h1 h2;exact ⟨k1,k2,k3.trans h3⟩
theorem Acm {p:Int} {m:List (List Int)} {c:Nat} (h:¬ (gjT p m c).1<(gjT p m c).2.length):∀ d,c<=d->gjT p m d=gjT p m c
 | 0, h0 => by obtain rfl : c = 0 := by omega
               rfl
 | d+1,h0=>by
  by_cases e:c=d+1
  ·rw [e]
  ·have ih:=Acm h d oM;show gjS p d (gjT p m d)=_;rw [ih];unfold gjS;rw [if_neg h]
theorem Ahi {p:Int} {n w:Nat} {m:List (List Int)} (hp:2<=p) (h:MatW p w m):(gj p n m).length=(gjT p m n).1:=by
 obtain ⟨_,h2,_⟩:=Nf hp h n;unfold gj;rw [List.length_take];omega
theorem U0 {p:Int} {n w:Nat} {m:List (List Int)} (hp:2<=p) (h:MatW p w m):MatW p w (gj p n m):=fun x hx=>(Nf hp h n).1 x (List.mem_of_mem_take hx)
end
section
def Ax9 (p a:Int):Bool:=match O2 p a with
 | some v=>(v==Pg p a)&&((Mi p a==some v)&&((decide (0<=v)&&decide (v<p))&&(a*v % p==1)))
 | none=>false
def ivB:Bool:=(List.range 98).all fun p=> !(isF p)||(List.range p).all fun a=>a==0||Ax9 (p:Int) (a:Int)
theorem Aut:ivB=true:=by kernel_rfl
theorem Ahu {p a:Int} (hp:isF p=true) (ha:1<=a/\a<p):O2 p a=some (Pg p a)/\Mi p a=some (Pg p a)/\0<=Pg p a/\Pg p a<p/\a*Pg p a % p=1:=by
 have hb:=Cx hp;obtain ⟨q,rfl⟩:=Int.eq_ofNat_of_zero_le (show 0<=p by omega);obtain ⟨b,rfl⟩:=Int.eq_ofNat_of_zero_le (show 0<=a by omega);have h1:=List.all_eq_true.1 Aut q (List.mem_range.2 oM);rw [hp,Bool.not_true,Bool.false_or] at h1;have h2:=List.all_eq_true.1 h1 b (List.mem_range.2 oM)
 have h3:Ax9 (q:Int) (b:Int)=true:=by
  rcases (Bool.or_eq_true _ _).mp h2 with h|h
  ·have:b=0:=by simpa using h
   omega
  ·exact h
 unfold Ax9 at h3;split at h3
 ·rename_i v hv;simp only [Bool.and_eq_true,beq_iff_eq,decide_eq_true_eq] at h3;obtain ⟨h4,h5,⟨h6,h7⟩,h8⟩:=h3;subst h4;exact ⟨hv,h5,h6,h7,h8⟩
 ·cases h3
end
section
theorem Avn {p x y:Int} (hp:2<=p/\p<=97) (hx:0<=x/\x<p) (hy:0<=y/\y<p):O8 p x y=some ((x - y) % p):=by
 unfold O8;rw [Af oM,Bg (n:=x+p) oM oM,Bg oM oM,Int.tmod_eq_emod_of_nonneg oM,show x+p - y=x - y+p by omega,Int.add_emod_right]
theorem Ahm {ρ:Type} {body:Nat×List (List Int)->Option (Ctl (Nat×List (List Int)) ρ)} {M:List (List Int)} {r:Nat} {x y:List Int} {o:ρ} (hx:M[r]? =some x) (hl:y.length=x.length) (hb:x.length<4611686018427387904)
  (hs:∀ j (h:j<x.length) (z:List Int),z[j]? =some x[j]->body (j,M.set r z)=some (.next (j+1,M.set r (z.set j (y[j]'oM))))) (he:body (x.length,M.set r y)=some (.out o)) :
  Aq body 4611686018427387904 (0,M)=some o:=by
 refine A7 x.length (fun j=>(j,M.set r (y.take j++x.drop j))) hb _ ?_ (fun j hj=>?_) ?_
 ·obtain ⟨h1,h2⟩:=gSi.1 hx;simp only [List.take_zero,List.nil_append,List.drop_zero];rw [← h2,List.set_getElem_self]
 ·have h1:(y.take j).length=j:=by rw [List.length_take];omega
  rw [hs j hj _ (R3 hj h1),R7 hj h1,List.take_add_one,gEg oM];rfl
 ·rw [List.drop_length,List.append_nil,← hl,List.take_length,hl];exact he
theorem W7 {ρ:Type} {body:Nat×List Int->Option (Ctl (Nat×List Int) ρ)} {x y:List Int} {o:ρ} (hl:y.length=x.length) (hb:x.length<4611686018427387904)
  (hs:∀ j (h:j<x.length) (z:List Int),z[j]? =some x[j]->body (j,z)=some (.next (j+1,z.set j (y[j]'oM)))) (he:body (x.length,y)=some (.out o)) :
  Aq body 4611686018427387904 (0,x)=some o:=by
 refine A7 x.length (fun j=>(j,y.take j++x.drop j)) hb _ rfl (fun j hj=>?_) ?_
 ·have h1:(y.take j).length=j:=by rw [List.length_take];omega
  rw [hs j hj _ (R3 hj h1),R7 hj h1,List.take_add_one,gEg oM];rfl
 ·rw [List.drop_length,List.append_nil,← hl,List.take_length,hl];exact he
theorem Avu {ρ:Type} {body:Nat×List (List Int)->Option (Ctl (Nat×List (List Int)) ρ)} {M E:List (List Int)} {r:Nat} {pr:List Int} {o:ρ} (hl:E.length=M.length) (hM:M[r]? =some pr) (hE:E[r]? =some pr)
  (hb:M.length<4611686018427387904) (hs:∀ i (h:i<M.length) (s:List (List Int)),s.length=M.length->s[i]? =some M[i]->s[r]? =some pr->body (i,s)=some (.next (i+1,s.set i (E[i]'oM)))) (he:body (M.length,E)=some (.out o)) :
  Aq body 4611686018427387904 (0,M)=some o:=by
 refine A7 M.length (fun j=>(j,E.take j++M.drop j)) hb _ rfl (fun j hj=>?_) ?_
 ·have h1:(E.take j).length=j:=by rw [List.length_take];omega
  rw [hs j hj _ (by simp;omega) (R3 hj h1) ?_,R7 hj h1,List.take_add_one,gEg oM];rfl;by_cases h2:r<j
  ·rw [List.getElem?_append_left oM,List.getElem?_take,if_pos h2];exact hE
  ·rw [List.getElem?_append_right oM,h1,List.getElem?_drop,show j+(r - j)=r by omega];exact hM
 ·rw [List.drop_length,List.append_nil,← hl,List.take_length,hl];exact he
theorem U1 {α:Type} {m:List α} {i:Nat} {x z:α} (h:m[i]? =some x):(m.set i z)[i]? =some z:=by
 rw [List.getElem?_set_self (Ai h)]
theorem Pq {α:Type} {m:List α} {i:Nat} {x:α} (h:m[i]? =some x):m.set i x=m:=by
 obtain ⟨h1,h2⟩:=gSi.1 h;rw [← h2,List.set_getElem_self]
theorem Anc {α:Type} {m:List α} {i j:Nat} {z:α} (h:i≠j):(m.set i z)[j]? =m[j]?:=List.getElem?_set_ne h
theorem Aje {p k:Int} {x:List Int} {j:Nat} (h:j<(Fb p k x).length):(Fb p k x)[j]=x[j]'(by simpa [Fb] using h)*k % p:=by simp [Fb]
theorem Akx {p f:Int} {x v:List Int} {j:Nat} (h:j<(D3 p f x v).length):(D3 p f x v)[j]=(x[j]'(by simp [D3] at h;omega) - f*v[j]'(by simp [D3] at h;omega)) % p:=by simp [D3]
theorem Qt {p:Int} {c r:Nat} {pr:List Int} {m:List (List Int)} {i:Nat} (h:i<(Ie p c r pr m).length) :
  (Ie p c r pr m)[i]=if i=r then pr else D3 p ((m[i]'(by simpa [Ie] using h)).getD c 0) (m[i]'(by simpa [Ie] using h)) pr:=by simp [Ie]
theorem Ps {p:Int} {w j:Nat} {x:List Int} (hx:VecW p w x) (hj:j<x.length):0<=x[j]/\x[j]<p:=hx.2 _ (List.getElem_mem hj)
theorem Dc {p:Int} {w j:Nat} {x:List Int} (hx:VecW p w x) (hj:j<w):0<=x.getD j 0/\x.getD j 0<p/\x[j]? =some (x.getD j 0):=by
 have h:j<x.length:=by rw [hx.1];exact hj
 have e:x[j]? =some x[j]:=gEg h;rw [Bm e];exact ⟨(Ps hx h).1,(Ps hx h).2,e⟩
theorem Awl {p f a b:Int}:(a - f*b % p) % p=(a - f*b) % p:=by rw [Int.sub_emod_emod]
section
variable {p:Int} {w:Nat} {m:List (List Int)}
theorem Aps {r:Nat} {x:List Int} {k:Int} (hp:2<=p/\p<=97) (hx:VecW p w x) (hw:w<=100000) (hr:m[r]? =some x) (hk:0<=k/\k<p) :
  Aq (fun s_:Nat×List (List Int)=>Hg x r p k s_.1 s_.2) 4611686018427387904 (0,m)=some (m.set r (Fb p k x)):=by
 have hl:=hx.1;refine Ahm hr (y:=Fb p k x) (by simp [Fb]) oM (fun j hj z hz=>?_) ?_
 ·have hv:=Ps hx hj
  try dsimp only
  unfold Hg;rw [Av oM,cond_true,U1 hr,obs,hz,obs,Ant hp hv hk,obs,Af oM,List.set_set,Aje]
 ·try dsimp only
  unfold Hg;rw [At oM,cond_false]
theorem Aum {i r:Nat} {x v:List Int} {f:Int} (hp:2<=p/\p<=97) (hx:VecW p w x) (hv:VecW p w v) (hw:w<=100000) (hi:m[i]? =some x) (hr:m[r]? =some v) (hn:i≠r) (hf:0<=f/\f<p) :
  Aq (fun s_:Nat×List (List Int)=>Hu x i r p f s_.1 s_.2) 4611686018427387904 (0,m)=some (m.set i (D3 p f x v)):=by
 have hl:=hx.1;have hl':=hv.1;refine Ahm hi (y:=D3 p f x v) (by simp [D3];omega) oM (fun j hj z hz=>?_) ?_
 ·have h1:=Ps hx hj;have h2:=Ps hv (j:=j) oM
  try dsimp only
  unfold Hu
  rw [Av oM,cond_true,U1 hi,obs,hz,obs,Anc hn,hr,obs,gEg (show j<v.length by omega),obs,Ant hp hf h2,obs,
   Avn hp h1 (Uy hp.1),obs,Af oM,List.set_set,Akx,Awl]
 ·try dsimp only
  unfold Hu;rw [At oM,cond_false]
theorem Aj5 {c r:Nat} {pr:List Int} (h:r<m.length):(Ie p c r pr m)[r]? =some pr:=by
 rw [gEg (by rw [Qq];exact h),Qt,if_pos rfl]
theorem Aq9 {M0:List (List Int)} {c r:Nat} {pr:List Int} (hp:2<=p/\p<=97) (hm:MatW p w m) (hw:w<=100000) (hl:m.length<=100000) (hr:m[r]? =some pr) (hc:c<w) (h0:M0.length=m.length) :
  Aq (fun s_:Nat×List (List Int)=>Hi M0 r c p s_.1 s_.2) 4611686018427387904 (0,m)=some (Ie p c r pr m):=by
 refine Avu (E:=Ie p c r pr m) (Qq ..) hr (Aj5 (Ai hr)) oM (fun i hi s hs h1 h2=>?_) ?_
 ·have hx:=hm _ (List.getElem_mem hi);have hv:=hm _ (List.mem_of_getElem? hr);obtain ⟨g1,g2,g3⟩:=Dc hx hc;generalize hxe:m[i]=x at *
  try dsimp only
  unfold Hi;rw [Av oM,cond_true,Qt,hxe];by_cases hir:i=r
  ·subst hir;rw [if_pos rfl,show (((i:Nat):Int)==((i:Nat):Int))=true from beq_self_eq_true _,cond_true,obs,cond_true,obs,Af oM,Pq h2]
  ·rw [if_neg hir,show (((i:Nat):Int)==((r:Nat):Int))=false from by rw [beq_eq_false_iff_ne];omega,cond_false,h1,obs,g3,obs,obs];by_cases h0:x.getD c 0=0
   ·rw [h0,show ((0:Int)==0)=true from rfl,cond_true,obs,Af oM,Zp hx.2 (by rw [hx.1,hv.1];exact Nat.le_refl _),Pq h1]
   ·rw [show (x.getD c 0==0)=false from beq_eq_false_iff_ne.2 h0,cond_false,obs,g3,obs,Aum hp hx hv hw h1 h2 hir ⟨g1,g2⟩,obs,Af oM]
 ·try dsimp only
  unfold Hi;rw [At oM,cond_false]
theorem Ao7 {c r:Nat} {pr y:List Int}:Ie p c r pr (m.set r y)=Ie p c r pr m:=by
 apply List.ext_getElem
 ·rw [Qq,Qq,List.length_set]
 ·intro i h1 h2;rw [Qt,Qt];by_cases h:i=r
  ·rw [if_pos h,if_pos h]
  ·rw [if_neg h,if_neg h];simp only [List.getElem_set,if_neg (fun e=>h (Eq.symm e))]
theorem Aw1 {c r:Nat} (hm:MatW p w m) (hc:c<w) (hl:m.length<=100000) (hr:r<=m.length) :
  Aq (fun s_:Nat=>Fk m c s_) 4611686018427387904 r=some (Eh m c r):=by
 have hle:=Tx (c:=c) hr;refine A7 ((m.drop r).findIdx fun x=>x.getD c 0 !=0) (fun t=>r+t) (by unfold Eh at hle;omega) _ rfl (fun t ht=>?_) ?_
 ·have h1:r+t<Eh m c r:=by unfold Eh;omega
  have h0:=Afd (i:=r+t) oM h1 hr;obtain ⟨x,hx⟩:=Ln (show r+t<m.length by omega);obtain ⟨g1,g2,g3⟩:=Dc (hm _ (List.mem_of_getElem? hx)) hc;rw [Bm hx] at h0
  try dsimp only
  unfold Fk;rw [Av oM,cond_true,hx,obs,g3,obs,obs,h0,show ((0:Int)==0)=true from rfl,cond_true,Af oM,Nat.add_assoc]
 ·show Fk m c (Eh m c r)=_;unfold Fk;by_cases h:Eh m c r=m.length
  ·rw [At oM,cond_false,obs,cond_false]
  ·have h0:=Ad4 h hr;obtain ⟨x,hx⟩:=Ln (show Eh m c r<m.length by omega);obtain ⟨g1,g2,g3⟩:=Dc (hm _ (List.mem_of_getElem? hx)) hc;rw [Bm hx] at h0;rw [Av oM,cond_true,hx,obs,g3,obs,obs,beq_eq_false_iff_ne.2 h0,cond_false]
theorem Ar8 {r k:Nat} (hr:r<m.length) (hk:k<m.length):(Mz m r k)[r]? =some (m.getD k []):=by
 unfold Mz;by_cases h:r=k
 ·subst h;rw [List.getElem?_set_self (by rw [List.length_set];exact hr)]
 ·rw [List.getElem?_set_ne (Ne.symm h),List.getElem?_set_self hr]
theorem As4 {n:Nat} (hp:isF p=true) (hm:MatW p w m) (hn:n<=w) (hw:w<=100000) (hl:m.length<=100000) :
  Aq (fun s_:Nat×Nat×List (List Int)=>D9 (n:Int) p s_.1 s_.2.1 s_.2.2) 4611686018427387904 (0,0,m)=some (gjT p m n):=by
 have hb:=Cx hp;refine Hx n (fun c s=>s=((gjT p m c).1,c,(gjT p m c).2)) oM _ rfl (fun c s hc hI=>?_) (fun s hI=>?_)
 ·subst hI;obtain ⟨hm',hr,hl'⟩:=Nf hb.1 hm c;by_cases hlt:(gjT p m c).1<(gjT p m c).2.length
  ·refine .inl ?_;refine ⟨_,?_,rfl⟩;show D9 _ _ _ _ _=some (Ctl.next ((gjS p c (gjT p m c)).1,c+1,(gjS p c (gjT p m c)).2));generalize gjT p m c=s at *;obtain ⟨r,M⟩:=s
   try dsimp only at *
   unfold D9 gjS;rw [Av oM,cond_true,obs,Av oM,cond_true,Aw1 hm' oM oM hr,obs,if_pos hlt];by_cases hk:Eh M c r=M.length
   ·rw [hk,beq_self_eq_true,cond_true,obs,if_pos rfl];exact Af oM _
   ·have hle:=Tx (c:=c) hr;have hkl:Eh M c r<M.length:=by omega
    rw [show (((Eh M c r:Nat):Int)==((M.length:Nat):Int))=false from by rw [beq_eq_false_iff_ne];omega,cond_false,if_neg hk];have hnz:=Ad4 hk hr;obtain ⟨x,hx⟩:=Ln hlt;obtain ⟨y,hy⟩:=Ln hkl;have hyM:=hm' _ (List.mem_of_getElem? hy);obtain ⟨g1,g2,g3⟩:=Dc hyM (show c<w by omega);rw [Bm hy] at hnz;obtain ⟨i1,_,i2,i3,_⟩:=Ahu hp (a:=y.getD c 0) oM;have hs:=Ar8 hlt hkl;have hpm:=Ab3 hm' hlt hkl;have hsl:=Sn M r (Eh M c r);have hsw:(M.set r y).set (Eh M c r) x=Mz M r (Eh M c r):=by unfold Mz;rw [Bm hx,Bm hy]
    rw [hx,obs,hy,obs,hsw,Bm hy];rw [Bm hy] at hs;generalize Mz M r (Eh M c r)=W at *;have hpr:VecW p w (Fb p (Pg p (y.getD c 0)) y):=T4 hb.1 hyM.1
    rw [hs,obs,g3,obs,i1,obs,Aps hb hyM hw hs ⟨i2,i3⟩,obs,
     Aq9 hb (w:=w) (m:=W.set r (Fb p (Pg p (y.getD c 0)) y)) (pr:=Fb p (Pg p (y.getD c 0)) y) (fun z hz=>?_) hw (by rw [List.length_set];omega) (U1 hs) oM rfl,obs,Af oM,obs,Ao7]
    ·exact Af oM _
    ·rcases List.mem_or_eq_of_mem_set hz with hz|rfl
     ·exact hpm _ hz
     ·exact hpr
  ·refine .inr ?_;rw [Acm hlt n oM];generalize gjT p m c=s at *
   try dsimp only
   unfold D9;rw [Av oM,cond_true,obs,At oM,cond_false]
 ·subst hI
  try dsimp only
  unfold D9;rw [At oM,cond_false,obs,cond_false]
theorem Av2 (hm:MatW p w m) (hw:w<=100000) (hl:m.length<=100000) :
  Aq (fun s_:Nat×List (List Int)=>Fj m s_.1 s_.2) 4611686018427387904 (0,([]:List (List Int)))=some m:=by
 have h:=Da (body:=fun s_:Nat×List (List Int)=>Fj m s_.1 s_.2) m id [] (F:=4611686018427387904) oM m (fun i x h=>?_) ?_
 ·simpa using h
 ·have:=Ai h;have hx:=(hm x (List.mem_of_getElem? h)).1
  try dsimp only
  unfold Fj;rw [Av oM,cond_true,h,obs,Xl _ oM,obs,Af (by simp;omega),Af oM];rfl
 ·try dsimp only
  unfold Fj;rw [At oM,cond_false,List.map_id,List.nil_append]
theorem Sp {n:Nat} (hp:isF p=true) (hm:MatW p w m) (hn:n<=w) (hw:w<=100000) (hl:m.length<=100000):Ew p (n:Int) m=some (gj p n m):=by
 have hb:=Cx hp;obtain ⟨_,h2,h3⟩:=Nf hb.1 hm n;unfold Ew;rw [Av2 hm hw hl,obs,As4 hp hm hn hw hl,obs];exact Af oM _
end
end
section
theorem Atz {ρ:Type} {body:Nat×List (List Int)×List (List Int)->Option (Ctl (Nat×List (List Int)×List (List Int)) ρ)} {M E A B:List (List Int)} {r:Nat} {pr pa:List Int} {o:ρ}
  (hl:E.length=M.length) (hA:A.length=M.length) (hB:B.length=M.length) (hM:M[r]? =some pr) (hE:E[r]? =some pr) (hM':A[r]? =some pa) (hE':B[r]? =some pa) (hb:M.length<4611686018427387904)
  (hs:∀ i (h:i<M.length) (s t:List (List Int)),s.length=M.length->t.length=M.length->s[i]? =some M[i]->t[i]? =some (A[i]'oM)->s[r]? =some pr->t[r]? =some pa ->
   body (i,s,t)=some (.next (i+1,s.set i (E[i]'oM),t.set i (B[i]'oM)))) (he:body (M.length,E,B)=some (.out o)) :
  Aq body 4611686018427387904 (0,M,A)=some o:=by
 have hr:∀ {M E:List (List Int)} {pr:List Int} {j:Nat},(E.take j).length=j->M[r]? =some pr->E[r]? =some pr->(E.take j++M.drop j)[r]? =some pr:=by
  intro M E pr j h1 hM hE;by_cases h2:r<j
  ·rw [List.getElem?_append_left oM,List.getElem?_take,if_pos h2];exact hE
  ·rw [List.getElem?_append_right oM,h1,List.getElem?_drop,show j+(r - j)=r by omega];exact hM
 refine A7 M.length (fun j=>(j,E.take j++M.drop j,B.take j++A.drop j)) hb _ rfl (fun j hj=>?_) ?_
 ·have h1:(E.take j).length=j:=by rw [List.length_take];omega
  have h2:(B.take j).length=j:=by rw [List.length_take];omega
  rw [hs j hj _ _ (by simp;omega) (by simp;omega) (R3 hj h1) (R3 oM h2) (hr h1 hM hE) (hr h2 hM' hE'),R7 hj h1,R7 oM h2,List.take_add_one,gEg oM,List.take_add_one,gEg oM];rfl
 ·rw [List.drop_length,List.append_nil,← hl,List.take_length,hl,← hA,List.drop_length,List.append_nil,hA,← hB,List.take_length,hB];exact he
theorem VecW.tk {p:Int} {w u:Nat} {x:List Int} (h:VecW p w x) (hu:u<=w):VecW p u (x.take u):=⟨by rw [List.length_take,h.1];omega,fun a ha=>h.2 a (List.mem_of_mem_take ha)⟩
theorem VecW.dr {p:Int} {w u:Nat} {x:List Int} (h:VecW p w x):VecW p (w - u) (x.drop u):=⟨by rw [List.length_drop,h.1],fun a ha=>h.2 a (List.mem_of_mem_drop ha)⟩
theorem MatW.tk {p:Int} {w u:Nat} {m:List (List Int)} (h:MatW p w m) (hu:u<=w):MatW p u (m.map (·.take u)):=fun x hx=>by
 obtain ⟨y,hy,rfl⟩:=List.mem_map.1 hx;exact (h y hy).tk hu
theorem MatW.dr {p:Int} {w u:Nat} {m:List (List Int)} (h:MatW p w m):MatW p (w - u) (m.map (·.drop u)):=fun x hx=>by
 obtain ⟨y,hy,rfl⟩:=List.mem_map.1 hx;exact (h y hy).dr
section
variable {p:Int} {w:Nat} {m:List (List Int)}
theorem Ae9 {x v:List Int} {f:Int} (hp:2<=p/\p<=97) (hx:VecW p w x) (hv:VecW p w v) (hw:w<=100000) (hf:0<=f/\f<p) :
  Cc p x (wI (0 - f)) v=some (D3 p f x v):=by
 have hl:=hx.1;have hl':=hv.1;unfold Cc;refine W7 (y:=D3 p f x v) (by simp [D3];omega) oM (fun j hj z hz=>?_) ?_
 ·have h1:=Ps hx hj;have h2:=Ps hv (j:=j) oM;have h3:=Afh hp hf h2;have e:(0 - f)*v[j]= -(f*v[j]):=by rw [Int.zero_sub,Int.neg_mul]
  try dsimp only
  unfold C7;rw [Av oM,cond_true,gEg (show j<v.length by omega),obs,hz,obs,Bg (n:=0 - f) oM oM,e,Bg (n:= -(f*v[j])) oM oM,Bg oM oM,Auv hp,obs,Af oM,Akx];rfl
 ·try dsimp only
  unfold C7;rw [At oM,cond_false]
theorem Ajz {r k:Nat} {x y:List Int} {b:Int} (hr:m[r]? =some x) (hk:m[k]? =some y):Bi 0 (r:Int) (k:Int) b p m=some (Mz m r k):=by
 unfold Bi Mz;rw [show ((0:Int)==0)=true from rfl,cond_true,B0 oM,Int.toNat_natCast,hk,obs,B0 oM,Int.toNat_natCast,hr,obs,Bm hr,Bm hk]
theorem Aji {r:Nat} {x:List Int} {a b:Int} (hp:isF p=true) (hx:VecW p w x) (hw:w<=100000) (hr:m[r]? =some x) (ha:1<=a/\a<p) :
  Bi 1 (r:Int) b a p m=some (m.set r (Fb p (Pg p a) x)):=by
 obtain ⟨_,i1,i2,i3,_⟩:=Ahu hp ha;have hb:=Cx hp;have hl:=hx.1;unfold Bi;rw [show ((1:Int)==0)=false from rfl,cond_false,show ((1:Int)==1)=true from rfl,cond_true,i1,obs,B0 oM,Int.toNat_natCast,hr,obs];refine Ahm hr (y:=Fb p (Pg p a) x) (by simp [Fb]) oM (fun j hj z hz=>?_) ?_
 ·have hv:=Ps hx hj;have h3:=Afh hb hv ⟨i2,i3⟩
  try dsimp only
  unfold Ex;rw [Av oM,cond_true,B0 oM,Int.toNat_natCast,U1 hr,obs,Af oM,hz,obs,Af oM,Af oM,List.set_set,Aje,Bg oM oM,Int.tmod_eq_emod_of_nonneg oM]
 ·try dsimp only
  unfold Ex;rw [At oM,cond_false]
theorem Aj8 {i r:Nat} {x v:List Int} {f:Int} (hp:2<=p/\p<=97) (hx:VecW p w x) (hv:VecW p w v) (hw:w<=100000) (hi:m[i]? =some x) (hr:m[r]? =some v) (hn:i≠r) (hf:0<=f/\f<p) :
  Bi 2 (i:Int) (r:Int) f p m=some (m.set i (D3 p f x v)):=by
 have hl:=hx.1;have hl':=hv.1;unfold Bi
 rw [show ((2:Int)==0)=false from rfl,cond_false,show ((2:Int)==1)=false from rfl,cond_false,show ((2:Int)==2)=true from rfl,cond_true,B0 oM,Int.toNat_natCast,hi,obs,B0 oM,Int.toNat_natCast,hr,obs,
  Af hn,Ae9 hp hx hv hw hf,obs,Af (by simp [D3];omega)]
theorem Alg {r:Nat} (hr:r<m.length):Mz m r r=m:=by
 obtain ⟨x,hx⟩:=Ln hr;unfold Mz;rw [Bm hx,List.set_set,Pq hx]
theorem Axe {A:List (List Int)} {r k:Nat} (hA:A.length=m.length) (hr:r<m.length) (hk:k<m.length):Bz 0 (r:Int) (k:Int) 0 p m A=some (Mz m r k,Mz A r k):=by
 unfold Bz;by_cases h:r=k
 ·subst h;rw [beq_self_eq_true,cond_true,Alg hr,Alg oM]
 ·obtain ⟨x,hx⟩:=Ln hr;obtain ⟨y,hy⟩:=Ln hk;obtain ⟨x',hx'⟩:=Ln (show r<A.length by omega);obtain ⟨y',hy'⟩:=Ln (show k<A.length by omega);rw [show ([(0:Int),(r:Int),(k:Int),0]==[0,(r:Int),(r:Int),0])=false from by rw [beq_eq_false_iff_ne];intro e;simp at e;omega,cond_false,Ajz hx hy,obs,Af (Sn ..),Ajz hx' hy',obs,Af (Sn ..)]
theorem Awk {A:List (List Int)} {w' r:Nat} {x y:List Int} {a:Int} (hp:isF p=true) (hx:VecW p w x) (hy:VecW p w' y) (hw:w<=100000) (hw':w'<=100000) (hr:m[r]? =some x) (hA:A[r]? =some y) (ha:1<=a/\a<p) :
  Bz 1 (r:Int) 0 a p m A=some (m.set r (Fb p (Pg p a) x),A.set r (Fb p (Pg p a) y)):=by
 unfold Bz;rw [show ([(1:Int),(r:Int),0,a]==[0,(r:Int),(r:Int),0])=false from by rw [beq_eq_false_iff_ne];intro e;simp at e,cond_false,Aji hp hx hw hr ha,obs,Af (List.length_set ..),Aji hp hy hw' hA ha,obs,Af (List.length_set ..)]
theorem Axh {A:List (List Int)} {w' i r:Nat} {x v y u:List Int} {f:Int} (hp:2<=p/\p<=97) (hx:VecW p w x) (hv:VecW p w v) (hy:VecW p w' y) (hu:VecW p w' u) (hw:w<=100000) (hw':w'<=100000)
  (hi:m[i]? =some x) (hr:m[r]? =some v) (hi':A[i]? =some y) (hr':A[r]? =some u) (hn:i≠r) (hf:0<=f/\f<p) :
  Bz 2 (i:Int) (r:Int) f p m A=some (m.set i (D3 p f x v),A.set i (D3 p f y u)):=by
 unfold Bz;rw [show ([(2:Int),(i:Int),(r:Int),f]==[0,(i:Int),(i:Int),0])=false from by rw [beq_eq_false_iff_ne];intro e;simp at e,cond_false,Aj8 hp hx hv hw hi hr hn hf,obs,Af (List.length_set ..),Aj8 hp hy hu hw' hi' hr' hn hf,obs,Af (List.length_set ..)]
def Xp (p:Int) (c r:Nat) (pa:List Int) (M A:List (List Int)):List (List Int):=A.mapIdx fun i x=>if i=r then pa else D3 p ((M.getD i []).getD c 0) x pa
theorem Un {c r:Nat} {pa:List Int} {M A:List (List Int)} {i:Nat} (h:i<(Xp p c r pa M A).length) :
  (Xp p c r pa M A)[i]=if i=r then pa else D3 p ((M.getD i []).getD c 0) (A[i]'(by simpa [Xp] using h)) pa:=by simp [Xp]
theorem Ar7 {M0:List (List Int)×List (List Int)} {A:List (List Int)} {w' c r:Nat} {pr pa:List Int} (hp:2<=p/\p<=97) (hm:MatW p w m) (hA:MatW p w' A) (hlA:A.length=m.length) (hw:w<=100000) (hw':w'<=100000) (hl:m.length<=100000)
  (hr:m[r]? =some pr) (hr':A[r]? =some pa) (hc:c<w) (h0:M0.1.length=m.length) :
  Aq (fun s_:Nat×List (List Int)×List (List Int)=>Gp M0 r c p s_.1 s_.2.1 s_.2.2) 4611686018427387904 (0,m,A)=some (Ie p c r pr m,Xp p c r pa m A):=by
 have hla:(Xp p c r pa m A).length=m.length:=by simp [Xp,hlA]
 have hr2:=Ai hr;refine Atz (E:=Ie p c r pr m) (B:=Xp p c r pa m A) (Qq ..) hlA hla hr (Aj5 hr2) hr' ?_ oM (fun i hi s t hs ht h1 k1 h2 k2=>?_) ?_
 ·rw [gEg oM,Un,if_pos rfl]
 ·have hx:=hm _ (List.getElem_mem hi);have hy:=hA _ (List.getElem_mem (show i<A.length by omega));have hv:=hm _ (List.mem_of_getElem? hr);have hu:=hA _ (List.mem_of_getElem? hr');obtain ⟨g1,g2,g3⟩:=Dc hx hc;have hD:m.getD i []=m[i]:=Bm (gEg hi)
  try dsimp only
  unfold Gp;rw [Av oM,cond_true,Qt,Un,hD];generalize m[i]=x at *;generalize A[i]=y at *;by_cases hir:i=r
  ·subst hir;rw [if_pos rfl,if_pos rfl,show (((i:Nat):Int) !=((i:Nat):Int))=false from bne_self_eq_false _,cond_false,obs,cond_false,obs,Pq h2,Pq k2];exact Af oM _
  ·rw [if_neg hir,if_neg hir,show (((i:Nat):Int) !=((r:Nat):Int))=true from by rw [bne_iff_ne];omega,cond_true,h1,obs,g3,obs,obs];by_cases h0:x.getD c 0=0
   ·rw [h0,show ((0:Int) !=0)=false from rfl,cond_false,obs,Zp hx.2 (by rw [hx.1,hv.1];exact Nat.le_refl _),Zp hy.2 (by rw [hy.1,hu.1];exact Nat.le_refl _),Pq h1,Pq k1];exact Af oM _
   ·rw [show (x.getD c 0 !=0)=true from bne_iff_ne.2 h0,cond_true,obs,g3,obs,Axh hp hx hv hy hu hw hw' h1 h2 k1 k2 hir ⟨g1,g2⟩,obs,obs];exact Af oM _
 ·try dsimp only
  unfold Gp;rw [At oM,cond_false]
theorem Au1 {c r:Nat} (hm:MatW p w m) (hc:c<w) (hl:m.length<=100000) (hr:r<=m.length) :
  Aq (fun s_:Nat=>E0 m c s_) 4611686018427387904 r=some (Eh m c r):=by
 have hle:=Tx (c:=c) hr;refine A7 ((m.drop r).findIdx fun x=>x.getD c 0 !=0) (fun t=>r+t) (by unfold Eh at hle;omega) _ rfl (fun t ht=>?_) ?_
 ·have h1:r+t<Eh m c r:=by unfold Eh;omega
  have h0:=Afd (i:=r+t) oM h1 hr;obtain ⟨x,hx⟩:=Ln (show r+t<m.length by omega);obtain ⟨g1,g2,g3⟩:=Dc (hm _ (List.mem_of_getElem? hx)) hc;rw [Bm hx] at h0
  try dsimp only
  unfold E0;rw [Av oM,cond_true,hx,obs,g3,obs,obs,h0,show ((0:Int)==0)=true from rfl,cond_true,Af oM,Nat.add_assoc]
 ·show E0 m c (Eh m c r)=_;unfold E0;by_cases h:Eh m c r=m.length
  ·rw [At oM,cond_false,obs,cond_false]
  ·have h0:=Ad4 h hr;obtain ⟨x,hx⟩:=Ln (show Eh m c r<m.length by omega);obtain ⟨g1,g2,g3⟩:=Dc (hm _ (List.mem_of_getElem? hx)) hc;rw [Bm hx] at h0;rw [Av oM,cond_true,hx,obs,g3,obs,obs,beq_eq_false_iff_ne.2 h0,cond_false]
theorem Vf {x:List Int} {u c:Nat} (h:c<u):(x.take u).getD c 0=x.getD c 0:=by
 rw [gDg,List.getElem?_take,if_pos h,gDg]
theorem As7 {u c r:Nat} (h:c<u):Eh (m.map (·.take u)) c r=Eh m c r:=by
 unfold Eh;rw [← List.map_drop,List.findIdx_map];congr 2;funext x;exact congrArg (· !=0) (Vf h)
theorem T6 {f:List Int->List Int} (hf:f []=[]) {i:Nat}:(m.map f).getD i []=f (m.getD i []):=by
 rw [gDg,List.getElem?_map,gDg];cases m[i]? with
 | none=>exact hf.symm
 | some x=>rfl
theorem An8 {f:List Int->List Int} (hf:f []=[]) {r k:Nat}:(Mz m r k).map f=Mz (m.map f) r k:=by
 unfold Mz;rw [List.map_set,List.map_set,T6 hf,T6 hf]
theorem Apy {k:Int} {x:List Int} {u:Nat}:(Fb p k x).take u=Fb p k (x.take u):=by simp [Fb,List.map_take]
theorem Ap7 {k:Int} {x:List Int} {u:Nat}:(Fb p k x).drop u=Fb p k (x.drop u):=by simp [Fb,List.map_drop]
theorem Apo {k:Int} {x v:List Int} {u:Nat}:(D3 p k x v).take u=D3 p k (x.take u) (v.take u):=by simp [D3,List.take_zipWith]
theorem Apk {k:Int} {x v:List Int} {u:Nat}:(D3 p k x v).drop u=D3 p k (x.drop u) (v.drop u):=by simp [D3,List.drop_zipWith]
theorem Asv {c r u:Nat} {pr:List Int} (h:c<u):(Ie p c r pr m).map (·.take u)=Ie p c r (pr.take u) (m.map (·.take u)):=by
 apply List.ext_getElem
 ·simp [Ie]
 ·intro i h1 h2;rw [List.getElem_map,Qt,Qt,List.getElem_map,Vf h];split
  ·rfl
  ·exact Apo
theorem Auh {c r u:Nat} {pr:List Int} (h:c<u):(Ie p c r pr m).map (·.drop u)=Xp p c r (pr.drop u) (m.map (·.take u)) (m.map (·.drop u)):=by
 apply List.ext_getElem
 ·simp [Ie,Xp]
 ·intro i h1 h2;rw [List.getElem_map,Qt,Un,List.getElem_map,T6 (f:=(·.take u)) List.take_nil,Vf h,show m.getD i []=m[i]'(by simpa [Ie] using h1) from Bm (gEg (by simpa [Ie] using h1))];split
  ·rfl
  ·exact Apk
theorem Arl {c r:Nat} {pa y z:List Int} {M A:List (List Int)}:Xp p c r pa (M.set r z) (A.set r y)=Xp p c r pa M A:=by
 apply List.ext_getElem
 ·simp [Xp]
 ·intro i h1 h2;rw [Un,Un];by_cases h:i=r
  ·rw [if_pos h,if_pos h]
  ·rw [if_neg h,if_neg h];simp only [List.getElem_set,if_neg (fun e=>h (Eq.symm e)),gDg,List.getElem?_set_ne (Ne.symm h)]
def rdW (u:Nat) (W:List (List Int)):List (List Int):=W.map (·.take u)
def alW (u:Nat) (W:List (List Int)):List (List Int):=W.map (·.drop u)
theorem Arn {n u:Nat} (hp:isF p=true) (hm:MatW p w m) (hn:n<=u) (hu:u<=w) (hw:w<=100000) (hl:m.length<=100000) :
  Aq (fun s_:Nat×Nat×List (List Int)×List (List Int)=>Ds (n:Int) p s_.1 s_.2.1 s_.2.2.1 s_.2.2.2) 4611686018427387904 (0,0,rdW u m,alW u m)=some ((gjT p m n).1,rdW u (gjT p m n).2,alW u (gjT p m n).2):=by
 have hb:=Cx hp;refine Hx n (fun c s=>s=((gjT p m c).1,c,rdW u (gjT p m c).2,alW u (gjT p m c).2)) oM _ rfl (fun c s hc hI=>?_) (fun s hI=>?_)
 ·subst hI;obtain ⟨hm',hr,hl'⟩:=Nf hb.1 hm c;have hlr:(rdW u (gjT p m c).2).length=(gjT p m c).2.length:=List.length_map ..;have hla:(alW u (gjT p m c).2).length=(gjT p m c).2.length:=List.length_map ..;by_cases hlt:(gjT p m c).1<(gjT p m c).2.length
  ·refine .inl ?_;refine ⟨_,?_,rfl⟩;show Ds _ _ _ _ _ _=some (Ctl.next ((gjS p c (gjT p m c)).1,c+1,rdW u (gjS p c (gjT p m c)).2,alW u (gjS p c (gjT p m c)).2));generalize gjT p m c=s at *;obtain ⟨r,M⟩:=s
   try dsimp only at *
   have hR:MatW p u (rdW u M):=hm'.tk hu;have hA:MatW p (w - u) (alW u M):=hm'.dr;have hpv:Eh (rdW u M) c r=Eh M c r:=As7 oM;unfold Ds gjS;rw [Av oM,cond_true,obs,Av oM,cond_true,Au1 hR oM oM oM,obs,if_pos hlt,hlr,hpv];by_cases hk:Eh M c r=M.length
   ·rw [hk,beq_self_eq_true,cond_true,obs,if_pos rfl];exact Af oM _
   ·have hle:=Tx (c:=c) hr;have hkl:Eh M c r<M.length:=by omega
    rw [show (((Eh M c r:Nat):Int)==((M.length:Nat):Int))=false from by rw [beq_eq_false_iff_ne];omega,cond_false,if_neg hk];have hnz:=Ad4 hk hr;obtain ⟨y,hy⟩:=Ln hkl;have hyM:=hm' _ (List.mem_of_getElem? hy);obtain ⟨g1,g2,_⟩:=Dc hyM (show c<w by omega);rw [Bm hy] at hnz;have hs:=Ar8 hlt hkl;rw [Bm hy] at hs;have hpm:=Ab3 hm' hlt hkl;have hsl:=Sn M r (Eh M c r);have e1:Mz (rdW u M) r (Eh M c r)=rdW u (Mz M r (Eh M c r)):=(An8 List.take_nil).symm;have e2:Mz (alW u M) r (Eh M c r)=alW u (Mz M r (Eh M c r)):=(An8 List.drop_nil).symm;rw [Axe oM oM oM,obs,e1,e2,Bm hy];generalize Mz M r (Eh M c r)=W at *;have hs1:(rdW u W)[r]? =some (y.take u):=by simp [rdW,hs]
    have hs2:(alW u W)[r]? =some (y.drop u):=by simp [alW,hs]
    have g4:(y.take u)[c]? =some (y.getD c 0):=by rw [(Dc (hyM.tk hu) (show c<u by omega)).2.2,Vf oM]
    have q1:VecW p u (Fb p (Pg p (y.getD c 0)) (y.take u)):=T4 hb.1 (hyM.tk hu).1;have q2:VecW p (w - u) (Fb p (Pg p (y.getD c 0)) (y.drop u)):=T4 hb.1 hyM.dr.1;have l1:(rdW u W).length=W.length:=List.length_map ..;have l2:(alW u W).length=W.length:=List.length_map ..
    try dsimp only
    rw [hs1,obs,g4,obs,Awk hp (hyM.tk hu) hyM.dr oM oM hs1 hs2 oM,obs]
    try dsimp only
    rw [Ar7 hb (w:=u) (w':=w - u) (pr:=Fb p (Pg p (y.getD c 0)) (y.take u)) (pa:=Fb p (Pg p (y.getD c 0)) (y.drop u)) (fun z hz=>?_) (fun z hz=>?_) (by simp only [List.length_set];omega) oM oM (by simp only [List.length_set];omega) (U1 hs1) (U1 hs2) oM rfl,obs]
    ·have e3:rdW u (Ie p c r (prV p c y) W)=Ie p c r (Fb p (Pg p (y.getD c 0)) (y.take u)) (rdW u W):=by
      unfold rdW prV;rw [Asv oM,Apy]
     have e4:alW u (Ie p c r (prV p c y) W)=Xp p c r (Fb p (Pg p (y.getD c 0)) (y.drop u)) (rdW u W) (alW u W):=by
      unfold rdW alW prV;rw [Auh oM,Ap7]
     try dsimp only
     rw [Af oM,obs,Ao7,Arl,e3,e4];exact Af oM _
    ·rcases List.mem_or_eq_of_mem_set hz with hz|rfl
     ·exact hpm.tk hu _ hz
     ·exact q1
    ·rcases List.mem_or_eq_of_mem_set hz with hz|rfl
     ·exact hpm.dr _ hz
     ·exact q2
  ·refine .inr ?_;rw [Acm hlt n oM];generalize gjT p m c=s at *
   try dsimp only
   unfold Ds;rw [Av oM,cond_true,obs,hlr,At oM,cond_false]
 ·subst hI
  try dsimp only
  unfold Ds;rw [At oM,cond_false,obs,cond_false]
theorem Aar {n u:Nat} (hp:isF p=true) (hm:MatW p w m) (hn:n<=u) (hu:u<=w) (hw:w<=100000) (hl:m.length<=100000):Gz p (rdW u m) (n:Int) (alW u m)=some (rdW u (gjT p m n).2,alW u (gjT p m n).2,(gjT p m n).1):=by
 unfold Gz;rw [Arn hp hm hn hu hw hl,obs]
theorem Aef (hm:MatW p w m) (hw:w<=100000) (hl:m.length<=100000):Gj m=some m:=by
 unfold Gj;have h:=Da (body:=fun s_:Nat×List (List Int)=>Ha m s_.1 s_.2) m id [] (F:=4611686018427387904) oM m (fun i x h=>?_) ?_
 ·rw [Af oM,show List.replicate 0 ([]:List Int)=[] from rfl,show Aq (fun s_:Nat×List (List Int)=>Ha m s_.1 s_.2) 4611686018427387904 (0,[])=some m by simpa using h];rfl
 ·have:=Ai h;have hx:=(hm x (List.mem_of_getElem? h)).1
  try dsimp only
  unfold Ha;rw [Av oM,cond_true,h,obs,Aot _ oM,obs,Af (by simp;omega),Af oM];rfl
 ·try dsimp only
  unfold Ha;rw [At oM,cond_false,List.map_id,List.nil_append]
end
end
section
def X2 (p n:Int) (b:List (List Int)):Bool:=b.all fun x=>((x.length:Nat):Int)==n&&x.all fun a=>inR a 0 (p - 1)
theorem Hj {a lo hi:Int}:inR a lo hi=true↔lo<=a/\a<=hi:=by simp [inR]
theorem Zl {p:Int} {n:Nat} {b:List (List Int)} (h:X2 p n b=true):MatW p n b:=by
 intro x hx;have h1:=List.all_eq_true.1 h x hx;simp only [Bool.and_eq_true,beq_iff_eq,List.all_eq_true,Hj] at h1;exact ⟨by omega,fun a ha=>by have:=h1.2 a ha;omega⟩
theorem Ars (p n:Int) (b:List (List Int)) (hp:2<=p/\p<=97) (hb:b.length<=1048576) (hr:Iw 1048576 b):Nu p n b=some (X2 p n b):=by
 unfold Nu;rw [G5 b (fun x=>((x.length:Nat):Int)==n&&x.all fun a=>inR a 0 (p - 1)) (.next ()) (.out false) oM (fun i x h=>?_) ?_,Nx];rfl
 ·unfold Nc;rw [At oM,cond_false]
 ·have:=Ai h;have hx:=hr x (List.mem_of_getElem? h);unfold Nc;rw [Av oM,cond_true,h,obs];cases hc:((x.length:Nat):Int)==n
  ·rw [show (((x.length:Nat):Int) !=n)=true by simp only [bne,hc,Bool.not_false],cond_true,obs,cond_true,Bool.false_and];rfl
  ·rw [show (((x.length:Nat):Int) !=n)=false by simp only [bne,hc,Bool.not_true],cond_false,Ax6 p x hp oM,obs,obs,Bool.true_and,Af oM];cases x.all fun a=>inR a 0 (p - 1) <;> rfl
theorem Aic (p n:Int) (b:List (List Int)) (hb:b.length<=1048576) (hr:Iw 1048576 b):Is p b n=some (X2 p n b):=by
 unfold Is;rw [G5 b (fun x=>((x.length:Nat):Int)==n&&x.all fun a=>inR a 0 (p - 1)) (.next ()) (.out false) oM (fun i x h=>?_) ?_,Nx];rfl
 ·unfold Jb;rw [At oM,cond_false]
 ·have:=Ai h;have hx:=hr x (List.mem_of_getElem? h);unfold Jb;rw [Av oM,cond_true,h,obs,Anb p x n oM,obs,Af oM];cases ((x.length:Nat):Int)==n&&x.all fun a=>inR a 0 (p - 1) <;> rfl
theorem Ai9 (x y:List Int) (hx:x.length<=1048576):Kp x y=some (x==y):=by
 unfold Kp;by_cases h:x.length=y.length
 ·rw [show (((x.length:Nat):Int) !=((y.length:Nat):Int))=false by rw [h];exact bne_self_eq_false _,cond_false]
  have key:Aq (fun s_:Nat=>Jn x y s_) 4611686018427387904 0=some (if x==y then .next () else .out false):=by
   refine Hx x.length (fun i s=>s=i/\x.take i=y.take i) oM _ ⟨rfl,by simp⟩ ?_ ?_
   ·rintro i s hi ⟨hsi,ht⟩;subst hsi;unfold Jn;rw [Av oM,cond_true,gEg hi,obs,gEg (show s<y.length by omega),obs];by_cases he:x[s]=y[s]'oM
    ·refine .inl ⟨s+1,?_,rfl,?_⟩
     ·rw [show (x[s] !=y[s]'oM)=false by rw [he];exact bne_self_eq_false _,cond_false,Af oM]
     ·rw [List.take_add_one,List.take_add_one,ht,gEg hi,gEg (show s<y.length by omega),he]
    ·refine .inr ?_;rw [bne_iff_ne.2 he,cond_true,show (x==y)=false from by rw [beq_eq_false_iff_ne];intro e;subst e;exact he rfl];rfl
   ·rintro s ⟨hs,ht⟩;subst hs;rw [List.take_length,h,List.take_length] at ht;subst ht;unfold Jn;rw [At oM,cond_false,beq_self_eq_true];rfl
  rw [key];cases x==y <;> rfl
 ·rw [show (((x.length:Nat):Int) !=((y.length:Nat):Int))=true by rw [bne_iff_ne];omega,cond_true,show (x==y)=false from by rw [beq_eq_false_iff_ne];intro e;subst e;exact h rfl]
theorem Ard (x y:List (List Int)) (hx:x.length<=1048576) (hr:Iw 1048576 x):N3 x y=some (x==y):=by
 unfold N3;by_cases h:x.length=y.length
 ·rw [show (((x.length:Nat):Int) !=((y.length:Nat):Int))=false by rw [h];exact bne_self_eq_false _,cond_false]
  have key:Aq (fun s_:Nat=>Ju x y s_) 4611686018427387904 0=some (if x==y then .next () else .out false):=by
   refine Hx x.length (fun i s=>s=i/\x.take i=y.take i) oM _ ⟨rfl,by simp⟩ ?_ ?_
   ·rintro i s hi ⟨hsi,ht⟩;subst hsi;unfold Ju;rw [Av oM,cond_true,gEg hi,obs,gEg (show s<y.length by omega),obs,Ai9 _ _ (hr _ (List.getElem_mem hi)),obs];by_cases he:x[s]=y[s]'oM
    ·refine .inl ⟨s+1,?_,rfl,?_⟩
     ·rw [show (x[s]==y[s]'oM)=true by rw [he];exact beq_self_eq_true _,Bool.not_true,cond_false,Af oM]
     ·rw [List.take_add_one,List.take_add_one,ht,gEg hi,gEg (show s<y.length by omega),he]
    ·refine .inr ?_;rw [beq_eq_false_iff_ne.2 he,Bool.not_false,cond_true,show (x==y)=false from by rw [beq_eq_false_iff_ne];intro e;subst e;exact he rfl];rfl
   ·rintro s ⟨hs,ht⟩;subst hs;rw [List.take_length,h,List.take_length] at ht;subst ht;unfold Ju;rw [At oM,cond_false,beq_self_eq_true];rfl
  rw [key];cases x==y <;> rfl
 ·rw [show (((x.length:Nat):Int) !=((y.length:Nat):Int))=true by rw [bne_iff_ne];omega,cond_true,show (x==y)=false from by rw [beq_eq_false_iff_ne];intro e;subst e;exact h rfl]
theorem Zb {p:Int} {w:Nat} {m:List (List Int)} (hp:isF p=true) (hm:MatW p w m) (hw:w<=100000) (hl:m.length<=100000):Fp p m (w:Int)=some (gj p w m):=by
 have hb:=Cx hp;obtain ⟨k1,h2,h3⟩:=Nf hb.1 hm w
 have e1:∀ {m:List (List Int)},MatW p w m->rdW w m=m:=fun {m} hm=>by
  unfold rdW;exact (List.map_congr_left (g:=id) (fun x hx=>List.take_of_length_le (Nat.le_of_eq (hm x hx).1))).trans (List.map_id _)
 have e2:alW w m=List.replicate m.length []:=by
  unfold alW;rw [List.eq_replicate_iff];refine ⟨List.length_map ..,fun b hb=>?_⟩;obtain ⟨x,hx,rfl⟩:=List.mem_map.1 hb;exact List.drop_of_length_le (Nat.le_of_eq (hm x hx).1)
 have e3:(alW w (gjT p m w).2).length=m.length:=by rw [← h3];exact List.length_map ..
 have hR:=Aar hp hm (Nat.le_refl w) (Nat.le_refl w) hw hl;rw [e1 hm,e2] at hR;unfold Fp;rw [Aef hm hw hl,obs,Af oM,hR,obs];rw [e1 k1];rw [Af h3,Af e3];exact Af (by dsimp only;omega) _
theorem Axz (x:List Int):Sm x=some (x.take 48++(List.replicate 48 0).drop (x.take 48).length):=rfl
theorem Anj (x:List Int):(x.take 48++(List.replicate 48 (0:Int)).drop (x.take 48).length).length=48:=by simp;omega
theorem Awv {x y:List Int} {n:Nat} (hx:x.length=n) (hy:y.length=n) (hn:n<=48) (h:x.take 48++(List.replicate 48 (0:Int)).drop (x.take 48).length=y.take 48++(List.replicate 48 (0:Int)).drop (y.take 48).length):x=y:=by
 rw [List.take_of_length_le oM,List.take_of_length_le (show y.length<=48 by omega)] at h;exact (List.append_inj h oM).1
theorem Ajc {p:Int} {n:Nat} (b:List (List Int)) (hp:isF p=true) (hn:n<=48) (hb:b.length<=1048576) (hr:Iw 1048576 b) :
  Jq p b (n:Int)=some (decide (((b.length:Nat):Int)<=n)&&(X2 p n b&&gj p n b==b)):=by
 unfold Jq;by_cases h1:(n:Int)<b.length
 ·rw [Av h1,cond_true,obs,cond_true,At oM,Bool.false_and]
 rw [At h1,cond_false,Av (show ((b.length:Nat):Int)<=n by omega),Bool.true_and,Aic p n b hb hr,obs,obs];cases hv:X2 p n b
 ·rw [Bool.not_false,cond_true,Bool.false_and]
 have hm:=Zl hv;have hp2:=Cx hp;have hl:=(Nf hp2.1 hm n).2;have hgl:=Ahi (n:=n) hp2.1 hm;have hgm:=U0 (n:=n) hp2.1 hm;rw [Bool.not_true,cond_false,Zb hp hm oM oM,obs,obs,Bool.true_and]
 have key:Aq (fun s_:Nat=>Gr (gj p n b) b s_) 4611686018427387904 0=some (if gj p n b==b.take (gj p n b).length then .next () else .out false):=by
  generalize gj p n b=x at *;refine Hx x.length (fun i s=>s=i/\x.take i=b.take i) oM _ ⟨rfl,by simp⟩ ?_ ?_
  ·rintro i s hi ⟨hsi,ht⟩;subst hsi;have hs:s<b.length:=by omega
   unfold Gr;rw [Av oM,cond_true,gEg hi,obs,Axz,obs,gEg hs,obs,Axz,obs,Af ⟨Anj _,Anj _⟩];by_cases he:x[s]=b[s]
   ·refine .inl ⟨s+1,?_,rfl,?_⟩
    ·rw [he,beq_self_eq_true,Bool.not_true,cond_false,Af oM]
    ·rw [List.take_add_one,List.take_add_one,ht,gEg hi,gEg hs,he]
   ·refine .inr ?_;rw [beq_eq_false_iff_ne.2 (fun e=>he (Awv (hgm _ (List.getElem_mem hi)).1 (hm _ (List.getElem_mem hs)).1 hn e)),Bool.not_false,cond_true,show (x==b.take x.length)=false from ?_]
    ·rfl
    ·rw [beq_eq_false_iff_ne];intro e;refine he ?_;have e2:=congrArg (fun l=>l[s]?) e;simp only [List.getElem?_take,if_pos hi,gEg hi,gEg hs,Option.some.injEq] at e2;exact e2
  ·rintro s ⟨hs,ht⟩;subst hs;rw [List.take_length] at ht;unfold Gr;rw [At oM,cond_false,← ht,beq_self_eq_true];rfl
 rw [key];by_cases he:gj p n b=b.take (gj p n b).length
 ·rw [show (gj p n b==b.take (gj p n b).length)=true from beq_iff_eq.2 he];show some _=_;congr 1;by_cases hll:(gj p n b).length=b.length
  ·rw [hll,List.take_length] at he;rw [he,beq_self_eq_true,beq_self_eq_true]
  ·rw [show (gj p n b==b)=false from by rw [beq_eq_false_iff_ne];exact fun e=>hll (congrArg List.length e),beq_eq_false_iff_ne];omega
 ·rw [beq_eq_false_iff_ne.2 he,show (gj p n b==b)=false from ?_]
  ·rfl
  ·rw [beq_eq_false_iff_ne];intro e;exact he (by rw [e,List.take_length])
def M2 (p l r:Int) (b:List (List Int)):Bool:=isF p&&(inR l 0 24&&(inR r 0 (24 - l)&&(decide (((b.length:Nat):Int)<=l+r)&&(X2 p (l+r) b&&gj p (l+r).toNat b==b))))
theorem Yv (p l r:Int) (b:List (List Int)) (hb:b.length<=1048576) (hr:Iw 1048576 b):Kn p l r b=some (M2 p l r b):=by
 unfold Kn M2;rw [Re,obs];cases h1:inR l 0 24
 ·rw [Bool.false_and,Bool.and_false];rfl
 have h1':=Hj.1 h1;rw [cond_true,Bg (n:=24 - l) oM oM,Re,obs];cases h2:inR r 0 (24 - l)
 ·rw [Bool.false_and,Bool.and_false,Bool.and_false];rfl
 have h2':=Hj.1 h2;rw [cond_true,Bg oM oM];unfold Q6;rw [Ug,obs];cases hp:isF p
 ·rfl
 rw [cond_true,Re,obs,Hj.2 (show 0<=l+r/\l+r<=24 by omega),cond_true];by_cases h3:((b.length:Nat):Int)<=l+r
 ·obtain ⟨n,hn⟩:=Int.eq_ofNat_of_zero_le (show 0<=l+r by omega);rw [Av h3,cond_true,hn,Ars p n b (Cx hp) hb hr,obs];cases hv:X2 p (n:Int) b
  ·rfl
  have hm:=Zl hv;have hgl:=Ahi (n:=n) (Cx hp).1 hm;have hgm:=U0 (n:=n) (Cx hp).1 hm;have hl:=(Nf (Cx hp).1 hm n).2;rw [cond_true,Sp hp hm (Nat.le_refl n) oM oM,obs,Ard _ _ oM (fun x hx=>by rw [(hgm x hx).1];omega),obs];rfl
 ·rw [At h3];rfl
theorem W8 (p l r:Int) (b:List (List Int)) (hb:b.length<=1048576) (hr:Iw 1048576 b):Gf p l r b=some (M2 p l r b):=by
 unfold Gf M2;rw [show Fi p=some (isF p) from rfl,obs];cases hp:isF p
 ·rfl
 rw [cond_true,Bool.true_and]
 have hf:Qh l r=some (inR l 0 24&&inR r 0 (24 - l)):=by
  unfold Qh;rw [Py,obs];cases h1:inR l 0 24
  ·rfl
  have h1':=Hj.1 h1;rw [cond_true,Py,obs,Bool.true_and];by_cases h2:0<=r/\r<=24
  ·rw [Hj.2 h2,cond_true,obs,Bg oM oM];congr 1;rw [Bool.eq_iff_iff,Hj];simp only [decide_eq_true_eq];omega
  ·rw [show inR r 0 24=false from by rw [Bool.eq_false_iff];exact fun h=>h2 (Hj.1 h),cond_false,obs];congr 1;symm;rw [Bool.eq_false_iff];intro h;have:=Hj.1 h;exact h2 oM
 rw [hf,obs];cases h1:inR l 0 24
 ·rfl
 have h1':=Hj.1 h1;cases h2:inR r 0 (24 - l)
 ·rfl
 have h2':=Hj.1 h2;obtain ⟨n,hn⟩:=Int.eq_ofNat_of_zero_le (show 0<=l+r by omega);rw [Bool.true_and,cond_true,Bg oM oM,hn,Ajc b hp oM hb hr];rfl
structure Axv (p l r:Int) (b:List (List Int)):Prop where
 fp:isF p=true
 hl:0<=l
 hr:0<=r
 hs:l+r<=24
 lb:((b.length:Nat):Int)<=l+r
 mb:MatW p (l+r).toNat b
 rb:gj p (l+r).toNat b=b
theorem Ag1 {p l r:Int} {b:List (List Int)} (h:M2 p l r b=true):Axv p l r b:=by
 unfold M2 at h;simp only [Bool.and_eq_true,Hj,decide_eq_true_eq,beq_iff_eq] at h;obtain ⟨h1,h2,h3,h4,h5,h6⟩:=h;refine ⟨h1,h2.1,h3.1,by omega,h4,?_,h6⟩;obtain ⟨n,hn⟩:=Int.eq_ofNat_of_zero_le (show 0<=l+r by omega);rw [hn] at h5 ⊢;exact Zl h5
theorem Xx (l r:Int) (b:List (List Int)) {v:Int} (hv:0<=v/\v<=1048576) (hn:b.length<=9223372036854775807) (hb:Iw 9223372036854775807 b):Ge l r b v=some (szW v b):=by
 unfold Ge;rw [Aqj b hv hn hb,obs];by_cases h:szW v b<0
 ·rw [Av h,cond_true];congr 1;unfold szW at h ⊢;split at h <;> rename_i h'
  ·rw [if_pos h']
  ·omega
 ·rw [At h,cond_false]
theorem X8 (l r:Int) (b:List (List Int)) (hn:b.length<=1048576) (hb:Iw 1048576 b):Dr l r b=some b:=by
 unfold Dr;rw [Aqe b hn hb,obs]
theorem Xq (l r:Int) (b:List (List Int)) (hn:b.length<=1048576) (hb:Iw 1048576 b):Gd l r b l r b=some true:=by
 unfold Gd;rw [bne_self_eq_false,cond_false,bne_self_eq_false,cond_false,Ap9 b hn hb,obs,Bool.not_true,cond_false]
end
section
def Ka (p:Int) (xs:List Nd):Bool:=xs.all fun n=> !((n.1==7||n.1==13)&&decide (p<=n.2.1))
def Wu (xs:List Nd):Bool:=xs.all fun n=> !(n.1==8||n.1==14)
theorem Ast (xs:List Nd) (p:Int) (hx:xs.length<=1073741824):Hr xs p=some (isF p&&((tyV xs).isSome&&Ka p xs)):=by
 unfold Hr Kd;obtain ⟨r,hr,hm⟩:=Ao5 xs;rw [show Fi p=some (isF p) from rfl,obs,hr];cases hp:isF p
 ·rfl
 have e:r.2.2=(tyV xs).isSome:=by
  cases ht:tyV xs with
  | none=>rw [ht] at hm;exact hm
  | some w=>rw [ht] at hm;dsimp only at hm;rw [hm];rfl
 rw [Bool.not_true,cond_false,obs,obs,obs,e,Bool.true_and];cases (tyV xs).isSome
 ·rfl
 rw [Bool.not_true,cond_false,Bool.true_and]
 have key:Aq (fun s_:Nat=>Ft xs p s_) 4611686018427387904 0=some (if Ka p xs then Ctl.next () else Ctl.out false):=by
  refine G5 xs (fun n=> !((n.1==7||n.1==13)&&decide (p<=n.2.1))) (Ctl.next ()) (Ctl.out false) oM (fun i n h=>?_) ?_
  ·have:=Ai h;unfold Ft Ey;rw [Av oM,cond_true,h,obs,Af oM];cases n.1==7 <;> cases n.1==13 <;> cases decide (p<=n.2.1) <;> rfl
  ·unfold Ft;rw [At oM,cond_false]
 rw [key,Nx]
theorem Aly (xs:List Nd) (p:Int) (hx:xs.length<=1073741824):F6 xs p=some ((isF p&&((tyV xs).isSome&&Ka p xs))&&Wu xs):=by
 unfold F6;rw [Ast xs p hx,obs];cases isF p&&((tyV xs).isSome&&Ka p xs)
 ·rfl
 rw [Bool.not_true,cond_false,Bool.true_and]
 have key:Aq (fun s_:Nat=>Ep xs s_) 4611686018427387904 0=some (if Wu xs then Ctl.next () else Ctl.out false):=by
  refine G5 xs (fun n=> !(n.1==8||n.1==14)) (Ctl.next ()) (Ctl.out false) oM (fun i n h=>?_) ?_
  ·have:=Ai h;unfold Ep I8;rw [Av oM,cond_true,h,obs,Af oM];cases n.1==8 <;> cases n.1==14 <;> rfl
  ·unfold Ep;rw [At oM,cond_false]
 rw [key,Nx]
theorem Adv (xs:List Nd) (p:Int) (hx:xs.length<=1073741824):Ku p xs=some ((tyV xs).isSome&&(isF p&&Ka p xs)):=by
 unfold Ku;obtain ⟨F,I,O,b,h,hm⟩:=Ak2 xs
 have e:b=(tyV xs).isSome:=by
  cases ht:tyV xs with
  | none=>rw [ht] at hm;exact hm
  | some w=>rw [ht] at hm;exact hm.1
 rw [h,obs,Ug,e];cases (tyV xs).isSome
 ·rfl
 rw [Bool.not_true,cond_false,obs,obs];cases hp:isF p
 ·rfl
 rw [Bool.not_true,cond_false,Bool.true_and,Bool.true_and]
 have key:Aq (fun s_:Nat=>Ji xs p s_) 4611686018427387904 0=some (if Ka p xs then Ctl.next () else Ctl.out false):=by
  refine G5 xs (fun n=> !((n.1==7||n.1==13)&&decide (p<=n.2.1))) (Ctl.next ()) (Ctl.out false) oM (fun i n h=>?_) ?_
  ·have:=Ai h;unfold Ji;rw [Av oM,cond_true,h,obs,Af oM];cases n.1==7 <;> cases n.1==13 <;> cases decide (p<=n.2.1) <;> rfl
  ·unfold Ji;rw [At oM,cond_false]
 rw [key,Nx]
theorem Sf (xs:List Nd) (hx:xs.length<=1073741824):Ga xs=some (Wu xs):=by
 unfold Ga
 have key:Aq (fun s_:Nat=>F2 xs s_) 4611686018427387904 0=some (if Wu xs then Ctl.next () else Ctl.out false):=by
  refine G5 xs (fun n=> !(n.1==8||n.1==14)) (Ctl.next ()) (Ctl.out false) oM (fun i n h=>?_) ?_
  ·have:=Ai h;unfold F2 Dh;rw [Av oM,cond_true,h,obs,Af oM];rw [show (n.1 !=8)= !(n.1==8) from rfl,show (n.1 !=14)= !(n.1==14) from rfl];cases n.1==8 <;> cases n.1==14 <;> rfl
  ·unfold F2;rw [At oM,cond_false]
 rw [key,Nx]
theorem Azw (p:Int) (s:ByteArray) (xs:List Nd) (l r:Int) (b:List (List Int)) (hx:xs.length<=1073741824) (hb:b.length<=1048576) (hr:Iw 1048576 b):∃ v,Ec p s xs l r b=some v/\Fm p s xs l r b=some v:=by
 unfold Ec Fm;obtain ⟨nm,n1,n2⟩:=Ane s;obtain ⟨q,hq,hm⟩:=Ao5 xs;rw [Ad8,obs,n1,n2,obs,Aly xs p hx,Adv xs p hx,Sf xs hx,Yv p l r b hb hr,W8 p l r b hb hr,hq];cases ht:tyV xs with
 | none =>
  refine ⟨false,rfl,?_⟩;cases nm
  ·rfl
  rw [Option.isSome_none,Bool.false_and,Bool.and_false,Bool.false_and];rfl
 | some w =>
  rw [ht] at hm;dsimp only at hm;subst hm;rw [Option.isSome_some,Bool.true_and];dsimp only;cases nm
  ·exact ⟨false,rfl,rfl⟩
  generalize isF p=a1;generalize Ka p xs=a2;generalize Wu xs=a3;generalize M2 p l r b=a4
  have e:([w.1,w.2]==[l,r])=cond (l==w.1) (r==w.2) false:=by
   have c1:(w.1==l)=(l==w.1):=Bool.beq_comm;have c2:(w.2==r)=(r==w.2):=Bool.beq_comm;show (w.1==l&&(w.2==r&&(([]:List Int)==[])))=_;rw [c1,c2];cases l==w.1 <;> cases r==w.2 <;> rfl
  simp only [obs,e];cases a1 <;> cases a2 <;> cases a3 <;> cases a4 <;> cases l==w.1 <;> cases r==w.2 <;> exact ⟨_,rfl,rfl⟩
-- copies and comparisons
theorem Agn (xs:List Nd) (hx:xs.length<=1073741824):Mc xs=some xs:=by
 unfold Mc;rw [Af oM]
 have h:Aq (fun s_:Nat×List Nd=>Ip xs s_.1 s_.2) 4611686018427387904 (0,List.replicate xs.length ((0,0,(⟨#[]⟩:ByteArray)):Nd))=some xs:=by
  refine A7 xs.length (fun i=>(i,xs.take i++List.replicate (xs.length - i) ((0,0,(⟨#[]⟩:ByteArray)):Nd))) oM xs (by simp) (fun i hi=>?_) ?_
  ·have hx:=gEg hi
   try dsimp only
   unfold Ip Q7;rw [Av oM,cond_true,hx,obs,obs,U5 hi,obs,Af oM,Vb hx]
  ·try dsimp only
   unfold Ip;rw [At oM,cond_false];simp
 rw [h];rfl
theorem Agy (xs:List Nd) (hx:xs.length<=1073741824):Mn xs xs=some true:=by
 unfold Mn;rw [bne_self_eq_false,cond_false]
 have h:Aq (fun s_:Nat=>Ix xs xs s_) 4611686018427387904 0=some (Ctl.next ()):=by
  refine A7 xs.length (fun i=>i) oM _ rfl (fun i hi=>?_) ?_
  ·have hx:=gEg hi
   try dsimp only
   unfold Ix Qy;rw [Av oM,cond_true,hx,obs,obs,bne_self_eq_false,cond_false,bne_self_eq_false,cond_false,beq_self_eq_true,Bool.not_true,cond_false,obs,Bool.not_true,cond_false,Af oM]
  ·try dsimp only
   unfold Ix;rw [At oM,cond_false]
 rw [h];rfl
theorem Agu (xs:List Nd) {v:Int} (hv:0<=v/\v<=1048576) (hx:xs.length<=9223372036854775807) (hs:∀ n∈xs,n.2.2.size<=9223372036854775807):∃ y,L7 xs v=some y/\(y<0∨(0<=y/\y<=v/\((xs.length:Nat):Int)<=v)):=by
 unfold L7;rw [Bg (n:=v - ((xs.length:Nat):Int)) oM oM];by_cases h:v - ((xs.length:Nat):Int)<0
 ·rw [Av h];exact ⟨_,rfl,.inl oM⟩
 rw [At h,cond_false]
 have key:∃ c,Aq (fun s_:Int×Nat=>It xs s_.1 s_.2) 4611686018427387904 (v - ((xs.length:Nat):Int),0)=some c/\((∃ y,c=Ctl.next y/\0<=y/\y<=v)∨∃ y,c=Ctl.out y/\y<0):=by
  refine I2 (Post:=fun c=>(∃ y,c=Ctl.next y/\0<=y/\y<=v)∨∃ y,c=Ctl.out y/\y<0) xs.length (fun k s=>s.2=k/\0<=s.1/\s.1<=v) oM ⟨rfl,by dsimp only;omega,by dsimp only;omega⟩ ?_ ?_
  ·rintro k ⟨y,k'⟩ hk ⟨h1,h2,h3⟩;dsimp only at h1 h2 h3;subst h1;have hn:=gEg hk;have hz:=hs _ (List.getElem_mem hk)
   try dsimp only
   unfold It Q8;rw [Av oM,cond_true,hn,obs,Bg (n:=y - ((xs[k'].2.2.size:Nat):Int)) oM oM];by_cases h4:y - ((xs[k'].2.2.size:Nat):Int)<0
   ·rw [Av h4];exact .inr ⟨_,rfl,.inr ⟨_,rfl,by omega⟩⟩
   ·rw [At h4,cond_false,obs,At h4,cond_false,Af oM];exact .inl ⟨_,rfl,rfl,by dsimp only;omega,by dsimp only;omega⟩
  ·rintro ⟨y,k'⟩ ⟨h1,h2,h3⟩;dsimp only at h1 h2 h3;subst h1
   try dsimp only
   unfold It;rw [At oM,cond_false];exact ⟨_,rfl,.inl ⟨_,rfl,h2,h3⟩⟩
 obtain ⟨c,hc,⟨y,rfl,h1,h2⟩|⟨y,rfl,h1⟩⟩:=key
 ·rw [hc];exact ⟨_,rfl,.inr ⟨h1,h2,by omega⟩⟩
 ·rw [hc];exact ⟨_,rfl,.inl h1⟩
theorem Afl (s:ByteArray) (xs:List Nd) (l r:Int) (b:List (List Int)) {v:Int} (hv:0<=v/\v<=1048576) (h0:s.size<=9223372036854775807) (hx:xs.length<=9223372036854775807) (hs:∀ n∈xs,n.2.2.size<=9223372036854775807) (hb:b.length<=9223372036854775807) (hr:Iw 9223372036854775807 b) :
  ∃ y,Hl s xs l r b v=some y/\(y<0∨(0<=y/\y<=v/\xs.length<=1048576/\b.length<=1048576/\Iw 1048576 b)):=by
 unfold Hl Kv;rw [Bg (n:=v - ((s.size:Nat):Int)) oM oM];by_cases h:v - ((s.size:Nat):Int)<0
 ·rw [Av h];exact ⟨_,rfl,.inl oM⟩
 rw [At h,cond_false];obtain ⟨y,hy,h1|⟨h1,h2,h3⟩⟩:=Agu xs (v:=v - ((s.size:Nat):Int)) oM hx hs
 ·rw [hy,obs,Av h1];exact ⟨_,rfl,.inl oM⟩
 ·rw [hy,obs,At oM,cond_false,obs,At oM,cond_false,Xx l r b oM hb hr,obs];by_cases h4:szW y b<0
  ·rw [Av h4];exact ⟨_,rfl,.inl oM⟩
  ·obtain ⟨g1,g2,g3⟩:=Ar4 oM h4;rw [At h4];exact ⟨_,rfl,.inr ⟨by omega,by omega,by omega,by omega,g2⟩⟩
theorem Afv (s:ByteArray) (xs:List Nd) (l r:Int) (b:List (List Int)) (hx:xs.length<=1048576) (hb:b.length<=1048576) (hr:Iw 1048576 b):Hv s xs l r b=some (s,xs,l,r,b):=by
 unfold Hv Gh;rw [Agn xs oM,X8 l r b hb hr];rfl
theorem Aft (s:ByteArray) (xs:List Nd) (l r:Int) (b:List (List Int)) (hx:xs.length<=1048576) (hb:b.length<=1048576) (hr:Iw 1048576 b):Hq s xs l r b s xs l r b=some true:=by
 unfold Hq Km;rw [Agy xs oM,Xq l r b hb hr,beq_self_eq_true];rfl
end
section
def Cg (p a b:Int):Prop:=∃ q,a=b+p*q
section
variable {p a b c d:Int}
theorem Cg.rf:Cg p a a:=⟨0,by simp⟩
theorem Cg.of (h:a=b):Cg p a b:=h▸Cg.rf
theorem Cg.symm (h:Cg p a b):Cg p b a:=by obtain ⟨q,rfl⟩:=h;exact ⟨-q,by grind⟩
theorem Cg.trans (h1:Cg p a b) (h2:Cg p b c):Cg p a c:=by obtain ⟨q,rfl⟩:=h1;obtain ⟨r,rfl⟩:=h2;exact ⟨q+r,by grind⟩
theorem Cg.add (h1:Cg p a b) (h2:Cg p c d):Cg p (a+c) (b+d):=by obtain ⟨q,rfl⟩:=h1;obtain ⟨r,rfl⟩:=h2;exact ⟨q+r,by grind⟩
theorem Cg.sub (h1:Cg p a b) (h2:Cg p c d):Cg p (a - c) (b - d):=by obtain ⟨q,rfl⟩:=h1;obtain ⟨r,rfl⟩:=h2;exact ⟨q - r,by grind⟩
theorem Cg.mul (h1:Cg p a b) (h2:Cg p c d):Cg p (a*c) (b*d):=by obtain ⟨q,rfl⟩:=h1;obtain ⟨r,rfl⟩:=h2;exact ⟨q*d+b*r+p*q*r,by grind⟩
theorem Cg.md:Cg p (a % p) a:=⟨-(a / p),by have:=Int.emod_add_mul_ediv a p;grind⟩
theorem Cg.to (h:Cg p a b):a % p=b % p:=by obtain ⟨q,rfl⟩:=h;rw [Int.add_mul_emod_self_left]
theorem Cg.fr (h:a % p=b % p):Cg p a b:=(Cg.md.symm.trans (Cg.of h)).trans Cg.md
theorem Cg.eq (h:Cg p a b) (h1:0<=a/\a<p) (h2:0<=b/\b<p):a=b:=by
 have:=h.to
 rwa [Int.emod_eq_of_lt h1.1 h1.2,Int.emod_eq_of_lt h2.1 h2.2] at this
end
def sm:Nat->(Nat->Int)->Int
 | 0,_=>0
 | k+1,f=>sm k f+f k
section
variable {p:Int} {f g:Nat->Int}
theorem N8:∀ {k:Nat},(∀ i,i<k->Cg p (f i) (g i))->Cg p (sm k f) (sm k g)
 | 0,_=>Cg.rf
 | k+1,h=>(N8 fun i hi=>h i oM).add (h k oM)
theorem Yl:∀ {k:Nat},(∀ i,i<k->f i=g i)->sm k f=sm k g
 | 0,_=>rfl
 | k+1,h=>by unfold sm;rw [Yl fun i hi=>h i oM,h k oM]
theorem T5:∀ {k:Nat},sm k (fun i=>f i+g i)=sm k f+sm k g
 | 0=>rfl
 | k+1=>by unfold sm;rw [T5];dsimp only;omega
theorem Wf {a:Int}:∀ {k:Nat},sm k (fun i=>a*f i)=a*sm k f
 | 0=>by simp [sm]
 | k+1=>by unfold sm;rw [Wf];grind
theorem L6:∀ {k:Nat},(∀ i,i<k->f i=0)->sm k f=0
 | 0,_=>rfl
 | k+1,h=>by unfold sm;rw [L6 fun i hi=>h i oM,h k oM];rfl
theorem Q0 {t:Nat}:∀ {k:Nat},t<k->(∀ i,i<k->i≠t->f i=0)->sm k f=f t
 | 0,h,_=>by omega
 | k+1,h,h0=>by
  unfold sm;by_cases e:t=k
  ·subst e;rw [L6 fun i hi=>h0 i oM oM];omega
  ·rw [Q0 (t:=t) oM fun i hi=>h0 i oM,h0 k oM oM];omega
end
def en (m:List (List Int)) (i j:Nat):Int:=(m.getD i []).getD j 0
inductive D1 (p:Int) (n:Nat) (m:List (List Int)):(Nat->Int)->Prop
 | zero {f:Nat->Int}:(∀ j,j<n->Cg p (f j) 0)->D1 p n m f
 | add {f g:Nat->Int} (i:Nat) (k:Int):i<m.length->D1 p n m g->(∀ j,j<n->Cg p (f j) (g j+k*en m i j))->D1 p n m f
section
variable {p:Int} {n:Nat} {m m':List (List Int)} {f g:Nat->Int}
theorem C9 {i:Nat} (h:i<m.length):D1 p n m (en m i):=.add i 1 h (.zero (f:=fun _=>0) fun _ _=>Cg.rf) fun _ _=>Cg.of oM
theorem Fs (h:D1 p n m f) (hf:∀ j,j<n->Cg p (g j) (f j)):D1 p n m g:=by
 cases h with
 | zero h=>exact .zero fun j hj=>(hf j hj).trans (h j hj)
 | add i k hi h hs=>exact .add i k hi h fun j hj=>(hf j hj).trans (hs j hj)
theorem Ud (h:D1 p n m f) (hg:D1 p n m g):D1 p n m (fun j=>f j+g j):=by
 induction hg with
 | zero h0=>exact Fs h fun j hj=>(Cg.rf.add (h0 j hj)).trans (Cg.of oM)
 | add i k hi _ hs ih=>exact .add i k hi ih fun j hj=>(Cg.rf.add (hs j hj)).trans (Cg.of oM)
theorem Om (a:Int) (h:D1 p n m f):D1 p n m (fun j=>a*f j):=by
 induction h with
 | zero h0=>exact .zero fun j hj=>(Cg.rf.mul (h0 j hj)).trans (Cg.of oM)
 | add i k hi _ hs ih=>exact .add i (a*k) hi ih fun j hj=>(Cg.rf.mul (hs j hj)).trans (Cg.of (by grind))
theorem U2 (h:∀ i,i<m.length->D1 p n m' (en m i)) (hf:D1 p n m f):D1 p n m' f:=by
 induction hf with
 | zero h0=>exact .zero h0
 | add i k hi _ hs ih=>exact Fs (Ud ih (Om k (h i hi))) hs
theorem Ahs {F:Nat->Nat->Int}:∀ {k:Nat},(∀ i,i<k->D1 p n m (F i))->D1 p n m (fun j=>sm k fun i=>F i j)
 | 0,_=>.zero fun _ _=>Cg.rf
 | k+1,h=>Ud (Ahs fun i hi=>h i oM) (h k oM)
structure Lx (c r:Nat) (m:List (List Int)) (pv:Nat->Nat):Prop where
 rl:r<=m.length
 lt:∀ i,i<r->pv i<c
 mono:∀ i k,i<k->k<r->pv i<pv k
 low:∀ i,i<r->∀ j,j<pv i->en m i j=0
 one:∀ i,i<r->en m i (pv i)=1
 zero:∀ i,i<r->∀ k,k≠i->en m k (pv i)=0
 tail:∀ i,r<=i->∀ j,j<c->en m i j=0
theorem Sy {i j:Nat} (h:m.length<=i):en m i j=0:=by
 unfold en;rw [gDg (l:=m),List.getElem?_eq_none h];rfl
theorem Aru {pv:Nat->Nat} (h:Lx n m.length m pv) (hs:D1 p n m f):∀ j,j<n->Cg p (f j) (sm m.length fun i=>f (pv i)*en m i j):=by
 induction hs with
 | zero h0 =>
  intro j hj;refine (h0 j hj).trans ?_;refine Cg.symm ((N8 (g:=fun _=>0) fun i hi=>?_).trans (Cg.of (L6 fun _ _=>rfl)));exact ((h0 _ (h.lt i hi)).mul Cg.rf).trans (Cg.of oM)
 | @add f g t k ht _ hs ih =>
  intro j hj;refine (hs j hj).trans (((ih j hj).add Cg.rf).trans ?_)
  have e:sm m.length (fun i=>(g (pv i)+k*en m t (pv i))*en m i j)=sm m.length (fun i=>g (pv i)*en m i j)+k*en m t j:=by
   rw [Yl (g:=fun i=>g (pv i)*en m i j+k*(en m t (pv i)*en m i j)) fun i _=>by grind,T5 (f:=fun i=>g (pv i)*en m i j),Wf (f:=fun i=>en m t (pv i)*en m i j),Q0 (f:=fun i=>en m t (pv i)*en m i j) ht fun i hi hne=>by rw [h.zero i hi t (Ne.symm hne)];omega,h.one t ht,Int.one_mul]
  rw [← e];exact (N8 fun i hi=>(hs _ (h.lt i hi)).mul Cg.rf).symm
theorem Aoi {pv:Nat->Nat} (h:Lx n m.length m pv) (hs:D1 p n m f) {q:Nat} (hq:q<n) (h0:∀ j,j<q->Cg p (f j) 0) (h1:¬ Cg p (f q) 0):∃ i,i<m.length/\pv i=q:=by
 refine Classical.byContradiction fun hn=>h1 ?_
 refine (Aru h hs q hq).trans ((N8 (g:=fun _=>0) fun i hi=>?_).trans (Cg.of (L6 fun _ _=>rfl)));rcases Nat.lt_trichotomy (pv i) q with hlt|he|hgt
 ·exact ((h0 _ hlt).mul Cg.rf).trans (Cg.of oM)
 ·exact (hn ⟨i,hi,he⟩).elim
 ·exact Cg.of (by rw [h.low i hi q hgt];omega)
theorem Aos {u v:Nat->Nat} {k l:Nat} (hu:∀ i j,i<j->j<k->u i<u j) (hv:∀ i j,i<j->j<l->v i<v j) (h1:∀ i,i<k->∃ t,t<l/\v t=u i) (h2:∀ i,i<l->∃ t,t<k/\u t=v i) :
  ∀ i,i<k->i<l->u i=v i:=by
 intro i
 induction i using Nat.strongRecOn with
 | _ i ih =>
  intro hk hl;obtain ⟨t,ht,e⟩:=h1 i hk;obtain ⟨s,hs,e'⟩:=h2 i hl
  have a1:v i<=u i:=by
   rcases Nat.lt_trichotomy t i with hlt|he|hgt
   ·have:=ih t hlt oM ht;have:=hu t i hlt hk;omega
   ·subst he;omega
   ·have:=hv i t hgt ht;omega
  have a2:u i<=v i:=by
   rcases Nat.lt_trichotomy s i with hlt|he|hgt
   ·have:=ih s hlt hs oM;have:=hv s i hlt hl;omega
   ·subst he;omega
   ·have:=hu i s hgt hs;omega
  omega
theorem Ack {u v:Nat->Nat} {k l:Nat} (hu:∀ i j,i<j->j<k->u i<u j) (hv:∀ i j,i<j->j<l->v i<v j) (h1:∀ i,i<k->∃ t,t<l/\v t=u i) (h2:∀ i,i<l->∃ t,t<k/\u t=v i):l<=k:=by
 refine Nat.le_of_not_lt fun hlt=>?_
 obtain ⟨t,ht,e⟩:=h2 k hlt;have:=Aos hu hv h1 h2 t ht oM;have:=hv t k ht hlt;omega
theorem As8 (hp:2<=p):¬ Cg p 1 0:=fun h=>by
 have:=h.eq ⟨by omega,by omega⟩ ⟨by omega,by omega⟩;omega
theorem Ao6 {i j:Nat} (hp:2<=p) (hm:MatW p n m):0<=en m i j/\en m i j<p:=by
 unfold en;by_cases h:i<m.length
 ·have hx:=hm _ (Jd h);generalize m.getD i []=x at hx;by_cases hj:j<x.length
  ·rw [Bm (gEg hj)];exact hx.2 _ (List.getElem_mem hj)
  ·rw [gDg,List.getElem?_eq_none oM];exact ⟨by simp,by simp;omega⟩
 ·rw [gDg (l:=m),List.getElem?_eq_none oM];simp;omega
theorem Awa (hm:MatW p n m) (hm':MatW p n m') (hl:m.length=m'.length) (h:∀ i,i<m.length->∀ j,j<n->en m i j=en m' i j):m=m':=by
 refine List.ext_getElem hl fun i h1 h2=>?_
 have e1:=hm _ (List.getElem_mem h1);have e2:=hm' _ (List.getElem_mem h2);refine List.ext_getElem (e1.1.trans e2.1.symm) fun j k1 k2=>?_
 have:=h i h1 j (by have:=e1.1;omega);unfold en at this;rw [Bm (gEg h1),Bm (gEg h2),Bm (gEg k1),Bm (gEg k2)] at this;exact this
theorem Aqy {pv pv':Nat->Nat} (hp:2<=p) (h:Lx n m.length m pv) (h':Lx n m'.length m' pv') (hm:MatW p n m) (hm':MatW p n m') (h1:∀ f,D1 p n m f->D1 p n m' f) (h2:∀ f,D1 p n m' f->D1 p n m f):m=m':=by
 have k1:∀ i,i<m.length->∃ t,t<m'.length/\pv' t=pv i:=fun i hi =>
  Aoi h' (h1 _ (C9 hi)) (h.lt i hi) (fun j hj=>Cg.of (h.low i hi j hj)) (by rw [h.one i hi];exact As8 hp)
 have k2:∀ i,i<m'.length->∃ t,t<m.length/\pv t=pv' i:=fun i hi =>
  Aoi h (h2 _ (C9 hi)) (h'.lt i hi) (fun j hj=>Cg.of (h'.low i hi j hj)) (by rw [h'.one i hi];exact As8 hp)
 have hl:m.length=m'.length:=Nat.le_antisymm (Ack h'.mono h.mono k2 k1) (Ack h.mono h'.mono k1 k2);have hpv:=Aos h.mono h'.mono k1 k2;refine Awa hm hm' hl fun i hi j hj=>?_
 refine Cg.eq (Cg.symm ((Aru h (h2 _ (C9 (i:=i) oM)) j hj).trans (Cg.of ?_))) (Ao6 hp hm) (Ao6 hp hm');rw [Q0 hi fun t ht hne=>?_,hpv i hi oM,h'.one i oM]
 ·omega
 ·rw [hpv t ht oM,h'.zero t oM i (Ne.symm hne)];omega
theorem Azo {r k i j:Nat} (hr:r<m.length) (hk:k<m.length):en (Mz m r k) i j=if i=k then en m r j else if i=r then en m k j else en m i j:=by
 unfold en Mz;by_cases h1:i=k
 ·subst h1;rw [if_pos rfl,gDg (l:=List.set _ _ _),List.getElem?_set_self (by rw [List.length_set];exact hk)];rfl
 ·rw [if_neg h1,gDg (l:=List.set _ _ _),List.getElem?_set_ne (Ne.symm h1)];by_cases h2:i=r
  ·subst h2;rw [if_pos rfl,List.getElem?_set_self hr];rfl
  ·rw [if_neg h2,List.getElem?_set_ne (Ne.symm h2),← gDg]
theorem Apv {k:Int} {x:List Int} {j:Nat}:(Fb p k x).getD j 0=x.getD j 0*k % p:=by
 unfold Fb;rw [gDg,List.getElem?_map,gDg];cases x[j]? with
 | none=>simp
 | some a=>rfl
theorem Agj {k:Int} {x v:List Int} {j:Nat} (h:x.length=v.length):(D3 p k x v).getD j 0=(x.getD j 0 - k*v.getD j 0) % p:=by
 unfold D3;rw [gDg,List.getElem?_zipWith,gDg,gDg];by_cases hj:j<x.length
 ·rw [gEg hj,gEg (show j<v.length by omega)];rfl
 ·rw [List.getElem?_eq_none (show x.length<=j by omega),List.getElem?_eq_none (show v.length<=j by omega)];simp
theorem Ay2 {c r i j:Nat} {pr:List Int} (hm:MatW p n m) (hpr:pr.length=n) (hi:i<m.length):en (Ie p c r pr m) i j=if i=r then pr.getD j 0 else (en m i j - en m i c*pr.getD j 0) % p:=by
 have hx:=hm _ (List.getElem_mem hi);unfold en Ie;rw [gDg (l:=List.mapIdx _ _),List.getElem?_mapIdx,gEg hi,Bm (gEg hi)];show (if i=r then pr else D3 p (m[i].getD c 0) m[i] pr).getD j 0=_;split
 ·rfl
 ·rw [Agj (by rw [hx.1,hpr])]
def Aa6 (p:Int):Prop:=∀ a,1<=a->a<p->a*Pg p a % p=1
theorem Awp {c:Nat} {s:Nat×List (List Int)} {pv:Nat->Nat} (hp:2<=p) (hI:Aa6 p) (hm:MatW p n s.2) (h:Lx c s.1 s.2 pv) :
  (∃ pv',Lx (c+1) (gjS p c s).1 (gjS p c s).2 pv')/\(∀ f,D1 p n (gjS p c s).2 f↔D1 p n s.2 f):=by
 obtain ⟨r,m⟩:=s;dsimp only at hm h;unfold gjS;dsimp only;by_cases h1:r<m.length
 ·rw [if_pos h1];by_cases h2:Eh m c r=m.length
  ·rw [if_pos h2];refine ⟨⟨pv,h.rl,fun i hi=>Nat.lt_succ_of_lt (h.lt i hi),h.mono,h.low,h.one,h.zero,fun i hi j hj=>?_⟩,fun f=>Iff.rfl⟩;dsimp only at hi ⊢;by_cases hjc:j<c
   ·exact h.tail i hi j hjc
   ·obtain rfl:j=c:=by omega
    by_cases hil:i<m.length
    ·exact Afd hi oM h.rl
    ·exact Sy oM
  ·rw [if_neg h2];have hk1:=Tx (c:=c) h.rl;have hk2:=Aye m c r;have hnz:=Ad4 h2 h.rl;have hkl:Eh m c r<m.length:=by omega
   have hx:=hm _ (Jd hkl);have ha:en m (Eh m c r) c≠0:=hnz;generalize hk:Eh m c r=k at *;have hab:=Ao6 (i:=k) (j:=c) hp hm;have hinv:=hI (en m k c) oM hab.2;generalize hv:Pg p (en m k c)=v at hinv
   have hpr:∀ j,(prV p c (m.getD k [])).getD j 0=en m k j*v % p:=fun j=>by
    unfold prV;rw [Apv];show _*Pg p (en m k c) % p=_;rw [hv];rfl
   have hprl:(prV p c (m.getD k [])).length=n:=(T4 hp hx.1).1;generalize prV p c (m.getD k [])=pr at *;have hW:=Ab3 hm h1 hkl;have hWl:=Sn m r k;have hWe:∀ i j,en (Mz m r k) i j=if i=k then en m r j else if i=r then en m k j else en m i j:=fun i j=>Azo h1 hkl
   generalize Mz m r k=W at *
   have hE:∀ i j,i<m.length->en (Ie p c r pr W) i j=if i=r then en m k j*v % p else (en W i j - en W i c*(en m k j*v % p)) % p:=fun i j hi=>by
    rw [Ay2 hW hprl oM,hpr]
   have hEl:=Qq p c r pr W
   have h0:∀ i j,i<m.length->i≠r->en m k j=0->en (Ie p c r pr W) i j=en W i j:=fun i j hi hne h0=>by
    have hb:=Ao6 (i:=i) (j:=j) hp hW;rw [hE i j hi,if_neg hne,h0,Int.zero_mul,Int.zero_emod,Int.mul_zero,Int.sub_zero,Int.emod_eq_of_lt hb.1 hb.2]
   have hkj:∀ j,j<c->en m k j=0:=fun j hj=>h.tail k oM j hj
   have hkp:∀ i,i<r->en m k (pv i)=0:=fun i hi=>h.zero i hi k oM
   have hcc:en m k c*v % p=1:=hinv
   have hsp:∀ i j,i<m.length->i≠r->Cg p (en (Ie p c r pr W) i j) (en W i j+ -en W i c*en (Ie p c r pr W) r j):=fun i j hi hne=>by
    rw [hE i j hi,if_neg hne,hE r j h1,if_pos rfl];exact Cg.md.trans (Cg.of (by grind))
   have hWr:∀ j,Cg p (en W r j) (en m k c*en (Ie p c r pr W) r j):=fun j=>by
    have e:en W r j=en m k j:=by
     rw [hWe];by_cases e:r=k
     ·rw [if_pos e,e]
     ·rw [if_neg e,if_pos rfl]
    rw [e,hE r j h1,if_pos rfl];obtain ⟨q,hq⟩:=Cg.fr (p:=p) (a:=en m k c*v) (b:=1) (by rw [hcc];exact (Int.emod_eq_of_lt oM oM).symm);refine Cg.trans ⟨-q*en m k j,?_⟩ (Cg.rf.mul Cg.md.symm)
    grind
   refine ⟨⟨fun i=>if i=r then c else pv i,?_,?_,?_,?_,?_,?_,?_⟩,fun f=>⟨U2 fun i hi=>?_,U2 fun i hi=>?_⟩⟩
   ·show r+1<=(Ie p c r pr W).length;omega
   ·intro i hi
    try dsimp only
    split
    ·omega
    ·have:=h.lt i oM;omega
   ·intro i l hil hl
    try dsimp only
    rw [if_neg (by omega:i≠r)];split
    ·exact h.lt i oM
    ·exact h.mono i l hil oM
   ·intro i hi j hj;dsimp only at hj ⊢;by_cases e:i=r
    ·subst e;rw [if_pos rfl] at hj;rw [hE i j h1,if_pos rfl,hkj j hj,Int.zero_mul,Int.zero_emod]
    ·rw [if_neg e] at hj;have:=h.lt i oM;rw [h0 i j oM e (hkj j oM),hWe,if_neg oM,if_neg e];exact h.low i oM j hj
   ·intro i hi;dsimp only;by_cases e:i=r
    ·subst e;rw [if_pos rfl,hE i c h1,if_pos rfl,hcc]
    ·rw [if_neg e,h0 i (pv i) oM e (hkp i oM),hWe,if_neg oM,if_neg e];exact h.one i oM
   ·intro i hi l hl;dsimp only;by_cases hll:l<m.length
    ·by_cases e:i=r
     ·subst e;rw [if_pos rfl,hE l c hll,if_neg hl,hcc,Int.mul_one,Int.sub_self,Int.zero_emod]
     ·rw [if_neg e];by_cases e2:l=r
      ·subst e2;rw [hE l (pv i) hll,if_pos rfl,hkp i oM,Int.zero_mul,Int.zero_emod]
      ·rw [h0 l (pv i) hll e2 (hkp i oM),hWe];by_cases e3:l=k
       ·rw [if_pos e3];exact h.zero i oM r oM
       ·rw [if_neg e3,if_neg e2];exact h.zero i oM l hl
    ·exact Sy oM
   ·intro i hi j hj;dsimp only at hi ⊢;by_cases hil:i<m.length
    ·by_cases e:j=c
     ·subst e;rw [hE i j hil,if_neg oM,hcc,Int.mul_one,Int.sub_self,Int.zero_emod]
     ·rw [h0 i j hil oM (hkj j oM),hWe];by_cases e3:i=k
      ·rw [if_pos e3];exact h.tail r (Nat.le_refl r) j oM
      ·rw [if_neg e3,if_neg oM];exact h.tail i oM j oM
    ·exact Sy oM
   ·have hi:i<m.length:=by dsimp only at hi;omega
    have hrow:∀ t,t<m.length->D1 p n m (en W t):=fun t ht=>by
     by_cases e1:t=k
     ·exact Fs (C9 h1) fun j hj=>Cg.of (by rw [hWe,if_pos e1])
     ·by_cases e2:t=r
      ·exact Fs (C9 hkl) fun j hj=>Cg.of (by rw [hWe,if_neg e1,if_pos e2])
      ·exact Fs (C9 ht) fun j hj=>Cg.of (by rw [hWe,if_neg e1,if_neg e2])
    have hr':D1 p n m (en (Ie p c r pr W) r):=Fs (Om v (C9 hkl)) fun j hj=>by
     rw [hE r j h1,if_pos rfl];exact Cg.md.trans (Cg.of (by grind))
    by_cases e:i=r
    ·subst e;exact hr'
    ·exact Fs (Ud (hrow i hi) (Om (-en W i c) hr')) fun j hj=>hsp i j hi e
   ·have hE':∀ t,t<m.length->D1 p n (Ie p c r pr W) (en W t):=fun t ht=>by
     by_cases e:t=r
     ·subst e;exact Fs (Om (en m k c) (C9 (i:=t) oM)) fun j hj=>hWr j
     ·refine Fs (Ud (C9 (i:=t) oM) (Om (en W t c) (C9 (i:=r) oM))) fun j hj=>?_
      exact Cg.symm (((hsp t j ht e).add Cg.rf).trans (Cg.of (by grind)))
    by_cases e1:i=r
    ·subst e1;exact Fs (hE' k hkl) fun j hj=>Cg.of (by rw [hWe,if_pos rfl])
    ·by_cases e2:i=k
     ·subst e2;exact Fs (hE' r h1) fun j hj=>Cg.of (by rw [hWe,if_neg oM,if_pos rfl])
     ·exact Fs (hE' i hi) fun j hj=>Cg.of (by rw [hWe,if_neg e2,if_neg e1])
 ·rw [if_neg h1];have:=h.rl;refine ⟨⟨pv,h.rl,fun i hi=>Nat.lt_succ_of_lt (h.lt i hi),h.mono,h.low,h.one,h.zero,fun i hi j hj=>Sy (m:=m) (by dsimp only at hi;omega)⟩,fun f=>Iff.rfl⟩
theorem Ah7 {m:List (List Int)} (hp:2<=p) (hI:Aa6 p) (hm:MatW p n m):∀ c,(∃ pv,Lx c (gjT p m c).1 (gjT p m c).2 pv)/\∀ f,D1 p n (gjT p m c).2 f↔D1 p n m f
 | 0=>⟨⟨fun _=>0,Nat.zero_le _,by intro i hi;simp [gjT] at hi,by intro i k _ hk;simp [gjT] at hk,by intro i hi;simp [gjT] at hi,by intro i hi;simp [gjT] at hi,by intro i hi;simp [gjT] at hi,fun _ _ j hj=>by omega⟩,fun _=>Iff.rfl⟩
 | c+1=>by
  obtain ⟨⟨pv,h1⟩,h2⟩:=Ah7 hp hI hm c;obtain ⟨h3,h4⟩:=Awp hp hI (Nf hp hm c).1 h1;exact ⟨h3,fun f=>(h4 f).trans (h2 f)⟩
theorem X4 {r i j:Nat} (h:i<r):en (m.take r) i j=en m i j:=by
 unfold en;rw [gDg (l:=m.take r),List.getElem?_take,if_pos h,← gDg]
theorem Ake {k:Nat} (hk:k<=n) (h:D1 p n m f):D1 p k m f:=by
 induction h with
 | zero h0=>exact .zero fun j hj=>h0 j oM
 | add i k hi _ hs ih=>exact .add i k hi ih fun j hj=>hs j oM
theorem Aug {c:Nat} (hp:2<=p) (hI:Aa6 p) (hm:MatW p n m) (hc:c<=n):(∃ pv,Lx c (gj p c m).length (gj p c m) pv)/\∀ f,D1 p c (gj p c m) f↔D1 p c m f:=by
 obtain ⟨⟨pv,h⟩,h2⟩:=Ah7 hp hI hm c;have hl:=Ahi (n:=c) hp hm;have hrl:=h.rl;refine ⟨⟨pv,Nat.le_refl _,?_,?_,?_,?_,?_,?_⟩,fun f=>Iff.trans (b:=D1 p c (gjT p m c).2 f) ⟨U2 fun i hi=>?_,U2 fun i hi=>?_⟩ ⟨U2 fun i hi=>Ake hc ((h2 _).1 (C9 hi)),U2 fun i hi=>Ake hc ((h2 _).2 (C9 hi))⟩⟩
 ·rw [hl];exact h.lt
 ·rw [hl];exact h.mono
 ·rw [hl];intro i hi j hj;unfold gj;rw [X4 hi];exact h.low i hi j hj
 ·rw [hl];intro i hi;unfold gj;rw [X4 hi];exact h.one i hi
 ·rw [hl];intro i hi k hk;by_cases hkl:k<(gjT p m c).1
  ·unfold gj;rw [X4 hkl];exact h.zero i hi k hk
  ·exact Sy oM
 ·intro i hi j _;exact Sy hi
 ·rw [hl] at hi;exact Fs (C9 (i:=i) oM) fun j hj=>Cg.of (by unfold gj;rw [X4 hi])
 ·by_cases hir:i<(gjT p m c).1
  ·exact Fs (C9 (i:=i) oM) fun j hj=>Cg.of (by unfold gj;rw [X4 hir])
  ·exact .zero fun j hj=>Cg.of (h.tail i oM j hj)
theorem Vj (hp:2<=p) (hI:Aa6 p) (hm:MatW p n m):(∃ pv,Lx n (gj p n m).length (gj p n m) pv)/\∀ f,D1 p n (gj p n m) f↔D1 p n m f:=Aug hp hI hm (Nat.le_refl n)
theorem Ahz {pv:Nat->Nat} (hp:2<=p) (hI:Aa6 p) (hm:MatW p n m) (hm':MatW p n m') (h:Lx n m'.length m' pv) (hs:∀ f,D1 p n m f↔D1 p n m' f):gj p n m=m':=by
 obtain ⟨⟨pv',h1⟩,h2⟩:=Vj hp hI hm;exact Aqy hp h1 h (U0 hp hm) hm' (fun f hf=>(hs f).1 ((h2 f).1 hf)) fun f hf=>(h2 f).2 ((hs f).2 hf)
theorem Avs (hp:2<=p) (hI:Aa6 p) (hm:MatW p n m) (hm':MatW p n m') (hs:∀ f,D1 p n m f↔D1 p n m' f):gj p n m=gj p n m':=by
 obtain ⟨⟨pv',h1⟩,h2⟩:=Vj hp hI hm';exact Ahz hp hI hm (U0 hp hm') h1 fun f=>(hs f).trans (h2 f).symm
end
end
section
def Gb (x:List Int):Nat:=x.findIdx fun a=>a !=0
section
variable {p:Int} {n:Nat} {m m' B:List (List Int)} {o:List Int}
theorem Aty {c r i:Nat} {pv:Nat->Nat} (h:Lx c r m pv) (hm:MatW p n m) (hc:c<=n) (hi:i<r):Gb (m.getD i [])=pv i:=by
 have hl:=h.rl;have hx:=(hm _ (Jd (show i<m.length by omega))).1;have hlt:=h.lt i hi;have e:∀ (j:Nat) (hj:j<(m.getD i []).length),(m.getD i [])[j]=en m i j:=fun j hj=>(Bm (gEg hj)).symm
 unfold Gb;refine (List.findIdx_eq (show pv i<(m.getD i []).length by omega)).2 ⟨?_,fun j hj=>?_⟩
 ·rw [e,h.one i hi];rfl
 ·rw [e,h.low i hi j hj];rfl
theorem Apx {n':Nat} {f:Nat->Int} {σ:Nat->Nat} (hl:m'.length=m.length) (hσ:∀ j,j<n'->σ j<n) (he:∀ i,i<m.length->∀ j,j<n'->en m' i j=en m i (σ j)) (h:D1 p n m f):D1 p n' m' (fun j=>f (σ j)):=by
 induction h with
 | zero h0=>exact .zero fun j hj=>h0 _ (hσ j hj)
 | add i k hi _ hs ih=>exact .add i k oM ih fun j hj=>(hs _ (hσ j hj)).trans (Cg.of (by rw [he i hi j hj]))
end
end
section
def Qb (p:Int) (n:Nat) (m:List (List Int)) (f:Nat->Int):Prop:=∀ i,i<m.length->Cg p (sm n fun j=>en m i j*f j) 0
section
variable {p:Int} {n:Nat} {m m':List (List Int)} {f g:Nat->Int}
theorem Apr (hf:Qb p n m f) (hs:D1 p n m g):Cg p (sm n fun j=>g j*f j) 0:=by
 induction hs with
 | zero h0=>exact (N8 (g:=fun _=>0) fun j hj=>((h0 j hj).mul Cg.rf).trans (Cg.of oM)).trans (Cg.of (L6 fun _ _=>rfl))
 | @add f' g' i k hi _ hs ih =>
  have e:sm n (fun j=>(g' j+k*en m i j)*f j)=sm n (fun j=>g' j*f j)+k*sm n (fun j=>en m i j*f j):=by
   rw [Yl (g:=fun j=>g' j*f j+k*(en m i j*f j)) fun j _=>by grind,T5 (f:=fun j=>g' j*f j),Wf (f:=fun j=>en m i j*f j)]
  refine (N8 fun j hj=>(hs j hj).mul Cg.rf).trans ((Cg.of e).trans ?_);exact (ih.add (Cg.rf.mul (hf i hi))).trans (Cg.of oM)
theorem Aov (h:∀ i,i<m'.length->D1 p n m (en m' i)) (hf:Qb p n m f):Qb p n m' f:=fun i hi=>Apr hf (h i hi)
theorem Are (hf:Qb p n m f) (hg:Qb p n m g):Qb p n m (fun j=>f j+g j):=fun i hi=>by
 refine (Cg.of ?_).trans (((hf i hi).add (hg i hi)).trans (Cg.of oM));rw [Yl (g:=fun j=>en m i j*f j+en m i j*g j) fun j _=>by grind,T5]
theorem Arr (a:Int) (hf:Qb p n m f):Qb p n m (fun j=>a*f j):=fun i hi=>by
 refine (Cg.of ?_).trans ((Cg.rf.mul (hf i hi)).trans (Cg.of (show a*0=0 by omega)));rw [Yl (g:=fun j=>a*(en m i j*f j)) fun j _=>by grind,Wf]
theorem Awz (hf:Qb p n m f) (h:∀ j,j<n->Cg p (g j) (f j)):Qb p n m g:=fun i hi=>(N8 fun j hj=>Cg.rf.mul (h j hj)).trans (hf i hi)
theorem Af6 (h:∀ i,i<m'.length->Qb p n m (en m' i)) (hs:D1 p n m' f):Qb p n m f:=by
 induction hs with
 | zero h0=>exact fun i hi=>(N8 (g:=fun _=>0) fun j hj=>(Cg.rf.mul (h0 j hj)).trans (Cg.of oM)).trans (Cg.of (L6 fun _ _=>rfl))
 | add i k hi _ hs ih=>exact Awz (Are ih (Arr k (h i hi))) hs
def pvs (r:Nat) (pv:Nat->Nat) (j:Nat):Bool:=(List.range r).any fun i=>pv i==j
theorem Ata {r j:Nat} {pv:Nat->Nat} (h:pvs r pv j=true):∃ i,i<r/\pv i=j:=by
 obtain ⟨i,hi,he⟩:=List.any_eq_true.1 h;exact ⟨i,List.mem_range.1 hi,beq_iff_eq.1 he⟩
theorem Ao1 {r j i:Nat} {pv:Nat->Nat} (h:pvs r pv j=false) (hi:i<r):pv i≠j:=fun e=>by
 have:=List.any_eq_false.1 h i (List.mem_range.2 hi);exact this (beq_iff_eq.2 e)
structure Azt (p:Int) (n:Nat) (R:List (List Int)) (pv:Nat->Nat) (N:List (List Int)):Prop where
 ex:∀ j,j<n->pvs R.length pv j=false->∃ t,t<N.length/\Cg p (en N t j) 1/\(∀ i,i<R.length->Cg p (en N t (pv i)) (-en R i j))/\∀ q,q<n->q≠j->pvs R.length pv q=false->Cg p (en N t q) 0
 all:∀ t,t<N.length->∃ j,j<n/\pvs R.length pv j=false/\Cg p (en N t j) 1/\(∀ i,i<R.length->Cg p (en N t (pv i)) (-en R i j))/\∀ q,q<n->q≠j->pvs R.length pv q=false->Cg p (en N t q) 0
theorem Aqc {R N:List (List Int)} {pv:Nat->Nat} (h:Lx n R.length R pv) (hN:Azt p n R pv N):D1 p n N f↔Qb p n R f:=by
 have hd:∀ i k,i<R.length->k<R.length->en R i (pv k)=if k=i then 1 else 0:=fun i k hi hk=>by
  by_cases e:k=i
  ·subst e;rw [if_pos rfl,h.one k hk]
  ·rw [if_neg e,h.zero k hk i (Ne.symm e)]
 have hpi:∀ i k,i<R.length->k<R.length->pv i=pv k->i=k:=fun i k hi hk e=>by
  rcases Nat.lt_trichotomy i k with h1|h1|h1
  ·have:=h.mono i k h1 hk;omega
  ·exact h1
  ·have:=h.mono k i h1 hi;omega
 constructor
 ·refine Af6 fun t ht i hi=>?_
  obtain ⟨j,hj,hfr,h1,h2,h3⟩:=hN.all t ht;have hne:pv i≠j:=Ao1 hfr hi
  have e:Cg p (sm n fun q=>en R i q*en N t q) (sm n fun q=>(if q=j then en R i j else 0)+(if q=pv i then -en R i j else 0)):=by
   refine N8 fun q hq=>?_
   by_cases e1:q=j
   ·subst e1;rw [if_pos rfl,if_neg (Ne.symm hne)];exact (Cg.rf.mul h1).trans (Cg.of oM)
   ·rw [if_neg e1];by_cases e2:q=pv i
    ·subst e2;rw [if_pos rfl,h.one i hi];exact (Cg.rf.mul (h2 i hi)).trans (Cg.of oM)
    ·rw [if_neg e2];cases hf:pvs R.length pv q
     ·exact (Cg.rf.mul (h3 q hq e1 hf)).trans (Cg.of oM)
     ·obtain ⟨k,hk,rfl⟩:=Ata hf;rw [hd i k hi hk,if_neg fun e=>e2 (by rw [e])];exact Cg.of oM
  refine e.trans (Cg.of ?_);rw [T5,Q0 hj fun q _ hq=>if_neg hq,Q0 (h.lt i hi) fun q _ hq=>if_neg hq,if_pos rfl,if_pos rfl];omega
 ·intro hf
  have hrow:∀ j,∃ b:Nat->Int,D1 p n N b/\(j<n->pvs R.length pv j=false->Cg p (b j) 1/\(∀ i,i<R.length->Cg p (b (pv i)) (-en R i j))/\∀ q,q<n->q≠j->pvs R.length pv q=false->Cg p (b q) 0):=fun j=>by
   by_cases hj:j<n/\pvs R.length pv j=false
   ·obtain ⟨t,ht,h1⟩:=hN.ex j hj.1 hj.2;exact ⟨en N t,C9 ht,fun _ _=>h1⟩
   ·exact ⟨fun _=>0,.zero fun _ _=>Cg.rf,fun h1 h2=>(hj ⟨h1,h2⟩).elim⟩
  obtain ⟨b,hb⟩:∃ b:Nat->Nat->Int,∀ j,D1 p n N (b j)/\(j<n->pvs R.length pv j=false->Cg p (b j j) 1/\(∀ i,i<R.length->Cg p (b j (pv i)) (-en R i j))/\∀ q,q<n->q≠j->pvs R.length pv q=false->Cg p (b j q) 0) :=
   ⟨fun j=>Classical.choose (hrow j),fun j=>Classical.choose_spec (hrow j)⟩
  have hS:D1 p n N (fun q=>sm n fun j=>(if pvs R.length pv j then 0 else f j)*b j q):=Ahs (F:=fun j q=>(if pvs R.length pv j then 0 else f j)*b j q) fun j _=>Om _ (hb j).1
  refine Fs hS fun q hq=>Cg.symm ?_
  cases hf':pvs R.length pv q
  ·refine (N8 (g:=fun j=>if j=q then f q else 0) fun j hj=>?_).trans (Cg.of ?_)
   ·by_cases e:j=q
    ·subst e;rw [if_pos rfl,hf',if_neg (by decide)];exact (Cg.rf.mul ((hb j).2 hj hf').1).trans (Cg.of oM)
    ·rw [if_neg e];cases hfj:pvs R.length pv j
     ·exact (Cg.rf.mul (((hb j).2 hj hfj).2.2 q hq (Ne.symm e) hf')).trans (Cg.of oM)
     ·rw [if_pos rfl];exact Cg.of oM
   ·rw [Q0 hq fun j _ hj=>if_neg hj,if_pos rfl]
  ·obtain ⟨i,hi,rfl⟩:=Ata hf';refine (N8 (g:=fun j=> -1*(en R i j*f j)+(if j=pv i then f j else 0)) fun j hj=>?_).trans ?_
   ·cases hfj:pvs R.length pv j
    ·have hne:j≠pv i:=fun e=>Ao1 hfj hi e.symm
     rw [if_neg (by decide),if_neg hne];exact (Cg.rf.mul (((hb j).2 hj hfj).2.1 i hi)).trans (Cg.of (by grind))
    ·obtain ⟨k,hk,rfl⟩:=Ata hfj;rw [if_pos rfl,hd i k hi hk];by_cases e:k=i
     ·subst e;rw [if_pos rfl,if_pos rfl];exact Cg.of oM
     ·rw [if_neg e,if_neg fun e'=>e (hpi k i hk hi e')];exact Cg.of oM
   ·rw [T5 (f:=fun j=> -1*(en R i j*f j)),Wf (f:=fun j=>en R i j*f j),Q0 (f:=fun j=>if j=pv i then f j else 0) hq fun j _ hj=>if_neg hj,if_pos rfl];exact ((Cg.rf.mul (hf i hi)).add Cg.rf).trans (Cg.of oM)
theorem Am1 {c r w:Nat} {pv:Nat->Nat} (h:Lx c r m pv) (hc:c<=w) (hs:D1 p w m f):∃ g,D1 p w (m.drop r) g/\∀ j,j<w->Cg p (f j) ((sm r fun i=>f (pv i)*en m i j)+g j):=by
 have hd:∀ t j,en (m.drop r) t j=en m (r+t) j:=fun t j=>by
  unfold en;rw [gDg (l:=m.drop r),List.getElem?_drop,← gDg]
 induction hs with
 | zero h0 =>
  refine ⟨fun _=>0,.zero fun _ _=>Cg.rf,fun j hj=>(h0 j hj).trans (Cg.symm ?_)⟩;refine (((N8 (g:=fun _=>0) fun i hi=>?_).trans (Cg.of (L6 fun _ _=>rfl))).add Cg.rf).trans (Cg.of (by dsimp only;omega));exact ((h0 _ (by have:=h.lt i hi;omega)).mul Cg.rf).trans (Cg.of oM)
 | @add f' g' t k ht _ hs ih =>
  obtain ⟨q,hq,he⟩:=ih;have hpw:∀ i,i<r->pv i<w:=fun i hi=>by have:=h.lt i hi;omega
  have e1:∀ j,Cg p (sm r fun i=>f' (pv i)*en m i j) ((sm r fun i=>g' (pv i)*en m i j)+k*sm r fun i=>en m t (pv i)*en m i j):=fun j=>by
   refine (N8 fun i hi=>(hs _ (hpw i hi)).mul Cg.rf).trans (Cg.of ?_);rw [Yl (g:=fun i=>g' (pv i)*en m i j+k*(en m t (pv i)*en m i j)) fun i _=>by grind,T5 (f:=fun i=>g' (pv i)*en m i j),Wf (f:=fun i=>en m t (pv i)*en m i j)]
  by_cases htr:t<r
  ·refine ⟨q,hq,fun j hj=>(hs j hj).trans (((he j hj).add Cg.rf).trans (Cg.symm (((e1 j).add Cg.rf).trans (Cg.of ?_))))⟩;rw [Q0 (f:=fun i=>en m t (pv i)*en m i j) htr fun i hi hne=>by rw [h.zero i hi t (Ne.symm hne)];omega,h.one t htr,Int.one_mul];omega
  ·refine ⟨fun j=>q j+k*en m t j,?_,fun j hj=>(hs j hj).trans (((he j hj).add Cg.rf).trans (Cg.symm (((e1 j).add Cg.rf).trans (Cg.of ?_))))⟩
   ·refine Fs (Ud hq (Om k (C9 (i:=t - r) (by rw [List.length_drop];omega)))) fun j _=>Cg.of ?_
    rw [hd,show r+(t - r)=t by omega]
   ·rw [L6 (f:=fun i=>en m t (pv i)*en m i j) fun i hi=>by rw [h.zero i hi t oM];omega];dsimp only;omega
theorem Aqf {R:Nat} {A W:List (List Int)} (hp:2<=p) (hI:Aa6 p) (hW:MatW p (R+n) W) (hl:W.length=n) (hA:A.length=R) (h1:∀ t,t<n->∀ i,i<R->en W t i=en A i t) (h2:∀ t,t<n->∀ j,j<n->en W t (R+j)=if j=t then 1 else 0) :
  D1 p n (((gjT p W R).2.drop (gjT p W R).1).map (·.drop R)) f↔Qb p n A f:=by
 obtain ⟨⟨pv,hv⟩,hs⟩:=Ah7 hp hI hW R
 have hlin:∀ g,D1 p (R+n) W g->∀ i,i<R->Cg p (g i) (sm n fun t=>en A i t*g (R+t)):=fun g hg=>by
  induction hg with
  | zero h0 =>
   intro i hi;refine (h0 i oM).trans (Cg.symm ((N8 (g:=fun _=>0) fun t ht=>?_).trans (Cg.of (L6 fun _ _=>rfl))));exact (Cg.rf.mul (h0 _ oM)).trans (Cg.of oM)
  | @add f' g' t k ht _ hs ih =>
   intro i hi;refine (hs i oM).trans (((ih i hi).add Cg.rf).trans (Cg.symm ?_));refine (N8 fun u hu=>Cg.rf.mul (hs (R+u) oM)).trans (Cg.of ?_)
   rw [Yl (g:=fun u=>en A i u*g' (R+u)+k*(en A i u*en W t (R+u))) fun u _=>by grind,T5 (f:=fun u=>en A i u*g' (R+u)),Wf (f:=fun u=>en A i u*en W t (R+u)),
    Q0 (f:=fun u=>en A i u*en W t (R+u)) (t:=t) oM fun u hu hne=>by rw [h2 t oM u hu,if_neg hne];omega,h2 t oM t oM,if_pos rfl,h1 t oM i hi,Int.mul_one]
 have hen:∀ t j,t<((gjT p W R).2.drop (gjT p W R).1).length->en (((gjT p W R).2.drop (gjT p W R).1).map (·.drop R)) t j=en (gjT p W R).2 ((gjT p W R).1+t) (R+j):=fun t j ht=>by
  unfold en
  have e1:(((gjT p W R).2.drop (gjT p W R).1).map (·.drop R)).getD t []=((gjT p W R).2.getD ((gjT p W R).1+t) []).drop R:=by
   rw [gDg,List.getElem?_map,List.getElem?_drop,gDg];cases (gjT p W R).2[(gjT p W R).1+t]? with
   | none=>exact (List.drop_nil).symm
   | some x=>rfl
  rw [e1,gDg,List.getElem?_drop,← gDg]
 generalize gjT p W R=G at *;obtain ⟨r,M⟩:=G;dsimp only at *;constructor
 ·refine Af6 fun t ht i hi=>?_
  have ht':t<(M.drop r).length:=by simpa using ht
  have h3:=hlin _ ((hs _).1 (C9 (i:=r+t) (by rw [List.length_drop] at ht';omega))) i oM;rw [hv.tail (r+t) oM i oM] at h3;refine Cg.trans (Cg.of (Yl fun j hj=>?_)) h3.symm;rw [hen t j ht']
 ·intro hf;have hg:D1 p (R+n) W (fun q=>sm n fun t=>f t*en W t q):=Ahs (F:=fun t q=>f t*en W t q) fun t ht=>Om _ (C9 oM)
  have hq1:∀ i,i<R->Cg p (sm n fun t=>f t*en W t i) 0:=fun i hi=>by
   refine Cg.trans (Cg.of (Yl fun t ht=>?_)) (hf i oM);rw [h1 t ht i hi];exact Int.mul_comm _ _
  have hq2:∀ j,j<n->(sm n fun t=>f t*en W t (R+j))=f j:=fun j hj=>by
   rw [Q0 (f:=fun t=>f t*en W t (R+j)) hj fun t ht hne=>by rw [h2 t ht j hj,if_neg (Ne.symm hne)];omega,h2 j hj j hj,if_pos rfl,Int.mul_one]
  obtain ⟨g,hgs,hge⟩:=Am1 hv (Nat.le_add_right R n) ((hs _).2 hg)
  have hG:D1 p (R+n) (M.drop r) (fun q=>sm n fun t=>f t*en W t q):=by
   refine Fs hgs fun q hq=>(hge q hq).trans ?_
   refine ((N8 (g:=fun _=>0) fun i hi=>?_).add Cg.rf).trans (Cg.of ?_)
   ·exact ((hq1 _ (hv.lt i hi)).mul Cg.rf).trans (Cg.of oM)
   ·rw [L6 fun _ _=>rfl];omega
  have hC:=Apx (m':=(M.drop r).map (·.drop R)) (n':=n) (σ:=fun j=>R+j) (List.length_map ..) (fun j hj=>by omega) (fun t ht j hj=>by
   rw [hen t j ht];unfold en;rw [gDg (l:=M.drop r),List.getElem?_drop,← gDg]) hG
  exact Fs hC fun j hj=>Cg.of (hq2 j hj).symm
end
def lv (R:List (List Int)) (i:Nat):Nat:=Gb (R.getD i [])
section
variable {p:Int} {n:Nat} {R:List (List Int)}
theorem Zd {pv:Nat->Nat} (h:Lx n R.length R pv) {w:Nat} (hm:MatW p w R) (hw:n<=w):Lx n R.length R (lv R):=by
 have e:∀ i,i<R.length->lv R i=pv i:=fun i hi=>Aty h hm hw hi
 refine ⟨Nat.le_refl _,fun i hi=>?_,fun i k hik hk=>?_,fun i hi j hj=>?_,fun i hi=>?_,fun i hi k hk=>?_,fun i hi j _=>Sy hi⟩
 ·rw [e i hi];exact h.lt i hi
 ·rw [e i oM,e k hk];exact h.mono i k hik hk
 ·rw [e i hi] at hj;exact h.low i hi j hj
 ·rw [e i hi];exact h.one i hi
 ·rw [e i hi];exact h.zero i hi k hk
end
end
section
section
variable {p:Int} {n:Nat} {m E R F:List (List Int)} {f g u v:Nat->Int}
def Wg (p:Int) (R:List (List Int)) (x:List Int):Nat->List Int
 | 0=>x
 | i+1=>D3 p ((Wg p R x i).getD (lv R i) 0) (Wg p R x i) (R.getD i [])
theorem U4 {x:List Int} (hp:2<=p) (hR:MatW p n R) (hx:VecW p n x):∀ i,i<=R.length->VecW p n (Wg p R x i)
 | 0,_=>hx
 | i+1,hi=>Akm hp (U4 hp hR hx i oM).1 (hR _ (Jd oM)).1
theorem Atc {x:List Int} (hp:2<=p) (hR:MatW p n R) (hx:VecW p n x) (h:Lx n R.length R (lv R)):∀ i,i<=R.length->∀ j,j<n->Cg p ((Wg p R x i).getD j 0) (x.getD j 0 - sm i fun t=>x.getD (lv R t) 0*en R t j)
 | 0,_,j,_=>Cg.of (by show _=_ - 0;rw [Int.sub_zero];rfl)
 | i+1,hi,j,hj=>by
  have ih:=Atc hp hR hx h i oM
  have hk:Cg p ((Wg p R x i).getD (lv R i) 0) (x.getD (lv R i) 0):=by
   refine (ih _ (h.lt i oM)).trans (Cg.of ?_);rw [L6 fun t ht=>by rw [h.zero i oM t oM];omega];omega
  show Cg p ((D3 p _ _ _).getD j 0) _;rw [Agj (by rw [(U4 hp hR hx i oM).1,(hR _ (Jd (show i<R.length by omega))).1])];refine Cg.md.trans (((ih j hj).sub (hk.mul Cg.rf)).trans (Cg.of ?_));show _=x.getD j 0 - (sm i _+x.getD (lv R i) 0*en R i j);unfold en;omega
-- the equations from behind
end
end
section
section
variable {p:Int} {n:Nat} {m:List (List Int)}
theorem Acw (x:List Int) (hx:x.length<=1000):H5 x=some ((Gb x:Nat):Int):=by
 unfold H5;have hle:Gb x<=x.length:=List.findIdx_le_length
 have h:Aq (fun s_:Nat=>Jw x s_) 4611686018427387904 0=some (Gb x):=by
  refine A7 (Gb x) (fun i=>i) oM _ rfl (fun i hi=>?_) ?_
  ·have h0:=List.not_of_lt_findIdx hi;have h1:x[i]'oM=0:=by simpa using h0
   try dsimp only
   unfold Jw;rw [Av oM,cond_true,gEg (show i<x.length by omega),obs,obs,h1,show ((0:Int)==0)=true from rfl,cond_true,Af oM]
  ·unfold Jw;by_cases h:Gb x=x.length
   ·rw [At oM,cond_false,obs,cond_false]
   ·have h0:=List.findIdx_getElem (w:=show Gb x<x.length by omega);rw [Av oM,cond_true,gEg (show Gb x<x.length by omega),obs,obs,show ((x[Gb x]'oM)==0)=false from Bool.eq_false_iff.2 (fun e=>bne_iff_ne.1 h0 (beq_iff_eq.1 e)),cond_false]
 rw [h,obs]
theorem Asd (x:List Int) (hx:x.length<=100000):Oj x=some ((Gb x:Nat):Int):=by
 unfold Oj;have hle:Gb x<=x.length:=List.findIdx_le_length
 have h:Aq (fun s_:Nat=>Mo x s_) 4611686018427387904 0=some (if Gb x=x.length then .next () else .out ((Gb x:Nat):Int)):=by
  refine A7 (Gb x) (fun i=>i) oM _ rfl (fun i hi=>?_) ?_
  ·have h0:=List.not_of_lt_findIdx hi;have h1:x[i]'oM=0:=by simpa using h0
   try dsimp only
   unfold Mo;rw [Av oM,cond_true,gEg (show i<x.length by omega),obs,h1,show ((0:Int) !=0)=false from rfl,cond_false,Af oM]
  ·unfold Mo;by_cases h:Gb x=x.length
   ·rw [At oM,cond_false,if_pos h]
   ·have h0:(x[Gb x]'oM !=0)=true:=List.findIdx_getElem (w:=show Gb x<x.length by omega);rw [Av oM,cond_true,gEg (show Gb x<x.length by omega),obs,h0,cond_true,if_neg h]
 rw [h];by_cases h2:Gb x=x.length
 ·rw [if_pos h2];show some _=some _;rw [h2]
 ·rw [if_neg h2];rfl
def spV (p:Int) (n:Nat) (m:List (List Int)) (c:List Int):Nat->List Int
 | 0=>List.replicate n 0
 | i+1=>List.zipWith (fun a x=>(a+c.getD i 0*x) % p) (spV p n m c i) (m.getD i [])
theorem Lq {c:List Int} (hp:2<=p) (hm:MatW p n m):∀ i,i<=m.length->VecW p n (spV p n m c i)
 | 0,_=>⟨by simp [spV],fun a ha=>by obtain rfl:=(List.mem_replicate.1 ha).2;omega⟩
 | i+1,hi=>by
  have h1:=Lq (c:=c) hp hm i oM;have h2:=hm _ (Jd (show i<m.length by omega));refine ⟨by unfold spV;rw [List.length_zipWith,h1.1,h2.1];omega,fun a ha=>?_⟩;obtain ⟨b,d,rfl⟩:=Alu ha;exact Uy hp
theorem Axj {c:List Int} (hp:2<=p) (hm:MatW p n m):∀ i,i<=m.length->∀ j,j<n->Cg p ((spV p n m c i).getD j 0) (sm i fun t=>c.getD t 0*en m t j)
 | 0,_,j,_=>Cg.of (by show (List.replicate n (0:Int)).getD j 0=0;rw [gDg,List.getElem?_replicate];split <;> rfl)
 | i+1,hi,j,hj=>by
  have h1:=Lq (c:=c) hp hm i oM;have h2:=hm _ (Jd (show i<m.length by omega))
  have e:(spV p n m c (i+1)).getD j 0=((spV p n m c i).getD j 0+c.getD i 0*en m i j) % p:=by
   have k1:=(Dc h1 hj).2.2;have k2:=(Dc h2 hj).2.2;show (List.zipWith (fun a x=>(a+c.getD i 0*x) % p) (spV p n m c i) (m.getD i [])).getD j 0=_;unfold en;generalize spV p n m c i=X at *;rw [gDg,List.getElem?_zipWith,k1,k2];rfl
  rw [e];exact Cg.md.trans ((Axj hp hm i oM j hj).add Cg.rf)
theorem Ahb {c:List Int} (hp:2<=p/\p<=97) (hm:MatW p n m) (hc:VecW p m.length c) (hn:n<=1000) (hl:m.length<=1000):J5 p (n:Int) m c=some (spV p n m c m.length):=by
 unfold J5;rw [Af oM,Int.toNat_natCast]
 have key:Aq (fun s_:Nat×List Int=>K9 m c p s_.1 s_.2) 4611686018427387904 (0,List.replicate n 0)=some (spV p n m c m.length):=by
  refine A7 m.length (fun i=>(i,spV p n m c i)) oM _ rfl (fun i hi=>?_) ?_
  ·have h1:=Lq (c:=c) hp.1 hm i oM;have h2:=hm _ (List.getElem_mem hi);have hl1:=h1.1;have hl2:=h2.1;have hcc:=hc.1;have hci:=Ps hc (j:=i) oM
   have hin:Aq (fun s_:Nat×List Int=>K8 m[i] c i p s_.1 s_.2) 4611686018427387904 (0,spV p n m c i)=some (spV p n m c (i+1)):=by
    have hv:=Lq (c:=c) hp.1 hm (i+1) oM;have hvl:=hv.1;refine W7 (y:=spV p n m c (i+1)) oM oM (fun j hj z hz=>?_) ?_
    ·have a1:=Ps h1 hj;have a2:=Ps h2 (j:=j) oM;have a3:=Afh hp hci a2
     try dsimp only
     unfold K8;rw [Av oM,cond_true,gEg (show j<m[i].length by omega),obs,hz,obs,gEg (show i<c.length by omega),obs,Af oM,Af oM,Bg (n:=c[i]'oM*m[i][j]'oM) oM oM,Bg oM oM,Int.tmod_eq_emod_of_nonneg oM];congr 4;simp only [spV,List.getElem_zipWith,Bm (gEg (show i<c.length by omega)),Bm (m:=m) (gEg hi)]
    ·try dsimp only
     unfold K8;rw [At oM,cond_false]
   try dsimp only
   unfold K9;rw [Av oM,cond_true,gEg hi,obs,hin,obs,Af oM]
  ·try dsimp only
   unfold K9;rw [At oM,cond_false]
 rw [key,obs]
def cvV (m:List (List Int)) (x:List Int) (i:Nat):List Int:=(List.range i).map fun t=>x.getD (lv m t) 0
theorem Arq {x:List Int} {i:Nat}:(cvV m x i).length=i:=by simp [cvV]
theorem Awq {x:List Int} {i:Nat}:cvV m x (i+1)=cvV m x i++[x.getD (lv m i) 0]:=by simp [cvV,List.range_succ]
theorem Axs {i:Nat} (hi:i<m.length):Gb m[i]=lv m i:=by unfold lv;rw [Bm (gEg hi)]
theorem Ax8 {x:List Int} (h:Lx n m.length m (lv m)) (hx:VecW p n x):VecW p m.length (cvV m x m.length):=by
 refine ⟨Arq,fun a ha=>?_⟩;obtain ⟨t,ht,rfl⟩:=List.mem_map.1 ha;have:=Dc hx (h.lt t (List.mem_range.1 ht));exact ⟨this.1,this.2.1⟩
theorem Awd {x:List Int} {t:Nat} (ht:t<m.length):(cvV m x m.length).getD t 0=x.getD (lv m t) 0:=by
 unfold cvV;rw [gDg,List.getElem?_map,List.getElem?_range ht];rfl
theorem Amk {x:List Int} (hm:MatW p n m) (h:Lx n m.length m (lv m)) (hx:VecW p n x) (hn:n<=1000) (hl:m.length<=1000):K5 m x=some (cvV m x m.length):=by
 unfold K5
 have key:Aq (fun s_:Nat×List Int=>Hw m x s_.1 s_.2) 4611686018427387904 (0,[])=some (cvV m x m.length):=by
  refine A7 m.length (fun i=>(i,cvV m x i)) oM _ rfl (fun i hi=>?_) ?_
  ·have h1:=hm _ (List.getElem_mem hi);have h2:=Dc hx (h.lt i hi);have h3:=Arq (m:=m) (x:=x) (i:=i)
   try dsimp only
   unfold Hw;rw [Av oM,cond_true,gEg hi,obs,Acw _ (by rw [h1.1];exact hn),obs,B0 oM,Int.toNat_natCast,Axs hi,h2.2.2,obs,Af oM,Af oM,Awq]
  ·try dsimp only
   unfold Hw;rw [At oM,cond_false]
 rw [key];rfl
def Tj (p:Int) (n:Nat) (m:List (List Int)) (x:List Int):Bool:=spV p n m (cvV m x m.length) m.length==x
theorem Au3 {x:List Int} (hp:2<=p/\p<=97) (hm:MatW p n m) (h:Lx n m.length m (lv m)) (hx:VecW p n x) (hn:n<=1000) (hl:m.length<=1000):O4 p m x=some (Tj p n m x):=by
 unfold O4;have hv:=Ax8 h hx;have hs:=Lq (c:=cvV m x m.length) hp.1 hm m.length (Nat.le_refl _);rw [Amk hm h hx hn hl,obs,hx.1,Ahb hp hm hv hn hl,obs,Ai9 _ _ (by rw [hs.1];omega)];rfl
theorem Aqh {x:List Int} (hx:VecW p n x):(((Gb x:Nat):Int)==((x.length:Nat):Int))=true↔∀ j,j<n->Cg p (x.getD j 0) 0:=by
 rw [beq_iff_eq];constructor
 ·intro e j hj;have e2:Gb x=x.length:=by omega
  have g:=Dc hx hj;have h0:=List.not_of_lt_findIdx (xs:=x) (p:=fun a=>a !=0) (i:=j) (by show j<Gb x;rw [e2,hx.1];exact hj);have h1:x[j]'(by rw [hx.1];exact hj)=0:=by simpa using h0
  rw [Bm (gEg (show j<x.length by rw [hx.1];exact hj)),h1];exact Cg.rf
 ·intro H
  have e2:Gb x=x.length:=by
   refine List.findIdx_eq_length.2 fun a ha=>?_
   obtain ⟨j,hj,rfl⟩:=List.mem_iff_getElem.1 ha;have hj':j<n:=by rw [← hx.1];exact hj
   have g:=Dc hx hj';have:=(H j hj').eq ⟨g.1,g.2.1⟩ ⟨by omega,by omega⟩;rw [Bm (gEg hj)] at this;simp [this]
  omega
theorem Apa {a s:Int}:Cg p (a - s) 0↔Cg p s a:=by
 constructor
 ·intro h;exact (Cg.of oM).trans (((Cg.rf (a:=a)).sub h).trans (Cg.of oM))
 ·intro h;exact ((Cg.rf (a:=a)).sub h).trans (Cg.of oM)
theorem Ayx {x y:List Int} (hx:VecW p n x) (hy:VecW p n y):(x==y)=true↔∀ j,j<n->Cg p (x.getD j 0) (y.getD j 0):=by
 rw [beq_iff_eq];constructor
 ·rintro rfl j _;exact Cg.rf
 ·intro H;refine List.ext_getElem (by rw [hx.1,hy.1]) fun j h1 h2=>?_
  have hj:j<n:=by rw [← hx.1];exact h1
  have g:=Dc hx hj;have g':=Dc hy hj;have:=(H j hj).eq ⟨g.1,g.2.1⟩ ⟨g'.1,g'.2.1⟩
  rwa [Bm (gEg h1),Bm (gEg h2)] at this
theorem Axa {x:List Int} (hp:2<=p) (hm:MatW p n m) (h:Lx n m.length m (lv m)) (hx:VecW p n x) :
  (((Gb (Wg p m x m.length):Nat):Int)==(((Wg p m x m.length).length:Nat):Int))=Tj p n m x:=by
 rw [Bool.eq_iff_iff,Aqh (U4 hp hm hx _ (Nat.le_refl _))];unfold Tj;rw [Ayx (Lq hp hm _ (Nat.le_refl _)) hx]
 have key:∀ j,j<n->(Cg p ((Wg p m x m.length).getD j 0) 0↔Cg p ((spV p n m (cvV m x m.length) m.length).getD j 0) (x.getD j 0)):=fun j hj=>by
  have h1:=Atc hp hm hx h m.length (Nat.le_refl _) j hj;have h2:=(Axj (c:=cvV m x m.length) hp hm m.length (Nat.le_refl _) j hj).trans (N8 (g:=fun t=>x.getD (lv m t) 0*en m t j) fun t ht=>by rw [Awd ht];exact Cg.rf);exact ⟨fun h0=>h2.trans ((Apa).1 (h1.symm.trans h0)),fun h0=>h1.trans ((Apa).2 (h2.symm.trans h0))⟩
 exact ⟨fun H j hj=>(key j hj).1 (H j hj),fun H j hj=>(key j hj).2 (H j hj)⟩
theorem Aqg {l r:Int} {x:List Int} (hp:2<=p/\p<=97) (hm:MatW p n m) (h:Lx n m.length m (lv m)) (hx:VecW p n x) (hn:n<=1000) (hl:m.length<=1000):Mm p l r m x=some (Tj p n m x):=by
 unfold Mm Lj;have hxl:=hx.1;rw [Aot x oM,obs]
 have key:Aq (fun s_:Nat×List Int×List Int=>Fr m p s_.1 s_.2.1 s_.2.2) 4611686018427387904 (0,x,[])=some (Wg p m x m.length,(List.range m.length).map fun t=>(Wg p m x t).getD (lv m t) 0):=by
  refine A7 m.length (fun i=>(i,Wg p m x i,(List.range i).map fun t=>(Wg p m x t).getD (lv m t) 0)) oM _ rfl (fun i hi=>?_) ?_
  ·have h1:=hm _ (List.getElem_mem hi);have hc:=U4 hp.1 hm hx i oM;have hc':=U4 hp.1 hm hx (i+1) oM;have h2:=Dc hc (h.lt i hi)
   have e:D3 p ((Wg p m x i).getD (lv m i) 0) (Wg p m x i) m[i]=Wg p m x (i+1):=by
    show _=D3 p _ _ (m.getD i []);rw [Bm (m:=m) (gEg hi)]
   try dsimp only
   unfold Fr;rw [Av oM,cond_true,gEg hi,obs,Asd _ (by rw [h1.1];omega),obs,B0 oM,Int.toNat_natCast,Axs hi,h2.2.2,obs,Af (by simp;omega),Ae9 hp hc h1 oM ⟨h2.1,h2.2.1⟩,obs,e,Af (by rw [hc.1,hc'.1]),Af oM,List.range_succ,List.map_append];rfl
  ·try dsimp only
   unfold Fr;rw [At oM,cond_false]
 have hc:=U4 hp.1 hm hx m.length (Nat.le_refl _);rw [key,obs];dsimp only;unfold Q3;rw [Asd _ (by rw [hc.1];omega),obs,Axa hp.1 hm h hx];rfl
theorem Awj {l r l' r':Int} {b:List (List Int)} (hp:2<=p/\p<=97) (hm:MatW p n m) (h:Lx n m.length m (lv m)) (hb:MatW p n b) (hn:n<=1000) (hl:m.length<=1000) (hl':b.length<=1000):Ir p l r m l' r' b=some (b.all (Tj p n m)):=by
 unfold Ir
 have key:Aq (fun s_:Nat=>Gc b p m s_) 4611686018427387904 0=some (if b.all (Tj p n m) then Ctl.next () else .out false):=by
  refine G5 b (Tj p n m) _ _ oM (fun i x hx=>?_) ?_
  ·have hi:=Ai hx;unfold Gc;rw [Av oM,cond_true,hx,obs,Au3 hp hm h (hb x (List.mem_of_getElem? hx)) hn hl,obs,Af oM];cases Tj p n m x <;> rfl
  ·unfold Gc;rw [At oM,cond_false]
 rw [key,Nx]
theorem Auy {x:List Int} (hm:MatW p 0 m) (hp:2<=p) (hx:VecW p 0 x):Tj p 0 m x=true:=by
 unfold Tj;rw [beq_iff_eq,List.length_eq_zero_iff.1 (Lq (c:=cvV m x m.length) hp hm m.length (Nat.le_refl _)).1,List.length_eq_zero_iff.1 hx.1]
theorem Aqr {l r l' r':Int} {b:List (List Int)} (hp:2<=p/\p<=97) (hm:MatW p n m) (h:Lx n m.length m (lv m)) (hb:MatW p n b) (hn:n<=1000) (hl:m.length<=1000) (hl':b.length<=1000) :
  ∃ z,Mw p l r m l' r' b=some z/\((z=.inl ()/\b.all (Tj p n m)=true)∨∃ x:List Int,z=.inr x/\x.length≠0/\b.all (Tj p n m)=false):=by
 unfold Mw
 have key:∃ c,Aq (fun s_:Nat=>Iq b p l r m s_) 4611686018427387904 0=some c/\((c=Ctl.next ()/\b.all (Tj p n m)=true)∨∃ x:List Int,c=Ctl.out (Sum.inr x)/\x.length≠0/\b.all (Tj p n m)=false):=by
  refine I2 (Post:=fun c=>(c=Ctl.next ()/\b.all (Tj p n m)=true)∨∃ x:List Int,c=Ctl.out (Sum.inr x)/\x.length≠0/\b.all (Tj p n m)=false) b.length (fun i s=>s=i/\∀ k (hk:k<b.length),k<i->Tj p n m b[k]=true) oM ⟨rfl,fun _ _ hk=>absurd hk oM⟩ ?_ ?_
  ·rintro i s hi ⟨rfl,hI⟩;have hx:=hb _ (List.getElem_mem hi);unfold Iq;rw [Av oM,cond_true,gEg hi,obs,Aqg hp hm h hx hn hl,obs,Af oM];cases hh:Tj p n m b[s]
   ·refine .inr ⟨_,rfl,.inr ⟨_,rfl,fun h0=>?_,?_⟩⟩
    ·have hn0:n=0:=by rw [← hx.1];exact h0
     subst hn0;rw [Auy hm hp.1 hx] at hh;exact absurd hh (by decide)
    ·rw [List.all_eq_false];exact ⟨_,List.getElem_mem hi,by rw [hh];decide⟩
   ·refine .inl ⟨_,rfl,rfl,fun k hk hks=>?_⟩;by_cases e:k=s
    ·subst e;exact hh
    ·exact hI k hk oM
  ·rintro s ⟨rfl,hI⟩;unfold Iq;rw [At oM,cond_false];refine ⟨_,rfl,.inl ⟨rfl,?_⟩⟩;rw [List.all_eq_true];intro x hx;obtain ⟨k,hk,rfl⟩:=List.mem_iff_getElem.1 hx;exact hI k hk hk
 obtain ⟨c,hc,h1⟩:=key;rw [hc];rcases h1 with ⟨rfl,h1⟩|⟨x,rfl,h1,h2⟩
 ·exact ⟨_,rfl,.inl ⟨rfl,h1⟩⟩
 ·exact ⟨_,rfl,.inr ⟨x,rfl,h1,h2⟩⟩
theorem Arm {s:ByteArray} {xs:List Nd} {l r:Int} {b:List (List Int)} (hx:xs.length<=1073741824) (hb:b.length<=1048576) (hr:Iw 1048576 b) (h:Ec p s xs l r b=some true):M2 p l r b=true:=by
 unfold Ec at h;obtain ⟨nm,n1,n2⟩:=Ane s;rw [Ad8,obs,n2,obs,Adv xs p hx,Sf xs hx,Yv p l r b hb hr] at h;cases ht:tyV xs with
 | none=>rw [ht] at h;exact absurd h (by simp)
 | some w =>
  rw [ht,Option.isSome_some,Bool.true_and] at h;dsimp only at h;generalize isF p=a1 at h;generalize Ka p xs=a2 at h;generalize Wu xs=a3 at h;cases hg:M2 p l r b
  ·rw [hg] at h;cases nm <;> cases a1 <;> cases a2 <;> cases a3 <;> exact absurd h (by simp)
  ·rfl
theorem Aq1 {l r:Int} {b:List (List Int)} (G:Axv p l r b):Lx (l+r).toNat b.length b (lv b):=by
 have hp:=Cx G.fp;obtain ⟨⟨pv,h⟩,_⟩:=Vj hp.1 (fun _ h1 h2=>(Ahu G.fp ⟨h1,h2⟩).2.2.2.2) G.mb;rw [G.rb] at h;exact Zd h G.mb (Nat.le_refl _)
end
end
section
theorem Aeu {p:Int} (hp:isF p=true):Aa6 p:=fun _ h1 h2=>(Ahu hp ⟨h1,h2⟩).2.2.2.2
theorem So {n:Int} (h:0<=n/\n<=1000000):Ee n=some (List.replicate n.toNat 0):=by
 unfold Ee;rw [Af oM]
def bvT (p:Int) (n:Nat) (R:List (List Int)) (j:Nat):Nat->List Int
 | 0=>(List.replicate n 0).set j 1
 | i+1=>(bvT p n R j i).set (lv R i) ((p - en R i j) % p)
def ldT (n:Nat) (R:List (List Int)):Nat->List Int
 | 0=>List.replicate n (-1)
 | i+1=>(ldT n R i).set (lv R i) (i:Int)
def Aat (n:Nat) (R:List (List Int)):List Nat:=(List.range n).filter fun j=> !pvs R.length (lv R) j
def S9 (p:Int) (n:Nat) (R:List (List Int)):List (List Int):=(Aat n R).map fun j=>bvT p n R j R.length
def Oo (p:Int) (n:Nat) (m:List (List Int)):List (List Int):=gj p n (S9 p n (gj p n m))
section
variable {p:Int} {n:Nat} {R m:List (List Int)}
theorem Ak0 {pv:Nat->Nat} {i j:Nat}:pvs (i+1) pv j=(pvs i pv j||(pv i==j)):=by simp [pvs,List.range_succ]
theorem Ah8:∀ i,(ldT n R i).length=n
 | 0=>by simp [ldT]
 | i+1=>by unfold ldT;rw [List.length_set,Ah8 i]
theorem Aq4 (hlt:∀ i,i<R.length->lv R i<n) {j:Nat} (hj:j<n):∀ i,i<=R.length->∃ v,(ldT n R i)[j]? =some v/\(decide (0<=v)=pvs i (lv R) j)
 | 0,_=>⟨-1,by simp [ldT,hj],rfl⟩
 | i+1,hi=>by
  obtain ⟨v,h1,h2⟩:=Aq4 hlt hj i oM;have hl:=Ah8 (n:=n) (R:=R) i;by_cases e:lv R i=j
  ·refine ⟨(i:Int),?_,?_⟩
   ·unfold ldT;rw [e,List.getElem?_set_self oM]
   ·rw [Ak0,beq_iff_eq.2 e,Bool.or_true,Av oM]
  ·refine ⟨v,?_,?_⟩
   ·unfold ldT;rw [List.getElem?_set_ne e];exact h1
   ·rw [Ak0,beq_eq_false_iff_ne.2 e,Bool.or_false];exact h2
theorem W9 {j:Nat}:∀ i,(bvT p n R j i).length=n
 | 0=>by simp [bvT]
 | i+1=>by unfold bvT;rw [List.length_set,W9 i]
theorem Asf {j:Nat} (hp:2<=p):∀ i,inV p (bvT p n R j i)
 | 0=>fun a ha=>by
  rcases List.mem_or_eq_of_mem_set ha with ha|rfl
  ·obtain rfl:=(List.mem_replicate.1 ha).2;omega
  ·omega
 | i+1=>fun a ha=>by
  rcases List.mem_or_eq_of_mem_set ha with ha|rfl
  ·exact Asf hp i a ha
  ·exact Uy hp
theorem U6 {x:List Int} {i j:Nat} {a:Int} (hi:i<x.length):(x.set i a).getD j 0=if i=j then a else x.getD j 0:=by
 rw [gDg];by_cases e:i=j
 ·subst e;rw [if_pos rfl,List.getElem?_set_self hi];rfl
 ·rw [if_neg e,List.getElem?_set_ne e,← gDg]
theorem Ao4 {j:Nat} (h:Lx n R.length R (lv R)):∀ i,i<=R.length->∀ t,t<i->(bvT p n R j i).getD (lv R t) 0=(p - en R t j) % p
 | 0,_,t,ht=>by omega
 | i+1,hi,t,ht=>by
  unfold bvT;rw [U6 (by rw [W9];exact h.lt i oM)];by_cases e:i=t
  ·subst e;rw [if_pos rfl]
  ·have:=h.mono t i oM oM;rw [if_neg oM];exact Ao4 h i oM t oM
theorem Ads {j q:Nat} (h:Lx n R.length R (lv R)) (hj:j<n):∀ i,i<=R.length->(∀ t,t<i->lv R t≠q)->(bvT p n R j i).getD q 0=if j=q then 1 else 0
 | 0,_,_=>by
  unfold bvT;rw [U6 (by simpa using hj)];by_cases e:j=q
  ·rw [if_pos e,if_pos e]
  ·rw [if_neg e,if_neg e,gDg,List.getElem?_replicate];split <;> rfl
 | i+1,hi,hq=>by
  unfold bvT;rw [U6 (by rw [W9];exact h.lt i oM),if_neg (hq i oM)];exact Ads h hj i oM fun t ht=>hq t oM
theorem Uu (hp:2<=p):MatW p n (S9 p n R):=fun x hx=>by
 obtain ⟨j,_,rfl⟩:=List.mem_map.1 hx;exact ⟨W9 _,Asf hp _⟩
theorem Ak5:(S9 p n R).length<=n:=by
 unfold S9 Aat;rw [List.length_map];exact Nat.le_trans (List.length_filter_le ..) (by simp)
theorem Axc (hp:2<=p) (h:Lx n R.length R (lv R)):Azt p n R (lv R) (S9 p n R):=by
 have hb:∀ j,j<n->pvs R.length (lv R) j=false->Cg p ((bvT p n R j R.length).getD j 0) 1/\(∀ i,i<R.length->Cg p ((bvT p n R j R.length).getD (lv R i) 0) (-en R i j))/\∀ q,q<n->q≠j->pvs R.length (lv R) q=false->Cg p ((bvT p n R j R.length).getD q 0) 0:=fun j hj hf=>by
  refine ⟨?_,fun i hi=>?_,fun q _ hne hfq=>?_⟩
  ·rw [Ads h hj _ (Nat.le_refl _) fun t ht=>Ao1 hf ht,if_pos rfl];exact Cg.rf
  ·rw [Ao4 h _ (Nat.le_refl _) i hi];exact Cg.md.trans ⟨1,by omega⟩
  ·rw [Ads h hj _ (Nat.le_refl _) fun t ht=>Ao1 hfq ht,if_neg (Ne.symm hne)];exact Cg.rf
 have he:∀ t j,(Aat n R)[t]? =some j->∀ q,en (S9 p n R) t q=(bvT p n R j R.length).getD q 0:=fun t j ht q=>by
  unfold en S9;rw [Bm (x:=bvT p n R j R.length) (by rw [List.getElem?_map,ht];rfl)]
 have hl:(S9 p n R).length=(Aat n R).length:=List.length_map ..;refine ⟨fun j hj hf=>?_,fun t ht=>?_⟩
 ·have hm:j∈Aat n R:=List.mem_filter.2 ⟨List.mem_range.2 hj,by rw [hf];rfl⟩;obtain ⟨t,ht,e⟩:=List.getElem_of_mem hm;have h1:(Aat n R)[t]? =some j:=by rw [gEg ht,e]
  refine ⟨t,by omega,?_⟩;simp only [he t j h1];exact hb j hj hf
 ·obtain ⟨j,hj⟩:=Ln (show t<(Aat n R).length by omega);have hm:=List.mem_filter.1 (List.mem_of_getElem? hj);have hjn:=List.mem_range.1 hm.1;have hf:pvs R.length (lv R) j=false:=by simpa using hm.2
  refine ⟨j,hjn,hf,?_⟩;simp only [he t j hj];exact hb j hjn hf
theorem Arf {f:Nat->Int} (hp:isF p=true) (hm:MatW p n m):D1 p n (S9 p n (gj p n m)) f↔Qb p n m f:=by
 have hb:=Cx hp;obtain ⟨⟨pv,h1⟩,h2⟩:=Vj hb.1 (Aeu hp) hm;have h3:=Zd h1 (U0 hb.1 hm) (Nat.le_refl n);refine (Aqc h3 (Axc hb.1 h3)).trans ⟨Aov fun i hi=>(h2 _).2 (C9 hi),Aov fun i hi=>(h2 _).1 (C9 hi)⟩
theorem Ab5 {x:Int} (hp:2<=p/\p<=97) (hx:0<=x/\x<p):F3 p x=some ((p - x) % p):=by
 unfold F3;rw [Af oM,Bg oM oM,Int.tmod_eq_emod_of_nonneg oM]
theorem Adu (hp:isF p=true) (hm:MatW p n m) (hn:n<=1000) (hl:m.length<=100000):Kj p (n:Int) m=some (Oo p n m):=by
 have hb:=Cx hp;obtain ⟨⟨pv,h1⟩,_⟩:=Vj hb.1 (Aeu hp) hm;have hRm:=U0 (n:=n) hb.1 hm;have h:=Zd h1 hRm (Nat.le_refl n)
 have hRl:(gj p n m).length<=n:=by
  have:=Ack (k:=n) (u:=id) (fun i j h _=>h) h.mono;refine Nat.le_of_not_lt fun hlt=>?_
  have hge:∀ i,i<(gj p n m).length->i<=lv (gj p n m) i:=by
   intro i
   induction i with
   | zero=>intro _;omega
   | succ i ih=>intro hi;have:=ih oM;have:=h.mono i (i+1) oM hi;omega
  have:=hge n hlt;have:=h.lt n hlt;omega
 unfold Kj Oo;rw [Sp hp hm (Nat.le_refl n) oM hl,obs,Af oM,Int.toNat_natCast];generalize gj p n m=R at *
 have l1:Aq (fun s_:Nat×List Int=>Jz (n:Int) s_.1 s_.2) 4611686018427387904 (0,List.replicate n 0)=some (ldT n R 0):=by
  refine W7 (y:=ldT n R 0) (by simp [ldT]) (by simp;omega) (fun j hj z hz=>?_) ?_
  ·simp at hj
   try dsimp only
   unfold Jz;rw [Int.toNat_natCast,Av oM,cond_true,hz,obs,Af oM];simp [ldT]
  ·try dsimp only
   unfold Jz;rw [Int.toNat_natCast,At (by simp),cond_false]
 have hrow:∀ i,i<R.length->R[i]? =some (R.getD i [])/\VecW p n (R.getD i []):=fun i hi=>⟨by rw [gEg hi,Bm (gEg hi)],hRm _ (Jd hi)⟩
 have l2:Aq (fun s_:Nat×List Int=>Jv R s_.1 s_.2) 4611686018427387904 (0,ldT n R 0)=some (ldT n R R.length):=by
  refine A7 R.length (fun i=>(i,ldT n R i)) oM _ rfl (fun i hi=>?_) ?_
  ·obtain ⟨g1,g2⟩:=hrow i hi;have hlt:=h.lt i hi;obtain ⟨x,hx⟩:=Ln (m:=ldT n R i) (i:=lv R i) (by rw [Ah8];exact hlt)
   try dsimp only
   unfold Jv;rw [Av oM,cond_true,g1,obs,Acw _ (by rw [g2.1];exact hn),obs,B0 oM,Int.toNat_natCast,show (ldT n R i)[Gb (R.getD i [])]? =some x from hx,obs,Af oM];rfl
  ·try dsimp only
   unfold Jv;rw [At oM,cond_false]
 have l4:∀ j,j<n->Aq (fun s_:Nat×List Int=>Jk R j p s_.1 s_.2) 4611686018427387904 (0,(List.replicate n 0).set j 1)=some (bvT p n R j R.length):=fun j hj=>by
  refine A7 R.length (fun i=>(i,bvT p n R j i)) oM _ rfl (fun i hi=>?_) ?_
  ·obtain ⟨g1,g2⟩:=hrow i hi;have hlt:=h.lt i hi;obtain ⟨q1,q2,q3⟩:=Dc g2 hj;obtain ⟨x,hx⟩:=Ln (m:=bvT p n R j i) (i:=lv R i) (by rw [W9];exact hlt)
   try dsimp only
   unfold Jk;rw [Av oM,cond_true,g1,obs,Acw _ (by rw [g2.1];exact hn),obs,q3,obs,Ab5 hb ⟨q1,q2⟩,obs,B0 oM,Int.toNat_natCast,show (bvT p n R j i)[Gb (R.getD i [])]? =some x from hx,obs,Af oM];rfl
  ·try dsimp only
   unfold Jk;rw [At oM,cond_false]
 have l3:Aq (fun s_:Nat×List (List Int)=>Jj (n:Int) (ldT n R R.length) R p s_.1 s_.2) 4611686018427387904 (0,[])=some (S9 p n R):=by
  refine A7 n (fun k=>(k,((List.range k).filter fun j=> !pvs R.length (lv R) j).map fun j=>bvT p n R j R.length)) oM _ rfl (fun k hk=>?_) ?_
  ·obtain ⟨v,v1,v2⟩:=Aq4 h.lt hk R.length (Nat.le_refl _)
   have hle:(((List.range k).filter fun j=> !pvs R.length (lv R) j).map fun j=>bvT p n R j R.length).length<=k:=by
    rw [List.length_map];exact Nat.le_trans (List.length_filter_le ..) (by simp)
   try dsimp only
   unfold Jj;rw [Av oM,cond_true,v1,obs,v2,List.range_succ,List.filter_append];cases hc:pvs R.length (lv R) k
   ·rw [cond_false,Af oM,Int.toNat_natCast,List.getElem?_replicate,if_pos hk,obs,l4 k hk,obs,Af oM,obs,Af oM];simp [hc]
   ·rw [cond_true,obs,Af oM];simp [hc]
  ·try dsimp only
   unfold Jj;rw [At oM,cond_false];rfl
 rw [l1,obs,l2,obs,l3,obs,Sp hp (Uu hb.1) (Nat.le_refl n) oM (Nat.le_trans Ak5 oM),obs]
def trV (m:List (List Int)) (n:Nat):List (List Int):=(List.range n).map fun j=>m.map fun x=>x.getD j 0
def unV (n k:Nat):List Int:=(List.replicate n 0).set k 1
def idV (n:Nat):List (List Int):=(List.range n).map (unV n)
theorem An7 {k:Nat} (hk:k<n) (hn:n<=1000):Lu (n:Int) (k:Int)=some (unV n k):=by
 unfold Lu;rw [So oM,obs,B0 oM,Int.toNat_natCast,Int.toNat_natCast,List.getElem?_replicate,if_pos hk,obs];rfl
theorem Acq (hn:n<=1000):Gw (n:Int)=some (idV n):=by
 unfold Gw
 have key:Aq (fun s_:Nat×List (List Int)=>E4 (n:Int) s_.1 s_.2) 4611686018427387904 (0,[])=some (idV n):=by
  refine A7 n (fun k=>(k,(List.range k).map (unV n))) oM _ rfl (fun k hk=>?_) ?_
  ·try dsimp only
   unfold E4;rw [Av oM,cond_true,An7 hk hn,obs,Af (by simp;omega),Af oM,List.range_succ,List.map_append];rfl
  ·try dsimp only
   unfold E4;rw [At oM,cond_false];rfl
 rw [key,obs]
theorem Ab8 {k:Nat} (hp:2<=p):VecW p n (unV n k):=⟨by simp [unV],fun a ha=>by
 rcases List.mem_or_eq_of_mem_set ha with ha|rfl
 ·obtain rfl:=(List.mem_replicate.1 ha).2;omega
 ·omega⟩
theorem Am0 {k j:Nat} (hk:k<n):(unV n k).getD j 0=if j=k then 1 else 0:=by
 unfold unV;rw [U6 (by simpa using hk)];by_cases e:k=j
 ·rw [if_pos e,if_pos e.symm]
 ·rw [if_neg e,if_neg (Ne.symm e),gDg,List.getElem?_replicate];split <;> rfl
def wiV (m:List (List Int)) (n:Nat):List (List Int):=(List.range n).map fun j=>(m.map fun x=>x.getD j 0)++unV n j
theorem Aqu (hp:isF p=true) (hm:MatW p n m) (hn:n<=1000) (hl:m.length<=1000):Ks p (trV m n) (m.length:Int)=some (Oo p n m):=by
 have hb:=Cx hp;have hwl:(wiV m n).length=n:=by simp [wiV]
 have hcol:∀ j,VecW p m.length (m.map fun x=>x.getD j 0):=fun j=>⟨by simp,fun a ha=>by
  obtain ⟨x,hx,rfl⟩:=List.mem_map.1 ha;by_cases hj:j<n
  ·obtain ⟨q1,q2,_⟩:=Dc (hm x hx) hj;exact ⟨q1,q2⟩
  ·have:=(hm x hx).1;rw [gDg,List.getElem?_eq_none oM];simp;omega⟩
 have hW:MatW p (m.length+n) (wiV m n):=fun x hx=>by
  obtain ⟨j,_,rfl⟩:=List.mem_map.1 hx;refine ⟨by rw [List.length_append,(hcol j).1,(Ab8 (k:=j) (n:=n) hb.1).1],fun a ha=>?_⟩;rcases List.mem_append.1 ha with ha|ha
  ·exact (hcol j).2 a ha
  ·exact (Ab8 hb.1).2 a ha
 have e1:rdW m.length (wiV m n)=trV m n:=by
  unfold rdW wiV trV;rw [List.map_map];exact List.map_congr_left fun j _=>List.take_left' (by simp)
 have e2:alW m.length (wiV m n)=idV n:=by
  unfold alW wiV idV;rw [List.map_map];exact List.map_congr_left fun j _=>List.drop_left' (by simp)
 obtain ⟨g1,g2,g3⟩:=Nf hb.1 hW m.length;have hred:=Aar hp hW (Nat.le_refl m.length) (show m.length<=m.length+n by omega) oM oM;rw [e1,e2] at hred
 have hmat:MatW p n (((gjT p (wiV m n) m.length).2.drop (gjT p (wiV m n) m.length).1).map (·.drop m.length)):=fun x hx=>by
  obtain ⟨y,hy,rfl⟩:=List.mem_map.1 hx;have:=(g1 y (List.mem_of_mem_drop hy)).dr (u:=m.length)
  rwa [Nat.add_sub_cancel_left] at this
 have hdr:(alW m.length (gjT p (wiV m n) m.length).2).drop (gjT p (wiV m n) m.length).1=((gjT p (wiV m n) m.length).2.drop (gjT p (wiV m n) m.length).1).map (·.drop m.length):=by
  unfold alW;rw [List.map_drop]
 have htm:MatW p m.length (trV m n):=fun x hx=>by
  obtain ⟨j,_,rfl⟩:=List.mem_map.1 hx;exact hcol j
 have htl:(trV m n).length=n:=by simp [trV]
 have hil:(idV n).length=n:=by simp [idV]
 have key:gj p n (((gjT p (wiV m n) m.length).2.drop (gjT p (wiV m n) m.length).1).map (·.drop m.length))=Oo p n m:=by
  refine Avs hb.1 (Aeu hp) hmat (Uu hb.1) fun f=>?_
  refine (Aqf (A:=m) hb.1 (Aeu hp) hW hwl rfl (fun t ht i hi=>?_) fun t ht j hj=>?_).trans (Arf hp hm).symm
  ·unfold en;have h1:(wiV m n)[t]? =some ((m.map fun x=>x.getD t 0)++unV n t):=by simp [wiV,ht]
   rw [Bm h1,gDg,List.getElem?_append_left (by simpa using hi),List.getElem?_map,gEg hi,Bm (m:=m) (gEg hi)];rfl
  ·unfold en;have h1:(wiV m n)[t]? =some ((m.map fun x=>x.getD t 0)++unV n t):=by simp [wiV,ht]
   rw [Bm h1,gDg,List.getElem?_append_right (by simp),List.length_map,Nat.add_sub_cancel_left,← gDg,Am0 ht]
 unfold Ks;rw [Aef htm oM oM,obs,htl,Acq hn,obs,hred,obs];have a1:(rdW m.length (gjT p (wiV m n) m.length).2).length=n:=by simp only [rdW,List.length_map];omega
 have a2:(alW m.length (gjT p (wiV m n) m.length).2).length=(idV n).length:=by simp only [alW,List.length_map];omega
 dsimp only;rw [Af a1,Af a2,Af oM,hdr,Zb hp hmat oM (by simp;omega),obs,key]
theorem Azu (hm:MatW p n m):trV (trV m n) m.length=m:=by
 refine List.ext_getElem (by simp [trV]) fun i h1 h2=>?_
 have hx:=hm _ (List.getElem_mem h2);simp only [trV,List.getElem_map,List.getElem_range,List.map_map];refine List.ext_getElem (by simp [hx.1]) fun j h3 h4=>?_
 simp only [List.length_map,List.length_range] at h3;simp only [List.getElem_map,List.getElem_range,Function.comp_apply,gDg,List.getElem?_map,gEg h2,gEg h4,Option.map_some,Option.getD_some]
theorem Ay4 (hm:MatW p n m):MatW p m.length (trV m n):=fun x hx=>by
 obtain ⟨j,hj,rfl⟩:=List.mem_map.1 hx;refine ⟨by simp,fun a ha=>?_⟩;obtain ⟨y,hy,rfl⟩:=List.mem_map.1 ha;have:=Dc (hm y hy) (List.mem_range.1 hj);exact ⟨this.1,this.2.1⟩
theorem Ar1:(trV m n).length=n:=by simp [trV]
theorem Ar6 (hp:isF p=true) (hm:MatW p n m) (hn:n<=1000) (hl:m.length<=1000):Ks p m (n:Int)=some (Oo p m.length (trV m n)):=by
 have:=Aqu (m:=trV m n) (n:=m.length) hp (Ay4 hm) hl (by rw [Ar1];exact hn)
 rwa [Azu hm,Ar1] at this
end
end
end Go.Proofs.YtmmjoepagfcgcaaGreatDoor
