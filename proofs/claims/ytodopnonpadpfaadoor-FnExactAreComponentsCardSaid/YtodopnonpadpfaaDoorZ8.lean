/- Lemmas on the program and on partial functions that stand in place of its code (part 8); no condition beyond those that each one states. -/
import Derived.Test.YtodopnonpadpfaaDoorZ7
import Derived.Deep.RegionHeld3
namespace Go.Proofs.YtodopnonpadpfaaDoor
section
def Abj (p:Int) (xs:List Nd):Bool:=xs.all fun n=> !((n.1==7||n.1==13)&&decide (p<=n.2.1))
def Aqp (xs:List Nd):Bool:=xs.all fun n=> !(n.1==8||n.1==14)
theorem Aou (xs:List Nd) (p:Int) (hx:xs.length<=1073741824):Dm xs p=some (isF p&&((tyV xs).isSome&&Abj p xs)):=by
 unfold Dm Ej;obtain ⟨r,hr,hm⟩:=Al1 xs;rw [show Dr p=some (isF p) from rfl,obs,hr];cases hp:isF p
 ·rfl
 have e:r.2.2=(tyV xs).isSome:=by
  cases ht:tyV xs with
  | none=>rw [ht] at hm; exact hm
  | some w=>rw [ht] at hm; dsimp only at hm; rw [hm]; rfl
 rw [Bool.not_true,cond_false,obs,obs,obs,e,Bool.true_and];cases (tyV xs).isSome
 ·rfl
 rw [Bool.not_true,cond_false,Bool.true_and]
 have key:A7 (fun s_:Nat=>Ci xs p s_) 4611686018427387904 0=some (if Abj p xs then Ctl.next () else Ctl.out false):=by
  refine Fv xs (fun n=> !((n.1==7||n.1==13)&&decide (p<=n.2.1))) (Ctl.next ()) (Ctl.out false) (by omega) (fun i n h=>?_) ?_
  ·have:=Au h;unfold Ci Dy;rw [Bd (by omega),cond_true,h,obs,As (by omega)];cases n.1==7 <;> cases n.1==13 <;> cases decide (p<=n.2.1) <;> rfl
  ·unfold Ci;rw [Ba (by omega),cond_false]
 rw [key,Jy]
theorem Akk (xs:List Nd) (p:Int) (hx:xs.length<=1073741824):Cw xs p=some ((isF p&&((tyV xs).isSome&&Abj p xs))&&Aqp xs):=by
 unfold Cw;rw [Aou xs p hx,obs];cases isF p&&((tyV xs).isSome&&Abj p xs)
 ·rfl
 rw [Bool.not_true,cond_false,Bool.true_and]
 have key:A7 (fun s_:Nat=>B8 xs s_) 4611686018427387904 0=some (if Aqp xs then Ctl.next () else Ctl.out false):=by
  refine Fv xs (fun n=> !(n.1==8||n.1==14)) (Ctl.next ()) (Ctl.out false) (by omega) (fun i n h=>?_) ?_
  ·have:=Au h;unfold B8 Hy;rw [Bd (by omega),cond_true,h,obs,As (by omega)];cases n.1==8 <;> cases n.1==14 <;> rfl
  ·unfold B8;rw [Ba (by omega),cond_false]
 rw [key,Jy]
theorem Aoj (xs:List Nd) (p:Int) (hx:xs.length<=1073741824):Hg p xs=some ((tyV xs).isSome&&(isF p&&Abj p xs)):=by
 unfold Hg;obtain ⟨F,I,O,b,h,hm⟩:=Aj1 xs
 have e:b=(tyV xs).isSome:=by
  cases ht:tyV xs with
  | none=>rw [ht] at hm; exact hm
  | some w=>rw [ht] at hm; exact hm.1
 rw [h,obs,Abv,e];cases (tyV xs).isSome
 ·rfl
 rw [Bool.not_true,cond_false,obs,obs];cases hp:isF p
 ·rfl
 rw [Bool.not_true,cond_false,Bool.true_and,Bool.true_and]
 have key:A7 (fun s_:Nat=>Eo xs p s_) 4611686018427387904 0=some (if Abj p xs then Ctl.next () else Ctl.out false):=by
  refine Fv xs (fun n=> !((n.1==7||n.1==13)&&decide (p<=n.2.1))) (Ctl.next ()) (Ctl.out false) (by omega) (fun i n h=>?_) ?_
  ·have:=Au h;unfold Eo;rw [Bd (by omega),cond_true,h,obs,As (by omega)];cases n.1==7 <;> cases n.1==13 <;> cases decide (p<=n.2.1) <;> rfl
  ·unfold Eo;rw [Ba (by omega),cond_false]
 rw [key,Jy]
theorem Akl (xs:List Nd) (hx:xs.length<=1073741824):D4 xs=some (Aqp xs):=by
 unfold D4
 have key:A7 (fun s_:Nat=>Cy xs s_) 4611686018427387904 0=some (if Aqp xs then Ctl.next () else Ctl.out false):=by
  refine Fv xs (fun n=> !(n.1==8||n.1==14)) (Ctl.next ()) (Ctl.out false) (by omega) (fun i n h=>?_) ?_
  ·have:=Au h;unfold Cy F2;rw [Bd (by omega),cond_true,h,obs,As (by omega)];rw [show (n.1 !=8)= !(n.1==8) from rfl,show (n.1 !=14)= !(n.1==14) from rfl];cases n.1==8 <;> cases n.1==14 <;> rfl
  ·unfold Cy;rw [Ba (by omega),cond_false]
 rw [key,Jy]
theorem Auv (p:Int) (s:ByteArray) (xs:List Nd) (l r:Int) (b:List (List Int)) (hx:xs.length<=1073741824) (hb:b.length<=1048576) (hr:Hu 1048576 b):∃ v,Eh p s xs l r b=some v∧Co p s xs l r b=some v:=by
 unfold Eh Co;obtain ⟨nm,n1,n2⟩:=Atc s;obtain ⟨q,hq,hm⟩:=Al1 xs;rw [Aof,obs,n1,n2,obs,Akk xs p hx,Aoj xs p hx,Akl xs hx,Ap1 p l r b hb hr,Af9 p l r b hb hr,hq];cases ht:tyV xs with
 | none =>
  refine ⟨false,rfl,?_⟩;cases nm
  ·rfl
  rw [Option.isSome_none,Bool.false_and,Bool.and_false,Bool.false_and]; rfl
 | some w =>
  rw [ht] at hm;dsimp only at hm;subst hm;rw [Option.isSome_some,Bool.true_and];dsimp only;cases nm
  ·exact ⟨false,rfl,rfl⟩
  generalize isF p=a1;generalize Abj p xs=a2;generalize Aqp xs=a3;generalize Aj0 p l r b=a4
  have e:([w.1,w.2]==[l,r])=cond (l==w.1) (r==w.2) false:=by
   have c1:(w.1==l)=(l==w.1):=Bool.beq_comm;have c2:(w.2==r)=(r==w.2):=Bool.beq_comm;show (w.1==l&&(w.2==r&&(([]:List Int)==[])))=_;rw [c1,c2];cases l==w.1 <;> cases r==w.2 <;> rfl
  simp only [obs,e];cases a1 <;> cases a2 <;> cases a3 <;> cases a4 <;> cases l==w.1 <;> cases r==w.2 <;> exact ⟨_,rfl,rfl⟩
-- copies and comparisons
theorem Anu (xs:List Nd) (hx:xs.length<=1073741824):F7 xs=some xs:=by
 unfold F7;rw [As (by omega)]
 have h:A7 (fun s_:Nat×List Nd=>Ea xs s_.1 s_.2) 4611686018427387904 (0,List.replicate xs.length ((0,0,(⟨#[]⟩:ByteArray)):Nd))=some xs:=by
  refine Cn xs.length (fun i=>(i,xs.take i++List.replicate (xs.length - i) ((0,0,(⟨#[]⟩:ByteArray)):Nd))) (by omega) xs (by simp) (fun i hi=>?_) ?_
  ·have hx:=gEg hi
   try dsimp only
   unfold Ea Ix;rw [Bd (by omega),cond_true,hx,obs,obs,Qj hi,obs,As (by omega),Qf hx]
  ·try dsimp only
   unfold Ea;rw [Ba (by omega),cond_false];simp
 rw [h]; rfl
theorem An6 (xs:List Nd) (hx:xs.length<=1073741824):Gc xs xs=some true:=by
 unfold Gc;rw [bne_self_eq_false,cond_false]
 have h:A7 (fun s_:Nat=>D6 xs xs s_) 4611686018427387904 0=some (Ctl.next ()):=by
  refine Cn xs.length (fun i=>i) (by omega) _ rfl (fun i hi=>?_) ?_
  ·have hx:=gEg hi
   try dsimp only
   unfold D6 Ir;rw [Bd (by omega),cond_true,hx,obs,obs,bne_self_eq_false,cond_false,bne_self_eq_false,cond_false,beq_self_eq_true,Bool.not_true,cond_false,obs,Bool.not_true,cond_false,As (by omega)]
  ·try dsimp only
   unfold D6;rw [Ba (by omega),cond_false]
 rw [h]; rfl
theorem Am7 (xs:List Nd) {v:Int} (hv:0<=v∧v<=1048576) (hx:xs.length<=9223372036854775807) (hs:∀ n∈xs,n.2.2.size<=9223372036854775807):∃ y,Gd xs v=some y∧(y<0∨(0<=y∧y<=v∧((xs.length:Nat):Int)<=v)):=by
 unfold Gd;rw [B4 (n:=v - ((xs.length:Nat):Int)) (by omega) (by omega)];by_cases h:v - ((xs.length:Nat):Int)<0
 ·rw [Bd h]; exact ⟨_,rfl,.inl (by omega)⟩
 rw [Ba h,cond_false]
 have key:∃ c,A7 (fun s_:Int×Nat=>Ec xs s_.1 s_.2) 4611686018427387904 (v - ((xs.length:Nat):Int),0)=some c∧((∃ y,c=Ctl.next y∧0<=y∧y<=v)∨∃ y,c=Ctl.out y∧y<0):=by
  refine Ki (Post:=fun c=>(∃ y,c=Ctl.next y∧0<=y∧y<=v)∨∃ y,c=Ctl.out y∧y<0) xs.length (fun k s=>s.2=k∧0<=s.1∧s.1<=v) (by omega) ⟨rfl,by dsimp only; omega,by dsimp only; omega⟩ ?_ ?_
  ·rintro k ⟨y,k'⟩ hk ⟨h1,h2,h3⟩;dsimp only at h1 h2 h3;subst h1;have hn:=gEg hk;have hz:=hs _ (List.getElem_mem hk)
   try dsimp only
   unfold Ec Is;rw [Bd (by omega),cond_true,hn,obs,B4 (n:=y - ((xs[k'].2.2.size:Nat):Int)) (by omega) (by omega)];by_cases h4:y - ((xs[k'].2.2.size:Nat):Int)<0
   ·rw [Bd h4];exact .inr ⟨_,rfl,.inr ⟨_,rfl,by omega⟩⟩
   ·rw [Ba h4,cond_false,obs,Ba h4,cond_false,As (by omega)];exact .inl ⟨_,rfl,rfl,by dsimp only; omega,by dsimp only; omega⟩
  ·rintro ⟨y,k'⟩ ⟨h1,h2,h3⟩;dsimp only at h1 h2 h3;subst h1
   try dsimp only
   unfold Ec;rw [Ba (by omega),cond_false];exact ⟨_,rfl,.inl ⟨_,rfl,h2,h3⟩⟩
 obtain ⟨c,hc,⟨y,rfl,h1,h2⟩ | ⟨y,rfl,h1⟩⟩:=key
 ·rw [hc]; exact ⟨_,rfl,.inr ⟨h1,h2,by omega⟩⟩
 ·rw [hc]; exact ⟨_,rfl,.inl h1⟩
theorem Acm (s:ByteArray) (xs:List Nd) (l r:Int) (b:List (List Int)) {v:Int} (hv:0<=v∧v<=1048576) (h0:s.size<=9223372036854775807) (hx:xs.length<=9223372036854775807) (hs:∀ n∈xs,n.2.2.size<=9223372036854775807) (hb:b.length<=9223372036854775807) (hr:Hu 9223372036854775807 b) :
  ∃ y,Dh s xs l r b v=some y∧(y<0∨(0<=y∧y<=v∧xs.length<=1048576∧b.length<=1048576∧Hu 1048576 b)):=by
 unfold Dh It;rw [B4 (n:=v - ((s.size:Nat):Int)) (by omega) (by omega)];by_cases h:v - ((s.size:Nat):Int)<0
 ·rw [Bd h]; exact ⟨_,rfl,.inl (by omega)⟩
 rw [Ba h,cond_false];obtain ⟨y,hy,h1 | ⟨h1,h2,h3⟩⟩:=Am7 xs (v:=v - ((s.size:Nat):Int)) (by omega) hx hs
 ·rw [hy,obs,Bd h1]; exact ⟨_,rfl,.inl (by omega)⟩
 ·rw [hy,obs,Ba (by omega),cond_false,obs,Ba (by omega),cond_false,Agz l r b (by omega) hb hr,obs];by_cases h4:szW y b<0
  ·rw [Bd h4]; exact ⟨_,rfl,.inl (by omega)⟩
  ·obtain ⟨g1,g2,g3⟩:=Ate (by omega) h4;rw [Ba h4];exact ⟨_,rfl,.inr ⟨by omega,by omega,by omega,by omega,g2⟩⟩
theorem Add (s:ByteArray) (xs:List Nd) (l r:Int) (b:List (List Int)) (hx:xs.length<=1048576) (hb:b.length<=1048576) (hr:Hu 1048576 b):Dj s xs l r b=some (s,xs,l,r,b):=by
 unfold Dj Iy;rw [Anu xs (by omega),Agd l r b hb hr]; rfl
theorem Acs (s:ByteArray) (xs:List Nd) (l r:Int) (b:List (List Int)) (hx:xs.length<=1048576) (hb:b.length<=1048576) (hr:Hu 1048576 b):Dp s xs l r b s xs l r b=some true:=by
 unfold Dp Iv;rw [An6 xs (by omega),Ah0 l r b hb hr,beq_self_eq_true]; rfl
end
section
open Go.RowKit Go.Deep
set_option maxRecDepth 4000
def H0:AC :=
 (.seq (.seq (rg [xo 12 (qm (tm 5)),xo 13 (qm (tm 0)),xo 14 (.i (.len (tm 13))),xo 15 (qb .lss (tm 12) (tm 14))])
 (.cond (tm 15)
  .skip
  (.exit 0)))
 (.seq (.block 1 (.seq (rg [xo 18 (qm (tm 0)),xo 19 (qm (tm 5)),xo 20 (qx 5 (tm 18) (tm 19)),xo 21 (.i (.ld false 5 (tm 20))),xo 22 (qm (tm 1)),⟨some 23,none,qc 5 [tm 21,tm 22] [[none,some (.pair .int (.pair .int .str)),none,none,some (.slice .int)],[]]⟩,xo 1 (qm (tm 23))])
 (.seq (rg [xo 24 (qm (tm 1)),xo 25 (qb .lss (tm 24) (ci 0))])
 (.cond (tm 25)
  (.seq (rg [xo 4 (qm (ci (-1)))])
  .ret)
  .skip))))
 (rg [xo 16 (qm (tm 5)),xo 17 (qb .add (tm 16) (ci 1)),xo 5 (qm (tm 17))])))
def Jk:AC :=
 (.seq (rg [xo 4 (qm (ci 0))])
 (.seq (rg [xo 6 (qm (tm 1)),xo 7 (qm (tm 0)),xo 8 (.i (.len (tm 7))),xo 9 (qb .sub (tm 6) (tm 8)),xo 1 (qm (tm 9))])
 (.seq (.seq (rg [xo 10 (qm (tm 1)),xo 11 (qb .lss (tm 10) (ci 0))])
 (.cond (tm 11)
  (.seq (rg [xo 4 (qm (ci (-1)))])
  .ret)
  .skip))
 (.seq (.seq (rg [xo 5 (qm (ci 0))])
 (.block 0 (.loop H0)))
 (.seq (rg [xo 26 (qm (tm 1)),xo 4 (qm (tm 26))])
 .ret)))))
def Qs:List Res:=[.tmp 4]
theorem Qv:Am Tryd.prog Tryd.f10=some (Jk,Qs):=by kernel_rfl
def Cd (a0:List (ByteArray×(List (Int×Int×ByteArray))×Int×Int×List (List Int))) (l9_m1:Int) (l9_m5:Nat):Option (Ctl (Int×Nat) (Ctl Int Int)) :=
 cond (decide (((l9_m5:Nat):Int)<((a0.length:Nat):Int)))
 (Option.bind (a0[l9_m5]?) fun x15 =>
 Option.bind (Dh x15.1 x15.2.1 x15.2.2.1 x15.2.2.2.1 x15.2.2.2.2 l9_m1) fun y16 =>
 cond (decide (y16<0))
  (some (Ctl.out (Ctl.out (-1))))
  (og (l9_m5+1<4611686018427387904) <|
  some (Ctl.next (y16,l9_m5+1))))
 (some (Ctl.out (Ctl.next l9_m1)))
def C4 (a0:List (ByteArray×(List (Int×Int×ByteArray))×Int×Int×List (List Int))) (a1:Int):Option Int :=
 cond (decide (wI (a1 - ((a0.length:Nat):Int))<0))
 (some (-1))
 (Du (A7 (fun s_:Int×Nat=>Cd a0 s_.1 s_.2) 4611686018427387904 (wI (a1 - ((a0.length:Nat):Int)),0)) fun l7_m1 =>
 some l7_m1)
def Pb (r:Int):RV:=⟨false,[(false,[.sc (.int .i64 r)])]⟩
theorem P1 {a0:List (ByteArray×(List (Int×Int×ByteArray))×Int×Int×List (List Int))} {a1:Int} {r:Int} (h:C4 a0 a1=some r):Aw Tryd.prog Tab 10 [.tree (.pair .str (.pair (.slice (.pair .int (.pair .int .str))) (.pair .int (.pair .int (.slice (.slice .int)))))) a0,ai a1] (Pb r):=by
 refine At (by kernel_rfl) Tryd.func10 Qv (n:=27) (by kernel_rfl) (by simp) (tl:=[(0,.tree (.pair .str (.pair (.slice (.pair .int (.pair .int .str))) (.pair .int (.pair .int (.slice (.slice .int)))))) a0),(1,ai a1)]) rfl ?_;unfold Jk;unfold C4 at h;refine Ak ?_;refine Ak ?_;refine Ab ?_;refine Ak ?_;rcases Ad h with ⟨q5,h⟩ | ⟨q5,h⟩
 ·have q5_:=of_decide_eq_true q5;refine Af q5 ?_;refine Ak ?_;refine Ah (tr_ ?_);obtain rfl:=zj h;exact A3 [ai (-1)] (Aq rfl zl Ar)
 have q5_:=of_decide_eq_false q5;refine Ae q5 ?_;refine Ai (tn_ ?_);refine wr_ ?_;refine Bj h (fun (l7_m1:Int) S_=>S_=⟨An [(1,ai l7_m1)],Aj (Ap []),2⟩) ?_ ?_
 ·intro v_ h hk7;refine Ak ?_;refine Al ?_;refine A6 h (fun t_ S_=>∃ (l9_m1:Int),∃ (l9_m5:Nat),t_=(l9_m1,l9_m5)∧S_=⟨An [(0,.tree (.pair .str (.pair (.slice (.pair .int (.pair .int .str))) (.pair .int (.pair .int (.slice (.slice .int)))))) a0),(1,ai l9_m1),(5,ai ((l9_m5:Nat):Int))],Aj (Ap []),2⟩) ⟨_,Ac [],⟨wI (a1 - ((a0.length:Nat):Int)),0,rfl,rfl⟩⟩ ?_;rintro n_ _ _ c_ ⟨l9_m1,l9_m5,rfl,rfl⟩ h hn9
  (try dsimp only at h);unfold Cd at h;unfold H0;refine Ab ?_;refine Ak ?_;rcases Ad h with ⟨q12,h⟩ | ⟨q12,h⟩
  ·have q12_:=of_decide_eq_true q12;refine Af q12 ?_;refine Ai (tn_ ?_);refine wr_ ?_;refine Ab ?_;refine Al ?_;refine Ab ?_;obtain ⟨x15,e15,h⟩:=Ag h;obtain ⟨y16,h16,h⟩:=Ag h;refine Aa 13 ?_;refine rz0 (.tree (.pair .str (.pair (.slice (.pair .int (.pair .int .str))) (.pair .int (.pair .int (.slice (.slice .int)))))) a0) ?_;refine rz0 (ai ((l9_m5:Nat):Int)) ?_;refine rs0 (.telt none (.pair .str (.pair (.slice (.pair .int (.pair .int .str))) (.pair .int (.pair .int (.slice (.slice .int)))))) x15 0) (zi (t:=.pair .str (.pair (.slice (.pair .int (.pair .int .str))) (.pair .int (.pair .int (.slice (.slice .int)))))) (xs:=a0) (k:=.i64) (m:=((l9_m5:Nat):Int)) (Ay _) e15) ?_;refine rz0 (.agg [.str x15.1,.tree (.pair .int (.pair .int .str)) x15.2.1,ai x15.2.2.1,ai x15.2.2.2.1,.tree (.slice .int) x15.2.2.2.2]) ?_;refine rz0 (ai l9_m1) ?_;refine zc (ai y16) [] [.agg [.str x15.1,.tree (.pair .int (.pair .int .str)) x15.2.1,ai x15.2.2.1,ai x15.2.2.2.1,.tree (.slice .int) x15.2.2.2.2],ai l9_m1] (Qn h16) ?_;refine rsB 1 ?_;refine Ao (tn_ ?_);refine wr_ ?_;refine Ak ?_;rcases Ad h with ⟨q18,h⟩ | ⟨q18,h⟩
   ·have q18_:=of_decide_eq_true q18;refine Af q18 ?_;refine Ak ?_;refine Ah (br_ (tr_ (tr_ (br_ (tr_ ?_)))));obtain rfl:=zj h;have h:=hn9
    (try dsimp only at h);obtain rfl:=zj h;have h:=hk7
    (try dsimp only at h);obtain rfl:=zj h;exact A3 [ai (-1)] (Aq rfl zl Ar)
   have q18_:=of_decide_eq_false q18;refine Ae q18 ?_;refine Ai (bn_ (tn_ ?_));refine wr_ ?_;obtain ⟨g20,h⟩:=Av h;refine Aa 18 ?_;refine rz0 (ai ((l9_m5:Nat):Int)) ?_;refine rs0 (ai ((l9_m5+1:Nat):Int)) (za g20) ?_;refine rsB 1 ?_;refine Ao (tn_ ?_);obtain rfl:=zj h;exact ⟨(y16,l9_m5+1),_,Ac [],⟨y16,l9_m5+1,rfl,rfl⟩,hn9⟩
  have q12_:=of_decide_eq_false q12;refine Ae q12 ?_;refine Az (te_ (te_ (be_ (tn_ ?_))));obtain rfl:=zj h;have h:=hn9
  (try dsimp only at h);obtain rfl:=zj h;exact ⟨l9_m1,_,rfl,Ac [],rfl⟩
 rintro l7_m1 _ rfl h
 (try dsimp only at h);refine Ak ?_;refine Ah ?_;obtain rfl:=zj h;exact A3 [ai l7_m1] (Aq rfl zl Ar)
def Hx:AC :=
 (.seq (.seq (rg [xo 8 (qm (tm 4)),xo 9 (qm (tm 0)),xo 10 (.i (.len (tm 9))),xo 11 (qb .lss (tm 8) (tm 10))])
 (.cond (tm 11)
  .skip
  (.exit 0)))
 (.seq (.block 1 (rg [xo 14 (qm (tm 3)),xo 15 (qm (tm 4)),xo 16 (qm (tm 0)),xo 17 (qm (tm 4)),xo 18 (qx 5 (tm 16) (tm 17)),xo 19 (.i (.ld false 5 (tm 18))),⟨some 20,none,qc 7 [tm 19] [[none,some (.pair .int (.pair .int .str)),none,none,some (.slice .int)]]⟩,xo 21 (qx 5 (tm 14) (tm 15)),xn (.st false 5 (tm 21) (tm 20))]))
 (rg [xo 12 (qm (tm 4)),xo 13 (qb .add (tm 12) (ci 1)),xo 4 (qm (tm 13))])))
def Js:AC :=
 (.seq (rg [xo 2 (qm (.cst .nils))])
 (.seq (rg [xo 5 (qm (tm 0)),xo 6 (.i (.len (tm 5))),⟨some 7,none,.makeV 37 (.pair .str (.pair (.slice (.pair .int (.pair .int .str))) (.pair .int (.pair .int (.slice (.slice .int)))))) 80 [.str ⟨#[]⟩,.nils,.int .i64 0,.int .i64 0,.nils] (tm 6) (tm 6)⟩,xo 3 (qm (tm 7))])
 (.seq (.seq (rg [xo 4 (qm (ci 0))])
 (.block 0 (.loop Hx)))
 (.seq (rg [xo 22 (qm (tm 3)),xo 2 (qm (tm 22))])
 .ret))))
def Qp:List Res:=[.tmp 2]
theorem Q6:Am Tryd.prog Tryd.f12=some (Js,Qp):=by kernel_rfl
def Cb (a0:List (ByteArray×(List (Int×Int×ByteArray))×Int×Int×List (List Int))) (l6_m4:Nat) (l6_m3:List (ByteArray×(List (Int×Int×ByteArray))×Int×Int×List (List Int))):Option (Ctl (Nat×(List (ByteArray×(List (Int×Int×ByteArray))×Int×Int×List (List Int)))) (List (ByteArray×(List (Int×Int×ByteArray))×Int×Int×List (List Int)))) :=
 cond (decide (((l6_m4:Nat):Int)<((a0.length:Nat):Int)))
 (Option.bind (a0[l6_m4]?) fun x11 =>
 Option.bind (Dj x11.1 x11.2.1 x11.2.2.1 x11.2.2.2.1 x11.2.2.2.2) fun y12 =>
 Option.bind (l6_m3[l6_m4]?) fun x13 =>
 og (l6_m4+1<4611686018427387904) <|
 some (Ctl.next (l6_m4+1,l6_m3.set l6_m4 y12)))
 (some (Ctl.out l6_m3))
def Bw (a0:List (ByteArray×(List (Int×Int×ByteArray))×Int×Int×List (List Int))):Option (List (ByteArray×(List (Int×Int×ByteArray))×Int×Int×List (List Int))) :=
 og (0<=((a0.length:Nat):Int)∧((a0.length:Nat):Int)<=((a0.length:Nat):Int)∧((a0.length:Nat):Int)<=1073741824∧(80:Int)*((a0.length:Nat):Int)<=140737488355328) <|
Option.bind (A7 (fun s_:Nat×(List (ByteArray×(List (Int×Int×ByteArray))×Int×Int×List (List Int)))=>Cb a0 s_.1 s_.2) 4611686018427387904 (0,List.replicate a0.length (Ty.dflt (.pair .str (.pair (.slice (.pair .int (.pair .int .str))) (.pair .int (.pair .int (.slice (.slice .int))))))))) fun l4_m3 =>
some l4_m3
def P5 (r:List (ByteArray×(List (Int×Int×ByteArray))×Int×Int×List (List Int))):RV:=⟨false,[(false,[.frz (.tree (.pair .str (.pair (.slice (.pair .int (.pair .int .str))) (.pair .int (.pair .int (.slice (.slice .int)))))) r)])]⟩
theorem Gi {a0:List (ByteArray×(List (Int×Int×ByteArray))×Int×Int×List (List Int))} {r:List (ByteArray×(List (Int×Int×ByteArray))×Int×Int×List (List Int))} (h:Bw a0=some r):Aw Tryd.prog Tab 12 [.tree (.pair .str (.pair (.slice (.pair .int (.pair .int .str))) (.pair .int (.pair .int (.slice (.slice .int)))))) a0] (P5 r):=by
 refine Ajx (by kernel_rfl) Tryd.func12 Q6 (n:=23) (by kernel_rfl) (by simp) (tl:=[(0,.tree (.pair .str (.pair (.slice (.pair .int (.pair .int .str))) (.pair .int (.pair .int (.slice (.slice .int)))))) a0)]) rfl fun zn_ nz_ hz_=>?_
 unfold Js;unfold Bw at h;refine Ak ?_;refine Ab ?_;obtain ⟨g3,h⟩:=Av h;refine Aa 6 ?_;refine rz0 (.tree (.pair .str (.pair (.slice (.pair .int (.pair .int .str))) (.pair .int (.pair .int (.slice (.slice .int)))))) a0) ?_;refine rz0 (ai ((a0.length:Nat):Int)) ?_;refine rs1 (.own (oi 7 4) (.pair .str (.pair (.slice (.pair .int (.pair .int .str))) (.pair .int (.pair .int (.slice (.slice .int)))))) 0 a0.length) (oi 7 4) (.vec 37 5 a0.length (Aac a0.length [.str (⟨#[]⟩:ByteArray),.nils,ai 0,ai 0,.nils])) (Ao5 (t:=.pair .str (.pair (.slice (.pair .int (.pair .int .str))) (.pair .int (.pair .int (.slice (.slice .int)))))) (k:=.i64) (k':=.i64) (m:=((a0.length:Nat):Int)) (c:=((a0.length:Nat):Int)) (j:=a0.length) (by kernel_rfl) (by kernel_rfl) (by kernel_rfl) g3 rfl) ?_;refine rsB 1 ?_;refine Ao (tn_ ?_);refine ⟨_,An7 (n:=a0.length) (sz:=5) (zc:=[.str (⟨#[]⟩:ByteArray),.nils,ai 0,ai 0,.nils]) (oi 7 4) 37 (some nz_) (.pair .str (.pair (.slice (.pair .int (.pair .int .str))) (.pair .int (.pair .int (.slice (.slice .int)))))) (by kernel_rfl) (by kernel_rfl) (by kernel_rfl),?_⟩;refine Ax h (fun (l4_m3:List (ByteArray×(List (Int×Int×ByteArray))×Int×Int×List (List Int))) S_=>S_=⟨An [(3,.own (oi 0 1) (.pair .str (.pair (.slice (.pair .int (.pair .int .str))) (.pair .int (.pair .int (.slice (.slice .int)))))) 0 l4_m3.length)],Aj (Ap [(oi 0 1,.tv 37 (some nz_) (.pair .str (.pair (.slice (.pair .int (.pair .int .str))) (.pair .int (.pair .int (.slice (.slice .int)))))) l4_m3)]),2⟩) ?_ ?_
 ·intro v_ h;refine Ak ?_;refine Al ?_;refine A6 h (fun t_ S_=>∃ (l6_m4:Nat),∃ (l6_m3:List (ByteArray×(List (Int×Int×ByteArray))×Int×Int×List (List Int))),t_=(l6_m4,l6_m3)∧S_=⟨An [(0,.tree (.pair .str (.pair (.slice (.pair .int (.pair .int .str))) (.pair .int (.pair .int (.slice (.slice .int)))))) a0),(3,.own (oi 0 1) (.pair .str (.pair (.slice (.pair .int (.pair .int .str))) (.pair .int (.pair .int (.slice (.slice .int)))))) 0 l6_m3.length),(4,ai ((l6_m4:Nat):Int))],Aj (Ap [(oi 0 1,.tv 37 (some nz_) (.pair .str (.pair (.slice (.pair .int (.pair .int .str))) (.pair .int (.pair .int (.slice (.slice .int)))))) l6_m3)]),2⟩) ⟨_,(B1 3 (.own (oi 7 4) (.pair .str (.pair (.slice (.pair .int (.pair .int .str))) (.pair .int (.pair .int (.slice (.slice .int)))))) 0 a0.length) (.own (oi 7 4) (.pair .str (.pair (.slice (.pair .int (.pair .int .str))) (.pair .int (.pair .int (.slice (.slice .int)))))) 0 ((List.replicate a0.length (Ty.dflt (.pair .str (.pair (.slice (.pair .int (.pair .int .str))) (.pair .int (.pair .int (.slice (.slice .int)))))))).length)) (by kernel_rfl) (congrArg (fun z_=>((.own (oi 7 4) (.pair .str (.pair (.slice (.pair .int (.pair .int .str))) (.pair .int (.pair .int (.slice (.slice .int)))))) 0 z_):AV)) (List.length_replicate.symm:a0.length=(List.replicate a0.length (Ty.dflt (.pair .str (.pair (.slice (.pair .int (.pair .int .str))) (.pair .int (.pair .int (.slice (.slice .int)))))))).length))).trans (Ac [(oi 0 1,oi 7 4)]),⟨0,List.replicate a0.length (Ty.dflt (.pair .str (.pair (.slice (.pair .int (.pair .int .str))) (.pair .int (.pair .int (.slice (.slice .int))))))),rfl,rfl⟩⟩ ?_;rintro n_ _ _ c_ ⟨l6_m4,l6_m3,rfl,rfl⟩ h hn6
  (try dsimp only at h);unfold Cb at h;unfold Hx;refine Ab ?_;refine Ak ?_;rcases Ad h with ⟨q9,h⟩ | ⟨q9,h⟩
  ·have q9_:=of_decide_eq_true q9;refine Af q9 ?_;refine Ai (tn_ ?_);refine wr_ ?_;refine Ab ?_;refine Al ?_;obtain ⟨x11,e11,h⟩:=Ag h;obtain ⟨y12,h12,h⟩:=Ag h;obtain ⟨x13,e13,h⟩:=Ag h;refine Aa 15 ?_;refine rz0 (.own (oi 0 1) (.pair .str (.pair (.slice (.pair .int (.pair .int .str))) (.pair .int (.pair .int (.slice (.slice .int)))))) 0 l6_m3.length) ?_;refine rz0 (ai ((l6_m4:Nat):Int)) ?_;refine rz0 (.tree (.pair .str (.pair (.slice (.pair .int (.pair .int .str))) (.pair .int (.pair .int (.slice (.slice .int)))))) a0) ?_;refine rz0 (ai ((l6_m4:Nat):Int)) ?_;refine rs0 (.telt none (.pair .str (.pair (.slice (.pair .int (.pair .int .str))) (.pair .int (.pair .int (.slice (.slice .int)))))) x11 0) (zi (t:=.pair .str (.pair (.slice (.pair .int (.pair .int .str))) (.pair .int (.pair .int (.slice (.slice .int)))))) (xs:=a0) (k:=.i64) (m:=((l6_m4:Nat):Int)) (Ay _) e11) ?_;refine rz0 (.agg [.str x11.1,.tree (.pair .int (.pair .int .str)) x11.2.1,ai x11.2.2.1,ai x11.2.2.2.1,.tree (.slice .int) x11.2.2.2.2]) ?_;refine B3 (.agg [.str y12.1,.ftr nz_ (.pair .int (.pair .int .str)) y12.2.1,ai y12.2.2.1,ai y12.2.2.2.1,.ftr nz_ (.slice .int) y12.2.2.2.2]) [] [.agg [.str x11.1,.tree (.pair .int (.pair .int .str)) x11.2.1,ai x11.2.2.1,ai x11.2.2.2.1,.tree (.slice .int) x11.2.2.2.2]] _ (caps:=[]) (args0:=[.agg [.str x11.1,.tree (.pair .int (.pair .int .str)) x11.2.1,ai x11.2.2.1,ai x11.2.2.2.1,.tree (.slice .int) x11.2.2.2.2]]) trivial (by kernel_rfl) (Au5 hz_ (Qu h12)) Q2 ?_;refine rs0 (.elt (oi 0 1) l6_m4 0) (zo (t:=.pair .str (.pair (.slice (.pair .int (.pair .int .str))) (.pair .int (.pair .int (.slice (.slice .int)))))) (o:=oi 0 1) (len:=l6_m3.length) (k:=.i64) (m:=((l6_m4:Nat):Int)) (Ay _) (Au e13)) ?_;refine Ahf (oi 0 1) (oi 0 1) (.vec 37 5 l6_m3.length (tvC (some nz_) (.pair .str (.pair (.slice (.pair .int (.pair .int .str))) (.pair .int (.pair .int (.slice (.slice .int)))))) (l6_m3.set l6_m4 y12))) (Ava (k:=0) (j:=l6_m4) (N:=l6_m3.length) (o:=oi 0 1) (e1:=37) (t:=.pair .str (.pair (.slice (.pair .int (.pair .int .str))) (.pair .int (.pair .int (.slice (.slice .int)))))) (m:=some nz_) (xs:=l6_m3) (z:=x13) (z1:=y12) (by kernel_rfl) (by kernel_rfl) e13 (by kernel_rfl)) ?_;refine Ao (bn_ (tn_ ?_));refine ⟨_,Aid (N:=l6_m3.length) (oi 0 1) 37 (some nz_) (.pair .str (.pair (.slice (.pair .int (.pair .int .str))) (.pair .int (.pair .int (.slice (.slice .int)))))) (l6_m3.set l6_m4 y12) (by kernel_rfl) (Eq.trans (b:=l6_m3.length) rfl List.length_set.symm),?_⟩;obtain ⟨g14,h⟩:=Av h;refine Aa 18 ?_;refine rz0 (ai ((l6_m4:Nat):Int)) ?_;refine rs0 (ai ((l6_m4+1:Nat):Int)) (za g14) ?_;refine rsB 1 ?_;refine Ao (tn_ ?_);obtain rfl:=zj h;exact ⟨(l6_m4+1,l6_m3.set l6_m4 y12),_,(B1 3 (.own (oi 0 1) (.pair .str (.pair (.slice (.pair .int (.pair .int .str))) (.pair .int (.pair .int (.slice (.slice .int)))))) 0 l6_m3.length) (.own (oi 0 1) (.pair .str (.pair (.slice (.pair .int (.pair .int .str))) (.pair .int (.pair .int (.slice (.slice .int)))))) 0 ((l6_m3.set l6_m4 y12).length)) (by kernel_rfl) (congrArg (fun z_=>((.own (oi 0 1) (.pair .str (.pair (.slice (.pair .int (.pair .int .str))) (.pair .int (.pair .int (.slice (.slice .int)))))) 0 z_):AV)) ((Eq.trans (b:=l6_m3.length) rfl List.length_set.symm):l6_m3.length=(l6_m3.set l6_m4 y12).length))).trans (Ac []),⟨l6_m4+1,l6_m3.set l6_m4 y12,rfl,rfl⟩,hn6⟩
  have q9_:=of_decide_eq_false q9;refine Ae q9 ?_;refine Az (te_ (te_ (be_ (tn_ ?_))));obtain rfl:=zj h;have h:=hn6
  (try dsimp only at h);obtain rfl:=zj h;exact ⟨_,Ac [],rfl⟩
 rintro l4_m3 _ rfl h
 (try dsimp only at h);refine Ak ?_;refine Ah ?_;obtain rfl:=zj h;exact Aog [(false,[.own (oi 0 1) (.pair .str (.pair (.slice (.pair .int (.pair .int .str))) (.pair .int (.pair .int (.slice (.slice .int)))))) 0 l4_m3.length])] (Aqs (Ahj (.tv (e:=37) (by kernel_rfl) rfl)) Ak6)
def H1:AC :=
 (.seq (.seq (rg [xo 11 (qm (tm 5)),xo 12 (qm (tm 0)),xo 13 (.i (.len (tm 12))),xo 14 (qb .lss (tm 11) (tm 13))])
 (.cond (tm 14)
  .skip
  (.exit 0)))
 (.seq (.block 1 (.seq (.region [xo 17 (qm (tm 0)),xo 18 (qm (tm 5)),xo 19 (qx 5 (tm 17) (tm 18)),xo 20 (.i (.ld false 5 (tm 19))),xo 21 (qm (tm 1)),xo 22 (qm (tm 5)),xo 23 (qx 5 (tm 21) (tm 22)),xo 24 (.i (.ld false 5 (tm 23))),⟨some 25,none,qc 9 [tm 20,tm 24] [[none,some (.pair .int (.pair .int .str)),none,none,some (.slice .int)],[none,some (.pair .int (.pair .int .str)),none,none,some (.slice .int)]]⟩,xo 26 (.i (.not (tm 25)))] true [])
 (.cond (tm 26)
  (.seq (rg [xo 4 (qm (cb false))])
  .ret)
  .skip)))
 (rg [xo 15 (qm (tm 5)),xo 16 (qb .add (tm 15) (ci 1)),xo 5 (qm (tm 16))])))
def Jt:AC :=
 (.seq (rg [xo 4 (qm (cb false))])
 (.seq (.seq (rg [xo 6 (qm (tm 0)),xo 7 (.i (.len (tm 6))),xo 8 (qm (tm 1)),xo 9 (.i (.len (tm 8))),xo 10 (qb .neq (tm 7) (tm 9))])
 (.cond (tm 10)
  (.seq (rg [xo 4 (qm (cb false))])
  .ret)
  .skip))
 (.seq (.seq (rg [xo 5 (qm (ci 0))])
 (.block 0 (.loop H1)))
 (.seq (rg [xo 4 (qm (cb true))])
 .ret))))
def Qo:List Res:=[.tmp 4]
theorem Qt:Am Tryd.prog Tryd.f14=some (Jt,Qo):=by kernel_rfl
def Ce (a0:List (ByteArray×(List (Int×Int×ByteArray))×Int×Int×List (List Int))) (a1:List (ByteArray×(List (Int×Int×ByteArray))×Int×Int×List (List Int))) (l8_m5:Nat):Option (Ctl Nat (Ctl Unit Bool)) :=
 cond (decide (((l8_m5:Nat):Int)<((a0.length:Nat):Int)))
 (Option.bind (a0[l8_m5]?) fun x14 =>
 Option.bind (a1[l8_m5]?) fun x15 =>
 Option.bind (Dp x14.1 x14.2.1 x14.2.2.1 x14.2.2.2.1 x14.2.2.2.2 x15.1 x15.2.1 x15.2.2.1 x15.2.2.2.1 x15.2.2.2.2) fun y16 =>
 cond (!y16)
  (some (Ctl.out (Ctl.out false)))
  (og (l8_m5+1<4611686018427387904) <|
  some (Ctl.next (l8_m5+1))))
 (some (Ctl.out (Ctl.next ())))
def C6 (a0:List (ByteArray×(List (Int×Int×ByteArray))×Int×Int×List (List Int))) (a1:List (ByteArray×(List (Int×Int×ByteArray))×Int×Int×List (List Int))):Option Bool :=
 cond (((a0.length:Nat):Int) !=((a1.length:Nat):Int))
 (some false)
 (Du (A7 (fun s_:Nat=>Ce a0 a1 s_) 4611686018427387904 0) fun _ =>
 some true)
def P6 (r:Bool):RV:=⟨false,[(false,[.sc (.bool r)])]⟩
theorem On {a0:List (ByteArray×(List (Int×Int×ByteArray))×Int×Int×List (List Int))} {a1:List (ByteArray×(List (Int×Int×ByteArray))×Int×Int×List (List Int))} {r:Bool} (h:C6 a0 a1=some r):Aw Tryd.prog Tab 14 [.tree (.pair .str (.pair (.slice (.pair .int (.pair .int .str))) (.pair .int (.pair .int (.slice (.slice .int)))))) a0,.tree (.pair .str (.pair (.slice (.pair .int (.pair .int .str))) (.pair .int (.pair .int (.slice (.slice .int)))))) a1] (P6 r):=by
 refine At (by kernel_rfl) Tryd.func14 Qt (n:=27) (by kernel_rfl) (by simp) (tl:=[(0,.tree (.pair .str (.pair (.slice (.pair .int (.pair .int .str))) (.pair .int (.pair .int (.slice (.slice .int)))))) a0),(1,.tree (.pair .str (.pair (.slice (.pair .int (.pair .int .str))) (.pair .int (.pair .int (.slice (.slice .int)))))) a1)]) rfl ?_;unfold Jt;unfold C6 at h;refine Ak ?_;refine Ab ?_;refine Ak ?_;rcases Ad h with ⟨q4,h⟩ | ⟨q4,h⟩
 ·refine Af q4 ?_;refine Ak ?_;refine Ah (tr_ ?_);obtain rfl:=zj h;exact A3 [.bool false] (Aq rfl zl Ar)
 refine Ae q4 ?_;refine Ai (tn_ ?_);refine wr_ ?_;refine Bj h (fun (_:Unit) S_=>S_=⟨An [],Aj (Ap []),2⟩) ?_ ?_
 ·intro v_ h hk6;refine Ak ?_;refine Al ?_;refine A6 h (fun (l8_m5:Nat) S_=>S_=⟨An [(0,.tree (.pair .str (.pair (.slice (.pair .int (.pair .int .str))) (.pair .int (.pair .int (.slice (.slice .int)))))) a0),(1,.tree (.pair .str (.pair (.slice (.pair .int (.pair .int .str))) (.pair .int (.pair .int (.slice (.slice .int)))))) a1),(5,ai ((l8_m5:Nat):Int))],Aj (Ap []),2⟩) ⟨_,Ac [],rfl⟩ ?_;rintro n_ l8_m5 _ c_ rfl h hn8
  (try dsimp only at h);unfold Ce at h;unfold H1;refine Ab ?_;refine Ak ?_;rcases Ad h with ⟨q11,h⟩ | ⟨q11,h⟩
  ·have q11_:=of_decide_eq_true q11;refine Af q11 ?_;refine Ai (tn_ ?_);refine wr_ ?_;refine Ab ?_;refine Al ?_;refine Ab ?_;obtain ⟨x14,e14,h⟩:=Ag h;obtain ⟨x15,e15,h⟩:=Ag h;obtain ⟨y16,h16,h⟩:=Ag h;refine A4 16 ?_;refine dz0 (.tree (.pair .str (.pair (.slice (.pair .int (.pair .int .str))) (.pair .int (.pair .int (.slice (.slice .int)))))) a0) ?_;refine dz0 (ai ((l8_m5:Nat):Int)) ?_;refine ds0 (.telt none (.pair .str (.pair (.slice (.pair .int (.pair .int .str))) (.pair .int (.pair .int (.slice (.slice .int)))))) x14 0) (zi (t:=.pair .str (.pair (.slice (.pair .int (.pair .int .str))) (.pair .int (.pair .int (.slice (.slice .int)))))) (xs:=a0) (k:=.i64) (m:=((l8_m5:Nat):Int)) (Ay _) e14) ?_;refine dz0 (.agg [.str x14.1,.tree (.pair .int (.pair .int .str)) x14.2.1,ai x14.2.2.1,ai x14.2.2.2.1,.tree (.slice .int) x14.2.2.2.2]) ?_;refine dz0 (.tree (.pair .str (.pair (.slice (.pair .int (.pair .int .str))) (.pair .int (.pair .int (.slice (.slice .int)))))) a1) ?_;refine dz0 (ai ((l8_m5:Nat):Int)) ?_;refine ds0 (.telt none (.pair .str (.pair (.slice (.pair .int (.pair .int .str))) (.pair .int (.pair .int (.slice (.slice .int)))))) x15 0) (zi (t:=.pair .str (.pair (.slice (.pair .int (.pair .int .str))) (.pair .int (.pair .int (.slice (.slice .int)))))) (xs:=a1) (k:=.i64) (m:=((l8_m5:Nat):Int)) (Ay _) e15) ?_;refine dz0 (.agg [.str x15.1,.tree (.pair .int (.pair .int .str)) x15.2.1,ai x15.2.2.1,ai x15.2.2.2.1,.tree (.slice .int) x15.2.2.2.2]) ?_;refine D3 (.bool y16) [] [.agg [.str x14.1,.tree (.pair .int (.pair .int .str)) x14.2.1,ai x14.2.2.1,ai x14.2.2.2.1,.tree (.slice .int) x14.2.2.2.2],.agg [.str x15.1,.tree (.pair .int (.pair .int .str)) x15.2.1,ai x15.2.2.1,ai x15.2.2.2.1,.tree (.slice .int) x15.2.2.2.2]] _ (caps:=[]) (args0:=[.agg [.str x14.1,.tree (.pair .int (.pair .int .str)) x14.2.1,ai x14.2.2.1,ai x14.2.2.2.1,.tree (.slice .int) x14.2.2.2.2],.agg [.str x15.1,.tree (.pair .int (.pair .int .str)) x15.2.1,ai x15.2.2.1,ai x15.2.2.2.1,.tree (.slice .int) x15.2.2.2.2]]) trivial (by kernel_rfl) (Qq h16) Qz ?_;refine dz0 (.bool (!y16)) ?_;refine Gw (Bf (by kernel_rfl)) (tn_ ?_);refine wr_ ?_;rcases Ad h with ⟨q17,h⟩ | ⟨q17,h⟩
   ·refine Af q17 ?_;refine Ak ?_;refine Ah (br_ (tr_ (tr_ (br_ (tr_ ?_)))));obtain rfl:=zj h;have h:=hn8
    (try dsimp only at h);obtain rfl:=zj h;have h:=hk6
    (try dsimp only at h);obtain rfl:=zj h;exact A3 [.bool false] (Aq rfl zl Ar)
   refine Ae q17 ?_;refine Ai (bn_ (tn_ ?_));refine wr_ ?_;obtain ⟨g19,h⟩:=Av h;refine Aa 19 ?_;refine rz0 (ai ((l8_m5:Nat):Int)) ?_;refine rs0 (ai ((l8_m5+1:Nat):Int)) (za g19) ?_;refine rsB 1 ?_;refine Ao (tn_ ?_);obtain rfl:=zj h;exact ⟨l8_m5+1,_,Ac [],rfl,hn8⟩
  have q11_:=of_decide_eq_false q11;refine Ae q11 ?_;refine Az (te_ (te_ (be_ (tn_ ?_))));obtain rfl:=zj h;have h:=hn8
  (try dsimp only at h);obtain rfl:=zj h;exact ⟨(),_,rfl,Ac [],rfl⟩
 rintro _ _ rfl h
 (try dsimp only at h);refine Ak ?_;refine Ah ?_;obtain rfl:=zj h;exact A3 [.bool true] (Aq rfl zl Ar)
def Jl:AC :=
 (.seq (rg [xo 9 (qb .lss (tm 8) (tm 7))])
 (.seq (.cond (tm 9)
  .skip
  (.exit 0))
 (.seq (.block 1 (.seq (rg [xo 10 (qx 5 (tm 6) (tm 8)),xo 11 (.i (.ld false 5 (tm 10))),⟨some 5,none,.i (.alloc 37 [.str ⟨#[]⟩,.nils,.int .i64 0,.int .i64 0,.nils])⟩,xn (.st false 5 (tm 5) (tm 11))])
 (rg [xo 12 (qm (tm 3)),xo 13 (qf 0 (tm 5)),xo 14 (ql (tm 13)),xo 15 (qf 2 (tm 5)),xo 16 (qf 0 (tm 15)),xo 17 (ql (tm 16)),xo 18 (qf 2 (tm 5)),xo 19 (qf 1 (tm 18)),xo 20 (ql (tm 19)),xo 21 (qf 1 (tm 5)),xo 22 (.i (.ld false 1 (tm 21))),⟨some 23,none,.build [.str ⟨#[]⟩,.int .i64 0,.int .i64 0,.nils] [(0,1,tm 14),(1,1,tm 17),(2,1,tm 20),(3,1,tm 22)]⟩,⟨some 24,none,.mkV 103 (.pair .str (.pair .int (.pair .int (.slice (.pair .int (.pair .int .str)))))) 4 [tm 23]⟩,⟨some 25,none,.appV 103 (.pair .str (.pair .int (.pair .int (.slice (.pair .int (.pair .int .str)))))) 56 (tm 12) (tm 24)⟩,xo 3 (qm (tm 25))])))
 (rg [xo 26 (qb .add (tm 8) (ci 1)),xo 8 (qm (tm 26))]))))
def Mr:AC :=
 (.seq (rg [xo 2 (qm (.cst .nils))])
 (.seq (rg [xo 3 (qm (.cst .nils))])
 (.seq (.seq (rg [xo 6 (qm (tm 0)),xo 7 (.i (.len (tm 6))),xo 8 (qm (ci 0))])
 (.block 0 (.loop Jl)))
 (.seq (rg [xo 27 (qm (tm 3)),xo 2 (qm (tm 27))])
 .ret))))
def V1:List Res:=[.tmp 2]
theorem Wj:Am Tryd.prog Tryd.f41=some (Mr,V1):=by kernel_rfl
theorem Uy:A8 Tryd.prog 41=true:=by kernel_rfl
def C5 (a0:List (ByteArray×(List (Int×Int×ByteArray))×Int×Int×List (List Int))) (l5_m8:Nat) (l5_m3:List (ByteArray×Int×Int×List (Int×Int×ByteArray))):Option (Ctl (Nat×(List (ByteArray×Int×Int×List (Int×Int×ByteArray)))) (List (ByteArray×Int×Int×List (Int×Int×ByteArray)))) :=
 cond (decide (((l5_m8:Nat):Int)<((a0.length:Nat):Int)))
 (Option.bind (a0[l5_m8]?) fun x11 =>
 og (l5_m3.length+1<=1073741824∧(l5_m3.length+1)*56<=140737488355328) <|
 og (l5_m8+1<4611686018427387904) <|
 some (Ctl.next (l5_m8+1,l5_m3++[(x11.1,x11.2.2.1,x11.2.2.2.1,x11.2.1)])))
 (some (Ctl.out l5_m3))
def El (a0:List (ByteArray×(List (Int×Int×ByteArray))×Int×Int×List (List Int))):Option (List (ByteArray×Int×Int×List (Int×Int×ByteArray))) :=
 Option.bind (A7 (fun s_:Nat×(List (ByteArray×Int×Int×List (Int×Int×ByteArray)))=>C5 a0 s_.1 s_.2) 4611686018427387904 (0,[])) fun l3_m3 =>
some l3_m3
def Tv (r:List (ByteArray×Int×Int×List (Int×Int×ByteArray))):RV:=⟨false,[(false,[.imm (.tree (.pair .str (.pair .int (.pair .int (.slice (.pair .int (.pair .int .str)))))) r)])]⟩
theorem Up {a0:List (ByteArray×(List (Int×Int×ByteArray))×Int×Int×List (List Int))} {r:List (ByteArray×Int×Int×List (Int×Int×ByteArray))} (h:El a0=some r):Aw Tryd.prog Tab 41 [.tree (.pair .str (.pair (.slice (.pair .int (.pair .int .str))) (.pair .int (.pair .int (.slice (.slice .int)))))) a0] (Tv r):=by
 refine Ap3 (by kernel_rfl) Tryd.func41 Wj (fun nz_=>[.ftr nz_ (.pair .str (.pair (.slice (.pair .int (.pair .int .str))) (.pair .int (.pair .int (.slice (.slice .int)))))) a0]) (n:=28) (by kernel_rfl) (fun _=>by simp) (fun _=>⟨_,_,rfl,rfl,rfl⟩) (tl:=fun nz_=>[(0,.ftr nz_ (.pair .str (.pair (.slice (.pair .int (.pair .int .str))) (.pair .int (.pair .int (.slice (.slice .int)))))) a0)]) (fun _=>rfl) fun zn_ nz_ hz_=>?_
 unfold Mr;unfold El at h;refine Ak ?_;refine Ak ?_;refine Ax h (fun (l3_m3:List (ByteArray×Int×Int×List (Int×Int×ByteArray))) S_=>S_=⟨An [(3,.own (oi 0 1) (.pair .str (.pair .int (.pair .int (.slice (.pair .int (.pair .int .str)))))) 0 l3_m3.length)],Aj (Ap [(oi 0 1,.tv 103 (some nz_) (.pair .str (.pair .int (.pair .int (.slice (.pair .int (.pair .int .str)))))) l3_m3)]),2⟩) ?_ ?_
 ·intro v_ h;refine Ak ?_;refine Al ?_;refine A6 h (fun t_ S_=>∃ (l5_m8:Nat),∃ (l5_m3:List (ByteArray×Int×Int×List (Int×Int×ByteArray))),t_=(l5_m8,l5_m3)∧S_=⟨An [(3,.own (oi 0 1) (.pair .str (.pair .int (.pair .int (.slice (.pair .int (.pair .int .str)))))) 0 l5_m3.length),(6,.ftr nz_ (.pair .str (.pair (.slice (.pair .int (.pair .int .str))) (.pair .int (.pair .int (.slice (.slice .int)))))) a0),(7,ai ((a0.length:Nat):Int)),(8,ai ((l5_m8:Nat):Int))],Aj (Ap [(oi 0 1,.tv 103 (some nz_) (.pair .str (.pair .int (.pair .int (.slice (.pair .int (.pair .int .str)))))) l5_m3)]),2⟩) ⟨_,(Aj2 3 103 (some nz_) (.pair .str (.pair .int (.pair .int (.slice (.pair .int (.pair .int .str)))))) (by kernel_rfl)).trans (Ac [(oi 0 1,oi 3 6)]),⟨0,[],rfl,rfl⟩⟩ ?_;rintro n_ _ _ c_ ⟨l5_m8,l5_m3,rfl,rfl⟩ h hn5
  (try dsimp only at h);unfold C5 at h;unfold Jl;refine Ak ?_;refine Ab ?_;rcases Ad h with ⟨q8,h⟩ | ⟨q8,h⟩
  ·have q8_:=of_decide_eq_true q8;refine Af q8 ?_;refine Ai (tn_ ?_);refine wr_ ?_;refine Ab ?_;refine Al ?_;refine Ab ?_;obtain ⟨x11,e11,h⟩:=Ag h;refine Aa 7 ?_;refine rs0 (.telt (some nz_) (.pair .str (.pair (.slice (.pair .int (.pair .int .str))) (.pair .int (.pair .int (.slice (.slice .int)))))) x11 0) (zi (t:=.pair .str (.pair (.slice (.pair .int (.pair .int .str))) (.pair .int (.pair .int (.slice (.slice .int)))))) (xs:=a0) (k:=.i64) (m:=((l5_m8:Nat):Int)) (Ay _) e11) ?_;refine rsB 3 ?_;refine Ao (tn_ ?_);refine wr_ ?_;obtain ⟨g12,h⟩:=Av h;refine Aa 22 ?_;refine rz0 (.own (oi 0 1) (.pair .str (.pair .int (.pair .int (.slice (.pair .int (.pair .int .str)))))) 0 l5_m3.length) ?_;refine rz0 (.box (oi 5 5) 0) ?_;refine rzl (.str x11.1) ?_;refine rz0 (.box (oi 5 5) 2) ?_;refine rz0 (.box (oi 5 5) 2) ?_;refine rzl (ai x11.2.2.1) ?_;refine rz0 (.box (oi 5 5) 2) ?_;refine rz0 (.box (oi 5 5) 3) ?_;refine rzl (ai x11.2.2.2.1) ?_;refine rz0 (.box (oi 5 5) 1) ?_;refine rzl (.agg [.ftr nz_ (.pair .int (.pair .int .str)) x11.2.1]) ?_;refine rz0 (.agg [.str x11.1,ai x11.2.2.1,ai x11.2.2.2.1,.ftr nz_ (.pair .int (.pair .int .str)) x11.2.1]) ?_;refine Aul (.own (oi 24 19) (.pair .str (.pair .int (.pair .int (.slice (.pair .int (.pair .int .str)))))) 0 1) (oi 24 19) (.vec 103 4 1 (tvC (some nz_) (.pair .str (.pair .int (.pair .int (.slice (.pair .int (.pair .int .str)))))) ([(x11.1,x11.2.2.1,x11.2.2.2.1,x11.2.1)]))) trivial (Apv (by kernel_rfl)) ?_;refine rs2 (.own (oi 0 20) (.pair .str (.pair .int (.pair .int (.slice (.pair .int (.pair .int .str)))))) 0 (l5_m3.length+1)) (oi 0 1) (oi 0 20) (.vec 103 4 (l5_m3.length+1) (tvC (some nz_) (.pair .str (.pair .int (.pair .int (.slice (.pair .int (.pair .int .str)))))) (l5_m3++[(x11.1,x11.2.2.1,x11.2.2.2.1,x11.2.1)]))) (Aqz (t':=.pair .str (.pair .int (.pair .int (.slice (.pair .int (.pair .int .str)))))) (t:=.pair .str (.pair .int (.pair .int (.slice (.pair .int (.pair .int .str)))))) (t2:=.pair .str (.pair .int (.pair .int (.slice (.pair .int (.pair .int .str)))))) (e2:=103) (q:=oi 24 19) (m:=some nz_) (z:=(x11.1,x11.2.2.1,x11.2.2.2.1,x11.2.1)) (o:=oi 0 1) (xs:=l5_m3) (len:=l5_m3.length) (by kernel_rfl) (by kernel_rfl) rfl (by kernel_rfl) (by kernel_rfl) g12) ?_;refine rsB 1 ?_;refine Ao (bn_ (tn_ ?_));refine ⟨_,Aid (N:=l5_m3.length+1) (oi 0 20) 103 (some nz_) (.pair .str (.pair .int (.pair .int (.slice (.pair .int (.pair .int .str)))))) (l5_m3++[(x11.1,x11.2.2.1,x11.2.2.2.1,x11.2.1)]) (by kernel_rfl) (by simp),?_⟩;obtain ⟨g13,h⟩:=Av h;refine Aa 24 ?_;refine rs0 (ai ((l5_m8+1:Nat):Int)) (za g13) ?_;refine rsB 1 ?_;refine Ao (tn_ ?_);obtain rfl:=zj h;exact ⟨(l5_m8+1,l5_m3++[(x11.1,x11.2.2.1,x11.2.2.2.1,x11.2.1)]),_,(B1 3 (.own (oi 0 20) (.pair .str (.pair .int (.pair .int (.slice (.pair .int (.pair .int .str)))))) 0 (l5_m3.length+1)) (.own (oi 0 20) (.pair .str (.pair .int (.pair .int (.slice (.pair .int (.pair .int .str)))))) 0 ((l5_m3++[(x11.1,x11.2.2.1,x11.2.2.2.1,x11.2.1)]).length)) (by kernel_rfl) (congrArg (fun z_=>((.own (oi 0 20) (.pair .str (.pair .int (.pair .int (.slice (.pair .int (.pair .int .str)))))) 0 z_):AV)) ((by simp):l5_m3.length+1=(l5_m3++[(x11.1,x11.2.2.1,x11.2.2.2.1,x11.2.1)]).length))).trans (Ac [(oi 0 1,oi 0 20)]),⟨l5_m8+1,l5_m3++[(x11.1,x11.2.2.1,x11.2.2.2.1,x11.2.1)],rfl,rfl⟩,hn5⟩
  have q8_:=of_decide_eq_false q8;refine Ae q8 ?_;refine Az (te_ (te_ (be_ (tn_ ?_))));obtain rfl:=zj h;have h:=hn5
  (try dsimp only at h);obtain rfl:=zj h;exact ⟨_,Ac [],rfl⟩
 rintro l3_m3 _ rfl h
 (try dsimp only at h);refine Ak ?_;refine Ah ?_;obtain rfl:=zj h;exact Aog [(false,[.own (oi 0 1) (.pair .str (.pair .int (.pair .int (.slice (.pair .int (.pair .int .str)))))) 0 l3_m3.length])] (Aqs (Ahj (.tv (e:=103) (by kernel_rfl) rfl)) Ak6)
def N7:AC :=
 (.seq (rg [xo 10 (qb .lss (tm 9) (tm 8))])
 (.seq (.cond (tm 10)
  .skip
  (.exit 0))
 (.seq (.block 1 (.seq (rg [xo 11 (qm (tm 9)),xo 12 (qx 5 (tm 7) (tm 9)),xo 13 (.i (.ld false 5 (tm 12))),⟨some 6,none,.i (.alloc 37 [.str ⟨#[]⟩,.nils,.int .i64 0,.int .i64 0,.nils])⟩,xo 5 (qm (tm 11)),xn (.st false 5 (tm 6) (tm 13))])
 (.seq (.region [xo 14 (qm (tm 0)),xo 15 (.i (.ld false 5 (tm 6))),⟨some 16,none,qc 17 [tm 14,tm 15] [[],[none,some (.pair .int (.pair .int .str)),none,none,some (.slice .int)]]⟩,xo 17 (.i (.not (tm 16))),xo 18 (qm (tm 17)),⟨some 19,some (18,false),qm (tm 1)⟩,⟨some 20,some (18,false),qm (tm 5)⟩,⟨some 21,some (18,false),.slice 5 (tm 19) none (some (tm 20)) none⟩,⟨some 22,some (18,false),qc 41 [tm 21] [[some (.pair .str (.pair (.slice (.pair .int (.pair .int .str))) (.pair .int (.pair .int (.slice (.slice .int))))))]]⟩,⟨some 23,some (18,false),qf 0 (tm 6)⟩,⟨some 24,some (18,false),ql (tm 23)⟩,⟨some 25,some (18,false),qc 40 [tm 22,tm 24] [[some (.pair .str (.pair .int (.pair .int (.slice (.pair .int (.pair .int .str))))))],[]]⟩,⟨some 26,some (18,false),qb .geq (tm 25) (ci 0)⟩,xo 27 (.i (.pick (tm 18) (cb true) (tm 26)))] true [(8,10)])
 (.cond (tm 27)
  (.seq (rg [xo 4 (qm (cb false))])
  .ret)
  .skip))))
 (rg [xo 28 (qb .add (tm 9) (ci 1)),xo 9 (qm (tm 28))]))))
def Vi:AC :=
 (.seq (rg [xo 4 (qm (cb false))])
 (.seq (.seq (rg [xo 7 (qm (tm 1)),xo 8 (.i (.len (tm 7))),xo 9 (qm (ci 0))])
 (.block 0 (.loop N7)))
 (.seq (rg [xo 29 (qm (tm 0)),xo 30 (qc 42 [tm 29] [[]]),xo 31 (qm (tm 30)),⟨some 32,some (31,true),qm (tm 1)⟩,⟨some 33,some (31,true),.i (.len (tm 32))⟩,⟨some 34,some (31,true),qb .leq (tm 33) (ci 12)⟩,xo 35 (.i (.pick (tm 31) (tm 34) (cb false))),xo 4 (qm (tm 35))])
 .ret)))
def Ahh:List Res:=[.tmp 4]
theorem Ahe:Am Tryd.prog Tryd.f23=some (Vi,Ahh):=by kernel_rfl
def Fn (a1:List (ByteArray×(List (Int×Int×ByteArray))×Int×Int×List (List Int))) (a0:Int) (l4_m9:Nat):Option (Ctl Nat (Ctl Unit Bool)) :=
 cond (decide (((l4_m9:Nat):Int)<((a1.length:Nat):Int)))
 (Option.bind (a1[l4_m9]?) fun x10 =>
 Option.bind (Option.bind (Eh a0 x10.1 x10.2.1 x10.2.2.1 x10.2.2.2.1 x10.2.2.2.2) fun y12 =>
  cond (!y12)
   (some true)
   (og ((0:Int)<=0∧0<=((l4_m9:Nat):Int)∧((l4_m9:Nat):Int)<=((a1.length:Nat):Int)∧((a1.length:Nat):Int)<=((a1.length:Nat):Int)) <|
   Option.bind (El (a1.take l4_m9)) fun y15 =>
   Option.bind (Fw y15 x10.1) fun y16 =>
   some (decide (0<=y16)))) fun l11_m27 =>
 cond l11_m27
  (some (Ctl.out (Ctl.out false)))
  (og (l4_m9+1<4611686018427387904) <|
  some (Ctl.next (l4_m9+1))))
 (some (Ctl.out (Ctl.next ())))
def H2 (a0:Int) (a1:List (ByteArray×(List (Int×Int×ByteArray))×Int×Int×List (List Int))):Option Bool :=
 Du (A7 (fun s_:Nat=>Fn a1 a0 s_) 4611686018427387904 0) fun _ =>
Option.bind (Option.bind (Eg a0) fun y21 =>
 cond y21
  (some (decide (((a1.length:Nat):Int)<=12)))
  (some false)) fun l20_m4 =>
some l20_m4
def Aer (r:Bool):RV:=⟨false,[(false,[.sc (.bool r)])]⟩
theorem Acy {a0:Int} {a1:List (ByteArray×(List (Int×Int×ByteArray))×Int×Int×List (List Int))} {r:Bool} (h:H2 a0 a1=some r):Aw Tryd.prog Tab 23 [ai a0,.tree (.pair .str (.pair (.slice (.pair .int (.pair .int .str))) (.pair .int (.pair .int (.slice (.slice .int)))))) a1] (Aer r):=by
 refine At (by kernel_rfl) Tryd.func23 Ahe (n:=36) (by kernel_rfl) (by simp) (tl:=[(0,ai a0),(1,.tree (.pair .str (.pair (.slice (.pair .int (.pair .int .str))) (.pair .int (.pair .int (.slice (.slice .int)))))) a1)]) rfl ?_;unfold Vi;unfold H2 at h;refine Ak ?_;refine Bj h (fun (_:Unit) S_=>S_=⟨An [(0,ai a0),(1,.tree (.pair .str (.pair (.slice (.pair .int (.pair .int .str))) (.pair .int (.pair .int (.slice (.slice .int)))))) a1)],Aj (Ap []),2⟩) ?_ ?_
 ·intro v_ h hk2;refine Ak ?_;refine Al ?_;refine A6 h (fun (l4_m9:Nat) S_=>S_=⟨An [(0,ai a0),(1,.tree (.pair .str (.pair (.slice (.pair .int (.pair .int .str))) (.pair .int (.pair .int (.slice (.slice .int)))))) a1),(7,.tree (.pair .str (.pair (.slice (.pair .int (.pair .int .str))) (.pair .int (.pair .int (.slice (.slice .int)))))) a1),(8,ai ((a1.length:Nat):Int)),(9,ai ((l4_m9:Nat):Int))],Aj (Ap []),2⟩) ⟨_,Ac [],rfl⟩ ?_;rintro n_ l4_m9 _ c_ rfl h hn4
  (try dsimp only at h);unfold Fn at h;unfold N7;refine Ak ?_;refine Ab ?_;rcases Ad h with ⟨q7,h⟩ | ⟨q7,h⟩
  ·have q7_:=of_decide_eq_true q7;refine Af q7 ?_;refine Ai (tn_ ?_);refine wr_ ?_;refine Ab ?_;refine Al ?_;refine Ab ?_;obtain ⟨x10,e10,h⟩:=Ag h;refine Aa 9 ?_;refine rz0 (ai ((l4_m9:Nat):Int)) ?_;refine rs0 (.telt none (.pair .str (.pair (.slice (.pair .int (.pair .int .str))) (.pair .int (.pair .int (.slice (.slice .int)))))) x10 0) (zi (t:=.pair .str (.pair (.slice (.pair .int (.pair .int .str))) (.pair .int (.pair .int (.slice (.slice .int)))))) (xs:=a1) (k:=.i64) (m:=((l4_m9:Nat):Int)) (Ay _) e10) ?_;refine rsB 4 ?_;refine Ao (tn_ ?_);refine wr_ ?_;refine Ax h (fun (l11_m27:Bool) S_=>S_=⟨An [(0,ai a0),(1,.tree (.pair .str (.pair (.slice (.pair .int (.pair .int .str))) (.pair .int (.pair .int (.slice (.slice .int)))))) a1),(7,.tree (.pair .str (.pair (.slice (.pair .int (.pair .int .str))) (.pair .int (.pair .int (.slice (.slice .int)))))) a1),(8,ai ((a1.length:Nat):Int)),(9,ai ((l4_m9:Nat):Int)),(27,.bool l11_m27)],Aj (Ap []),2⟩) ?_ ?_
   ·intro v_ h;obtain ⟨y12,h12,h⟩:=Ag h;rcases Ad h with ⟨q13,h⟩ | ⟨q13,h⟩
    ·refine A4 23 ?_;refine dz0 (ai a0) ?_;refine dzl (.agg [.str x10.1,.tree (.pair .int (.pair .int .str)) x10.2.1,ai x10.2.2.1,ai x10.2.2.2.1,.tree (.slice .int) x10.2.2.2.2]) ?_;refine D3 (.bool y12) [] [ai a0,.agg [.str x10.1,.tree (.pair .int (.pair .int .str)) x10.2.1,ai x10.2.2.1,ai x10.2.2.2.1,.tree (.slice .int) x10.2.2.2.2]] _ (caps:=[]) (args0:=[ai a0,.agg [.str x10.1,.tree (.pair .int (.pair .int .str)) x10.2.1,ai x10.2.2.1,ai x10.2.2.2.1,.tree (.slice .int) x10.2.2.2.2]]) trivial (by kernel_rfl) (Pj h12) Px ?_;refine dz0 (.bool (!y12)) ?_;refine dz0 (.bool (!y12)) ?_;refine ds0 (.tup []) (Bx (by kernel_rfl) q13) ?_;refine ds0 (.tup []) (Bx (by kernel_rfl) q13) ?_;refine ds0 (.tup []) (Bx (by kernel_rfl) q13) ?_;refine ds0 (.tup []) (Bx (by kernel_rfl) q13) ?_;refine ds0 (.tup []) (Bx (by kernel_rfl) q13) ?_;refine ds0 (.tup []) (Bx (by kernel_rfl) q13) ?_;refine ds0 (.tup []) (Bx (by kernel_rfl) q13) ?_;refine ds0 (.tup []) (Bx (by kernel_rfl) q13) ?_;refine ds0 (.bool true) (zT q13) ?_;refine Gw (Bf (by kernel_rfl)) (tn_ ?_);obtain rfl:=zj h;exact ⟨_,Ac [],rfl⟩
    obtain ⟨g14,h⟩:=Av h;obtain ⟨y15,h15,h⟩:=Ag h;obtain ⟨y16,h16,h⟩:=Ag h;refine A4 23 ?_;refine dz0 (ai a0) ?_;refine dzl (.agg [.str x10.1,.tree (.pair .int (.pair .int .str)) x10.2.1,ai x10.2.2.1,ai x10.2.2.2.1,.tree (.slice .int) x10.2.2.2.2]) ?_;refine D3 (.bool y12) [] [ai a0,.agg [.str x10.1,.tree (.pair .int (.pair .int .str)) x10.2.1,ai x10.2.2.1,ai x10.2.2.2.1,.tree (.slice .int) x10.2.2.2.2]] _ (caps:=[]) (args0:=[ai a0,.agg [.str x10.1,.tree (.pair .int (.pair .int .str)) x10.2.1,ai x10.2.2.1,ai x10.2.2.2.1,.tree (.slice .int) x10.2.2.2.2]]) trivial (by kernel_rfl) (Pj h12) Px ?_;refine dz0 (.bool (!y12)) ?_;refine dz0 (.bool (!y12)) ?_;refine ds0 (.tree (.pair .str (.pair (.slice (.pair .int (.pair .int .str))) (.pair .int (.pair .int (.slice (.slice .int)))))) a1) (zg q13) ?_;refine ds0 (ai ((l4_m9:Nat):Int)) (zg q13) ?_;refine ds0 (.tree (.pair .str (.pair (.slice (.pair .int (.pair .int .str))) (.pair .int (.pair .int (.slice (.slice .int)))))) (a1.take l4_m9)) (Fl (by kernel_rfl) q13 (Ap5 (t:=.pair .str (.pair (.slice (.pair .int (.pair .int .str))) (.pair .int (.pair .int (.slice (.slice .int)))))) (xs:=a1) (zs:=a1.take l4_m9) (l:=0) (h:=((l4_m9:Nat):Int)) (m:=((a1.length:Nat):Int)) (by kernel_rfl) (by kernel_rfl) (by kernel_rfl) (by kernel_rfl) rfl g14 rfl)) ?_;refine Ata (.tree (.pair .str (.pair .int (.pair .int (.slice (.pair .int (.pair .int .str)))))) y15) [] [.tree (.pair .str (.pair (.slice (.pair .int (.pair .int .str))) (.pair .int (.pair .int (.slice (.slice .int)))))) (a1.take l4_m9)] _ (caps:=[]) (Bi (by kernel_rfl) q13) (Up h15) Uy ?_;refine ds0 (.box (oi 6 6) 0) (zg q13) ?_;refine dsl (.str x10.1) (zg q13) ?_;refine D3 (ai y16) [] [.tree (.pair .str (.pair .int (.pair .int (.slice (.pair .int (.pair .int .str)))))) y15,.str x10.1] _ (caps:=[]) (args0:=[.tree (.pair .str (.pair .int (.pair .int (.slice (.pair .int (.pair .int .str)))))) y15,.str x10.1]) (Bi (by kernel_rfl) q13) (by kernel_rfl) (Pu h16) Zd ?_;refine ds0 (.bool (decide (0<=y16))) (zg q13) ?_;refine ds0 (.bool (decide (0<=y16))) (zF q13) ?_;refine Gw (Bf (by kernel_rfl)) (tn_ ?_);obtain rfl:=zj h;exact ⟨_,Ac [],rfl⟩
   rintro l11_m27 _ rfl h
   (try dsimp only at h);rcases Ad h with ⟨q17,h⟩ | ⟨q17,h⟩
   ·refine Af q17 ?_;refine Ak ?_;refine Ah (br_ (tr_ (tr_ (br_ (tr_ ?_)))));obtain rfl:=zj h;have h:=hn4
    (try dsimp only at h);obtain rfl:=zj h;have h:=hk2
    (try dsimp only at h);obtain rfl:=zj h;exact A3 [.bool false] (Aq rfl zl Ar)
   refine Ae q17 ?_;refine Ai (bn_ (tn_ ?_));refine wr_ ?_;obtain ⟨g19,h⟩:=Av h;refine Aa 4 ?_;refine rs0 (ai ((l4_m9+1:Nat):Int)) (za g19) ?_;refine rsB 1 ?_;refine Ao (tn_ ?_);obtain rfl:=zj h;exact ⟨l4_m9+1,_,Ac [],rfl,hn4⟩
  have q7_:=of_decide_eq_false q7;refine Ae q7 ?_;refine Az (te_ (te_ (be_ (tn_ ?_))));obtain rfl:=zj h;have h:=hn4
  (try dsimp only at h);obtain rfl:=zj h;exact ⟨(),_,rfl,Ac [],rfl⟩
 rintro _ _ rfl h
 (try dsimp only at h);refine Ax h (fun (l20_m4:Bool) S_=>S_=⟨An [(4,.bool l20_m4)],Aj (Ap []),2⟩) ?_ ?_
 ·intro v_ h;obtain ⟨y21,h21,h⟩:=Ag h;rcases Ad h with ⟨q22,h⟩ | ⟨q22,h⟩
  ·refine Aa 10 ?_;refine rz0 (ai a0) ?_;refine zc (.bool y21) [] [ai a0] (Cx h21) ?_;refine rz0 (.bool y21) ?_;refine rs0 (.tree (.pair .str (.pair (.slice (.pair .int (.pair .int .str))) (.pair .int (.pair .int (.slice (.slice .int)))))) a1) (zg q22) ?_;refine rs0 (ai ((a1.length:Nat):Int)) (zg q22) ?_;refine rs0 (.bool (decide (((a1.length:Nat):Int)<=12))) (zg q22) ?_;refine rs0 (.bool (decide (((a1.length:Nat):Int)<=12))) (zT q22) ?_;refine rsB 1 ?_;refine Ao (tn_ ?_);obtain rfl:=zj h;exact ⟨_,Ac [],rfl⟩
  refine Aa 10 ?_;refine rz0 (ai a0) ?_;refine zc (.bool y21) [] [ai a0] (Cx h21) ?_;refine rz0 (.bool y21) ?_;refine zs q22 ?_;refine zs q22 ?_;refine zs q22 ?_;refine rs0 (.bool false) (zF q22) ?_;refine rsB 1 ?_;refine Ao (tn_ ?_);obtain rfl:=zj h;exact ⟨_,Ac [],rfl⟩
 rintro l20_m4 _ rfl h
 (try dsimp only at h);refine Ah ?_;obtain rfl:=zj h;exact A3 [.bool l20_m4] (Aq rfl zl Ar)
def Ja:AC :=
 (.seq (rg [xo 4 (qm (cb false))])
 (.seq (rg [xo 5 (qm (tm 0)),xo 6 (qm (tm 1)),⟨some 7,none,qc 23 [tm 5,tm 6] [[],[some (.pair .str (.pair (.slice (.pair .int (.pair .int .str))) (.pair .int (.pair .int (.slice (.slice .int))))))]]⟩,xo 4 (qm (tm 7))])
 .ret))
def P0:List Res:=[.tmp 4]
theorem O0:Am Tryd.prog Tryd.f11=some (Ja,P0):=by kernel_rfl
def D7 (a0:Int) (a1:List (ByteArray×(List (Int×Int×ByteArray))×Int×Int×List (List Int))):Option Bool :=
 Option.bind (H2 a0 a1) fun y3 =>
some y3
def Of (r:Bool):RV:=⟨false,[(false,[.sc (.bool r)])]⟩
theorem Oh {a0:Int} {a1:List (ByteArray×(List (Int×Int×ByteArray))×Int×Int×List (List Int))} {r:Bool} (h:D7 a0 a1=some r):Aw Tryd.prog Tab 11 [ai a0,.tree (.pair .str (.pair (.slice (.pair .int (.pair .int .str))) (.pair .int (.pair .int (.slice (.slice .int)))))) a1] (Of r):=by
 refine At (by kernel_rfl) Tryd.func11 O0 (n:=8) (by kernel_rfl) (by simp) (tl:=[(0,ai a0),(1,.tree (.pair .str (.pair (.slice (.pair .int (.pair .int .str))) (.pair .int (.pair .int (.slice (.slice .int)))))) a1)]) rfl ?_;unfold Ja;unfold D7 at h;refine Ak ?_;refine Ab ?_;obtain ⟨y3,h3,h⟩:=Ag h;refine Aa 6 ?_;refine rz0 (ai a0) ?_;refine rz0 (.tree (.pair .str (.pair (.slice (.pair .int (.pair .int .str))) (.pair .int (.pair .int (.slice (.slice .int)))))) a1) ?_;refine zc (.bool y3) [] [ai a0,.tree (.pair .str (.pair (.slice (.pair .int (.pair .int .str))) (.pair .int (.pair .int (.slice (.slice .int)))))) a1] (Acy h3) ?_;refine rsB 1 ?_;refine Ao (tn_ ?_);refine wr_ ?_;refine Ah ?_;obtain rfl:=zj h;exact A3 [.bool y3] (Aq rfl zl Ar)
def Ht:AC :=
 (.seq (rg [xo 20 (qb .lss (tm 19) (tm 18))])
 (.seq (.cond (tm 20)
  .skip
  (.exit 0))
 (.seq (.block 1 (.seq (rg [xo 21 (qx 5 (tm 17) (tm 19)),xo 22 (.i (.ld false 5 (tm 21))),⟨some 7,none,.i (.alloc 37 [.str ⟨#[]⟩,.nils,.int .i64 0,.int .i64 0,.nils])⟩,xn (.st false 5 (tm 7) (tm 22))])
 (.seq (.seq (rg [xo 23 (qm (tm 0)),xo 24 (.i (.ld false 5 (tm 7))),⟨some 25,none,qc 20 [tm 23,tm 24] [[],[none,some (.pair .int (.pair .int .str)),none,none,some (.slice .int)]]⟩,xo 26 (.i (.not (tm 25))),xo 27 (qm (tm 26)),⟨some 28,some (27,false),qm (tm 5)⟩,⟨some 29,some (27,false),qf 0 (tm 7)⟩,⟨some 30,some (27,false),ql (tm 29)⟩,⟨some 31,some (27,false),.i (.look 74 false (tm 28) (tm 30))⟩,xo 32 (.i (.pick (tm 27) (cb true) (tm 31)))])
 (.cond (tm 32)
  (.seq (rg [xo 4 (qm (cb false))])
  .ret)
  .skip))
 (rg [xo 33 (qm (tm 5)),xo 34 (qf 0 (tm 7)),xo 35 (ql (tm 34)),xn (.upd 74 (tm 33) (tm 35) (cb true))]))))
 (rg [xo 36 (qb .add (tm 19) (ci 1)),xo 19 (qm (tm 36))]))))
def Iz:AC :=
 (.seq (rg [xo 4 (qm (cb false))])
 (.seq (.seq (rg [xo 8 (qm (tm 0)),xo 9 (qc 43 [tm 8] [[]]),xo 10 (.i (.not (tm 9))),xo 11 (qm (tm 10)),⟨some 12,some (11,false),qm (tm 1)⟩,⟨some 13,some (11,false),.i (.len (tm 12))⟩,⟨some 14,some (11,false),qb .gtr (tm 13) (ci 12)⟩,xo 15 (.i (.pick (tm 11) (cb true) (tm 14)))])
 (.cond (tm 15)
  (.seq (rg [xo 4 (qm (cb false))])
  .ret)
  .skip))
 (.seq (rg [xo 16 (.makeM 74 .bool),xo 5 (qm (tm 16))])
 (.seq (.seq (rg [xo 17 (qm (tm 1)),xo 18 (.i (.len (tm 17))),xo 19 (qm (ci 0))])
 (.block 0 (.loop Ht)))
 (.seq (rg [xo 4 (qm (cb true))])
 .ret)))))
def Pk:List Res:=[.tmp 4]
theorem Pn:Am Tryd.prog Tryd.f24=some (Iz,Pk):=by kernel_rfl
def B9 (a1:List (ByteArray×(List (Int×Int×ByteArray))×Int×Int×List (List Int))) (a0:Int) (l11_m19:Nat) (l11_m5:List (Int×Bool)):Option (Ctl (Nat×(List (Int×Bool))) (Ctl Unit Bool)) :=
 cond (decide (((l11_m19:Nat):Int)<((a1.length:Nat):Int)))
 (Option.bind (a1[l11_m19]?) fun x17 =>
 Option.bind (Option.bind (Co a0 x17.1 x17.2.1 x17.2.2.1 x17.2.2.2.1 x17.2.2.2.2) fun y20 =>
  cond (!y20)
   (some true)
   (og (x17.1.size<=maxLen) <|
   some ((E5 l11_m5 (Kg x17.1)).getD false))) fun l19_m32 =>
 cond l19_m32
  (some (Ctl.out (Ctl.out false)))
  (og (x17.1.size<=maxLen∧l11_m5.length<1073741824) <|
  og (l11_m19+1<4611686018427387904) <|
  some (Ctl.next (l11_m19+1,Nx l11_m5 (Kg x17.1) true))))
 (some (Ctl.out (Ctl.next ())))
def Cu (a0:Int) (a1:List (ByteArray×(List (Int×Int×ByteArray))×Int×Int×List (List Int))):Option Bool :=
 Option.bind (Option.bind (Dr a0) fun y4 =>
 cond (!y4)
  (some true)
  (some (decide (12<((a1.length:Nat):Int))))) fun l3_m15 =>
cond l3_m15
 (some false)
 (Du (A7 (fun s_:Nat×(List (Int×Bool))=>B9 a1 a0 s_.1 s_.2) 4611686018427387904 (0,[])) fun _ =>
 some true)
def Oj (r:Bool):RV:=⟨false,[(false,[.sc (.bool r)])]⟩
theorem Og {a0:Int} {a1:List (ByteArray×(List (Int×Int×ByteArray))×Int×Int×List (List Int))} {r:Bool} (h:Cu a0 a1=some r):Aw Tryd.prog Tab 24 [ai a0,.tree (.pair .str (.pair (.slice (.pair .int (.pair .int .str))) (.pair .int (.pair .int (.slice (.slice .int)))))) a1] (Oj r):=by
 refine At (by kernel_rfl) Tryd.func24 Pn (n:=37) (by kernel_rfl) (by simp) (tl:=[(0,ai a0),(1,.tree (.pair .str (.pair (.slice (.pair .int (.pair .int .str))) (.pair .int (.pair .int (.slice (.slice .int)))))) a1)]) rfl ?_;unfold Iz;unfold Cu at h;refine Ak ?_;refine Ab ?_;refine Ax h (fun (l3_m15:Bool) S_=>S_=⟨An [(0,ai a0),(1,.tree (.pair .str (.pair (.slice (.pair .int (.pair .int .str))) (.pair .int (.pair .int (.slice (.slice .int)))))) a1),(15,.bool l3_m15)],Aj (Ap []),2⟩) ?_ ?_
 ·intro v_ h;obtain ⟨y4,h4,h⟩:=Ag h;rcases Ad h with ⟨q5,h⟩ | ⟨q5,h⟩
  ·refine Aa 10 ?_;refine rz0 (ai a0) ?_;refine zc (.bool y4) [] [ai a0] (C2 h4) ?_;refine rz0 (.bool (!y4)) ?_;refine rz0 (.bool (!y4)) ?_;refine zs q5 ?_;refine zs q5 ?_;refine zs q5 ?_;refine rs0 (.bool true) (zT q5) ?_;refine Ao (tn_ ?_);obtain rfl:=zj h;exact ⟨_,Ac [],rfl⟩
  refine Aa 10 ?_;refine rz0 (ai a0) ?_;refine zc (.bool y4) [] [ai a0] (C2 h4) ?_;refine rz0 (.bool (!y4)) ?_;refine rz0 (.bool (!y4)) ?_;refine rs0 (.tree (.pair .str (.pair (.slice (.pair .int (.pair .int .str))) (.pair .int (.pair .int (.slice (.slice .int)))))) a1) (zg q5) ?_;refine rs0 (ai ((a1.length:Nat):Int)) (zg q5) ?_;refine rs0 (.bool (decide (12<((a1.length:Nat):Int)))) (zg q5) ?_;refine rs0 (.bool (decide (12<((a1.length:Nat):Int)))) (zF q5) ?_;refine Ao (tn_ ?_);obtain rfl:=zj h;exact ⟨_,Ac [],rfl⟩
 rintro l3_m15 _ rfl h
 (try dsimp only at h);rcases Ad h with ⟨q6,h⟩ | ⟨q6,h⟩
 ·refine Af q6 ?_;refine Ak ?_;refine Ah (tr_ ?_);obtain rfl:=zj h;exact A3 [.bool false] (Aq rfl zl Ar)
 refine Ae q6 ?_;refine Ai (tn_ ?_);refine wr_ ?_;refine Ak ?_;refine Bj h (fun (_:Unit) S_=>S_=⟨An [],Aj (Ap []),2⟩) ?_ ?_
 ·intro v_ h hk9;refine Ak ?_;refine Al ?_;refine A6 h (fun t_ S_=>∃ (l11_m19:Nat),∃ (l11_m5:List (Int×Bool)),t_=(l11_m19,l11_m5)∧S_=⟨An [(0,ai a0),(5,.mp (oi 0 1)),(17,.tree (.pair .str (.pair (.slice (.pair .int (.pair .int .str))) (.pair .int (.pair .int (.slice (.slice .int)))))) a1),(18,ai ((a1.length:Nat):Int)),(19,ai ((l11_m19:Nat):Int))],Aj (Ap [(oi 0 1,.map 74 .bool l11_m5)]),2⟩) ⟨_,Ac [(oi 0 1,oi 16 2)],⟨0,[],rfl,rfl⟩⟩ ?_;rintro n_ _ _ c_ ⟨l11_m19,l11_m5,rfl,rfl⟩ h hn11
  (try dsimp only at h);unfold B9 at h;unfold Ht;refine Ak ?_;refine Ab ?_;rcases Ad h with ⟨q14,h⟩ | ⟨q14,h⟩
  ·have q14_:=of_decide_eq_true q14;refine Af q14 ?_;refine Ai (tn_ ?_);refine wr_ ?_;refine Ab ?_;refine Al ?_;refine Ab ?_;obtain ⟨x17,e17,h⟩:=Ag h;refine Aa 7 ?_;refine rs0 (.telt none (.pair .str (.pair (.slice (.pair .int (.pair .int .str))) (.pair .int (.pair .int (.slice (.slice .int)))))) x17 0) (zi (t:=.pair .str (.pair (.slice (.pair .int (.pair .int .str))) (.pair .int (.pair .int (.slice (.slice .int)))))) (xs:=a1) (k:=.i64) (m:=((l11_m19:Nat):Int)) (Ay _) e17) ?_;refine rsB 3 ?_;refine Ao (tn_ ?_);refine wr_ ?_;refine Ab ?_;refine Ax h (fun (l19_m32:Bool) S_=>S_=⟨An [(0,ai a0),(5,.mp (oi 0 1)),(7,.box (oi 1 1) 0),(17,.tree (.pair .str (.pair (.slice (.pair .int (.pair .int .str))) (.pair .int (.pair .int (.slice (.slice .int)))))) a1),(18,ai ((a1.length:Nat):Int)),(19,ai ((l11_m19:Nat):Int)),(32,.bool l19_m32)],Aj (Ap [(oi 0 1,.map 74 .bool l11_m5),(oi 1 1,.cells 37 [.str x17.1,.tree (.pair .int (.pair .int .str)) x17.2.1,ai x17.2.2.1,ai x17.2.2.2.1,.tree (.slice .int) x17.2.2.2.2])]),2⟩) ?_ ?_
   ·intro v_ h;obtain ⟨y20,h20,h⟩:=Ag h;rcases Ad h with ⟨q21,h⟩ | ⟨q21,h⟩
    ·refine Aa 17 ?_;refine rz0 (ai a0) ?_;refine rzl (.agg [.str x17.1,.tree (.pair .int (.pair .int .str)) x17.2.1,ai x17.2.2.1,ai x17.2.2.2.1,.tree (.slice .int) x17.2.2.2.2]) ?_;refine zc (.bool y20) [] [ai a0,.agg [.str x17.1,.tree (.pair .int (.pair .int .str)) x17.2.1,ai x17.2.2.1,ai x17.2.2.2.1,.tree (.slice .int) x17.2.2.2.2]] (Ju h20) ?_;refine rz0 (.bool (!y20)) ?_;refine rz0 (.bool (!y20)) ?_;refine zs q21 ?_;refine zs q21 ?_;refine zs q21 ?_;refine zs q21 ?_;refine rs0 (.bool true) (zT q21) ?_;refine Ao (tn_ ?_);obtain rfl:=zj h;exact ⟨_,Ac [(oi 1 1,oi 7 5)],rfl⟩
    obtain ⟨g22,h⟩:=Av h;refine Aa 17 ?_;refine rz0 (ai a0) ?_;refine rzl (.agg [.str x17.1,.tree (.pair .int (.pair .int .str)) x17.2.1,ai x17.2.2.1,ai x17.2.2.2.1,.tree (.slice .int) x17.2.2.2.2]) ?_;refine zc (.bool y20) [] [ai a0,.agg [.str x17.1,.tree (.pair .int (.pair .int .str)) x17.2.1,ai x17.2.2.1,ai x17.2.2.2.1,.tree (.slice .int) x17.2.2.2.2]] (Ju h20) ?_;refine rz0 (.bool (!y20)) ?_;refine rz0 (.bool (!y20)) ?_;refine rs0 (.mp (oi 0 1)) (zg q21) ?_;refine rs0 (.box (oi 7 5) 0) (zg q21) ?_;refine rsl (.str x17.1) (zg q21) ?_;refine rsl (.bool ((E5 l11_m5 (Kg x17.1)).getD false)) (Fl (by kernel_rfl) q21 (Aqi (oi 0 1) (t:=.bool) (es:=l11_m5) (k:=x17.1) (by kernel_rfl) (by kernel_rfl) (by kernel_rfl) g22)) ?_;refine rs0 (.bool ((E5 l11_m5 (Kg x17.1)).getD false)) (zF q21) ?_;refine Ao (tn_ ?_);obtain rfl:=zj h;exact ⟨_,Ac [(oi 1 1,oi 7 5)],rfl⟩
   rintro l19_m32 _ rfl h
   (try dsimp only at h);rcases Ad h with ⟨q23,h⟩ | ⟨q23,h⟩
   ·refine Af q23 ?_;refine Ak ?_;refine Ah (tr_ (br_ (tr_ (tr_ (br_ (tr_ ?_))))));obtain rfl:=zj h;have h:=hn11
    (try dsimp only at h);obtain rfl:=zj h;have h:=hk9
    (try dsimp only at h);obtain rfl:=zj h;exact A3 [.bool false] (Aq rfl zl Ar)
   refine Ae q23 ?_;refine Ai (tn_ ?_);refine wr_ ?_;obtain ⟨g25,h⟩:=Av h;refine Aa 6 ?_;refine rz0 (.mp (oi 0 1)) ?_;refine rz0 (.box (oi 1 1) 0) ?_;refine rzl (.str x17.1) ?_;refine Ahf (oi 0 1) (oi 0 1) (.map 74 .bool (Nx l11_m5 (Kg x17.1) true)) (Ar0 (es:=l11_m5) (k:=x17.1) (nv:=true) (by kernel_rfl) (by kernel_rfl) (by kernel_rfl) (by kernel_rfl) g25) ?_;refine Ao (bn_ (tn_ ?_));refine wr_ ?_;obtain ⟨g26,h⟩:=Av h;refine Aa 8 ?_;refine rs0 (ai ((l11_m19+1:Nat):Int)) (za g26) ?_;refine rsB 1 ?_;refine Ao (tn_ ?_);obtain rfl:=zj h;exact ⟨(l11_m19+1,Nx l11_m5 (Kg x17.1) true),_,Ac [],⟨l11_m19+1,Nx l11_m5 (Kg x17.1) true,rfl,rfl⟩,hn11⟩
  have q14_:=of_decide_eq_false q14;refine Ae q14 ?_;refine Az (te_ (te_ (be_ (tn_ ?_))));obtain rfl:=zj h;have h:=hn11
  (try dsimp only at h);obtain rfl:=zj h;exact ⟨(),_,rfl,Ac [],rfl⟩
 rintro _ _ rfl h
 (try dsimp only at h);refine Ak ?_;refine Ah ?_;obtain rfl:=zj h;exact A3 [.bool true] (Aq rfl zl Ar)
def Je:AC :=
 (.seq (rg [xo 4 (qm (cb false))])
 (.seq (rg [xo 5 (qm (tm 0)),xo 6 (qm (tm 1)),⟨some 7,none,qc 24 [tm 5,tm 6] [[],[some (.pair .str (.pair (.slice (.pair .int (.pair .int .str))) (.pair .int (.pair .int (.slice (.slice .int))))))]]⟩,xo 4 (qm (tm 7))])
 .ret))
def O9:List Res:=[.tmp 4]
theorem Pw:Am Tryd.prog Tryd.f13=some (Je,O9):=by kernel_rfl
def D0 (a0:Int) (a1:List (ByteArray×(List (Int×Int×ByteArray))×Int×Int×List (List Int))):Option Bool :=
 Option.bind (Cu a0 a1) fun y3 =>
some y3
def Oi (r:Bool):RV:=⟨false,[(false,[.sc (.bool r)])]⟩
theorem Ok {a0:Int} {a1:List (ByteArray×(List (Int×Int×ByteArray))×Int×Int×List (List Int))} {r:Bool} (h:D0 a0 a1=some r):Aw Tryd.prog Tab 13 [ai a0,.tree (.pair .str (.pair (.slice (.pair .int (.pair .int .str))) (.pair .int (.pair .int (.slice (.slice .int)))))) a1] (Oi r):=by
 refine At (by kernel_rfl) Tryd.func13 Pw (n:=8) (by kernel_rfl) (by simp) (tl:=[(0,ai a0),(1,.tree (.pair .str (.pair (.slice (.pair .int (.pair .int .str))) (.pair .int (.pair .int (.slice (.slice .int)))))) a1)]) rfl ?_;unfold Je;unfold D0 at h;refine Ak ?_;refine Ab ?_;obtain ⟨y3,h3,h⟩:=Ag h;refine Aa 6 ?_;refine rz0 (ai a0) ?_;refine rz0 (.tree (.pair .str (.pair (.slice (.pair .int (.pair .int .str))) (.pair .int (.pair .int (.slice (.slice .int)))))) a1) ?_;refine zc (.bool y3) [] [ai a0,.tree (.pair .str (.pair (.slice (.pair .int (.pair .int .str))) (.pair .int (.pair .int (.slice (.slice .int)))))) a1] (Og h3) ?_;refine rsB 1 ?_;refine Ao (tn_ ?_);refine wr_ ?_;refine Ah ?_;obtain rfl:=zj h;exact A3 [.bool y3] (Aq rfl zl Ar)
def F3:AC :=
 (.seq (rg [xo 4 (qm (cb false))])
 (.seq (rg [xo 5 (qm (ci 1048576))])
 (.seq (rg [xo 9 (qm (tm 1)),xo 10 (qm (tm 5)),⟨some 11,none,qc 10 [tm 9,tm 10] [[some (.pair .str (.pair (.slice (.pair .int (.pair .int .str))) (.pair .int (.pair .int (.slice (.slice .int))))))],[]]⟩,xo 5 (qm (tm 11))])
 (.seq (.seq (rg [xo 12 (qm (tm 5)),xo 13 (qb .lss (tm 12) (ci 0))])
 (.cond (tm 13)
  (.seq (rg [xo 4 (qm (cb true))])
  .ret)
  .skip))
 (.seq (rg [xo 14 (qm (tm 0)),xo 15 (qm (tm 1)),⟨some 16,none,qc 12 [tm 15] [[some (.pair .str (.pair (.slice (.pair .int (.pair .int .str))) (.pair .int (.pair .int (.slice (.slice .int))))))]]⟩,⟨some 17,none,qc 11 [tm 14,tm 16] [[],[some (.pair .str (.pair (.slice (.pair .int (.pair .int .str))) (.pair .int (.pair .int (.slice (.slice .int))))))]]⟩,xo 6 (qm (tm 17))])
 (.seq (rg [xo 18 (qm (tm 1)),⟨some 19,none,qc 12 [tm 18] [[some (.pair .str (.pair (.slice (.pair .int (.pair .int .str))) (.pair .int (.pair .int (.slice (.slice .int))))))]]⟩,xo 7 (qm (tm 19))])
 (.seq (rg [xo 20 (qm (tm 0)),xo 21 (qm (tm 7)),⟨some 22,none,qc 13 [tm 20,tm 21] [[],[some (.pair .str (.pair (.slice (.pair .int (.pair .int .str))) (.pair .int (.pair .int (.slice (.slice .int))))))]]⟩,xo 8 (qm (tm 22))])
 (.seq (.seq (rg [xo 23 (qm (tm 8)),xo 24 (qm (tm 6)),xo 25 (.i (.cmp true 0 (tm 23) (tm 24)))])
 (.cond (tm 25)
  (.seq (rg [xo 4 (qm (cb false))])
  .ret)
  .skip))
 (.seq (.seq (rg [xo 26 (qm (tm 7)),xo 27 (qm (tm 1)),⟨some 28,none,qc 12 [tm 27] [[some (.pair .str (.pair (.slice (.pair .int (.pair .int .str))) (.pair .int (.pair .int (.slice (.slice .int))))))]]⟩,⟨some 29,none,qc 14 [tm 26,tm 28] [[some (.pair .str (.pair (.slice (.pair .int (.pair .int .str))) (.pair .int (.pair .int (.slice (.slice .int))))))],[some (.pair .str (.pair (.slice (.pair .int (.pair .int .str))) (.pair .int (.pair .int (.slice (.slice .int))))))]]⟩,xo 30 (.i (.not (tm 29)))])
 (.cond (tm 30)
  (.seq (rg [xo 4 (qm (cb false))])
  .ret)
  .skip))
 (.seq (rg [xo 4 (qm (cb true))])
 .ret))))))))))
def Jv:List Res:=[.tmp 4]
theorem J1:Am Tryd.prog Tryd.f4=some (F3,Jv):=by kernel_rfl
def Bs (a0:Int) (a1:List (ByteArray×(List (Int×Int×ByteArray))×Int×Int×List (List Int))):Option Bool :=
 Option.bind (C4 a1 1048576) fun y4 =>
cond (decide (y4<0))
 (some true)
 (Option.bind (Bw a1) fun y10 =>
 Option.bind (D7 a0 y10) fun y11 =>
 Option.bind (Bw a1) fun y13 =>
 Option.bind (D0 a0 y13) fun y15 =>
 cond (y15 !=y11)
  (some false)
  (Option.bind (Bw a1) fun y22 =>
  Option.bind (C6 y13 y22) fun y23 =>
  cond (!y23)
   (some false)
   (some true)))
def Ji (r:Bool):RV:=⟨false,[(false,[.sc (.bool r)])]⟩
theorem Jh {a0:Int} {a1:List (ByteArray×(List (Int×Int×ByteArray))×Int×Int×List (List Int))} {r:Bool} (h:Bs a0 a1=some r):Aw Tryd.prog Tab 4 [ai a0,.tree (.pair .str (.pair (.slice (.pair .int (.pair .int .str))) (.pair .int (.pair .int (.slice (.slice .int)))))) a1] (Ji r):=by
 refine At (by kernel_rfl) Tryd.func4 J1 (n:=31) (by kernel_rfl) (by simp) (tl:=[(0,ai a0),(1,.tree (.pair .str (.pair (.slice (.pair .int (.pair .int .str))) (.pair .int (.pair .int (.slice (.slice .int)))))) a1)]) rfl ?_;unfold F3;unfold Bs at h;refine Ak ?_;refine Ak ?_;refine Ab ?_;obtain ⟨y4,h4,h⟩:=Ag h;refine Aa 7 ?_;refine rz0 (.tree (.pair .str (.pair (.slice (.pair .int (.pair .int .str))) (.pair .int (.pair .int (.slice (.slice .int)))))) a1) ?_;refine rz0 (ai 1048576) ?_;refine zc (ai y4) [] [.tree (.pair .str (.pair (.slice (.pair .int (.pair .int .str))) (.pair .int (.pair .int (.slice (.slice .int)))))) a1,ai 1048576] (P1 h4) ?_;refine rsB 1 ?_;refine Ao (tn_ ?_);refine wr_ ?_;refine Ab ?_;refine Ak ?_;rcases Ad h with ⟨q7,h⟩ | ⟨q7,h⟩
 ·have q7_:=of_decide_eq_true q7;refine Af q7 ?_;refine Ak ?_;refine Ah (tr_ ?_);obtain rfl:=zj h;exact A3 [.bool true] (Aq rfl zl Ar)
 have q7_:=of_decide_eq_false q7;refine Ae q7 ?_;refine Ai (tn_ ?_);refine wr_ ?_;refine Ab ?_;obtain ⟨y10,h10,h⟩:=Ag h;obtain ⟨y11,h11,h⟩:=Ag h;refine Aa 14 ?_;refine rz0 (ai a0) ?_;refine rz0 (.tree (.pair .str (.pair (.slice (.pair .int (.pair .int .str))) (.pair .int (.pair .int (.slice (.slice .int)))))) a1) ?_;refine zc (.tree (.pair .str (.pair (.slice (.pair .int (.pair .int .str))) (.pair .int (.pair .int (.slice (.slice .int)))))) y10) [] [.tree (.pair .str (.pair (.slice (.pair .int (.pair .int .str))) (.pair .int (.pair .int (.slice (.slice .int)))))) a1] (Gi h10) ?_;refine zc (.bool y11) [] [ai a0,.tree (.pair .str (.pair (.slice (.pair .int (.pair .int .str))) (.pair .int (.pair .int (.slice (.slice .int)))))) y10] (Oh h11) ?_;refine rsB 1 ?_;refine Ao (tn_ ?_);refine wr_ ?_;refine Ab ?_;obtain ⟨y13,h13,h⟩:=Ag h;refine Aa 17 ?_;refine rz0 (.tree (.pair .str (.pair (.slice (.pair .int (.pair .int .str))) (.pair .int (.pair .int (.slice (.slice .int)))))) a1) ?_;refine zc (.tree (.pair .str (.pair (.slice (.pair .int (.pair .int .str))) (.pair .int (.pair .int (.slice (.slice .int)))))) y13) [] [.tree (.pair .str (.pair (.slice (.pair .int (.pair .int .str))) (.pair .int (.pair .int (.slice (.slice .int)))))) a1] (Gi h13) ?_;refine rsB 1 ?_;refine Ao (tn_ ?_);refine wr_ ?_;refine Ab ?_;obtain ⟨y15,h15,h⟩:=Ag h;refine Aa 21 ?_;refine rz0 (ai a0) ?_;refine rz0 (.tree (.pair .str (.pair (.slice (.pair .int (.pair .int .str))) (.pair .int (.pair .int (.slice (.slice .int)))))) y13) ?_;refine zc (.bool y15) [] [ai a0,.tree (.pair .str (.pair (.slice (.pair .int (.pair .int .str))) (.pair .int (.pair .int (.slice (.slice .int)))))) y13] (Ok h15) ?_;refine rsB 1 ?_;refine Ao (tn_ ?_);refine wr_ ?_;refine Ab ?_;refine Ak ?_;rcases Ad h with ⟨q18,h⟩ | ⟨q18,h⟩
 ·refine Af q18 ?_;refine Ak ?_;refine Ah (tr_ ?_);obtain rfl:=zj h;exact A3 [.bool false] (Aq rfl zl Ar)
 refine Ae q18 ?_;refine Ai (tn_ ?_);refine wr_ ?_;refine Ab ?_;refine Ab ?_;obtain ⟨y22,h22,h⟩:=Ag h;obtain ⟨y23,h23,h⟩:=Ag h;refine Aa 29 ?_;refine rz0 (.tree (.pair .str (.pair (.slice (.pair .int (.pair .int .str))) (.pair .int (.pair .int (.slice (.slice .int)))))) y13) ?_;refine rz0 (.tree (.pair .str (.pair (.slice (.pair .int (.pair .int .str))) (.pair .int (.pair .int (.slice (.slice .int)))))) a1) ?_;refine zc (.tree (.pair .str (.pair (.slice (.pair .int (.pair .int .str))) (.pair .int (.pair .int (.slice (.slice .int)))))) y22) [] [.tree (.pair .str (.pair (.slice (.pair .int (.pair .int .str))) (.pair .int (.pair .int (.slice (.slice .int)))))) a1] (Gi h22) ?_;refine zc (.bool y23) [] [.tree (.pair .str (.pair (.slice (.pair .int (.pair .int .str))) (.pair .int (.pair .int (.slice (.slice .int)))))) y13,.tree (.pair .str (.pair (.slice (.pair .int (.pair .int .str))) (.pair .int (.pair .int (.slice (.slice .int)))))) y22] (On h23) ?_;refine rsB 1 ?_;refine Ao (tn_ ?_);refine wr_ ?_;rcases Ad h with ⟨q24,h⟩ | ⟨q24,h⟩
 ·refine Af q24 ?_;refine Ak ?_;refine Ah (tr_ ?_);obtain rfl:=zj h;exact A3 [.bool false] (Aq rfl zl Ar)
 refine Ae q24 ?_;refine Ai (tn_ ?_);refine wr_ ?_;refine Ak ?_;refine Ah ?_;obtain rfl:=zj h;exact A3 [.bool true] (Aq rfl zl Ar)
end
section
abbrev Cp:=ByteArray×List Nd×Int×Int×List (List Int)
abbrev Df:=ByteArray×Int×Int×List Nd
def Ag7 (x:Cp):Prop:=x.2.1.length<=1048576∧x.2.2.2.2.length<=1048576∧Hu 1048576 x.2.2.2.2
noncomputable def W8 (p:Int) (x:Cp):Bool:=(Eh p x.1 x.2.1 x.2.2.1 x.2.2.2.1 x.2.2.2.2).getD false
theorem Aqb {p:Int} {x:Cp} (h:Ag7 x):Eh p x.1 x.2.1 x.2.2.1 x.2.2.2.1 x.2.2.2.2=some (W8 p x)∧Co p x.1 x.2.1 x.2.2.1 x.2.2.2.1 x.2.2.2.2=some (W8 p x):=by
 obtain ⟨v,h1,h2⟩:=Auv p x.1 x.2.1 x.2.2.1 x.2.2.2.1 x.2.2.2.2 (by have:=h.1; omega) h.2.1 h.2.2;have e:W8 p x=v:=by unfold W8; rw [h1]; rfl
 rw [e]; exact ⟨h1,h2⟩
theorem Anz (l:List Cp) (hl:l.length<=1048576):El l=some (l.map fun x=>((x.1,x.2.2.1,x.2.2.2.1,x.2.1):Df)):=by
 unfold El
 have key:A7 (fun s_:Nat×List Df=>C5 l s_.1 s_.2) 4611686018427387904 (0,[])=some ([]++l.map fun x=>((x.1,x.2.2.1,x.2.2.2.1,x.2.1):Df)):=by
  refine Vx l (fun x=>((x.1,x.2.2.1,x.2.2.2.1,x.2.1):Df)) [] (by omega) _ (fun j x h=>?_) ?_
  ·have:=Au h
   try dsimp only
   unfold C5;rw [Bd (by omega),cond_true,h,obs,As (by simp; omega),As (by omega)]
  ·try dsimp only
   unfold C5;rw [Ba (by omega),cond_false]
 rw [key]; rfl
theorem Ati (l:List Df) (hl:l.length<=1048576) (s:ByteArray):∃ k:Int,Fw l s=some k∧decide (0<=k)=l.any fun d=>d.1.toList==s.toList:=by
 unfold Fw
 have hs:∀ i x,l[i]? =some x->Ck l s i=some (if x.1.toList==s.toList then Ctl.out (Ctl.out (i:Int)) else Ctl.next (i+1)):=fun i x h=>by
  have:=Au h;unfold Ck;rw [Bd (by omega),cond_true,h,obs,As (by omega)];cases x.1.toList==s.toList <;> rfl
 have he:Ck l s l.length=some (Ctl.out (Ctl.next ())):=by
  unfold Ck;rw [Ba (by omega),cond_false]
 rcases Wp (body:=fun s_:Nat=>Ck l s s_) l (fun x=>x.1.toList==s.toList) (Ctl.next ()) (fun i=>Ctl.out (i:Int)) (F:=4611686018427387904) (by omega) hs he with ⟨h1,i,hi,h2⟩ | ⟨h1,h2⟩
 ·rw [h2,h1];exact ⟨_,rfl,Bd (by omega)⟩
 ·rw [h2,h1];exact ⟨_,rfl,rfl⟩
noncomputable def okL (p:Int):List ByteArray->List Cp->Bool
 | _,[]=>true
 | seen,x :: r=>(W8 p x&& !(seen.any fun n=>n.toList==x.1.toList))&&okL p (seen++[x.1]) r
theorem Aik {p:Int} {l:List Cp} {k:Nat} {x:Cp} (h:l[k]? =some x):okL p ((l.take k).map (·.1)) (l.drop k)=((W8 p x&& !(((l.take k).map (·.1)).any fun n=>n.toList==x.1.toList))&&okL p ((l.take (k+1)).map (·.1)) (l.drop (k+1))):=by
 obtain ⟨hk,e⟩:=gSi.1 h;rw [List.drop_eq_getElem_cons hk,List.take_add_one,h,e,List.map_append]; rfl
theorem Asg {p:Int} {l:List Cp} (hl:l.length<=1048576) (hc:∀ x∈l,Ag7 x):H2 p l=some (okL p [] l&&(isF p&&decide (((l.length:Nat):Int)<=12))):=by
 unfold H2
 have key:A7 (fun s_:Nat=>Fn l p s_) 4611686018427387904 0=some (if okL p [] l then Ctl.next () else Ctl.out false):=by
  refine Ft l.length (fun k s=>s=k∧okL p [] l=okL p ((l.take k).map (·.1)) (l.drop k)) (by omega) _ ⟨rfl,rfl⟩ ?_ ?_
  ·rintro k s hk ⟨hs,he⟩;subst hs;have hx:=gEg hk;have hst:=Aik (p:=p) hx;obtain ⟨g,_⟩:=Aqb (p:=p) (hc _ (List.getElem_mem hk));obtain ⟨j,hj,hj2⟩:=Ati ((l.take s).map fun x=>((x.1,x.2.2.1,x.2.2.2.1,x.2.1):Df)) (by simp; omega) l[s].1
   have e2:((l.take s).map fun x=>((x.1,x.2.2.1,x.2.2.2.1,x.2.1):Df)).any (fun d=>d.1.toList==l[s].1.toList)=(((l.take s).map (·.1)).any fun n=>n.toList==l[s].1.toList):=by
    rw [List.any_map,List.any_map]; rfl
   unfold Fn;rw [Bd (by omega),cond_true,hx,obs,g,obs];rw [hst] at he;cases hg:W8 p l[s]
   ·refine .inr ?_;rw [he,hg]; rfl
   rw [Bool.not_true,cond_false,As (by omega),Anz _ (by simp; omega),obs,hj,obs,obs,hj2,e2,As (by omega)];rw [hg,Bool.true_and] at he;cases hd:((l.take s).map (·.1)).any fun n=>n.toList==l[s].1.toList
   ·refine .inl ⟨s+1,rfl,rfl,?_⟩;rw [he,hd]; rfl
   ·refine .inr ?_;rw [he,hd]; rfl
  ·rintro s ⟨hs,he⟩;subst hs;rw [List.drop_length] at he;rw [he];unfold Fn;rw [Ba (by omega),cond_false]; rfl
 rw [key,Abv];cases okL p [] l
 ·rfl
 ·cases isF p <;> rfl
theorem Apy {es:List (Int×Bool)} {k:Int} {v:Bool}:(Nx es k v).length<=es.length+1:=by
 unfold Nx Ni;rw [List.length_cons];have:=List.length_filter_le (fun e:Int×Bool=> !(e.1==k)) es;omega
theorem Ape {p:Int} {l:List Cp} (hl:l.length<=1048576) (hc:∀ x∈l,Ag7 x) (hn:∀ x∈l,x.1.size<=maxLen):Cu p l=some (okL p [] l&&(isF p&&decide (((l.length:Nat):Int)<=12))):=by
 unfold Cu;rw [show Dr p=some (isF p) from rfl,obs];cases isF p
 ·rw [Bool.false_and,Bool.and_false]; rfl
 rw [Bool.not_true,cond_false,obs,Bool.true_and];by_cases h12:((l.length:Nat):Int)<=12
 ·rw [Ba (show ¬ 12<((l.length:Nat):Int) by omega),cond_false,Bd h12,Bool.and_true]
  have key:A7 (fun s_:Nat×List (Int×Bool)=>B9 l p s_.1 s_.2) 4611686018427387904 (0,[])=some (if okL p [] l then Ctl.next () else Ctl.out false):=by
   refine Ft l.length (fun k s=>∃ es,s=(k,es)∧okL p [] l=okL p ((l.take k).map (·.1)) (l.drop k)∧es.length<=k∧∀ s:ByteArray,(E5 es (Kg s)).getD false=((l.take k).map (·.1)).any fun n=>n.toList==s.toList) (by omega) _ ⟨[],rfl,rfl,Nat.le_refl _,fun _=>rfl⟩ ?_ ?_
   ·rintro k s hk ⟨es,rfl,he,hes,hm⟩;have hx:=gEg hk;have hst:=Aik (p:=p) hx;have hmem:=List.getElem_mem hk;obtain ⟨_,g⟩:=Aqb (p:=p) (hc _ hmem);have hsz:=hn _ hmem;generalize l[k]=x at *
    try dsimp only
    unfold B9;rw [Bd (by omega),cond_true,hx,obs,g,obs];rw [hst] at he;cases hg:W8 p x
    ·refine .inr ?_;rw [he,hg]; rfl
    rw [Bool.not_true,cond_false,As hsz,obs,hm,As ⟨hsz,by omega⟩,As (by omega)];rw [hg,Bool.true_and] at he;cases hd:((l.take k).map (·.1)).any fun n=>n.toList==x.1.toList
    ·refine .inl ⟨(k+1,Nx es (Kg x.1) true),rfl,_,rfl,by rw [he,hd]; rfl,Nat.le_trans Apy (by omega),fun s=>?_⟩;rw [List.take_add_one,hx,List.map_append,List.any_append];by_cases e:s=x.1
     ·subst e;rw [Ma];show true=_;simp
     ·have e':Kg s≠Kg x.1:=fun h=>e (Aj3 h)
      rw [Ku e',hm]
      have:(x.1.toList==s.toList)=false:=by
       rw [As1,beq_eq_false_iff_ne];intro h
       exact e (by
        have:=Array.toList_inj.1 h;cases s; cases hx1:x.1;rw [hx1] at this;exact congrArg ByteArray.mk this.symm)
      simp [this]
    ·refine .inr ?_;rw [he,hd]; rfl
   ·rintro s ⟨es,rfl,he,_,_⟩;rw [List.drop_length] at he;rw [he]
    try dsimp only
    unfold B9;rw [Ba (by omega),cond_false]; rfl
  rw [key];cases okL p [] l <;> rfl
 ·rw [Bd (show 12<((l.length:Nat):Int) by omega),Ba h12,Bool.and_false]; rfl
-- copies, sizes, comparisons
theorem Arn (l:List Cp) (hl:l.length<=1048576) (hc:∀ x∈l,Ag7 x):Bw l=some l:=by
 unfold Bw;rw [As (by omega)];generalize Ty.dflt (.pair .str (.pair (.slice (.pair .int (.pair .int .str))) (.pair .int (.pair .int (.slice (.slice .int))))))=z
 have h:A7 (fun s_:Nat×List Cp=>Cb l s_.1 s_.2) 4611686018427387904 (0,List.replicate l.length z)=some l:=by
  refine Cn l.length (fun i=>(i,l.take i++List.replicate (l.length - i) z)) (by omega) l (by simp) (fun i hi=>?_) ?_
  ·have hx:=gEg hi;have hk:=hc _ (List.getElem_mem hi)
   try dsimp only
   unfold Cb;rw [Bd (by omega),cond_true,hx,obs,Add _ _ _ _ _ hk.1 hk.2.1 hk.2.2,obs,Qj hi,obs,As (by omega),Qf hx]
  ·try dsimp only
   unfold Cb;rw [Ba (by omega),cond_false];simp
 rw [h]; rfl
theorem Aro (l:List Cp) (hl:l.length<=1048576) (hc:∀ x∈l,Ag7 x):C6 l l=some true:=by
 unfold C6;rw [bne_self_eq_false,cond_false]
 have h:A7 (fun s_:Nat=>Ce l l s_) 4611686018427387904 0=some (Ctl.next ()):=by
  refine Cn l.length (fun i=>i) (by omega) _ rfl (fun i hi=>?_) ?_
  ·have hx:=gEg hi;have hk:=hc _ (List.getElem_mem hi)
   try dsimp only
   unfold Ce;rw [Bd (by omega),cond_true,hx,obs,obs,Acs _ _ _ _ _ hk.1 hk.2.1 hk.2.2,obs,Bool.not_true,cond_false,As (by omega)]
  ·try dsimp only
   unfold Ce;rw [Ba (by omega),cond_false]
 rw [h]; rfl
def Atw (x:Cp):Prop:=x.1.size<=9223372036854775807∧x.2.1.length<=9223372036854775807∧(∀ n∈x.2.1,n.2.2.size<=9223372036854775807)∧x.2.2.2.2.length<=9223372036854775807∧Hu 9223372036854775807 x.2.2.2.2
theorem Aq2 (l:List Cp) {v:Int} (hv:0<=v∧v<=1048576) (hl:l.length<=9223372036854775807) (hi:∀ x∈l,Atw x):∃ y,C4 l v=some y∧(y<0∨(0<=y∧y<=v∧l.length<=1048576∧∀ x∈l,Ag7 x)):=by
 unfold C4;rw [B4 (n:=v - ((l.length:Nat):Int)) (by omega) (by omega)];by_cases h:v - ((l.length:Nat):Int)<0
 ·rw [Bd h]; exact ⟨_,rfl,.inl (by omega)⟩
 rw [Ba h,cond_false]
 have key:∃ c,A7 (fun s_:Int×Nat=>Cd l s_.1 s_.2) 4611686018427387904 (v - ((l.length:Nat):Int),0)=some c∧((∃ y,c=Ctl.next y∧0<=y∧y<=v∧∀ x∈l,Ag7 x)∨∃ y,c=Ctl.out y∧y<0):=by
  refine Ki (Post:=fun c=>(∃ y,c=Ctl.next y∧0<=y∧y<=v∧∀ x∈l,Ag7 x)∨∃ y,c=Ctl.out y∧y<0) l.length (fun k s=>s.2=k∧0<=s.1∧s.1<=v∧∀ x∈l.take k,Ag7 x) (by omega) ⟨rfl,by dsimp only; omega,by dsimp only; omega,by simp⟩ ?_ ?_
  ·rintro k ⟨y,k'⟩ hk ⟨h1,h2,h3,h4⟩;dsimp only at h1 h2 h3;subst h1;have hn:=gEg hk;obtain ⟨z1,z2,z3,z4,z5⟩:=hi _ (List.getElem_mem hk);obtain ⟨y',hy,hq⟩:=Acm l[k'].1 l[k'].2.1 l[k'].2.2.1 l[k'].2.2.2.1 l[k'].2.2.2.2 (v:=y) (by omega) z1 z2 z3 z4 z5
   try dsimp only
   unfold Cd;rw [Bd (by omega),cond_true,hn,obs,hy,obs];rcases hq with hq | ⟨q1,q2,q3,q4,q5⟩
   ·rw [Bd hq];exact .inr ⟨_,rfl,.inr ⟨_,rfl,by omega⟩⟩
   ·rw [Ba (by omega),cond_false,As (by omega)];refine .inl ⟨_,rfl,rfl,by dsimp only; omega,by dsimp only; omega,fun x hx=>?_⟩;rw [List.take_add_one,hn] at hx;rcases List.mem_append.1 hx with hx | hx
    ·exact h4 x hx
    ·obtain rfl:=List.mem_singleton.1 hx;exact ⟨q3,q4,q5⟩
  ·rintro ⟨y,k'⟩ ⟨h1,h2,h3,h4⟩;dsimp only at h1 h2 h3;subst h1;rw [List.take_length] at h4
   try dsimp only
   unfold Cd;rw [Ba (by omega),cond_false];exact ⟨_,rfl,.inl ⟨_,rfl,h2,h3,h4⟩⟩
 obtain ⟨c,hc,⟨y,rfl,h1,h2,h3⟩ | ⟨y,rfl,h1⟩⟩:=key
 ·rw [hc]; exact ⟨_,rfl,.inr ⟨h1,h2,by omega,h3⟩⟩
 ·rw [hc]; exact ⟨_,rfl,.inl h1⟩
theorem Ar2 {R:Nat->Prop} {w:World} {t:Ty} {A:Option Addr} {c:Nat} {xs:List t.D} {l:List Addr} (h:Sl R w t A c xs l):∀ x∈xs,∃ a l',Ty.Mem R w t a x l':=by
 obtain ⟨_,_,f,_,h4⟩:=h;intro x hx;obtain ⟨i,hi,rfl⟩:=List.getElem_of_mem hx;obtain ⟨_,_,_,h5⟩:=h4 (by omega);exact ⟨_,_,h5 i hi⟩
theorem Ari {R:Nat->Prop} {w:World} {A:Option Addr} {c:Nat} {xs:List Cp} {l:List Addr} (h:Sl R w (.pair .str (.pair (.slice (.pair .int (.pair .int .str))) (.pair .int (.pair .int (.slice (.slice .int)))))) A c xs l) (hi:Ty.In (.slice (.pair .str (.pair (.slice (.pair .int (.pair .int .str))) (.pair .int (.pair .int (.slice (.slice .int))))))) xs):∀ x∈xs,Atw x:=by
 intro x hx;obtain ⟨a,l',_,_,_,⟨_,_,⟨A1,c1,_,h1⟩,⟨_,_,_,⟨_,_,_,⟨A2,c2,_,h2⟩,_⟩,_⟩,_⟩,_⟩:=Ar2 h x hx;have i0:=hi x hx;exact ⟨Nat.le_trans i0.1 (by decide),(Ahb h1).2,fun n hn=>Nat.le_trans (i0.2.1 n hn).2.2 (by decide),(Ahb h2).2,Ash h2⟩
theorem An8 {p:Int} {l:List Cp} (hl:l.length<=9223372036854775807) (hi:∀ x∈l,Atw x) (hn:∀ x∈l,x.1.size<=maxLen):Bs p l=some true:=by
 unfold Bs D7 D0;obtain ⟨y,hy,h1 | ⟨h1,h2,h3,h4⟩⟩:=Aq2 l (v:=1048576) (by omega) hl hi
 ·rw [hy,obs,Bd h1]; rfl
 rw [hy,obs,Ba (by omega),cond_false];simp only [Arn l h3 h4,obs,Asg h3 h4,Ape h3 h4 hn,Aro l h3 h4,bne_self_eq_false,cond_false,Bool.not_true]
end
section
open Go.RowKit Go.Deep
theorem areComponents_walk (p:Int) (l:List (ByteArray×(List (Int×Int×ByteArray))×(Int×Int×(List (List Int))))) (A_l:Option Addr) (c_l:Nat) (l_l:List Addr) (w:World) (_i_p: -9223372036854775808<=p∧p<=9223372036854775807) (s_l:Sl (fun _=>True) w (.pair .str (.pair (.slice (.pair .int (.pair .int .str))) (.pair .int (.pair .int (.slice (.slice .int)))))) A_l c_l l l_l) (i_l:Ty.In (.slice (.pair .str (.pair (.slice (.pair .int (.pair .int .str))) (.pair .int (.pair .int (.slice (.slice .int))))))) l) (tab:Tab w) :
  Calls Tryd.prog 4 #[.int .i64 p,.slice A_l l.length c_l] w fun e w'=>e=.returned (.bool true)∧Below w.heap.size w w':=by
 have hl:Bs p l=some true:=An8 (Ahb s_l).2 (Ari s_l i_l) (fun x hx=>(i_l x hx).1);refine (Jh hl w (fun _=>True) [.int .i64 p,.slice A_l l.length c_l] (fun w' hb=>tab.below hb) ⟨_,_,rfl,rfl,⟨_,_,rfl,⟨A_l,c_l,l_l,rfl,s_l⟩,rfl⟩⟩).mono ?_;rintro e w' ⟨u,rfl,hb,us,ls,h1,_,rfl⟩;obtain ⟨u1,us1,rfl,h2,_,rfl,rfl⟩:=h1;obtain rfl:u1=.bool true:=h2;exact ⟨rfl,hb⟩
end
end Go.Proofs.YtodopnonpadpfaaDoor
