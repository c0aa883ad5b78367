/- Lemmas on the program and on partial functions that stand in place of its code (part 8); no condition beyond those that each one states. -/
import Derived.Test.YtodopnonpadpfaaDoorZ7
import Derived.Deep.RegionHeld3
namespace Go.Proofs.YtodopnonpadpfaaDoor
section
def X9 (p:Int) (xs:List Nd):Bool:=xs.all fun n=> !((n.1==7||n.1==13)&&decide (p<=n.2.1))
def Als (xs:List Nd):Bool:=xs.all fun n=> !(n.1==8||n.1==14)
theorem Anz (xs:List Nd) (p:Int) (hx:xs.length<=1073741824):C5 xs p=some (isF p&&((tyV xs).isSome&&X9 p xs)):=by
 unfold C5 Du;obtain ⟨r,hr,hm⟩:=Akj xs;rw [show Fh p=some (isF p) from rfl,obs,hr];cases hp:isF p
 ·rfl
 have e:r.2.2=(tyV xs).isSome:=by
  cases ht:tyV xs with
  | none=>rw [ht] at hm; exact hm
  | some w=>rw [ht] at hm; dsimp only at hm; rw [hm]; rfl
 rw [Bool.not_true,cond_false,obs,obs,obs,e,Bool.true_and];cases (tyV xs).isSome
 ·rfl
 rw [Bool.not_true,cond_false,Bool.true_and]
 have key:A4 (fun s_:Nat=>Cb xs p s_) 4611686018427387904 0=some (if X9 p xs then Ctl.next () else Ctl.out false):=by
  refine E8 xs (fun n=> !((n.1==7||n.1==13)&&decide (p<=n.2.1))) (Ctl.next ()) (Ctl.out false) (by omega) (fun i n h=>?_) ?_
  ·have:=Au h;unfold Cb De;rw [Bd (by omega),cond_true,h,obs,At (by omega)];cases n.1==7 <;> cases n.1==13 <;> cases decide (p<=n.2.1) <;> rfl
  ·unfold Cb;rw [Ba (by omega),cond_false]
 rw [key,Iz]
theorem Ain (xs:List Nd) (p:Int) (hx:xs.length<=1073741824):Cj xs p=some ((isF p&&((tyV xs).isSome&&X9 p xs))&&Als xs):=by
 unfold Cj;rw [Anz xs p hx,obs];cases isF p&&((tyV xs).isSome&&X9 p xs)
 ·rfl
 rw [Bool.not_true,cond_false,Bool.true_and]
 have key:A4 (fun s_:Nat=>B3 xs s_) 4611686018427387904 0=some (if Als xs then Ctl.next () else Ctl.out false):=by
  refine E8 xs (fun n=> !(n.1==8||n.1==14)) (Ctl.next ()) (Ctl.out false) (by omega) (fun i n h=>?_) ?_
  ·have:=Au h;unfold B3 Hd;rw [Bd (by omega),cond_true,h,obs,At (by omega)];cases n.1==8 <;> cases n.1==14 <;> rfl
  ·unfold B3;rw [Ba (by omega),cond_false]
 rw [key,Iz]
theorem Anw (xs:List Nd) (p:Int) (hx:xs.length<=1073741824):Gk p xs=some ((tyV xs).isSome&&(isF p&&X9 p xs)):=by
 unfold Gk;obtain ⟨F,I,O,b,h,hm⟩:=Ahj xs
 have e:b=(tyV xs).isSome:=by
  cases ht:tyV xs with
  | none=>rw [ht] at hm; exact hm
  | some w=>rw [ht] at hm; exact hm.1
 rw [h,obs,Ag0,e];cases (tyV xs).isSome
 ·rfl
 rw [Bool.not_true,cond_false,obs,obs];cases hp:isF p
 ·rfl
 rw [Bool.not_true,cond_false,Bool.true_and,Bool.true_and]
 have key:A4 (fun s_:Nat=>D5 xs p s_) 4611686018427387904 0=some (if X9 p xs then Ctl.next () else Ctl.out false):=by
  refine E8 xs (fun n=> !((n.1==7||n.1==13)&&decide (p<=n.2.1))) (Ctl.next ()) (Ctl.out false) (by omega) (fun i n h=>?_) ?_
  ·have:=Au h;unfold D5;rw [Bd (by omega),cond_true,h,obs,At (by omega)];cases n.1==7 <;> cases n.1==13 <;> cases decide (p<=n.2.1) <;> rfl
  ·unfold D5;rw [Ba (by omega),cond_false]
 rw [key,Iz]
theorem Ail (xs:List Nd) (hx:xs.length<=1073741824):Dk xs=some (Als xs):=by
 unfold Dk
 have key:A4 (fun s_:Nat=>Ci xs s_) 4611686018427387904 0=some (if Als xs then Ctl.next () else Ctl.out false):=by
  refine E8 xs (fun n=> !(n.1==8||n.1==14)) (Ctl.next ()) (Ctl.out false) (by omega) (fun i n h=>?_) ?_
  ·have:=Au h;unfold Ci Fd;rw [Bd (by omega),cond_true,h,obs,At (by omega)];rw [show (n.1 !=8)= !(n.1==8) from rfl,show (n.1 !=14)= !(n.1==14) from rfl];cases n.1==8 <;> cases n.1==14 <;> rfl
  ·unfold Ci;rw [Ba (by omega),cond_false]
 rw [key,Iz]
theorem Arg (p:Int) (s:ByteArray) (xs:List Nd) (l r:Int) (b:List (List Int)) (hx:xs.length<=1073741824) (hb:b.length<=1048576) (hr:Ha 1048576 b):∃ v,Gl p s xs l r b=some v∧C6 p s xs l r b=some v:=by
 unfold Gl C6;obtain ⟨nm,n1,n2⟩:=Ap5 s;obtain ⟨q,hq,hm⟩:=Akj xs;rw [Amn,obs,n1,n2,obs,Ain xs p hx,Anw xs p hx,Ail xs hx,Ame p l r b hb hr,Afu p l r b hb hr,hq];cases ht:tyV xs with
 | none =>
  refine ⟨false,rfl,?_⟩;cases nm
  ·rfl
  rw [Option.isSome_none,Bool.false_and,Bool.and_false,Bool.false_and]; rfl
 | some w =>
  rw [ht] at hm;dsimp only at hm;subst hm;rw [Option.isSome_some,Bool.true_and];dsimp only;cases nm
  ·exact ⟨false,rfl,rfl⟩
  generalize isF p=a1;generalize X9 p xs=a2;generalize Als xs=a3;generalize Af2 p l r b=a4
  have e:([w.1,w.2]==[l,r])=cond (l==w.1) (r==w.2) false:=by
   have c1:(w.1==l)=(l==w.1):=Bool.beq_comm;have c2:(w.2==r)=(r==w.2):=Bool.beq_comm;show (w.1==l&&(w.2==r&&(([]:List Int)==[])))=_;rw [c1,c2];cases l==w.1 <;> cases r==w.2 <;> rfl
  simp only [obs,e];cases a1 <;> cases a2 <;> cases a3 <;> cases a4 <;> cases l==w.1 <;> cases r==w.2 <;> exact ⟨_,rfl,rfl⟩
-- copies and comparisons
theorem Alm (xs:List Nd) (hx:xs.length<=1073741824):Fn xs=some xs:=by
 unfold Fn;rw [At (by omega)]
 have h:A4 (fun s_:Nat×List Nd=>Dg xs s_.1 s_.2) 4611686018427387904 (0,List.replicate xs.length ((0,0,(⟨#[]⟩:ByteArray)):Nd))=some xs:=by
  refine Cx xs.length (fun i=>(i,xs.take i++List.replicate (xs.length - i) ((0,0,(⟨#[]⟩:ByteArray)):Nd))) (by omega) xs (by simp) (fun i hi=>?_) ?_
  ·have hx:=gEg hi
   try dsimp only
   unfold Dg H0;rw [Bd (by omega),cond_true,hx,obs,obs,Uz hi,obs,At (by omega),Ua hx]
  ·try dsimp only
   unfold Dg;rw [Ba (by omega),cond_false];simp
 rw [h]; rfl
theorem Ak4 (xs:List Nd) (hx:xs.length<=1073741824):Fo xs xs=some true:=by
 unfold Fo;rw [bne_self_eq_false,cond_false]
 have h:A4 (fun s_:Nat=>Dq xs xs s_) 4611686018427387904 0=some (Ctl.next ()):=by
  refine Cx xs.length (fun i=>i) (by omega) _ rfl (fun i hi=>?_) ?_
  ·have hx:=gEg hi
   try dsimp only
   unfold Dq H1;rw [Bd (by omega),cond_true,hx,obs,obs,bne_self_eq_false,cond_false,bne_self_eq_false,cond_false,beq_self_eq_true,Bool.not_true,cond_false,obs,Bool.not_true,cond_false,At (by omega)]
  ·try dsimp only
   unfold Dq;rw [Ba (by omega),cond_false]
 rw [h]; rfl
theorem Ak1 (xs:List Nd) {v:Int} (hv:0<=v∧v<=1048576) (hx:xs.length<=9223372036854775807) (hs:∀ n∈xs,n.2.2.size<=9223372036854775807):∃ y,Fi xs v=some y∧(y<0∨(0<=y∧y<=v∧((xs.length:Nat):Int)<=v)):=by
 unfold Fi;rw [B2 (n:=v - ((xs.length:Nat):Int)) (by omega) (by omega)];by_cases h:v - ((xs.length:Nat):Int)<0
 ·rw [Bd h]; exact ⟨_,rfl,.inl (by omega)⟩
 rw [Ba h,cond_false]
 have key:∃ c,A4 (fun s_:Int×Nat=>Dr xs s_.1 s_.2) 4611686018427387904 (v - ((xs.length:Nat):Int),0)=some c∧((∃ y,c=Ctl.next y∧0<=y∧y<=v)∨∃ y,c=Ctl.out y∧y<0):=by
  refine Ml (Post:=fun c=>(∃ y,c=Ctl.next y∧0<=y∧y<=v)∨∃ y,c=Ctl.out y∧y<0) xs.length (fun k s=>s.2=k∧0<=s.1∧s.1<=v) (by omega) ⟨rfl,by dsimp only; omega,by dsimp only; omega⟩ ?_ ?_
  ·rintro k ⟨y,k'⟩ hk ⟨h1,h2,h3⟩;dsimp only at h1 h2 h3;subst h1;have hn:=gEg hk;have hz:=hs _ (List.getElem_mem hk)
   try dsimp only
   unfold Dr H5;rw [Bd (by omega),cond_true,hn,obs,B2 (n:=y - ((xs[k'].2.2.size:Nat):Int)) (by omega) (by omega)];by_cases h4:y - ((xs[k'].2.2.size:Nat):Int)<0
   ·rw [Bd h4];exact .inr ⟨_,rfl,.inr ⟨_,rfl,by omega⟩⟩
   ·rw [Ba h4,cond_false,obs,Ba h4,cond_false,At (by omega)];exact .inl ⟨_,rfl,rfl,by dsimp only; omega,by dsimp only; omega⟩
  ·rintro ⟨y,k'⟩ ⟨h1,h2,h3⟩;dsimp only at h1 h2 h3;subst h1
   try dsimp only
   unfold Dr;rw [Ba (by omega),cond_false];exact ⟨_,rfl,.inl ⟨_,rfl,h2,h3⟩⟩
 obtain ⟨c,hc,⟨y,rfl,h1,h2⟩ | ⟨y,rfl,h1⟩⟩:=key
 ·rw [hc]; exact ⟨_,rfl,.inr ⟨h1,h2,by omega⟩⟩
 ·rw [hc]; exact ⟨_,rfl,.inl h1⟩
theorem Acb (s:ByteArray) (xs:List Nd) (l r:Int) (b:List (List Int)) {v:Int} (hv:0<=v∧v<=1048576) (h0:s.size<=9223372036854775807) (hx:xs.length<=9223372036854775807) (hs:∀ n∈xs,n.2.2.size<=9223372036854775807) (hb:b.length<=9223372036854775807) (hr:Ha 9223372036854775807 b) :
  ∃ y,C1 s xs l r b v=some y∧(y<0∨(0<=y∧y<=v∧xs.length<=1048576∧b.length<=1048576∧Ha 1048576 b)):=by
 unfold C1 H9;rw [B2 (n:=v - ((s.size:Nat):Int)) (by omega) (by omega)];by_cases h:v - ((s.size:Nat):Int)<0
 ·rw [Bd h]; exact ⟨_,rfl,.inl (by omega)⟩
 rw [Ba h,cond_false];obtain ⟨y,hy,h1 | ⟨h1,h2,h3⟩⟩:=Ak1 xs (v:=v - ((s.size:Nat):Int)) (by omega) hx hs
 ·rw [hy,obs,Bd h1]; exact ⟨_,rfl,.inl (by omega)⟩
 ·rw [hy,obs,Ba (by omega),cond_false,obs,Ba (by omega),cond_false,Afm l r b (by omega) hb hr,obs];by_cases h4:szW y b<0
  ·rw [Bd h4]; exact ⟨_,rfl,.inl (by omega)⟩
  ·obtain ⟨g1,g2,g3⟩:=Aqe (by omega) h4;rw [Ba h4];exact ⟨_,rfl,.inr ⟨by omega,by omega,by omega,by omega,g2⟩⟩
theorem Abl (s:ByteArray) (xs:List Nd) (l r:Int) (b:List (List Int)) (hx:xs.length<=1048576) (hb:b.length<=1048576) (hr:Ha 1048576 b):B0 s xs l r b=some (s,xs,l,r,b):=by
 unfold B0 H8;rw [Alm xs (by omega),Ae1 l r b hb hr]; rfl
theorem Aau (s:ByteArray) (xs:List Nd) (l r:Int) (b:List (List Int)) (hx:xs.length<=1048576) (hb:b.length<=1048576) (hr:Ha 1048576 b):C9 s xs l r b s xs l r b=some true:=by
 unfold C9 H7;rw [Ak4 xs (by omega),Ae3 l r b hb hr,beq_self_eq_true]; rfl
end
section
open Go.RowKit Go.Deep
set_option maxRecDepth 4000
def J1:AC :=
 (.seq (rg [xo 3 (.i (.box 37 (tm 1))),xo 4 (qm (cb false))])
 (.seq (rg [xo 5 (qm (tm 0)),xo 6 (.i (.ld false 5 (tm 3))),⟨some 7,none,qc 17 [tm 5,tm 6] [[],[none,some (.pair .int (.pair .int .str)),none,none,some (.slice .int)]]⟩,xo 4 (qm (tm 7))])
 .ret))
def Rg:List Res:=[.tmp 4]
theorem Rc:Am Tryd.prog Tryd.f6=some (J1,Rg):=by kernel_rfl
def Es (a0:Int) (a1_0:ByteArray) (a1_1:List (Int×Int×ByteArray)) (a1_2:Int) (a1_3:Int) (a1_4:List (List Int)):Option Bool :=
 Option.bind (Gl a0 a1_0 a1_1 a1_2 a1_3 a1_4) fun y3 =>
some y3
def Pe (r:Bool):RV:=⟨false,[(false,[.sc (.bool r)])]⟩
theorem O6 {a0:Int} {a1_0:ByteArray} {a1_1:List (Int×Int×ByteArray)} {a1_2:Int} {a1_3:Int} {a1_4:List (List Int)} {r:Bool} (h:Es a0 a1_0 a1_1 a1_2 a1_3 a1_4=some r):Ax Tryd.prog Tab 6 [ai a0,.agg [.str a1_0,.tree (.pair .int (.pair .int .str)) a1_1,ai a1_2,ai a1_3,.tree (.slice .int) a1_4]] (Pe r):=by
 refine As (by kernel_rfl) Tryd.func6 Rc (n:=8) (by kernel_rfl) (by simp) (tl:=[(0,ai a0),(1,.agg [.str a1_0,.tree (.pair .int (.pair .int .str)) a1_1,ai a1_2,ai a1_3,.tree (.slice .int) a1_4])]) rfl ?_;unfold J1;unfold Es at h;refine Ak ?_;refine Ab ?_;obtain ⟨y3,h3,h⟩:=Ag h;refine Aa 7 ?_;refine rz0 (ai a0) ?_;refine rzl (.agg [.str a1_0,.tree (.pair .int (.pair .int .str)) a1_1,ai a1_2,ai a1_3,.tree (.slice .int) a1_4]) ?_;refine zc (.bool y3) [] [ai a0,.agg [.str a1_0,.tree (.pair .int (.pair .int .str)) a1_1,ai a1_2,ai a1_3,.tree (.slice .int) a1_4]] (Aah h3) ?_;refine rsB 1 ?_;refine Ao (tn_ ?_);refine wr_ ?_;refine Ah ?_;obtain rfl:=zj h;exact A0 [.bool y3] (Ap rfl zl Ar)
def Kd:AC :=
 (.seq (rg [xo 3 (.i (.box 37 (tm 1))),xo 4 (qm (cb false))])
 (.seq (rg [xo 5 (qm (tm 0)),xo 6 (.i (.ld false 5 (tm 3))),⟨some 7,none,qc 20 [tm 5,tm 6] [[],[none,some (.pair .int (.pair .int .str)),none,none,some (.slice .int)]]⟩,xo 4 (qm (tm 7))])
 .ret))
def Qm:List Res:=[.tmp 4]
theorem Ra:Am Tryd.prog Tryd.f8=some (Kd,Qm):=by kernel_rfl
def Ew (a0:Int) (a1_0:ByteArray) (a1_1:List (Int×Int×ByteArray)) (a1_2:Int) (a1_3:Int) (a1_4:List (List Int)):Option Bool :=
 Option.bind (C6 a0 a1_0 a1_1 a1_2 a1_3 a1_4) fun y3 =>
some y3
def Oz (r:Bool):RV:=⟨false,[(false,[.sc (.bool r)])]⟩
theorem O7 {a0:Int} {a1_0:ByteArray} {a1_1:List (Int×Int×ByteArray)} {a1_2:Int} {a1_3:Int} {a1_4:List (List Int)} {r:Bool} (h:Ew a0 a1_0 a1_1 a1_2 a1_3 a1_4=some r):Ax Tryd.prog Tab 8 [ai a0,.agg [.str a1_0,.tree (.pair .int (.pair .int .str)) a1_1,ai a1_2,ai a1_3,.tree (.slice .int) a1_4]] (Oz r):=by
 refine As (by kernel_rfl) Tryd.func8 Ra (n:=8) (by kernel_rfl) (by simp) (tl:=[(0,ai a0),(1,.agg [.str a1_0,.tree (.pair .int (.pair .int .str)) a1_1,ai a1_2,ai a1_3,.tree (.slice .int) a1_4])]) rfl ?_;unfold Kd;unfold Ew at h;refine Ak ?_;refine Ab ?_;obtain ⟨y3,h3,h⟩:=Ag h;refine Aa 7 ?_;refine rz0 (ai a0) ?_;refine rzl (.agg [.str a1_0,.tree (.pair .int (.pair .int .str)) a1_1,ai a1_2,ai a1_3,.tree (.slice .int) a1_4]) ?_;refine zc (.bool y3) [] [ai a0,.agg [.str a1_0,.tree (.pair .int (.pair .int .str)) a1_1,ai a1_2,ai a1_3,.tree (.slice .int) a1_4]] (O4 h3) ?_;refine rsB 1 ?_;refine Ao (tn_ ?_);refine wr_ ?_;refine Ah ?_;obtain rfl:=zj h;exact A0 [.bool y3] (Ap rfl zl Ar)
def Gc:AC :=
 (.seq (rg [xo 3 (.i (.box 29 (tm 1))),xo 4 (qm (cb false))])
 (.seq (rg [xo 5 (qm (ci 1048576))])
 (.seq (rg [xo 9 (.i (.ld false 5 (tm 3))),xo 10 (qm (tm 5)),⟨some 11,none,qc 5 [tm 9,tm 10] [[none,some (.pair .int (.pair .int .str)),none,none,some (.slice .int)],[]]⟩,xo 5 (qm (tm 11))])
 (.seq (.seq (rg [xo 12 (qm (tm 5)),xo 13 (qb .lss (tm 12) (ci 0))])
 (.cond (tm 13)
  (.seq (rg [xo 4 (qm (cb true))])
  .ret)
  .skip))
 (.seq (rg [xo 14 (qm (tm 0)),xo 15 (.i (.ld false 5 (tm 3))),⟨some 16,none,qc 7 [tm 15] [[none,some (.pair .int (.pair .int .str)),none,none,some (.slice .int)]]⟩,⟨some 17,none,qc 6 [tm 14,tm 16] [[],[none,some (.pair .int (.pair .int .str)),none,none,some (.slice .int)]]⟩,xo 6 (qm (tm 17))])
 (.seq (rg [xo 18 (.i (.ld false 5 (tm 3))),⟨some 19,none,qc 7 [tm 18] [[none,some (.pair .int (.pair .int .str)),none,none,some (.slice .int)]]⟩,⟨some 7,none,.i (.alloc 37 [.str ⟨#[]⟩,.nils,.int .i64 0,.int .i64 0,.nils])⟩,xn (.st false 5 (tm 7) (tm 19))])
 (.seq (rg [xo 20 (qm (tm 0)),xo 21 (.i (.ld false 5 (tm 7))),⟨some 22,none,qc 8 [tm 20,tm 21] [[],[none,some (.pair .int (.pair .int .str)),none,none,some (.slice .int)]]⟩,xo 8 (qm (tm 22))])
 (.seq (.seq (rg [xo 23 (qm (tm 8)),xo 24 (qm (tm 6)),xo 25 (.i (.cmp true 0 (tm 23) (tm 24)))])
 (.cond (tm 25)
  (.seq (rg [xo 4 (qm (cb false))])
  .ret)
  .skip))
 (.seq (.seq (.region [xo 26 (.i (.ld false 5 (tm 7))),xo 27 (.i (.ld false 5 (tm 3))),⟨some 28,none,qc 7 [tm 27] [[none,some (.pair .int (.pair .int .str)),none,none,some (.slice .int)]]⟩,⟨some 29,none,qc 9 [tm 26,tm 28] [[none,some (.pair .int (.pair .int .str)),none,none,some (.slice .int)],[none,some (.pair .int (.pair .int .str)),none,none,some (.slice .int)]]⟩,xo 30 (.i (.not (tm 29)))] true [(0,2)])
 (.cond (tm 30)
  (.seq (rg [xo 4 (qm (cb false))])
  .ret)
  .skip))
 (.seq (rg [xo 4 (qm (cb true))])
 .ret))))))))))
def Ke:List Res:=[.tmp 4]
theorem Kg:Am Tryd.prog Tryd.f3=some (Gc,Ke):=by kernel_rfl
def Bs (a0:Int) (a1_0:ByteArray) (a1_1:List (Int×Int×ByteArray)) (a1_2:Int) (a1_3:Int) (a1_4:List (List Int)):Option Bool :=
 Option.bind (C1 a1_0 a1_1 a1_2 a1_3 a1_4 1048576) fun y4 =>
cond (decide (y4<0))
 (some true)
 (Option.bind (B0 a1_0 a1_1 a1_2 a1_3 a1_4) fun y10 =>
 Option.bind (Es a0 y10.1 y10.2.1 y10.2.2.1 y10.2.2.2.1 y10.2.2.2.2) fun y11 =>
 Option.bind (B0 a1_0 a1_1 a1_2 a1_3 a1_4) fun y13 =>
 Option.bind (Ew a0 y13.1 y13.2.1 y13.2.2.1 y13.2.2.2.1 y13.2.2.2.2) fun y15 =>
 cond (y15 !=y11)
  (some false)
  (Option.bind (B0 a1_0 a1_1 a1_2 a1_3 a1_4) fun y22 =>
  Option.bind (C9 y13.1 y13.2.1 y13.2.2.1 y13.2.2.2.1 y13.2.2.2.2 y22.1 y22.2.1 y22.2.2.1 y22.2.2.2.1 y22.2.2.2.2) fun y23 =>
  cond (!y23)
   (some false)
   (some true)))
def Ja (r:Bool):RV:=⟨false,[(false,[.sc (.bool r)])]⟩
theorem Jz {a0:Int} {a1_0:ByteArray} {a1_1:List (Int×Int×ByteArray)} {a1_2:Int} {a1_3:Int} {a1_4:List (List Int)} {r:Bool} (h:Bs a0 a1_0 a1_1 a1_2 a1_3 a1_4=some r):Ax Tryd.prog Tab 3 [ai a0,.agg [.str a1_0,.tree (.pair .int (.pair .int .str)) a1_1,ai a1_2,ai a1_3,.tree (.slice .int) a1_4]] (Ja r):=by
 refine As (by kernel_rfl) Tryd.func3 Kg (n:=31) (by kernel_rfl) (by simp) (tl:=[(0,ai a0),(1,.agg [.str a1_0,.tree (.pair .int (.pair .int .str)) a1_1,ai a1_2,ai a1_3,.tree (.slice .int) a1_4])]) rfl ?_;unfold Gc;unfold Bs at h;refine Ak ?_;refine Ak ?_;refine Ab ?_;obtain ⟨y4,h4,h⟩:=Ag h;refine Aa 8 ?_;refine rzl (.agg [.str a1_0,.tree (.pair .int (.pair .int .str)) a1_1,ai a1_2,ai a1_3,.tree (.slice .int) a1_4]) ?_;refine rz0 (ai 1048576) ?_;refine zc (ai y4) [] [.agg [.str a1_0,.tree (.pair .int (.pair .int .str)) a1_1,ai a1_2,ai a1_3,.tree (.slice .int) a1_4],ai 1048576] (Pg h4) ?_;refine rsB 1 ?_;refine Ao (tn_ ?_);refine wr_ ?_;refine Ab ?_;refine Ak ?_;rcases Ad h with ⟨q7,h⟩ | ⟨q7,h⟩
 ·have q7_:=of_decide_eq_true q7;refine Af q7 ?_;refine Ak ?_;refine Ah (tr_ ?_);obtain rfl:=zj h;exact A0 [.bool true] (Ap rfl zl Ar)
 have q7_:=of_decide_eq_false q7;refine Ae q7 ?_;refine Ai (tn_ ?_);refine wr_ ?_;refine Ab ?_;obtain ⟨y10,h10,h⟩:=Ag h;obtain ⟨y11,h11,h⟩:=Ag h;refine Aa 15 ?_;refine rz0 (ai a0) ?_;refine rzl (.agg [.str a1_0,.tree (.pair .int (.pair .int .str)) a1_1,ai a1_2,ai a1_3,.tree (.slice .int) a1_4]) ?_;refine zc (.agg [.str y10.1,.tree (.pair .int (.pair .int .str)) y10.2.1,ai y10.2.2.1,ai y10.2.2.2.1,.tree (.slice .int) y10.2.2.2.2]) [] [.agg [.str a1_0,.tree (.pair .int (.pair .int .str)) a1_1,ai a1_2,ai a1_3,.tree (.slice .int) a1_4]] (Ge h10) ?_;refine zc (.bool y11) [] [ai a0,.agg [.str y10.1,.tree (.pair .int (.pair .int .str)) y10.2.1,ai y10.2.2.1,ai y10.2.2.2.1,.tree (.slice .int) y10.2.2.2.2]] (O6 h11) ?_;refine rsB 1 ?_;refine Ao (tn_ ?_);refine wr_ ?_;refine Ab ?_;obtain ⟨y13,h13,h⟩:=Ag h;refine Aa 19 ?_;refine rzl (.agg [.str a1_0,.tree (.pair .int (.pair .int .str)) a1_1,ai a1_2,ai a1_3,.tree (.slice .int) a1_4]) ?_;refine zc (.agg [.str y13.1,.tree (.pair .int (.pair .int .str)) y13.2.1,ai y13.2.2.1,ai y13.2.2.2.1,.tree (.slice .int) y13.2.2.2.2]) [] [.agg [.str a1_0,.tree (.pair .int (.pair .int .str)) a1_1,ai a1_2,ai a1_3,.tree (.slice .int) a1_4]] (Ge h13) ?_;refine rsB 2 ?_;refine Ao (tn_ ?_);refine wr_ ?_;refine Ab ?_;obtain ⟨y15,h15,h⟩:=Ag h;refine Aa 23 ?_;refine rz0 (ai a0) ?_;refine rzl (.agg [.str y13.1,.tree (.pair .int (.pair .int .str)) y13.2.1,ai y13.2.2.1,ai y13.2.2.2.1,.tree (.slice .int) y13.2.2.2.2]) ?_;refine zc (.bool y15) [] [ai a0,.agg [.str y13.1,.tree (.pair .int (.pair .int .str)) y13.2.1,ai y13.2.2.1,ai y13.2.2.2.1,.tree (.slice .int) y13.2.2.2.2]] (O7 h15) ?_;refine rsB 1 ?_;refine Ao (tn_ ?_);refine wr_ ?_;refine Ab ?_;refine Ak ?_;rcases Ad h with ⟨q18,h⟩ | ⟨q18,h⟩
 ·refine Af q18 ?_;refine Ak ?_;refine Ah (tr_ ?_);obtain rfl:=zj h;exact A0 [.bool false] (Ap rfl zl Ar)
 refine Ae q18 ?_;refine Ai (tn_ ?_);refine wr_ ?_;refine Ab ?_;refine Ab ?_;obtain ⟨y22,h22,h⟩:=Ag h;obtain ⟨y23,h23,h⟩:=Ag h;refine A1 31 ?_;refine dzl (.agg [.str y13.1,.tree (.pair .int (.pair .int .str)) y13.2.1,ai y13.2.2.1,ai y13.2.2.2.1,.tree (.slice .int) y13.2.2.2.2]) ?_;refine dzl (.agg [.str a1_0,.tree (.pair .int (.pair .int .str)) a1_1,ai a1_2,ai a1_3,.tree (.slice .int) a1_4]) ?_;refine Eg (.agg [.str y22.1,.tree (.pair .int (.pair .int .str)) y22.2.1,ai y22.2.2.1,ai y22.2.2.2.1,.tree (.slice .int) y22.2.2.2.2]) [] [.agg [.str a1_0,.tree (.pair .int (.pair .int .str)) a1_1,ai a1_2,ai a1_3,.tree (.slice .int) a1_4]] _ (caps:=[]) (args0:=[.agg [.str a1_0,.tree (.pair .int (.pair .int .str)) a1_1,ai a1_2,ai a1_3,.tree (.slice .int) a1_4]]) trivial (by kernel_rfl) (Ge h22) O2 ?_;refine Eg (.bool y23) [] [.agg [.str y13.1,.tree (.pair .int (.pair .int .str)) y13.2.1,ai y13.2.2.1,ai y13.2.2.2.1,.tree (.slice .int) y13.2.2.2.2],.agg [.str y22.1,.tree (.pair .int (.pair .int .str)) y22.2.1,ai y22.2.2.1,ai y22.2.2.2.1,.tree (.slice .int) y22.2.2.2.2]] _ (caps:=[]) (args0:=[.agg [.str y13.1,.tree (.pair .int (.pair .int .str)) y13.2.1,ai y13.2.2.1,ai y13.2.2.2.1,.tree (.slice .int) y13.2.2.2.2],.agg [.str y22.1,.tree (.pair .int (.pair .int .str)) y22.2.1,ai y22.2.2.1,ai y22.2.2.2.1,.tree (.slice .int) y22.2.2.2.2]]) trivial (by kernel_rfl) (Pf h23) O9 ?_;refine dz0 (.bool (!y23)) ?_;refine G0 (Be (by kernel_rfl)) (tn_ ?_);refine wr_ ?_;rcases Ad h with ⟨q24,h⟩ | ⟨q24,h⟩
 ·refine Af q24 ?_;refine Ak ?_;refine Ah (tr_ ?_);obtain rfl:=zj h;exact A0 [.bool false] (Ap rfl zl Ar)
 refine Ae q24 ?_;refine Ai (tn_ ?_);refine wr_ ?_;refine Ak ?_;refine Ah ?_;obtain rfl:=zj h;exact A0 [.bool true] (Ap rfl zl Ar)
end
section
theorem Am8 {p:Int} {s:ByteArray} {xs:List Nd} {l r:Int} {b:List (List Int)} (h0:s.size<=9223372036854775807) (hx:xs.length<=9223372036854775807) (hs:∀ n∈xs,n.2.2.size<=9223372036854775807) (hb:b.length<=9223372036854775807) (hr:Ha 9223372036854775807 b):Bs p s xs l r b=some true:=by
 unfold Bs Es Ew;obtain ⟨y,hy,h1 | ⟨h1,h2,h3,h4,h5⟩⟩:=Acb s xs l r b (v:=1048576) (by omega) h0 hx hs hb hr
 ·rw [hy,obs,Bd h1]; rfl
 obtain ⟨v,g1,g2⟩:=Arg p s xs l r b (by omega) h4 h5;rw [hy,obs,Ba (by omega),cond_false];simp only [Abl s xs l r b h3 h4 h5,obs,g1,g2,Aau s xs l r b h3 h4 h5,bne_self_eq_false,cond_false,Bool.not_true]
end
section
open Go.RowKit Go.Deep
theorem isComponent_walk (p:Int) (xName:ByteArray) (xBodyNodes:List (Int×Int×ByteArray)) (A_xBodyNodes:Option Addr) (c_xBodyNodes:Nat) (l_xBodyNodes:List Addr) (xPromiseLeft:Int) (xPromiseRight:Int) (xPromiseBasis:List (List Int)) (A_xPromiseBasis:Option Addr) (c_xPromiseBasis:Nat) (l_xPromiseBasis:List Addr) (w:World) (_i_p: -9223372036854775808<=p∧p<=9223372036854775807) (i_xName:xName.size<=maxLen) (s_xBodyNodes:Sl (fun _=>True) w (.pair .int (.pair .int .str)) A_xBodyNodes c_xBodyNodes xBodyNodes l_xBodyNodes) (i_xBodyNodes:Ty.In (.slice (.pair .int (.pair .int .str))) xBodyNodes) (_i_xPromiseLeft: -9223372036854775808<=xPromiseLeft∧xPromiseLeft<=9223372036854775807) (_i_xPromiseRight: -9223372036854775808<=xPromiseRight∧xPromiseRight<=9223372036854775807) (s_xPromiseBasis:Sl (fun _=>True) w (.slice .int) A_xPromiseBasis c_xPromiseBasis xPromiseBasis l_xPromiseBasis) (_i_xPromiseBasis:Ty.In (.slice (.slice .int)) xPromiseBasis) (tab:Tab w) :
  Calls Tryd.prog 3 #[.int .i64 p,.agg #[.string xName,.slice A_xBodyNodes xBodyNodes.length c_xBodyNodes,.int .i64 xPromiseLeft,.int .i64 xPromiseRight,.slice A_xPromiseBasis xPromiseBasis.length c_xPromiseBasis]] w fun e w'=>e=.returned (.bool true)∧Below w.heap.size w w':=by
 have hl:Bs p xName xBodyNodes xPromiseLeft xPromiseRight xPromiseBasis=some true:=Am8 (Nat.le_trans i_xName (by decide)) (Aht s_xBodyNodes).2 (fun n hn=>Nat.le_trans (i_xBodyNodes n hn).2.2 (by decide)) (Aht s_xPromiseBasis).2 (Ao1 s_xPromiseBasis);refine (Jz hl w (fun _=>True) [.int .i64 p,.agg #[.string xName,.slice A_xBodyNodes xBodyNodes.length c_xBodyNodes,.int .i64 xPromiseLeft,.int .i64 xPromiseRight,.slice A_xPromiseBasis xPromiseBasis.length c_xPromiseBasis]] (fun w' hb=>tab.below hb) ⟨_,_,rfl,rfl,⟨_,_,rfl,⟨_,rfl,⟨_,_,rfl,rfl,⟨_,_,rfl,⟨A_xBodyNodes,c_xBodyNodes,l_xBodyNodes,rfl,s_xBodyNodes⟩,⟨_,_,rfl,rfl,⟨_,_,rfl,rfl,⟨_,_,rfl,⟨A_xPromiseBasis,c_xPromiseBasis,l_xPromiseBasis,rfl,s_xPromiseBasis⟩,rfl⟩⟩⟩⟩⟩⟩,rfl⟩⟩).mono ?_;rintro e w' ⟨u,rfl,hb,us,ls,h1,_,rfl⟩;obtain ⟨u1,us1,rfl,h2,_,rfl,rfl⟩:=h1;obtain rfl:u1=.bool true:=h2;exact ⟨rfl,hb⟩
end
end Go.Proofs.YtodopnonpadpfaaDoor
