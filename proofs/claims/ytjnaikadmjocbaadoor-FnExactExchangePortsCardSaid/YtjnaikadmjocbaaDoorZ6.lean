/- Lemmas on the program and on partial functions that stand in place of its code (part 6); no condition beyond those that each one states. -/
import Derived.Test.YtjnaikadmjocbaaDoorZ5
import Derived.KernelRfl
import Derived.Deep.RegionHeld3
namespace Go.Proofs.YtjnaikadmjocbaaDoor
section
section
variable {α β σ ρ:Type}
theorem Yg {body:σ->Option (Ctl σ ρ)} {Post:ρ->Prop} (n:Nat) (I:Nat->σ->Prop)
  (hs:∀ i s,i<n->I i s->(∃ s',body s=some (.next s')∧I (i+1) s')∨∃ r,body s=some (.out r)∧Post r) (he:∀ s,I n s->∃ r,body s=some (.out r)∧Post r) :
  ∀ (F k:Nat) (s:σ),k<=n->n - k<F->I k s->∃ r,A0 body F s=some r∧Post r
 | 0,_,_,_,h,_=>by omega
 | F+1,k,s,hk,h,hi=>by
  have key:(∃ r,body s=some (.out r)∧Post r)->∃ r,A0 body (F+1) s=some r∧Post r:=by
   rintro ⟨r,h1,h2⟩;exact ⟨r,by simp only [A0,h1,obs,Ctl.then],h2⟩
  rcases Nat.lt_or_ge k n with hlt | hge
  ·rcases hs k s hlt hi with ⟨s',h1,h2⟩ | h
   ·obtain ⟨r,h3,h4⟩:=Yg n I hs he F (k+1) s' hlt (by omega) h2;exact ⟨r,by simp only [A0,h1,obs,Ctl.then]; exact h3,h4⟩
   ·exact key h
  ·obtain rfl:k=n:=by omega
   exact key (he s hi)
theorem To {body:σ->Option (Ctl σ ρ)} {Post:ρ->Prop} (n:Nat) (I:Nat->σ->Prop) {F:Nat} (hn:n<F) {s0:σ} (h0:I 0 s0)
  (hs:∀ i s,i<n->I i s->(∃ s',body s=some (.next s')∧I (i+1) s')∨∃ r,body s=some (.out r)∧Post r) (he:∀ s,I n s->∃ r,body s=some (.out r)∧Post r):∃ r,A0 body F s0=some r∧Post r :=
 Yg n I hs he F 0 s0 (Nat.zero_le _) (by omega) h0
theorem K0 {body:σ->Option (Ctl σ ρ)} (n:Nat) (I:Nat->σ->Prop) {F:Nat} (hn:n<F) {s0:σ} (r:ρ) (h0:I 0 s0)
  (hs:∀ i s,i<n->I i s->(∃ s',body s=some (.next s')∧I (i+1) s')∨body s=some (.out r)) (he:∀ s,I n s->body s=some (.out r)):A0 body F s0=some r:=by
 obtain ⟨r',h1,rfl⟩:=To (Post:=fun r'=>r'=r) n I hn h0 (fun i s hi hI=>(hs i s hi hI).imp id fun h=>⟨r,h,rfl⟩) (fun s h=>⟨r,he s h,rfl⟩);exact h1
theorem Bg {body:σ->Option (Ctl σ ρ)} (n:Nat) (S:Nat->σ) {F:Nat} (hn:n<F) {s0:σ} (r:ρ) (h0:s0=S 0) (hs:∀ i,i<n->body (S i)=some (.next (S (i+1)))) (he:body (S n)=some (.out r)):A0 body F s0=some r:=by
 subst h0;refine K0 n (fun i s=>s=S i) hn r rfl (fun i s hi e=>.inl ?_) (fun s e=>by subst e; exact he);subst e;exact ⟨_,hs i hi,rfl⟩
theorem Io {body:Nat->Option (Ctl Nat ρ)} (xs:List α) (q:α->Bool) (good bad:ρ) {F:Nat} (hn:xs.length<F) (hs:∀ i x,xs[i]? =some x->body i=some (if q x then .next (i+1) else .out bad)) (he:body xs.length=some (.out good)):A0 body F 0=some (if xs.all q then good else bad):=by
 refine K0 xs.length (fun i s=>s=i∧(xs.take i).all q=true) hn _ ⟨rfl,by simp⟩ ?_ ?_
 ·rintro i s hi ⟨hsi,hq⟩;subst s;have hx:=gEg hi;rw [hs i _ hx];cases hc:q xs[i]
  ·refine .inr ?_
   have:xs.all q=false:=by
    rw [Bool.eq_false_iff];intro ha;rw [List.all_eq_true] at ha;rw [ha _ (List.getElem_mem hi)] at hc;cases hc
   rw [this]; rfl
  ·refine .inl ⟨i+1,rfl,rfl,?_⟩;rw [List.take_add_one,List.all_append,hq,hx];simp [hc]
 ·rintro s ⟨rfl,hq⟩;rw [List.take_length] at hq;rw [he,hq]; rfl
theorem Xx {body:Nat->Option (Ctl Nat ρ)} (xs:List α) (q:α->Bool) (none_:ρ) (g:Nat->ρ) {F:Nat} (hn:xs.length<F) (hs:∀ i x,xs[i]? =some x->body i=some (if q x then .out (g i) else .next (i+1))) (he:body xs.length=some (.out none_)) :
  (xs.any q=true∧∃ i,i<xs.length∧A0 body F 0=some (g i))∨(xs.any q=false∧A0 body F 0=some none_):=by
 have key:∃ r,A0 body F 0=some r∧((xs.any q=true∧∃ i,i<xs.length∧r=g i)∨(xs.any q=false∧r=none_)):=by
  refine To xs.length (fun i s=>s=i∧(xs.take i).any q=false) hn ⟨rfl,by simp⟩ ?_ ?_
  ·rintro i s hi ⟨hsi,hq⟩;subst s;have hx:=gEg hi;rw [hs i _ hx];cases hc:q xs[i]
   ·refine .inl ⟨i+1,rfl,rfl,?_⟩;rw [List.take_add_one,List.any_append,hq,hx];simp [hc]
   ·exact .inr ⟨_,rfl,.inl ⟨List.any_eq_true.2 ⟨_,List.getElem_mem hi,hc⟩,i,hi,rfl⟩⟩
  ·rintro s ⟨hsi,hq⟩;subst hsi;rw [List.take_length] at hq;exact ⟨_,he,.inr ⟨hq,rfl⟩⟩
 obtain ⟨r,h,⟨h1,i,hi,rfl⟩ | ⟨h1,rfl⟩⟩:=key
 ·exact .inl ⟨h1,i,hi,h⟩
 ·exact .inr ⟨h1,h⟩
theorem Gr {body:Nat×List β->Option (Ctl (Nat×List β) ρ)} (xs:List α) (f:α->β) (ys:List β) {F:Nat} (hn:xs.length<F) (r:ρ) (hs:∀ i x,xs[i]? =some x->body (i,ys++(xs.take i).map f)=some (.next (i+1,(ys++(xs.take i).map f)++[f x]))) (he:body (xs.length,ys++xs.map f)=some (.out r)):A0 body F (0,ys)=some r:=by
 refine Bg xs.length (fun i=>(i,ys++(xs.take i).map f)) hn r (by simp) (fun i hi=>?_) (by rw [List.take_length]; exact he);have hx:=gEg hi;rw [hs i _ hx,List.take_add_one,hx];simp only [List.map_append,Option.toList,List.map_cons,List.map_nil,List.append_assoc]
theorem X8 {xs:List α} {d:α} {i:Nat} (h:i<xs.length):(xs.take i++List.replicate (xs.length - i) d)[i]? =some d:=by
 have h1:(xs.take i).length=i:=by rw [List.length_take]; omega
 rw [List.getElem?_append_right (by omega),h1,Nat.sub_self,List.getElem?_replicate,if_pos (by omega)]
theorem X1 {xs:List α} {d x:α} {i:Nat} (h:xs[i]? =some x):(xs.take i++List.replicate (xs.length - i) d).set i x=xs.take (i+1)++List.replicate (xs.length - (i+1)) d:=by
 have hi:=(gSi.1 h).1;have e:xs.length - i=(xs.length - (i+1))+1:=by omega
 rw [List.take_add_one,h,e,List.replicate_succ,List.set_append,if_neg (by simp; omega)];simp [Nat.min_eq_left (Nat.le_of_lt hi)]
theorem Hj {xs ys:List α} {i:Nat} (h:i<xs.length) (hl:ys.length=i):(ys++xs.drop i)[i]? =some xs[i]:=by
 rw [List.getElem?_append_right (by omega),hl];simp [List.getElem?_drop,h]
theorem Hb {xs ys:List α} {y:α} {i:Nat} (h:i<xs.length) (hl:ys.length=i):(ys++xs.drop i).set i y=(ys++[y])++xs.drop (i+1):=by
 rw [List.set_append,if_neg (by omega),hl,Nat.sub_self,List.drop_eq_getElem_cons h,List.append_assoc];rfl
theorem Aed {xs ys:List α} {y:α} {i:Nat} (hl:ys.length=i):((ys++[y])++xs)[i]? =some y:=by
 subst hl;rw [List.getElem?_append_left (by simp)];simp
theorem Aer {xs ys:List α} {y z:α} {i:Nat} (hl:ys.length=i):((ys++[y])++xs).set i z=(ys++[z])++xs:=by
 subst hl;rw [List.append_assoc,List.append_assoc,List.set_append,if_neg (by omega)];simp
end
theorem Cr {n:Int} (h1: -9223372036854775808<=n) (h2:n<9223372036854775808):wI n=n:=Go.IntWalk.i64_in _ (by omega)
theorem Bc {p:Prop} [Decidable p] (h:p):decide p=true:=decide_eq_true h
theorem Be {p:Prop} [Decidable p] (h:¬ p):decide p=false:=decide_eq_false h
end
section
def inV (p:Int) (x:List Int):Prop:=∀ a,a∈x->0<=a∧a<p
def Nl (p:Int) (w:Nat) (x:List Int):Prop:=x.length=w∧inV p x
def D6 (p:Int) (w:Nat) (m:List (List Int)):Prop:=∀ x,x∈m->Nl p w x
def F6 (p k:Int) (v:List Int):List Int:=v.map fun a=>a*k % p
def Gb (p f:Int) (x v:List Int):List Int:=List.zipWith (fun a b=>(a - f*b) % p) x v
def Gd (m:List (List Int)) (c r:Nat):Nat:=r+(m.drop r).findIdx fun x=>x.getD c 0 !=0
def O8 (m:List (List Int)) (r k:Nat):List (List Int):=(m.set r (m.getD k [])).set k (m.getD r [])
def H4 (p:Int) (c r:Nat) (pr:List Int) (m:List (List Int)):List (List Int):=m.mapIdx fun i x=>if i=r then pr else Gb p (x.getD c 0) x pr
def Ef (p a:Int):Int:=(((List.range p.toNat).find? fun (x:Nat)=>a*(x:Int) % p==1).getD 0:Nat)
def prV (p:Int) (c:Nat) (x:List Int):List Int:=F6 p (Ef p (x.getD c 0)) x
def gjS (p:Int) (c:Nat) (s:Nat×List (List Int)):Nat×List (List Int) :=
 if s.1<s.2.length then
  if Gd s.2 c s.1=s.2.length then s
  else (s.1+1,H4 p c s.1 (prV p c (s.2.getD (Gd s.2 c s.1) [])) (O8 s.2 s.1 (Gd s.2 c s.1)))
 else s
def gjT (p:Int) (m:List (List Int)):Nat->Nat×List (List Int)
 | 0=>(0,m)
 | c+1=>gjS p c (gjT p m c)
def gj (p:Int) (n:Nat) (m:List (List Int)):List (List Int):=(gjT p m n).2.take (gjT p m n).1
theorem O1 {p x:Int} (hp:2<=p):0<=x % p∧x % p<p:=⟨Int.emod_nonneg x (by omega),Int.emod_lt_of_pos x (by omega)⟩
theorem Qb {p k:Int} {w:Nat} {x:List Int} (hp:2<=p) (h:x.length=w):Nl p w (F6 p k x) :=
 ⟨by simp [F6,h],fun a ha=>by obtain ⟨b,_,rfl⟩:=List.mem_map.1 ha; exact O1 hp⟩
theorem Aha {α β γ:Type} {f:α->β->γ}:∀ {x:List α} {v:List β} {c:γ},c∈List.zipWith f x v->∃ a b,c=f a b
 | [],_,_,h=>by simp at h
 | _ :: _,[],_,h=>by simp at h
 | a :: x,b :: v,c,h=>by
  rw [List.zipWith_cons_cons,List.mem_cons] at h;rcases h with h | h
  ·exact ⟨a,b,h⟩
  ·exact Aha h
theorem Abe {p f:Int} {w:Nat} {x v:List Int} (hp:2<=p) (hx:x.length=w) (hv:v.length=w):Nl p w (Gb p f x v) :=
 ⟨by simp [Gb,hx,hv],fun a ha=>by obtain ⟨b,c,rfl⟩:=Aha ha; exact O1 hp⟩
theorem Ago {p:Int} {x v:List Int} (hx:inV p x) (hl:x.length<=v.length):Gb p 0 x v=x:=by
 apply List.ext_getElem
 ·simp [Gb]; omega
 ·intro i h1 h2;have:=hx x[i] (List.getElem_mem h2);simp only [Gb,List.getElem_zipWith,Int.zero_mul,Int.sub_zero];exact Int.emod_eq_of_lt this.1 this.2
theorem Au {α:Type} {m:List α} {i:Nat} {d x:α} (h:m[i]? =some x):m.getD i d=x:=by rw [gDg,h]; rfl
theorem Zy {α:Type} {m:List α} {i:Nat} (h:i<m.length):∃ x,m[i]? =some x:=⟨_,gEg h⟩
theorem Qz {m:List (List Int)} {c r:Nat} (h:r<=m.length):Gd m c r<=m.length:=by
 have:=List.findIdx_le_length (xs:=m.drop r) (p:=fun x=>x.getD c 0 !=0);rw [List.length_drop] at this;unfold Gd; omega
theorem Alo (m:List (List Int)) (c r:Nat):r<=Gd m c r:=by unfold Gd; omega
theorem Acc {m:List (List Int)} {c r i:Nat} (h1:r<=i) (h2:i<Gd m c r) (hr:r<=m.length):(m.getD i []).getD c 0=0:=by
 have hl:=Qz (c:=c) hr;have h3:i - r<(m.drop r).findIdx fun x=>x.getD c 0 !=0:=by unfold Gd at h2; omega
 have h4:i - r<(m.drop r).length:=by rw [List.length_drop]; omega
 have h5:=List.not_of_lt_findIdx h3;rw [List.getElem_drop] at h5
 have e:m[r+(i - r)]'(by rw [List.length_drop] at h4; omega)=m.getD i []:=by
  rw [gDg,gEg (by omega)];simp only [show r+(i - r)=i by omega,Option.getD_some]
 rw [e] at h5
 simpa using h5
theorem Aen {m:List (List Int)} {c r:Nat} (h:Gd m c r≠m.length) (hr:r<=m.length):(m.getD (Gd m c r) []).getD c 0≠0:=by
 have hl:=Qz (c:=c) hr;have h4:(m.drop r).findIdx (fun x=>x.getD c 0 !=0)<(m.drop r).length:=by rw [List.length_drop]; unfold Gd at h hl; omega
 have h5:=List.findIdx_getElem (w:=h4);rw [List.getElem_drop] at h5
 have e:m[r+(m.drop r).findIdx (fun x=>x.getD c 0 !=0)]'(by rw [List.length_drop] at h4; omega)=m.getD (Gd m c r) []:=by
  rw [gDg,gEg (by omega)]; rfl
 rw [e] at h5
 simpa using h5
theorem S7 (m:List (List Int)) (r k:Nat):(O8 m r k).length=m.length:=by simp [O8]
theorem Lh (p:Int) (c r:Nat) (pr:List Int) (m:List (List Int)):(H4 p c r pr m).length=m.length:=by simp [H4]
theorem F8 {m:List (List Int)} {i:Nat} (h:i<m.length):m.getD i []∈m:=by
 rw [gDg,gEg h]; exact List.getElem_mem h
theorem Zl {p:Int} {w:Nat} {m:List (List Int)} {r k:Nat} (h:D6 p w m) (hr:r<m.length) (hk:k<m.length):D6 p w (O8 m r k):=by
 intro x hx;unfold O8 at hx;rcases List.mem_or_eq_of_mem_set hx with hx | rfl
 ·rcases List.mem_or_eq_of_mem_set hx with hx | rfl
  ·exact h x hx
  ·exact h _ (F8 hk)
 ·exact h _ (F8 hr)
theorem Akf {p:Int} {w c r:Nat} {m:List (List Int)} {pr:List Int} (hp:2<=p) (h:D6 p w m) (hpr:Nl p w pr):D6 p w (H4 p c r pr m):=by
 intro x hx;unfold H4 at hx;obtain ⟨i,hi,rfl⟩:=List.mem_mapIdx.1 hx;split
 ·exact hpr
 ·exact Abe hp (h _ (List.getElem_mem hi)).1 hpr.1
theorem Alk {p:Int} {w c:Nat} {s:Nat×List (List Int)} (hp:2<=p) (h:D6 p w s.2) (hr:s.1<=s.2.length):D6 p w (gjS p c s).2∧(gjS p c s).1<=(gjS p c s).2.length∧(gjS p c s).2.length=s.2.length:=by
 unfold gjS;split
 ·rename_i h1;split
  ·exact ⟨h,hr,rfl⟩
  ·rename_i h2;have h3:=Qz (c:=c) hr;have hk:Gd s.2 c s.1<s.2.length:=by omega
   refine ⟨Akf hp (Zl h h1 hk) (Qb hp (h _ (F8 hk)).1),?_,?_⟩
   ·simp only [Lh,S7]; omega
   ·simp only [Lh,S7]
 ·exact ⟨h,hr,rfl⟩
theorem J8 {p:Int} {w:Nat} {m:List (List Int)} (hp:2<=p) (h:D6 p w m):∀ c,D6 p w (gjT p m c).2∧(gjT p m c).1<=(gjT p m c).2.length∧(gjT p m c).2.length=m.length
 | 0=>⟨h,Nat.zero_le _,rfl⟩
 | c+1=>by
  obtain ⟨h1,h2,h3⟩:=J8 hp h c;obtain ⟨k1,k2,k3⟩:=Alk (c:=c) hp h1 h2;exact ⟨k1,k2,k3.trans h3⟩
theorem Vm {p:Int} {m:List (List Int)} {c:Nat} (h:¬ (gjT p m c).1<(gjT p m c).2.length):∀ d,c<=d->gjT p m d=gjT p m c
 | 0, h0 => by obtain rfl : c = 0 := by omega
               rfl
 | d+1,h0=>by
  by_cases e:c=d+1
  ·rw [e]
  ·have ih:=Vm h d (by omega);show gjS p d (gjT p m d)=_;rw [ih];unfold gjS;rw [if_neg h]
theorem Aiy {p:Int} {n w:Nat} {m:List (List Int)} (hp:2<=p) (h:D6 p w m):(gj p n m).length=(gjT p m n).1:=by
 obtain ⟨_,h2,_⟩:=J8 hp h n;unfold gj;rw [List.length_take]; omega
theorem Zn {p:Int} {n w:Nat} {m:List (List Int)} (hp:2<=p) (h:D6 p w m):D6 p w (gj p n m):=fun x hx=>(J8 hp h n).1 x (List.mem_of_mem_take hx)
end
section
def Als (p a:Int):Bool:=match Gv p a with
 | some v=>(v==Ef p a)&&((Fk p a==some v)&&((decide (0<=v)&&decide (v<p))&&(a*v % p==1)))
 | none=>false
def ivB:Bool:=(List.range 98).all fun p=> !(isF p)||(List.range p).all fun a=>a==0||Als (p:Int) (a:Int)
theorem Ai7:ivB=true:=by kernel_rfl
theorem Aar {p a:Int} (hp:isF p=true) (ha:1<=a∧a<p):Gv p a=some (Ef p a)∧Fk p a=some (Ef p a)∧0<=Ef p a∧Ef p a<p∧a*Ef p a % p=1:=by
 have hb:=Gp hp;obtain ⟨q,rfl⟩:=Int.eq_ofNat_of_zero_le (show 0<=p by omega);obtain ⟨b,rfl⟩:=Int.eq_ofNat_of_zero_le (show 0<=a by omega);have h1:=List.all_eq_true.1 Ai7 q (List.mem_range.2 (by omega));rw [hp,Bool.not_true,Bool.false_or] at h1;have h2:=List.all_eq_true.1 h1 b (List.mem_range.2 (by omega))
 have h3:Als (q:Int) (b:Int)=true:=by
  rcases (Bool.or_eq_true _ _).mp h2 with h | h
  ·have:b=0:=by simpa using h
   omega
  ·exact h
 unfold Als at h3;split at h3
 ·rename_i v hv;simp only [Bool.and_eq_true,beq_iff_eq,decide_eq_true_eq] at h3;obtain ⟨h4,h5,⟨h6,h7⟩,h8⟩:=h3;subst h4;exact ⟨hv,h5,h6,h7,h8⟩
 ·cases h3
end
section
theorem Ll (b:Bool):Km (some (if b then Ctl.next () else Ctl.out false)) (fun _:Unit=>some true)=some b:=by cases b <;> rfl
theorem Af3 {α:Type} {body:Nat->Option (Ctl Nat (Ctl Unit Bool))} (xs:List α) (q:α->Bool) (hn:xs.length<4611686018427387904) (hs:∀ i x,xs[i]? =some x->body i=some (if q x then .out (.out true) else .next (i+1))) (he:body xs.length=some (.out (.next ()))) :
  Km (A0 body 4611686018427387904 0) (fun _:Unit=>some false)=some (xs.any q):=by
 rcases Xx xs q (Ctl.next ()) (fun _=>Ctl.out true) (F:=4611686018427387904) hn hs he with ⟨h1,_,_,h2⟩ | ⟨h1,h2⟩ <;> rw [h2,h1] <;> rfl
theorem Q6 (x lo hi:Int):Df x lo hi=some (inR x lo hi):=by
 unfold Df inR;by_cases h:lo<=x <;> simp [h]
theorem Pg (x lo hi:Int):Dg x lo hi=some (inR x lo hi):=by
 unfold Dg inR;by_cases h:lo<=x <;> simp [h]
theorem Aj1 (xs:List Int) (lo hi:Int) (hx:xs.length<=1099511627776):Gw xs lo hi=some (xs.all fun x=>inR x lo hi):=by
 unfold Gw;rw [Io xs (fun x=>inR x lo hi) (.next ()) (.out false) (by omega) (fun i x h=>?_) ?_,Ll]
 ·unfold Gk;rw [Be (by omega),cond_false]
 ·have:=Ax h;unfold Gk;rw [Bc (by omega),cond_true,h,obs,Q6,obs,Ap (by omega)];cases inR x lo hi <;> rfl
theorem Aj8 {p:Int} (h:inR p 2 97=false):isF p=false:=by rcases Agk.1 h with h | h <;> simp [isF] <;> omega
theorem Ahy (p:Int):Ge p=some (isF p):=by
 unfold Ge;rw [Q6,obs];cases hr:inR p 2 97
 ·rw [Aj8 hr]; rfl
 rw [Bool.not_true,cond_false];obtain ⟨h1,h2⟩:=Vn.1 hr;obtain ⟨n,rfl⟩:=Int.eq_ofNat_of_zero_le (show 0<=p by omega)
 have h:A0 (fun s_:Nat=>D8 n s_) 4611686018427387904 2=some (if isF n then .next () else .out false):=by
  refine K0 8 (fun i s=>s=i+2∧Ya n s=true) (by omega) _ ⟨rfl,by simp [Ya,List.range_succ]⟩ ?_ ?_
  ·rintro i s hi ⟨hs,hd⟩;unfold D8;have hm:((s:Int)*(s:Int))=((s*s:Nat):Int):=by simp
   have hss:s*s<=9*9:=Nat.mul_le_mul (by omega) (by omega);rw [hm,Cr (by omega) (by omega)];by_cases hle:s*s<=n
   ·rw [Bc (by omega),cond_true,Ap (by omega),show Int.tmod (n:Int) (s:Int)=((n % s:Nat):Int) from by rw [Int.tmod_eq_emod_of_nonneg (by omega)]; rfl];by_cases h0:n % s=0
    ·refine .inr ?_;rw [h0,Ajb n (by omega) s (by omega) (by omega) hle h0]; rfl
    ·refine .inl ⟨s+1,?_,by omega,Adx hd h0⟩;rw [show (((n % s:Nat):Int)==0)=false from by rw [beq_eq_false_iff_ne]; omega,cond_false,Ap (by omega)]
   ·refine .inr ?_;rw [Be (by omega),cond_false,Xv n (by omega) (by omega) s (by omega) hd (by omega)]; rfl
  ·rintro s ⟨hs,hd⟩;obtain rfl:s=10:=by omega
   unfold D8;rw [show wI (((10:Nat):Int)*((10:Nat):Int))=100 from Cr (by omega) (by omega),Be (by omega),cond_false,Xv n (by omega) (by omega) 10 (by omega) hd (by omega)]; rfl
 rw [h,Ll]
theorem Abb (p x:Int):Ei p x=some (inR x 0 (p - 1)):=by
 unfold Ei inR;by_cases h:0<=x
 ·simp [h,show (x<p↔x<=p - 1) by omega]
 ·simp [h]
theorem Al4 (p:Int) (xs:List Int) (hp:2<=p∧p<=97) (hx:xs.length<=1099511627776):Hm p xs=some (xs.all fun x=>inR x 0 (p - 1)):=by
 unfold Hm;rw [Cr (by omega) (by omega),Aj1 _ _ _ hx]; rfl
theorem Aeh (p:Int) (xs:List Int) (n:Int) (hx:xs.length<=1099511627776):Ey p xs n=some (((xs.length:Nat):Int)==n&&xs.all fun x=>inR x 0 (p - 1)):=by
 unfold Ey;cases hn:((xs.length:Nat):Int)==n
 ·rw [show (((xs.length:Nat):Int) !=n)=true by simp only [bne,hn,Bool.not_false]]; rfl
 rw [show (((xs.length:Nat):Int) !=n)=false by simp only [bne,hn,Bool.not_true],cond_false];rw [Io xs (fun x=>inR x 0 (p - 1)) (.next ()) (.out false) (by omega) (fun i x h=>?_) ?_,Ll,Bool.true_and]
 ·unfold Et;rw [Be (by omega),cond_false]
 ·have:=Ax h;unfold Et;rw [Bc (by omega),cond_true,h,obs,Abb,obs,Ap (by omega)];cases inR x 0 (p - 1) <;> rfl
theorem Aez (xs:List Int) (n:Int) (hx:xs.length<=1099511627776):Fw xs n=some (xs.any fun x=>x==n):=by
 unfold Fw;rw [Af3 xs (fun x=>x==n) (by omega) (fun i x h=>?_) ?_]
 ·unfold Gl;rw [Be (by omega),cond_false]
 ·have:=Ax h;unfold Gl;rw [Bc (by omega),cond_true,h,obs,Ap (by omega)];cases x==n <;> rfl
theorem Aca {p x:Int} (hp:2<=p∧p<=97):D3 p x=some (x % p):=by
 unfold D3;rw [Ap (by omega)]
 have e1:x.tmod p=if 0<=x∨x % p=0 then x % p else x % p - p:=by
  simp only [Int.tmod_eq_emod,Int.dvd_iff_emod_eq_zero];split <;> simp <;> omega
 have h1:=Int.emod_nonneg x (show p≠0 by omega);have h2:=Int.emod_lt_of_pos x (show 0<p by omega);by_cases h:x.tmod p<0
 ·rw [Bc h,cond_true,obs,Cr (by omega) (by omega)];congr 1;split at e1 <;> omega
 ·rw [Be h,cond_false,obs];congr 1;split at e1 <;> omega
theorem Aj9 {n:Int} (h:0<=n∧n<=1000000):G4 n=some (List.replicate n.toNat 0):=by
 unfold G4;rw [Ap (by omega)]
theorem Yo (xs:List Int) (h:xs.length<=1000000):Ev xs=some xs:=by
 unfold Ev;rw [Ap (by omega)]
theorem Te (xs:List Int) (h:xs.length<=1000000):Ew xs=some xs:=by
 unfold Ew;rw [Ap (by omega)]
theorem Zk {p x y:Int} (hp:2<=p∧p<=97) (hx:0<=x∧x<p) (hy:0<=y∧y<p):0<=x*y∧x*y<=10000:=by
 refine ⟨Int.mul_nonneg hx.1 hy.1,?_⟩;have h1:x*y<=97*y:=Int.mul_le_mul_of_nonneg_right (by omega) hy.1;omega
theorem Afi {p x y:Int} (hp:2<=p∧p<=97) (hx:0<=x∧x<p) (hy:0<=y∧y<p):Fv p x y=some ((x*y) % p):=by
 have:=Zk hp hx hy;unfold Fv;rw [Ap (by omega),Cr (by omega) (by omega),Int.tmod_eq_emod_of_nonneg (by omega)]
end
section
theorem Aj3 {p x y:Int} (hp:2<=p∧p<=97) (hx:0<=x∧x<p) (hy:0<=y∧y<p):Gx p x y=some ((x - y) % p):=by
 unfold Gx;rw [Ap (by omega),Cr (n:=x+p) (by omega) (by omega),Cr (by omega) (by omega),Int.tmod_eq_emod_of_nonneg (by omega),show x+p - y=x - y+p by omega,Int.add_emod_right]
theorem Afn {ρ:Type} {body:Nat×List (List Int)->Option (Ctl (Nat×List (List Int)) ρ)} {M:List (List Int)} {r:Nat} {x y:List Int} {o:ρ} (hx:M[r]? =some x) (hl:y.length=x.length) (hb:x.length<4611686018427387904)
  (hs:∀ j (h:j<x.length) (z:List Int),z[j]? =some x[j]->body (j,M.set r z)=some (.next (j+1,M.set r (z.set j (y[j]'(by omega)))))) (he:body (x.length,M.set r y)=some (.out o)) :
  A0 body 4611686018427387904 (0,M)=some o:=by
 refine Bg x.length (fun j=>(j,M.set r (y.take j++x.drop j))) hb _ ?_ (fun j hj=>?_) ?_
 ·obtain ⟨h1,h2⟩:=gSi.1 hx;simp only [List.take_zero,List.nil_append,List.drop_zero];rw [← h2,List.set_getElem_self]
 ·have h1:(y.take j).length=j:=by rw [List.length_take]; omega
  rw [hs j hj _ (Hj hj h1),Hb hj h1,List.take_add_one,gEg (by omega)]; rfl
 ·rw [List.drop_length,List.append_nil,← hl,List.take_length,hl]; exact he
theorem Aje {ρ:Type} {body:Nat×List Int->Option (Ctl (Nat×List Int) ρ)} {x y:List Int} {o:ρ} (hl:y.length=x.length) (hb:x.length<4611686018427387904)
  (hs:∀ j (h:j<x.length) (z:List Int),z[j]? =some x[j]->body (j,z)=some (.next (j+1,z.set j (y[j]'(by omega))))) (he:body (x.length,y)=some (.out o)) :
  A0 body 4611686018427387904 (0,x)=some o:=by
 refine Bg x.length (fun j=>(j,y.take j++x.drop j)) hb _ rfl (fun j hj=>?_) ?_
 ·have h1:(y.take j).length=j:=by rw [List.length_take]; omega
  rw [hs j hj _ (Hj hj h1),Hb hj h1,List.take_add_one,gEg (by omega)]; rfl
 ·rw [List.drop_length,List.append_nil,← hl,List.take_length,hl]; exact he
theorem Ajh {ρ:Type} {body:Nat×List (List Int)->Option (Ctl (Nat×List (List Int)) ρ)} {M E:List (List Int)} {r:Nat} {pr:List Int} {o:ρ} (hl:E.length=M.length) (hM:M[r]? =some pr) (hE:E[r]? =some pr)
  (hb:M.length<4611686018427387904) (hs:∀ i (h:i<M.length) (s:List (List Int)),s.length=M.length->s[i]? =some M[i]->s[r]? =some pr->body (i,s)=some (.next (i+1,s.set i (E[i]'(by omega))))) (he:body (M.length,E)=some (.out o)) :
  A0 body 4611686018427387904 (0,M)=some o:=by
 refine Bg M.length (fun j=>(j,E.take j++M.drop j)) hb _ rfl (fun j hj=>?_) ?_
 ·have h1:(E.take j).length=j:=by rw [List.length_take]; omega
  rw [hs j hj _ (by simp; omega) (Hj hj h1) ?_,Hb hj h1,List.take_add_one,gEg (by omega)]; rfl;by_cases h2:r<j
  ·rw [List.getElem?_append_left (by omega),List.getElem?_take,if_pos h2]; exact hE
  ·rw [List.getElem?_append_right (by omega),h1,List.getElem?_drop,show j+(r - j)=r by omega]; exact hM
 ·rw [List.drop_length,List.append_nil,← hl,List.take_length,hl]; exact he
theorem Z7 {α:Type} {m:List α} {i:Nat} {x z:α} (h:m[i]? =some x):(m.set i z)[i]? =some z:=by
 rw [List.getElem?_set_self (Ax h)]
theorem Aa3 {α:Type} {m:List α} {i:Nat} {x:α} (h:m[i]? =some x):m.set i x=m:=by
 obtain ⟨h1,h2⟩:=gSi.1 h;rw [← h2,List.set_getElem_self]
theorem Aes {α:Type} {m:List α} {i j:Nat} {z:α} (h:i≠j):(m.set i z)[j]? =m[j]?:=List.getElem?_set_ne h
theorem Ai4 {p k:Int} {x:List Int} {j:Nat} (h:j<(F6 p k x).length):(F6 p k x)[j]=x[j]'(by simpa [F6] using h)*k % p:=by simp [F6]
theorem Ai8 {p f:Int} {x v:List Int} {j:Nat} (h:j<(Gb p f x v).length):(Gb p f x v)[j]=(x[j]'(by simp [Gb] at h; omega) - f*v[j]'(by simp [Gb] at h; omega)) % p:=by simp [Gb]
theorem Td {p:Int} {c r:Nat} {pr:List Int} {m:List (List Int)} {i:Nat} (h:i<(H4 p c r pr m).length) :
  (H4 p c r pr m)[i]=if i=r then pr else Gb p ((m[i]'(by simpa [H4] using h)).getD c 0) (m[i]'(by simpa [H4] using h)) pr:=by simp [H4]
theorem Aco {p:Int} {w j:Nat} {x:List Int} (hx:Nl p w x) (hj:j<x.length):0<=x[j]∧x[j]<p:=hx.2 _ (List.getElem_mem hj)
theorem Tb {p:Int} {w j:Nat} {x:List Int} (hx:Nl p w x) (hj:j<w):0<=x.getD j 0∧x.getD j 0<p∧x[j]? =some (x.getD j 0):=by
 have h:j<x.length:=by rw [hx.1]; exact hj
 have e:x[j]? =some x[j]:=gEg h;rw [Au e];exact ⟨(Aco hx h).1,(Aco hx h).2,e⟩
theorem Akl {p f a b:Int}:(a - f*b % p) % p=(a - f*b) % p:=by rw [Int.sub_emod_emod]
section
variable {p:Int} {w:Nat} {m:List (List Int)}
theorem Ag2 {r:Nat} {x:List Int} {k:Int} (hp:2<=p∧p<=97) (hx:Nl p w x) (hw:w<=100000) (hr:m[r]? =some x) (hk:0<=k∧k<p) :
  A0 (fun s_:Nat×List (List Int)=>Dj x r p k s_.1 s_.2) 4611686018427387904 (0,m)=some (m.set r (F6 p k x)):=by
 have hl:=hx.1;refine Afn hr (y:=F6 p k x) (by simp [F6]) (by omega) (fun j hj z hz=>?_) ?_
 ·have hv:=Aco hx hj
  try dsimp only
  unfold Dj;rw [Bc (by omega),cond_true,Z7 hr,obs,hz,obs,Afi hp hv hk,obs,Ap (by omega),List.set_set,Ai4]
 ·try dsimp only
  unfold Dj;rw [Be (by omega),cond_false]
theorem Ait {i r:Nat} {x v:List Int} {f:Int} (hp:2<=p∧p<=97) (hx:Nl p w x) (hv:Nl p w v) (hw:w<=100000) (hi:m[i]? =some x) (hr:m[r]? =some v) (hn:i≠r) (hf:0<=f∧f<p) :
  A0 (fun s_:Nat×List (List Int)=>Dn x i r p f s_.1 s_.2) 4611686018427387904 (0,m)=some (m.set i (Gb p f x v)):=by
 have hl:=hx.1;have hl':=hv.1;refine Afn hi (y:=Gb p f x v) (by simp [Gb]; omega) (by omega) (fun j hj z hz=>?_) ?_
 ·have h1:=Aco hx hj;have h2:=Aco hv (j:=j) (by omega)
  try dsimp only
  unfold Dn
  rw [Bc (by omega),cond_true,Z7 hi,obs,hz,obs,Aes hn,hr,obs,gEg (show j<v.length by omega),obs,Afi hp hf h2,obs,
   Aj3 hp h1 (O1 hp.1),obs,Ap (by omega),List.set_set,Ai8,Akl]
 ·try dsimp only
  unfold Dn;rw [Be (by omega),cond_false]
theorem Ahc {c r:Nat} {pr:List Int} (h:r<m.length):(H4 p c r pr m)[r]? =some pr:=by
 rw [gEg (by rw [Lh]; exact h),Td,if_pos rfl]
theorem Ahm {M0:List (List Int)} {c r:Nat} {pr:List Int} (hp:2<=p∧p<=97) (hm:D6 p w m) (hw:w<=100000) (hl:m.length<=100000) (hr:m[r]? =some pr) (hc:c<w) (h0:M0.length=m.length) :
  A0 (fun s_:Nat×List (List Int)=>Dl M0 r c p s_.1 s_.2) 4611686018427387904 (0,m)=some (H4 p c r pr m):=by
 refine Ajh (E:=H4 p c r pr m) (Lh ..) hr (Ahc (Ax hr)) (by omega) (fun i hi s hs h1 h2=>?_) ?_
 ·have hx:=hm _ (List.getElem_mem hi);have hv:=hm _ (List.mem_of_getElem? hr);obtain ⟨g1,g2,g3⟩:=Tb hx hc;generalize hxe:m[i]=x at *
  try dsimp only
  unfold Dl;rw [Bc (by omega),cond_true,Td,hxe];by_cases hir:i=r
  ·subst hir;rw [if_pos rfl,show (((i:Nat):Int)==((i:Nat):Int))=true from beq_self_eq_true _,cond_true,obs,cond_true,obs,Ap (by omega),Aa3 h2]
  ·rw [if_neg hir,show (((i:Nat):Int)==((r:Nat):Int))=false from by rw [beq_eq_false_iff_ne]; omega,cond_false,h1,obs,g3,obs,obs];by_cases h0:x.getD c 0=0
   ·rw [h0,show ((0:Int)==0)=true from rfl,cond_true,obs,Ap (by omega),Ago hx.2 (by rw [hx.1,hv.1]; exact Nat.le_refl _),Aa3 h1]
   ·rw [show (x.getD c 0==0)=false from beq_eq_false_iff_ne.2 h0,cond_false,obs,g3,obs,Ait hp hx hv hw h1 h2 hir ⟨g1,g2⟩,obs,Ap (by omega)]
 ·try dsimp only
  unfold Dl;rw [Be (by omega),cond_false]
theorem Aku {c r:Nat} {pr y:List Int}:H4 p c r pr (m.set r y)=H4 p c r pr m:=by
 apply List.ext_getElem
 ·rw [Lh,Lh,List.length_set]
 ·intro i h1 h2;rw [Td,Td];by_cases h:i=r
  ·rw [if_pos h,if_pos h]
  ·rw [if_neg h,if_neg h];simp only [List.getElem_set,if_neg (fun e=>h (Eq.symm e))]
theorem Ajv {c r:Nat} (hm:D6 p w m) (hc:c<w) (hl:m.length<=100000) (hr:r<=m.length) :
  A0 (fun s_:Nat=>Ct m c s_) 4611686018427387904 r=some (Gd m c r):=by
 have hle:=Qz (c:=c) hr;refine Bg ((m.drop r).findIdx fun x=>x.getD c 0 !=0) (fun t=>r+t) (by unfold Gd at hle; omega) _ rfl (fun t ht=>?_) ?_
 ·have h1:r+t<Gd m c r:=by unfold Gd; omega
  have h0:=Acc (i:=r+t) (by omega) h1 hr;obtain ⟨x,hx⟩:=Zy (show r+t<m.length by omega);obtain ⟨g1,g2,g3⟩:=Tb (hm _ (List.mem_of_getElem? hx)) hc;rw [Au hx] at h0
  try dsimp only
  unfold Ct;rw [Bc (by omega),cond_true,hx,obs,g3,obs,obs,h0,show ((0:Int)==0)=true from rfl,cond_true,Ap (by omega),Nat.add_assoc]
 ·show Ct m c (Gd m c r)=_;unfold Ct;by_cases h:Gd m c r=m.length
  ·rw [Be (by omega),cond_false,obs,cond_false]
  ·have h0:=Aen h hr;obtain ⟨x,hx⟩:=Zy (show Gd m c r<m.length by omega);obtain ⟨g1,g2,g3⟩:=Tb (hm _ (List.mem_of_getElem? hx)) hc;rw [Au hx] at h0;rw [Bc (by omega),cond_true,hx,obs,g3,obs,obs,beq_eq_false_iff_ne.2 h0,cond_false]
theorem Aln {r k:Nat} (hr:r<m.length) (hk:k<m.length):(O8 m r k)[r]? =some (m.getD k []):=by
 unfold O8;by_cases h:r=k
 ·subst h;rw [List.getElem?_set_self (by rw [List.length_set]; exact hr)]
 ·rw [List.getElem?_set_ne (Ne.symm h),List.getElem?_set_self hr]
theorem Ahi {n:Nat} (hp:isF p=true) (hm:D6 p w m) (hn:n<=w) (hw:w<=100000) (hl:m.length<=100000) :
  A0 (fun s_:Nat×Nat×List (List Int)=>B9 (n:Int) p s_.1 s_.2.1 s_.2.2) 4611686018427387904 (0,0,m)=some (gjT p m n):=by
 have hb:=Gp hp;refine K0 n (fun c s=>s=((gjT p m c).1,c,(gjT p m c).2)) (by omega) _ rfl (fun c s hc hI=>?_) (fun s hI=>?_)
 ·subst hI;obtain ⟨hm',hr,hl'⟩:=J8 hb.1 hm c;by_cases hlt:(gjT p m c).1<(gjT p m c).2.length
  ·refine .inl ?_;refine ⟨_,?_,rfl⟩;show B9 _ _ _ _ _=some (Ctl.next ((gjS p c (gjT p m c)).1,c+1,(gjS p c (gjT p m c)).2));generalize gjT p m c=s at *;obtain ⟨r,M⟩:=s
   try dsimp only at *
   unfold B9 gjS;rw [Bc (by omega),cond_true,obs,Bc (by omega),cond_true,Ajv hm' (by omega) (by omega) hr,obs,if_pos hlt];by_cases hk:Gd M c r=M.length
   ·rw [hk,beq_self_eq_true,cond_true,obs,if_pos rfl];exact Ap (by omega) _
   ·have hle:=Qz (c:=c) hr;have hkl:Gd M c r<M.length:=by omega
    rw [show (((Gd M c r:Nat):Int)==((M.length:Nat):Int))=false from by rw [beq_eq_false_iff_ne]; omega,cond_false,if_neg hk];have hnz:=Aen hk hr;obtain ⟨x,hx⟩:=Zy hlt;obtain ⟨y,hy⟩:=Zy hkl;have hyM:=hm' _ (List.mem_of_getElem? hy);obtain ⟨g1,g2,g3⟩:=Tb hyM (show c<w by omega);rw [Au hy] at hnz;obtain ⟨i1,_,i2,i3,_⟩:=Aar hp (a:=y.getD c 0) (by omega);have hs:=Aln hlt hkl;have hpm:=Zl hm' hlt hkl;have hsl:=S7 M r (Gd M c r);have hsw:(M.set r y).set (Gd M c r) x=O8 M r (Gd M c r):=by unfold O8; rw [Au hx,Au hy]
    rw [hx,obs,hy,obs,hsw,Au hy];rw [Au hy] at hs;generalize O8 M r (Gd M c r)=W at *;have hpr:Nl p w (F6 p (Ef p (y.getD c 0)) y):=Qb hb.1 hyM.1
    rw [hs,obs,g3,obs,i1,obs,Ag2 hb hyM hw hs ⟨i2,i3⟩,obs,
     Ahm hb (w:=w) (m:=W.set r (F6 p (Ef p (y.getD c 0)) y)) (pr:=F6 p (Ef p (y.getD c 0)) y) (fun z hz=>?_) hw (by rw [List.length_set]; omega) (Z7 hs) (by omega) rfl,obs,Ap (by omega),obs,Aku]
    ·exact Ap (by omega) _
    ·rcases List.mem_or_eq_of_mem_set hz with hz | rfl
     ·exact hpm _ hz
     ·exact hpr
  ·refine .inr ?_;rw [Vm hlt n (by omega)];generalize gjT p m c=s at *
   try dsimp only
   unfold B9;rw [Bc (by omega),cond_true,obs,Be (by omega),cond_false]
 ·subst hI
  try dsimp only
  unfold B9;rw [Be (by omega),cond_false,obs,cond_false]
theorem Ajs (hm:D6 p w m) (hw:w<=100000) (hl:m.length<=100000) :
  A0 (fun s_:Nat×List (List Int)=>Cu m s_.1 s_.2) 4611686018427387904 (0,([]:List (List Int)))=some m:=by
 have h:=Gr (body:=fun s_:Nat×List (List Int)=>Cu m s_.1 s_.2) m id [] (F:=4611686018427387904) (by omega) m (fun i x h=>?_) ?_
 ·simpa using h
 ·have:=Ax h;have hx:=(hm x (List.mem_of_getElem? h)).1
  try dsimp only
  unfold Cu;rw [Bc (by omega),cond_true,h,obs,Te _ (by omega),obs,Ap (by simp; omega),Ap (by omega)]; rfl
 ·try dsimp only
  unfold Cu;rw [Be (by omega),cond_false,List.map_id,List.nil_append]
theorem Ac7 {n:Nat} (hp:isF p=true) (hm:D6 p w m) (hn:n<=w) (hw:w<=100000) (hl:m.length<=100000):E1 p (n:Int) m=some (gj p n m):=by
 have hb:=Gp hp;obtain ⟨_,h2,h3⟩:=J8 hb.1 hm n;unfold E1;rw [Ajs hm hw hl,obs,Ahi hp hm hn hw hl,obs];exact Ap (by omega) _
end
end
section
section
variable {p:Int} {w:Nat} {m:List (List Int)}
theorem Aix (hm:D6 p w m) (hw:w<=100000) (hl:m.length<=100000):Ga m=some m:=by
 unfold Ga;have h:=Gr (body:=fun s_:Nat×List (List Int)=>Di m s_.1 s_.2) m id [] (F:=4611686018427387904) (by omega) m (fun i x h=>?_) ?_
 ·rw [Ap (by omega),show List.replicate 0 ([]:List Int)=[] from rfl,show A0 (fun s_:Nat×List (List Int)=>Di m s_.1 s_.2) 4611686018427387904 (0,[])=some m by simpa using h]; rfl
 ·have:=Ax h;have hx:=(hm x (List.mem_of_getElem? h)).1
  try dsimp only
  unfold Di;rw [Bc (by omega),cond_true,h,obs,Yo _ (by omega),obs,Ap (by simp; omega),Ap (by omega)]; rfl
 ·try dsimp only
  unfold Di;rw [Be (by omega),cond_false,List.map_id,List.nil_append]
end
end
section
def Cg (p a b:Int):Prop:=∃ q,a=b+p*q
section
variable {p a b c d:Int}
theorem Cg.rf:Cg p a a:=⟨0,by simp⟩
theorem Cg.of (h:a=b):Cg p a b:=h▸Cg.rf
theorem Cg.symm (h:Cg p a b):Cg p b a:=by obtain ⟨q,rfl⟩:=h; exact ⟨-q,by grind⟩
theorem Cg.trans (h1:Cg p a b) (h2:Cg p b c):Cg p a c:=by obtain ⟨q,rfl⟩:=h1; obtain ⟨r,rfl⟩:=h2; exact ⟨q+r,by grind⟩
theorem Cg.add (h1:Cg p a b) (h2:Cg p c d):Cg p (a+c) (b+d):=by obtain ⟨q,rfl⟩:=h1; obtain ⟨r,rfl⟩:=h2; exact ⟨q+r,by grind⟩
theorem Cg.sub (h1:Cg p a b) (h2:Cg p c d):Cg p (a - c) (b - d):=by obtain ⟨q,rfl⟩:=h1; obtain ⟨r,rfl⟩:=h2; exact ⟨q - r,by grind⟩
theorem Cg.mul (h1:Cg p a b) (h2:Cg p c d):Cg p (a*c) (b*d):=by obtain ⟨q,rfl⟩:=h1; obtain ⟨r,rfl⟩:=h2; exact ⟨q*d+b*r+p*q*r,by grind⟩
theorem Cg.md:Cg p (a % p) a:=⟨-(a / p),by have:=Int.emod_add_mul_ediv a p; grind⟩
theorem Cg.to (h:Cg p a b):a % p=b % p:=by obtain ⟨q,rfl⟩:=h; rw [Int.add_mul_emod_self_left]
theorem Cg.fr (h:a % p=b % p):Cg p a b:=(Cg.md.symm.trans (Cg.of h)).trans Cg.md
theorem Cg.eq (h:Cg p a b) (h1:0<=a∧a<p) (h2:0<=b∧b<p):a=b:=by
 have:=h.to
 rwa [Int.emod_eq_of_lt h1.1 h1.2,Int.emod_eq_of_lt h2.1 h2.2] at this
end
def sm:Nat->(Nat->Int)->Int
 | 0,_=>0
 | k+1,f=>sm k f+f k
section
variable {p:Int} {f g:Nat->Int}
theorem Afh:∀ {k:Nat},(∀ i,i<k->Cg p (f i) (g i))->Cg p (sm k f) (sm k g)
 | 0,_=>Cg.rf
 | k+1,h=>(Afh fun i hi=>h i (by omega)).add (h k (by omega))
theorem Akz:∀ {k:Nat},(∀ i,i<k->f i=g i)->sm k f=sm k g
 | 0,_=>rfl
 | k+1,h=>by unfold sm; rw [Akz fun i hi=>h i (by omega),h k (by omega)]
theorem Ahq:∀ {k:Nat},sm k (fun i=>f i+g i)=sm k f+sm k g
 | 0=>rfl
 | k+1=>by unfold sm; rw [Ahq]; dsimp only; omega
theorem Ahk {a:Int}:∀ {k:Nat},sm k (fun i=>a*f i)=a*sm k f
 | 0=>by simp [sm]
 | k+1=>by unfold sm; rw [Ahk]; grind
theorem S5:∀ {k:Nat},(∀ i,i<k->f i=0)->sm k f=0
 | 0,_=>rfl
 | k+1,h=>by unfold sm; rw [S5 fun i hi=>h i (by omega),h k (by omega)]; rfl
theorem Adi {t:Nat}:∀ {k:Nat},t<k->(∀ i,i<k->i≠t->f i=0)->sm k f=f t
 | 0,h,_=>by omega
 | k+1,h,h0=>by
  unfold sm;by_cases e:t=k
  ·subst e;rw [S5 fun i hi=>h0 i (by omega) (by omega)]; omega
  ·rw [Adi (t:=t) (by omega) fun i hi=>h0 i (by omega),h0 k (by omega) (by omega)]; omega
end
def en (m:List (List Int)) (i j:Nat):Int:=(m.getD i []).getD j 0
inductive Dw (p:Int) (n:Nat) (m:List (List Int)):(Nat->Int)->Prop
 | zero {f:Nat->Int}:(∀ j,j<n->Cg p (f j) 0)->Dw p n m f
 | add {f g:Nat->Int} (i:Nat) (k:Int):i<m.length->Dw p n m g->(∀ j,j<n->Cg p (f j) (g j+k*en m i j))->Dw p n m f
section
variable {p:Int} {n:Nat} {m m':List (List Int)} {f g:Nat->Int}
theorem B2 {i:Nat} (h:i<m.length):Dw p n m (en m i):=.add i 1 h (.zero (f:=fun _=>0) fun _ _=>Cg.rf) fun _ _=>Cg.of (by omega)
theorem Cx (h:Dw p n m f) (hf:∀ j,j<n->Cg p (g j) (f j)):Dw p n m g:=by
 cases h with
 | zero h=>exact .zero fun j hj=>(hf j hj).trans (h j hj)
 | add i k hi h hs=>exact .add i k hi h fun j hj=>(hf j hj).trans (hs j hj)
theorem Mx (h:Dw p n m f) (hg:Dw p n m g):Dw p n m (fun j=>f j+g j):=by
 induction hg with
 | zero h0=>exact Cx h fun j hj=>(Cg.rf.add (h0 j hj)).trans (Cg.of (by omega))
 | add i k hi _ hs ih=>exact .add i k hi ih fun j hj=>(Cg.rf.add (hs j hj)).trans (Cg.of (by omega))
theorem Gy (a:Int) (h:Dw p n m f):Dw p n m (fun j=>a*f j):=by
 induction h with
 | zero h0=>exact .zero fun j hj=>(Cg.rf.mul (h0 j hj)).trans (Cg.of (by omega))
 | add i k hi _ hs ih=>exact .add i (a*k) hi ih fun j hj=>(Cg.rf.mul (hs j hj)).trans (Cg.of (by grind))
theorem Ig (h:∀ i,i<m.length->Dw p n m' (en m i)) (hf:Dw p n m f):Dw p n m' f:=by
 induction hf with
 | zero h0=>exact .zero h0
 | add i k hi _ hs ih=>exact Cx (Mx ih (Gy k (h i hi))) hs
structure Rn (c r:Nat) (m:List (List Int)) (pv:Nat->Nat):Prop where
 rl:r<=m.length
 lt:∀ i,i<r->pv i<c
 mono:∀ i k,i<k->k<r->pv i<pv k
 low:∀ i,i<r->∀ j,j<pv i->en m i j=0
 one:∀ i,i<r->en m i (pv i)=1
 zero:∀ i,i<r->∀ k,k≠i->en m k (pv i)=0
 tail:∀ i,r<=i->∀ j,j<c->en m i j=0
theorem Me {i j:Nat} (h:m.length<=i):en m i j=0:=by
 unfold en;rw [gDg (l:=m),List.getElem?_eq_none h]; rfl
theorem Aip {pv:Nat->Nat} (h:Rn n m.length m pv) (hs:Dw p n m f):∀ j,j<n->Cg p (f j) (sm m.length fun i=>f (pv i)*en m i j):=by
 induction hs with
 | zero h0 =>
  intro j hj;refine (h0 j hj).trans ?_;refine Cg.symm ((Afh (g:=fun _=>0) fun i hi=>?_).trans (Cg.of (S5 fun _ _=>rfl)));exact ((h0 _ (h.lt i hi)).mul Cg.rf).trans (Cg.of (by omega))
 | @add f g t k ht _ hs ih =>
  intro j hj;refine (hs j hj).trans (((ih j hj).add Cg.rf).trans ?_)
  have e:sm m.length (fun i=>(g (pv i)+k*en m t (pv i))*en m i j)=sm m.length (fun i=>g (pv i)*en m i j)+k*en m t j:=by
   rw [Akz (g:=fun i=>g (pv i)*en m i j+k*(en m t (pv i)*en m i j)) fun i _=>by grind,Ahq (f:=fun i=>g (pv i)*en m i j),Ahk (f:=fun i=>en m t (pv i)*en m i j),Adi (f:=fun i=>en m t (pv i)*en m i j) ht fun i hi hne=>by rw [h.zero i hi t (Ne.symm hne)]; omega,h.one t ht,Int.one_mul]
  rw [← e];exact (Afh fun i hi=>(hs _ (h.lt i hi)).mul Cg.rf).symm
theorem Y1 {pv:Nat->Nat} (h:Rn n m.length m pv) (hs:Dw p n m f) {q:Nat} (hq:q<n) (h0:∀ j,j<q->Cg p (f j) 0) (h1:¬ Cg p (f q) 0):∃ i,i<m.length∧pv i=q:=by
 refine Classical.byContradiction fun hn=>h1 ?_
 refine (Aip h hs q hq).trans ((Afh (g:=fun _=>0) fun i hi=>?_).trans (Cg.of (S5 fun _ _=>rfl)));rcases Nat.lt_trichotomy (pv i) q with hlt | he | hgt
 ·exact ((h0 _ hlt).mul Cg.rf).trans (Cg.of (by omega))
 ·exact (hn ⟨i,hi,he⟩).elim
 ·exact Cg.of (by rw [h.low i hi q hgt]; omega)
theorem Afm {u v:Nat->Nat} {k l:Nat} (hu:∀ i j,i<j->j<k->u i<u j) (hv:∀ i j,i<j->j<l->v i<v j) (h1:∀ i,i<k->∃ t,t<l∧v t=u i) (h2:∀ i,i<l->∃ t,t<k∧u t=v i) :
  ∀ i,i<k->i<l->u i=v i:=by
 intro i
 induction i using Nat.strongRecOn with
 | _ i ih =>
  intro hk hl;obtain ⟨t,ht,e⟩:=h1 i hk;obtain ⟨s,hs,e'⟩:=h2 i hl
  have a1:v i<=u i:=by
   rcases Nat.lt_trichotomy t i with hlt | he | hgt
   ·have:=ih t hlt (by omega) ht;have:=hu t i hlt hk;omega
   ·subst he; omega
   ·have:=hv i t hgt ht; omega
  have a2:u i<=v i:=by
   rcases Nat.lt_trichotomy s i with hlt | he | hgt
   ·have:=ih s hlt hs (by omega);have:=hv s i hlt hl;omega
   ·subst he; omega
   ·have:=hu i s hgt hs; omega
  omega
theorem Vb {u v:Nat->Nat} {k l:Nat} (hu:∀ i j,i<j->j<k->u i<u j) (hv:∀ i j,i<j->j<l->v i<v j) (h1:∀ i,i<k->∃ t,t<l∧v t=u i) (h2:∀ i,i<l->∃ t,t<k∧u t=v i):l<=k:=by
 refine Nat.le_of_not_lt fun hlt=>?_
 obtain ⟨t,ht,e⟩:=h2 k hlt;have:=Afm hu hv h1 h2 t ht (by omega);have:=hv t k ht hlt;omega
theorem Adv (hp:2<=p):¬ Cg p 1 0:=fun h=>by
 have:=h.eq ⟨by omega,by omega⟩ ⟨by omega,by omega⟩;omega
theorem Ab8 {i j:Nat} (hp:2<=p) (hm:D6 p n m):0<=en m i j∧en m i j<p:=by
 unfold en;by_cases h:i<m.length
 ·have hx:=hm _ (F8 h);generalize m.getD i []=x at hx;by_cases hj:j<x.length
  ·rw [Au (gEg hj)]; exact hx.2 _ (List.getElem_mem hj)
  ·rw [gDg,List.getElem?_eq_none (by omega)]; exact ⟨by simp,by simp; omega⟩
 ·rw [gDg (l:=m),List.getElem?_eq_none (by omega)]; simp; omega
theorem Akn (hm:D6 p n m) (hm':D6 p n m') (hl:m.length=m'.length) (h:∀ i,i<m.length->∀ j,j<n->en m i j=en m' i j):m=m':=by
 refine List.ext_getElem hl fun i h1 h2=>?_
 have e1:=hm _ (List.getElem_mem h1);have e2:=hm' _ (List.getElem_mem h2);refine List.ext_getElem (e1.1.trans e2.1.symm) fun j k1 k2=>?_
 have:=h i h1 j (by have:=e1.1; omega);unfold en at this;rw [Au (gEg h1),Au (gEg h2),Au (gEg k1),Au (gEg k2)] at this;exact this
theorem Agn {pv pv':Nat->Nat} (hp:2<=p) (h:Rn n m.length m pv) (h':Rn n m'.length m' pv') (hm:D6 p n m) (hm':D6 p n m') (h1:∀ f,Dw p n m f->Dw p n m' f) (h2:∀ f,Dw p n m' f->Dw p n m f):m=m':=by
 have k1:∀ i,i<m.length->∃ t,t<m'.length∧pv' t=pv i:=fun i hi =>
  Y1 h' (h1 _ (B2 hi)) (h.lt i hi) (fun j hj=>Cg.of (h.low i hi j hj)) (by rw [h.one i hi]; exact Adv hp)
 have k2:∀ i,i<m'.length->∃ t,t<m.length∧pv t=pv' i:=fun i hi =>
  Y1 h (h2 _ (B2 hi)) (h'.lt i hi) (fun j hj=>Cg.of (h'.low i hi j hj)) (by rw [h'.one i hi]; exact Adv hp)
 have hl:m.length=m'.length:=Nat.le_antisymm (Vb h'.mono h.mono k2 k1) (Vb h.mono h'.mono k1 k2);have hpv:=Afm h.mono h'.mono k1 k2;refine Akn hm hm' hl fun i hi j hj=>?_
 refine Cg.eq (Cg.symm ((Aip h (h2 _ (B2 (i:=i) (by omega))) j hj).trans (Cg.of ?_))) (Ab8 hp hm) (Ab8 hp hm');rw [Adi hi fun t ht hne=>?_,hpv i hi (by omega),h'.one i (by omega)]
 ·omega
 ·rw [hpv t ht (by omega),h'.zero t (by omega) i (Ne.symm hne)]; omega
theorem Alm {r k i j:Nat} (hr:r<m.length) (hk:k<m.length):en (O8 m r k) i j=if i=k then en m r j else if i=r then en m k j else en m i j:=by
 unfold en O8;by_cases h1:i=k
 ·subst h1;rw [if_pos rfl,gDg (l:=List.set _ _ _),List.getElem?_set_self (by rw [List.length_set]; exact hk)]; rfl
 ·rw [if_neg h1,gDg (l:=List.set _ _ _),List.getElem?_set_ne (Ne.symm h1)];by_cases h2:i=r
  ·subst h2;rw [if_pos rfl,List.getElem?_set_self hr]; rfl
  ·rw [if_neg h2,List.getElem?_set_ne (Ne.symm h2),← gDg]
theorem Ag1 {k:Int} {x:List Int} {j:Nat}:(F6 p k x).getD j 0=x.getD j 0*k % p:=by
 unfold F6;rw [gDg,List.getElem?_map,gDg];cases x[j]? with
 | none=>simp
 | some a=>rfl
theorem Afz {k:Int} {x v:List Int} {j:Nat} (h:x.length=v.length):(Gb p k x v).getD j 0=(x.getD j 0 - k*v.getD j 0) % p:=by
 unfold Gb;rw [gDg,List.getElem?_zipWith,gDg,gDg];by_cases hj:j<x.length
 ·rw [gEg hj,gEg (show j<v.length by omega)]; rfl
 ·rw [List.getElem?_eq_none (show x.length<=j by omega),List.getElem?_eq_none (show v.length<=j by omega)]; simp
theorem Al3 {c r i j:Nat} {pr:List Int} (hm:D6 p n m) (hpr:pr.length=n) (hi:i<m.length):en (H4 p c r pr m) i j=if i=r then pr.getD j 0 else (en m i j - en m i c*pr.getD j 0) % p:=by
 have hx:=hm _ (List.getElem_mem hi);unfold en H4;rw [gDg (l:=List.mapIdx _ _),List.getElem?_mapIdx,gEg hi,Au (gEg hi)];show (if i=r then pr else Gb p (m[i].getD c 0) m[i] pr).getD j 0=_;split
 ·rfl
 ·rw [Afz (by rw [hx.1,hpr])]
def Uj (p:Int):Prop:=∀ a,1<=a->a<p->a*Ef p a % p=1
theorem Ajy {c:Nat} {s:Nat×List (List Int)} {pv:Nat->Nat} (hp:2<=p) (hI:Uj p) (hm:D6 p n s.2) (h:Rn c s.1 s.2 pv) :
  (∃ pv',Rn (c+1) (gjS p c s).1 (gjS p c s).2 pv')∧(∀ f,Dw p n (gjS p c s).2 f↔Dw p n s.2 f):=by
 obtain ⟨r,m⟩:=s;dsimp only at hm h;unfold gjS;dsimp only;by_cases h1:r<m.length
 ·rw [if_pos h1];by_cases h2:Gd m c r=m.length
  ·rw [if_pos h2];refine ⟨⟨pv,h.rl,fun i hi=>Nat.lt_succ_of_lt (h.lt i hi),h.mono,h.low,h.one,h.zero,fun i hi j hj=>?_⟩,fun f=>Iff.rfl⟩;dsimp only at hi ⊢;by_cases hjc:j<c
   ·exact h.tail i hi j hjc
   ·obtain rfl:j=c:=by omega
    by_cases hil:i<m.length
    ·exact Acc hi (by omega) h.rl
    ·exact Me (by omega)
  ·rw [if_neg h2];have hk1:=Qz (c:=c) h.rl;have hk2:=Alo m c r;have hnz:=Aen h2 h.rl;have hkl:Gd m c r<m.length:=by omega
   have hx:=hm _ (F8 hkl);have ha:en m (Gd m c r) c≠0:=hnz;generalize hk:Gd m c r=k at *;have hab:=Ab8 (i:=k) (j:=c) hp hm;have hinv:=hI (en m k c) (by omega) hab.2;generalize hv:Ef p (en m k c)=v at hinv
   have hpr:∀ j,(prV p c (m.getD k [])).getD j 0=en m k j*v % p:=fun j=>by
    unfold prV;rw [Ag1];show _*Ef p (en m k c) % p=_;rw [hv]; rfl
   have hprl:(prV p c (m.getD k [])).length=n:=(Qb hp hx.1).1;generalize prV p c (m.getD k [])=pr at *;have hW:=Zl hm h1 hkl;have hWl:=S7 m r k;have hWe:∀ i j,en (O8 m r k) i j=if i=k then en m r j else if i=r then en m k j else en m i j:=fun i j=>Alm h1 hkl
   generalize O8 m r k=W at *
   have hE:∀ i j,i<m.length->en (H4 p c r pr W) i j=if i=r then en m k j*v % p else (en W i j - en W i c*(en m k j*v % p)) % p:=fun i j hi=>by
    rw [Al3 hW hprl (by omega),hpr]
   have hEl:=Lh p c r pr W
   have h0:∀ i j,i<m.length->i≠r->en m k j=0->en (H4 p c r pr W) i j=en W i j:=fun i j hi hne h0=>by
    have hb:=Ab8 (i:=i) (j:=j) hp hW;rw [hE i j hi,if_neg hne,h0,Int.zero_mul,Int.zero_emod,Int.mul_zero,Int.sub_zero,Int.emod_eq_of_lt hb.1 hb.2]
   have hkj:∀ j,j<c->en m k j=0:=fun j hj=>h.tail k (by omega) j hj
   have hkp:∀ i,i<r->en m k (pv i)=0:=fun i hi=>h.zero i hi k (by omega)
   have hcc:en m k c*v % p=1:=hinv
   have hsp:∀ i j,i<m.length->i≠r->Cg p (en (H4 p c r pr W) i j) (en W i j+ -en W i c*en (H4 p c r pr W) r j):=fun i j hi hne=>by
    rw [hE i j hi,if_neg hne,hE r j h1,if_pos rfl];exact Cg.md.trans (Cg.of (by grind))
   have hWr:∀ j,Cg p (en W r j) (en m k c*en (H4 p c r pr W) r j):=fun j=>by
    have e:en W r j=en m k j:=by
     rw [hWe];by_cases e:r=k
     ·rw [if_pos e,e]
     ·rw [if_neg e,if_pos rfl]
    rw [e,hE r j h1,if_pos rfl];obtain ⟨q,hq⟩:=Cg.fr (p:=p) (a:=en m k c*v) (b:=1) (by rw [hcc]; exact (Int.emod_eq_of_lt (by omega) (by omega)).symm);refine Cg.trans ⟨-q*en m k j,?_⟩ (Cg.rf.mul Cg.md.symm)
    grind
   refine ⟨⟨fun i=>if i=r then c else pv i,?_,?_,?_,?_,?_,?_,?_⟩,fun f=>⟨Ig fun i hi=>?_,Ig fun i hi=>?_⟩⟩
   ·show r+1<=(H4 p c r pr W).length;omega
   ·intro i hi
    try dsimp only
    split
    ·omega
    ·have:=h.lt i (by omega); omega
   ·intro i l hil hl
    try dsimp only
    rw [if_neg (by omega:i≠r)];split
    ·exact h.lt i (by omega)
    ·exact h.mono i l hil (by omega)
   ·intro i hi j hj;dsimp only at hj ⊢;by_cases e:i=r
    ·subst e;rw [if_pos rfl] at hj;rw [hE i j h1,if_pos rfl,hkj j hj,Int.zero_mul,Int.zero_emod]
    ·rw [if_neg e] at hj;have:=h.lt i (by omega);rw [h0 i j (by omega) e (hkj j (by omega)),hWe,if_neg (by omega),if_neg e];exact h.low i (by omega) j hj
   ·intro i hi;dsimp only;by_cases e:i=r
    ·subst e;rw [if_pos rfl,hE i c h1,if_pos rfl,hcc]
    ·rw [if_neg e,h0 i (pv i) (by omega) e (hkp i (by omega)),hWe,if_neg (by omega),if_neg e];exact h.one i (by omega)
   ·intro i hi l hl;dsimp only;by_cases hll:l<m.length
    ·by_cases e:i=r
     ·subst e;rw [if_pos rfl,hE l c hll,if_neg hl,hcc,Int.mul_one,Int.sub_self,Int.zero_emod]
     ·rw [if_neg e];by_cases e2:l=r
      ·subst e2;rw [hE l (pv i) hll,if_pos rfl,hkp i (by omega),Int.zero_mul,Int.zero_emod]
      ·rw [h0 l (pv i) hll e2 (hkp i (by omega)),hWe];by_cases e3:l=k
       ·rw [if_pos e3]; exact h.zero i (by omega) r (by omega)
       ·rw [if_neg e3,if_neg e2]; exact h.zero i (by omega) l hl
    ·exact Me (by omega)
   ·intro i hi j hj;dsimp only at hi ⊢;by_cases hil:i<m.length
    ·by_cases e:j=c
     ·subst e;rw [hE i j hil,if_neg (by omega),hcc,Int.mul_one,Int.sub_self,Int.zero_emod]
     ·rw [h0 i j hil (by omega) (hkj j (by omega)),hWe];by_cases e3:i=k
      ·rw [if_pos e3]; exact h.tail r (Nat.le_refl r) j (by omega)
      ·rw [if_neg e3,if_neg (by omega)]; exact h.tail i (by omega) j (by omega)
    ·exact Me (by omega)
   ·have hi:i<m.length:=by dsimp only at hi; omega
    have hrow:∀ t,t<m.length->Dw p n m (en W t):=fun t ht=>by
     by_cases e1:t=k
     ·exact Cx (B2 h1) fun j hj=>Cg.of (by rw [hWe,if_pos e1])
     ·by_cases e2:t=r
      ·exact Cx (B2 hkl) fun j hj=>Cg.of (by rw [hWe,if_neg e1,if_pos e2])
      ·exact Cx (B2 ht) fun j hj=>Cg.of (by rw [hWe,if_neg e1,if_neg e2])
    have hr':Dw p n m (en (H4 p c r pr W) r):=Cx (Gy v (B2 hkl)) fun j hj=>by
     rw [hE r j h1,if_pos rfl];exact Cg.md.trans (Cg.of (by grind))
    by_cases e:i=r
    ·subst e; exact hr'
    ·exact Cx (Mx (hrow i hi) (Gy (-en W i c) hr')) fun j hj=>hsp i j hi e
   ·have hE':∀ t,t<m.length->Dw p n (H4 p c r pr W) (en W t):=fun t ht=>by
     by_cases e:t=r
     ·subst e;exact Cx (Gy (en m k c) (B2 (i:=t) (by omega))) fun j hj=>hWr j
     ·refine Cx (Mx (B2 (i:=t) (by omega)) (Gy (en W t c) (B2 (i:=r) (by omega)))) fun j hj=>?_
      exact Cg.symm (((hsp t j ht e).add Cg.rf).trans (Cg.of (by grind)))
    by_cases e1:i=r
    ·subst e1;exact Cx (hE' k hkl) fun j hj=>Cg.of (by rw [hWe,if_pos rfl])
    ·by_cases e2:i=k
     ·subst e2;exact Cx (hE' r h1) fun j hj=>Cg.of (by rw [hWe,if_neg (by omega),if_pos rfl])
     ·exact Cx (hE' i hi) fun j hj=>Cg.of (by rw [hWe,if_neg e2,if_neg e1])
 ·rw [if_neg h1];have:=h.rl;refine ⟨⟨pv,h.rl,fun i hi=>Nat.lt_succ_of_lt (h.lt i hi),h.mono,h.low,h.one,h.zero,fun i hi j hj=>Me (m:=m) (by dsimp only at hi; omega)⟩,fun f=>Iff.rfl⟩
theorem Aaf {m:List (List Int)} (hp:2<=p) (hI:Uj p) (hm:D6 p n m):∀ c,(∃ pv,Rn c (gjT p m c).1 (gjT p m c).2 pv)∧∀ f,Dw p n (gjT p m c).2 f↔Dw p n m f
 | 0=>⟨⟨fun _=>0,Nat.zero_le _,by intro i hi; simp [gjT] at hi,by intro i k _ hk; simp [gjT] at hk,by intro i hi; simp [gjT] at hi,by intro i hi; simp [gjT] at hi,by intro i hi; simp [gjT] at hi,fun _ _ j hj=>by omega⟩,fun _=>Iff.rfl⟩
 | c+1=>by
  obtain ⟨⟨pv,h1⟩,h2⟩:=Aaf hp hI hm c;obtain ⟨h3,h4⟩:=Ajy hp hI (J8 hp hm c).1 h1;exact ⟨h3,fun f=>(h4 f).trans (h2 f)⟩
theorem Pp {r i j:Nat} (h:i<r):en (m.take r) i j=en m i j:=by
 unfold en;rw [gDg (l:=m.take r),List.getElem?_take,if_pos h,← gDg]
theorem Tj {k:Nat} (hk:k<=n) (h:Dw p n m f):Dw p k m f:=by
 induction h with
 | zero h0=>exact .zero fun j hj=>h0 j (by omega)
 | add i k hi _ hs ih=>exact .add i k hi ih fun j hj=>hs j (by omega)
theorem Aaw {c:Nat} (hp:2<=p) (hI:Uj p) (hm:D6 p n m) (hc:c<=n):(∃ pv,Rn c (gj p c m).length (gj p c m) pv)∧∀ f,Dw p c (gj p c m) f↔Dw p c m f:=by
 obtain ⟨⟨pv,h⟩,h2⟩:=Aaf hp hI hm c;have hl:=Aiy (n:=c) hp hm;have hrl:=h.rl;refine ⟨⟨pv,Nat.le_refl _,?_,?_,?_,?_,?_,?_⟩,fun f=>Iff.trans (b:=Dw p c (gjT p m c).2 f) ⟨Ig fun i hi=>?_,Ig fun i hi=>?_⟩ ⟨Ig fun i hi=>Tj hc ((h2 _).1 (B2 hi)),Ig fun i hi=>Tj hc ((h2 _).2 (B2 hi))⟩⟩
 ·rw [hl]; exact h.lt
 ·rw [hl]; exact h.mono
 ·rw [hl]; intro i hi j hj; unfold gj; rw [Pp hi]; exact h.low i hi j hj
 ·rw [hl]; intro i hi; unfold gj; rw [Pp hi]; exact h.one i hi
 ·rw [hl]; intro i hi k hk;by_cases hkl:k<(gjT p m c).1
  ·unfold gj; rw [Pp hkl]; exact h.zero i hi k hk
  ·exact Me (by omega)
 ·intro i hi j _; exact Me hi
 ·rw [hl] at hi;exact Cx (B2 (i:=i) (by omega)) fun j hj=>Cg.of (by unfold gj; rw [Pp hi])
 ·by_cases hir:i<(gjT p m c).1
  ·exact Cx (B2 (i:=i) (by omega)) fun j hj=>Cg.of (by unfold gj; rw [Pp hir])
  ·exact .zero fun j hj=>Cg.of (h.tail i (by omega) j hj)
theorem Afp (hp:2<=p) (hI:Uj p) (hm:D6 p n m):(∃ pv,Rn n (gj p n m).length (gj p n m) pv)∧∀ f,Dw p n (gj p n m) f↔Dw p n m f:=Aaw hp hI hm (Nat.le_refl n)
theorem Aj0 {pv:Nat->Nat} (hp:2<=p) (hI:Uj p) (hm:D6 p n m) (hm':D6 p n m') (h:Rn n m'.length m' pv) (hs:∀ f,Dw p n m f↔Dw p n m' f):gj p n m=m':=by
 obtain ⟨⟨pv',h1⟩,h2⟩:=Afp hp hI hm;exact Agn hp h1 h (Zn hp hm) hm' (fun f hf=>(hs f).1 ((h2 f).1 hf)) fun f hf=>(h2 f).2 ((hs f).2 hf)
end
end
section
def Jl (x:List Int):Nat:=x.findIdx fun a=>a !=0
section
variable {p:Int} {n:Nat} {m m' B:List (List Int)} {o:List Int}
theorem Us {c r i:Nat} {pv:Nat->Nat} (h:Rn c r m pv) (hm:D6 p n m) (hc:c<=n) (hi:i<r):Jl (m.getD i [])=pv i:=by
 have hl:=h.rl;have hx:=(hm _ (F8 (show i<m.length by omega))).1;have hlt:=h.lt i hi;have e:∀ (j:Nat) (hj:j<(m.getD i []).length),(m.getD i [])[j]=en m i j:=fun j hj=>(Au (gEg hj)).symm
 unfold Jl;refine (List.findIdx_eq (show pv i<(m.getD i []).length by omega)).2 ⟨?_,fun j hj=>?_⟩
 ·rw [e,h.one i hi]; rfl
 ·rw [e,h.low i hi j hj]; rfl
theorem Akj {u:Nat->Nat} {k:Nat} (h:∀ i j,i<j->j<k->u i<u j) (hl:∀ i,i<k->u i<k):∀ i,i<k->u i=i:=by
 have h1:∀ i,i<k->i<=u i:=by
  intro i
  induction i with
  | zero=>intro _; omega
  | succ i ih=>intro hi; have:=ih (by omega); have:=h i (i+1) (by omega) hi; omega
 have h2:∀ d i,i+d<k->u i+d<=u (i+d):=by
  intro d
  induction d with
  | zero=>intro i _; exact Nat.le_refl _
  | succ d ih=>intro i hi; have:=ih i (by omega); have:=h (i+d) (i+(d+1)) (by omega) hi; omega
 intro i hi;have a:=h1 i hi;have b:=h2 (k - 1 - i) i (by omega);have c:=hl (i+(k - 1 - i)) (by omega);omega
structure OrdV (n:Nat) (o:List Int):Prop where
 nd:o.Nodup
 mem:∀ q,q∈o↔0<=q∧q<(n:Int)
theorem OrdV.len (h:OrdV n o):o.length=n:=by
 have h1:((List.range n).map Int.ofNat).Nodup:=by
  rw [List.Nodup,List.pairwise_map];exact List.Pairwise.imp (fun hne e=>hne (Int.ofNat.inj e)) (List.nodup_range (n:=n))
 have h2:o.Perm ((List.range n).map Int.ofNat):=by
  rw [List.perm_ext_iff_of_nodup h.nd h1];intro a;rw [h.mem,List.mem_map];constructor
  ·intro ha;exact ⟨a.toNat,List.mem_range.2 (by omega),by show ((a.toNat:Nat):Int)=a; omega⟩
  ·rintro ⟨b,hb,rfl⟩;have:=List.mem_range.1 hb;show 0<=(b:Int)∧(b:Int)<n;omega
 have:=h2.length_eq
 simpa using this
def Dp (o:List Int) (j:Nat):Nat:=(o.getD j 0).toNat
theorem OrdV.at (h:OrdV n o) {j:Nat} (hj:j<n):∃ hj':j<o.length,o[j]=((Dp o j:Nat):Int)∧Dp o j<n:=by
 have hl:=h.len;refine ⟨by omega,?_⟩;have h1:=(h.mem (o[j]'(by omega))).1 (List.getElem_mem _);have e:Dp o j=(o[j]'(by omega)).toNat:=congrArg Int.toNat (Au (gEg (by omega)));omega
def B8 (o:List Int) (b:List Int):List Int:=o.map fun q=>b.getD q.toNat 0
theorem Ab4 {b:List Int} (hp:2<=p) (hb:Nl p n b):Nl p o.length (B8 o b):=by
 refine ⟨List.length_map ..,fun a ha=>?_⟩;obtain ⟨q,_,rfl⟩:=List.mem_map.1 ha;by_cases h:q.toNat<b.length
 ·rw [Au (gEg h)]; exact hb.2 _ (List.getElem_mem h)
 ·rw [gDg,List.getElem?_eq_none (by omega)]; simp; omega
theorem Tz (hp:2<=p) (hB:D6 p n B):D6 p o.length (B.map (B8 o)):=fun x hx=>by
 obtain ⟨b,hb,rfl⟩:=List.mem_map.1 hx;exact Ab4 hp (hB b hb)
theorem Tf {i j:Nat} (hi:i<B.length) (hj:j<o.length):en (B.map (B8 o)) i j=en B i (Dp o j):=by
 unfold en;rw [Au (m:=B.map (B8 o)) (x:=B8 o (B.getD i [])) (by rw [List.getElem?_map,gEg hi,Au (gEg hi)]; rfl)];exact Au (by unfold B8; rw [List.getElem?_map,gEg hj]; simp only [Dp,Au (gEg hj)]; rfl)
theorem X0 {n':Nat} {f:Nat->Int} {σ:Nat->Nat} (hl:m'.length=m.length) (hσ:∀ j,j<n'->σ j<n) (he:∀ i,i<m.length->∀ j,j<n'->en m' i j=en m i (σ j)) (h:Dw p n m f):Dw p n' m' (fun j=>f (σ j)):=by
 induction h with
 | zero h0=>exact .zero fun j hj=>h0 _ (hσ j hj)
 | add i k hi _ hs ih=>exact .add i k (by omega) ih fun j hj=>(hs _ (hσ j hj)).trans (Cg.of (by rw [he i hi j hj]))
theorem X6 {W:List (List Int)} (hp:2<=p) (hI:Uj p) (hW:D6 p n W) (hk:W.length<=n) (hr:(gj p n W).length=W.length) :
  ((∀ i,i<W.length->Jl ((gj p n W).getD i [])=i)↔(gjT p W W.length).1=W.length)∧((gjT p W W.length).1=W.length->gj p n W=(gjT p W W.length).2):=by
 have hA:(gjT p W W.length).1=W.length->gjT p W n=gjT p W W.length:=fun h=>by
  have h3:=(J8 hp hW W.length).2.2;exact Vm (by omega) n hk
 have hA':(gjT p W W.length).1=W.length->gj p n W=(gjT p W W.length).2:=fun h=>by
  have h3:=(J8 hp hW W.length).2.2;unfold gj;rw [hA h,h];exact List.take_of_length_le (Nat.le_of_eq h3)
 refine ⟨⟨fun h=>?_,fun h i hi=>?_⟩,hA'⟩
 ·obtain ⟨⟨pv',h1⟩,h1s⟩:=Afp hp hI hW;obtain ⟨⟨pv,h2⟩,h2s⟩:=Aaw hp hI hW hk;have hlk:=Aiy (n:=W.length) hp hW;have hle:=J8 hp hW W.length
  have key:∀ i,i<W.length->∃ t,t<(gj p W.length W).length∧pv t=i:=fun i hi=>by
   have hpi:pv' i=i:=by rw [← Us h1 (Zn hp hW) (Nat.le_refl n) (by omega)]; exact h i hi
   have h3:Dw p W.length (gj p W.length W) (en (gj p n W) i):=(h2s _).2 (Tj hk ((h1s _).1 (B2 (by omega))));refine Y1 h2 h3 hi (fun j hj=>Cg.of (h1.low i (by omega) j (by omega))) ?_;have:=h1.one i (by omega);rw [hpi] at this;rw [this];exact Adv hp
  have:=Vb h2.mono (v:=id) (l:=W.length) (fun i j hij _=>hij) (fun i hi=>⟨pv i,h2.lt i hi,rfl⟩) key;omega
 ·obtain ⟨⟨pv,h2⟩,_⟩:=Aaf hp hI hW W.length;rw [hA' h];have hm2:=(J8 hp hW W.length).1;rw [h] at h2;rw [Us h2 hm2 hk hi];exact Akj h2.mono h2.lt i hi
end
end
section
theorem Ag8 {p:Int} (hp:isF p=true):Uj p:=fun _ h1 h2=>(Aar hp ⟨h1,h2⟩).2.2.2.2
def upV (n:Nat):List Int:=(List.range n).map fun k:Nat=>(k:Int)
theorem Aim (n:Nat):upV (n+1)=upV n++[(n:Int)]:=by simp [upV,List.range_succ]
theorem Ali {n:Nat} (h:n<=1000):H1 (n:Int)=some (upV n):=by
 unfold H1;rw [Aj9 (by omega),obs,Int.toNat_natCast]
 have h1:A0 (fun s_:Nat×List Int=>Fl (List.replicate n 0) s_.1 s_.2) 4611686018427387904 (0,List.replicate n 0)=some (upV n):=by
  have hl:(upV n).length=n:=by simp [upV]
  refine Aje (y:=upV n) (by simp [upV]) (by simp; omega) (fun j hj z hz=>?_) ?_
  ·try dsimp only
   unfold Fl;rw [Bc (by omega),cond_true,hz,obs,Ap (by simp at hj; omega)];simp [upV]
  ·try dsimp only
   unfold Fl;rw [Be (by simp),cond_false]
 rw [h1,obs]
theorem Aa6 (x:List Int) (hx:x.length<=1000):Gf x=some ((Jl x:Nat):Int):=by
 unfold Gf;have hle:Jl x<=x.length:=List.findIdx_le_length
 have h:A0 (fun s_:Nat=>D7 x s_) 4611686018427387904 0=some (Jl x):=by
  refine Bg (Jl x) (fun i=>i) (by omega) _ rfl (fun i hi=>?_) ?_
  ·have h0:=List.not_of_lt_findIdx hi;have h1:x[i]'(by omega)=0:=by simpa using h0
   try dsimp only
   unfold D7;rw [Bc (by omega),cond_true,gEg (show i<x.length by omega),obs,obs,h1,show ((0:Int)==0)=true from rfl,cond_true,Ap (by omega)]
  ·unfold D7;by_cases h:Jl x=x.length
   ·rw [Be (by omega),cond_false,obs,cond_false]
   ·have h0:=List.findIdx_getElem (w:=show Jl x<x.length by omega);rw [Bc (by omega),cond_true,gEg (show Jl x<x.length by omega),obs,obs,show ((x[Jl x]'(by omega))==0)=false from Bool.eq_false_iff.2 (fun e=>bne_iff_ne.1 h0 (beq_iff_eq.1 e)),cond_false]
 rw [h,obs]
def InO (n:Nat) (o:List Int):Prop:=∀ q∈o,0<=q∧q<(n:Int)
section
variable {p:Int} {n:Nat} {B:List (List Int)}
theorem Ab3 {b:List Int} {q:Int} (hb:b.length=n) (hq:0<=q∧q<(n:Int)):F4 b q=some (b.getD q.toNat 0):=by
 rw [Fn hq.1,gEg (by omega),Au (gEg (by omega))]
theorem Aig {b o:List Int} (hb:b.length=n) (ho:InO n o) (hl:o.length<=1000):Gc b o=some (B8 o b):=by
 unfold Gc;have h:=Gr (body:=fun s_:Nat×List Int=>Dh o b s_.1 s_.2) o (fun q=>b.getD q.toNat 0) [] (F:=4611686018427387904) (by omega) (B8 o b) (fun i x h=>?_) ?_
 ·rw [Ap (by omega)]
  try rw [show List.replicate 0 (0:Int)=[] from rfl]
  rw [show A0 (fun s_:Nat×List Int=>Dh o b s_.1 s_.2) 4611686018427387904 (0,[])=some (B8 o b) by simpa using h,obs]
 ·have:=Ax h
  try dsimp only
  unfold Dh;rw [Bc (by omega),cond_true,h,obs,Ab3 hb (ho x (List.mem_of_getElem? h)),obs,Ap (by simp; omega),Ap (by omega)]
 ·try dsimp only
  unfold Dh;rw [Be (by omega),cond_false,List.nil_append]; rfl
theorem Ah3 {o1 o2 b:List Int}:B8 (o1++o2) b=B8 o1 b++B8 o2 b:=by simp [B8]
end
end
section
def szV (v:Int) (n:Nat):Int:=if v<n then -1 else v - n
theorem Ahw (xs:List Int) {v:Int} (hv:0<=v∧v<=1048576) (hx:xs.length<=9223372036854775807):F9 xs v=some (szV v xs.length):=by
 unfold F9 szV;rw [Cr (by omega) (by omega)];by_cases h:v<xs.length
 ·rw [Bc (by omega),if_pos h]; rfl
 ·rw [Be (by omega),if_neg h]; rfl
theorem Aa7 (xs:List Int) (hx:xs.length<=1073741824):Cy xs=some xs:=by
 unfold Cy;rw [Ap (by omega)]
 have h:A0 (fun s_:Nat×List Int=>Ej xs s_.1 s_.2) 4611686018427387904 (0,List.replicate xs.length (0:Int))=some xs:=by
  refine Bg xs.length (fun i=>(i,xs.take i++List.replicate (xs.length - i) 0)) (by omega) xs (by simp) (fun i hi=>?_) ?_
  ·have hx:=gEg hi
   try dsimp only
   unfold Ej;rw [Bc (by omega),cond_true,hx,obs,X8 hi,obs,Ap (by omega),X1 hx]
  ·try dsimp only
   unfold Ej;rw [Be (by omega),cond_false];simp
 rw [h]; rfl
theorem U8 (xs:List Int) (hx:xs.length<=1073741824):Cv xs xs=some true:=by
 unfold Cv
 have h:A0 (fun s_:Nat=>Ee xs xs s_) 4611686018427387904 0=some (.next ()):=by
  refine Bg xs.length (fun i=>i) (by omega) _ rfl (fun i hi=>?_) ?_
  ·have hx:=gEg hi
   try dsimp only
   unfold Ee;rw [Bc (by omega),cond_true,hx,obs,obs,bne_self_eq_false,cond_false,Ap (by omega)]
  ·try dsimp only
   unfold Ee;rw [Be (by omega),cond_false]
 rw [h,bne_self_eq_false,cond_false]; rfl
theorem T4 (xs:List Int) {v:Int} (hv:0<=v∧v<=1152921504606846976) (hx:xs.length<=1073741824) :
  ∃ ys,B7 xs v=some (ys,v+xs.length)∧ys.length=xs.length∧B6 ys v=some (v+xs.length):=by
 refine ⟨(List.range xs.length).map fun j:Nat=>v+(j:Int),?_,by simp,?_⟩
 ·unfold B7
  have h:A0 (fun s_:Int×Nat×List Int=>Bx s_.1 s_.2.1 s_.2.2) 4611686018427387904 (v,0,xs)=some (v+xs.length,(List.range xs.length).map fun j:Nat=>v+(j:Int)):=by
   refine Bg xs.length (fun i=>(v+i,i,(List.range i).map (fun (j:Nat)=>v+(j:Int))++xs.drop i)) (by omega) _ (by simp) (fun i hi=>?_) ?_
   ·have hl:((List.range i).map fun j:Nat=>v+(j:Int)).length=i:=by simp
    try dsimp only
    unfold Bx;rw [Bc (by rw [List.length_append,hl,List.length_drop]; omega),cond_true,Hj hi hl,obs,Ap (by omega),Hb hi hl,Cr (by omega) (by omega),List.range_succ,List.map_append];simp [Int.add_assoc]
   ·try dsimp only
    unfold Bx;rw [Be (by simp),cond_false];simp
  rw [h]; rfl
 ·unfold B6
  have h:A0 (fun s_:Int×Nat=>Bw ((List.range xs.length).map fun j:Nat=>v+(j:Int)) s_.1 s_.2) 4611686018427387904 (v,0)=some (.next (v+xs.length)):=by
   refine Bg xs.length (fun i=>(v+i,i)) (by omega) _ (by simp) (fun i hi=>?_) ?_
   ·have hg:((List.range xs.length).map fun j:Nat=>v+(j:Int))[i]? =some (v+i):=by simp [hi]
    try dsimp only
    unfold Bw;rw [Bc (by simp; omega),cond_true,hg,obs,bne_self_eq_false,cond_false,Ap (by omega),Cr (by omega) (by omega)];simp [Int.add_assoc]
   ·try dsimp only
    unfold Bw;rw [Be (by simp),cond_false]
  rw [h]; rfl
end
section
section
variable {σ ρ:Type}
end
def mkL (v:Int) (n:Nat):List Int:=(List.range n).map fun j:Nat=>v+(j:Int)
theorem Acq (xs:List Int) {v:Int} (hv:0<=v∧v<=1152921504606846976) (hx:xs.length<=1073741824):B7 xs v=some (mkL v xs.length,v+xs.length):=by
 unfold B7
 have h:A0 (fun s_:Int×Nat×List Int=>Bx s_.1 s_.2.1 s_.2.2) 4611686018427387904 (v,0,xs)=some (v+xs.length,mkL v xs.length):=by
  refine Bg xs.length (fun i=>(v+i,i,mkL v i++xs.drop i)) (by omega) _ (by simp [mkL]) (fun i hi=>?_) ?_
  ·have hl:(mkL v i).length=i:=by simp [mkL]
   try dsimp only
   unfold Bx;rw [Bc (by rw [List.length_append,hl,List.length_drop]; omega),cond_true,Hj hi hl,obs,Ap (by omega),Hb hi hl,Cr (by omega) (by omega)];unfold mkL;rw [List.range_succ,List.map_append];simp [Int.add_assoc]
  ·try dsimp only
   unfold Bx;rw [Be (by simp [mkL]),cond_false];simp [mkL]
 rw [h]; rfl
theorem Aa0 (n:Nat) {v:Int} (hv:0<=v∧v<=1152921504606846976) (hx:n<=1073741824):B6 (mkL v n) v=some (v+n):=by
 unfold B6
 have h:A0 (fun s_:Int×Nat=>Bw (mkL v n) s_.1 s_.2) 4611686018427387904 (v,0)=some (.next (v+n)):=by
  refine Bg n (fun i=>(v+i,i)) (by omega) _ (by simp) (fun i hi=>?_) ?_
  ·have hg:(mkL v n)[i]? =some (v+i):=by simp [mkL,hi]
   try dsimp only
   unfold Bw;rw [Bc (by simp [mkL]; omega),cond_true,hg,obs,bne_self_eq_false,cond_false,Ap (by omega),Cr (by omega) (by omega)];simp [Int.add_assoc]
  ·try dsimp only
   unfold Bw;rw [Be (by simp [mkL]),cond_false]
 rw [h]; rfl
def G8 (b:Nat) (xss:List (List Int)):Prop:=∀ x∈xss,x.length<=b
def Ek (xss:List (List Int)):Nat:=(xss.map List.length).sum
def H2 (v:Int):List (List Int)->List (List Int)
 | []=>[]
 | x :: r=>mkL v x.length :: H2 (v+x.length) r
theorem Gn:∀ (v:Int) (xss:List (List Int)),(H2 v xss).length=xss.length
 | _,[]=>rfl
 | v,x :: r=>by simp [H2,Gn]
theorem Oj:∀ (v:Int) (xss:List (List Int)) (i:Nat) (h:i<xss.length),(H2 v xss)[i]? =some (mkL (v+Ek (xss.take i)) xss[i].length)
 | v,x :: r,0,h=>by simp [H2,Ek]
 | v,x :: r,i+1,h=>by
  have:=Oj (v+x.length) r i (by simpa using h);simp only [H2,List.getElem?_cons_succ,this,List.take_succ_cons,List.getElem_cons_succ,Ek,List.map_cons,List.sum_cons];congr 2;simp [Int.add_assoc]
theorem Qn {xss:List (List Int)} {i:Nat} (h:i<xss.length):Ek (xss.take (i+1))=Ek (xss.take i)+xss[i].length:=by
 unfold Ek;rw [List.take_add_one,gEg h];simp only [Option.toList,List.map_append,List.map_cons,List.map_nil,List.sum_append,List.sum_cons,List.sum_nil,Nat.add_zero]
theorem Zp {b:Nat}:∀ {xss:List (List Int)},G8 b xss->Ek xss<=xss.length*b
 | [],_=>by simp [Ek]
 | x :: r,h=>by
  have h1:=h x (by simp);have h2:=Zp (xss:=r) fun y hy=>h y (by simp [hy])
  simp only [Ek,List.map_cons,List.sum_cons,List.length_cons,Nat.succ_mul] at h2 ⊢;omega
theorem Aga {b:Nat} {xss:List (List Int)} (h:G8 b xss) (i:Nat):Ek (xss.take i)<=xss.length*b:=by
 refine Nat.le_trans (Zp fun x hx=>h x (List.mem_of_mem_take hx)) (Nat.mul_le_mul_right _ ?_);rw [List.length_take]; omega
theorem Agv (xss:List (List Int)) (hn:xss.length<=1048576) (hb:G8 1048576 xss):Fc xss xss=some true:=by
 unfold Fc
 have h:A0 (fun s_:Nat=>D1 xss xss s_) 4611686018427387904 0=some (.next ()):=by
  refine Bg xss.length (fun i=>i) (by omega) _ rfl (fun i hi=>?_) ?_
  ·have hx:=gEg hi;have:=hb _ (List.getElem_mem hi)
   try dsimp only
   unfold D1;rw [Bc (by omega),cond_true,hx,obs,obs,U8 _ (by omega),obs,Bool.not_true,cond_false,Ap (by omega)]
  ·try dsimp only
   unfold D1;rw [Be (by omega),cond_false]
 rw [h,bne_self_eq_false,cond_false]; rfl
theorem Aa2 (xss:List (List Int)) {v:Int} (hv:0<=v∧v<=576460752303423488) (hn:xss.length<=1048576) (hb:G8 1048576 xss) :
  ∃ yss,∃ u:Int,v<=u∧u<=v+1099511627776∧Ed xss v=some (yss,u)∧yss.length=xss.length∧En yss v=some u:=by
 have hm:xss.length*1048576<=1048576*1048576:=Nat.mul_le_mul_right _ hn;have ht:=fun i=>Aga hb i
 have htt:Ek xss<=xss.length*1048576:=Zp hb;refine ⟨H2 v xss,v+Ek xss,by omega,by omega,?_,Gn _ _,?_⟩
 ·unfold Ed
  have h:A0 (fun s_:Int×Nat×List (List Int)=>Da s_.1 s_.2.1 s_.2.2) 4611686018427387904 (v,0,xss)=some (v+Ek xss,H2 v xss):=by
   refine Bg xss.length (fun i=>(v+Ek (xss.take i),i,(H2 v xss).take i++xss.drop i)) (by omega) _ (by simp [Ek]) (fun i hi=>?_) ?_
   ·have hl:((H2 v xss).take i).length=i:=by rw [List.length_take,Gn]; omega
    have h1:=hb _ (List.getElem_mem hi);have h2:=ht i;have hg:=Oj v xss i hi
    try dsimp only
    unfold Da;rw [Bc (by rw [List.length_append,hl,List.length_drop]; omega),cond_true,Hj hi hl,obs,Acq _ (by omega) (by omega),obs,Ap (by simp [mkL]),Ap (by omega),Hb hi hl,Qn hi,List.take_add_one,hg];simp [Int.add_assoc]
   ·try dsimp only
    unfold Da;have hl:((H2 v xss).take xss.length).length=xss.length:=by rw [List.length_take,Gn]; omega
    rw [Be (by rw [List.length_append,hl]; simp),cond_false];simp [List.take_of_length_le,Gn]
  rw [h]; rfl
 ·unfold En
  have h:A0 (fun s_:Int×Nat=>Db (H2 v xss) s_.1 s_.2) 4611686018427387904 (v,0)=some (.next (v+Ek xss)):=by
   refine Bg xss.length (fun i=>(v+Ek (xss.take i),i)) (by omega) _ (by simp [Ek]) (fun i hi=>?_) ?_
   ·have h1:=hb _ (List.getElem_mem hi);have h2:=ht i
    try dsimp only
    unfold Db;rw [Bc (by rw [Gn]; omega),cond_true,Oj v xss i hi,obs,Aa0 _ (by omega) (by omega),obs,Be (by omega),cond_false,Ap (by omega),Qn hi];simp [Int.add_assoc]
   ·try dsimp only
    unfold Db;rw [Be (by rw [Gn]; omega),cond_false,List.take_length]
  rw [h]; rfl
def szW (v:Int) (xss:List (List Int)):Int:=if v<xss.length+Ek xss then -1 else v - (xss.length+Ek xss)
theorem Ale {v:Int} {xss:List (List Int)} (hv:v<=1048576) (h:¬ szW v xss<0):xss.length+Ek xss<=1048576∧G8 1048576 xss∧szW v xss=v - (xss.length+Ek xss):=by
 unfold szW at h ⊢;split at h
 ·omega
 rename_i h1;have h2:xss.length+Ek xss<=1048576:=by omega
 refine ⟨h2,fun x hx=>?_,if_neg h1⟩
 have:∀ {l:List (List Int)},x∈l->x.length<=Ek l:=by
  intro l
  induction l with
  | nil=>intro h; cases h
  | cons y r ih =>
   intro h;simp only [Ek,List.map_cons,List.sum_cons] at ih ⊢;rcases List.mem_cons.1 h with rfl | h
   ·omega
   ·have:=ih h; omega
 have:=this hx;omega
theorem Agj (xss:List (List Int)) {v:Int} (hv:0<=v∧v<=1048576) (hn:xss.length<=9223372036854775807) (hb:G8 9223372036854775807 xss):Fd xss v=some (szW v xss):=by
 unfold Fd;rw [Cr (by omega) (by omega)];by_cases h0:v<xss.length
 ·rw [Bc (by omega),szW,if_pos (by omega)]; rfl
 rw [Be (by omega),cond_false]
 have h:A0 (fun s_:Int×Nat=>Dy xss s_.1 s_.2) 4611686018427387904 (v - xss.length,0)=some (if v<xss.length+Ek xss then .out (-1) else .next (v - (xss.length+Ek xss))):=by
  have hm:∀ i,Ek (xss.take i)<=Ek xss:=fun i=>by
   have:Ek xss=Ek (xss.take i)+Ek (xss.drop i):=by
    conv=>lhs; rw [← List.take_append_drop i xss]
    rw [Ek,List.map_append,List.sum_append]; rfl
   omega
  refine K0 xss.length (fun i s=>s=(v - xss.length - Ek (xss.take i),i)∧(xss.length:Int)+Ek (xss.take i)<=v) (by omega) _ ⟨by simp [Ek],by simp [Ek]; omega⟩ ?_ ?_
  ·rintro i s hi ⟨rfl,h1⟩;have hx:=gEg hi;have hr:=hb _ (List.getElem_mem hi);have hs:=Qn hi;have hm1:=hm (i+1)
   try dsimp only
   unfold Dy;rw [Bc (by omega),cond_true,hx,obs,Ahw _ (by omega) hr,obs,szV];by_cases h2:v - xss.length - Ek (xss.take i)<xss[i].length
   ·refine .inr ?_;rw [if_pos h2,if_pos (by omega)]; rfl
   ·refine .inl ⟨(v - xss.length - Ek (xss.take (i+1)),i+1),?_,rfl,by omega⟩;rw [if_neg h2,Be (by omega),cond_false,Ap (by omega),hs,show v - ↑xss.length - ↑(Ek (List.take i xss)) - ↑xss[i].length=v - ↑xss.length - ↑(Ek (List.take i xss)+xss[i].length) by omega]
  ·rintro s ⟨rfl,h1⟩;rw [List.take_length] at h1 ⊢
   try dsimp only
   unfold Dy;rw [Be (by omega),cond_false,if_neg (by omega)];simp [Int.sub_sub]
 rw [h,szW];split <;> rfl
theorem Agy (xss:List (List Int)) (hn:xss.length<=1048576) (hb:G8 1048576 xss):Fe xss=some xss:=by
 unfold Fe;rw [Ap (by omega)]
 have h:A0 (fun s_:Nat×List (List Int)=>Dv xss s_.1 s_.2) 4611686018427387904 (0,List.replicate xss.length ([]:List Int))=some xss:=by
  refine Bg xss.length (fun i=>(i,xss.take i++List.replicate (xss.length - i) [])) (by omega) xss (by simp) (fun i hi=>?_) ?_
  ·have hx:=gEg hi;have hr:=hb _ (List.getElem_mem hi)
   try dsimp only
   unfold Dv;rw [Bc (by omega),cond_true,hx,obs,Aa7 _ (by omega),obs,X8 hi,obs,Ap (by omega),X1 hx]
  ·try dsimp only
   unfold Dv;rw [Be (by omega),cond_false];simp
 rw [h]; rfl
theorem Aji {R:Nat->Prop} {w:World} {t:Ty} {A:Option Addr} {c:Nat} {xss:List (List t.D)} {l:List Addr} (h:Sl R w (.slice t) A c xss l):∀ x∈xss,x.length<=9223372036854775807:=by
 obtain ⟨_,_,f,_,h4⟩:=h;intro x hx;obtain ⟨i,hi,rfl⟩:=List.getElem_of_mem hx;obtain ⟨_,_,_,h5⟩:=h4 (by omega);obtain ⟨A',c',_,h6⟩:=h5 i hi;exact (Adc (xs:=xss[i]) h6).2
end
section
def Abz (p n:Int) (b:List (List Int)):Bool:=b.all fun x=>((x.length:Nat):Int)==n&&x.all fun a=>inR a 0 (p - 1)
theorem Qh {a lo hi:Int}:inR a lo hi=true↔lo<=a∧a<=hi:=by simp [inR]
theorem Af8 {p:Int} {n:Nat} {b:List (List Int)} (h:Abz p n b=true):D6 p n b:=by
 intro x hx;have h1:=List.all_eq_true.1 h x hx;simp only [Bool.and_eq_true,beq_iff_eq,List.all_eq_true,Qh] at h1;exact ⟨by omega,fun a ha=>by have:=h1.2 a ha; omega⟩
theorem Aan (p n:Int) (b:List (List Int)) (hb:b.length<=1048576) (hr:G8 1048576 b):Du p b n=some (Abz p n b):=by
 unfold Du;rw [Io b (fun x=>((x.length:Nat):Int)==n&&x.all fun a=>inR a 0 (p - 1)) (.next ()) (.out false) (by omega) (fun i x h=>?_) ?_,Ll]; rfl
 ·unfold D0;rw [Be (by omega),cond_false]
 ·have:=Ax h;have hx:=hr x (List.mem_of_getElem? h);unfold D0;rw [Bc (by omega),cond_true,h,obs,Aeh p x n (by omega),obs,Ap (by omega)];cases ((x.length:Nat):Int)==n&&x.all fun a=>inR a 0 (p - 1) <;> rfl
end
section
def Ai (n:Nat) (ports:List Int):List Int:=(upV n).filter fun q=> !ports.any fun x=>x==q
theorem Ads (xs:List Int) (n:Int) (hx:xs.length<=1099511627776):B1 xs n=some (xs.any fun x=>x==n):=by
 unfold B1 Bm
 have hs:∀ i x,xs[i]? =some x->A8 xs n i=some (if x==n then Ctl.out (Ctl.out ((i:Nat):Int)) else .next (i+1)):=fun i x h=>by
  have:=Ax h;unfold A8;rw [Bc (by omega),cond_true,h,obs,Ap (by omega),show (n==x)=(x==n) from by rw [Bool.eq_iff_iff]; simp only [beq_iff_eq]; exact eq_comm];cases x==n <;> rfl
 have he:A8 xs n xs.length=some (.out (.next ())):=by
  unfold A8;rw [Be (by omega),cond_false]
 rcases Xx xs (fun x=>x==n) (Ctl.next ()) (fun i=>Ctl.out ((i:Nat):Int)) (F:=4611686018427387904) (by omega) hs he with ⟨h1,i,_,h2⟩ | ⟨h1,h2⟩
 ·rw [h2,h1];show (some ((i:Nat):Int)).bind _=_;rw [obs,Bc (by omega)]
 ·rw [h2,h1]; rfl
theorem Mu {α:Type} (q:α->Bool) (xs:List α) (x:α):(xs++[x]).filter q=if q x then xs.filter q++[x] else xs.filter q:=by
 rw [List.filter_append];cases h:q x <;> simp [h]
theorem Aiu (xs ports:List Int) (hx:xs.length<=1000) (hp:ports.length<=1099511627776):F3 xs ports=some (xs.filter fun q=> !ports.any fun x=>x==q):=by
 unfold F3
 have h:A0 (fun s_:Nat×List Int=>Eh xs ports s_.1 s_.2) 4611686018427387904 (0,[])=some (xs.filter fun q=> !ports.any fun x=>x==q):=by
  refine Bg xs.length (fun i=>(i,(xs.take i).filter fun q=> !ports.any fun x=>x==q)) (by omega) _ (by simp) (fun i hi=>?_) ?_
  ·have hx:=gEg hi;have hl:((xs.take i).filter fun q=> !ports.any fun x=>x==q).length<=1000:=Nat.le_trans (List.length_filter_le ..) (by rw [List.length_take]; omega)
   try dsimp only
   unfold Eh;rw [Bc (by omega),cond_true,hx,obs,Ads ports _ hp,obs,List.take_add_one,hx,Option.toList,Mu];cases ports.any fun x=>x==xs[i]
   ·rw [Bool.not_false,cond_true,Ap (by omega),obs,if_pos rfl,Ap (by omega)]
   ·rw [Bool.not_true,cond_false,obs,if_neg (by decide),Ap (by omega)]
  ·try dsimp only
   unfold Eh;rw [Be (by omega),cond_false,List.take_length]
 rw [h,obs]
theorem Abg (n:Nat) (ports:List Int) (hn:n<=1000) (hp:ports.length<=1099511627776):E3 ports (n:Int)=some (Ai n ports):=by
 unfold E3
 have h:A0 (fun s_:Nat×List Int=>Ec (n:Int) ports s_.1 s_.2) 4611686018427387904 (0,[])=some (Ai n ports):=by
  refine Bg n (fun i=>(i,Ai i ports)) (by omega) _ rfl (fun i hi=>?_) ?_
  ·have hl:(Ai i ports).length<=i:=Nat.le_trans (List.length_filter_le ..) (by simp [upV])
   try dsimp only
   unfold Ec;rw [Bc (by omega),cond_true,Aez _ _ hp,obs]
   have e:Ai (i+1) ports=if (!ports.any fun x=>x==(i:Int)) then Ai i ports++[(i:Int)] else Ai i ports:=by
    unfold Ai;rw [Aim,Mu]
   rw [e];cases ports.any fun x=>x==(i:Int)
   ·rw [Bool.not_false,cond_true,Ap (by omega),obs,if_pos rfl,Ap (by omega)]
   ·rw [Bool.not_true,cond_false,obs,if_neg (by decide),Ap (by omega)]
  ·try dsimp only
   unfold Ec;rw [Be (by omega),cond_false]
 rw [h,obs]
section
variable {p:Int} {n:Nat} {B:List (List Int)} {ports:List Int}
structure X9 (n:Nat) (ports:List Int):Prop where
 nd:ports.Nodup
 io:InO n ports
theorem Kd {q:Int}:q∈Ai n ports↔(0<=q∧q<(n:Int))∧q∉ports:=by
 unfold Ai upV;rw [List.mem_filter,List.mem_map];constructor
 ·rintro ⟨⟨k,hk,rfl⟩,h⟩;have:=List.mem_range.1 hk;refine ⟨by omega,fun hm=>?_⟩;rw [Bool.not_eq_true',List.any_eq_false] at h;exact h _ hm (by simp)
 ·rintro ⟨h,hn⟩;refine ⟨⟨q.toNat,List.mem_range.2 (by omega),by omega⟩,?_⟩;rw [Bool.not_eq_true',List.any_eq_false];intro x hx he;exact hn (by rwa [← (beq_iff_eq.1 he)])
theorem Zb (h:X9 n ports):OrdV n (ports++Ai n ports):=by
 refine ⟨?_,fun q=>?_⟩
 ·rw [List.nodup_append];refine ⟨h.nd,?_,fun a ha b hb e=>(Kd.1 hb).2 (e▸ha)⟩;unfold Ai upV;refine List.Pairwise.filter _ ?_;rw [List.pairwise_map];exact List.Pairwise.imp (fun hne e=>hne (by omega)) (List.nodup_range (n:=n))
 ·rw [List.mem_append,Kd];by_cases hq:q∈ports
  ·simp only [hq,true_or,true_iff];exact h.io q hq
  ·simp [hq]
def Akh (p:Int) (n:Nat) (B:List (List Int)) (ports:List Int):Bool×Nat×List (List Int) :=
 if ports.length=B.length∧(gjT p (B.map (B8 (ports++Ai n ports))) B.length).1=B.length then
  (true,n - ports.length,(gjT p (B.map (B8 (ports++Ai n ports))) B.length).2.map (·.drop ports.length))
 else (false,0,[])
theorem Aee (hp:isF p=true) (hn:n<=100) (hB:D6 p n B) (hb:B.length<=n) (hrk0:(gj p n (B.map (B8 (ports++Ai n ports)))).length=B.length) (P:X9 n ports) :
  C4 p (n:Int) B ports=some (Akh p n B ports):=by
 have hb2:=Gp hp;have O:=Zb P;have hl:=O.len;have hl':=hl;rw [List.length_append] at hl';have hpl:ports.length<=n:=by omega
 have hrl:(Ai n ports).length<=n:=by omega
 have hW:D6 p n (B.map (B8 (ports++Ai n ports))):=by have:=Tz (o:=ports++Ai n ports) hb2.1 hB; rwa [hl] at this
 unfold C4 Akh;by_cases hk:ports.length=B.length
 ·rw [show (((ports.length:Nat):Int) !=((B.length:Nat):Int))=false by rw [hk]; exact bne_self_eq_false _,cond_false,Abg n ports (by omega) (by omega),obs]
  have h1:A0 (fun s_:Nat×List (List Int)=>Cd B ports (Ai n ports) s_.1 s_.2) 4611686018427387904 (0,[])=some (B.map (B8 (ports++Ai n ports))):=by
   have h:=Gr (body:=fun s_:Nat×List (List Int)=>Cd B ports (Ai n ports) s_.1 s_.2) B (B8 (ports++Ai n ports)) [] (F:=4611686018427387904) (by omega) (B.map (B8 (ports++Ai n ports))) (fun i x h=>?_) ?_
   ·simpa using h
   ·have:=Ax h;have hx:=(hB x (List.mem_of_getElem? h)).1
    have hin:A0 (fun s_:Nat×List Int=>Ca ports (Ai n ports) x s_.1 s_.2) 4611686018427387904 (0,[])=some (B8 (ports++Ai n ports) x):=by
     have h:=Gr (body:=fun s_:Nat×List Int=>Ca ports (Ai n ports) x s_.1 s_.2) (ports++Ai n ports) (fun q=>x.getD q.toNat 0) [] (F:=4611686018427387904) (by omega) (B8 (ports++Ai n ports) x) (fun i q h=>?_) ?_
     ·simpa using h
     ·have:=Ax h
      try dsimp only
      unfold Ca;rw [Bc (by omega),cond_true,h,obs,Ab3 hx ((O.mem q).1 (List.mem_of_getElem? h)),obs,Ap (by simp; omega),Ap (by omega)]
     ·try dsimp only
      unfold Ca;rw [Be (by omega),cond_false,List.nil_append]; rfl
    try dsimp only
    unfold Cd;rw [Bc (by omega),cond_true,h,obs,Te _ (by omega),obs,Ap (by omega),hin,obs,Ap (by simp; omega),obs,Ap (by omega)]
   ·try dsimp only
    unfold Cd;rw [Be (by omega),cond_false,List.nil_append]
  have hWl:(B.map (B8 (ports++Ai n ports))).length=B.length:=List.length_map ..;have hrk:(gj p n (B.map (B8 (ports++Ai n ports)))).length=(B.map (B8 (ports++Ai n ports))).length:=by rw [hWl]; exact hrk0
  obtain ⟨k1,k2⟩:=X6 hb2.1 (Ag8 hp) hW (by omega) hrk;have hgm:=Zn (n:=n) hb2.1 hW;rw [h1,obs,Ac7 hp hW (Nat.le_refl n) (by omega) (by omega),obs,hk];rw [hWl] at k1 k2 hrk;generalize gj p n (B.map (B8 (ports++Ai n ports)))=R at *;by_cases hr:(gjT p (B.map (B8 (ports++Ai n ports))) B.length).1=B.length
  ·rw [if_pos ⟨rfl,hr⟩,← k2 hr]
   have hin:A0 (fun s_:Nat×List (List Int)=>Bk R ports s_.1 s_.2) 4611686018427387904 (0,[])=some (Ctl.next (R.map (·.drop B.length))):=by
    have h:=Gr (body:=fun s_:Nat×List (List Int)=>Bk R ports s_.1 s_.2) R (·.drop B.length) [] (F:=4611686018427387904) (by omega) (Ctl.next (R.map (·.drop B.length))) (fun i x h=>?_) ?_
    ·simpa using h
    ·have:=Ax h;have hx:=(hgm x (List.mem_of_getElem? h)).1;have hld:=k1.2 hr i (by omega);rw [Au h] at hld
     try dsimp only
     unfold Bk;rw [Bc (by omega),cond_true,h,obs,Aa6 x (by omega),obs,hld,bne_self_eq_false,cond_false,Ap (by omega),Te _ (by simp; omega),obs,Ap (by simp; omega),Ap (by omega),hk]
    ·try dsimp only
     unfold Bk;rw [Be (by omega),cond_false,List.nil_append]
   rw [hin];show some _=some _;rw [show (Ai n ports).length=n - B.length by omega]
  ·rw [if_neg fun c=>hr c.2];have hex:∃ i,i<R.length∧Jl (R.getD i [])≠i:=Classical.byContradiction fun hn=>hr (k1.1 fun i hi=>Classical.byContradiction fun hne=>hn ⟨i,by omega,hne⟩)
   have hin:A0 (fun s_:Nat×List (List Int)=>Bk R ports s_.1 s_.2) 4611686018427387904 (0,[])=some (Ctl.out (false,0,[])):=by
    refine K0 R.length (fun i s=>s.1=i∧s.2.length=i∧∀ j,j<i->Jl (R.getD j [])=j) (by omega) _ ⟨rfl,rfl,fun j hj=>by omega⟩ ?_ ?_
    ·rintro i ⟨s1,s2⟩ hi ⟨h1,h2,h3⟩;obtain rfl:s1=i:=h1;have hx:=(hgm _ (List.getElem_mem hi)).1;have hg:=gEg hi
     try dsimp only at h2 ⊢
     unfold Bk;rw [Bc (by omega),cond_true,hg,obs,Aa6 _ (by omega),obs];by_cases hld:Jl R[s1]=s1
     ·refine .inl ⟨_,by rw [hld,bne_self_eq_false,cond_false,Ap (by omega),Te _ (by simp; omega),obs,Ap (by omega),Ap (by omega)],rfl,by simp [h2],fun j hj=>?_⟩;by_cases e:j=s1
      ·subst e; rw [Au hg]; exact hld
      ·exact h3 j (by omega)
     ·exact .inr (by rw [show ((((Jl R[s1]):Nat):Int) !=((s1:Nat):Int))=true from by rw [bne_iff_ne]; omega,cond_true])
    ·rintro ⟨s1,s2⟩ ⟨h1,h2,h3⟩;obtain ⟨i,hi,hne⟩:=hex;exact (hne (h3 i hi)).elim
   rw [hin]; rfl
 ·rw [show (((ports.length:Nat):Int) !=((B.length:Nat):Int))=true by rw [bne_iff_ne]; omega,cond_true,if_neg fun c=>hk c.1]
end
end
section
theorem Acy (c:Int) (b:List (List Int)) {v:Int} (hv:0<=v∧v<=1048576) (hn:b.length<=9223372036854775807) (hb:G8 9223372036854775807 b):Ez c b v=some (szW v b):=by
 unfold Ez;rw [Agj b hv hn hb,obs];by_cases h:szW v b<0
 ·rw [Bc h,cond_true];congr 1;unfold szW at h ⊢;split at h <;> rename_i h'
  ·rw [if_pos h']
  ·omega
 ·rw [Be h,cond_false]
theorem Ade (c:Int) (b:List (List Int)) (hn:b.length<=1048576) (hb:G8 1048576 b):Ck c b=some b:=by
 unfold Ck;rw [Agy b hn hb,obs]
theorem U1 (c:Int) (xss:List (List Int)) (hn:xss.length<=1048576) (hb:G8 1048576 xss):Cj c xss c xss=some true:=by
 unfold Cj;rw [Agv xss hn hb,bne_self_eq_false]; rfl
theorem P2 (c:Int) (xss:List (List Int)) {v:Int} (hv:0<=v∧v<=576460752303423488) (hn:xss.length<=1048576) (hb:G8 1048576 xss) :
  ∃ yss,∃ u:Int,v<=u∧u<=v+1099511627776∧C5 c xss v=some (yss,u)∧yss.length=xss.length∧C2 c yss v=some u:=by
 obtain ⟨yss,u,h1,h2,h3,h4,h5⟩:=Aa2 xss hv hn hb;refine ⟨yss,u,h1,h2,?_,h4,?_⟩
 ·unfold C5;rw [h3,obs,Ap h4]
 ·unfold C2;rw [h5,obs,Be (by omega),cond_false]
end
section
def qV (xs:List Int) (hi:Int) (i:Nat):Bool:=inR (xs.getD i 0) 0 hi&&(decide (i=0)||decide (xs.getD (i - 1) 0<xs.getD i 0))
def Aiq (xs:List Int) (hi:Int):Bool:=(List.range xs.length).all (qV xs hi)
section
variable {xs:List Int} {hi:Int}
theorem Ak2 {i:Nat} {x:Int} (h:xs[i]? =some x) (hx:xs.length<=1099511627776) :
  (cond (!inR x 0 hi) (some true) (cond (decide (0<((i:Nat):Int))) (Option.bind (F4 xs (wI (((i:Nat):Int) - 1))) fun x15=>some (decide (x<=x15))) (some false)))=some (!qV xs hi i):=by
 have hi':=Ax h;unfold qV;rw [Au h];cases inR x 0 hi
 ·rfl
 ·rw [Bool.not_true,cond_false,Bool.true_and];by_cases h0:i=0
  ·subst h0; rfl
  ·rw [Bc (by omega),cond_true,Cr (by omega) (by omega),Fn (by omega),show (((i:Nat):Int) - 1).toNat=i - 1 by omega,gEg (show i - 1<xs.length by omega),obs,Be h0,Bool.false_or,Au (gEg (show i - 1<xs.length by omega))];congr 1;rw [← decide_not];exact decide_eq_decide.2 (by omega)
theorem Agc (hx:xs.length<=1048576) {n:Int} (hn:0<=n∧n<=1000):Fh xs n=some (Aiq xs (n - 1)):=by
 unfold Fh Gi;rw [Cr (by omega) (by omega),Io (List.range xs.length) (qV xs (n - 1)) (.next ()) (.out false) (by simp; omega) (fun i x h=>?_) ?_,Ll,obs]; rfl
 ·rw [List.length_range];unfold Er;rw [Be (by omega),cond_false]
 ·have hl:=Ax h;rw [List.length_range] at hl;rw [List.getElem?_range hl] at h;obtain rfl:=osj h;have hg:=gEg hl;unfold Er;rw [Bc (by omega),cond_true,hg,obs,Q6,obs,Ak2 hg (by omega),obs,Ap (by omega)];cases qV xs (n - 1) i <;> rfl
theorem Z1 (hx:xs.length<=1048576) {n:Int} (hn:0<=n∧n<=1000):Dx xs n=some (Aiq xs (n - 1)):=by
 unfold Dx;rw [Io (List.range xs.length) (qV xs (n - 1)) (.next ()) (.out false) (by simp; omega) (fun i x h=>?_) ?_,Ll]; rfl
 ·rw [List.length_range];unfold Dt;rw [Be (by omega),cond_false]
 ·have hl:=Ax h;rw [List.length_range] at hl;rw [List.getElem?_range hl] at h;obtain rfl:=osj h;have hg:=gEg hl;unfold Dt;rw [Bc (by omega),cond_true,hg,obs,Cr (by omega) (by omega),Pg,obs,Ak2 hg (by omega),obs,Ap (by omega)];cases qV xs (n - 1) i <;> rfl
theorem Ag0 {n:Nat} (h:Aiq xs ((n:Int) - 1)=true):X9 n xs:=by
 have hq:∀ i,i<xs.length->inR (xs.getD i 0) 0 ((n:Int) - 1)=true∧(i=0∨xs.getD (i - 1) 0<xs.getD i 0):=fun i hi=>by
  have:=List.all_eq_true.1 h i (List.mem_range.2 hi);unfold qV at this
  simpa using this
 have hm:∀ d i,i+d+1<xs.length->xs.getD i 0<xs.getD (i+d+1) 0:=by
  intro d
  induction d with
  | zero=>intro i hi; have:=(hq (i+1) hi).2; simp only [Nat.add_sub_cancel] at this; simp only [Nat.add_zero]; omega
  | succ d ih =>
   intro i hi;have h1:=ih i (by omega);have h2:=(hq (i+(d+1)+1) hi).2;rw [show i+(d+1)+1 - 1=i+d+1 by omega] at h2;omega
 refine ⟨?_,fun q hq'=>?_⟩
 ·rw [List.Nodup,List.pairwise_iff_getElem];intro i j hi hj hij e;have:=hm (j - i - 1) i (by omega);rw [show i+(j - i - 1)+1=j by omega,Au (gEg hi),Au (gEg hj)] at this;omega
 ·obtain ⟨i,hi,rfl⟩:=List.getElem_of_mem hq';have:=Qh.1 (hq i hi).1;rw [Au (gEg hi)] at this;omega
theorem Alg {n:Nat} (h:Aiq xs ((n:Int) - 1)=true):xs.Pairwise (·<·):=by
 have hq:∀ i,i<xs.length->(i=0∨xs.getD (i - 1) 0<xs.getD i 0):=fun i hi=>by
  have:=List.all_eq_true.1 h i (List.mem_range.2 hi);unfold qV at this;simp only [Bool.and_eq_true,Bool.or_eq_true,decide_eq_true_eq] at this;exact this.2
 have hm:∀ d i,i+d+1<xs.length->xs.getD i 0<xs.getD (i+d+1) 0:=by
  intro d
  induction d with
  | zero=>intro i hi; have:=hq (i+1) hi; simp only [Nat.add_sub_cancel] at this; simp only [Nat.add_zero]; omega
  | succ d ih =>
   intro i hi;have h1:=ih i (by omega);have h2:=hq (i+(d+1)+1) hi;rw [show i+(d+1)+1 - 1=i+d+1 by omega] at h2;omega
 rw [List.pairwise_iff_getElem];intro i j hi hj hij;have:=hm (j - i - 1) i (by omega)
 rwa [show i+(j - i - 1)+1=j by omega,Au (gEg hi),Au (gEg hj)] at this
end
end
section
theorem Y5 {l:List Int} (h:l.Nodup) {a b:Nat} {ha:a<l.length} {hb:b<l.length} (e:l[a]=l[b]):a=b:=by
 rw [List.Nodup,List.pairwise_iff_getElem] at h;rcases Nat.lt_trichotomy a b with h1 | h1 | h1
 ·exact absurd e (h a b ha hb h1)
 ·exact h1
 ·exact absurd e.symm (h b a hb ha h1)
theorem Zc:∀ {a b:List Int},a.Pairwise (·<·)->b.Pairwise (·<·)->(∀ q,q∈a↔q∈b)->a=b
 | [],[],_,_,_=>rfl
 | [],y :: b,_,_,h=>absurd ((h y).2 (List.mem_cons_self ..)) (by simp)
 | x :: a,[],_,_,h=>absurd ((h x).1 (List.mem_cons_self ..)) (by simp)
 | x :: a,y :: b,ha,hb,h=>by
  obtain ⟨a1,a2⟩:=List.pairwise_cons.1 ha;obtain ⟨b1,b2⟩:=List.pairwise_cons.1 hb
  have hx:x=y:=by
   have h1:=(h x).1 (List.mem_cons_self ..);have h2:=(h y).2 (List.mem_cons_self ..);rcases List.mem_cons.1 h1 with h1 | h1
   ·exact h1
   ·rcases List.mem_cons.1 h2 with h2 | h2
    ·exact h2.symm
    ·have:=b1 x h1;have:=a1 y h2;omega
  subst hx;congr 1;refine Zc a2 b2 fun q=>⟨fun hq=>?_,fun hq=>?_⟩
  ·rcases List.mem_cons.1 ((h q).1 (List.mem_cons_of_mem _ hq)) with e | e
   ·have:=a1 q hq;omega
   ·exact e
  ·rcases List.mem_cons.1 ((h q).2 (List.mem_cons_of_mem _ hq)) with e | e
   ·have:=b1 q hq;omega
   ·exact e
theorem El {l:List Int} {q:Int}:q∈Bb l↔q∈l:=(List.mergeSort_perm ..).mem_iff
theorem Vr {l:List Int}:(Bb l).length=l.length:=List.length_mergeSort ..
theorem Tm {l:List Int} (h:l.Nodup):(Bb l).Pairwise (·<·):=by
 have h1:(Bb l).Pairwise (fun a b=>decide (a<=b)=true):=List.pairwise_mergeSort (fun a b c h1 h2=>by simp only [decide_eq_true_eq] at *; omega) (fun a b=>by simp only [Bool.or_eq_true,decide_eq_true_eq]; omega) l;have h2:(Bb l).Nodup:=(List.mergeSort_perm ..).nodup_iff.2 h;exact (h1.and h2).imp fun ⟨a,b⟩=>by simp only [decide_eq_true_eq] at a; omega
theorem V4 {n:Nat} {ports:List Int}:(Ai n ports).Pairwise (·<·):=by
 unfold Ai upV;refine List.Pairwise.filter _ ?_;rw [List.pairwise_map];exact List.Pairwise.imp (fun h=>by omega) (List.pairwise_lt_range (n:=n))
theorem Ajx {xs:List Int} {v:Int} (h:xs.Pairwise (·<·)) (hv:v∉xs):((xs.take (xs.findIdx fun x=> !decide (x<v))++[v])++xs.drop (xs.findIdx fun x=> !decide (x<v))).Pairwise (·<·):=by
 induction xs with
 | nil=>simp
 | cons x xs ih =>
  obtain ⟨h1,h2⟩:=List.pairwise_cons.1 h;have hne:x≠v:=fun e=>hv (by rw [e]; exact List.mem_cons_self ..)
  rw [List.findIdx_cons];by_cases hx:x<v
  ·rw [show (!decide (x<v))=false by simp [hx],cond_false,List.take_succ_cons,List.drop_succ_cons,List.cons_append,List.cons_append];refine List.pairwise_cons.2 ⟨fun y hy=>?_,ih h2 fun e=>hv (List.mem_cons_of_mem _ e)⟩;simp only [List.mem_append,List.mem_singleton] at hy;rcases hy with (hy | hy) | hy
   ·exact h1 y (List.mem_of_mem_take hy)
   ·omega
   ·exact h1 y (List.mem_of_mem_drop hy)
  ·rw [show (!decide (x<v))=true by simp [hx],cond_true];simp only [List.take_zero,List.nil_append,List.drop_zero,List.singleton_append];refine List.pairwise_cons.2 ⟨fun y hy=>?_,h⟩;rcases List.mem_cons.1 hy with rfl | hy
   ·omega
   ·have:=h1 y hy;omega
theorem Akx {xs:List Int} {v q:Int} {k:Nat}:q∈((xs.take k++[v])++xs.drop k)↔q∈xs∨q=v:=by
 have e:q∈xs↔q∈xs.take k∨q∈xs.drop k:=by rw [← List.mem_append,List.take_append_drop]
 simp only [List.mem_append,List.mem_singleton,e];constructor
 ·rintro ((h | h) | h)
  ·exact .inl (.inl h)
  ·exact .inr h
  ·exact .inl (.inr h)
 ·rintro ((h | h) | h)
  ·exact .inl (.inl h)
  ·exact .inr h
  ·exact .inl (.inr h)
theorem Ahh {xs:List Int} {v:Int} {i:Nat} (h:xs.Nodup) (hv:v∉xs):(xs.set i v).Nodup:=by
 rw [List.Nodup,List.pairwise_iff_getElem] at *;intro a b ha hb hab;simp only [List.length_set] at ha hb;rw [List.getElem_set,List.getElem_set];split
 ·rw [if_neg (by omega)];exact fun e=>hv (e▸List.getElem_mem hb)
 ·split
  ·exact fun e=>hv (e▸List.getElem_mem ha)
  ·exact h a b ha hb hab
theorem Afg {xs:List Int} {v q:Int} {i:Nat} (h:xs.Nodup) (hi:i<xs.length):q∈xs.set i v↔(q∈xs∧q≠xs[i])∨q=v:=by
 constructor
 ·intro hq;obtain ⟨k,hk,rfl⟩:=List.getElem_of_mem hq;rw [List.length_set] at hk;rw [List.getElem_set];split
  ·exact .inr rfl
  ·rename_i hne;exact .inl ⟨List.getElem_mem hk,fun e=>hne (Y5 h e).symm⟩
 ·rintro (⟨h1,h2⟩ | rfl)
  ·obtain ⟨k,hk,rfl⟩:=List.getElem_of_mem h1;have hne:i≠k:=fun e=>h2 (by subst e; rfl)
   have:(xs.set i v)[k]'(by rw [List.length_set]; exact hk)=xs[k]:=by rw [List.getElem_set,if_neg hne]
   rw [← this];exact List.getElem_mem _
  ·exact List.mem_set hi _
def Vx (R x v:List Int):Nat->List Int
 | 0=>v
 | h+1=>(Vx R x v h).set (R.getD h 0).toNat (x.getD h 0)
theorem P5 {R x v:List Int}:∀ h,(Vx R x v h).length=v.length
 | 0=>rfl
 | h+1=>by unfold Vx; rw [List.length_set,P5 h]
theorem Aff {R x v:List Int} {n:Nat} (hv:v.length=n) (hR:∀ t,t<R.length->0<=R.getD t 0∧R.getD t 0<(n:Int)) (hn:R.Nodup):∀ h,h<=R.length->∀ q,(∀ t,t<h->(R.getD t 0).toNat=q->(Vx R x v h).getD q 0=x.getD t 0)∧((∀ t,t<h->(R.getD t 0).toNat≠q)->(Vx R x v h).getD q 0=v.getD q 0)
 | 0,_,q=>⟨fun t ht=>by omega,fun _=>rfl⟩
 | h+1,hh,q=>by
  obtain ⟨h1,h2⟩:=Aff (x:=x) (v:=v) hv hR hn h (by omega) q;have hl:=P5 (R:=R) (x:=x) (v:=v) h;have hb:=hR h (by omega)
  have hs:∀ (l:List Int) (a q:Nat) (y:Int),a<l.length->(l.set a y).getD q 0=if a=q then y else l.getD q 0:=fun l a q y ha=>by
   rw [gDg,List.getElem?_set,gDg];split
   ·rfl
   ·rfl
  refine ⟨fun t ht e=>?_,fun hne=>?_⟩
  ·unfold Vx;rw [hs _ _ _ _ (by omega)];by_cases e2:t=h
   ·subst e2; rw [if_pos e]
   ·rw [if_neg,h1 t (by omega) e];intro e3;have hb2:=hR t (by omega);have e4:R.getD t 0=R.getD h 0:=by omega
    rw [Au (gEg (show t<R.length by omega)),Au (gEg (show h<R.length by omega))] at e4;exact e2 (Y5 hn e4)
  ·unfold Vx;rw [hs _ _ _ _ (by omega),if_neg (hne h (by omega)),h2 fun t ht=>hne t (by omega)]
theorem Aex {p:Int} {R x v:List Int} (hp:2<=p) (hx:inV p x) (hv:inV p v):∀ h,inV p (Vx R x v h)
 | 0=>hv
 | h+1=>fun a ha=>by
  unfold Vx at ha;rcases List.mem_or_eq_of_mem_set ha with ha | rfl
  ·exact Aex hp hx hv h a ha
  ·by_cases hl:h<x.length
   ·rw [Au (gEg hl)]; exact hx _ (List.getElem_mem hl)
   ·rw [gDg,List.getElem?_eq_none (by omega)]; simp; omega
def M7 (n:Nat) (R:List Int) (q:Int) (x:List Int):List Int:=Vx R x ((List.replicate n (0:Int)).set q.toNat 1) R.length
def wV (n:Nat) (P R:List Int) (M:List (List Int)):List (List Int):=(List.range P.length).map fun g=>M7 n R (P.getD g 0) (M.getD g [])
structure ExS (p:Int) (n:Nat) (P:List Int) (M:List (List Int)) (C i j:Nat):Prop where
 fp:isF p=true
 hn:n=P.length+C
 hb:n<=48
 ri:P.Pairwise (·<·)
 po:X9 n P
 mm:D6 p C M
 ml:M.length=P.length
 hi:i<P.length
 hj:j<C
 nz:en M i j≠0
section
variable {p:Int} {n:Nat} {P:List Int} {M:List (List Int)} {C i j:Nat} (S:ExS p n P M C i j)
include S
theorem ExS.rl:(Ai n P).length=C:=by
 have:=(Zb S.po).len;have:=S.hn;rw [List.length_append] at *;omega
omit S in
theorem ExS.rnd_ {n:Nat} {P:List Int}:(Ai n P).Nodup:=V4.imp fun h=>by omega
set_option linter.unusedSectionVars false
theorem ExS.rnd:(Ai n P).Nodup:=V4.imp fun h=>by omega
theorem ExS.pat {k:Nat} (hk:k<P.length):0<=P.getD k 0∧P.getD k 0<(n:Int)∧P.getD k 0∈P:=by
 rw [Au (gEg hk)];have:=S.po.io _ (List.getElem_mem hk);exact ⟨this.1,this.2,List.getElem_mem hk⟩
theorem ExS.rat {h:Nat} (hh:h<C):0<=(Ai n P).getD h 0∧(Ai n P).getD h 0<(n:Int)∧(Ai n P).getD h 0∉P∧(Ai n P).getD h 0∈Ai n P:=by
 have hl:=S.rl;rw [Au (gEg (show h<(Ai n P).length by omega))];have h1:=List.getElem_mem (show h<(Ai n P).length by omega);have:=Kd.1 h1;exact ⟨this.1.1,this.1.2,this.2,h1⟩
theorem ExS.men {a b:Nat}:0<=en M a b∧en M a b<p:=Ab8 (Gp S.fp).1 S.mm
theorem ExS.wrow {q:Int} (hq:0<=q∧q<(n:Int)) (hqR:q∉Ai n P) (x:List Int) (hx:Nl p C x):Nl p n (M7 n (Ai n P) q x)∧(∀ h,h<C->(M7 n (Ai n P) q x).getD (Dp (Ai n P) h) 0=x.getD h 0)∧∀ t:Nat,t<n->(t:Int)∉Ai n P->(M7 n (Ai n P) q x).getD t 0=if (t:Int)=q then 1 else 0:=by
 have hp:=(Gp S.fp).1;have hl:=S.rl;have hR:∀ t,t<(Ai n P).length->0<=(Ai n P).getD t 0∧(Ai n P).getD t 0<(n:Int):=fun t ht=>⟨(S.rat (h:=t) (by omega)).1,(S.rat (h:=t) (by omega)).2.1⟩
 have hv0:((List.replicate n (0:Int)).set q.toNat 1).length=n:=by simp
 have key:=Aff (x:=x) hv0 hR S.rnd (Ai n P).length (Nat.le_refl _);refine ⟨⟨by unfold M7; rw [P5,hv0],Aex hp hx.2 (fun a ha=>?_) _⟩,fun h hh=>(key _).1 h (by omega) rfl,fun t ht hnR=>?_⟩
 ·rcases List.mem_or_eq_of_mem_set ha with ha | rfl
  ·obtain rfl:=List.eq_of_mem_replicate ha; omega
  ·omega
 ·unfold M7;rw [(key t).2 fun u hu e=>hnR ?_]
  ·rw [gDg,List.getElem?_set];by_cases e:q.toNat=t
   ·rw [if_pos e,if_pos (by simp; omega),if_pos (by omega)]; rfl
   ·rw [if_neg e,if_neg (by omega),List.getElem?_replicate,if_pos ht]; rfl
  ·have h1:=hR u hu;have h2:(Ai n P).getD u 0∈Ai n P:=(S.rat (h:=u) (by omega)).2.2.2
   rwa [show ((t:Nat):Int)=(Ai n P).getD u 0 by omega]
theorem ExS.wl:(wV n P (Ai n P) M).length=P.length:=by simp [wV]
theorem ExS.wrow_at {g:Nat} (hg:g<P.length):(wV n P (Ai n P) M).getD g []=M7 n (Ai n P) (P.getD g 0) (M.getD g []) :=
 Au (by unfold wV; rw [List.getElem?_map,List.getElem?_range hg]; rfl)
theorem ExS.mrow {g:Nat} (hg:g<P.length):Nl p C (M.getD g []):=S.mm _ (F8 (by have:=S.ml; omega))
theorem ExS.pnR {g:Nat} (hg:g<P.length):P.getD g 0∉Ai n P:=fun h=>(Kd.1 h).2 (S.pat hg).2.2
theorem ExS.wm:D6 p n (wV n P (Ai n P) M):=fun x hx=>by
 unfold wV at hx;obtain ⟨g,hg,rfl⟩:=List.mem_map.1 hx;have hg:=List.mem_range.1 hg;exact (S.wrow ⟨(S.pat hg).1,(S.pat hg).2.1⟩ (S.pnR hg) _ (S.mrow hg)).1
theorem ExS.w1 {g k:Nat} (hg:g<P.length) (hk:k<P.length):en (wV n P (Ai n P) M) g (Dp P k)=if g=k then 1 else 0:=by
 have hpk:=S.pat hk;have hpg:=S.pat hg;have e:((Dp P k:Nat):Int)=P.getD k 0:=by unfold Dp; omega
 show ((wV n P (Ai n P) M).getD g []).getD (Dp P k) 0=_;rw [S.wrow_at hg,(S.wrow ⟨hpg.1,hpg.2.1⟩ (S.pnR hg) _ (S.mrow hg)).2.2 _ (by omega) (by rw [e]; exact S.pnR hk),e];by_cases h:g=k
 ·subst h; rw [if_pos rfl,if_pos rfl]
 ·rw [if_neg h,if_neg];intro e2;rw [Au (gEg hk),Au (gEg hg)] at e2;exact h (Y5 S.po.nd e2).symm
theorem ExS.w2 {g h:Nat} (hg:g<P.length) (hh:h<C):en (wV n P (Ai n P) M) g (Dp (Ai n P) h)=en M g h:=by
 have hpg:=S.pat hg;show ((wV n P (Ai n P) M).getD g []).getD (Dp (Ai n P) h) 0=_;rw [S.wrow_at hg,(S.wrow ⟨hpg.1,hpg.2.1⟩ (S.pnR hg) _ (S.mrow hg)).2.1 h hh];rfl
omit S in
def yV (p:Int) (i j:Nat) (M W:List (List Int)):List (List Int) :=
 (List.range W.length).map fun k=>if k=i then F6 p (Ef p (en M i j)) (W.getD i []) else Gb p (en M k j) (W.getD k []) (F6 p (Ef p (en M i j)) (W.getD i []))
theorem ExS.inv:0<=Ef p (en M i j)∧Ef p (en M i j)<p∧en M i j*Ef p (en M i j) % p=1:=by
 have h:=S.men (a:=i) (b:=j);have:=S.nz;exact (Aar S.fp ⟨by omega,h.2⟩).2.2
theorem ExS.yl:(yV p i j M (wV n P (Ai n P) M)).length=P.length:=by simp [yV,S.wl]
theorem ExS.yrow {k:Nat} (hk:k<P.length):(yV p i j M (wV n P (Ai n P) M)).getD k []=if k=i then F6 p (Ef p (en M i j)) ((wV n P (Ai n P) M).getD i []) else Gb p (en M k j) ((wV n P (Ai n P) M).getD k []) (F6 p (Ef p (en M i j)) ((wV n P (Ai n P) M).getD i [])) :=
 Au (by unfold yV; rw [List.getElem?_map,S.wl,List.getElem?_range hk]; rfl)
theorem ExS.wvec {k:Nat} (hk:k<P.length):Nl p n ((wV n P (Ai n P) M).getD k []):=S.wm _ (F8 (by rw [S.wl]; exact hk))
theorem ExS.ym:D6 p n (yV p i j M (wV n P (Ai n P) M)):=fun x hx=>by
 have hp:=(Gp S.fp).1;unfold yV at hx;obtain ⟨k,hk,rfl⟩:=List.mem_map.1 hx;have hk:=List.mem_range.1 hk;rw [S.wl] at hk;have h1:=Qb (p:=p) (k:=Ef p (en M i j)) hp (S.wvec S.hi).1;split
 ·exact h1
 ·exact Abe hp (S.wvec hk).1 h1.1
theorem ExS.yi {q:Nat} (hq:q<n):en (yV p i j M (wV n P (Ai n P) M)) i q=en (wV n P (Ai n P) M) i q*Ef p (en M i j) % p:=by
 have hl:=(S.wvec S.hi).1;show ((yV p i j M (wV n P (Ai n P) M)).getD i []).getD q 0=_;rw [S.yrow S.hi,if_pos rfl];refine Au ?_;unfold F6 en;rw [List.getElem?_map,gEg (by omega),Option.map_some,Au (m:=(wV n P (Ai n P) M).getD i []) (gEg (by omega))]
theorem ExS.yk {k q:Nat} (hk:k<P.length) (hne:k≠i) (hq:q<n):en (yV p i j M (wV n P (Ai n P) M)) k q=(en (wV n P (Ai n P) M) k q - en M k j*en (yV p i j M (wV n P (Ai n P) M)) i q) % p:=by
 have hl:=(S.wvec S.hi).1;have hl2:=(S.wvec hk).1;rw [S.yi hq];show ((yV p i j M (wV n P (Ai n P) M)).getD k []).getD q 0=_;rw [S.yrow hk,if_neg hne];refine Au ?_;unfold Gb F6 en;rw [List.getElem?_zipWith,List.getElem?_map,gEg (show q<((wV n P (Ai n P) M).getD k []).length by omega),gEg (show q<((wV n P (Ai n P) M).getD i []).length by omega),Au (m:=(wV n P (Ai n P) M).getD k []) (gEg (by omega)),Au (m:=(wV n P (Ai n P) M).getD i []) (gEg (by omega))];rfl
theorem ExS.spanY {k:Nat} (hk:k<P.length):Dw p n (wV n P (Ai n P) M) (en (yV p i j M (wV n P (Ai n P) M)) k):=by
 have h1:Dw p n (wV n P (Ai n P) M) (en (yV p i j M (wV n P (Ai n P) M)) i):=Cx (Gy (Ef p (en M i j)) (B2 (i:=i) (by rw [S.wl]; exact S.hi))) fun q hq=>by
  rw [S.yi hq];exact Cg.md.trans (Cg.of (by rw [Int.mul_comm]))
 by_cases e:k=i
 ·subst e; exact h1
 ·exact Cx (Mx (B2 (i:=k) (by rw [S.wl]; exact hk)) (Gy (-en M k j) h1)) fun q hq=>by
   rw [S.yk hk e hq];exact Cg.md.trans (Cg.of (by grind))
theorem ExS.spanW {k:Nat} (hk:k<P.length):Dw p n (yV p i j M (wV n P (Ai n P) M)) (en (wV n P (Ai n P) M) k):=by
 have hi':i<(yV p i j M (wV n P (Ai n P) M)).length:=by rw [S.yl]; exact S.hi
 obtain ⟨v1,v2,v3⟩:=S.inv;have hp:=(Gp S.fp).1;by_cases e:k=i
 ·subst e;refine Cx (Gy (en M k j) (B2 hi')) fun q hq=>?_
  rw [S.yi hq];obtain ⟨t,ht⟩:=Cg.fr (p:=p) (a:=en M k j*Ef p (en M k j)) (b:=1) (by rw [v3]; exact (Int.emod_eq_of_lt (by omega) (by omega)).symm);exact Cg.symm ((Cg.rf.mul Cg.md).trans ⟨t*en (wV n P (Ai n P) M) k q,by grind⟩)
 ·refine Cx (Mx (B2 (i:=k) (by rw [S.yl]; exact hk)) (Gy (en M k j) (B2 hi'))) fun q hq=>?_
  rw [S.yk hk e hq];exact Cg.symm ((Cg.md.add Cg.rf).trans (Cg.of (by grind)))
end
end
section
set_option linter.unusedSectionVars false
def xeV (p:Int) (i j:Nat) (M:List (List Int)) (k c:Nat):Int :=
 if k=i∧c=j then Ef p (en M i j) % p
 else if k=i then en M k c*Ef p (en M i j) % p
 else if c=j then (-(en M k c))*Ef p (en M i j) % p
 else (en M k c - en M i c*en M k j % p*Ef p (en M i j)) % p
def xV (p:Int) (r C i j:Nat) (M:List (List Int)):List (List Int):=(List.range r).map fun k=>(List.range C).map fun c=>xeV p i j M k c
section
variable {p:Int} {n:Nat} {P:List Int} {M:List (List Int)} {C i j:Nat} (S:ExS p n P M C i j)
include S
theorem ExS.rlt {h:Nat} (hh:h<C):Dp (Ai n P) h<n∧((Dp (Ai n P) h:Nat):Int)=(Ai n P).getD h 0:=by
 have:=S.rat hh;unfold Dp;omega
theorem ExS.plt {k:Nat} (hk:k<P.length):Dp P k<n∧((Dp P k:Nat):Int)=P.getD k 0:=by
 have:=S.pat hk;unfold Dp;omega
theorem ExS.in_at {l:Nat} (hl:l<P.length):Dp (P.set i ((Ai n P).getD j 0)) l=if l=i then Dp (Ai n P) j else Dp P l:=by
 unfold Dp;rw [gDg,List.getElem?_set];by_cases e:i=l
 ·subst e; rw [if_pos rfl,if_pos hl,if_pos rfl]; rfl
 ·rw [if_neg e,if_neg (Ne.symm e),← gDg]
theorem ExS.out_at {c:Nat} (hc:c<C):Dp ((Ai n P).set j (P.getD i 0)) c=if c=j then Dp P i else Dp (Ai n P) c:=by
 have:=S.rl;unfold Dp;rw [gDg,List.getElem?_set];by_cases e:j=c
 ·subst e; rw [if_pos rfl,if_pos (by omega),if_pos rfl]; rfl
 ·rw [if_neg e,if_neg (Ne.symm e),← gDg]
theorem ExS.xe {k c:Nat} (hk:k<P.length) (hc:c<C):xeV p i j M k c=en (yV p i j M (wV n P (Ai n P) M)) k (Dp ((Ai n P).set j (P.getD i 0)) c):=by
 have hp:=(Gp S.fp).1;rw [S.out_at hc];unfold xeV;by_cases h1:k=i
 ·subst h1;by_cases h2:c=j
  ·subst h2;rw [if_pos ⟨rfl,rfl⟩,if_pos rfl,S.yi (S.plt hk).1,S.w1 hk hk,if_pos rfl,Int.one_mul]
  ·rw [if_neg fun h=>h2 h.2,if_pos rfl,if_neg h2,S.yi (S.rlt hc).1,S.w2 hk hc]
 ·rw [if_neg fun h=>h1 h.1,if_neg h1];by_cases h2:c=j
  ·subst h2;rw [if_pos rfl,if_pos rfl,S.yk hk h1 (S.plt S.hi).1,S.yi (S.plt S.hi).1,S.w1 hk S.hi,if_neg h1,S.w1 S.hi S.hi,if_pos rfl,Int.one_mul];exact Cg.to (Cg.symm ((Cg.rf.sub (Cg.rf.mul Cg.md)).trans (Cg.of (by grind))))
  ·rw [if_neg h2,if_neg h2,S.yk hk h1 (S.rlt hc).1,S.yi (S.rlt hc).1,S.w2 hk hc,S.w2 S.hi hc];exact Cg.to ((Cg.rf.sub (Cg.md.mul Cg.rf)).trans (Cg.symm ((Cg.rf.sub (Cg.rf.mul Cg.md)).trans (Cg.of (by grind)))))
theorem ExS.unitY {k l:Nat} (hk:k<P.length) (hl:l<P.length):en (yV p i j M (wV n P (Ai n P) M)) k (Dp (P.set i ((Ai n P).getD j 0)) l)=if k=l then 1 else 0:=by
 have hp:=(Gp S.fp).1;obtain ⟨v1,v2,v3⟩:=S.inv;have e1:(1:Int) % p=1:=Int.emod_eq_of_lt (by omega) (by omega);rw [S.in_at hl];have hii:en (yV p i j M (wV n P (Ai n P) M)) i (Dp (Ai n P) j)=1:=by rw [S.yi (S.rlt S.hj).1,S.w2 S.hi S.hj,v3]
 by_cases h2:l=i
 ·subst h2;rw [if_pos rfl];by_cases h1:k=l
  ·subst h1; rw [if_pos rfl,hii]
  ·rw [if_neg h1,S.yk hk h1 (S.rlt S.hj).1,hii,S.w2 hk S.hj,Int.mul_one,Int.sub_self,Int.zero_emod]
 ·rw [if_neg h2];have h0:en (yV p i j M (wV n P (Ai n P) M)) i (Dp P l)=0:=by rw [S.yi (S.plt hl).1,S.w1 S.hi hl,if_neg (Ne.symm h2),Int.zero_mul,Int.zero_emod]
  by_cases h1:k=i
  ·subst h1; rw [h0,if_neg (Ne.symm h2)]
  ·rw [S.yk hk h1 (S.plt hl).1,h0,S.w1 hk hl,Int.mul_zero,Int.sub_zero];by_cases h3:k=l
   ·rw [if_pos h3,e1]
   ·rw [if_neg h3,Int.zero_emod]
theorem ExS.in_nd:(P.set i ((Ai n P).getD j 0)).Nodup:=Ahh S.po.nd (S.rat S.hj).2.2.1
theorem ExS.out_nd:((Ai n P).set j (P.getD i 0)).Nodup:=Ahh ExS.rnd_ (S.pnR S.hi)
theorem ExS.in_mem {q:Int}:q∈P.set i ((Ai n P).getD j 0)↔(q∈P∧q≠P.getD i 0)∨q=(Ai n P).getD j 0:=by
 rw [Afg S.po.nd S.hi,Au (m:=P) (gEg S.hi)]
theorem ExS.out_mem {q:Int}:q∈(Ai n P).set j (P.getD i 0)↔(q∈Ai n P∧q≠(Ai n P).getD j 0)∨q=P.getD i 0:=by
 have hl:j<(Ai n P).length:=by rw [S.rl]; exact S.hj
 rw [Afg ExS.rnd_ hl,Au (m:=Ai n P) (gEg hl)]
theorem ExS.nx_port:X9 n (Bb (P.set i ((Ai n P).getD j 0))):=by
 refine ⟨(Tm S.in_nd).imp fun h=>by omega,fun q hq=>?_⟩;rcases S.in_mem.1 (El.1 hq) with ⟨h,_⟩ | h
 ·exact S.po.io q h
 ·have:=S.rat S.hj; omega
theorem ExS.nr_eq:Bb ((Ai n P).set j (P.getD i 0))=Ai n (Bb (P.set i ((Ai n P).getD j 0))):=by
 refine Zc (Tm S.out_nd) V4 fun q=>?_
 rw [El,S.out_mem,Kd,Kd,El,S.in_mem];have h1:=S.rat S.hj;have h2:=S.pat S.hi;constructor
 ·rintro (⟨⟨a,b⟩,c⟩ | rfl)
  ·exact ⟨a,fun h=>h.elim (fun h=>b h.1) c⟩
  ·exact ⟨⟨h2.1,h2.2.1⟩,fun h=>h.elim (fun h=>h.2 rfl) fun h=>h1.2.2.1 (h▸h2.2.2)⟩
 ·rintro ⟨a,b⟩;by_cases e:q=P.getD i 0
  ·exact .inr e
  ·exact .inl ⟨⟨a,fun h=>b (.inl ⟨h,e⟩)⟩,fun h=>b (.inr h)⟩
theorem ExS.put_eq:∀ ys:List Int,ys=P.filter (fun q=> !(q==P.getD i 0))->(ys.take (ys.findIdx fun x=> !decide (x<(Ai n P).getD j 0))++[(Ai n P).getD j 0])++ys.drop (ys.findIdx fun x=> !decide (x<(Ai n P).getD j 0))=Bb (P.set i ((Ai n P).getD j 0)):=by
 intro ys hys;have hm:∀ q,q∈ys↔q∈P∧q≠P.getD i 0:=fun q=>by rw [hys,List.mem_filter]; simp
 refine Zc (Ajx (by rw [hys]; exact S.ri.filter _) fun h=>(S.rat S.hj).2.2.1 ((hm _).1 h).1) (Tm S.in_nd) fun q=>?_
 rw [Akx,hm,El,S.in_mem]
theorem ExS.nx_len:(Bb (P.set i ((Ai n P).getD j 0))).length=P.length:=by rw [Vr,List.length_set]
theorem ExS.pi_at {k:Nat} (hk:k<P.length):(P.set i ((Ai n P).getD j 0)).idxOf ((Bb (P.set i ((Ai n P).getD j 0))).getD k 0)<P.length∧Dp (P.set i ((Ai n P).getD j 0)) ((P.set i ((Ai n P).getD j 0)).idxOf ((Bb (P.set i ((Ai n P).getD j 0))).getD k 0))=Dp (Bb (P.set i ((Ai n P).getD j 0))) k:=by
 have hl:=S.nx_len
 have hm:(Bb (P.set i ((Ai n P).getD j 0))).getD k 0∈P.set i ((Ai n P).getD j 0):=by
  rw [Au (m:=Bb _) (gEg (show k<(Bb (P.set i ((Ai n P).getD j 0))).length by omega))];exact El.1 (List.getElem_mem _)
 have h1:=List.idxOf_lt_length_of_mem hm;refine ⟨by rwa [List.length_set] at h1,?_⟩;unfold Dp;rw [Au (m:=P.set _ _) (gEg h1),List.getElem_idxOf h1]
theorem ExS.pi_inj {k l:Nat} (hk:k<P.length) (hl:l<P.length) (e:(P.set i ((Ai n P).getD j 0)).idxOf ((Bb (P.set i ((Ai n P).getD j 0))).getD k 0)=(P.set i ((Ai n P).getD j 0)).idxOf ((Bb (P.set i ((Ai n P).getD j 0))).getD l 0)):k=l:=by
 have hx:=S.nx_len;have hnp:=S.nx_port;have h1:=(S.pi_at hk).2;have h2:=(S.pi_at hl).2;rw [e,h2] at h1
 have g1:(Bb (P.set i ((Ai n P).getD j 0))).getD k 0=(Bb (P.set i ((Ai n P).getD j 0))).getD l 0:=by
  have a1:=hnp.io ((Bb (P.set i ((Ai n P).getD j 0))).getD k 0) (by rw [Au (m:=Bb _) (gEg (show k<(Bb (P.set i ((Ai n P).getD j 0))).length by omega))]; exact List.getElem_mem _);have a2:=hnp.io ((Bb (P.set i ((Ai n P).getD j 0))).getD l 0) (by rw [Au (m:=Bb _) (gEg (show l<(Bb (P.set i ((Ai n P).getD j 0))).length by omega))]; exact List.getElem_mem _);unfold Dp at h1;omega
 rw [Au (m:=Bb _) (gEg (show k<(Bb (P.set i ((Ai n P).getD j 0))).length by omega)),Au (m:=Bb _) (gEg (show l<(Bb (P.set i ((Ai n P).getD j 0))).length by omega))] at g1;exact Y5 hnp.nd g1
omit S in
def tV (Y:List (List Int)) (nx inn o:List Int):List (List Int):=nx.map fun q=>B8 o (Y.getD (inn.idxOf q) [])
theorem ExS.t_row {Y:List (List Int)} {nx inn o:List Int} {k:Nat} (hk:k<nx.length):(tV Y nx inn o).getD k []=B8 o (Y.getD (inn.idxOf (nx.getD k 0)) []) :=
 Au (by unfold tV; rw [List.getElem?_map,gEg hk,Au (gEg hk)]; rfl)
theorem ExS.en_t {Y:List (List Int)} {nx inn o:List Int} {k q:Nat} (hk:k<nx.length) (hq:q<o.length):en (tV Y nx inn o) k q=en Y (inn.idxOf (nx.getD k 0)) (Dp o q):=by
 show ((tV Y nx inn o).getD k []).getD q 0=_;rw [S.t_row hk];refine Au ?_;unfold B8;rw [List.getElem?_map,gEg hq];simp only [Dp,Au (gEg hq)];rfl
theorem ExS.gjW {nx inn nr o:List Int} (hnx:nx=Bb (P.set i ((Ai n P).getD j 0))) (hin:inn=P.set i ((Ai n P).getD j 0)) (hnr:nr=Ai n nx) (ho:o=nx++nr) :
  gj p n ((wV n P (Ai n P) M).map (B8 o))=tV (yV p i j M (wV n P (Ai n P) M)) nx inn o∧(∃ pv,Rn n (tV (yV p i j M (wV n P (Ai n P) M)) nx inn o).length (tV (yV p i j M (wV n P (Ai n P) M)) nx inn o) pv∧∀ k,pv k=k):=by
 have hp:=(Gp S.fp).1;have hPx:X9 n nx:=by rw [hnx]; exact S.nx_port
 have O:OrdV n o:=by rw [ho,hnr]; exact Zb hPx
 have hol:=O.len;have hxl:nx.length=P.length:=by rw [hnx]; exact S.nx_len
 have hPn:P.length<=n:=by have:=S.hn; omega
 have hmt:D6 p n (tV (yV p i j M (wV n P (Ai n P) M)) nx inn o):=fun x hx=>by
  unfold tV at hx;obtain ⟨q,hq,rfl⟩:=List.mem_map.1 hx;have hq2:q∈inn:=by rw [hin]; rw [hnx] at hq; exact El.1 hq
  have h1:=List.idxOf_lt_length_of_mem hq2;have h2:=Ab4 (o:=o) hp (S.ym _ (F8 (i:=inn.idxOf q) (by rw [S.yl]; rw [hin,List.length_set] at h1; rwa [hin])))
  rwa [hol] at h2
 have htl:(tV (yV p i j M (wV n P (Ai n P) M)) nx inn o).length=P.length:=by unfold tV; rw [List.length_map,hxl]
 have hWm:D6 p n ((wV n P (Ai n P) M).map (B8 o)):=by have:=Tz (o:=o) hp S.wm; rwa [hol] at this
 have hpi:∀ k,k<P.length->inn.idxOf (nx.getD k 0)<P.length∧Dp inn (inn.idxOf (nx.getD k 0))=Dp nx k:=fun k hk=>by rw [hnx,hin]; exact S.pi_at hk
 have hpj:∀ k l,k<P.length->l<P.length->inn.idxOf (nx.getD k 0)=inn.idxOf (nx.getD l 0)->k=l:=fun k l hk hl e=>by rw [hnx,hin] at e; exact S.pi_inj hk hl e
 have hon:∀ l,l<P.length->Dp o l=Dp nx l:=fun l hl=>by
  unfold Dp;rw [ho,gDg,List.getElem?_append_left (by omega),← gDg]
 have hunit:∀ k l,k<P.length->l<P.length->en (tV (yV p i j M (wV n P (Ai n P) M)) nx inn o) k l=if k=l then 1 else 0:=fun k l hk hl=>by
  rw [S.en_t (by omega) (by omega),hon l hl,← (hpi l hl).2];have h1:=S.unitY (hpi k hk).1 (hpi l hl).1;rw [← hin] at h1;rw [h1];by_cases e:k=l
  ·subst e; rw [if_pos rfl,if_pos rfl]
  ·rw [if_neg e,if_neg fun h=>e (hpj k l hk hl h)]
 have hR:Rn n (tV (yV p i j M (wV n P (Ai n P) M)) nx inn o).length (tV (yV p i j M (wV n P (Ai n P) M)) nx inn o) (fun k=>k):=by
  refine ⟨Nat.le_refl _,fun k hk=>by omega,fun _ _ h _=>h,fun k hk l hl=>?_,fun k hk=>?_,fun k hk l hne=>?_,fun k hk l _=>Me hk⟩
  ·rw [hunit k l (by omega) (by omega),if_neg (by omega)]
  ·rw [hunit k k (by omega) (by omega),if_pos rfl]
  ·by_cases hl:l<P.length
   ·rw [hunit l k hl (by omega),if_neg hne]
   ·exact Me (by omega)
 refine ⟨Aj0 hp (Ag8 S.fp) hWm hmt hR fun f=>⟨Ig fun g hg=>?_,Ig fun k hk=>?_⟩,⟨_,hR,fun _=>rfl⟩⟩
 ·rw [List.length_map,S.wl] at hg;have h1:Dw p n ((yV p i j M (wV n P (Ai n P) M)).map (B8 o)) (fun q=>en (wV n P (Ai n P) M) g (Dp o q)):=X0 (σ:=Dp o) (List.length_map ..) (fun q hq=>(O.at hq).2.2) (fun a ha q hq=>Tf ha (by omega)) (S.spanW hg);refine Cx (Ig (fun a ha=>?_) h1) fun q hq=>Cg.of (Tf (by rw [S.wl]; exact hg) (by omega))
  rw [List.length_map,S.yl] at ha
  -- row a of Y stands somewhere in T
  have hq1:inn.getD a 0∈nx:=by
   rw [hnx]; refine El.2 ?_;rw [← hin,Au (m:=inn) (gEg (show a<inn.length by rw [hin,List.length_set]; exact ha))];exact List.getElem_mem _
  obtain ⟨k,hk,hke⟩:=List.getElem_of_mem hq1;have hal:a<inn.length:=by rw [hin,List.length_set]; exact ha
  have hia:inn.idxOf (nx.getD k 0)=a:=by
   rw [Au (gEg hk),hke,Au (m:=inn) (gEg hal)];exact List.Nodup.idxOf_getElem (by rw [hin]; exact S.in_nd) a hal
  refine Cx (B2 (i:=k) (by omega)) fun q hq=>Cg.of ?_
  rw [Tf (by rw [S.yl]; exact ha) (by omega),S.en_t (by omega) (by omega),hia]
 ·rw [htl] at hk;have h1:Dw p n ((wV n P (Ai n P) M).map (B8 o)) (fun q=>en (yV p i j M (wV n P (Ai n P) M)) (inn.idxOf (nx.getD k 0)) (Dp o q)):=X0 (σ:=Dp o) (List.length_map ..) (fun q hq=>(O.at hq).2.2) (fun a ha q hq=>Tf ha (by omega)) (S.spanY (hpi k hk).1);exact Cx h1 fun q hq=>Cg.of (S.en_t (by omega) (by omega))
def exR (p:Int) (n:Nat) (P:List Int) (M:List (List Int)) (C i j:Nat):List (List Int) :=
 (Bb (P.set i ((Ai n P).getD j 0))).map fun q=>(Bb ((Ai n P).set j (P.getD i 0))).map fun t =>
  ((xV p P.length C i j M).getD ((P.set i ((Ai n P).getD j 0)).idxOf q) []).getD (((Ai n P).set j (P.getD i 0)).idxOf t) 0
theorem ExS.cho:Akh p n (wV n P (Ai n P) M) (Bb (P.set i ((Ai n P).getD j 0)))=(true,C,exR p n P M C i j)∧(gj p n ((wV n P (Ai n P) M).map (B8 (Bb (P.set i ((Ai n P).getD j 0))++Ai n (Bb (P.set i ((Ai n P).getD j 0))))))).length=(wV n P (Ai n P) M).length:=by
 have hp:=(Gp S.fp).1;have hnn:=S.hn;have hrl:=S.rl;obtain ⟨h1,pv,h2,h3⟩:=S.gjW rfl rfl rfl rfl;have hxl:=S.nx_len;have O:=Zb S.nx_port;have hol:=O.len;have hnrq:=S.nr_eq;have hin:= @ExS.in_mem _ _ _ _ _ _ _ S;have hond:=S.out_nd;have houl:((Ai n P).set j (P.getD i 0)).length=C:=by rw [List.length_set,hrl]
 have hinl:(P.set i ((Ai n P).getD j 0)).length=P.length:=List.length_set ..;have hWm:D6 p n ((wV n P (Ai n P) M).map (B8 (Bb (P.set i ((Ai n P).getD j 0))++Ai n (Bb (P.set i ((Ai n P).getD j 0)))))):=by have:=Tz (o:=Bb (P.set i ((Ai n P).getD j 0))++Ai n (Bb (P.set i ((Ai n P).getD j 0)))) hp S.wm; rwa [hol] at this
 have hWl:((wV n P (Ai n P) M).map (B8 (Bb (P.set i ((Ai n P).getD j 0))++Ai n (Bb (P.set i ((Ai n P).getD j 0)))))).length=P.length:=by rw [List.length_map,S.wl]
 have htl:(tV (yV p i j M (wV n P (Ai n P) M)) (Bb (P.set i ((Ai n P).getD j 0))) (P.set i ((Ai n P).getD j 0)) (Bb (P.set i ((Ai n P).getD j 0))++Ai n (Bb (P.set i ((Ai n P).getD j 0))))).length=P.length:=by unfold tV; rw [List.length_map,hxl]
 have hgl:(gj p n ((wV n P (Ai n P) M).map (B8 (Bb (P.set i ((Ai n P).getD j 0))++Ai n (Bb (P.set i ((Ai n P).getD j 0))))))).length=P.length:=by rw [h1,htl]
 have hgm:=Zn (n:=n) hp hWm;obtain ⟨k1,k2⟩:=X6 hp (Ag8 S.fp) hWm (by omega) (by omega)
 have hrank:=k1.1 fun a ha=>by
  rw [h1];rw [h1] at hgm;rw [Us h2 hgm (Nat.le_refl n) (by omega),h3]
 have heq:=k2 hrank;refine ⟨?_,by rw [hgl,S.wl]⟩;unfold Akh;rw [S.wl];rw [hWl] at hrank heq;rw [if_pos ⟨hxl,hrank⟩,← heq,h1,hxl,show n - P.length=C by omega];congr 2;unfold exR tV;rw [List.map_map];refine List.map_congr_left fun q hq=>?_
 have hq2:=El.1 hq;have h4:=List.idxOf_lt_length_of_mem hq2;show (B8 _ _).drop P.length=_;rw [Ah3,List.drop_left' (by unfold B8; rw [List.length_map,hxl]),← hnrq];unfold B8;refine List.map_congr_left fun t ht=>?_
 have ht2:=El.1 ht;have h5:=List.idxOf_lt_length_of_mem ht2;have h6:=S.xe (k:=(P.set i ((Ai n P).getD j 0)).idxOf q) (c:=((Ai n P).set j (P.getD i 0)).idxOf t) (by omega) (by omega)
 have h7:Dp ((Ai n P).set j (P.getD i 0)) (((Ai n P).set j (P.getD i 0)).idxOf t)=t.toNat:=by
  unfold Dp;rw [Au (m:=(Ai n P).set _ _) (gEg h5),List.getElem_idxOf h5]
 rw [h7] at h6;show en (yV p i j M (wV n P (Ai n P) M)) _ _=_;rw [← h6];rw [Au (m:=xV p P.length C i j M) (x:=(List.range C).map fun c=>xeV p i j M ((P.set i ((Ai n P).getD j 0)).idxOf q) c) (by unfold xV; rw [List.getElem?_map,List.getElem?_range (by omega)]; rfl)];refine (Au ?_).symm;rw [List.getElem?_map,List.getElem?_range (by omega)]; rfl
end
end
section
set_option linter.unusedSectionVars false
theorem Akb (xs:List Int) (q:Int) (hx:xs.length<=1048576) (hq:q∈xs):Bm xs q=some ((xs.idxOf q:Nat):Int):=by
 unfold Bm;have hlt:=List.idxOf_lt_length_of_mem hq
 have h:A0 (fun s_:Nat=>A8 xs q s_) 4611686018427387904 0=some (Ctl.out ((xs.idxOf q:Nat):Int)):=by
  refine Bg (xs.idxOf q) (fun i=>i) (by omega) _ rfl (fun i hi=>?_) ?_
  ·have hl:i<xs.length:=by omega
   have hne:(xs[i]==q)=false:=by
    have:=List.not_of_lt_findIdx (p:=fun x=>x==q) (xs:=xs) hi
    simpa using this
   unfold A8;rw [Bc (by omega),cond_true,gEg hl,obs,show (q==xs[i])=false from by rw [beq_eq_false_iff_ne] at *; exact fun e=>hne e.symm,cond_false,Ap (by omega)]
  ·unfold A8;rw [Bc (by omega),cond_true,gEg hlt,obs,List.getElem_idxOf hlt,beq_self_eq_true,cond_true]
 rw [h]; rfl
theorem T9 (xs ys:List Int) (hx:xs.length<=1000) (hy:ys.length<=1000) (hm:∀ q∈xs,q∈ys):Ds xs ys=some (xs.map fun q=>((ys.idxOf q:Nat):Int)):=by
 unfold Ds;have h:=Gr (body:=fun s_:Nat×List Int=>Cq xs ys s_.1 s_.2) xs (fun q=>((ys.idxOf q:Nat):Int)) [] (F:=4611686018427387904) (by omega) (xs.map fun q=>((ys.idxOf q:Nat):Int)) (fun i x h=>?_) ?_
 ·rw [show A0 (fun s_:Nat×List Int=>Cq xs ys s_.1 s_.2) 4611686018427387904 (0,[])=some (xs.map fun q=>((ys.idxOf q:Nat):Int)) by simpa using h,obs]
 ·have:=Ax h
  try dsimp only
  unfold Cq;rw [Bc (by omega),cond_true,h,obs,Akb ys x (by omega) (hm x (List.mem_of_getElem? h)),obs,Ap (by simp; omega),Ap (by omega)]
 ·try dsimp only
  unfold Cq;rw [Be (by omega),cond_false,List.nil_append]
theorem Aib (xs:List Int) (q:Int) (hx:xs.length<=1000):F2 xs [q]=some (xs.filter fun x=> !(x==q)):=by
 unfold F2
 have h:A0 (fun s_:Nat×List Int=>Em xs [q] s_.1 s_.2) 4611686018427387904 (0,[])=some (xs.filter fun x=> !(x==q)):=by
  refine Bg xs.length (fun i=>(i,(xs.take i).filter fun x=> !(x==q))) (by omega) _ (by simp) (fun i hi=>?_) ?_
  ·have hx:=gEg hi;have hl:((xs.take i).filter fun x=> !(x==q)).length<=1000:=Nat.le_trans (List.length_filter_le ..) (by rw [List.length_take]; omega)
   try dsimp only
   unfold Em;rw [Bc (by omega),cond_true,hx,obs,Aez _ _ (by simp),obs,List.take_add_one,hx,Option.toList,Mu];rw [show (([q]:List Int).any fun x=>x==xs[i])=(xs[i]==q) from by rw [Bool.eq_iff_iff]; simp only [List.any_cons,List.any_nil,Bool.or_false,beq_iff_eq]; exact eq_comm];cases xs[i]==q
   ·rw [Bool.not_false,cond_true,Ap (by omega),obs,if_pos rfl,Ap (by omega)]
   ·rw [Bool.not_true,cond_false,obs,if_neg (by decide),Ap (by omega)]
  ·try dsimp only
   unfold Em;rw [Be (by omega),cond_false,List.take_length]
 rw [h,obs]
theorem Akq (xs:List Int) (v:Int) (hx:xs.length<=1000) (hv:v∉xs):G0 xs v=some (.inr ((xs.take (xs.findIdx fun x=> !decide (x<v))++[v])++xs.drop (xs.findIdx fun x=> !decide (x<v)))):=by
 unfold G0;have hle:(xs.findIdx fun x=> !decide (x<v))<=xs.length:=List.findIdx_le_length
 have h:A0 (fun s_:Nat=>E2 xs v s_) 4611686018427387904 0=some (xs.findIdx fun x=> !decide (x<v)):=by
  refine Bg (xs.findIdx fun x=> !decide (x<v)) (fun i=>i) (by omega) _ rfl (fun i hi=>?_) ?_
  ·have hl:i<xs.length:=by omega
   have h0:=List.not_of_lt_findIdx hi;have h1:decide (xs[i]<v)=true:=by simpa using h0
   unfold E2;rw [Bc (show ((i:Nat):Int)<((xs.length:Nat):Int) by omega),cond_true,gEg hl,obs,h1,obs,cond_true,Ap (by omega)]
  ·unfold E2;by_cases hk:(xs.findIdx fun x=> !decide (x<v))=xs.length
   ·rw [Be (by omega),cond_false,obs,cond_false]
   ·have hl:(xs.findIdx fun x=> !decide (x<v))<xs.length:=by omega
    have h0:=List.findIdx_getElem (w:=hl);have h1:decide (xs[xs.findIdx fun x=> !decide (x<v)]<v)=false:=by simpa using h0
    rw [Bc (by omega),cond_true,gEg hl,obs,h1,obs,cond_false]
 rw [h,obs];generalize (xs.findIdx fun x=> !decide (x<v))=k at *
 have hc:(cond (decide (((k:Nat):Int)<((xs.length:Nat):Int))) (Option.bind (xs[k]?) fun x14=>some (x14==v)) (some false))=some false:=by
  by_cases hk:k<xs.length
  ·rw [Bc (by omega),cond_true,gEg hk,obs,show (xs[k]==v)=false from by rw [beq_eq_false_iff_ne]; exact fun e=>hv (e▸List.getElem_mem hk)]
  ·rw [Be (by omega),cond_false]
 have hk2:(xs.take k).length=k:=by rw [List.length_take]; omega
 have hd2:(xs.drop k).length<=1000:=by rw [List.length_drop]; omega
 rw [hc,obs,cond_false,Ap (by omega),Ap (by omega),Ap (by omega),Ap (by omega),Ap (by rw [List.length_append,hk2,List.length_singleton]; omega)]
section
variable {p:Int} {n:Nat} {P:List Int} {M:List (List Int)} {C i j:Nat} (S:ExS p n P M C i j)
include S
theorem ExS.xeb {k c:Nat}:0<=xeV p i j M k c∧xeV p i j M k c<p:=by
 have hp:=(Gp S.fp).1;unfold xeV;split
 ·exact O1 hp
 ·split
  ·exact O1 hp
  ·split <;> exact O1 hp
theorem ExS.get2 {k c:Nat} (hk:k<P.length) (hc:c<C):(M.getD k [])[c]? =some (en M k c):=by
 have h:=(S.mrow hk).1;rw [gEg (by omega)];unfold en;rw [Au (m:=M.getD k []) (gEg (by omega))]
theorem ExS.getI2 {k c:Nat} (hk:k<P.length) (hc:c<C):F4 (M.getD k []) (c:Int)=some (en M k c):=by
 rw [Fn (by omega),Int.toNat_natCast,S.get2 hk hc]
theorem ExS.getM {k:Nat} (hk:k<P.length):M[k]? =some (M.getD k []):=by
 have:=S.ml;rw [gEg (by omega),Au (gEg (by omega))]
theorem ExS.bds:2<=p∧p<=97:=Gp S.fp
theorem ExS.cell {k c:Nat} (hk:k<P.length) (hc:c<C) :
  (Option.bind (Option.bind (cond (((k:Nat):Int)==(i:Int)) (some (((c:Nat):Int)==(j:Int))) (some false)) fun l27_m61 =>
   cond l27_m61 (some (Ef p (en M i j))) (cond (((k:Nat):Int)==(i:Int)) (some (wI (en M k c*Ef p (en M i j)))) (cond (((c:Nat):Int)==(j:Int))
    (some (wI ((wI (0 - en M k c))*Ef p (en M i j))))
    (Option.bind ((M.getD i [])[c]?) fun x34=>Option.bind (F4 (M.getD k []) (j:Int)) fun x35=>Option.bind (D3 p (wI (x34*x35))) fun y36=>some (wI (en M k c - (wI (y36*Ef p (en M i j))))))))) fun l26_m14=>D3 p l26_m14)=some (xeV p i j M k c):=by
 have hp:=S.bds;obtain ⟨v1,v2,_⟩:=S.inv;have m1:=S.men (a:=k) (b:=c);have m2:=S.men (a:=i) (b:=c);have m3:=S.men (a:=k) (b:=j);have b1:=Zk hp m1 ⟨v1,v2⟩;have b2:=Zk hp m2 m3;have b3:=O1 (p:=p) (x:=en M i c*en M k j) hp.1;have b4:=Zk hp b3 ⟨v1,v2⟩;have en1:(0 - en M k c)*Ef p (en M i j)= -(en M k c*Ef p (en M i j)):=by grind
 unfold xeV;by_cases h1:k=i
 ·subst h1;rw [beq_self_eq_true,cond_true,obs];by_cases h2:c=j
  ·subst h2;rw [beq_self_eq_true,cond_true,obs,if_pos ⟨rfl,rfl⟩,Aca hp]
  ·rw [show (((c:Nat):Int)==((j:Nat):Int))=false by rw [beq_eq_false_iff_ne]; omega,cond_false,cond_true,obs,if_neg fun h=>h2 h.2,if_pos rfl,Aca hp,Cr (by omega) (by omega)]
 ·rw [show (((k:Nat):Int)==((i:Nat):Int))=false by rw [beq_eq_false_iff_ne]; omega,cond_false,obs,cond_false,cond_false,if_neg fun h=>h1 h.1,if_neg h1];by_cases h2:c=j
  ·subst h2;rw [beq_self_eq_true,cond_true,obs,if_pos rfl,Aca hp,Cr (n:=0 - en M k c) (by omega) (by omega),en1,Cr (by omega) (by omega)];congr 2
   grind
  ·rw [show (((c:Nat):Int)==((j:Nat):Int))=false by rw [beq_eq_false_iff_ne]; omega,cond_false,if_neg h2,S.get2 S.hi hc,obs,S.getI2 hk S.hj,obs,Aca hp,obs,Cr (n:=en M i c*en M k j) (by omega) (by omega),Cr (n:=en M i c*en M k j % p*Ef p (en M i j)) (by omega) (by omega),Cr (by omega) (by omega),obs,Aca hp]
theorem ExS.xrow {k:Nat} (hk:k<P.length):(xV p P.length C i j M)[k]? =some ((List.range C).map fun c=>xeV p i j M k c):=by
 unfold xV;rw [List.getElem?_map,List.getElem?_range hk]; rfl
theorem ExS.xl:(xV p P.length C i j M).length=P.length:=by simp [xV]
theorem ExS.xm:D6 p C (xV p P.length C i j M):=fun x hx=>by
 unfold xV at hx;obtain ⟨k,_,rfl⟩:=List.mem_map.1 hx;refine ⟨by simp,fun a ha=>?_⟩;obtain ⟨c,_,rfl⟩:=List.mem_map.1 ha;exact S.xeb
theorem ExS.exch:D9 p M (i:Int) (j:Int)=some (xV p P.length C i j M):=by
 have hp:=S.bds;have hml:=S.ml;have hnn:=S.hn;have hnb:=S.hb;have hnz:=S.nz;have hij:=S.men (a:=i) (b:=j);have hxl:=S.xl;unfold D9;rw [Fn (by omega),Int.toNat_natCast,S.getM S.hi,obs,S.getI2 S.hi S.hj,obs,(Aar S.fp ⟨by omega,hij.2⟩).2.1,obs,Aix S.mm (by omega) (by omega),obs]
 have h:A0 (fun s_:Nat×List (List Int)=>C8 M (i:Int) (j:Int) (Ef p (en M i j)) (M.getD i []) p s_.1 s_.2) 4611686018427387904 (0,M)=some (xV p P.length C i j M):=by
  refine Bg P.length (fun k=>(k,(xV p P.length C i j M).take k++M.drop k)) (by omega) _ (by simp) (fun k hk=>?_) ?_
  ·try dsimp only
   have htl:((xV p P.length C i j M).take k).length=k:=by rw [List.length_take]; omega
   have hrl:=(S.mrow hk).1;have hkM:k<M.length:=by omega
   have hin:A0 (fun s_:Nat×List (List Int)=>C9 (M.getD k []) k (i:Int) (j:Int) (Ef p (en M i j)) (M.getD i []) p s_.1 s_.2) 4611686018427387904 (0,(xV p P.length C i j M).take k++M.drop k)=some ((xV p P.length C i j M).take (k+1)++M.drop (k+1)):=by
    refine Bg C (fun c=>(c,((xV p P.length C i j M).take k++[((List.range c).map fun c=>xeV p i j M k c)++(M.getD k []).drop c])++M.drop (k+1))) (by omega) _ ?_ (fun c hc=>?_) ?_
    ·rw [List.drop_eq_getElem_cons hkM];simp only [List.range_zero,List.map_nil,List.nil_append,List.drop_zero,List.append_assoc,List.singleton_append];rw [Au (gEg hkM)]
    ·try dsimp only
     have hcl:((List.range c).map fun c=>xeV p i j M k c).length=c:=by simp
     have hc':c<(M.getD k []).length:=by omega
     have hcell:=S.cell hk hc;unfold C9;rw [Bc (by omega),cond_true,S.get2 hk hc,obs,Aed htl];simp only [obs]
     -- the cell first
     have hcell2:∀ (K:Int->Option (Ctl (Nat×List (List Int)) (List (List Int)))),((Option.bind (cond (((k:Nat):Int)==(i:Int)) (some (((c:Nat):Int)==(j:Int))) (some false)) fun l27_m61 =>
   cond l27_m61 (some (Ef p (en M i j))) (cond (((k:Nat):Int)==(i:Int)) (some (wI (en M k c*Ef p (en M i j)))) (cond (((c:Nat):Int)==(j:Int))
    (some (wI ((wI (0 - en M k c))*Ef p (en M i j))))
    (Option.bind ((M.getD i [])[c]?) fun x34=>Option.bind (F4 (M.getD k []) (j:Int)) fun x35=>Option.bind (D3 p (wI (x34*x35))) fun y36=>some (wI (en M k c - (wI (y36*Ef p (en M i j)))))))))).bind (fun z=>(D3 p z).bind K)=K (xeV p i j M k c):=fun K=>by
      rw [← Option.bind_assoc,hcell,obs]
     rw [hcell2];rw [Hj hc' hcl,obs,Ap (by omega),Aer htl,Hb hc' hcl];simp only [List.range_succ,List.map_append,List.map_cons,List.map_nil]
    ·try dsimp only
     unfold C9;rw [Be (by omega),cond_false,List.take_add_one,S.xrow hk,List.drop_of_length_le (by omega),List.append_nil]; rfl
   unfold C8;rw [Bc (by omega),cond_true,S.getM hk,obs,hin,obs,Ap (by omega)]
  ·try dsimp only
   unfold C8;rw [Be (by omega),cond_false,List.take_of_length_le (by omega),List.drop_of_length_le (by omega),List.append_nil]
 rw [h,obs]
theorem ExS.inl_:(P.set i ((Ai n P).getD j 0)).length=P.length:=List.length_set ..
theorem ExS.outl:((Ai n P).set j (P.getD i 0)).length=C:=by rw [List.length_set,S.rl]
theorem ExS.implRows:A0 (fun s_:Nat×List (List Int)=>Bu ((Bb (P.set i ((Ai n P).getD j 0))).map fun q=>(((P.set i ((Ai n P).getD j 0)).idxOf q:Nat):Int)) (xV p P.length C i j M) ((Bb ((Ai n P).set j (P.getD i 0))).map fun q=>((((Ai n P).set j (P.getD i 0)).idxOf q:Nat):Int)) s_.1 s_.2) 4611686018427387904 (0,([]:List (List Int)))=some (exR p n P M C i j):=by
 have hnn:=S.hn;have hnb:=S.hb;have hxl:=S.xl;have hil:=S.inl_;have hol:=S.outl;have hsl:(Bb (P.set i ((Ai n P).getD j 0))).length=P.length:=S.nx_len;have hsl2:(Bb ((Ai n P).set j (P.getD i 0))).length=C:=by rw [Vr,hol]
 have h:=Gr (body:=fun s_:Nat×List (List Int)=>Bu ((Bb (P.set i ((Ai n P).getD j 0))).map fun q=>(((P.set i ((Ai n P).getD j 0)).idxOf q:Nat):Int)) (xV p P.length C i j M) ((Bb ((Ai n P).set j (P.getD i 0))).map fun q=>((((Ai n P).set j (P.getD i 0)).idxOf q:Nat):Int)) s_.1 s_.2)
  (Bb (P.set i ((Ai n P).getD j 0))) (fun q=>(Bb ((Ai n P).set j (P.getD i 0))).map fun t=>((xV p P.length C i j M).getD ((P.set i ((Ai n P).getD j 0)).idxOf q) []).getD (((Ai n P).set j (P.getD i 0)).idxOf t) 0) [] (F:=4611686018427387904) (by omega) (exR p n P M C i j) (fun a x h=>?_) ?_
 ·simpa using h
 ·have ha:=Ax h;have hx:=El.1 (List.mem_of_getElem? h);have hlt:=List.idxOf_lt_length_of_mem hx
  try dsimp only
  unfold Bu
  rw [List.length_map,Bc (by omega),cond_true,List.getElem?_map,h,Option.map_some,obs,Fn (by omega),Int.toNat_natCast,gEg (show (P.set i ((Ai n P).getD j 0)).idxOf x<(xV p P.length C i j M).length by omega),obs,
   Aig (n:=C) (S.xm _ (List.getElem_mem _)).1 (fun q hq=>?_) (by rw [List.length_map]; omega),obs,Ap (by simp; omega),Ap (by omega),Au (m:=xV p P.length C i j M) (gEg (show (P.set i ((Ai n P).getD j 0)).idxOf x<(xV p P.length C i j M).length by omega))]
  ·congr 4;unfold B8;rw [List.map_map];rfl
  ·obtain ⟨t,ht,rfl⟩:=List.mem_map.1 hq;have:=List.idxOf_lt_length_of_mem (El.1 ht);omega
 ·try dsimp only
  unfold Bu;rw [Be (by simp),cond_false,List.nil_append]; rfl
theorem ExS.specRows:A0 (fun s_:Nat×List (List Int)=>Cb P M (C:Int) (Ai n P) s_.1 s_.2) 4611686018427387904 (0,([]:List (List Int)))=some (wV n P (Ai n P) M):=by
 have hnn:=S.hn;have hnb:=S.hb;have hml:=S.ml;have hrl:=S.rl;have hwl:=S.wl;have e:wV n P (Ai n P) M=(List.range P.length).map fun g=>M7 n (Ai n P) (P.getD g 0) (M.getD g []):=rfl
 refine Bg P.length (fun k=>(k,(wV n P (Ai n P) M).take k)) (by omega) _ rfl (fun k hk=>?_) ?_
 ·try dsimp only
  have hp:=S.pat hk
  have hin:A0 (fun s_:Nat×List Int=>Cc (M.getD k []) (Ai n P) s_.1 s_.2) 4611686018427387904 (0,(List.replicate n (0:Int)).set (P.getD k 0).toNat 1)=some (M7 n (Ai n P) (P.getD k 0) (M.getD k [])):=by
   have hm:=(S.mrow hk).1;refine Bg C (fun h=>(h,Vx (Ai n P) (M.getD k []) ((List.replicate n (0:Int)).set (P.getD k 0).toNat 1) h)) (by omega) _ rfl (fun h hh=>?_) ?_
   ·try dsimp only
    have hr:=S.rat hh;have hpl:=P5 (R:=Ai n P) (x:=M.getD k []) (v:=(List.replicate n (0:Int)).set (P.getD k 0).toNat 1) h;simp only [List.length_set,List.length_replicate] at hpl;unfold Cc;rw [Bc (by omega),cond_true,gEg (show h<(M.getD k []).length by omega),obs,gEg (show h<(Ai n P).length by omega),obs];have e1:(Ai n P)[h]'(by omega)=(Ai n P).getD h 0:=(Au (gEg (by omega))).symm;have e2:(M.getD k [])[h]'(by omega)=(M.getD k []).getD h 0:=(Au (gEg (by omega))).symm;rw [e1,e2,Fn hr.1,gEg (by omega),obs,Ap (by omega)];rfl
   ·try dsimp only
    unfold Cc M7;rw [Be (by omega),cond_false,hrl]
  unfold Cb;rw [Bc (by omega),cond_true,gEg hk,obs,hml,Cr (by omega) (by omega),show (((P.length:Nat):Int)+(C:Int))=(n:Int) by omega,Ap (by omega),Int.toNat_natCast];have e1:P[k]=P.getD k 0:=(Au (gEg hk)).symm;rw [e1,Fn hp.1,List.getElem?_replicate,if_pos (by omega),obs,S.getM hk,obs,hin,obs,Ap (by rw [List.length_take]; omega),obs,Ap (by omega),List.take_add_one];rw [show (wV n P (Ai n P) M)[k]? =some (M7 n (Ai n P) (P.getD k 0) (M.getD k [])) from by rw [e,List.getElem?_map,List.getElem?_range hk]; rfl];rfl
 ·try dsimp only
  unfold Cb;rw [Be (by omega),cond_false,List.take_of_length_le (by omega)]
end
theorem Ad6 (p c:Int) (m:List (List Int)) (hm:m.length<=1048576) (hr:G8 1048576 m):Ex p c m=some (isF p&&(inR c 0 24&&(decide (((m.length:Nat):Int)<=24)&&Abz p c m))):=by
 unfold Ex Jd;rw [obs];cases isF p
 ·rfl
 rw [cond_true,Pg,obs];cases inR c 0 24
 ·rfl
 rw [cond_true,Aan p c m hm hr];cases decide (((m.length:Nat):Int)<=24) <;> rfl
theorem Ah4 (p c:Int) (m:List (List Int)) (hm:m.length<=1048576) (hr:G8 1048576 m):F7 p c m=some (isF p&&(inR c 0 24&&(decide (((m.length:Nat):Int)<=24)&&Abz p c m))):=by
 unfold F7;rw [Ahy,obs];cases hf:isF p
 ·rfl
 have hp:=Gp hf;rw [Bool.not_true,cond_false,Q6,obs];cases inR c 0 24
 ·rfl
 rw [Bool.not_true,cond_false,obs];by_cases h:24<((m.length:Nat):Int)
 ·rw [Bc h,cond_true,Be (show ¬ ((m.length:Nat):Int)<=24 by omega)]; rfl
 rw [Be h,cond_false,Bc (show ((m.length:Nat):Int)<=24 by omega)];rw [Io m (fun x=>((x.length:Nat):Int)==c&&x.all fun a=>inR a 0 (p - 1)) (.next ()) (.out false) (by omega) (fun i x h=>?_) ?_,Ll]; rfl
 ·unfold Fq;rw [Be (by omega),cond_false]
 ·have:=Ax h;have hx:=hr x (List.mem_of_getElem? h);unfold Fq;rw [Bc (by omega),cond_true,h,obs];cases hc:((x.length:Nat):Int)==c
  ·rw [show (((x.length:Nat):Int) !=c)=true by simp only [bne,hc,Bool.not_false],cond_true,obs,cond_true,Bool.false_and]; rfl
  ·rw [show (((x.length:Nat):Int) !=c)=false by simp only [bne,hc,Bool.not_true],cond_false,Al4 p x hp (by omega),obs,obs,Bool.true_and,Ap (by omega)];cases x.all fun a=>inR a 0 (p - 1) <;> rfl
theorem Agq (p:Int) (P:List Int) (c:Int) (M:List (List Int)) (a b:Int) (hP:P.length<=1048576) (hm:M.length<=1048576) (hr:G8 1048576 M) :
  ∃ ok ps,∃ k:Nat,∃ v,Cz p P c M a b=some (ok,ps,k,v)∧Ce p P c M a b=some (ok,ps,(k:Int),v)∧ps.length<=1048576∧v.length<=1048576∧G8 1048576 v:=by
 have bad:∃ ok:Bool,∃ ps:List Int,∃ k:Nat,∃ v:List (List Int),some (false,[],0,([]:List (List Int)))=some (ok,ps,k,v)∧some (false,[],(0:Int),([]:List (List Int)))=some (ok,ps,(k:Int),v)∧ps.length<=1048576∧v.length<=1048576∧G8 1048576 v :=
  ⟨false,[],0,[],rfl,rfl,by simp,by simp,fun x hx=>by cases hx⟩
 unfold Cz Ce;rw [Ah4 p c M hm hr,Ad6 p c M hm hr];simp only [obs];cases hg:(isF p&&(inR c 0 24&&(decide (((M.length:Nat):Int)<=24)&&Abz p c M)))
 ·exact bad
 simp only [Bool.and_eq_true,decide_eq_true_eq] at hg;obtain ⟨hf,hc,h24,hv⟩:=hg;have hc:=Qh.1 hc;obtain ⟨C,rfl⟩:=Int.eq_ofNat_of_zero_le hc.1;have hmm:=Af8 hv;simp only [Bool.not_true,cond_false];rw [Cr (n:=((M.length:Nat):Int)+(C:Int)) (by omega) (by omega),show ((M.length:Nat):Int)+(C:Int)=((M.length+C:Nat):Int) by omega,Agc hP (by omega),Z1 hP (by omega)];cases hp:Aiq P (((M.length+C:Nat):Int) - 1)
 ·simp only [obs,Bool.not_false,cond_true];cases (((P.length:Nat):Int) !=((M.length:Nat):Int)) <;> exact bad
 simp only [obs,Bool.not_true,cond_false];by_cases hl:P.length=M.length
 case neg =>
  rw [show (((P.length:Nat):Int) !=((M.length:Nat):Int))=true by rw [bne_iff_ne]; omega];exact bad
 rw [show (((P.length:Nat):Int) !=((M.length:Nat):Int))=false by rw [hl]; exact bne_self_eq_false _];simp only [cond_false];rw [Cr (n:=((P.length:Nat):Int) - 1) (by omega) (by omega),Cr (n:=((M.length:Nat):Int) - 1) (by omega) (by omega),Cr (n:=(C:Int) - 1) (by omega) (by omega),Q6,Pg,hl];cases ha:inR a 0 (((M.length:Nat):Int) - 1)
 ·exact bad
 have ha:=Qh.1 ha;obtain ⟨i,rfl⟩:=Int.eq_ofNat_of_zero_le ha.1;simp only [obs,Bool.not_true,cond_false];rw [Q6,Pg];cases hb:inR b 0 ((C:Int) - 1)
 ·exact bad
 have hb:=Qh.1 hb;obtain ⟨j,rfl⟩:=Int.eq_ofNat_of_zero_le hb.1;simp only [obs,Bool.not_true,cond_false];have hiM:i<M.length:=by omega
 have hx:=(hmm _ (F8 hiM)).1;have gI:F4 M (i:Int)=some (M.getD i []):=by rw [Fn (by omega),Int.toNat_natCast,gEg hiM,Au (gEg hiM)]
 have gJ:F4 (M.getD i []) (j:Int)=some (en M i j):=by
  rw [Fn (by omega),Int.toNat_natCast,gEg (by omega)];unfold en;rw [Au (m:=M.getD i []) (gEg (by omega))]
 rw [gI];simp only [obs];rw [gJ];simp only [obs];by_cases hz:en M i j=0
 ·rw [hz]; exact bad
 rw [show (en M i j==0)=false from beq_eq_false_iff_ne.2 hz];simp only [cond_false];have hpo:=Ag0 hp;have S:ExS p (M.length+C) P M C i j:=⟨hf,by omega,by omega,Alg hp,hpo,hmm,hl.symm,by omega,by omega,hz⟩
 have hrl:=S.rl;have hjr:j<(Ai (M.length+C) P).length:=by omega
 have hiP:i<P.length:=by omega
 have g1:F4 P (i:Int)=some (P.getD i 0):=by rw [Fn (by omega),Int.toNat_natCast,gEg hiP,Au (gEg hiP)]
 have g2:F4 (Ai (M.length+C) P) (j:Int)=some ((Ai (M.length+C) P).getD j 0):=by rw [Fn (by omega),Int.toNat_natCast,gEg hjr,Au (m:=Ai _ _) (gEg hjr)]
 have hfl:(P.filter fun x=> !(x==P.getD i 0)).length<=1000:=Nat.le_trans (List.length_filter_le ..) (by omega);have hil:=S.inl_;have hol:=S.outl;have hsl:(Bb (P.set i ((Ai (M.length+C) P).getD j 0))).length=P.length:=S.nx_len;have hsl2:(Bb ((Ai (M.length+C) P).set j (P.getD i 0))).length=C:=by rw [Vr,hol]
 obtain ⟨hcho,hrk⟩:=S.cho
 have hspec:C4 p ((M.length+C:Nat):Int) (wV (M.length+C) P (Ai (M.length+C) P) M) (Bb (P.set i ((Ai (M.length+C) P).getD j 0)))=some (true,C,exR p (M.length+C) P M C i j):=by
  rw [Aee hf (by omega) S.wm (by rw [S.wl]; omega) hrk S.nx_port,hcho]
 refine ⟨true,Bb (P.set i ((Ai (M.length+C) P).getD j 0)),C,exR p (M.length+C) P M C i j,?_,?_,by omega,by unfold exR; rw [List.length_map]; omega,fun x hx=>?_⟩
 ·rw [Abg _ _ (by omega) (by omega)];simp only [obs];rw [S.specRows];simp only [obs];rw [g1];simp only [obs];rw [Aib _ _ (by omega)];simp only [obs];rw [g2];simp only [obs];rw [Akq _ _ hfl (fun h=>(S.rat S.hj).2.2.1 (List.mem_filter.1 h).1)];simp only [obs,Sum.elim_inr];rw [S.put_eq _ rfl,hspec];rfl
 ·rw [Ali (by omega)];simp only [obs];rw [Aiu _ _ (by simp [upV]; omega) (by omega),show (upV (M.length+C)).filter (fun q=> !P.any fun x=>x==q)=Ai (M.length+C) P from rfl];simp only [obs];rw [Yo _ (by omega),Yo _ (by omega)];simp only [obs];rw [g1,g2];simp only [obs];rw [S.exch,Int.toNat_natCast,Int.toNat_natCast];simp only [obs];have hs1:De (P.set i ((Ai (M.length+C) P).getD j 0))=some (Bb (P.set i ((Ai (M.length+C) P).getD j 0))):=by unfold De; rw [Ap (by omega)]
  have hs2:De ((Ai (M.length+C) P).set j (P.getD i 0))=some (Bb ((Ai (M.length+C) P).set j (P.getD i 0))):=by unfold De; rw [Ap (by omega)]
  rw [hs1,hs2];simp only [obs];rw [T9 _ _ (by omega) (by omega) (fun q hq=>El.1 hq),T9 _ _ (by omega) (by omega) (fun q hq=>El.1 hq)];simp only [obs];rw [S.implRows];rfl
 ·unfold exR at hx;obtain ⟨q,_,rfl⟩:=List.mem_map.1 hx;rw [List.length_map]; omega
theorem Ai9 {p:Int} {P:List Int} {c:Int} {M:List (List Int)} {a b:Int} (h3:P.length<=9223372036854775807) (h1:M.length<=9223372036854775807) (h2:G8 9223372036854775807 M):Bp p P c M a b=some true:=by
 unfold Bp;by_cases hq:1048576<((P.length:Nat):Int)
 ·rw [Bc hq,cond_true]
 rw [Be hq,cond_false,Acy c M (by omega) h1 h2,obs];by_cases hz:szW 1048576 M<0
 ·rw [Bc hz,cond_true]
 rw [Be hz,cond_false];obtain ⟨z1,z2,_⟩:=Ale (by omega) hz;obtain ⟨ok,ps,k,v,hs,hi,v0,v1,v2⟩:=Agq p P c M a b (by omega) (by omega) z2;obtain ⟨zs,b1,b2,b3⟩:=T4 P (v:=1) (by omega) (by omega);obtain ⟨ys,u,a1,a2,a3,a4,a5⟩:=P2 c M (v:=1+(P.length:Int)) (by omega) (by omega) z2;obtain ⟨zs2,d1,d2,d3⟩:=T4 ps (v:=1) (by omega) (by omega);obtain ⟨w,u2,c2,e2,m2,x2,k2⟩:=P2 (((k:Nat):Int)) v (v:=1+(ps.length:Int)) (by omega) v1 v2
 simp only [Ade c M (by omega) z2,Aa7 P (by omega),hs,hi,obs,U1 c M (by omega) z2,U1 _ v v1 v2,U8 P (by omega),U8 ps (by omega),bne_self_eq_false,Bool.not_true,cond_false,a3,Ap a4,b1,Ap b2,d1,Ap d2,d3,m2,Ap x2,k2,
  Be (show ¬ (u<0) by omega),Be (show ¬ (u2<0) by omega),Be (show ¬ (1+(ps.length:Int)<0) by omega)]
end
section
open Go.RowKit Go.Deep
theorem exchangePorts_walk (p:Int) (ports:List (Int)) (A_ports:Option Addr) (c_ports:Nat) (l_ports:List Addr) (mCols:Int) (mRows:List (List Int)) (A_mRows:Option Addr) (c_mRows:Nat) (l_mRows:List Addr) (i:Int) (j:Int) (w:World) (_i_p: -9223372036854775808<=p∧p<=9223372036854775807) (s_ports:Sl (fun _=>True) w .int A_ports c_ports ports l_ports) (_i_ports:Ty.In (.slice .int) ports) (_i_mCols: -9223372036854775808<=mCols∧mCols<=9223372036854775807) (s_mRows:Sl (fun _=>True) w (.slice .int) A_mRows c_mRows mRows l_mRows) (_i_mRows:Ty.In (.slice (.slice .int)) mRows) (_i_i: -9223372036854775808<=i∧i<=9223372036854775807) (_i_j: -9223372036854775808<=j∧j<=9223372036854775807) (tab:Tab w) :
  Calls Tryd.prog 4 #[.int .i64 p,.slice A_ports ports.length c_ports,.agg #[.int .i64 mCols,.slice A_mRows mRows.length c_mRows],.int .i64 i,.int .i64 j] w fun e w'=>e=.returned (.bool true)∧Below w.heap.size w w':=by
 have hl:Bp p ports mCols mRows i j=some true:=Ai9 (Adc s_ports).2 (Adc s_mRows).2 (Aji s_mRows);refine (H5 hl w (fun _=>True) [.int .i64 p,.slice A_ports ports.length c_ports,.agg #[.int .i64 mCols,.slice A_mRows mRows.length c_mRows],.int .i64 i,.int .i64 j] (fun w' hb=>tab.below hb) ⟨_,_,rfl,rfl,⟨_,_,rfl,⟨A_ports,c_ports,l_ports,rfl,s_ports⟩,⟨_,_,rfl,⟨_,rfl,⟨_,_,rfl,rfl,⟨_,_,rfl,⟨A_mRows,c_mRows,l_mRows,rfl,s_mRows⟩,rfl⟩⟩⟩,⟨_,_,rfl,rfl,⟨_,_,rfl,rfl,rfl⟩⟩⟩⟩⟩).mono ?_;rintro e w' ⟨u,rfl,hb,us,ls,h1,_,rfl⟩;obtain ⟨u1,us1,rfl,h2,_,rfl,rfl⟩:=h1;obtain rfl:u1=.bool true:=h2;exact ⟨rfl,hb⟩
end
end Go.Proofs.YtjnaikadmjocbaaDoor
