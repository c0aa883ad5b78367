/- Lemmas on the program and on partial functions that stand in place of its code (part 9); no condition beyond those that each one states. -/
import Derived.Test.YtkaollfdhoaihaaDoorZ8
import Derived.Deep.RegionHeld3
namespace Go.Proofs.YtkaollfdhoaihaaDoor
section
structure Sq (p:Int) (n m:Nat) (M:List (List Int)):Prop where
 len:M.length=n
 row:∀ r∈M,r.length=m∧∀ x∈r,0<=x∧x<p
theorem Sq.at {p:Int} {n m:Nat} {M:List (List Int)} (h:Sq p n m M) {i j:Int} (hi:0<=i∧i<n) (hj:0<=j∧j<m):∃ r x,Ex M i=some r∧Ex r j=some x∧(0<=x∧x<p)∧∀ y,(0<=y∧y<p)->Sq p n m (M.set i.toNat (r.set j.toNat y)):=by
 have h1:i.toNat<M.length:=by rw [h.len]; omega
 obtain ⟨r1,r2⟩:=h.row _ (List.getElem_mem h1);have h2:j.toNat<(M[i.toNat]).length:=by rw [r1]; omega
 refine ⟨M[i.toNat],(M[i.toNat])[j.toNat],by rw [C5 hi.1]; exact gEg h1,by rw [C5 hj.1]; exact gEg h2,r2 _ (List.getElem_mem h2),fun y hy=>⟨by rw [List.length_set,h.len],fun r hr=>?_⟩⟩;rcases List.mem_or_eq_of_mem_set hr with hr | rfl
 ·exact h.row r hr
 ·refine ⟨by rw [List.length_set,r1],fun x hx=>?_⟩;rcases List.mem_or_eq_of_mem_set hx with hx | rfl
  ·exact r2 x hx
  ·exact hy
theorem Sq.zero {p:Int} (hp:0<p) (n m:Nat):Sq p n m (List.replicate n (List.replicate m 0)) :=
 ⟨by simp,fun r hr=>by
  obtain rfl:=(List.mem_replicate.1 hr).2;exact ⟨by simp,fun x hx=>by obtain rfl:=(List.mem_replicate.1 hx).2; omega⟩⟩
theorem Z9 {n m:Int} (hn:0<=n∧n<=1000) (hm:0<=m∧m<=1000):Fl n m=some (List.replicate n.toNat (List.replicate m.toNat 0)):=by
 unfold Fl;rw [Ak (by omega)]
 have h:Av (fun s_:Nat×List (List Int)=>Ga n m s_.1 s_.2) 4611686018427387904 (0,List.replicate n.toNat ([]:List Int))=some (List.replicate n.toNat (List.replicate m.toNat 0)):=by
  refine Bg n.toNat (fun i=>(i,(List.replicate n.toNat (List.replicate m.toNat (0:Int))).take i++List.replicate ((List.replicate n.toNat (List.replicate m.toNat (0:Int))).length - i) [])) (by omega) _ (by simp) (fun i hi=>?_) ?_
  ·have hx:(List.replicate n.toNat (List.replicate m.toNat (0:Int)))[i]? =some (List.replicate m.toNat 0):=by simp [List.getElem?_replicate,hi]
   try dsimp only
   unfold Ga;rw [Be (by omega),cond_true,Ak (by omega),Ol (by simpa using hi),obs,Ak (by omega),Pd hx]
  ·try dsimp only
   unfold Ga;rw [Bf (by omega),cond_false];simp
 rw [h]; rfl
end
section
def Va (p nodes:Int) (e:Int×Int×Int):Bool:=inR e.1 0 (nodes - 1)&&(inR e.2.1 0 (nodes - 1)&&(e.1 !=e.2.1&&inR e.2.2 1 (p - 1)))
def Abl (p n:Int) (bs:List (Int×Int×Int)) (l r:List Int):Bool :=
 isF p&&(inR n 1 20&&(decide (bs.length<=60)&&(decide (l.length<=6)&&(decide (r.length<=6)&&((l.all fun x=>inR x 0 (n - 1))&&((r.all fun x=>inR x 0 (n - 1))&&bs.all (Va p n)))))))
structure Alw (p n:Int) (bs:List (Int×Int×Int)) (l r:List Int):Prop where
 fp:isF p=true
 n1:1<=n
 n2:n<=20
 lb:bs.length<=60
 ll:l.length<=6
 lr:r.length<=6
 il:∀ x∈l,0<=x∧x<n
 ir:∀ x∈r,0<=x∧x<n
 ib:∀ e∈bs,(0<=e.1∧e.1<n)∧(0<=e.2.1∧e.2.1<n)∧e.1≠e.2.1∧1<=e.2.2∧e.2.2<p
theorem Am3 {p n:Int} {bs:List (Int×Int×Int)} {l r:List Int}:Abl p n bs l r=true↔Alw p n bs l r:=by
 simp only [Abl,Va,Bool.and_eq_true,decide_eq_true_eq,List.all_eq_true,O8,bne_iff_ne,ne_eq];constructor
 ·rintro ⟨h1,⟨h2,h3⟩,h4,h5,h6,h7,h8,h9⟩;refine ⟨h1,h2,h3,h4,h5,h6,fun x hx=>?_,fun x hx=>?_,fun e he=>?_⟩
  ·have:=h7 x hx; omega
  ·have:=h8 x hx; omega
  ·obtain ⟨a,b,c,d⟩:=h9 e he;exact ⟨by omega,by omega,c,by omega⟩
 ·intro h;refine ⟨h.fp,⟨h.n1,h.n2⟩,h.lb,h.ll,h.lr,fun x hx=>?_,fun x hx=>?_,fun e he=>?_⟩
  ·have:=h.il x hx; omega
  ·have:=h.ir x hx; omega
  ·obtain ⟨a,b,c,d⟩:=h.ib e he;exact ⟨by omega,by omega,c,by omega⟩
theorem Ald (a b g p n:Int) (hp:2<=p∧p<=97) (hn:1<=n∧n<=20):De a b g p n=some (Va p n (a,b,g)):=by
 unfold De Va;rw [Bo (by omega) (by omega),Bo (by omega) (by omega),Rm,Rm,Rm];simp only [obs];cases inR a 0 (n - 1) <;> cases inR b 0 (n - 1) <;> cases a !=b <;> rfl
theorem Ajo (p n:Int) (bs xs:List (Int×Int×Int)) (l r:List Int) (hp:2<=p∧p<=97) (hn:1<=n∧n<=20) (hx:xs.length<=1099511627776) :
  A1 xs p n bs l r=some (xs.any fun e=> !Va p n e):=by
 unfold A1 Bb
 have:=Ano (body:=fun s_:Nat=>A2 xs p n bs l r s_) xs (fun e=> !Va p n e) (.next ()) (fun i=>.out (i:Int)) (F:=4611686018427387904) (by omega) (fun i x h=>by
   have:=Al h;unfold A2 Gw;rw [Be (by omega),cond_true,h,obs,Ald _ _ _ _ _ hp hn,obs,obs,Ak (by omega)];cases Va p n x <;> rfl) (by
   unfold A2;rw [Bf (by omega),cond_false])
 rcases this with ⟨h1,i,hi,h2⟩ | ⟨h1,h2⟩
 ·rw [h2,h1];show some (decide (0<=(i:Int)))=_;rw [Be (by omega)]
 ·rw [h2,h1]; rfl
theorem Aix (p n:Int) (bs:List (Int×Int×Int)) (l r:List Int) (hb:bs.length<=1099511627776) (hl:l.length<=1099511627776) (hr:r.length<=1099511627776):Gd p n bs l r=some (Abl p n bs l r):=by
 unfold Gd Ma Abl;rw [obs,Rm];cases hp:isF p
 ·rfl
 cases hn:inR n 1 20
 ·rfl
 have hp':=Gs hp;have hn':=O8.1 hn;simp only [obs,Bool.not_true,cond_false,Bool.true_and];rw [Aad l n (by omega) hl,Aad r n (by omega) hr,Ajo p n bs bs l r hp' hn' hb];by_cases h1:bs.length<=60
 rotate_left
 ·rw [Be (by omega),Bf h1]; rfl
 rw [Bf (by omega),Be h1];by_cases h2:l.length<=6
 rotate_left
 ·rw [Be (by omega),Bf h2]; rfl
 rw [Bf (by omega),Be h2];by_cases h3:r.length<=6
 rotate_left
 ·rw [Be (by omega),Bf h3]; rfl
 rw [Bf (by omega),Be h3];simp only [obs,cond_false,Bool.true_and,Aqp];cases l.all fun x=>inR x 0 (n - 1)
 ·rfl
 cases r.all fun x=>inR x 0 (n - 1) <;> rfl
theorem Aos (p n:Int) (bs:List (Int×Int×Int)) (l r:List Int) (hb:bs.length<=1099511627776) (hl:l.length<=1099511627776) (hr:r.length<=1099511627776):I7 p n bs l r=some (Abl p n bs l r):=by
 unfold I7 Abl;rw [Aph,obs,Xk];cases hp:isF p
 ·rfl
 cases hn:inR n 1 20
 ·rfl
 have hp':=Gs hp;have hn':=O8.1 hn;simp only [obs,Bool.not_true,cond_false,Bool.true_and];rw [Bo (by omega) (by omega),Zr l _ _ hl,Zr r _ _ hr];by_cases h1:bs.length<=60
 rotate_left
 ·rw [Be (by omega),Bf h1]; rfl
 rw [Bf (by omega),Be h1];by_cases h2:l.length<=6
 rotate_left
 ·rw [Be (by omega),Bf h2]; rfl
 rw [Bf (by omega),Be h2];by_cases h3:r.length<=6
 rotate_left
 ·rw [Be (by omega),Bf h3]; rfl
 rw [Bf (by omega),Be h3];simp only [obs,cond_false,Bool.true_and];cases l.all fun x=>inR x 0 (n - 1)
 ·rfl
 cases r.all fun x=>inR x 0 (n - 1)
 ·rfl
 simp only [Bool.not_true,cond_false,obs,Bool.true_and];rw [Sh bs (Va p n) (.next ()) (.out false) (by omega) (fun i x h=>?_) ?_,V3]
 ·unfold Ii;rw [Bf (by omega),cond_false]
 ·have:=Al h;unfold Ii Va;rw [Be (by omega),cond_true,h,obs,Bo (by omega) (by omega),Bo (by omega) (by omega),Xk,Xk,Xk,Ak (by omega)];simp only [obs];cases inR x.1 0 (n - 1)
  ·rfl
  cases inR x.2.1 0 (n - 1)
  ·rfl
  rw [bne];cases x.1==x.2.1
  ·cases inR x.2.2 1 (p - 1) <;> rfl
  ·rfl
end
section
theorem Al7 {p x:Int} (hp:2<=p∧p<=97):0<=x % p∧x % p<p:=⟨Int.emod_nonneg x (by omega),Int.emod_lt_of_pos x (by omega)⟩
theorem Aql {n:Int} (hn:0<=n∧n<=1000):Av (fun s_:Nat×List (List Int)=>Cf n s_.1 s_.2) 4611686018427387904 (0,List.replicate n.toNat ([]:List Int))=some (List.replicate n.toNat (List.replicate n.toNat 0)):=by
 refine Bg n.toNat (fun i=>(i,(List.replicate n.toNat (List.replicate n.toNat (0:Int))).take i++List.replicate ((List.replicate n.toNat (List.replicate n.toNat (0:Int))).length - i) [])) (by omega) _ (by simp) (fun i hi=>?_) ?_
 ·have hx:(List.replicate n.toNat (List.replicate n.toNat (0:Int)))[i]? =some (List.replicate n.toNat 0):=by simp [List.getElem?_replicate,hi]
  try dsimp only
  unfold Cf;rw [Be (by omega),cond_true,Zt (by omega),obs,Ol (by simpa using hi),obs,Ak (by omega),Pd hx]
 ·try dsimp only
  unfold Cf;rw [Bf (by omega),cond_false];simp
theorem Ana {p n:Int} {bs:List (Int×Int×Int)} {l r:List Int} (h:Alw p n bs l r):∃ M,E0 p n bs l r=some M∧Cs n bs l r p=some M∧Sq p n.toNat n.toNat M:=by
 have hp:=Gs h.fp;have n1:=h.n1;have n2:=h.n2;have lb:=h.lb;have key:=Aku (b1:=fun s_:Nat×List (List Int)=>Dk bs p s_.1 s_.2) (b2:=fun s_:Nat×List (List Int)=>Ce bs p s_.1 s_.2) (Post:=fun M=>Sq p n.toNat n.toNat M) bs.length (fun i s=>s.1=i∧Sq p n.toNat n.toNat s.2) (F:=4611686018427387904) (by omega) (s0:=(0,List.replicate n.toNat (List.replicate n.toNat 0))) ⟨rfl,Sq.zero (by omega) _ _⟩ (fun i s hi hI=>.inl ?_) (fun s hI=>?_)
 ·obtain ⟨M,k1,k2,k3⟩:=key;refine ⟨M,?_,?_,k3⟩
  ·unfold E0;rw [Z9 (by omega) (by omega),obs,k1]; rfl
  ·unfold Cs;rw [Ak (by omega),Aql (by omega),obs,k2]; rfl
 ·obtain ⟨s1,M⟩:=s;obtain ⟨rfl,hM⟩:=hI;have hx:=gEg hi;obtain ⟨h1,h2,_,h3⟩:=h.ib _ (List.getElem_mem hi);generalize bs[s1]=e at hx h1 h2 h3;have ha:0<=e.1∧e.1<(n.toNat:Int):=by omega
  have hb:0<=e.2.1∧e.2.1<(n.toNat:Int):=by omega
  obtain ⟨r1,x1,g1,f1,q1,w1⟩:=hM.at ha ha;have W1:=w1 ((x1+e.2.2) % p) (Al7 hp);obtain ⟨r2,x2,g2,f2,q2,w2⟩:=W1.at hb hb;have W2:=w2 ((x2+e.2.2) % p) (Al7 hp);obtain ⟨r3,x3,g3,f3,q3,w3⟩:=W2.at ha hb;have W3:=w3 ((x3 - e.2.2) % p) (Al7 hp);obtain ⟨r4,x4,g4,f4,q4,w4⟩:=W3.at hb ha;have W4:=w4 ((x4 - e.2.2) % p) (Al7 hp);refine ⟨(s1+1,_),?_,?_,rfl,W4⟩
  ·try dsimp only
   unfold Dk
   rw [Be (by omega),cond_true,hx,obs,g1,obs,f1,obs,Ali hp q1 (by omega),obs,g2,obs,f2,obs,Ali hp q2 (by omega),obs,
    g3,obs,f3,obs,Zq hp q3 (by omega),obs,g4,obs,f4,obs,Zq hp q4 (by omega),obs,Ak (by omega)]
  ·try dsimp only
   unfold Ce
   rw [Be (by omega),cond_true,hx,obs,g1,obs,f1,obs,Bo (by omega) (by omega),Ab9 hp,obs,g2,obs,f2,obs,Bo (by omega) (by omega),Ab9 hp,obs,
    g3,obs,f3,obs,Bo (by omega) (by omega),Ab9 hp,obs,g4,obs,f4,obs,Bo (by omega) (by omega),Ab9 hp,obs,Ak (by omega)]
 ·obtain ⟨s1,M⟩:=s;obtain ⟨hs,hM⟩:=hI;have hs:s1=bs.length:=hs;subst hs;refine ⟨M,?_,?_,hM⟩
  ·try dsimp only
   unfold Dk;rw [Bf (by omega),cond_false]
  ·try dsimp only
   unfold Ce;rw [Bf (by omega),cond_false]
end
section
def Dt (l:List Int) (k:Nat) (a:Int):List Int:=l.map fun t=>if t=(k:Int) then a else 0
def Acc (p:Int) (l r:List Int) (k:Nat) (row:List Int):List Int:=row++Dt l k (p - 1)++Dt r k 1
def Gx (p:Int) (M:List (List Int)) (l r:List Int):List (List Int):=M.mapIdx (Acc p l r)
def Jn (a k:Nat):List Int:=(List.range k).map fun i:Nat=>(a:Int)+(i:Int)
def Dq (n:Nat) (l r:List Int):List Int:=l++Jn n l.length++r++Jn (n+l.length) r.length
section
variable {p:Int} {n:Nat} {M:List (List Int)} {l r:List Int}
theorem I0 {k:Nat} {a:Int}:(Dt l k a).length=l.length:=List.length_map ..
theorem Alv {k:Nat} {a:Int} (ha:0<=a∧a<p):inV p (Dt l k a):=fun b hb=>by
 obtain ⟨t,_,rfl⟩:=List.mem_map.1 hb;split <;> omega
theorem Aq2 {k:Nat} {row:List Int} (hp:2<=p) (hr:VecW p n row):VecW p (n+l.length+r.length) (Acc p l r k row):=by
 refine ⟨by simp [Acc,I0,hr.1]; omega,fun a ha=>?_⟩;rcases List.mem_append.1 ha with ha | ha
 ·rcases List.mem_append.1 ha with ha | ha
  ·exact hr.2 a ha
  ·exact Alv (by omega) a ha
 ·exact Alv (by omega) a ha
theorem Ag2 (hp:2<=p) (hM:MatW p n M):MatW p (n+l.length+r.length) (Gx p M l r):=fun x hx=>by
 obtain ⟨i,hi,rfl⟩:=List.mem_mapIdx.1 hx;exact Aq2 hp (hM _ (List.getElem_mem hi))
theorem Zy:(Gx p M l r).length=M.length:=by simp [Gx]
theorem Al4 {k:Nat} {row:List Int} (h:M[k]? =some row):(Gx p M l r)[k]? =some (Acc p l r k row):=by
 unfold Gx;rw [List.getElem?_mapIdx,h]; rfl
theorem X3 {k i:Nat} {a:Int} (hi:i<l.length):Dt (l.take (i+1)) k a=Dt (l.take i) k a++[if l[i]=(k:Int) then a else 0]:=by
 unfold Dt;rw [List.take_add_one,gEg hi,List.map_append]; rfl
theorem Asa (hp:2<=p∧p<=97) {k:Nat} {row:List Int} (hrow:row.length<=1000) (hl:l.length<=100) (hr:r.length<=100) :
  Av (fun s_:Nat×List Int=>El l k p s_.1 s_.2) 4611686018427387904 (0,row)=some (row++Dt l k (p - 1)) ∧
  Av (fun s_:Nat×List Int=>Ev r k s_.1 s_.2) 4611686018427387904 (0,row++Dt l k (p - 1))=some (Acc p l r k row):=by
 constructor
 ·refine Bg l.length (fun i=>(i,row++Dt (l.take i) k (p - 1))) (by omega) _ (by simp [Dt]) (fun i hi=>?_) ?_
  ·have hle:(row++Dt (l.take i) k (p - 1)).length<=1100:=by rw [List.length_append,I0,List.length_take]; omega
   try dsimp only
   unfold El;rw [Be (by omega),cond_true,gEg hi,obs,X3 hi,Bo (n:=p - 1) (by omega) (by omega)];by_cases e:l[i]=(k:Int)
   ·rw [beq_iff_eq.2 e,cond_true,Ak (by omega),obs,Ak (by omega),if_pos e,List.append_assoc]
   ·rw [beq_eq_false_iff_ne.2 e,cond_false,Ak (by omega),obs,Ak (by omega),if_neg e,List.append_assoc]
  ·try dsimp only
   unfold El;rw [Bf (by omega),cond_false,List.take_length]
 ·refine Bg r.length (fun i=>(i,(row++Dt l k (p - 1))++Dt (r.take i) k 1)) (by omega) _ (by simp [Dt]) (fun i hi=>?_) ?_
  ·have hle:((row++Dt l k (p - 1))++Dt (r.take i) k 1).length<=1200:=by rw [List.length_append,List.length_append,I0,I0,List.length_take]; omega
   try dsimp only
   unfold Ev;rw [Be (by omega),cond_true,gEg hi,obs,X3 hi];by_cases e:r[i]=(k:Int)
   ·rw [beq_iff_eq.2 e,cond_true,Ak (by omega),obs,Ak (by omega),if_pos e,List.append_assoc (row++Dt l k (p - 1))]
   ·rw [beq_eq_false_iff_ne.2 e,cond_false,Ak (by omega),obs,Ak (by omega),if_neg e,List.append_assoc (row++Dt l k (p - 1))]
  ·try dsimp only
   unfold Ev;rw [Bf (by omega),cond_false,List.take_length]; rfl
theorem Aon (hp:2<=p∧p<=97) (hM:MatW p n M) (hn:n<=100) (hm:M.length<=100) (hl:l.length<=100) (hr:r.length<=100) :
  Av (fun s_:Nat×List (List Int)=>Em M l p r s_.1 s_.2) 4611686018427387904 (0,[])=some (Gx p M l r):=by
 refine Bg M.length (fun i=>(i,(Gx p M l r).take i)) (by omega) _ (by simp) (fun i hi=>?_) ?_
 ·have hg:=gEg hi;have hx:=(hM _ (List.getElem_mem hi)).1;obtain ⟨q1,q2⟩:=Asa (k:=i) (l:=l) (r:=r) hp (row:=M[i]) (by omega) hl hr
  try dsimp only
  unfold Em;rw [Be (by omega),cond_true,hg,obs,Sd _ (by omega),obs,q1,obs,q2,obs,Ak (by rw [List.length_take]; omega),obs,Ak (by omega),List.take_add_one,Al4 hg]; rfl
 ·try dsimp only
  unfold Em;rw [Bf (by omega),cond_false,List.take_of_length_le (by rw [Zy]; exact Nat.le_refl _)]
theorem Ad6 (a b:List Int) (ha:a.length<=1000) (hb:b.length<=1000):Ef [a,b]=some (a++b):=by
 unfold Ef
 have h:Av (fun s_:Nat×List Int=>Ej [a,b] s_.1 s_.2) 4611686018427387904 (0,[])=some (a++b):=by
  refine Bg 2 (fun i=>(i,([a,b].take i).flatten)) (by omega) _ rfl (fun i hi=>?_) ?_
  ·match i,hi with
   | 0,_ =>
    try dsimp only
    unfold Ej;rw [Be (by simp),cond_true,show ([a,b]:List (List Int))[0]? =some a from rfl,obs,Ak (by simp; omega),Ak (by omega)]; simp
   | 1,_ =>
    try dsimp only
    unfold Ej;rw [Be (by simp),cond_true,show ([a,b]:List (List Int))[1]? =some b from rfl,obs,Ak (by simp; omega),Ak (by omega)]; simp
  ·try dsimp only
   unfold Ej;rw [Bf (by simp),cond_false]; simp
 rw [h,obs]
theorem Aqf {body:Nat×List Int->Option (Ctl (Nat×List Int) (List Int))} {k:Nat} {a:Int} (pre post:List Int) (hl:l.length<=1000)
  (hs:∀ i (h:i<l.length) (z:List Int),z.length=pre.length+l.length+post.length->body (i,z)=some (.next (i+1,if l[i]=(k:Int) then z.set (pre.length+i) a else z)))
  (he:∀ z,body (l.length,z)=some (.out z)):Av body 4611686018427387904 (0,pre++List.replicate l.length 0++post)=some (pre++Dt l k a++post):=by
 refine Bg l.length (fun i=>(i,pre++(Dt (l.take i) k a++List.replicate (l.length - i) 0)++post)) (by omega) _ (by simp [Dt]) (fun i hi=>?_) ?_
 ·have hel:(Dt (l.take i) k a).length=i:=by rw [I0,List.length_take]; omega
  rw [hs i hi _ (by simp [I0]; omega),X3 hi];have er:List.replicate (l.length - i) (0:Int)=0 :: List.replicate (l.length - (i+1)) 0:=by rw [show l.length - i=(l.length - (i+1))+1 by omega,List.replicate_succ]
  congr 3;by_cases e:l[i]=(k:Int)
  ·rw [if_pos e,if_pos e,er,List.append_assoc,List.set_append_right _ _ (by omega),Nat.add_sub_cancel_left,List.append_assoc,List.set_append_right _ _ (by omega),hel,Nat.sub_self];simp
  ·rw [if_neg e,if_neg e,er]; simp
 ·rw [he,List.take_length,Nat.sub_self]; simp
theorem Ajx (hp:2<=p∧p<=97) (hM:MatW p n M) (hn:n<=100) (hm:M.length<=100) (hl:l.length<=100) (hr:r.length<=100) :
  Av (fun s_:Nat×List (List Int)=>Ck M l r (n:Int) p s_.1 s_.2) 4611686018427387904 (0,[])=some (Gx p M l r):=by
 refine Bg M.length (fun i=>(i,(Gx p M l r).take i)) (by omega) _ (by simp) (fun i hi=>?_) ?_
 ·have hg:=gEg hi;have hx:=(hM _ (List.getElem_mem hi)).1
  have q1:Av (fun s_:Nat×List Int=>B4 l i (n:Int) p s_.1 s_.2) 4611686018427387904 (0,M[i]++List.replicate (l.length+r.length) 0)=some (M[i]++Dt l i (p - 1)++List.replicate r.length 0):=by
   have h:=Aqf (l:=l) (k:=i) (a:=p - 1) (body:=fun s_:Nat×List Int=>B4 l i (n:Int) p s_.1 s_.2) M[i] (List.replicate r.length 0) (by omega) (fun j hj z hz=>?_) (fun z=>?_)
   ·rwa [List.append_assoc M[i] (List.replicate l.length 0),List.replicate_append_replicate] at h
   ·try dsimp only
    unfold B4;rw [Be (by omega),cond_true,gEg hj,obs];by_cases e:l[j]=(i:Int)
    ·have hz':Ex z ((n:Int)+(j:Int))=some (z[n+j]'(by simp at hz; omega)):=by rw [C5 (by omega),show ((n:Int)+(j:Int)).toNat=n+j by omega,gEg (by simp at hz; omega)]
     rw [beq_iff_eq.2 e,cond_true,Bo (n:=(n:Int)+(j:Int)) (by omega) (by omega),hz',obs,obs,Bo (n:=p - 1) (by omega) (by omega),show ((n:Int)+(j:Int)).toNat=n+j by omega,obs,Ak (by omega),if_pos e,hx]
    ·rw [beq_eq_false_iff_ne.2 e,cond_false,obs,Ak (by omega),if_neg e]
   ·try dsimp only
    unfold B4;rw [Bf (by omega),cond_false]
  have q2:Av (fun s_:Nat×List Int=>B1 r i (n:Int) l s_.1 s_.2) 4611686018427387904 (0,M[i]++Dt l i (p - 1)++List.replicate r.length 0)=some (Acc p l r i M[i]):=by
   have h:=Aqf (l:=r) (k:=i) (a:=1) (body:=fun s_:Nat×List Int=>B1 r i (n:Int) l s_.1 s_.2) (M[i]++Dt l i (p - 1)) [] (by omega) (fun j hj z hz=>?_) (fun z=>?_)
   ·rwa [List.append_nil,List.append_nil] at h
   ·have hz0:z.length=n+l.length+r.length:=by simp [I0] at hz; omega
    try dsimp only
    unfold B1;rw [Be (by omega),cond_true,gEg hj,obs];by_cases e:r[j]=(i:Int)
    ·have hz':Ex z ((n:Int)+(l.length:Int)+(j:Int))=some (z[n+l.length+j]'(by omega)):=by rw [C5 (by omega),show ((n:Int)+(l.length:Int)+(j:Int)).toNat=n+l.length+j by omega,gEg (by omega)]
     rw [beq_iff_eq.2 e,cond_true,Bo (n:=(n:Int)+((l.length:Nat):Int)) (by omega) (by omega),Bo (n:=(n:Int)+(l.length:Int)+(j:Int)) (by omega) (by omega),hz',obs,obs,show ((n:Int)+(l.length:Int)+(j:Int)).toNat=n+l.length+j by omega,obs,Ak (by omega),if_pos e,List.length_append,I0,hx]
    ·rw [beq_eq_false_iff_ne.2 e,cond_false,obs,Ak (by omega),if_neg e]
   ·try dsimp only
    unfold B1;rw [Bf (by omega),cond_false]
  try dsimp only
  unfold Ck
  rw [Be (by omega),cond_true,hg,obs,Bo (n:=((l.length:Nat):Int)+((r.length:Nat):Int)) (by omega) (by omega),Zt (by omega),obs,show (((l.length:Nat):Int)+((r.length:Nat):Int)).toNat=l.length+r.length by omega,
   Ad6 _ _ (by omega) (by simp; omega),obs,q1,obs,q2,obs,Ak (by rw [List.length_take]; omega),obs,Ak (by omega),List.take_add_one,Al4 hg]; rfl
 ·try dsimp only
  unfold Ck;rw [Bf (by omega),cond_false,List.take_of_length_le (by rw [Zy]; exact Nat.le_refl _)]
theorem Sq.mat {N:List (List Int)} {a b:Nat} (h:Sq p a b N):MatW p b N:=fun x hx=>⟨(h.row x hx).1,fun y hy=>(h.row x hx).2 y hy⟩
theorem Aoc {nn:Int} {bs:List (Int×Int×Int)} (G:Alw p nn bs l r):∃ M,MatW p nn.toNat M∧M.length=nn.toNat∧B0 nn bs l r p=some (Gx p M l r) ∧
  E7 p nn bs l r=some (Mc p (nn.toNat+l.length+r.length) (Gx p M l r)):=by
 have hp:=Gs G.fp;have n1:=G.n1;have n2:=G.n2;have hll:=G.ll;have hlr:=G.lr;obtain ⟨M,m1,m2,m3⟩:=Ana G;obtain ⟨n,rfl⟩:=Int.eq_ofNat_of_zero_le (show 0<=nn by omega);rw [Int.toNat_natCast] at m3 ⊢;have hM:=m3.mat;have hMl:=m3.len;refine ⟨M,hM,hMl,?_,?_⟩
 ·unfold B0;rw [m2,obs,Ajx hp hM (by omega) (by omega) (by omega) (by omega),obs]
 ·unfold E7
  rw [m1,obs,Aon hp hM (by omega) (by omega) (by omega) (by omega),obs,Bo (n:=(n:Int)+((l.length:Nat):Int)) (by omega) (by omega),Bo (by omega) (by omega),
   show (n:Int)+((l.length:Nat):Int)+((r.length:Nat):Int)=((n+l.length+r.length:Nat):Int) by omega,Aid G.fp (Ag2 hp.1 hM) (by omega) (by rw [Zy]; omega),obs]
theorem Ad9 {v:List Int} {a k:Nat} (h:a+k<=v.length):Ca (Jn a k) v=(v.drop a).take k:=by
 apply List.ext_getElem
 ·simp [Ca,Jn]; omega
 ·intro i h1 h2;simp only [Ca,Jn,List.getElem_map,List.getElem_range,List.getElem_take,List.getElem_drop];rw [show ((a:Int)+(i:Int)).toNat=a+i by omega];exact A3 (gEg (by simp at h2; omega))
theorem Aof {nn:Int} {bs:List (Int×Int×Int)} {v:List Int} (h1:1<=nn∧nn<=20) (hll:l.length<=6) (hlr:r.length<=6) (il:∀ x∈l,0<=x∧x<nn) (ir:∀ x∈r,0<=x∧x<nn) (hv:v.length=nn.toNat+l.length+r.length) :
  I5 nn bs l r v=some (Ca (Dq nn.toNat l r) v):=by
 obtain ⟨n,rfl⟩:=Int.eq_ofNat_of_zero_le (show 0<=nn by omega);rw [Int.toNat_natCast] at hv ⊢;have c1:(Ca l v).length=l.length:=List.length_map ..;have c2:(Ca r v).length=r.length:=List.length_map ..;unfold I5
 rw [Aei hv (fun q hq=>by have:=il q hq; omega) (by omega),obs,Bo (n:=(n:Int)+((l.length:Nat):Int)) (by omega) (by omega),show ((n:Int)+((l.length:Nat):Int)).toNat=n+l.length by omega,Int.toNat_natCast,
  Ak (by omega),Ak (by simp; omega),Aei hv (fun q hq=>by have:=ir q hq; omega) (by omega),obs,Ak (by simp; omega),Ak (by omega),Ak (by simp; omega)]
 unfold Dq;rw [Abe,Abe,Abe,Ad9 (by omega),Ad9 (by omega)];congr 2
 ·congr 2;rw [List.take_drop]
 ·exact (List.take_of_length_le (by simp; omega)).symm
theorem Arx {nn:Int} (h1:1<=nn) (il:∀ x∈l,0<=x∧x<nn) (ir:∀ x∈r,0<=x∧x<nn):InO (nn.toNat+l.length+r.length) (Dq nn.toNat l r):=by
 intro q hq;unfold Dq Jn at hq;simp only [List.mem_append,List.mem_map,List.mem_range] at hq;rcases hq with ((h | ⟨a,ha,rfl⟩) | h) | ⟨a,ha,rfl⟩
 ·have:=il q h; omega
 ·omega
 ·have:=ir q h; omega
 ·omega
theorem An7 {n:Nat}:(Dq n l r).length=2*l.length+2*r.length:=by simp [Dq,Jn]; omega
end
end
section
def L4 (p:Int) (n:Nat) (E:List (List Int)) (f:Nat->Int):Prop:=∀ i,i<E.length->Cg p (sm n fun j=>en E i j*f j) (en E i n)
section
variable {p:Int} {n:Nat} {m E R F:List (List Int)} {f g u v:Nat->Int}
theorem Ao6:∀ {k:Nat},sm k (fun i=>f i - g i)=sm k f - sm k g
 | 0=>rfl
 | k+1=>by unfold sm; rw [Ao6]; (try dsimp only); omega
theorem Acj:∀ {k:Nat},sm (k+1) f=f 0+sm k (fun i=>f (i+1))
 | 0=>by simp [sm]
 | k+1=>by
  rw [show sm (k+1+1) f=sm (k+1) f+f (k+1) from rfl,Acj (k:=k),show sm (k+1) (fun i=>f (i+1))=sm k (fun i=>f (i+1))+f (k+1) from rfl];omega
theorem Aoq:∀ {k:Nat},sm k f=sm k (fun i=>f (k - 1 - i))
 | 0=>rfl
 | k+1=>by
  rw [show sm (k+1) f=sm k f+f k from rfl,Acj (f:=fun i=>f (k+1 - 1 - i)),Aoq (k:=k)];rw [G3 (k:=k) (f:=fun i=>f (k - 1 - i)) (g:=fun i=>f (k+1 - 1 - (i+1))) fun i hi=>by simp only [show k - 1 - i=k+1 - 1 - (i+1) by omega]];simp only [Nat.add_sub_cancel,Nat.sub_zero];omega
theorem Ame {F:Nat->Nat->Int} {b:Nat}:∀ {a:Nat},sm a (fun i=>sm b fun j=>F i j)=sm b fun j=>sm a fun i=>F i j
 | 0=>(Je fun _ _=>rfl).symm
 | a+1=>by
  show sm a _+sm b _=_;rw [Ame,← N1]; rfl
theorem Arl (hu:L4 p n E u) (hv:L4 p n E v):C8 p n E (fun j=>u j - v j):=fun i hi=>by
 refine (Cg.of ?_).trans (((hu i hi).sub (hv i hi)).trans (Cg.of (by omega)));rw [G3 (g:=fun j=>en E i j*u j - en E i j*v j) fun j _=>by grind,Ao6]
theorem Asg (hu:L4 p n E u) (hh:C8 p n E g):L4 p n E (fun j=>u j+g j):=fun i hi=>by
 refine (Cg.of ?_).trans (((hu i hi).add (hh i hi)).trans (Cg.of (by omega)));rw [G3 (g:=fun j=>en E i j*u j+en E i j*g j) fun j _=>by grind,N1]
theorem Akt (hu:L4 p n E u) (h:∀ j,j<n->Cg p (v j) (u j)):L4 p n E v:=fun i hi=>(Jb fun j hj=>Cg.rf.mul (h j hj)).trans (hu i hi)
theorem Ap5 {pv:Nat->Nat} (hF:K9 n F.length F pv) (hs:∀ f,C8 p n E f->Cy p n F f) (hu:L4 p n E u) (hv:L4 p n E v) (h1:∀ t,t<F.length->Cg p (u (pv t)) 0) (h2:∀ t,t<F.length->Cg p (v (pv t)) 0):∀ j,j<n->Cg p (u j) (v j):=by
 intro j hj;have h:=Ag1 hF (hs _ (Arl hu hv)) j hj;have h0:Cg p (u j - v j) 0:=h.trans ((Jb (g:=fun _=>0) fun t ht=>?_).trans (Cg.of (Je fun _ _=>rfl)))
 ·have:=h0.add (Cg.rf (a:=v j));exact (Cg.of (by omega)).trans (this.trans (Cg.of (by omega)))
 ·exact (((h1 t ht).sub (h2 t ht)).mul Cg.rf).trans (Cg.of (by omega))
def Lb (p:Int) (R:List (List Int)) (x:List Int):Nat->List Int
 | 0=>x
 | i+1=>C0 p ((Lb p R x i).getD (lv R i) 0) (Lb p R x i) (R.getD i [])
theorem Pv {x:List Int} (hp:2<=p) (hR:MatW p n R) (hx:VecW p n x):∀ i,i<=R.length->VecW p n (Lb p R x i)
 | 0,_=>hx
 | i+1,hi=>Pm hp (Pv hp hR hx i (by omega)).1 (hR _ (Dd (by omega))).1
theorem Xz {x:List Int} (hp:2<=p) (hR:MatW p n R) (hx:VecW p n x) (h:K9 n R.length R (lv R)):∀ i,i<=R.length->∀ j,j<n->Cg p ((Lb p R x i).getD j 0) (x.getD j 0 - sm i fun t=>x.getD (lv R t) 0*en R t j)
 | 0,_,j,_=>Cg.of (by show _=_ - 0; rw [Int.sub_zero]; rfl)
 | i+1,hi,j,hj=>by
  have ih:=Xz hp hR hx h i (by omega)
  have hk:Cg p ((Lb p R x i).getD (lv R i) 0) (x.getD (lv R i) 0):=by
   refine (ih _ (h.lt i (by omega))).trans (Cg.of ?_);rw [Je fun t ht=>by rw [h.zero i (by omega) t (by omega)]; omega];omega
  show Cg p ((C0 p _ _ _).getD j 0) _;rw [Wr (by rw [(Pv hp hR hx i (by omega)).1,(hR _ (Dd (show i<R.length by omega))).1])];refine Cg.md.trans (((ih j hj).sub (hk.mul Cg.rf)).trans (Cg.of ?_));show _=x.getD j 0 - (sm i _+x.getD (lv R i) 0*en R i j);unfold en;omega
theorem Aoj {x:List Int} (hp:2<=p) (hR:MatW p n R) (hx:VecW p n x) (h:K9 n R.length R (lv R)) (s:Nat) (hs:s<R.length):Cg p ((Lb p R x R.length).getD (lv R s) 0) 0:=by
 refine (Xz hp hR hx h _ (Nat.le_refl _) _ (h.lt s hs)).trans (Cg.of ?_);rw [K8 hs fun t ht hne=>by rw [h.zero s hs t hne]; omega,h.one s hs];omega
theorem Aml {x:List Int} (hp:2<=p) (hR:MatW p n R) (hx:VecW p n x) (h:K9 n R.length R (lv R)):(∀ j,j<n->Cg p ((Lb p R x R.length).getD j 0) 0)↔Cy p n R (fun j=>x.getD j 0):=by
 constructor
 ·intro h0;refine Df (Sf (F:=fun t j=>x.getD (lv R t) 0*en R t j) (k:=R.length) fun t ht=>H9 _ (B7 ht)) fun j hj=>?_
  have:=(Xz hp hR hx h _ (Nat.le_refl _) j hj).symm.trans (h0 j hj);have:=this.add (Cg.rf (a:=sm R.length fun t=>x.getD (lv R t) 0*en R t j));exact (Cg.of (by omega)).trans (this.trans (Cg.of (by omega)))
 ·intro hs j hj;refine (Xz hp hR hx h _ (Nat.le_refl _) j hj).trans ?_;exact ((Ag1 h hs j hj).sub Cg.rf).trans (Cg.of (by omega))
-- the equations from behind
def Y2 (n:Nat):List Int:=((List.range n).map fun q:Nat=>((n - 1 - q:Nat):Int))++[(n:Int)]
def Jj (n:Nat) (E:List (List Int)):List (List Int):=E.map (Ca (Y2 n))
theorem Ai5:(Y2 n).length=n+1:=by simp [Y2]
theorem Aq1 {q:Nat} (hq:q<n):Jv (Y2 n) q=n - 1 - q:=by
 unfold Jv Y2;rw [A3 (x:=((n - 1 - q:Nat):Int)) (by rw [List.getElem?_append_left (by simpa using hq)]; simp [hq])];omega
theorem Anw:Jv (Y2 n) n=n:=by
 unfold Jv Y2;rw [A3 (x:=(n:Int)) (by rw [List.getElem?_append_right (by simp)]; simp)];omega
theorem Zl (hp:2<=p) (hE:MatW p (n+1) E):MatW p (n+1) (Jj n E):=by
 have:=Ajm (o:=Y2 n) hp hE
 rwa [Ai5] at this
def X7 (n:Nat) (f:Nat->Int) (a:Int) (q:Nat):Int:=if q<n then f (n - 1 - q) else a
theorem Zs {i:Nat} {a:Int} (hi:i<E.length):(sm (n+1) fun q=>en (Jj n E) i q*X7 n f a q)=(sm n fun j=>en E i j*f j)+en E i n*a:=by
 show sm n _+_=_
 try dsimp only
 have e:∀ q,q<n+1->en (Jj n E) i q=en E i (Jv (Y2 n) q):=fun q hq=>Ag0 hi (by rw [Ai5]; omega)
 rw [e n (by omega),Anw,show X7 n f a n=a from if_neg (by omega),Aoq (f:=fun j=>en E i j*f j)];congr 1;refine G3 fun q hq=>?_
 try dsimp only
 rw [e q (by omega),Aq1 hq,show X7 n f a q=f (n - 1 - q) from if_pos hq]
theorem Amc:L4 p n E f↔C8 p (n+1) (Jj n E) (X7 n f (-1)):=by
 have hl:(Jj n E).length=E.length:=List.length_map ..;constructor
 ·intro h i hi;rw [Zs (by omega)];exact ((h i (by omega)).add Cg.rf).trans (Cg.of (by omega))
 ·intro h i hi;have:=h i (by omega);rw [Zs hi] at this;have:=this.add (Cg.rf (a:=en E i n));exact (Cg.of (by omega)).trans (this.trans (Cg.of (by omega)))
theorem Aoo:C8 p n E f↔C8 p (n+1) (Jj n E) (X7 n f 0):=by
 have hl:(Jj n E).length=E.length:=List.length_map ..;constructor
 ·intro h i hi;rw [Zs (by omega)];exact ((h i (by omega)).add Cg.rf).trans (Cg.of (by omega))
 ·intro h i hi;have:=h i (by omega);rw [Zs hi] at this;exact (Cg.of (by omega)).trans this
theorem Amg (hp:2<=p) (hI:U6 p) (hE:MatW p (n+1) E):C8 p (n+1) (Jj n E) f↔C8 p (n+1) (gj p (n+1) (Jj n E)) f:=by
 obtain ⟨_,h2⟩:=Sj hp hI (Zl hp hE);exact ⟨Zv fun i hi=>(h2 _).1 (B7 hi),Zv fun i hi=>(h2 _).2 (B7 hi)⟩
theorem Abh (hp:2<=p) (hI:U6 p) (hE:MatW p (n+1) E):K9 (n+1) (gj p (n+1) (Jj n E)).length (gj p (n+1) (Jj n E)) (lv (gj p (n+1) (Jj n E))):=by
 obtain ⟨⟨pv,h1⟩,_⟩:=Sj hp hI (Zl hp hE);exact Lv h1 (Xt hp (Zl hp hE)) (Nat.le_refl _)
theorem Ak6 (hp:2<=p) (hI:U6 p) (hE:MatW p (n+1) E) {i:Nat} (hi:i<(gj p (n+1) (Jj n E)).length) (hl:lv (gj p (n+1) (Jj n E)) i=n):¬ L4 p n E f:=by
 intro hf;have h:=Abh hp hI hE;have h1:=(Amg hp hI hE).1 (Amc.1 hf) i hi;generalize gj p (n+1) (Jj n E)=R at *
 have h2:(sm (n+1) fun j=>en R i j*X7 n f (-1) j)= -1:=by
  rw [K8 (t:=n) (by omega) fun j hj hne=>by rw [h.low i hi j (by omega)]; omega];have:=h.one i hi;rw [hl] at this;rw [this,show X7 n f (-1) n= -1 from if_neg (by omega)]; rfl
 rw [h2] at h1;have:=h1.mul (Cg.rf (a:= -1));exact Aqy hp this
theorem Aj1 (hp:2<=p) (hI:U6 p) (hE:MatW p (n+1) E) (hl:∀ i,i<(gj p (n+1) (Jj n E)).length->lv (gj p (n+1) (Jj n E)) i≠n)
  (h1:∀ i,i<(gj p (n+1) (Jj n E)).length->u (n - 1 - lv (gj p (n+1) (Jj n E)) i)=en (gj p (n+1) (Jj n E)) i n) (h0:∀ q,q<n->(∀ i,i<(gj p (n+1) (Jj n E)).length->n - 1 - lv (gj p (n+1) (Jj n E)) i≠q)->u q=0) :
  L4 p n E u∧∀ f,C8 p n E f->∀ q,q<n->(∀ j,j<q->Cg p (f j) 0)->¬ Cg p (f q) 0->u q=0:=by
 have h:=Abh hp hI hE;have hrr:=fun f=>Amg (f:=f) hp hI hE
 have hlt:∀ i,i<(gj p (n+1) (Jj n E)).length->lv (gj p (n+1) (Jj n E)) i<n:=fun i hi=>by have:=h.lt i hi; have:=hl i hi; omega
 generalize gj p (n+1) (Jj n E)=R at *
 have hinj:∀ i k,i<R.length->k<R.length->lv R i=lv R k->i=k:=fun i k hi hk e=>by
  rcases Nat.lt_trichotomy i k with a | a | a
  ·have:=h.mono i k a hk; omega
  ·exact a
  ·have:=h.mono k i a hi; omega
 refine ⟨Amc.2 ((hrr _).2 fun i hi=>?_),fun f hf q hq hb hnz=>?_⟩
 ·show Cg p (sm n _+_) 0
  try dsimp only
  rw [show X7 n u (-1) n= -1 from if_neg (by omega),K8 (f:=fun j=>en R i j*X7 n u (-1) j) (hlt i hi) fun j hj hne=>?_]
  ·try dsimp only
   rw [h.one i hi,show X7 n u (-1) (lv R i)=u (n - 1 - lv R i) from if_pos (hlt i hi),h1 i hi];exact Cg.of (by omega)
  ·try dsimp only
   rw [show X7 n u (-1) j=u (n - 1 - j) from if_pos hj];by_cases hp':∃ k,k<R.length∧lv R k=j
   ·obtain ⟨k,hk,rfl⟩:=hp';rw [h.zero k hk i (fun e=>hne (by rw [e]))]; omega
   ·rw [h0 (n - 1 - j) (by omega) fun k hk e=>hp' ⟨k,hk,by have:=hlt k hk; omega⟩]; omega
 ·refine h0 q hq fun i hi e=>hnz ?_
  have h2:=(hrr _).1 (Aoo.1 hf) i hi;have hli:=hlt i hi;refine Cg.trans (Cg.symm ?_) h2;show Cg p (sm n _+_) _
  try dsimp only
  rw [show X7 n f 0 n=0 from if_neg (by omega),Int.mul_zero,Int.add_zero];refine (Jb (g:=fun j=>if j=lv R i then f q else 0) fun j hj=>?_).trans (Cg.of ?_)
  ·rw [show X7 n f 0 j=f (n - 1 - j) from if_pos hj];by_cases e1:j=lv R i
   ·subst e1;rw [if_pos rfl,h.one i hi,e,Int.one_mul]; exact Cg.rf
   ·rw [if_neg e1];rcases Nat.lt_or_ge j (lv R i) with a | a
    ·rw [h.low i hi j a]; exact Cg.of (by omega)
    ·exact (Cg.rf.mul (hb (n - 1 - j) (by omega))).trans (Cg.of (by omega))
  ·rw [K8 (f:=fun j=>if j=lv R i then f q else 0) hli fun j _ hne=>if_neg hne,if_pos rfl]
def Re (B:List (List Int)) (c:Nat->Int) (j:Nat):Int:=sm B.length fun i=>c i*en B i j
theorem Aiw {B:List (List Int)} {c:Nat->Int}:Cy p n B (Re B c):=Sf (F:=fun i j=>c i*en B i j) fun _ hi=>H9 _ (B7 hi)
theorem Ai2 {B C G:List (List Int)} {c:Nat->Int} (hc:Cy p B.length C c) (hG:∀ t,t<C.length->Cy p n G (Re B (en C t))):Cy p n G (Re B c):=by
 induction hc with
 | zero h0 =>
  refine .zero fun j _=>(Jb (g:=fun _=>0) fun i hi=>?_).trans (Cg.of (Je fun _ _=>rfl))
  exact ((h0 i hi).mul Cg.rf).trans (Cg.of (by omega))
 | @add c' c'' t k ht _ hs ih =>
  refine Df (Rr ih (H9 k (hG t ht))) fun j _=>?_
  refine (Jb fun i hi=>(hs i hi).mul Cg.rf).trans (Cg.of ?_);unfold Re;rw [G3 (g:=fun i=>c'' i*en B i j+k*(en C t i*en B i j)) fun i _=>by grind,N1 (f:=fun i=>c'' i*en B i j),Qb (f:=fun i=>en C t i*en B i j)]
theorem Aoe {D k:Nat} {W:List (List Int)} (hl:W.length=k) (h2:∀ t,t<k->∀ j,j<k->en W t (D+j)=if j=t then 1 else 0) (hg:Cy p (D+k) W g):∀ j,j<D->Cg p (g j) (sm k fun t=>g (D+t)*en W t j):=by
 induction hg with
 | zero h0 =>
  intro j hj;refine (h0 j (by omega)).trans (Cg.symm ((Jb (g:=fun _=>0) fun t ht=>?_).trans (Cg.of (Je fun _ _=>rfl))));exact ((h0 _ (by omega)).mul Cg.rf).trans (Cg.of (by omega))
 | @add f' g' t c ht _ hs ih =>
  intro j hj;refine (hs j (by omega)).trans (((ih j hj).add Cg.rf).trans (Cg.symm ?_));refine (Jb fun s hs'=>(hs (D+s) (by omega)).mul Cg.rf).trans (Cg.of ?_)
  rw [G3 (g:=fun s=>g' (D+s)*en W s j+c*(en W t (D+s)*en W s j)) fun s _=>by grind,N1 (f:=fun s=>g' (D+s)*en W s j),Qb (f:=fun s=>en W t (D+s)*en W s j),
   K8 (f:=fun s=>en W t (D+s)*en W s j) (t:=t) (by omega) fun s hs' hne=>by rw [h2 t (by omega) s hs',if_neg hne]; omega,h2 t (by omega) t (by omega),if_pos rfl,Int.one_mul]
end
end
section
def Ji:List Int->List Int->Int
 | a :: x,b :: y=>a*b+Ji x y
 | _,_=>0
theorem Aen:∀ {x y:List Int} {i:Nat} (h1:i<x.length) (h2:i<y.length),Ji (x.take (i+1)) y=Ji (x.take i) y+x[i]*y[i]
 | [],_,_,h1,_=>by simp at h1
 | _ :: _,[],_,_,h2=>by simp at h2
 | a :: x,b :: y,0,_,_=>by cases x <;> cases y <;> simp [Ji]
 | a :: x,b :: y,i+1,h1,h2=>by
  simp only [List.take_succ_cons,Ji,List.getElem_cons_succ];rw [Aen (by simpa using h1) (by simpa using h2)];omega
theorem Alk {p:Int} (hp:2<=p∧p<=97):∀ {x y:List Int},inV p x->inV p y->0<=Ji x y∧Ji x y<=10000*x.length
 | [],_,_,_=>by simp [Ji]
 | _ :: _,[],_,_=>by simp [Ji]; omega
 | a :: x,b :: y,h1,h2=>by
  have h3:=Xh hp (h1 a (by simp)) (h2 b (by simp));have h4:=Alk hp (x:=x) (y:=y) (fun c hc=>h1 c (by simp [hc])) (fun c hc=>h2 c (by simp [hc]));simp only [Ji,List.length_cons];omega
theorem Atw {p:Int} {x y:List Int} (hp:2<=p∧p<=97) (hx:inV p x) (hy:inV p y) (hl:x.length<=y.length) (hn:x.length<=100000):Mm p x y=some (Ji x y % p):=by
 have h:Av (fun s_:Int×Nat=>Iv x y s_.1 s_.2) 4611686018427387904 (0,0)=some (Ji x y):=by
  refine Bg x.length (fun i=>(Ji (x.take i) y,i)) (by omega) _ (by cases y <;> simp [Ji]) (fun i hi=>?_) ?_
  ·have h1:=hx _ (List.getElem_mem hi);have h2:=hy _ (List.getElem_mem (show i<y.length by omega));have h3:=Xh hp h1 h2;have h4:=Alk hp (x:=x.take i) (y:=y) (fun a ha=>hx a (List.mem_of_mem_take ha)) hy;rw [List.length_take] at h4
   try dsimp only
   unfold Iv;rw [Be (by omega),cond_true,gEg hi,obs,gEg (show i<y.length by omega),obs,Ak (by omega),Bo (n:=x[i]*y[i]'(by omega)) (by omega) (by omega),Bo (by omega) (by omega),Aen hi (by omega)]
  ·try dsimp only
   unfold Iv;rw [Bf (by omega),cond_false,List.take_length]
 unfold Mm;rw [h,obs,Ab9 hp,obs]
end
section
def eqT (p:Int) (l r cur:List Int) (k:Nat) (row:List Int):List Int:=row++[-(Ji cur (Dt l k (p - 1)++Dt r k 1) % p) % p]
def P8 (n:Nat) (x:List Int) (i:Nat) (v:Int):List Int:=unV n v.toNat++[x.getD i 0]
def Q8 (p:Int) (n:Nat) (M:List (List Int)) (l r x y:List Int):List (List Int):=M.mapIdx (eqT p l r (x.drop l.length++y.drop r.length))++l.mapIdx (P8 n x)++r.mapIdx (P8 n y)
def P2 (p:Int) (w:Nat->Int) (o b:List Int):Prop:=∀ j,j<o.length->Cg p (w (Jv o j)) (b.getD j 0)
section
variable {p:Int} {n:Nat} {M E:List (List Int)} {l r x y:List Int} {w f:Nat->Int}
theorem Aij {a:Nat}:∀ {b:Nat},sm (a+b) f=sm a f+sm b fun i=>f (a+i)
 | 0=>by simp [sm]
 | b+1=>by
  show sm (a+b) f+f (a+b)=sm a f+((sm b fun i=>f (a+i))+f (a+b));rw [Aij]; omega
theorem Agi:∀ {c z:List Int},c.length<=z.length->Ji c z=sm c.length fun i=>c.getD i 0*z.getD i 0
 | [],_,_=>by simp [Ji,sm]
 | _ :: _,[],h=>by simp at h
 | a :: c,b :: z,h=>by
  rw [List.length_cons,Acj,Ji,Agi (c:=c) (z:=z) (by simpa using h)]; rfl
theorem Ap1 {v:Nat} (hv:v<n):(sm n fun j=>(unV n v).getD j 0*w j)=w v:=by
 rw [K8 hv fun j _ hne=>by rw [Ak9 hv,if_neg hne]; omega,Ak9 hv,if_pos rfl,Int.one_mul]
theorem F9 {a b:List Int} {j:Nat} (h:j<a.length):(a++b).getD j 0=a.getD j 0:=by
 rw [gDg,List.getElem?_append_left h,← gDg]
theorem Ha {a b:List Int} {j:Nat}:(a++b).getD (a.length+j) 0=b.getD j 0:=by
 rw [gDg,List.getElem?_append_right (by omega),Nat.add_sub_cancel_left,← gDg]
theorem Aez {a b:List Int} {j:Nat} (h:j<a.length):Jv (a++b) j=Jv a j:=congrArg Int.toNat (F9 h)
theorem Aeq {a b:List Int} {j:Nat}:Jv (a++b) (a.length+j)=Jv b j:=congrArg Int.toNat Ha
theorem Aks {a b c d:List Int} (h:c.length=a.length):P2 p w (a++b) (c++d)↔P2 p w a c∧P2 p w b d:=by
 constructor
 ·intro hh;refine ⟨fun j hj=>?_,fun j hj=>?_⟩
  ·have:=hh j (by rw [List.length_append]; omega)
   rwa [Aez hj,F9 (by omega)] at this
  ·have:=hh (a.length+j) (by rw [List.length_append]; omega)
   rwa [Aeq,← h,Ha] at this
 ·rintro ⟨h1,h2⟩ j hj;rw [List.length_append] at hj;by_cases hja:j<a.length
  ·rw [Aez hja,F9 (by omega)]; exact h1 j hja
  ·have e:j=a.length+(j - a.length):=by omega
   rw [e,Aeq,← h,Ha];exact h2 _ (by omega)
theorem Alt {a k:Nat} {b:List Int}:P2 p w (Jn a k) b↔∀ i,i<k->Cg p (w (a+i)) (b.getD i 0):=by
 have e:∀ i,i<k->Jv (Jn a k) i=a+i:=fun i hi=>by
  unfold Jv Jn;rw [A3 (x:=(a:Int)+(i:Int)) (by simp [hi])];omega
 constructor
 ·intro h i hi;have:=h i (by simpa [Jn] using hi)
  rwa [e i hi] at this
 ·intro h i hi;simp [Jn] at hi;rw [e i hi]; exact h i hi
theorem Aiu:L4 p n E w↔∀ z,z∈E->Cg p (sm n fun j=>z.getD j 0*w j) (z.getD n 0):=by
 constructor
 ·intro h z hz;obtain ⟨i,hi,rfl⟩:=List.getElem_of_mem hz;have:=h i hi;unfold en at this
  rwa [A3 (gEg hi)] at this
 ·intro h i hi;exact h _ (Dd hi)
theorem Aer:C8 p n E w↔∀ z,z∈E->Cg p (sm n fun j=>z.getD j 0*w j) 0:=by
 constructor
 ·intro h z hz;obtain ⟨i,hi,rfl⟩:=List.getElem_of_mem hz;have:=h i hi;unfold en at this
  rwa [A3 (gEg hi)] at this
 ·intro h i hi;exact h _ (Dd hi)
theorem R9 {α β:Type} {g:Nat->α->β} {xs:List α} {Q:β->Prop}:(∀ z,z∈xs.mapIdx g->Q z)↔∀ i (h:i<xs.length),Q (g i xs[i]):=by
 constructor
 ·intro h i hi; exact h _ (List.mem_mapIdx.2 ⟨i,hi,rfl⟩)
 ·intro h z hz;obtain ⟨i,hi,rfl⟩:=List.mem_mapIdx.1 hz;exact h i hi
theorem Vv {b:List Int} (hi:∀ v∈l,0<=v∧v<(n:Int)):(∀ z,z∈l.mapIdx (P8 n b)->Cg p (sm n fun j=>z.getD j 0*w j) (z.getD n 0))↔P2 p w l (b.take l.length):=by
 rw [R9]
 have key:∀ i (h:i<l.length),(sm n fun j=>(P8 n b i l[i]).getD j 0*w j)=w (Jv l i)∧(P8 n b i l[i]).getD n 0=(b.take l.length).getD i 0:=fun i h=>by
  have hv:=hi _ (List.getElem_mem h);have hl:(unV n l[i].toNat).length=n:=by simp [unV]
  constructor
  ·rw [G3 (g:=fun j=>(unV n l[i].toNat).getD j 0*w j) fun j hj=>by unfold P8; rw [F9 (by omega)],Ap1 (by omega)];unfold Jv;rw [A3 (gEg h)]
  ·have h2:(P8 n b i l[i]).getD n 0=b.getD i 0:=by
    have:=Ha (a:=unV n l[i].toNat) (b:=[b.getD i 0]) (j:=0);rw [hl] at this;exact this
   rw [h2,Hd h]
 constructor
 ·intro h j hj;have:=h j hj
  rwa [(key j hj).1,(key j hj).2] at this
 ·intro h j hj;rw [(key j hj).1,(key j hj).2]; exact h j hj
theorem Ahh {b:List Int} (hi:∀ v∈l,0<=v∧v<(n:Int)):(∀ z,z∈l.mapIdx (P8 n b)->Cg p (sm n fun j=>z.getD j 0*w j) 0)↔P2 p w l []:=by
 rw [R9]
 have key:∀ i (h:i<l.length),(sm n fun j=>(P8 n b i l[i]).getD j 0*w j)=w (Jv l i):=fun i h=>by
  have hv:=hi _ (List.getElem_mem h);have hl:(unV n l[i].toNat).length=n:=by simp [unV]
  rw [G3 (g:=fun j=>(unV n l[i].toNat).getD j 0*w j) fun j hj=>by unfold P8; rw [F9 (by omega)],Ap1 (by omega)];unfold Jv;rw [A3 (gEg h)]
 constructor
 ·intro h j hj;have:=h j hj
  rwa [key j hj] at this
 ·intro h j hj;rw [key j hj]; exact h j hj
theorem Al1 {cur:List Int} (hM:MatW p n M) (hcl:cur.length=l.length+r.length) (hc:∀ i,i<l.length+r.length->Cg p (w (n+i)) (cur.getD i 0)) :
  C8 p (n+l.length+r.length) (Gx p M l r) w↔∀ z,z∈M.mapIdx (eqT p l r cur)->Cg p (sm n fun j=>z.getD j 0*w j) (z.getD n 0):=by
 rw [Aer,R9];unfold Gx;rw [R9]
 have key:∀ i (h:i<M.length),Cg p (sm (n+l.length+r.length) fun j=>(Acc p l r i M[i]).getD j 0*w j) ((sm n fun j=>(eqT p l r cur i M[i]).getD j 0*w j) - (eqT p l r cur i M[i]).getD n 0):=fun i h=>by
  have hl:=(hM _ (List.getElem_mem h)).1;have e0:Acc p l r i M[i]=M[i]++(Dt l i (p - 1)++Dt r i 1):=List.append_assoc ..;have e1:∀ j,j<n->(Acc p l r i M[i]).getD j 0=M[i].getD j 0:=fun j hj=>by rw [e0,F9 (by omega)]
  have e2:∀ j,(Acc p l r i M[i]).getD (n+j) 0=(Dt l i (p - 1)++Dt r i 1).getD j 0:=fun j=>by rw [e0,← hl,Ha]
  have e3:∀ j,j<n->(eqT p l r cur i M[i]).getD j 0=M[i].getD j 0:=fun j hj=>by unfold eqT; rw [F9 (by omega)]
  have e4:(eqT p l r cur i M[i]).getD n 0= -(Ji cur (Dt l i (p - 1)++Dt r i 1) % p) % p:=by
   have:=Ha (a:=M[i]) (b:=[-(Ji cur (Dt l i (p - 1)++Dt r i 1) % p) % p]) (j:=0);rw [hl] at this;exact this
  have e5:Cg p (sm (l.length+r.length) fun j=>(Dt l i (p - 1)++Dt r i 1).getD j 0*w (n+j)) (Ji cur (Dt l i (p - 1)++Dt r i 1)):=by
   rw [Agi (by simp [I0]; omega),hcl];exact Jb fun j hj=>(Cg.rf.mul (hc j hj)).trans (Cg.of (Int.mul_comm _ _))
  rw [Nat.add_assoc,Aij,G3 (k:=n) (g:=fun j=>M[i].getD j 0*w j) fun j hj=>by rw [e1 j hj],G3 (k:=n) (f:=fun j=>(eqT p l r cur i M[i]).getD j 0*w j) (g:=fun j=>M[i].getD j 0*w j) fun j hj=>by rw [e3 j hj],e4,
   G3 (k:=l.length+r.length) (g:=fun j=>(Dt l i (p - 1)++Dt r i 1).getD j 0*w (n+j)) fun j hj=>by rw [e2 j]]
  refine (Cg.rf.add e5).trans ?_;have h1:Cg p (-(Ji cur (Dt l i (p - 1)++Dt r i 1) % p) % p) (-(Ji cur (Dt l i (p - 1)++Dt r i 1))):=Cg.md.trans ((Cg.of (by omega: -(Ji cur (Dt l i (p - 1)++Dt r i 1) % p)=0 - (Ji cur (Dt l i (p - 1)++Dt r i 1) % p))).trans ((Cg.rf.sub Cg.md).trans (Cg.of (by omega))));exact Cg.symm ((Cg.rf.sub h1).trans (Cg.of (by omega)))
 constructor
 ·intro hh i hi;have:=((key i hi).symm.trans (hh i hi)).add (Cg.rf (a:=(eqT p l r cur i M[i]).getD n 0));exact (Cg.of (by omega)).trans (this.trans (Cg.of (by omega)))
 ·intro hh i hi;exact (key i hi).trans (((hh i hi).sub Cg.rf).trans (Cg.of (by omega)))
theorem Tu (z:List Int) (k:Nat):z.take k++z.drop k=z:=List.take_append_drop k z
theorem Ai9 (hM:MatW p n M) (hx:x.length=2*l.length) (hy:y.length=2*r.length) (il:∀ v∈l,0<=v∧v<(n:Int)) (ir:∀ v∈r,0<=v∧v<(n:Int)) :
  (C8 p (n+l.length+r.length) (Gx p M l r) w∧P2 p w (Dq n l r) (x++y))↔(L4 p n (Q8 p n M l r x y) w∧∀ i,i<l.length+r.length->Cg p (w (n+i)) ((x.drop l.length++y.drop r.length).getD i 0)):=by
 have hxd:(x.drop l.length).length=l.length:=by rw [List.length_drop]; omega
 have hyd:(y.drop r.length).length=r.length:=by rw [List.length_drop]; omega
 have hxt:(x.take l.length).length=l.length:=by rw [List.length_take]; omega
 have hyt:(y.take r.length).length=r.length:=by rw [List.length_take]; omega
 have hfl:∀ a k,(Jn a k).length=k:=fun a k=>by simp [Jn]
 have e1:P2 p w (Dq n l r) (x++y)↔((P2 p w l (x.take l.length)∧P2 p w (Jn n l.length) (x.drop l.length))∧P2 p w r (y.take r.length))∧P2 p w (Jn (n+l.length) r.length) (y.drop r.length):=by
  have e:x++y=x.take l.length++x.drop l.length++y.take r.length++y.drop r.length:=by rw [List.append_assoc,Tu,Tu]
  unfold Dq;rw [e,Aks (by simp [Jn]; omega),Aks (by simp [Jn]; omega),Aks (by omega)]
 have e2:(∀ i,i<l.length+r.length->Cg p (w (n+i)) ((x.drop l.length++y.drop r.length).getD i 0))↔P2 p w (Jn n l.length) (x.drop l.length)∧P2 p w (Jn (n+l.length) r.length) (y.drop r.length):=by
  rw [Alt,Alt];constructor
  ·intro h;refine ⟨fun i hi=>?_,fun i hi=>?_⟩
   ·have:=h i (by omega)
    rwa [F9 (by omega)] at this
   ·have:=h (l.length+i) (by omega);have e:=Ha (a:=x.drop l.length) (b:=y.drop r.length) (j:=i);rw [hxd] at e
    rwa [e,← Nat.add_assoc] at this
  ·rintro ⟨h1,h2⟩ i hi;by_cases hil:i<l.length
   ·rw [F9 (by omega)]; exact h1 i hil
   ·have:=h2 (i - l.length) (by omega);have e:i=(x.drop l.length).length+(i - l.length):=by omega
    rw [e,Ha,hxd]
    rwa [show n+l.length+(i - l.length)=n+(l.length+(i - l.length)) by omega] at this
 have e3:L4 p n (Q8 p n M l r x y) w↔((∀ z,z∈M.mapIdx (eqT p l r (x.drop l.length++y.drop r.length))->Cg p (sm n fun j=>z.getD j 0*w j) (z.getD n 0))∧P2 p w l (x.take l.length))∧P2 p w r (y.take r.length):=by
  rw [Aiu,← Vv il,← Vv ir];unfold Q8;simp only [List.mem_append,or_imp,forall_and]
 have hcl:(x.drop l.length++y.drop r.length).length=l.length+r.length:=by rw [List.length_append]; omega
 constructor
 ·rintro ⟨h1,h2⟩;obtain ⟨⟨⟨a1,a2⟩,a3⟩,a4⟩:=e1.1 h2;have hc:=e2.2 ⟨a2,a4⟩;exact ⟨e3.2 ⟨⟨(Al1 hM hcl hc).1 h1,a1⟩,a3⟩,hc⟩
 ·rintro ⟨h1,hc⟩;obtain ⟨⟨b1,b2⟩,b3⟩:=e3.1 h1;obtain ⟨a2,a4⟩:=e2.1 hc;exact ⟨(Al1 hM hcl hc).2 b1,e1.2 ⟨⟨⟨b2,a2⟩,b3⟩,a4⟩⟩
theorem Kk {k j:Nat}:(List.replicate k (0:Int)).getD j 0=0:=by
 rw [gDg,List.getElem?_replicate];split <;> rfl
theorem Anm {k:Nat} {z:List Int} (h:k<=z.length):Ji (List.replicate k 0) z=0:=by
 rw [Agi (by simpa using h)];exact Je fun i _=>by rw [Kk]; omega
theorem Aqe (hM:MatW p n M) (hx:x.length=2*l.length) (hy:y.length=2*r.length) (il:∀ v∈l,0<=v∧v<(n:Int)) (ir:∀ v∈r,0<=v∧v<(n:Int)) :
  (C8 p (n+l.length+r.length) (Gx p M l r) w∧∀ j,j<(Dq n l r).length->Cg p (w (Jv (Dq n l r) j)) 0)↔(C8 p n (Q8 p n M l r x y) w∧∀ i,i<l.length+r.length->Cg p (w (n+i)) 0):=by
 have h:=Ai9 (x:=List.replicate (2*l.length) 0) (y:=List.replicate (2*r.length) 0) (w:=w) hM (by simp) (by simp) il ir
 have e0:(List.replicate (2*l.length) (0:Int)).drop l.length++(List.replicate (2*r.length) (0:Int)).drop r.length=List.replicate (l.length+r.length) 0:=by
  rw [List.drop_replicate,List.drop_replicate,List.replicate_append_replicate];congr 1;omega
 have e1:P2 p w (Dq n l r) (List.replicate (2*l.length) 0++List.replicate (2*r.length) 0)↔∀ j,j<(Dq n l r).length->Cg p (w (Jv (Dq n l r) j)) 0:=by
  unfold P2;rw [List.replicate_append_replicate];simp only [Kk]
 have e2:L4 p n (Q8 p n M l r (List.replicate (2*l.length) 0) (List.replicate (2*r.length) 0)) w↔C8 p n (Q8 p n M l r x y) w:=by
  rw [Aiu,Aer];unfold Q8;rw [e0];simp only [List.mem_append,or_imp,forall_and];rw [Vv il,Vv ir,Ahh il,Ahh ir]
  have ez:∀ (o:List Int) (k j:Nat),P2 p w o ((List.replicate k 0).take j)↔P2 p w o []:=fun o k j=>by
   unfold P2;rw [List.take_replicate];simp only [Kk,List.getD_nil]
  rw [ez,ez];refine and_congr_left fun _=>and_congr_left fun _=>?_
  rw [R9,R9];refine forall_congr' fun i=>forall_congr' fun hi=>?_
  have hl:=(hM _ (List.getElem_mem hi)).1;have ea:∀ c:List Int,∀ j,j<n->(eqT p l r c i M[i]).getD j 0=M[i].getD j 0:=fun c j hj=>by unfold eqT; rw [F9 (by omega)]
  have eb:(eqT p l r (List.replicate (l.length+r.length) 0) i M[i]).getD n 0=0:=by
   have:=Ha (a:=M[i]) (b:=[-(Ji (List.replicate (l.length+r.length) 0) (Dt l i (p - 1)++Dt r i 1) % p) % p]) (j:=0);rw [hl] at this;refine Eq.trans this ?_;rw [Anm (by simp [I0])];simp
  rw [eb,G3 (k:=n) (g:=fun j=>M[i].getD j 0*w j) fun j hj=>by rw [ea _ j hj],G3 (k:=n) (f:=fun j=>(eqT p l r (x.drop l.length++y.drop r.length) i M[i]).getD j 0*w j) (g:=fun j=>M[i].getD j 0*w j) fun j hj=>by rw [ea _ j hj]]
 rw [e1,e2,e0] at h;simp only [Kk] at h;exact h
end
end
section
section
variable {p:Int} {n m:Nat} {S B E C F:List (List Int)} {o b cur:List Int}
theorem Arf {i j:Nat} (hj:j<o.length):en (B.map (Ca o)) i j=en B i (Jv o j):=by
 by_cases hi:i<B.length
 ·exact Ag0 hi hj
 ·rw [Ly (by simpa using hi),Ly (by omega)]
theorem Abx {c:Nat->Int} {j:Nat} (hj:j<o.length):Re (B.map (Ca o)) c j=Re B c (Jv o j):=by
 unfold Re;rw [List.length_map];exact G3 fun i _=>by rw [Arf hj]
structure Asb (p:Int) (n m:Nat) (S B E:List (List Int)) (o b cur:List Int):Prop where
 hB:∀ f,Cy p (n+m) B f↔C8 p (n+m) S f
 pc:∀ w,(C8 p (n+m) S w∧P2 p w o b)↔(L4 p n E w∧∀ i,i<m->Cg p (w (n+i)) (cur.getD i 0))
 pn:∀ w,(C8 p (n+m) S w∧∀ j,j<o.length->Cg p (w (Jv o j)) 0)↔(C8 p n E w∧∀ i,i<m->Cg p (w (n+i)) 0)
 io:∀ j,j<o.length->Jv o j<n+m
 bR:K9 (n+m) B.length B (lv B)
theorem Alu (h:Asb p n m S B E o b cur) {c:Nat->Int} (hc:∀ j,j<o.length->Cg p (Re (B.map (Ca o)) c j) (b.getD j 0)):L4 p n E (Re B c) :=
 ((h.pc _).1 ⟨(h.hB _).1 Aiw,fun j hj=>by have:=hc j hj; rwa [Abx hj] at this⟩).1
theorem An8 (h:Asb p n m S B E o b cur) {f:Nat->Int} (hf:L4 p n E f):Cy p o.length (B.map (Ca o)) (fun j=>b.getD j 0):=by
 have h1:L4 p n E (fun q=>if q<n then f q else cur.getD (q - n) 0):=Akt hf fun j hj=>by
  rw [if_pos hj]; exact Cg.rf
 obtain ⟨h2,h3⟩:=(h.pc _).2 ⟨h1,fun i _=>by rw [if_neg (by omega),show n+i - n=i by omega]; exact Cg.rf⟩;have h4:=An0 (m':=B.map (Ca o)) (n':=o.length) (σ:=Jv o) (List.length_map ..) h.io (fun i hi j hj=>Ag0 hi hj) ((h.hB _).2 h2);exact Df h4 fun j hj=>(h3 j hj).symm
theorem Aqh (h:Asb p n m S B E o b cur) (hC:∀ c,Cy p B.length C c↔∀ j,j<o.length->Cg p (Re (B.map (Ca o)) c j) 0) (hl:F.length=C.length) (hF:∀ t,t<C.length->∀ j,j<n->Cg p (en F t j) (Re B (en C t) j)) {f:Nat->Int}:Cy p n F f↔C8 p n E f:=by
 constructor
 ·refine Aee fun t ht=>?_
  have h1:=(hC _).1 (B7 (i:=t) (by omega));refine Agr ((h.pn (Re B (en C t))).1 ⟨(h.hB _).1 Aiw,fun j hj=>?_⟩).1 fun j hj=>hF t (by omega) j hj
  have:=h1 j hj
  rwa [Abx hj] at this
 ·intro hf;have h1:C8 p n E (fun q=>if q<n then f q else 0):=Agr hf fun j hj=>by rw [if_pos hj]; exact Cg.rf
  obtain ⟨h2,h3⟩:=(h.pn _).2 ⟨h1,fun i _=>by rw [if_neg (by omega)]; exact Cg.rf⟩;have h4:=Ag1 h.bR ((h.hB _).2 h2)
  have h5:Cy p B.length C (fun i=>if lv B i<n then f (lv B i) else 0):=(hC _).2 fun j hj=>by
   rw [Abx hj];exact (h4 _ (h.io j hj)).symm.trans (h3 j hj)
  refine Df (Ai2 h5 fun t ht=>Df (B7 (i:=t) (by omega)) fun j hj=>(hF t ht j hj).symm) fun j hj=>?_
  have:=h4 j (by omega)
  rwa [if_pos hj] at this
end
end
section
section
variable {p:Int} {n D:Nat} {m A T R:List (List Int)}
theorem R0 {x v:List Int} {f:Int} {w:Nat} (hp:2<=p∧p<=97) (hx:VecW p w x) (hv:VecW p w v) (hw:w<=100000) (hf:0<=f∧f<p):Dx p x v f=some (C0 p f x v):=by
 have hl:=hx.1;have hl':=hv.1;unfold Dx;refine Vi (y:=C0 p f x v) (by simp [C0]; omega) (by omega) (fun j hj z hz=>?_) ?_
 ·have h1:=K0 hx hj;have h2:=K0 hv (j:=j) (by omega)
  try dsimp only
  unfold Ik;rw [Be (by omega),cond_true,hz,obs,gEg (show j<v.length by omega),obs,Vk hp hf h2,obs,Zq hp h1 (M2 hp.1),obs,Ak (by omega),Aaz,Amf]
 ·try dsimp only
  unfold Ik;rw [Bf (by omega),cond_false]
theorem Aeb {x:List Int} {k:Int} {w:Nat} (hp:2<=p∧p<=97) (hx:VecW p w x) (hw:w<=100000) (hk:0<=k∧k<p):Fz p x k=some (Cq p k x):=by
 have hl:=hx.1;unfold Fz;refine Vi (y:=Cq p k x) (by simp [Cq]) (by omega) (fun j hj z hz=>?_) ?_
 ·have h1:=K0 hx hj
  try dsimp only
  unfold Hr;rw [Be (by omega),cond_true,hz,obs,Vk hp h1 hk,obs,Ak (by omega),Aax]
 ·try dsimp only
  unfold Hr;rw [Bf (by omega),cond_false]
theorem Ase {w c r:Nat} (hm:MatW p w m) (hc:c<w) (hl:m.length<=100000) (hr:r<=m.length):Av (fun s_:Nat=>Do m c s_) 4611686018427387904 r=some (B6 m c r):=by
 have hle:=N3 (c:=c) hr;refine Bg ((m.drop r).findIdx fun x=>x.getD c 0 !=0) (fun t=>r+t) (by unfold B6 at hle; omega) _ rfl (fun t ht=>?_) ?_
 ·have h1:r+t<B6 m c r:=by unfold B6; omega
  have h0:=Uw (i:=r+t) (by omega) h1 hr;obtain ⟨x,hx⟩:=D6 (show r+t<m.length by omega);obtain ⟨g1,g2,g3⟩:=Dv (hm _ (List.mem_of_getElem? hx)) hc;rw [A3 hx] at h0
  try dsimp only
  unfold Do;rw [Be (by omega),cond_true,hx,obs,g3,obs,obs,h0,show ((0:Int)==0)=true from rfl,cond_true,Ak (by omega),Nat.add_assoc]
 ·show Do m c (B6 m c r)=_;unfold Do;by_cases h:B6 m c r=m.length
  ·rw [Bf (by omega),cond_false,obs,cond_false]
  ·have h0:=Un h hr;obtain ⟨x,hx⟩:=D6 (show B6 m c r<m.length by omega);obtain ⟨g1,g2,g3⟩:=Dv (hm _ (List.mem_of_getElem? hx)) hc;rw [A3 hx] at h0;rw [Be (by omega),cond_true,hx,obs,g3,obs,obs,beq_eq_false_iff_ne.2 h0,cond_false]
theorem Aoi {M0:List (List Int)} {w w' c r:Nat} {pr pa:List Int} (hp:2<=p∧p<=97) (hm:MatW p w m) (hA:MatW p w' A) (hlA:A.length=m.length) (hw:w<=100000) (hw':w'<=100000) (hl:m.length<=100000)
  (hr:m[r]? =some pr) (hr':A[r]? =some pa) (hc:c<w) (h0:M0.length=m.length) :
  Av (fun s_:Nat×List (List Int)×List (List Int)=>Eo M0 c r p s_.1 s_.2.1 s_.2.2) 4611686018427387904 (0,m,A)=some (Fd p c r pr m,Qf p c r pa m A):=by
 have hla:(Qf p c r pa m A).length=m.length:=by simp [Qf,hlA]
 have hr2:=Al hr;refine Aib (E:=Fd p c r pr m) (B:=Qf p c r pa m A) (Lp ..) hlA hla hr (Ab7 hr2) hr' ?_ (by omega) (fun i hi s t hs ht h1 k1 h2 k2=>?_) ?_
 ·rw [gEg (by omega),L9,if_pos rfl]
 ·have hx:=hm _ (List.getElem_mem hi);have hy:=hA _ (List.getElem_mem (show i<A.length by omega));have hv:=hm _ (List.mem_of_getElem? hr);have hu:=hA _ (List.mem_of_getElem? hr');obtain ⟨g1,g2,g3⟩:=Dv hx hc;have hD:m.getD i []=m[i]:=A3 (gEg hi)
  try dsimp only
  unfold Eo;rw [Be (by omega),cond_true,Lr,L9,hD];generalize m[i]=x at *;generalize A[i]=y at *;rw [h1,obs,g3,obs];by_cases hir:i=r
  ·subst hir;rw [if_pos rfl,if_pos rfl,show (((i:Nat):Int) !=((i:Nat):Int))=false from bne_self_eq_false _,cond_false,obs,cond_false,obs,H6 h2,H6 k2];exact Ak (by omega) _
  ·rw [if_neg hir,if_neg hir,show (((i:Nat):Int) !=((r:Nat):Int))=true from by rw [bne_iff_ne]; omega,cond_true,obs];have hxl:=hx.1;have hyl:=hy.1;have hvl:=hv.1;have hul:=hu.1;by_cases h0:x.getD c 0=0
   ·rw [h0,show ((0:Int) !=0)=false from rfl,cond_false,obs,Pg hx.2 (by omega),Pg hy.2 (by omega),H6 h1,H6 k1];exact Ak (by omega) _
   ·rw [show (x.getD c 0 !=0)=true from bne_iff_ne.2 h0,cond_true,h2,obs,Ak hir,R0 hp hx hv hw ⟨g1,g2⟩,obs,Ak (by simp [C0]; omega),k1,obs,k2,obs,Ak hir,R0 hp hy hu hw' ⟨g1,g2⟩,obs,Ak (by simp [C0]; omega),obs];exact Ak (by omega) _
 ·try dsimp only
  unfold Eo;rw [Bf (by omega),cond_false]
theorem Aqk {r k:Nat} {x y:List Int} (hr:m[r]? =some x) (hk:m[k]? =some y) (h:r≠k):(m.set k x).set r y=Hj m r k:=by
 unfold Hj;rw [A3 hr,A3 hk,List.set_comm _ _ (Ne.symm h)]
theorem Ao7 {w u nn:Nat} (hp:isF p=true) (hm:MatW p w m) (hn:nn<=u) (hu:u<=w) (hw:w<=100000) (hl:m.length<=100000) :
  ∃ d,Av (fun s_:Nat×Int×Nat×List (List Int)×List (List Int)=>C2 (nn:Int) p s_.1 s_.2.1 s_.2.2.1 s_.2.2.2.1 s_.2.2.2.2) 4611686018427387904 (0,1,0,rdW u m,alW u m)=some ((gjT p m nn).1,d,rdW u (gjT p m nn).2,alW u (gjT p m nn).2):=by
 have hb:=Gs hp
 have key:=Um (body:=fun s_:Nat×Int×Nat×List (List Int)×List (List Int)=>C2 (nn:Int) p s_.1 s_.2.1 s_.2.2.1 s_.2.2.2.1 s_.2.2.2.2) (F:=4611686018427387904) (s0:=(0,1,0,rdW u m,alW u m)) (Post:=fun r=>∃ d,r=((gjT p m nn).1,d,rdW u (gjT p m nn).2,alW u (gjT p m nn).2)) nn
  (fun c s=>∃ d,(0<=d∧d<p)∧s=((gjT p m c).1,d,c,rdW u (gjT p m c).2,alW u (gjT p m c).2)) (by omega) ⟨1,by omega,rfl⟩ (fun c s hc hI=>?_) (fun s hI=>?_)
 ·obtain ⟨r,h1,d,rfl⟩:=key;exact ⟨d,h1⟩
 ·obtain ⟨d,hd,rfl⟩:=hI;obtain ⟨hm',hr,hl'⟩:=Kp hb.1 hm c;have hlr:(rdW u (gjT p m c).2).length=(gjT p m c).2.length:=List.length_map ..;have hla:(alW u (gjT p m c).2).length=(gjT p m c).2.length:=List.length_map ..;refine .inl ?_;show ∃ s',C2 _ _ _ _ _ _ _=some (Ctl.next s')∧∃ d,(0<=d∧d<p)∧s'=((gjS p c (gjT p m c)).1,d,c+1,rdW u (gjS p c (gjT p m c)).2,alW u (gjS p c (gjT p m c)).2);generalize gjT p m c=s at *;obtain ⟨r,M⟩:=s
  try dsimp only at *
  have hR:MatW p u (rdW u M):=hm'.tk hu;have hA:MatW p (w - u) (alW u M):=hm'.dr;have hpv:B6 (rdW u M) c r=B6 M c r:=Ah1 (by omega);have hle:=N3 (c:=c) hr;have hge:=An6 M c r;unfold C2 gjS;rw [Be (by omega),cond_true,Ase hR (by omega) (by omega) (by omega),obs,hlr,hpv];by_cases hk:B6 M c r=M.length
  ·refine ⟨(r,d,c+1,rdW u M,alW u M),?_,d,hd,?_⟩
   ·rw [hk,beq_self_eq_true,cond_true,obs];exact Ak (by omega) _
   ·dsimp only;rw [if_pos hk,ite_self]
  ·have hkl:B6 M c r<M.length:=by omega
   have hlt:r<M.length:=by omega
   rw [show (((B6 M c r:Nat):Int)==((M.length:Nat):Int))=false from by rw [beq_eq_false_iff_ne]; omega,cond_false];dsimp only;rw [if_pos hlt,if_neg hk];have hnz:=Un hk hr;obtain ⟨y,hy⟩:=D6 hkl;have hyM:=hm' _ (List.mem_of_getElem? hy);obtain ⟨g1,g2,_⟩:=Dv hyM (show c<w by omega);rw [A3 hy] at hnz;have hs:=Akc hlt hkl;rw [A3 hy] at hs;have hpm:=Wh hm' hlt hkl;have hsl:=Ns M r (B6 M c r);have e1:Hj (rdW u M) r (B6 M c r)=rdW u (Hj M r (B6 M c r)):=(Zk List.take_nil).symm;have e2:Hj (alW u M) r (B6 M c r)=alW u (Hj M r (B6 M c r)):=(Zk List.drop_nil).symm
   have hsw:∃ d',(0<=d'∧d'<p)∧(cond (decide (((r:Nat):Int)<((B6 M c r:Nat):Int)))
     (Option.bind ((rdW u M)[B6 M c r]?) fun x31=>Option.bind ((alW u M)[B6 M c r]?) fun x32=>Option.bind ((rdW u M)[r]?) fun x34=>Option.bind ((alW u M)[r]?) fun x36=>Option.bind (Fh p d) fun y39 =>
      some (y39,((rdW u M).set (B6 M c r) x34).set r x31,((alW u M).set (B6 M c r) x36).set r x32))
     (some (d,rdW u M,alW u M)))=some (d',rdW u (Hj M r (B6 M c r)),alW u (Hj M r (B6 M c r))):=by
    by_cases hrk:r=B6 M c r
    ·refine ⟨d,hd,?_⟩;rw [Bf (by omega),cond_false,← e1,← e2,← hrk,Ve (by omega),Ve (by omega)]
    ·obtain ⟨a1,b1⟩:=D6 (show B6 M c r<(rdW u M).length by omega);obtain ⟨a2,b2⟩:=D6 (show B6 M c r<(alW u M).length by omega);obtain ⟨a3,b3⟩:=D6 (show r<(rdW u M).length by omega);obtain ⟨a4,b4⟩:=D6 (show r<(alW u M).length by omega);refine ⟨(p - d) % p,M2 hb.1,?_⟩;rw [Be (by omega),cond_true,b1,obs,b2,obs,b3,obs,b4,obs,Ag5 hb hd,obs,Aqk b3 b1 hrk,Aqk b4 b2 hrk,e1,e2]
   obtain ⟨d',hd',hsw⟩:=hsw;rw [hsw,obs];dsimp only;rw [A3 hy];generalize Hj M r (B6 M c r)=W at *;have hs1:(rdW u W)[r]? =some (y.take u):=by simp [rdW,hs]
   have hs2:(alW u W)[r]? =some (y.drop u):=by simp [alW,hs]
   have g4:(y.take u)[c]? =some (y.getD c 0):=by rw [(Dv (hyM.tk hu) (show c<u by omega)).2.2,Hd (by omega)]
   have q1:VecW p u (Cq p (Jw p (y.getD c 0)) (y.take u)):=Nc hb.1 (hyM.tk hu).1;have q2:VecW p (w - u) (Cq p (Jw p (y.getD c 0)) (y.drop u)):=Nc hb.1 hyM.dr.1;have l1:(rdW u W).length=W.length:=List.length_map ..;have l2:(alW u W).length=W.length:=List.length_map ..;obtain ⟨i1,_,i2,i3,_⟩:=Af3 hp (a:=y.getD c 0) (by omega);refine ⟨(r+1,(d'*y.getD c 0) % p,c+1,rdW u (Fd p c r (prV p c y) W),alW u (Fd p c r (prV p c y) W)),?_,(d'*y.getD c 0) % p,M2 hb.1,rfl⟩
   rw [hs1,obs,g4,obs,Vk hb hd' ⟨g1,g2⟩,obs,i1,obs,Aeb hb (hyM.tk hu) (by omega) ⟨i2,i3⟩,obs,Ak (by simp [Cq]),hs2,obs,obs,
    Aeb hb hyM.dr (by omega) ⟨i2,i3⟩,obs,Ak (by simp [Cq])]
   rw [Aoi hb (w:=u) (w':=w - u) (pr:=Cq p (Jw p (y.getD c 0)) (y.take u)) (pa:=Cq p (Jw p (y.getD c 0)) (y.drop u)) (fun z hz=>?_) (fun z hz=>?_) (by simp only [List.length_set]; omega) (by omega) (by omega) (by simp only [List.length_set]; omega) (No hs1) (No hs2) (by omega) (by simp only [List.length_set]),obs]
   ·have e3:rdW u (Fd p c r (prV p c y) W)=Fd p c r (Cq p (Jw p (y.getD c 0)) (y.take u)) (rdW u W):=by
     unfold rdW prV;rw [Ai6 (by omega),Aew]
    have e4:alW u (Fd p c r (prV p c y) W)=Qf p c r (Cq p (Jw p (y.getD c 0)) (y.drop u)) (rdW u W) (alW u W):=by
     unfold rdW alW prV;rw [Ajd (by omega),Aet]
    try dsimp only
    rw [Ak (by omega),obs,Af7,Ahk,e3,e4];exact Ak (by omega) _
   ·rcases List.mem_or_eq_of_mem_set hz with hz | rfl
    ·exact hpm.tk hu _ hz
    ·exact q1
   ·rcases List.mem_or_eq_of_mem_set hz with hz | rfl
    ·exact hpm.dr _ hz
    ·exact q2
 ·obtain ⟨d,hd,rfl⟩:=hI;refine ⟨_,?_,d,rfl⟩
  try dsimp only
  unfold C2;rw [Bf (by omega),cond_false]
theorem Aqq {w:Nat} {c:Int} (hm:MatW p w m) (hw:w<=100000) (hl:m.length<=100000):Ja c m=some m:=by
 unfold Ja;have h:=Jk (body:=fun s_:Nat×List (List Int)=>Eg m s_.1 s_.2) m id [] (F:=4611686018427387904) (by omega) m (fun i x h=>?_) ?_
 ·rw [show Av (fun s_:Nat×List (List Int)=>Eg m s_.1 s_.2) 4611686018427387904 (0,[])=some m by simpa using h]; rfl
 ·have:=Al h;have hx:=(hm x (List.mem_of_getElem? h)).1
  try dsimp only
  unfold Eg;rw [Be (by omega),cond_true,h,obs,Sd _ (by omega),obs,Ak (by simp; omega),Ak (by omega)]; rfl
 ·try dsimp only
  unfold Eg;rw [Bf (by omega),cond_false,List.map_id,List.nil_append]
theorem As2 {k:Nat} (hk:k<=1000):Ky (k:Int)=some (idV k):=by
 unfold Ky;have hil:(idV k).length=k:=by simp [idV]
 rw [Z9 (by omega) (by omega),obs,Int.toNat_natCast]
 have key:Av (fun s_:Nat×List (List Int)=>Ic (k:Int) s_.1 s_.2) 4611686018427387904 (0,List.replicate k (List.replicate k 0))=some (idV k):=by
  refine Bg k (fun i=>(i,(idV k).take i++List.replicate ((idV k).length - i) (List.replicate k 0))) (by omega) _ (by simp [hil]) (fun i hi=>?_) ?_
  ·have hx:(idV k)[i]? =some (unV k i):=by simp [idV,hi]
   have hg:=Ol (xs:=idV k) (d:=List.replicate k (0:Int)) (i:=i) (by omega)
   try dsimp only
   unfold Ic;rw [Be (by omega),cond_true,hg,obs,List.getElem?_replicate,if_pos hi,obs,Ak (by omega),← Pd hx]; rfl
  ·try dsimp only
   unfold Ic;rw [Bf (by omega),cond_false,hil,Nat.sub_self,List.replicate_zero,List.append_nil,List.take_of_length_le (by omega)]
 rw [key,obs]
def wmV (m:List (List Int)):List (List Int):=m.mapIdx fun i x=>x++unV m.length i
theorem An9:(wmV m).length=m.length:=by simp [wmV]
theorem Aod (hp:2<=p) (hm:MatW p D m):MatW p (D+m.length) (wmV m):=fun x hx=>by
 obtain ⟨i,hi,rfl⟩:=List.mem_mapIdx.1 hx;have h1:=hm _ (List.getElem_mem hi);have h2:=Alx (k:=i) (n:=m.length) hp;refine ⟨by rw [List.length_append,h1.1,h2.1],fun a ha=>?_⟩;rcases List.mem_append.1 ha with ha | ha
 ·exact h1.2 a ha
 ·exact h2.2 a ha
theorem At4 (hm:MatW p D m):rdW D (wmV m)=m:=by
 apply List.ext_getElem
 ·simp [rdW,wmV]
 ·intro i h1 h2;simp only [rdW,wmV,List.getElem_map,List.getElem_mapIdx];exact List.take_left' (hm _ (List.getElem_mem h2)).1
theorem At3 (hm:MatW p D m):alW D (wmV m)=idV m.length:=by
 apply List.ext_getElem
 ·simp [alW,wmV,idV]
 ·intro i h1 h2;have hi:i<m.length:=by simpa [idV] using h2
  simp only [alW,wmV,idV,List.getElem_map,List.getElem_mapIdx,List.getElem_range];exact List.drop_left' (hm _ (List.getElem_mem hi)).1
theorem Aqi (hm:MatW p D m) {t j:Nat} (ht:t<m.length) (hj:j<D):en (wmV m) t j=en m t j:=by
 have hl:=(hm _ (List.getElem_mem ht)).1;unfold en;rw [A3 (x:=m[t]++unV m.length t) (by unfold wmV; rw [List.getElem?_mapIdx,gEg ht]; rfl),F9 (by omega),A3 (m:=m) (gEg ht)]
theorem Atd (hm:MatW p D m) {t j:Nat} (ht:t<m.length):en (wmV m) t (D+j)=if j=t then 1 else 0:=by
 have hl:=(hm _ (List.getElem_mem ht)).1;unfold en;rw [A3 (x:=m[t]++unV m.length t) (by unfold wmV; rw [List.getElem?_mapIdx,gEg ht]; rfl),← hl,Ha,Ak9 ht]
theorem Ale (hp:isF p=true) (hm:MatW p D m) (hD:D<=1000) (hl:m.length<=1000):∃ d,G2 p (D:Int) m=some ((gjT p (wmV m) D).1,d,rdW D (gjT p (wmV m) D).2,alW D (gjT p (wmV m) D).2):=by
 have hb:=Gs hp;obtain ⟨d,h⟩:=Ao7 hp (Aod hb.1 hm) (Nat.le_refl D) (by omega) (by omega) (by rw [An9]; omega);rw [At4 hm,At3 hm] at h;refine ⟨d,?_⟩;unfold G2;rw [Aqq hm (by omega) (by omega),obs,As2 hl,obs,h,obs]
end
end
section
section
variable {p:Int} {n D:Nat} {m A T R:List (List Int)}
def Ahv (p:Int) (R T:List (List Int)) (b:List Int) (k:Nat):Nat->List Int
 | 0=>List.replicate k 0
 | i+1=>C0 p ((p - (Lb p R b i).getD (lv R i) 0) % p) (Ahv p R T b k i) (T.getD i [])
theorem Zx {b:List Int} {k:Nat} (hp:2<=p) (hT:MatW p k T):∀ i,i<=T.length->VecW p k (Ahv p R T b k i)
 | 0,_=>⟨by simp [Ahv],fun a ha=>by obtain rfl:=(List.mem_replicate.1 ha).2; omega⟩
 | i+1,hi=>Pm hp (Zx hp hT i (by omega)).1 (hT _ (Dd (by omega))).1
theorem Aox {b:List Int} {k:Nat} (hp:2<=p) (hT:MatW p k T) (hR:MatW p D R) (hb:VecW p D b) (h:K9 D R.length R (lv R)) (hl:R.length<=T.length):∀ i,i<=R.length->∀ j,j<k->Cg p ((Ahv p R T b k i).getD j 0) (sm i fun t=>b.getD (lv R t) 0*en T t j)
 | 0,_,j,_=>Cg.of Kk
 | i+1,hi,j,hj=>by
  have ih:=Aox hp hT hR hb h hl i (by omega) j hj
  have hk:Cg p ((Lb p R b i).getD (lv R i) 0) (b.getD (lv R i) 0):=by
   refine (Xz hp hR hb h i (by omega) _ (h.lt i (by omega))).trans (Cg.of ?_);rw [Je fun t ht=>by rw [h.zero i (by omega) t (by omega)]; omega];omega
  show Cg p ((C0 p _ _ _).getD j 0) _;rw [Wr (by rw [(Zx hp hT i (by omega)).1,(hT _ (Dd (show i<T.length by omega))).1])];have h1:Cg p ((p - (Lb p R b i).getD (lv R i) 0) % p) (-(b.getD (lv R i) 0)):=Cg.md.trans (((Cg.rf (a:=p)).sub hk).trans ⟨1,by omega⟩);refine Cg.md.trans ((ih.sub (h1.mul Cg.rf)).trans (Cg.of ?_));show _=sm i _+b.getD (lv R i) 0*en T i j;unfold en
  grind
theorem Ade {c r u:Nat} {pv:Nat->Nat} (h:K9 c r m pv) (hu:c<=u):K9 c ((m.map (·.take u)).take r).length ((m.map (·.take u)).take r) pv:=by
 have hrl:=h.rl;have hl:((m.map (·.take u)).take r).length=r:=by simp; omega
 have e:∀ i j,i<r->j<c->en ((m.map (·.take u)).take r) i j=en m i j:=fun i j hi hj=>by
  rw [P6 hi];unfold en;rw [Pp (f:=(·.take u)) List.take_nil,Hd (by omega)]
 rw [hl];refine ⟨by omega,h.lt,h.mono,fun i hi j hj=>?_,fun i hi=>?_,fun i hi k hk=>?_,fun i hi j _=>Ly (by omega)⟩
 ·have:=h.lt i hi;rw [e i j hi (by omega)]; exact h.low i hi j hj
 ·rw [e i _ hi (h.lt i hi)]; exact h.one i hi
 ·by_cases hkr:k<r
  ·rw [e k _ hkr (h.lt i hi)]; exact h.zero i hi k hk
  ·exact Ly (by omega)
theorem Amz {b:List Int} (hp:isF p=true) (hm:MatW p D m) (hb:VecW p D b) (hD:D<=1000) (hl:m.length<=1000) :
  ∃ c ok,Fv p (D:Int) m b=some (c,ok)∧VecW p m.length c∧(ok=true↔Cy p D m (fun j=>b.getD j 0))∧(ok=true->∀ j,j<D->Cg p (Re m (fun i=>c.getD i 0) j) (b.getD j 0)):=by
 have hb2:=Gs hp;obtain ⟨d,hred⟩:=Ale hp hm hD hl;have hW:=Aod hb2.1 hm;have hWl:=An9 (m:=m);obtain ⟨g1,g2,g3⟩:=Kp hb2.1 hW D;obtain ⟨⟨pv,hv⟩,hs⟩:=Agc hb2.1 (Ya hp) hW D;have hsW:∀ t,t<(gjT p (wmV m) D).2.length->Cy p (D+m.length) (wmV m) (en (gjT p (wmV m) D).2 t):=fun t ht=>(hs _).1 (B7 ht)
 have hsB:∀ t,t<(wmV m).length->Cy p (D+m.length) (gjT p (wmV m) D).2 (en (wmV m) t):=fun t ht=>(hs _).2 (B7 ht)
 have hRI0:=Ade hv (Nat.le_refl D);generalize hG:gjT p (wmV m) D=G at *;obtain ⟨r,M⟩:=G;dsimp only at *;have hrM:r<=M.length:=g2;have hAm:MatW p D (rdW D M):=g1.tk (Nat.le_add_right _ _);have hTm:MatW p m.length (alW D M):=by have:=g1.dr (u:=D); rwa [Nat.add_sub_cancel_left] at this
 have hRm:MatW p D ((rdW D M).take r):=fun x hx=>hAm x (List.mem_of_mem_take hx)
 have hRl:((rdW D M).take r).length=r:=by simp [rdW]; omega
 have hTl:(alW D M).length=M.length:=List.length_map ..;have hRI:K9 D ((rdW D M).take r).length ((rdW D M).take r) (lv ((rdW D M).take r)):=Lv hRI0 hRm (Nat.le_refl D)
 have eA:∀ i j,i<r->j<D->en ((rdW D M).take r) i j=en M i j:=fun i j hi hj=>by
  rw [P6 hi];unfold en rdW;rw [Pp (f:=(·.take D)) List.take_nil,Hd hj]
 have eT:∀ i j,en (alW D M) i j=en M i (D+j):=fun i j=>by
  unfold en alW;rw [Pp (f:=(·.drop D)) List.drop_nil,gDg,List.getElem?_drop,← gDg]
 have hlin:∀ i j,i<r->j<D->Cg p (en M i j) (sm m.length fun t=>en M i (D+t)*en m t j):=fun i j hi hj=>by
  refine (Aoe (W:=wmV m) hWl (fun t ht j' _=>Atd hm ht) (hsW i (by omega)) j hj).trans (Cg.of (G3 fun t ht=>?_));rw [Aqi hm ht hj]
 have hloop:Av (fun s_:Nat×List Int×List Int=>Ff (r,d,rdW D M,alW D M) p s_.1 s_.2.1 s_.2.2) 4611686018427387904 (0,List.replicate m.length 0,b)=some (Ahv p ((rdW D M).take r) (alW D M) b m.length r,Lb p ((rdW D M).take r) b r):=by
  refine Bg r (fun i=>(i,Ahv p ((rdW D M).take r) (alW D M) b m.length i,Lb p ((rdW D M).take r) b i)) (by omega) _ rfl (fun i hi=>?_) ?_
  ·have hx:(rdW D M)[i]? =some (((rdW D M).take r).getD i []):=by
    obtain ⟨x,hx⟩:=D6 (m:=rdW D M) (i:=i) (by simp [rdW]; omega);rw [hx,A3 (x:=x) (by rw [List.getElem?_take,if_pos hi]; exact hx)]
   have ht:(alW D M)[i]? =some ((alW D M).getD i []):=by
    obtain ⟨x,hx⟩:=D6 (m:=alW D M) (i:=i) (by omega);rw [hx,A3 hx]
   have hxv:=hRm _ (Dd (show i<((rdW D M).take r).length by omega));have htv:=hTm _ (Dd (show i<(alW D M).length by omega));have hrv:=Pv hb2.1 hRm hb i (by omega);have hov:=Zx (R:=(rdW D M).take r) (b:=b) hb2.1 hTm i (by omega);have hlt:=hRI.lt i (by omega);obtain ⟨q1,q2,q3⟩:=Dv hrv hlt;have hxl:=hxv.1;have htl:=htv.1;have hrl:=hrv.1;have hol:=hov.1
   try dsimp only
   unfold Ff;dsimp only
   rw [Be (by omega),cond_true,hx,obs,Vc _ (by omega),obs,C5 (by omega),Int.toNat_natCast,show (Lb p ((rdW D M).take r) b i)[Fq (((rdW D M).take r).getD i [])]? =some ((Lb p ((rdW D M).take r) b i).getD (lv ((rdW D M).take r) i) 0) from q3,obs,
    R0 hb2 hrv hxv (by omega) ⟨q1,q2⟩,obs,Ak ((Pm hb2.1 hrl hxl).1.trans hrl.symm),ht,obs,Ag5 hb2 ⟨q1,q2⟩,obs,R0 hb2 hov htv (by omega) (M2 hb2.1),obs,Ak ((Pm hb2.1 hol htl).1.trans hol.symm),Ak (by omega)]; rfl
  ·try dsimp only
   unfold Ff;rw [Bf (by dsimp only; omega),cond_false]
 have hcl:=Pv hb2.1 hRm hb r (by omega)
 have hspan:Cy p D ((rdW D M).take r) (fun j=>b.getD j 0)↔Cy p D m (fun j=>b.getD j 0):=by
  refine ⟨Lo fun i hi=>?_,Lo fun i hi=>?_⟩
  ·refine Df (Sf (F:=fun t j=>en M i (D+t)*en m t j) (k:=m.length) fun t ht=>H9 _ (B7 ht)) fun j hj=>?_
   rw [eA i j (by omega) hj];exact hlin i j (by omega) hj
  ·have h1:=Aah (Nat.le_add_right D m.length) (hsB i (by omega))
   have h2:Cy p D ((rdW D M).take r) (en (wmV m) i):=Lo (fun t ht=>by
    by_cases htr:t<r
    ·exact Df (B7 (i:=t) (by omega)) fun j hj=>Cg.of (eA t j htr hj).symm
    ·exact .zero fun j hj=>Cg.of (hv.tail t (by omega) j hj)) h1
   exact Df h2 fun j hj=>Cg.of (Aqi hm hi hj).symm
 refine ⟨Ahv p ((rdW D M).take r) (alW D M) b m.length r,(Lb p ((rdW D M).take r) b r).all fun x=>inR x 0 0,?_,Zx hb2.1 hTm r (by omega),?_,fun hok j hj=>?_⟩
 ·unfold Fv;have hbl:=hb.1;rw [hred,obs,Ak (by omega),Sd _ (by omega),obs,hloop,obs];dsimp only;rw [Zr _ _ _ (by rw [hcl.1]; omega),obs]
 ·have hz:((Lb p ((rdW D M).take r) b r).all fun x=>inR x 0 0)=true↔∀ j,j<D->Cg p ((Lb p ((rdW D M).take r) b r).getD j 0) 0:=by
   rw [List.all_eq_true];constructor
   ·intro h j hj;have hjl:j<(Lb p ((rdW D M).take r) b r).length:=by rw [hcl.1]; exact hj
    have:=Zi.1 (h _ (List.getElem_mem hjl));rw [A3 (gEg hjl)];exact Cg.of (by omega)
   ·intro h x hx;obtain ⟨j,hj,rfl⟩:=List.getElem_of_mem hx;have h1:=h j (by rw [hcl.1] at hj; exact hj);rw [A3 (gEg hj)] at h1;have:=h1.eq (K0 hcl hj) ⟨by omega,by omega⟩;exact Zi.2 (by omega)
  have h4:=Aml hb2.1 hRm hb hRI;rw [hRl] at h4;exact hz.trans (h4.trans hspan)
 ·have h4:=Aml hb2.1 hRm hb hRI;have hco:=fun i (hi:i<m.length)=>Aox hb2.1 hTm hRm hb hRI (by omega) r (by omega) i hi
  have h1:Cg p (Re m (fun i=>(Ahv p ((rdW D M).take r) (alW D M) b m.length r).getD i 0) j) (sm m.length fun i=>(sm r fun t=>b.getD (lv ((rdW D M).take r) t) 0*en M t (D+i))*en m i j) :=
   Jb fun i hi=>((hco i hi).trans (Cg.of (G3 fun t _=>by rw [eT]))).mul Cg.rf
  refine h1.trans ?_
  have h2:(sm m.length fun i=>(sm r fun t=>b.getD (lv ((rdW D M).take r) t) 0*en M t (D+i))*en m i j)=sm r fun t=>b.getD (lv ((rdW D M).take r) t) 0*sm m.length fun i=>en M t (D+i)*en m i j:=by
   rw [G3 (k:=m.length) (g:=fun i=>sm r fun t=>b.getD (lv ((rdW D M).take r) t) 0*(en M t (D+i)*en m i j)) fun i _=>?_,Ame]
   ·exact G3 fun t _=>Qb
   ·rw [Int.mul_comm,← Qb];exact G3 fun t _=>by grind
  rw [h2];refine (Jb fun t ht=>Cg.rf.mul (hlin t j ht hj).symm).trans ?_
  have h5:Cy p D ((rdW D M).take r) (fun j=>b.getD j 0):=by
   refine h4.1 fun j' hj'=>?_
   have hjl:j'<(Lb p ((rdW D M).take r) b ((rdW D M).take r).length).length:=by rw [(Pv hb2.1 hRm hb _ (Nat.le_refl _)).1]; exact hj'
   rw [hRl] at hjl ⊢;have:=Zi.1 (List.all_eq_true.1 hok _ (List.getElem_mem hjl));rw [A3 (gEg hjl)];exact Cg.of (by omega)
  have h6:=Ag1 hRI h5 j hj;rw [hRl] at h6;refine Cg.trans (Jb fun t ht=>?_) h6.symm;exact Cg.rf.mul (Cg.of (eA t j ht hj).symm)
def spV (p:Int) (n:Nat) (m:List (List Int)) (c:List Int):Nat->List Int
 | 0=>List.replicate n 0
 | i+1=>List.zipWith (fun a x=>(a+c.getD i 0*x) % p) (spV p n m c i) (m.getD i [])
theorem Ui {c:List Int} (hp:2<=p) (hm:MatW p n m):∀ i,i<=m.length->VecW p n (spV p n m c i)
 | 0,_=>⟨by simp [spV],fun a ha=>by obtain rfl:=(List.mem_replicate.1 ha).2; omega⟩
 | i+1,hi=>by
  have h1:=Ui (c:=c) hp hm i (by omega);have h2:=hm _ (Dd (show i<m.length by omega));refine ⟨by unfold spV; rw [List.length_zipWith,h1.1,h2.1]; omega,fun a ha=>?_⟩;obtain ⟨b,d,rfl⟩:=Akm ha;exact M2 hp
theorem Aoy {c:List Int} (hp:2<=p) (hm:MatW p n m):∀ i,i<=m.length->∀ j,j<n->Cg p ((spV p n m c i).getD j 0) (sm i fun t=>c.getD t 0*en m t j)
 | 0,_,j,_=>Cg.of Kk
 | i+1,hi,j,hj=>by
  have h1:=Ui (c:=c) hp hm i (by omega);have h2:=hm _ (Dd (show i<m.length by omega))
  have e:(spV p n m c (i+1)).getD j 0=((spV p n m c i).getD j 0+c.getD i 0*en m i j) % p:=by
   have k1:=(Dv h1 hj).2.2;have k2:=(Dv h2 hj).2.2;show (List.zipWith (fun a x=>(a+c.getD i 0*x) % p) (spV p n m c i) (m.getD i [])).getD j 0=_;unfold en;generalize spV p n m c i=X at *;rw [gDg,List.getElem?_zipWith,k1,k2]; rfl
  rw [e];exact Cg.md.trans ((Aoy hp hm i (by omega) j hj).add Cg.rf)
theorem All {c:List Int} (hp:2<=p∧p<=97) (hm:MatW p n m) (hc:VecW p m.length c) (hn:n<=1000) (hl:m.length<=1000):Gp p (n:Int) m c=some (spV p n m c m.length):=by
 unfold Gp;rw [Ak (by omega),Int.toNat_natCast]
 have key:Av (fun s_:Nat×List Int=>G6 m c p s_.1 s_.2) 4611686018427387904 (0,List.replicate n 0)=some (spV p n m c m.length):=by
  refine Bg m.length (fun i=>(i,spV p n m c i)) (by omega) _ rfl (fun i hi=>?_) ?_
  ·have h1:=Ui (c:=c) hp.1 hm i (by omega);have h2:=hm _ (List.getElem_mem hi);have hl1:=h1.1;have hl2:=h2.1;have hcc:=hc.1;have hci:=K0 hc (j:=i) (by omega)
   have hin:Av (fun s_:Nat×List Int=>Gy m[i] c i p s_.1 s_.2) 4611686018427387904 (0,spV p n m c i)=some (spV p n m c (i+1)):=by
    have hv:=Ui (c:=c) hp.1 hm (i+1) (by omega);have hvl:=hv.1;refine Vi (y:=spV p n m c (i+1)) (by omega) (by omega) (fun j hj z hz=>?_) ?_
    ·have a1:=K0 h1 hj;have a2:=K0 h2 (j:=j) (by omega);have a3:=Xh hp hci a2
     try dsimp only
     unfold Gy;rw [Be (by omega),cond_true,gEg (show j<m[i].length by omega),obs,hz,obs,gEg (show i<c.length by omega),obs,Ak (by omega),Ak (by omega),Bo (n:=c[i]'(by omega)*m[i][j]'(by omega)) (by omega) (by omega),Bo (by omega) (by omega),Int.tmod_eq_emod_of_nonneg (by omega)];congr 4;simp only [spV,List.getElem_zipWith,A3 (gEg (show i<c.length by omega)),A3 (m:=m) (gEg hi)]
    ·try dsimp only
     unfold Gy;rw [Bf (by omega),cond_false]
   try dsimp only
   unfold G6;rw [Be (by omega),cond_true,gEg hi,obs,hin,obs,Ak (by omega)]
  ·try dsimp only
   unfold G6;rw [Bf (by omega),cond_false]
 rw [key,obs]
def tuR (m:List (List Int)) (i q:Nat):List Int:=(m.take i).map (fun x=>x.getD q 0)++List.replicate (m.length - i) 0
def tuT (m:List (List Int)) (D i:Nat):List (List Int):=(List.range D).map (tuR m i)
theorem Aps (hm:MatW p D m) (hD:D<=1000) (hl:m.length<=1000):G9 (D:Int) m=some (trV m D):=by
 unfold G9;rw [Z9 (by omega) (by omega),obs,Int.toNat_natCast,Int.toNat_natCast];have htl:∀ i,(tuT m D i).length=D:=fun i=>by simp [tuT]
 have key:Av (fun s_:Nat×List (List Int)=>Gf m s_.1 s_.2) 4611686018427387904 (0,List.replicate D (List.replicate m.length 0))=some (trV m D):=by
  refine Bg m.length (fun i=>(i,tuT m D i)) (by omega) _ ?_ (fun i hi=>?_) ?_
  ·congr 1;apply List.ext_getElem
   ·simp [tuT]
   ·intro q h1 h2; simp [tuT,tuR]
  ·have hx:=hm _ (List.getElem_mem hi);have hxl:=hx.1
   have hin:Av (fun s_:Nat×List (List Int)=>F1 m[i] i s_.1 s_.2) 4611686018427387904 (0,tuT m D i)=some (tuT m D (i+1)):=by
    refine Bg D (fun q=>(q,(tuT m D (i+1)).take q++(tuT m D i).drop q)) (by omega) _ (by simp) (fun q hq=>?_) ?_
    ·have h1:((tuT m D (i+1)).take q).length=q:=by rw [List.length_take,htl]; omega
     have hg:=Jl (xs:=tuT m D i) (ys:=(tuT m D (i+1)).take q) (i:=q) (by rw [htl]; exact hq) h1;have e1:(tuT m D i)[q]'(by rw [htl]; exact hq)=tuR m i q:=by simp [tuT]
     rw [e1] at hg;have e2:(tuT m D (i+1))[q]? =some (tuR m (i+1) q):=by simp [tuT,hq]
     have hml:((m.take i).map fun x=>x.getD q 0).length=i:=by simp; omega
     have er:List.replicate (m.length - i) (0:Int)=0 :: List.replicate (m.length - (i+1)) 0:=by rw [show m.length - i=(m.length - (i+1))+1 by omega,List.replicate_succ]
     have e3:(tuR m i q)[i]? =some 0:=by
      unfold tuR;rw [List.getElem?_append_right (by omega),hml,Nat.sub_self,er]; rfl
     have e4:(tuR m i q).set i (m[i][q]'(by omega))=tuR m (i+1) q:=by
      unfold tuR;rw [List.set_append_right _ _ (by omega),hml,Nat.sub_self,er,List.take_add_one,gEg hi];simp only [List.set_cons_zero,Option.toList,List.map_append,List.map_cons,List.map_nil,List.append_assoc,List.singleton_append,A3 (gEg (show q<m[i].length by omega))]
     try dsimp only
     unfold F1;rw [Be (by omega),cond_true,gEg (show q<m[i].length by omega),obs,hg,obs,e3,obs,Ak (by omega),e4,Jq (by rw [htl]; exact hq) h1,List.take_add_one,e2]; rfl
    ·try dsimp only
     unfold F1;rw [Bf (by omega),cond_false,List.take_of_length_le (by rw [htl]; exact Nat.le_refl _),List.drop_of_length_le (by rw [htl]; exact Nat.le_refl _),List.append_nil]
   try dsimp only
   unfold Gf;rw [Be (by omega),cond_true,gEg hi,obs,hin,obs,Ak (by omega)]
  ·try dsimp only
   unfold Gf;rw [Bf (by omega),cond_false];congr 2;unfold tuT trV tuR;simp
 rw [key,obs]
end
end
section
section
variable {p:Int} {n:Nat} {E R:List (List Int)}
theorem Asy (x:List Int) (hx:x.length<=100000):K4 x=some ((Fq x:Nat):Int):=by
 unfold K4;have hle:Fq x<=x.length:=List.findIdx_le_length
 have h:Av (fun s_:Nat=>Ib x s_) 4611686018427387904 0=some (if Fq x=x.length then .next () else .out ((Fq x:Nat):Int)):=by
  refine Bg (Fq x) (fun i=>i) (by omega) _ rfl (fun i hi=>?_) ?_
  ·have h0:=List.not_of_lt_findIdx hi;have h1:x[i]'(by omega)=0:=by simpa using h0
   try dsimp only
   unfold Ib;rw [Be (by omega),cond_true,gEg (show i<x.length by omega),obs,h1,show ((0:Int) !=0)=false from rfl,cond_false,Ak (by omega)]
  ·unfold Ib;by_cases h:Fq x=x.length
   ·rw [Bf (by omega),cond_false,if_pos h]
   ·have h0:(x[Fq x]'(by omega) !=0)=true:=List.findIdx_getElem (w:=show Fq x<x.length by omega);rw [Be (by omega),cond_true,gEg (show Fq x<x.length by omega),obs,h0,cond_true,if_neg h]
 rw [h];by_cases h2:Fq x=x.length
 ·rw [if_pos h2]; show some _=some _; rw [h2]
 ·rw [if_neg h2]; rfl
theorem Apw (x:List Int):Ca (Y2 n) x=(List.range n).map (fun q=>x.getD (n - 1 - q) 0)++[x.getD n 0]:=by
 unfold Ca Y2;rw [List.map_append,List.map_map];congr 1
theorem Ao0 {x:List Int} (hx:x.length=n+1) (hn:n<=1000):Av (fun s_:Int×List Int=>C6 x s_.1 s_.2) 4611686018427387904 ((n:Int) - 1,[])=some ((List.range n).map fun q=>x.getD (n - 1 - q) 0):=by
 refine Bg n (fun t=>((n:Int) - 1 - (t:Int),(List.range t).map fun q=>x.getD (n - 1 - q) 0)) (by omega) _ (by simp) (fun t ht=>?_) ?_
 ·try dsimp only
  unfold C6;rw [Be (by omega),cond_true,C5 (by omega),show ((n:Int) - 1 - (t:Int)).toNat=n - 1 - t by omega,gEg (show n - 1 - t<x.length by omega),obs,Ak (by simp; omega),Bo (by omega) (by omega),List.range_succ,List.map_append];simp only [List.map_cons,List.map_nil,A3 (gEg (show n - 1 - t<x.length by omega))];rw [show (n:Int) - 1 - (t:Int) - 1=(n:Int) - 1 - ((t+1:Nat):Int) by omega]
 ·try dsimp only
  unfold C6;rw [Bf (by omega),cond_false]
theorem Anl (hE:MatW p (n+1) E) (hn1:1<=n) (hn:n<=1000) (hl:E.length<=1000):Av (fun s_:Nat×List (List Int)=>Ci E (n:Int) s_.1 s_.2) 4611686018427387904 (0,[])=some (Jj n E):=by
 have h:=Jk (body:=fun s_:Nat×List (List Int)=>Ci E (n:Int) s_.1 s_.2) E (Ca (Y2 n)) [] (F:=4611686018427387904) (by omega) (Jj n E) (fun i x h=>?_) ?_
 ·simpa using h
 ·have:=Al h;have hx:=(hE x (List.mem_of_getElem? h)).1
  try dsimp only
  unfold Ci;rw [Be (by omega),cond_true,h,obs,Bo (n:=(n:Int) - 1) (by omega) (by omega),Ao0 hx hn,obs,C5 (by omega),Int.toNat_natCast,gEg (show n<x.length by omega),obs,Ak (by simp; omega),Ak (by simp; omega),obs,Ak (by omega),Apw,A3 (x:=x[n]'(by omega)) (gEg (show n<x.length by omega))]
 ·try dsimp only
  unfold Ci;rw [Bf (by omega),cond_false,List.nil_append]; rfl
def fsT (n:Nat) (R:List (List Int)):Nat->List Int
 | 0=>List.replicate n 0
 | i+1=>(fsT n R i).set (n - 1 - lv R i) (en R i n)
theorem Vf:∀ i,(fsT n R i).length=n
 | 0=>by simp [fsT]
 | i+1=>by unfold fsT; rw [List.length_set,Vf i]
theorem Ap0 (hp:2<=p) (hR:MatW p (n+1) R):∀ i,inV p (fsT n R i)
 | 0=>fun a ha=>by obtain rfl:=(List.mem_replicate.1 ha).2; omega
 | i+1=>fun a ha=>by
  rcases List.mem_or_eq_of_mem_set ha with ha | rfl
  ·exact Ap0 hp hR i a ha
  ·exact Apy hp hR
theorem Amh (hi:∀ i k,i<R.length->k<R.length->n - 1 - lv R i=n - 1 - lv R k->i=k) (hn:1<=n):∀ i,i<=R.length->∀ t,t<i->(fsT n R i).getD (n - 1 - lv R t) 0=en R t n
 | 0,_,t,ht=>by omega
 | i+1,hl,t,ht=>by
  unfold fsT;rw [Pn (by rw [Vf]; omega)];by_cases e:i=t
  ·subst e; rw [if_pos rfl]
  ·rw [if_neg fun h=>e (hi i t (by omega) (by omega) h)];exact Amh hi hn i (by omega) t (by omega)
theorem Ahs {q:Nat} (hn:1<=n):∀ i,(∀ t,t<i->n - 1 - lv R t≠q)->(fsT n R i).getD q 0=0
 | 0,_=>Kk
 | i+1,h=>by
  unfold fsT;rw [Pn (by rw [Vf]; omega),if_neg (h i (by omega))];exact Ahs hn i fun t ht=>h t (by omega)
theorem Yn (hp:isF p=true) (hE:MatW p (n+1) E) (hn1:1<=n) (hn:n<=1000) (hl:E.length<=1000) :
  ∃ (ok:Bool) (u:List Int),Cl p E (n:Int)=some (if ok then (u,true) else ([],false))∧VecW p n u∧(ok=false->∀ f,¬ L4 p n E f) ∧
   (ok=true->L4 p n E (fun j=>u.getD j 0)∧∀ f,C8 p n E f->∀ q,q<n->(∀ j,j<q->Cg p (f j) 0)->¬ Cg p (f q) 0->u.getD q 0=0):=by
 have hb:=Gs hp;have hrm:=Zl hb.1 hE;have hRm:=Xt (n:=n+1) hb.1 hrm;have hRI:=Abh hb.1 (Ya hp) hE;have hnone:=fun f i=>Ak6 (f:=f) (i:=i) hb.1 (Ya hp) hE
 have hsome:=fun u=>Aj1 (u:=u) hb.1 (Ya hp) hE
 have hRl:(gj p (n+1) (Jj n E)).length<=E.length:=by
  have h1:=Kp hb.1 hrm (n+1);rw [Ae7 hb.1 hrm];have h2:=h1.2.1;rw [h1.2.2] at h2
  simpa [Jj] using h2
 unfold Cl;rw [Anl hE hn1 hn hl,obs,Zt (by omega),obs,Int.toNat_natCast,Bo (n:=(n:Int)+1) (by omega) (by omega),show (n:Int)+1=((n+1:Nat):Int) by omega,Ani hp hrm (by omega) (by simp [Jj]; omega),obs];generalize gj p (n+1) (Jj n E)=R at *;have hrow:∀ i,i<R.length->R[i]? =some (R.getD i [])∧VecW p (n+1) (R.getD i []):=fun i hi=>⟨by rw [gEg hi,A3 (gEg hi)],hRm _ (Dd hi)⟩
 have hbody:∀ i,i<R.length->Bl R (n:Int) i (fsT n R i)=some (if lv R i=n then .out (.out ([],false)) else .next (i+1,fsT n R (i+1))):=fun i hi=>by
  obtain ⟨g1,g2⟩:=hrow i hi;have hlt:=hRI.lt i hi;have hgl:=g2.1;unfold Bl;rw [Be (by omega),cond_true,g1,obs,Asy _ (by omega),obs];show (cond (((lv R i:Nat):Int)==(n:Int)) _ _)=_;by_cases e:lv R i=n
  ·rw [if_pos e,e,beq_self_eq_true,cond_true]
  ·have hlv:lv R i=Fq (R.getD i []):=rfl;have hx:Ex (R.getD i []) (n:Int)=some (en R i n):=by rw [C5 (by omega),Int.toNat_natCast]; exact (Dv g2 (by omega)).2.2
   obtain ⟨z,hz⟩:=D6 (m:=fsT n R i) (i:=n - 1 - lv R i) (by rw [Vf]; omega);have hz':Ex (fsT n R i) ((n:Int) - 1 - ((Fq (R.getD i []):Nat):Int))=some z:=by rw [C5 (by omega),← hlv,show ((n:Int) - 1 - ((lv R i:Nat):Int)).toNat=n - 1 - lv R i by omega]; exact hz
   rw [if_neg e,show (((lv R i:Nat):Int)==(n:Int))=false from by rw [beq_eq_false_iff_ne]; omega,cond_false,hx,obs,Bo (n:=(n:Int) - 1) (by omega) (by omega),Bo (n:=(n:Int) - 1 - ((Fq (R.getD i []):Nat):Int)) (by omega) (by omega),hz',obs,obs,Ak (by omega),← hlv,show ((n:Int) - 1 - ((lv R i:Nat):Int)).toNat=n - 1 - lv R i by omega]; rfl
 by_cases hex:∃ i,i<R.length∧lv R i=n
 ·refine ⟨false,List.replicate n 0,?_,⟨by simp,fun a ha=>by obtain rfl:=(List.mem_replicate.1 ha).2; omega⟩,fun _ f=>?_,fun h=>(by cases h)⟩
  ·have h3:Av (fun s_:Nat×List Int=>Bl R (n:Int) s_.1 s_.2) 4611686018427387904 (0,List.replicate n 0)=some (Ctl.out ([],false)):=by
    refine O9 R.length (fun i s=>s=(i,fsT n R i)∧∀ j,j<i->lv R j≠n) (by omega) _ ⟨rfl,fun j hj=>by omega⟩ ?_ ?_
    ·rintro i s hi ⟨rfl,h⟩;by_cases e:lv R i=n
     ·exact .inr (by show Bl R _ _ _=_; rw [hbody i hi,if_pos e])
     ·refine .inl ⟨_,by show Bl R _ _ _=_; rw [hbody i hi,if_neg e],rfl,fun j hj=>?_⟩;by_cases ej:j=i
      ·subst ej; exact e
      ·exact h j (by omega)
    ·rintro s ⟨rfl,h⟩;obtain ⟨i,hi,e⟩:=hex;exact (h i hi e).elim
   rw [h3]; rfl
  ·obtain ⟨i,hi,e⟩:=hex;exact hnone f i hi e
 ·have hne:∀ i,i<R.length->lv R i≠n:=fun i hi e=>hex ⟨i,hi,e⟩
  have hlt:∀ i,i<R.length->lv R i<n:=fun i hi=>by have:=hRI.lt i hi; have:=hne i hi; omega
  have hinj:∀ i k,i<R.length->k<R.length->n - 1 - lv R i=n - 1 - lv R k->i=k:=fun i k hi hk e=>by
   have:=hlt i hi;have:=hlt k hk;rcases Nat.lt_trichotomy i k with a | a | a
   ·have:=hRI.mono i k a hk; omega
   ·exact a
   ·have:=hRI.mono k i a hi; omega
  refine ⟨true,fsT n R R.length,?_,⟨Vf _,Ap0 hb.1 hRm _⟩,fun h=>(by cases h),fun _=>?_⟩
  ·have h3:Av (fun s_:Nat×List Int=>Bl R (n:Int) s_.1 s_.2) 4611686018427387904 (0,List.replicate n 0)=some (Ctl.next (fsT n R R.length)):=by
    refine Bg R.length (fun i=>(i,fsT n R i)) (by omega) _ rfl (fun i hi=>?_) ?_
    ·show Bl R _ _ _=_;rw [hbody i hi,if_neg (hne i hi)]
    ·show Bl R _ _ _=_;unfold Bl;rw [Bf (by omega),cond_false]
   rw [h3]; rfl
  ·have h:=hsome (fun j=>(fsT n R R.length).getD j 0) hne (fun i hi=>Amh hinj hn1 _ (Nat.le_refl _) i hi) (fun q hq h=>Ahs hn1 _ h);exact h
theorem Ama {v a:Int} (hv:0<=v∧v<(n:Int)) (hn:n<=1000):If (n:Int) v a=some (unV n v.toNat++[a]):=by
 unfold If;obtain ⟨k,rfl⟩:=Int.eq_ofNat_of_zero_le hv.1;have hl:(unV n k).length=n:=by simp [unV]
 rw [As5 (by omega) hn,obs,Ak (by omega),Int.toNat_natCast]
end
end
section
theorem Aiq (xs:List (Int×Int×Int)) {v:Int} (hv:0<=v∧v<=1048576) (hx:xs.length<=9223372036854775807):Gh xs v=some (szV v xs.length):=by
 unfold Gh szV;rw [Bo (by omega) (by omega)];by_cases h:v<xs.length
 ·rw [Be (by omega),if_pos h]; rfl
 ·rw [Bf (by omega),if_neg h]; rfl
theorem Ajp (xs:List (Int×Int×Int)) (hx:xs.length<=1073741824):F0 xs=some xs:=by
 unfold F0;rw [Ak (by omega)]
 have h:Av (fun s_:Nat×List (Int×Int×Int)=>D9 xs s_.1 s_.2) 4611686018427387904 (0,List.replicate xs.length ((0,0,0):Int×Int×Int))=some xs:=by
  refine Bg xs.length (fun i=>(i,xs.take i++List.replicate (xs.length - i) (0,0,0))) (by omega) xs (by simp) (fun i hi=>?_) ?_
  ·have hx:=gEg hi
   try dsimp only
   unfold D9 Jh;rw [Be (by omega),cond_true,hx,obs,obs,Ol hi,obs,Ak (by omega),Pd hx]
  ·try dsimp only
   unfold D9;rw [Bf (by omega),cond_false];simp
 rw [h]; rfl
theorem Ai4 (xs:List (Int×Int×Int)) (hx:xs.length<=1073741824):F3 xs xs=some true:=by
 unfold F3
 have h:Av (fun s_:Nat=>D7 xs xs s_) 4611686018427387904 0=some (.next ()):=by
  refine Bg xs.length (fun i=>i) (by omega) _ rfl (fun i hi=>?_) ?_
  ·have hx:=gEg hi
   try dsimp only
   unfold D7 Jd;rw [Be (by omega),cond_true,hx,obs,obs];simp only [bne_self_eq_false,cond_false,obs,Bool.not_true];rw [Ak (by omega)]
  ·try dsimp only
   unfold D7;rw [Bf (by omega),cond_false]
 rw [h,bne_self_eq_false,cond_false]; rfl
theorem Acz (xs:List (Int×Int×Int)) {v:Int} (hv:0<=v∧v<=1152921504606846976) (hx:xs.length<=1073741824) :
  ∃ ys,Ew xs v=some (ys,v+3*xs.length)∧ys.length=xs.length:=by
 refine ⟨(List.range xs.length).map fun j:Nat=>(v+3*(j:Int),v+3*(j:Int)+1,v+3*(j:Int)+1+1),?_,by simp⟩
 ·unfold Ew
  have h:Av (fun s_:Int×Nat×List (Int×Int×Int)=>Dl s_.1 s_.2.1 s_.2.2) 4611686018427387904 (v,0,xs)=some (v+3*xs.length,(List.range xs.length).map fun j:Nat=>(v+3*(j:Int),v+3*(j:Int)+1,v+3*(j:Int)+1+1)):=by
   refine Bg xs.length (fun i=>(v+3*i,i,(List.range i).map (fun j:Nat=>(v+3*(j:Int),v+3*(j:Int)+1,v+3*(j:Int)+1+1))++xs.drop i)) (by omega) _ (by simp) (fun i hi=>?_) ?_
   ·have hl:((List.range i).map fun j:Nat=>(v+3*(j:Int),v+3*(j:Int)+1,v+3*(j:Int)+1+1)).length=i:=by simp
    try dsimp only
    unfold Dl;have e1:wI (v+3*i+1)=v+3*i+1:=Bo (by omega) (by omega);have e2:wI (v+3*i+1+1)=v+3*i+1+1:=Bo (by omega) (by omega);have e3:wI (v+3*i+1+1+1)=v+3*i+1+1+1:=Bo (by omega) (by omega);rw [Be (by rw [List.length_append,hl,List.length_drop]; omega),cond_true,Jl hi hl,obs,e1,e2,e3,Jq hi hl,Aa8 hl,obs,Abc hl,Aa8 hl,obs,Abc hl,Ak (by omega),List.range_succ,List.map_append];simp [Int.mul_add,Int.add_assoc]
   ·try dsimp only
    unfold Dl;rw [Bf (by simp),cond_false];simp
  rw [h]; rfl
theorem Aiv (n:Int) (b:List (Int×Int×Int)) (l r:List Int) {v:Int} (hv:0<=v∧v<=1048576) (hb:b.length<=9223372036854775807) (hl:l.length<=9223372036854775807) (hr:r.length<=9223372036854775807):Gb n b l r v=some (szV v (b.length+l.length+r.length)):=by
 unfold Gb;rw [Aiq b hv hb,obs];by_cases h1:v<b.length
 ·rw [show szV v b.length= -1 from if_pos h1,show szV v (b.length+l.length+r.length)= -1 from if_pos (by omega)]; rfl
 rw [show szV v b.length=v - b.length from if_neg h1,Bf (by omega),cond_false,Ai0 l (by omega) hl,obs];by_cases h2:v - b.length<l.length
 ·rw [show szV (v - b.length) l.length= -1 from if_pos h2,show szV v (b.length+l.length+r.length)= -1 from if_pos (by omega)]; rfl
 rw [show szV (v - b.length) l.length=v - b.length - l.length from if_neg h2,Bf (by omega),cond_false,Ai0 r (by omega) hr,obs];by_cases h3:v - b.length - l.length<r.length
 ·rw [show szV (v - b.length - l.length) r.length= -1 from if_pos h3,show szV v (b.length+l.length+r.length)= -1 from if_pos (by omega)]; rfl
 rw [show szV (v - b.length - l.length) r.length=v - b.length - l.length - r.length from if_neg h3,Bf (by omega),cond_false,show szV v (b.length+l.length+r.length)=v - b.length - l.length - r.length from by unfold szV; rw [if_neg (by omega)]; omega]
theorem Ai7 (n:Int) (b:List (Int×Int×Int)) (l r:List Int) (hb:b.length<=1073741824) (hl:l.length<=1073741824) (hr:r.length<=1073741824):C7 n b l r=some (n,b,l,r):=by
 unfold C7;rw [Ajp b hb,Wa l hl,Wa r hr]; rfl
theorem Ahz (n:Int) (b:List (Int×Int×Int)) (l r:List Int) (hb:b.length<=1073741824) (hl:l.length<=1073741824) (hr:r.length<=1073741824):Gi n b l r n b l r=some true:=by
 unfold Gi;rw [Ai4 b hb,Rd l hl,Rd r hr,bne_self_eq_false]; rfl
theorem Ads (n:Int) (b:List (Int×Int×Int)) (l r:List Int) {v:Int} (hv:0<=v∧v<=576460752303423488) (hb:b.length<=1073741824) (hl:l.length<=1073741824) (hr:r.length<=1073741824) :
  ∃ b' l' r',∃ u:Int,v<=u∧u<=v+8589934592∧Ey n b l r v=some (b',l',r',u)∧b'.length=b.length∧l'.length=l.length∧r'.length=r.length:=by
 obtain ⟨b',m1,n1⟩:=Acz b (v:=v) (by omega) hb;obtain ⟨l',m2,n2,k2⟩:=M4 l (v:=v+3*b.length) (by omega) hl;obtain ⟨r',m3,n3,k3⟩:=M4 r (v:=v+3*b.length+l.length) (by omega) hr;refine ⟨b',l',r',v+3*b.length+l.length+r.length,by omega,by omega,?_,n1,n2,n3⟩
 ·unfold Ey;rw [m1,obs,Ak n1,m2,obs,Ak n2,m3,obs,Ak n3]
end
section
end
section
section
variable {p nn:Int} {n:Nat} {bs:List (Int×Int×Int)} {l r x y:List Int} {M:List (List Int)}
theorem Arz (hM:MatW p n M) {cur:List Int}:(Gx p M l r).map (fun row=>row.take n++[-(Ji cur (row.drop n) % p) % p])=M.mapIdx (eqT p l r cur):=by
 apply List.ext_getElem
 ·simp [Gx]
 ·intro i h1 h2;have hi:i<M.length:=by simpa using h2
  have hl:=(hM _ (List.getElem_mem hi)).1;simp only [Gx,List.getElem_map,List.getElem_mapIdx];have e0:Acc p l r i M[i]=M[i]++(Dt l i (p - 1)++Dt r i 1):=List.append_assoc ..;rw [e0,List.take_left' hl,List.drop_left' hl]; rfl
theorem Aqs (hp:2<=p) (hM:MatW p n M) (hx:inV p x) (hy:inV p y):MatW p (n+1) (Q8 p n M l r x y):=by
 have hg:∀ {z:List Int} {i:Nat},inV p z->0<=z.getD i 0∧z.getD i 0<p:=fun {z i} hz=>by
  by_cases hi:i<z.length
  ·rw [A3 (gEg hi)]; exact hz _ (List.getElem_mem hi)
  ·rw [gDg,List.getElem?_eq_none (by omega)]; simp; omega
 have hfx:∀ {z:List Int} {i:Nat} {v:Int},inV p z->VecW p (n+1) (P8 n z i v):=fun {z i v} hz=>by
  have h:=Alx (p:=p) (n:=n) (k:=v.toNat) hp;refine ⟨by unfold P8; rw [List.length_append,h.1]; rfl,fun a ha=>?_⟩;rcases List.mem_append.1 ha with ha | ha
  ·exact h.2 a ha
  ·obtain rfl:=List.mem_singleton.1 ha; exact hg hz
 intro z hz;unfold Q8 at hz;rcases List.mem_append.1 hz with hz | hz
 ·rcases List.mem_append.1 hz with hz | hz
  ·obtain ⟨i,hi,rfl⟩:=List.mem_mapIdx.1 hz;have h:=hM _ (List.getElem_mem hi);refine ⟨by unfold eqT; rw [List.length_append,h.1]; rfl,fun a ha=>?_⟩;rcases List.mem_append.1 ha with ha | ha
   ·exact h.2 a ha
   ·obtain rfl:=List.mem_singleton.1 ha; exact M2 hp
  ·obtain ⟨i,hi,rfl⟩:=List.mem_mapIdx.1 hz; exact hfx hx
 ·obtain ⟨i,hi,rfl⟩:=List.mem_mapIdx.1 hz; exact hfx hy
theorem Anp (hp:2<=p∧p<=97) (hM:MatW p n M) (hMl:M.length=n) (hn:n<=100) (hl:l.length<=6) (hr:r.length<=6) (il:∀ v∈l,0<=v∧v<(n:Int)) (ir:∀ v∈r,0<=v∧v<(n:Int))
  (hx:x.length=2*l.length) (hy:y.length=2*r.length) (hxi:inV p x) (hyi:inV p y) :
  ∃ E1 E2,Av (fun s_:Nat×List (List Int)=>Bp (Gx p M l r) (n:Int) p (x.drop l.length++y.drop r.length) s_.1 s_.2) 4611686018427387904 (0,[])=some E1 ∧
   Av (fun s_:Nat×List (List Int)=>Bw l x (n:Int) s_.1 s_.2) 4611686018427387904 (0,E1)=some E2 ∧
   Av (fun s_:Nat×List (List Int)=>Bx r y (n:Int) s_.1 s_.2) 4611686018427387904 (0,E2)=some (Q8 p n M l r x y):=by
 have hS:=Ag2 (l:=l) (r:=r) hp.1 hM;have hSl:=Zy (p:=p) (M:=M) (l:=l) (r:=r)
 have hci:inV p (x.drop l.length++y.drop r.length):=fun a ha=>by
  rcases List.mem_append.1 ha with ha | ha
  ·exact hxi a (List.mem_of_mem_drop ha)
  ·exact hyi a (List.mem_of_mem_drop ha)
 have hcl:(x.drop l.length++y.drop r.length).length=l.length+r.length:=by simp; omega
 have h1:Av (fun s_:Nat×List (List Int)=>Bp (Gx p M l r) (n:Int) p (x.drop l.length++y.drop r.length) s_.1 s_.2) 4611686018427387904 (0,[])=some (M.mapIdx (eqT p l r (x.drop l.length++y.drop r.length))):=by
  rw [← Arz hM];have h:=Jk (body:=fun s_:Nat×List (List Int)=>Bp (Gx p M l r) (n:Int) p (x.drop l.length++y.drop r.length) s_.1 s_.2) (Gx p M l r) (fun row=>row.take n++[-(Ji (x.drop l.length++y.drop r.length) (row.drop n) % p) % p]) [] (F:=4611686018427387904) (by omega) ((Gx p M l r).map fun row=>row.take n++[-(Ji (x.drop l.length++y.drop r.length) (row.drop n) % p) % p]) (fun i z h=>?_) ?_
  ·simpa using h
  ·have:=Al h;have hz:=hS z (List.mem_of_getElem? h);have hzl:=hz.1;have hd:inV p (z.drop n):=fun a ha=>hz.2 a (List.mem_of_mem_drop ha)
   have hmb:=M2 (x:=Ji (x.drop l.length++y.drop r.length) (z.drop n)) hp.1
   try dsimp only
   unfold Bp
   rw [Be (by omega),cond_true,h,obs,Ak (by omega),Int.toNat_natCast,Amu _ (by simp; try omega),obs,Ak (by omega),List.take_of_length_le (by simp; try omega),Atw hp hci hd (by simp; try omega) (by omega),obs,Bo (by omega) (by omega),Ab9 hp,obs,Int.zero_sub,
    Ak (by simp; try omega),Ak (by simp; try omega),Ak (by omega)]
  ·try dsimp only
   unfold Bp;rw [Bf (by omega),cond_false,List.nil_append]
 refine ⟨_,M.mapIdx (eqT p l r (x.drop l.length++y.drop r.length))++l.mapIdx (P8 n x),h1,?_,?_⟩
 ·have hbl:(M.mapIdx (eqT p l r (x.drop l.length++y.drop r.length))).length=n:=by simp [hMl]
  refine Bg l.length (fun i=>(i,M.mapIdx (eqT p l r (x.drop l.length++y.drop r.length))++(l.mapIdx (P8 n x)).take i)) (by omega) _ (by simp) (fun i hi=>?_) ?_
  ·have hv:=il _ (List.getElem_mem hi)
   try dsimp only
   unfold Bw;rw [Be (by omega),cond_true,gEg hi,obs,gEg (show i<x.length by omega),obs,Ama hv (by omega),obs,Ak (by simp; omega),Ak (by omega),List.take_add_one,List.getElem?_mapIdx,gEg hi,List.append_assoc];simp only [Option.map_some,Option.toList,P8,A3 (gEg (show i<x.length by omega))]
  ·try dsimp only
   unfold Bw;rw [Bf (by omega),cond_false,List.take_of_length_le (by simp)]
 ·have hbl:(M.mapIdx (eqT p l r (x.drop l.length++y.drop r.length))++l.mapIdx (P8 n x)).length=n+l.length:=by simp [hMl]
  refine Bg r.length (fun i=>(i,(M.mapIdx (eqT p l r (x.drop l.length++y.drop r.length))++l.mapIdx (P8 n x))++(r.mapIdx (P8 n y)).take i)) (by omega) _ (by simp) (fun i hi=>?_) ?_
  ·have hv:=ir _ (List.getElem_mem hi)
   try dsimp only
   unfold Bx;rw [Be (by omega),cond_true,gEg hi,obs,gEg (show i<y.length by omega),obs,Ama hv (by omega),obs,Ak (by rw [List.length_append,hbl,List.length_take,List.length_mapIdx]; omega),Ak (by omega),List.take_add_one,List.getElem?_mapIdx,gEg hi,List.append_assoc];simp only [Option.map_some,Option.toList,P8,A3 (gEg (show i<y.length by omega)),List.append_assoc]
  ·try dsimp only
   unfold Bx;rw [Bf (by omega),cond_false,List.take_of_length_le (by simp)]; rfl
theorem Aca {n:Nat} {m:List (List Int)} (hp:2<=p):MatW p n (Mc p n m):=Xt hp (Rv hp)
theorem Aiy {n:Nat} {m:List (List Int)} (hp:2<=p):(Mc p n m).length<=n:=by
 unfold Mc;have h:=Kp hp (Rv (n:=n) (R:=gj p n m) hp) n;rw [Ae7 hp (Rv hp)];have:=Ahf (p:=p) (n:=n) (R:=gj p n m);omega
theorem Ajn {n:Nat} {m:List (List Int)} (hp:isF p=true) (hm:MatW p n m):(∀ f,Cy p n (Mc p n m) f↔C8 p n m f)∧K9 n (Mc p n m).length (Mc p n m) (lv (Mc p n m)):=by
 have hb:=Gs hp;obtain ⟨⟨pv,h1⟩,h2⟩:=Sj hb.1 (Ya hp) (Rv (n:=n) (R:=gj p n m) hb.1);exact ⟨fun f=>(h2 f).trans (Apk hp hm),Lv h1 (Aca hb.1) (Nat.le_refl n)⟩
theorem Asc {F:List (List Int)} {v:List Int} (hp:2<=p∧p<=97) (hF:MatW p n F) (hv:VecW p n v) (hR:K9 n F.length F (lv F)) (hn:n<=1000) (hl:F.length<=1000) :
  Av (fun s_:Nat×List Int=>Cc F p s_.1 s_.2) 4611686018427387904 (0,v)=some (Lb p F v F.length):=by
 refine Bg F.length (fun i=>(i,Lb p F v i)) (by omega) _ rfl (fun i hi=>?_) ?_
 ·have hx:F[i]? =some (F.getD i []):=by rw [gEg hi,A3 (gEg hi)]
  have hxv:=hF _ (Dd hi);have hcv:=Pv hp.1 hF hv i (by omega);obtain ⟨q1,q2,q3⟩:=Dv hcv (hR.lt i hi);have hxl:=hxv.1;have hcl:=hcv.1
  try dsimp only
  unfold Cc;rw [Be (by omega),cond_true,hx,obs,Vc _ (by omega),obs,C5 (by omega),Int.toNat_natCast,show (Lb p F v i)[Fq (F.getD i [])]? =some ((Lb p F v i).getD (lv F i) 0) from q3,obs,R0 hp hcv hxv (by omega) ⟨q1,q2⟩,obs,Ak ((Pm hp.1 hcl hxl).1.trans hcl.symm),Ak (by omega)]; rfl
 ·try dsimp only
  unfold Cc;rw [Bf (by omega),cond_false]
theorem Amw (G:Alw p nn bs l r) (hx:x.length=2*l.length) (hy:y.length=2*r.length) (hxi:inV p x) (hyi:inV p y) :
  ∃ v:List Int×Bool,v.1.length<=1048576 ∧
  (Option.bind (E7 p nn bs l r) fun y14 =>
   Option.bind (Av (fun s_:Nat×List (List Int)=>By y14 nn bs l r s_.1 s_.2) 4611686018427387904 (0,([]:List (List Int)))) fun l16_m11_1 =>
   Option.bind (Cw x) fun y29 =>
   og (y29.length+y.length<=1073741824∧(y29.length+y.length)*8<=140737488355328) <|
   Option.bind (Fv p (wI (((x.length:Nat):Int)+((y.length:Nat):Int))) l16_m11_1 (y29++y)) fun y31 =>
   cond (!y31.2)
    (some ([],false))
    (Option.bind (Gp p (wI (wI (nn+((l.length:Nat):Int))+((r.length:Nat):Int))) y14 y31.1) fun y38 =>
    og ((0:Int)<=0∧0<=nn∧nn<=((y38.length:Nat):Int)) <|
    Option.bind (Option.bind (G9 (wI (((x.length:Nat):Int)+((y.length:Nat):Int))) l16_m11_1) fun y43 =>
     Option.bind (Fn p ((y14.length:Nat):Int) y43) fun y44 =>
     Av (fun s_:Nat×List (List Int)=>Bv y44 p nn l r y14 s_.1 s_.2) 4611686018427387904 (0,([]:List (List Int)))) fun l41_m18 =>
    Option.bind (Option.bind (Dh p nn l41_m18) fun y58 =>
     Av (fun s_:Nat×List Int=>Cc y58 p s_.1 s_.2) 4611686018427387904 (0,y38.take nn.toNat)) fun l56_m17 =>
    Option.bind (Cw l56_m17) fun y72 =>
    some (y72,true)))=some v ∧
  (Option.bind (Ef ([x.drop l.length,y.drop r.length])) fun y15 =>
   Option.bind (Option.bind (B0 nn bs l r p) fun y19 =>
    Av (fun s_:Nat×List (List Int)=>Bp y19 nn p y15 s_.1 s_.2) 4611686018427387904 (0,([]:List (List Int)))) fun l17_m13 =>
   Option.bind (Av (fun s_:Nat×List (List Int)=>Bw l x nn s_.1 s_.2) 4611686018427387904 (0,l17_m13)) fun l35_m13 =>
   Option.bind (Av (fun s_:Nat×List (List Int)=>Bx r y nn s_.1 s_.2) 4611686018427387904 (0,l35_m13)) fun l48_m13 =>
   Option.bind (Cl p l48_m13 nn) fun y62 =>
   some (y62.1,y62.2))=some v:=by
 have hp:=Gs G.fp;have n1:=G.n1;have n2:=G.n2;have hll:=G.ll;have hlr:=G.lr;have il:=G.il;have ir:=G.ir;obtain ⟨M,hM,hMl,hbal,hsol⟩:=Aoc G;obtain ⟨n,rfl⟩:=Int.eq_ofNat_of_zero_le (show 0<=nn by omega);rw [Int.toNat_natCast] at *;have hS:=Ag2 (l:=l) (r:=r) hp.1 hM;have hN:=Aca (p:=p) (n:=n+l.length+r.length) (m:=Gx p M l r) hp.1;have hNl:=Aiy (p:=p) (n:=n+l.length+r.length) (m:=Gx p M l r) hp.1;obtain ⟨hBs,hBR⟩:=Ajn (m:=Gx p M l r) G.fp hS;have hio:InO (n+l.length+r.length) (Dq n l r):=by have:=Arx (nn:=(n:Int)) n1 il ir; rwa [Int.toNat_natCast] at this
 have hol:=An7 (n:=n) (l:=l) (r:=r)
 -- the program's side
 obtain ⟨E1,E2,e1,e2,e3⟩:=Anp hp hM hMl (by omega) hll hlr il ir hx hy hxi hyi;have hE:=Aqs (l:=l) (r:=r) hp.1 hM hxi hyi;have hEl:(Q8 p n M l r x y).length=n+l.length+r.length:=by simp [Q8,hMl]; omega
 obtain ⟨ok',u,f1,f2,f3,f4⟩:=Yn G.fp hE (by omega) (by omega) (by omega)
 have himpl:(Option.bind (Ef ([x.drop l.length,y.drop r.length])) fun y15 =>
   Option.bind (Option.bind (B0 (n:Int) bs l r p) fun y19 =>
    Av (fun s_:Nat×List (List Int)=>Bp y19 (n:Int) p y15 s_.1 s_.2) 4611686018427387904 (0,([]:List (List Int)))) fun l17_m13 =>
   Option.bind (Av (fun s_:Nat×List (List Int)=>Bw l x (n:Int) s_.1 s_.2) 4611686018427387904 (0,l17_m13)) fun l35_m13 =>
   Option.bind (Av (fun s_:Nat×List (List Int)=>Bx r y (n:Int) s_.1 s_.2) 4611686018427387904 (0,l35_m13)) fun l48_m13 =>
   Option.bind (Cl p l48_m13 (n:Int)) fun y62 =>
   some (y62.1,y62.2))=some (if ok' then (u,true) else ([],false)):=by
  rw [Ad6 _ _ (by simp; omega) (by simp; omega),obs,hbal,obs,e1,obs,e2,obs,e3,obs,f1,obs]
 -- the reference's side
 have hBl:(Mc p (n+l.length+r.length) (Gx p M l r)).length<=100:=by omega
 have hpart:Av (fun s_:Nat×List (List Int)=>By (Mc p (n+l.length+r.length) (Gx p M l r)) (n:Int) bs l r s_.1 s_.2) 4611686018427387904 (0,[])=some ((Mc p (n+l.length+r.length) (Gx p M l r)).map (Ca (Dq n l r))):=by
  have h:=Jk (body:=fun s_:Nat×List (List Int)=>By (Mc p (n+l.length+r.length) (Gx p M l r)) (n:Int) bs l r s_.1 s_.2) (Mc p (n+l.length+r.length) (Gx p M l r)) (Ca (Dq n l r)) [] (F:=4611686018427387904) (by omega) ((Mc p (n+l.length+r.length) (Gx p M l r)).map (Ca (Dq n l r))) (fun i z h=>?_) ?_
  ·simpa using h
  ·have:=Al h;have hz:=(hN z (List.mem_of_getElem? h)).1;have hpr:=Aof (nn:=(n:Int)) (bs:=bs) (v:=z) ⟨n1,n2⟩ hll hlr il ir (by rw [Int.toNat_natCast]; exact hz);rw [Int.toNat_natCast] at hpr
   try dsimp only
   unfold By;rw [Be (by omega),cond_true,h,obs,hpr,obs,Ak (by simp; omega),Ak (by omega)]
  ·try dsimp only
   unfold By;rw [Bf (by omega),cond_false,List.nil_append]
 have hPm:MatW p (Dq n l r).length ((Mc p (n+l.length+r.length) (Gx p M l r)).map (Ca (Dq n l r))):=Ajm hp.1 hN;have hPl:((Mc p (n+l.length+r.length) (Gx p M l r)).map (Ca (Dq n l r))).length=(Mc p (n+l.length+r.length) (Gx p M l r)).length:=List.length_map ..
 have hbv:VecW p (Dq n l r).length (x++y):=⟨by rw [List.length_append]; omega,fun a ha=>by
  rcases List.mem_append.1 ha with ha | ha
  ·exact hxi a ha
  ·exact hyi a ha⟩
 have hPH:Asb p n (l.length+r.length) (Gx p M l r) (Mc p (n+l.length+r.length) (Gx p M l r)) (Q8 p n M l r x y) (Dq n l r) (x++y) (x.drop l.length++y.drop r.length):=by
  refine ⟨?_,fun w=>?_,fun w=>?_,fun j hj=>?_,?_⟩
  ·rw [← Nat.add_assoc]; exact hBs
  ·rw [← Nat.add_assoc]; exact Ai9 hM hx hy il ir
  ·rw [← Nat.add_assoc]; exact Aqe hM hx hy il ir
  ·have h:=hio _ (List.getElem_mem hj);unfold Jv;rw [A3 (gEg hj)];omega
  ·rw [← Nat.add_assoc]; exact hBR
 obtain ⟨c,ok,s1,s2,s3,s4⟩:=Amz G.fp hPm hbv (by omega) (by omega);rw [hsol,obs,hpart,obs,Sd _ (by omega),obs,Ak (by omega),Bo (n:=((x.length:Nat):Int)+((y.length:Nat):Int)) (by omega) (by omega),show ((x.length:Nat):Int)+((y.length:Nat):Int)=(((Dq n l r).length:Nat):Int) by omega,s1,obs,himpl];generalize hBe:Mc p (n+l.length+r.length) (Gx p M l r)=B at *;cases ok
 ·have hno:ok'=false:=by
   cases ok'
   ·rfl
   ·have h:=s3.2 (An8 hPH (f4 rfl).1);cases h
  rw [hno];exact ⟨_,by simp,rfl,rfl⟩
 ·have hyes:ok'=true:=by
   cases ok'
   ·exact ((f3 rfl) _ (Alu hPH (s4 rfl))).elim
   ·rfl
  rw [hyes,if_pos rfl];obtain ⟨u1,u2⟩:=f4 hyes;rw [hPl] at s2;have hw0:=Ui (c:=c) hp.1 hN B.length (Nat.le_refl _);have hw0l:=hw0.1
  have hTm:MatW p (B.map (Ca (Dq n l r))).length (trV (B.map (Ca (Dq n l r))) (Dq n l r).length):=fun z hz=>by
   obtain ⟨j,_,rfl⟩:=List.mem_map.1 hz;refine ⟨by simp,fun a ha=>?_⟩;obtain ⟨z',hz',rfl⟩:=List.mem_map.1 ha;have hzv:=hPm z' hz';by_cases hj:j<(Dq n l r).length
   ·obtain ⟨q1,q2,_⟩:=Dv hzv hj; exact ⟨q1,q2⟩
   ·have:=hzv.1;rw [gDg,List.getElem?_eq_none (by omega)]; simp; omega
  rw [hPl] at hTm;have hTl:(trV (B.map (Ca (Dq n l r))) (Dq n l r).length).length=(Dq n l r).length:=by simp [trV]
  obtain ⟨hCs,_⟩:=Ajn G.fp hTm;have hCm:=Aca (p:=p) (n:=B.length) (m:=trV (B.map (Ca (Dq n l r))) (Dq n l r).length) hp.1;have hCl:=Aiy (p:=p) (n:=B.length) (m:=trV (B.map (Ca (Dq n l r))) (Dq n l r).length) hp.1;have hnull:=Aid (m:=trV (B.map (Ca (Dq n l r))) (Dq n l r).length) G.fp hTm (by omega) (by omega)
  have hC:∀ c,Cy p B.length (Mc p B.length (trV (B.map (Ca (Dq n l r))) (Dq n l r).length)) c↔∀ j,j<(Dq n l r).length->Cg p (Re (B.map (Ca (Dq n l r))) c j) 0:=fun c=>by
   rw [hCs];unfold C8;rw [hTl];refine forall_congr' fun j=>forall_congr' fun hj=>?_
   have e:(sm B.length fun i=>en (trV (B.map (Ca (Dq n l r))) (Dq n l r).length) j i*c i)=Re (B.map (Ca (Dq n l r))) c j:=by
    unfold Re;rw [hPl];refine G3 fun i hi=>?_
    have:en (trV (B.map (Ca (Dq n l r))) (Dq n l r).length) j i=en (B.map (Ca (Dq n l r))) i j:=by
     unfold en;have h1:(trV (B.map (Ca (Dq n l r))) (Dq n l r).length)[j]? =some ((B.map (Ca (Dq n l r))).map fun x=>x.getD j 0):=by unfold trV; rw [List.getElem?_map,List.getElem?_range hj]; rfl
     have h2:i<(B.map (Ca (Dq n l r))).length:=by omega
     rw [A3 h1,A3 (x:=(B.map (Ca (Dq n l r)))[i].getD j 0) (by rw [List.getElem?_map,gEg h2]; rfl),A3 (m:=B.map (Ca (Dq n l r))) (gEg h2)]
    rw [this,Int.mul_comm]
   rw [e]
  generalize Mc p B.length (trV (B.map (Ca (Dq n l r))) (Dq n l r).length)=C at *
  have hfree:Av (fun s_:Nat×List (List Int)=>Bv C p (n:Int) l r B s_.1 s_.2) 4611686018427387904 (0,[])=some (C.map fun z=>(spV p (n+l.length+r.length) B z B.length).take n):=by
   have h:=Jk (body:=fun s_:Nat×List (List Int)=>Bv C p (n:Int) l r B s_.1 s_.2) C (fun z=>(spV p (n+l.length+r.length) B z B.length).take n) [] (F:=4611686018427387904) (by omega) (C.map fun z=>(spV p (n+l.length+r.length) B z B.length).take n) (fun i z h=>?_) ?_
   ·simpa using h
   ·have:=Al h;have hz:=hCm z (List.mem_of_getElem? h);have hzl:=(Ui (c:=z) hp.1 hN B.length (Nat.le_refl _)).1
    try dsimp only
    unfold Bv;rw [Be (by omega),cond_true,h,obs,Bo (n:=(n:Int)+((l.length:Nat):Int)) (by omega) (by omega),Bo (n:=(n:Int)+((l.length:Nat):Int)+((r.length:Nat):Int)) (by omega) (by omega),show (n:Int)+((l.length:Nat):Int)+((r.length:Nat):Int)=((n+l.length+r.length:Nat):Int) by omega,All hp hN hz (by omega) (by omega),obs,Ak (by omega),Ak (by simp; omega),Ak (by omega),Int.toNat_natCast]
   ·try dsimp only
    unfold Bv;rw [Bf (by omega),cond_false,List.nil_append]
  have hFm:MatW p n (C.map fun z=>(spV p (n+l.length+r.length) B z B.length).take n):=fun z hz=>by
   obtain ⟨z',_,rfl⟩:=List.mem_map.1 hz;exact (Ui (c:=z') hp.1 hN B.length (Nat.le_refl _)).tk (by omega)
  have hFl:(C.map fun z=>(spV p (n+l.length+r.length) B z B.length).take n).length=C.length:=List.length_map ..
  have hFs:∀ f,Cy p n (C.map fun z=>(spV p (n+l.length+r.length) B z B.length).take n) f↔C8 p n (Q8 p n M l r x y) f:=fun f=>Aqh hPH hC hFl fun t ht j hj=>by
   have h1:(C.map fun z=>(spV p (n+l.length+r.length) B z B.length).take n)[t]? =some ((spV p (n+l.length+r.length) B (C.getD t []) B.length).take n):=by
    rw [List.getElem?_map,gEg ht,A3 (gEg ht)]; rfl
   unfold en;rw [A3 h1,Hd hj];exact Aoy hp.1 hN B.length (Nat.le_refl _) j (by omega)
  obtain ⟨⟨pv,g1⟩,g2⟩:=Sj hp.1 (Ya G.fp) hFm;have hGm:=Xt (n:=n) hp.1 hFm;have hGR:=Lv g1 hGm (Nat.le_refl n)
  have hGl:(gj p n (C.map fun z=>(spV p (n+l.length+r.length) B z B.length).take n)).length<=C.length:=by
   have h1:=Kp hp.1 hFm n;rw [Ae7 hp.1 hFm];have h2:=h1.2.1;rw [h1.2.2,hFl] at h2;exact h2
  have hv0:VecW p n ((spV p (n+l.length+r.length) B c B.length).take n):=hw0.tk (by omega);have hred:=Ub (n:=n) G.fp hFm (Nat.le_refl n) (by omega) (by rw [hFl]; omega);have hcl:=Asc hp hGm hv0 hGR (by omega) (by omega);have hout:=Pv hp.1 hGm hv0 _ (Nat.le_refl _);have hol2:=hout.1
  have hspec:Lb p (gj p n (C.map fun z=>(spV p (n+l.length+r.length) B z B.length).take n)) ((spV p (n+l.length+r.length) B c B.length).take n) (gj p n (C.map fun z=>(spV p (n+l.length+r.length) B z B.length).take n)).length=u:=by
   have hnl:∀ f,Cy p n (gj p n (C.map fun z=>(spV p (n+l.length+r.length) B z B.length).take n)) f↔C8 p n (Q8 p n M l r x y) f:=fun f=>(g2 f).trans (hFs f)
   have hca:=Xz hp.1 hGm hv0 hGR _ (Nat.le_refl _);have hcz:=Aoj hp.1 hGm hv0 hGR;generalize gj p n (C.map fun z=>(spV p (n+l.length+r.length) B z B.length).take n)=F at *
   have hsol0:L4 p n (Q8 p n M l r x y) (fun j=>((spV p (n+l.length+r.length) B c B.length).take n).getD j 0):=Akt (Alu hPH (s4 rfl)) fun j hj=>by
    rw [Hd hj];exact Aoy hp.1 hN B.length (Nat.le_refl _) j (by omega)
   have hsol1:L4 p n (Q8 p n M l r x y) (fun j=>(Lb p F ((spV p (n+l.length+r.length) B c B.length).take n) F.length).getD j 0):=by
    have hn:C8 p n (Q8 p n M l r x y) (fun j=>sm F.length fun t=>((spV p (n+l.length+r.length) B c B.length).take n).getD (lv F t) 0*en F t j):=(hnl _).1 (Sf (F:=fun t j=>((spV p (n+l.length+r.length) B c B.length).take n).getD (lv F t) 0*en F t j) fun t ht=>H9 _ (B7 ht));exact Akt (Asg hsol0 (Aif (-1) hn)) fun j hj=>(hca j hj).trans (Cg.of (by omega))
   have hq:=Ap5 hGR (fun f hf=>(hnl f).2 hf) hsol1 u1 (fun t ht=>hcz t ht) fun t ht=>by
    rw [u2 _ ((hnl _).1 (B7 ht)) _ (hGR.lt t ht) (fun j hj=>Cg.of (hGR.low t ht j hj)) (by rw [hGR.one t ht]; exact Aqy hp.1)];exact Cg.rf
   refine List.ext_getElem (hol2.trans f2.1.symm) fun j h1 h2=>?_
   have:=hq j (by omega)
   try dsimp only at this
   rw [A3 (gEg h1),A3 (gEg h2)] at this;exact this.eq (K0 hout h1) (K0 f2 h2)
  refine ⟨(u,true),by have:=f2.1; show u.length<=_; omega,?_,rfl⟩
  rw [Bool.not_true,cond_false,Bo (n:=(n:Int)+((l.length:Nat):Int)) (by omega) (by omega),Bo (n:=(n:Int)+((l.length:Nat):Int)+((r.length:Nat):Int)) (by omega) (by omega),show (n:Int)+((l.length:Nat):Int)+((r.length:Nat):Int)=((n+l.length+r.length:Nat):Int) by omega,
   All hp hN s2 (by omega) (by omega),obs,Ak (by omega),Aps hPm (by omega) (by omega),obs,hnull,obs,hfree,obs,hred,obs,hcl,obs,Sd _ (by omega),obs,hspec]
theorem Am5 (hb:bs.length<=1099511627776) (hl:l.length<=1099511627776) (hr:r.length<=1099511627776) (hx:x.length<=1048576) (hy:y.length<=1048576) :
  ∃ v,Dm p nn bs l r x y=some v∧Cn p nn bs l r x y=some v∧v.1.length<=1048576:=by
 unfold Dm Cn;rw [Aos p nn bs l r hb hl hr,Aix p nn bs l r hb hl hr];cases hg:Abl p nn bs l r
 ·exact ⟨_,rfl,rfl,by simp⟩
 have G:=Am3.1 hg;have hp:=Gs G.fp;have hll:=G.ll;have hlr:=G.lr;rw [Bo (n:=2*((l.length:Nat):Int)) (by omega) (by omega),Bo (n:=2*((r.length:Nat):Int)) (by omega) (by omega),Abz p x _ (by omega),Abz p y _ (by omega),Apg p x hp (by omega),Apg p y hp (by omega)];simp only [bne];cases hcx:((x.length:Nat):Int)==2*((l.length:Nat):Int)
 ·exact ⟨_,rfl,rfl,by simp⟩
 cases hcy:((y.length:Nat):Int)==2*((r.length:Nat):Int)
 ·cases x.all fun x=>inR x 0 (p - 1) <;> exact ⟨_,rfl,rfl,by simp⟩
 cases hax:x.all fun x=>inR x 0 (p - 1)
 ·exact ⟨_,rfl,rfl,by simp⟩
 cases hay:y.all fun x=>inR x 0 (p - 1)
 ·exact ⟨_,rfl,rfl,by simp⟩
 have hx2:x.length=2*l.length:=by have:=beq_iff_eq.1 hcx; omega
 have hy2:y.length=2*r.length:=by have:=beq_iff_eq.1 hcy; omega
 have hin:∀ {z:List Int},(z.all fun x=>inR x 0 (p - 1))=true->inV p z:=fun h a ha=>by have:=Zi.1 (List.all_eq_true.1 h a ha); omega
 obtain ⟨v,v1,v2,v3⟩:=Amw G hx2 hy2 (hin hax) (hin hay);refine ⟨v,Eq.trans ?_ v2,Eq.trans ?_ v3,v1⟩
 ·rfl
 ·simp only [Bool.not_true,cond_false,cond_true,obs,Bool.true_and];rw [Ak (by omega),Ak (by omega)]
theorem Aqu (h1:bs.length<=9223372036854775807) (h2:l.length<=9223372036854775807) (h3:r.length<=9223372036854775807) (h4:x.length<=9223372036854775807) (h5:y.length<=9223372036854775807):Cb p nn bs l r x y=some true:=by
 unfold Cb;by_cases c1:(1048576:Int)<((x.length:Nat):Int)
 ·rw [Be c1,cond_true]
 by_cases c2:(1048576:Int)<((y.length:Nat):Int)
 ·rw [Bf c1,cond_false,Be c2,cond_true]
 rw [Bf c1,cond_false,Bf c2,cond_false,Aiv nn bs l r (by omega) (by omega) (by omega) (by omega),obs];by_cases e0:(1048576:Int)<((bs.length+l.length+r.length:Nat):Int)
 ·rw [show szV 1048576 (bs.length+l.length+r.length)= -1 from if_pos e0]; rfl
 rw [show szV 1048576 (bs.length+l.length+r.length)=1048576 - ((bs.length+l.length+r.length:Nat):Int) from if_neg e0,Bf (by omega),cond_false];have h1:bs.length<=1073741824:=by omega
 have h2:l.length<=1073741824:=by omega
 have h3:r.length<=1073741824:=by omega
 obtain ⟨v,hs,hi,v1⟩:=Am5 (p:=p) (nn:=nn) (bs:=bs) (l:=l) (r:=r) (x:=x) (y:=y) (by omega) (by omega) (by omega) (by omega) (by omega);obtain ⟨vm,vo⟩:=v;have v1:vm.length<=1048576:=v1;obtain ⟨b1,l1,r1,u1,c1,d1,m1,x1,y1,z1⟩:=Ads nn bs l r (v:=1) (by omega) h1 h2 h3;obtain ⟨xs,k1,k2,k3⟩:=M4 x (v:=u1) (by omega) (by omega);obtain ⟨ys,j1,j2,j3⟩:=M4 y (v:=u1+x.length) (by omega) (by omega);obtain ⟨zs,i1,i2,i3⟩:=M4 vm (v:=1) (by omega) (by omega)
 simp only [Ai7 nn bs l r h1 h2 h3,Wa x (by omega),Wa y (by omega),hs,hi,obs,Rd vm (by omega),Rd x (by omega),Rd y (by omega),Ahz nn bs l r h1 h2 h3,m1,k1,j1,i1,i3,Ak x1,Ak y1,Ak z1,Ak k2,Ak j2,Ak i2,bne_self_eq_false,Bool.not_true,cond_false,
  Bf (show ¬ (u1+(x.length:Int)+(y.length:Int)<0) by omega),Bf (show ¬ ((1:Int)+(vm.length:Int)<0) by omega)]
end
end
section
open Go.RowKit Go.Deep
theorem nodePotentials_walk (p:Int) (nNodes:Int) (nBranches:List (Int×Int×Int)) (A_nBranches:Option Addr) (c_nBranches:Nat) (l_nBranches:List Addr) (nLeft:List (Int)) (A_nLeft:Option Addr) (c_nLeft:Nat) (l_nLeft:List Addr) (nRight:List (Int)) (A_nRight:Option Addr) (c_nRight:Nat) (l_nRight:List Addr) (x:List (Int)) (A_x:Option Addr) (c_x:Nat) (l_x:List Addr) (y:List (Int)) (A_y:Option Addr) (c_y:Nat) (l_y:List Addr) (w:World) (_i_p: -9223372036854775808<=p∧p<=9223372036854775807) (_i_nNodes: -9223372036854775808<=nNodes∧nNodes<=9223372036854775807) (s_nBranches:Sl (fun _=>True) w (.pair .int (.pair .int .int)) A_nBranches c_nBranches nBranches l_nBranches) (_i_nBranches:Ty.In (.slice (.pair .int (.pair .int .int))) nBranches) (s_nLeft:Sl (fun _=>True) w .int A_nLeft c_nLeft nLeft l_nLeft) (_i_nLeft:Ty.In (.slice .int) nLeft) (s_nRight:Sl (fun _=>True) w .int A_nRight c_nRight nRight l_nRight) (_i_nRight:Ty.In (.slice .int) nRight) (s_x:Sl (fun _=>True) w .int A_x c_x x l_x) (_i_x:Ty.In (.slice .int) x) (s_y:Sl (fun _=>True) w .int A_y c_y y l_y) (_i_y:Ty.In (.slice .int) y) (tab:Tab w) :
  Calls Tryd.prog 4 #[.int .i64 p,.agg #[.int .i64 nNodes,.slice A_nBranches nBranches.length c_nBranches,.slice A_nLeft nLeft.length c_nLeft,.slice A_nRight nRight.length c_nRight],.slice A_x x.length c_x,.slice A_y y.length c_y] w fun e w'=>e=.returned (.bool true)∧Below w.heap.size w w':=by
 have hl:Cb p nNodes nBranches nLeft nRight x y=some true:=Aqu (Aas s_nBranches).2 (Aas s_nLeft).2 (Aas s_nRight).2 (Aas s_x).2 (Aas s_y).2;refine (K1 hl w (fun _=>True) [.int .i64 p,.agg #[.int .i64 nNodes,.slice A_nBranches nBranches.length c_nBranches,.slice A_nLeft nLeft.length c_nLeft,.slice A_nRight nRight.length c_nRight],.slice A_x x.length c_x,.slice A_y y.length c_y] (fun w' hb=>tab.below hb) ⟨_,_,rfl,rfl,⟨_,_,rfl,⟨_,rfl,⟨_,_,rfl,rfl,⟨_,_,rfl,⟨A_nBranches,c_nBranches,l_nBranches,rfl,s_nBranches⟩,⟨_,_,rfl,⟨A_nLeft,c_nLeft,l_nLeft,rfl,s_nLeft⟩,⟨_,_,rfl,⟨A_nRight,c_nRight,l_nRight,rfl,s_nRight⟩,rfl⟩⟩⟩⟩⟩,⟨_,_,rfl,⟨A_x,c_x,l_x,rfl,s_x⟩,⟨_,_,rfl,⟨A_y,c_y,l_y,rfl,s_y⟩,rfl⟩⟩⟩⟩).mono ?_;rintro e w' ⟨u,rfl,hb,us,ls,h1,_,rfl⟩;obtain ⟨u1,us1,rfl,h2,_,rfl,rfl⟩:=h1;obtain rfl:u1=.bool true:=h2;exact ⟨rfl,hb⟩
end
end Go.Proofs.YtkaollfdhoaihaaDoor
