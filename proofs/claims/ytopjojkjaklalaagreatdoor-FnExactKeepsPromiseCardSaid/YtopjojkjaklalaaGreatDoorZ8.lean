/- Lemmas on the program and on partial functions that stand in place of its code (part 8); no condition beyond those that each one states. -/
import Derived.Test.YtopjojkjaklalaaGreatDoorZ7
import Derived.Deep.RegionHeld3
namespace Go.Proofs.YtopjojkjaklalaaGreatDoor
section
section
variable {p:Int} {la mi rb:Nat} {A B:List (List Int)}
theorem Akl {l r l' r':Int} {m m':List (List Int)} {n la:Nat} (hm:MatW p n m) (hl:m.length<=1000) (hla:(la:Int)=l') (hn:la<=n):A7 l r m l' r' m'=some (m.map (·.drop la)):=by
 subst hla;unfold A7;rw [Dx m (·.drop la) [] oM (m.map (·.drop la)) (fun i x hx=>?_) ?_,obs]
 rotate_left
 ·have hi:=Ai hx;have hxl:=(hm x (List.mem_of_getElem? hx)).1
  try dsimp only
  unfold Bh A6;rw [Ax oM,cond_true,hx,obs,Af oM,obs];simp only [Int.toNat_natCast];rw [Af (by simp;omega),Af oM]
 ·try dsimp only
  unfold Bh;rw [Au oM,cond_false,List.nil_append]
theorem Aj2 {l r l' r':Int} {m m':List (List Int)} {n la:Nat} (hm:MatW p n m) (hl:m.length<=1000) (hla:(la:Int)=l') (hn:la<=n):Ba l r m l' r' m'=some (m.map (·.take la)):=by
 subst hla;unfold Ba;rw [Dx m (·.take la) [] oM (m.map (·.take la)) (fun i x hx=>?_) ?_,obs]
 rotate_left
 ·have hi:=Ai hx;have hxl:=(hm x (List.mem_of_getElem? hx)).1
  try dsimp only
  unfold Bj Bb;rw [Ax oM,cond_true,hx,obs,Af oM,obs];simp only [Int.toNat_natCast];rw [Af (by simp;omega),Af oM]
 ·try dsimp only
  unfold Bj;rw [Au oM,cond_false,List.nil_append]
def Ri (p:Int) (x:List Int):List Int:=x.map fun a=>(p - a) % p
theorem Akm {x:List Int} {n:Nat} (hp:2<=p) (h:x.length=n):VecW p n (Ri p x):=⟨by simp [Ri,h],fun a ha=>by obtain ⟨b,_,rfl⟩:=List.mem_map.1 ha;exact Qz hp⟩
theorem Apk {x:List Int} {n:Nat} (hp:2<=p/\p<=97) (hx:VecW p n x) (hn:n<=1000):Bv p (List.replicate n 0) (-1) x=some (Ri p x):=by
 have hl:=hx.1;unfold Bv;refine Vi (x:=List.replicate n 0) (y:=Ri p x) (by simp [Ri];omega) (by simp;omega) (fun j hj z hz=>?_) ?_
 ·rw [List.length_replicate] at hj;have h1:=Nt hx (j:=j) oM
  try dsimp only
  unfold Cl;rw [Ax oM,cond_true,gEg (show j<x.length by omega),obs,hz,obs];simp only [List.getElem_replicate];rw [Bc (n:= -1*x[j]) oM oM,Bc oM oM,Aqq hp,obs,Af oM]
  have e:(0+ -1*x[j]) % p=(Ri p x)[j]'(by simp [Ri];omega):=by
   simp only [Ri,List.getElem_map];rw [show (0+ -1*x[j])= -x[j] by omega,show p - x[j]= -x[j]+p by omega,Int.add_emod_right]
  rw [e]
 ·try dsimp only
  unfold Cl;rw [List.length_replicate] at *;rw [Au oM,cond_false]
theorem Aoj {x v:List Int} {f:Int} {n:Nat} (hp:2<=p/\p<=97) (hx:VecW p n x) (hv:VecW p n v) (hn:n<=1000) (hf:0<=f/\f<p):Bv p x f v=some (List.zipWith (fun a b=>(a+f*b) % p) x v):=by
 have hl:=hx.1;have hl':=hv.1;unfold Bv;refine Vi (y:=List.zipWith (fun a b=>(a+f*b) % p) x v) (by simp;omega) oM (fun j hj z hz=>?_) ?_
 ·have h1:=Nt hx hj;have h2:=Nt hv (j:=j) oM;have h3:=Ab3 hp hf h2
  try dsimp only
  unfold Cl;rw [Ax oM,cond_true,gEg (show j<v.length by omega),obs,hz,obs,Bc (n:=f*v[j]) oM oM,Bc oM oM,Aqq hp,obs,Af oM,List.getElem_zipWith]
 ·try dsimp only
  unfold Cl;rw [Au oM,cond_false]
theorem Adf {m:List (List Int)} {c:List Int} {n:Nat} (hp:2<=p/\p<=97) (hm:MatW p n m) (hc:VecW p m.length c) (hn:n<=1000) (hl:m.length<=1000):Hg p c m (n:Int)=some (spV p n m c m.length):=by
 unfold Hg;rw [Ql oM,obs,Int.toNat_natCast];rw [A3 (s0:=(0,List.replicate n 0)) m.length (fun i=>(i,spV p n m c i)) oM (spV p n m c m.length) rfl (fun i hi=>?_) ?_,obs]
 rotate_left
 ·have h1:=Jx (c:=c) hp.1 hm i oM;have h3:=Jx (c:=c) hp.1 hm (i+1) oM;have h2:=hm _ (List.getElem_mem hi);have hcc:=hc.1;have hci:=Nt hc (j:=i) oM
  try dsimp only
  unfold J5;rw [Ax oM,cond_true,gEg hi,obs,gEg (show i<c.length by omega),obs,Aoj hp h1 h2 hn hci,obs]
  have e:List.zipWith (fun a b=>(a+c[i]'oM*b) % p) (spV p n m c i) m[i]=spV p n m c (i+1):=by
   simp only [spV,Bg (gEg (show i<c.length by omega)),Bg (m:=m) (gEg hi)]
  rw [e,Af (by rw [h1.1,h3.1]),Af oM]
 ·try dsimp only
  unfold J5;rw [Au oM,cond_false]
theorem Aj4 {m:List (List Int)} {c:List Int} {n k:Nat} (hk:k<=n):∀ i,(spV p n m c i).take k=spV p k (m.map (·.take k)) c i
 | 0=>by simp [spV,List.take_replicate,Nat.min_eq_left hk]
 | i+1=>by simp only [spV,List.take_zipWith,Aj4 hk i,Rc (f:=fun x:List Int=>x.take k) (by simp)]
theorem Aj5 {m:List (List Int)} {c:List Int} {n k:Nat}:∀ i,(spV p n m c i).drop k=spV p (n - k) (m.map (·.drop k)) c i
 | 0=>by simp [spV]
 | i+1=>by simp only [spV,List.drop_zipWith,Aj5 i,Rc (f:=fun x:List Int=>x.drop k) (by simp)]
theorem Agu (xs:List (List Int)) (h:xs.length<=100) (hl:∀ k,((xs.take k).flatten).length<=100000):Cr xs=some xs.flatten:=by
 unfold Cr;rw [A3 (s0:=(0,[])) xs.length (fun i=>(i,(xs.take i).flatten)) oM xs.flatten rfl (fun i hi=>?_) ?_,obs]
 rotate_left
 ·have hx:=gEg hi;have h2:=hl (i+1);rw [List.take_add_one,hx,List.flatten_append,List.length_append] at h2;simp only [Option.toList,List.flatten_cons,List.flatten_nil,List.append_nil] at h2
  try dsimp only
  unfold K7;rw [Ax oM,cond_true,hx,obs,Af oM,Af oM,List.take_add_one,hx,List.flatten_append];simp
 ·try dsimp only
  unfold K7;rw [Au oM,cond_false,List.take_length]
theorem Ac7 (x y:List Int) (h:x.length+y.length<=100000):Cr [x,y]=some (x++y):=by
 rw [Agu _ (by simp) (fun k=>?_)]
 ·simp
 ·have h1:((([x,y].take k).flatten).length)<=(([x,y]:List (List Int)).flatten).length:=by
   conv=>rhs;rw [← List.take_append_drop k [x,y],List.flatten_append,List.length_append]
   omega
  simp only [List.flatten_cons,List.flatten_nil,List.length_append,List.length_nil] at h1;omega
def V8 (p:Int) (la mi:Nat) (A B:List (List Int)):List (List Int):=trV (A.map (·.drop la)++B.map fun x=>Ri p (x.take mi)) mi
def Ad1 (p:Int) (la mi rb:Nat) (A B:List (List Int)) (c:List Int):List Int:=spV p la (A.map (·.take la)) (c.take A.length) A.length++spV p rb (B.map (·.drop mi)) (c.drop A.length) B.length
def Auw (p:Int) (la mi rb:Nat) (A B:List (List Int)):List (List Int):=gj p (la+rb) ((Ml p (A.length+B.length) (V8 p la mi A B)).map (Ad1 p la mi rb A B))
theorem As1 (hp:2<=p) (hA:MatW p (la+mi) A) (hB:MatW p (mi+rb) B):MatW p mi (A.map (·.drop la)++B.map fun x=>Ri p (x.take mi)):=by
 intro x hx;rcases List.mem_append.1 hx with h|h
 ·have:=(MatW.dr (u:=la) hA) x h
  rwa [Nat.add_sub_cancel_left] at this
 ·obtain ⟨y,hy,rfl⟩:=List.mem_map.1 h;exact Akm hp (by rw [List.length_take,(hB y hy).1];omega)
theorem Ad2 {n:Nat} {m:List (List Int)} (hp:2<=p):MatW p n (Ml p n m):=Rj hp (Rb hp)
theorem Afn {n:Nat} {m:List (List Int)} (hp:2<=p):(Ml p n m).length<=n:=by
 unfold Ml;have h:=Lb (p:=p) hp (Rb (n:=n) (R:=gj p n m) hp) n;rw [Adz hp (Rb hp)];exact Nat.le_trans h.2.1 (by rw [h.2.2];exact Af5)
theorem Nc {l r:Nat} {m:List (List Int)} (hp:isF p=true) (hm:MatW p (l+r) m) (hw:l+r<=1000) (hl:m.length<=100000):Bo p (l:Int) (r:Int) m=some ((l:Int),(r:Int),gj p (l+r) m):=by
 unfold Bo;rw [Bc oM oM,show ((l:Int)+(r:Int))=((l+r:Nat):Int) by omega,We hp hm oM hl,obs]
theorem Aee {l r:Nat} {m:List (List Int)} (hp:isF p=true) (hm:MatW p (l+r) m) (hw:l+r<=1000) (hl:m.length<=100000):J1 p (l:Int) (r:Int) m=some ((l:Int),(r:Int),gj p (l+r) m):=by
 unfold J1;rw [Bc oM oM,show ((l:Int)+(r:Int))=((l+r:Nat):Int) by omega,Pv hp hm (Nat.le_refl _) oM hl,obs]
theorem Ah5 {c:List Int} (hp:2<=p) (hA:MatW p (la+mi) A) (hB:MatW p (mi+rb) B):VecW p (la+rb) (Ad1 p la mi rb A B c):=by
 have h1:=Jx (c:=c.take A.length) hp (MatW.tk hA (Nat.le_add_right la mi)) (A.map (·.take la)).length (Nat.le_refl _);have h2:=Jx (c:=c.drop A.length) hp (MatW.dr (u:=mi) hB) (B.map (·.drop mi)).length (Nat.le_refl _);rw [Nat.add_sub_cancel_left] at h2;rw [List.length_map] at h1 h2;refine ⟨by unfold Ad1;rw [List.length_append,h1.1,h2.1],fun a ha=>?_⟩;rcases List.mem_append.1 ha with h|h
 ·exact h1.2 a h
 ·exact h2.2 a h
theorem Ajf (hp:isF p=true) (hA:MatW p (la+mi) A) (hB:MatW p (mi+rb) B) (hla:la+mi<=100) (hrb:mi+rb<=100) (lA:A.length<=100) (lB:B.length<=100) :
  Gg p (la:Int) (mi:Int) A (mi:Int) (rb:Int) B=some ((la:Int),(rb:Int),Auw p la mi rb A B):=by
 have hb:=Ca hp;have hM:=As1 hb.1 hA hB;unfold Gg;rw [Akl hA oM rfl oM,obs,Aj2 hB oM rfl oM,obs];rw [Dx (B.map (·.take mi)) (Ri p) (A.map (·.drop la)) (by rw [List.length_map];omega) (A.map (·.drop la)++B.map fun x=>Ri p (x.take mi)) (fun i x hx=>?_) ?_,obs]
 ·rw [Aj2 hA oM rfl oM,obs,Akl hB oM rfl oM,obs,Aob hp hM oM (by simp;omega),obs];have hN:=Ad2 (p:=p) (n:=A.length+B.length) (m:=V8 p la mi A B) hb.1;have hNl:=Afn (p:=p) (n:=A.length+B.length) (m:=V8 p la mi A B) hb.1
  have e0:Ml p (A.map (·.drop la)++B.map fun x=>Ri p (x.take mi)).length (trV (A.map (·.drop la)++B.map fun x=>Ri p (x.take mi)) mi)=Ml p (A.length+B.length) (V8 p la mi A B):=by
   rw [List.length_append,List.length_map,List.length_map];rfl
  rw [e0];rw [Dx (Ml p (A.length+B.length) (V8 p la mi A B)) (Ad1 p la mi rb A B) [] oM ((Ml p (A.length+B.length) (V8 p la mi A B)).map (Ad1 p la mi rb A B)) (fun i x hx=>?_) ?_,obs,Nc hp (fun y hy=>by obtain ⟨c,_,rfl⟩:=List.mem_map.1 hy;exact Ah5 hb.1 hA hB) oM (by rw [List.length_map];omega),obs]
  ·rfl
  rotate_left
  ·have hi:=Ai hx;have hxv:=hN x (List.mem_of_getElem? hx);have hxl:=hxv.1;have hF:=MatW.tk hA (Nat.le_add_right la mi);have hS:=MatW.dr (u:=mi) hB;rw [Nat.add_sub_cancel_left] at hS;have h1:=Jx (c:=x.take A.length) hb.1 hF (A.map (·.take la)).length (Nat.le_refl _);have h2:=Jx (c:=x.drop A.length) hb.1 hS (B.map (·.drop mi)).length (Nat.le_refl _)
   try dsimp only
   unfold Jm;rw [Ax oM,cond_true,hx,obs,List.length_map,Af oM];rw [Adf hb hF (by rw [List.length_map];exact hxv.tk oM) oM (by rw [List.length_map];omega),obs,Af oM];rw [Adf hb hS (by rw [List.length_map];have:=hxv.dr (u:=A.length);rwa [Nat.add_sub_cancel_left] at this) oM (by rw [List.length_map];omega),obs];rw [Ac7 _ _ (by rw [h1.1,h2.1];omega),obs,Af (by simp;omega),Af oM];simp only [List.length_map,Ad1]
  ·try dsimp only
   unfold Jm;rw [Au oM,cond_false,List.nil_append]
 rotate_left
 ·have hi:=Ai hx;rw [List.length_map] at hi;have hxv:=(MatW.tk hB (Nat.le_add_right mi rb)) x (List.mem_of_getElem? hx);have hn:=(Akm (p:=p) hb.1 hxv.1).1
  try dsimp only
  unfold Jp;rw [List.length_map,Ax oM,cond_true,hx,obs,hxv.1,Ql oM,obs,Int.toNat_natCast,Apk hb hxv oM,obs,Af (by rw [List.length_replicate,hn]),Af (by simp;omega),Af oM]
 ·try dsimp only
  unfold Jp;rw [List.length_map,Au oM,cond_false,List.map_map];rfl
end
end
section
section
variable {p:Int} {la mi rb:Nat} {A B:List (List Int)}
def Aa1 (p:Int) (la:Nat) (A B:List (List Int)) (j:Nat):List Int:=(A.map fun x=>x.getD (la+j) 0)++B.map fun x=>(p - x.getD j 0) % p
theorem Apo {x:List Int} {j:Nat} (h:j<x.length):(Ri p x).getD j 0=(p - x.getD j 0) % p:=by
 unfold Ri;rw [gDg,List.getElem?_map,gDg,gEg h];rfl
theorem Aq1 (hA:MatW p (la+mi) A) (hB:MatW p (mi+rb) B):V8 p la mi A B=(List.range mi).map (Aa1 p la A B):=by
 unfold V8 trV;refine List.map_congr_left fun j hj=>?_
 have hj:=List.mem_range.1 hj;unfold Aa1;rw [List.map_append,List.map_map,List.map_map];congr 1
 ·refine List.map_congr_left fun x _=>?_
  show (x.drop la).getD j 0=_;rw [gDg,gDg,List.getElem?_drop]
 ·refine List.map_congr_left fun x hx=>?_
  have hxl:=(hB x hx).1;show (Ri p (x.take mi)).getD j 0=_;rw [Apo (by rw [List.length_take];omega),gDg,List.getElem?_take,if_pos hj,← gDg]
theorem Vr {α:Type} {R:List α} {j:Nat} {x y:α}:(R.set j x).set j y=R.set j y:=List.set_set ..
theorem Auj {R:List (List Int)} {j:Nat} (hA:MatW p (la+mi) A) (hj:j<mi) (hR:R[j]? =some []) (hla:la+mi<=100) (lA:A.length<=100) :
  Ap (fun s_:Nat×List (List Int)=>Fg A j (la:Int) s_.1 s_.2) 4611686018427387904 (0,R)=some (R.set j (A.map fun x=>x.getD (la+j) 0)):=by
 have hjl:j<R.length:=Ai hR;refine A3 A.length (fun i=>(i,R.set j ((A.take i).map fun x=>x.getD (la+j) 0))) oM _ ?_ (fun i hi=>?_) ?_
 ·have:R.set j []=R:=by
   have e:=(gSi.1 hR)
   obtain ⟨h1,h2⟩:=e
   conv=>lhs;rw [← h2]
   exact List.set_getElem_self h1
  simp [this]
 ·have hx:=gEg hi;have hxv:=hA _ (List.getElem_mem hi);have hg:=Cp hxv (j:=la+j) oM
  try dsimp only
  unfold Fg;rw [Ax oM,cond_true,hx,obs,List.getElem?_set_self hjl,obs,Bc oM oM,Bq oM,show ((la:Int)+(j:Int)).toNat=la+j by omega,hg.2.2,obs,Af (by simp;omega),Af oM,Vr,List.take_add_one,hx,List.map_append];rfl
 ·try dsimp only
  unfold Fg;rw [Au oM,cond_false,List.take_length]
theorem At9 {R:List (List Int)} {j:Nat} {x0:List Int} (hp:2<=p/\p<=97) (hB:MatW p (mi+rb) B) (hj:j<mi) (hR:R[j]? =some x0) (h0:x0.length<=1000) (lB:B.length<=100) :
  Ap (fun s_:Nat×List (List Int)=>Fc B j p s_.1 s_.2) 4611686018427387904 (0,R)=some (R.set j (x0++B.map fun x=>(p - x.getD j 0) % p)):=by
 have hjl:j<R.length:=Ai hR;refine A3 B.length (fun i=>(i,R.set j (x0++(B.take i).map fun x=>(p - x.getD j 0) % p))) oM _ ?_ (fun i hi=>?_) ?_
 ·have:R.set j x0=R:=by
   obtain ⟨h1,h2⟩:=(gSi.1 hR)
   conv=>lhs;rw [← h2]
   exact List.set_getElem_self h1
  simp [this]
 ·have hx:=gEg hi;have hxv:=hB _ (List.getElem_mem hi);have hg:=Cp hxv (j:=j) oM
  try dsimp only
  unfold Fc;rw [Ax oM,cond_true,hx,obs,List.getElem?_set_self hjl,obs,hg.2.2,obs,Yv hp ⟨hg.1,hg.2.1⟩,obs,Af (by simp;omega),Af oM,Vr,List.take_add_one,hx,List.map_append,← List.append_assoc];rfl
 ·try dsimp only
  unfold Fc;rw [Au oM,cond_false,List.take_length]
theorem Afy (hp:isF p=true) (hA:MatW p (la+mi) A) (hB:MatW p (mi+rb) B) (hla:la+mi<=100) (hrb:mi+rb<=100) (lA:A.length<=100) (lB:B.length<=100) {x:Int} :
  Fu p (la:Int) (mi:Int) A x (rb:Int) B=some ((la:Int),(rb:Int),Auw p la mi rb A B):=by
 have hb:=Ca hp;unfold Fu;rw [Af oM,Int.toNat_natCast];rw [A3 (s0:=(0,List.replicate mi [])) mi (fun j=>(j,((List.range mi).map (Aa1 p la A B)).take j++List.replicate (mi - j) [])) oM ((List.range mi).map (Aa1 p la A B)) (by simp) (fun j hj=>?_) ?_,obs]
 ·rw [Bc oM oM,show ((A.length:Nat):Int)+((B.length:Nat):Int)=((A.length+B.length:Nat):Int) by omega]
  have hmm:MatW p (A.length+B.length) ((List.range mi).map (Aa1 p la A B)):=fun y hy=>by
   obtain ⟨j,hj,rfl⟩:=List.mem_map.1 hy;have hj:=List.mem_range.1 hj;refine ⟨by simp [Aa1],fun a ha=>?_⟩;rcases List.mem_append.1 ha with h|h
   ·obtain ⟨x,hx,rfl⟩:=List.mem_map.1 h;have:=Cp (hA x hx) (j:=la+j) oM;exact ⟨this.1,this.2.1⟩
   ·obtain ⟨x,hx,rfl⟩:=List.mem_map.1 h;exact Qz hb.1
  rw [Aay hp hmm oM (by simp;omega),obs,← Aq1 hA hB];have hN:=Ad2 (p:=p) (n:=A.length+B.length) (m:=V8 p la mi A B) hb.1;have hNl:=Afn (p:=p) (n:=A.length+B.length) (m:=V8 p la mi A B) hb.1;rw [Dx (Ml p (A.length+B.length) (V8 p la mi A B)) (Ad1 p la mi rb A B) [] oM ((Ml p (A.length+B.length) (V8 p la mi A B)).map (Ad1 p la mi rb A B)) (fun i x hx=>?_) ?_,obs,Aee hp (fun y hy=>by obtain ⟨c,_,rfl⟩:=List.mem_map.1 hy;exact Ah5 hb.1 hA hB) oM (by rw [List.length_map];omega),obs]
  ·rfl
  rotate_left
  ·have hi:=Ai hx;have hxv:=hN x (List.mem_of_getElem? hx);have hxl:=hxv.1;have h1:=Jx (c:=x.take A.length) hb.1 hA A.length (Nat.le_refl _);have h2:=Jx (c:=x.drop A.length) hb.1 hB B.length (Nat.le_refl _)
   try dsimp only
   unfold Iu;rw [Ax oM,cond_true,hx,obs,Af oM,Bc (n:=(la:Int)+(mi:Int)) oM oM,show ((la:Int)+(mi:Int))=((la+mi:Nat):Int) by omega];rw [Ae5 hb hA (hxv.tk oM) oM oM,obs,Af oM,Bc (n:=(mi:Int)+(rb:Int)) oM oM,show ((mi:Int)+(rb:Int))=((mi+rb:Nat):Int) by omega];rw [Ae5 hb hB (by have:=hxv.dr (u:=A.length);rwa [Nat.add_sub_cancel_left] at this) oM oM,obs,h1.1,h2.1,Af oM,Int.toNat_natCast,Int.toNat_natCast,Yr _ (by rw [List.length_take,h1.1];omega),obs,Af oM];have e1:(spV p (la+mi) A (x.take A.length) A.length).take la=spV p la (A.map (·.take la)) (x.take A.length) A.length:=Aj4 oM _
   have e2:((spV p (mi+rb) B (x.drop A.length) B.length).drop mi).take ((((mi+rb:Nat):Int) - (mi:Int)).toNat)=spV p rb (B.map (·.drop mi)) (x.drop A.length) B.length:=by
    rw [List.take_of_length_le (by rw [List.length_drop,h2.1];omega),Aj5,Nat.add_sub_cancel_left]
   have l1:(spV p la (A.map (·.take la)) (x.take A.length) A.length).length=la:=by rw [← e1,List.length_take,h1.1];omega
   have l2:(spV p rb (B.map (·.drop mi)) (x.drop A.length) B.length).length=rb:=by rw [← e2,List.length_take,List.length_drop,h2.1];omega
   rw [e1,e2,l1,l2,Af oM,Af (by simp;omega),Af oM];rfl
  ·try dsimp only
   unfold Iu;rw [Au oM,cond_false,List.nil_append]
 rotate_left
 ·have hr:((List.range mi).map (Aa1 p la A B)).length=mi:=by simp
  have hg:(((List.range mi).map (Aa1 p la A B)).take j++List.replicate (mi - j) [])[j]? =some []:=by
   rw [List.getElem?_append_right (by rw [List.length_take,hr];omega),List.length_take,hr,Nat.min_eq_left oM,Nat.sub_self,List.getElem?_replicate,if_pos oM]
  have hjl:=Ai hg
  try dsimp only
  unfold Im;rw [Int.toNat_natCast,Ax oM,cond_true,Auj hA hj hg hla lA,obs,At9 (x0:=A.map fun x=>x.getD (la+j) 0) hb hB hj (List.getElem?_set_self hjl) (by rw [List.length_map];omega) lB,obs,Af oM,Vr]
  have e:(((List.range mi).map (Aa1 p la A B)).take j++List.replicate (mi - j) []).set j (Aa1 p la A B j)=((List.range mi).map (Aa1 p la A B)).take (j+1)++List.replicate (mi - (j+1)) []:=by
   rw [List.set_append_right _ _ (by rw [List.length_take,hr];omega),List.length_take,hr,Nat.min_eq_left oM,Nat.sub_self,show mi - j=(mi - (j+1))+1 by omega,List.replicate_succ,List.set_cons_zero,List.take_add_one,List.getElem?_map,List.getElem?_range hj];simp
  rw [← e];rfl
 ·try dsimp only
  unfold Im;rw [Int.toNat_natCast,Au oM,cond_false,Nat.sub_self,List.replicate_zero,List.append_nil,List.take_of_length_le (by simp)]
end
end
section
theorem Ac4 (a b c d:List Int) (h:a.length+b.length+c.length+d.length<=100000):Cr [a,b,c,d]=some (a++(b++(c++d))):=by
 rw [Agu _ (by simp) (fun k=>?_)]
 ·simp
 ·have h1:((([a,b,c,d].take k).flatten).length)<=(([a,b,c,d]:List (List Int)).flatten).length:=by
   conv=>rhs;rw [← List.take_append_drop k [a,b,c,d],List.flatten_append,List.length_append]
   omega
  simp only [List.flatten_cons,List.flatten_nil,List.length_append,List.length_nil] at h1;omega
section
variable {p:Int} {la ra lb rb:Nat} {A B:List (List Int)}
def Ru (la lb rb:Nat) (x:List Int):List Int:=x.take la++(List.replicate lb 0++(x.drop la++List.replicate rb 0))
def Ti (la ra lb:Nat) (x:List Int):List Int:=List.replicate la 0++(x.take lb++(List.replicate ra 0++x.drop lb))
def Aud (p:Int) (la ra lb rb:Nat) (A B:List (List Int)):List (List Int):=gj p ((la+lb)+(ra+rb)) (A.map (Ru la lb rb)++B.map (Ti la ra lb))
theorem Yg {n:Nat} (hp:2<=p):inV p (List.replicate n 0):=fun a ha=>by obtain rfl:=(List.mem_replicate.1 ha).2;omega
theorem An8 {x:List Int} (hp:2<=p) (hx:VecW p (la+ra) x):VecW p ((la+lb)+(ra+rb)) (Ru la lb rb x):=by
 refine ⟨by simp [Ru,hx.1];omega,fun a ha=>?_⟩;simp only [Ru,List.mem_append] at ha;rcases ha with h|h|h|h
 ·exact hx.2 a (List.mem_of_mem_take h)
 ·exact Yg hp a h
 ·exact hx.2 a (List.mem_of_mem_drop h)
 ·exact Yg hp a h
theorem Ao8 {x:List Int} (hp:2<=p) (hx:VecW p (lb+rb) x):VecW p ((la+lb)+(ra+rb)) (Ti la ra lb x):=by
 refine ⟨by simp [Ti,hx.1];omega,fun a ha=>?_⟩;simp only [Ti,List.mem_append] at ha;rcases ha with h|h|h|h
 ·exact Yg hp a h
 ·exact hx.2 a (List.mem_of_mem_take h)
 ·exact Yg hp a h
 ·exact hx.2 a (List.mem_of_mem_drop h)
theorem Ae7 (hp:2<=p) (hA:MatW p (la+ra) A) (hB:MatW p (lb+rb) B):MatW p ((la+lb)+(ra+rb)) (A.map (Ru la lb rb)++B.map (Ti la ra lb)):=by
 intro x hx;rcases List.mem_append.1 hx with h|h
 ·obtain ⟨y,hy,rfl⟩:=List.mem_map.1 h;exact An8 hp (hA y hy)
 ·obtain ⟨y,hy,rfl⟩:=List.mem_map.1 h;exact Ao8 hp (hB y hy)
theorem Aoo (hp:isF p=true) (hA:MatW p (la+ra) A) (hB:MatW p (lb+rb) B) (hla:la+ra<=100) (hlb:lb+rb<=100) (lA:A.length<=100) (lB:B.length<=100) :
  Ix p (la:Int) (ra:Int) A (lb:Int) (rb:Int) B=some (((la+lb:Nat):Int),((ra+rb:Nat):Int),Aud p la ra lb rb A B):=by
 have hb:=Ca hp
 have e1:Bk (la:Int) (ra:Int) A (la:Int) (ra:Int) A (lb:Int) (rb:Int) B=some (A.map (Ru la lb rb)):=by
  unfold Bk;rw [Dx A (Ru la lb rb) [] oM (A.map (Ru la lb rb)) (fun i x hx=>?_) ?_,obs]
  rotate_left
  ·have hi:=Ai hx;have hxv:=hA x (List.mem_of_getElem? hx);have hxl:=hxv.1
   try dsimp only
   unfold Bt Mm Bb A6;rw [Ax oM,cond_true,hx,obs,Af oM,obs,Ql oM,obs,Af oM,obs,Ql oM,obs];simp only [Int.toNat_natCast];rw [Ac4 _ _ _ _ (by simp;omega),obs,obs,Af (by simp;omega),Af oM];rfl
  ·try dsimp only
   unfold Bt;rw [Au oM,cond_false,List.nil_append]
 have e2:Bi (lb:Int) (rb:Int) B (la:Int) (ra:Int) A (lb:Int) (rb:Int) B=some (B.map (Ti la ra lb)):=by
  unfold Bi;rw [Dx B (Ti la ra lb) [] oM (B.map (Ti la ra lb)) (fun i x hx=>?_) ?_,obs]
  rotate_left
  ·have hi:=Ai hx;have hxv:=hB x (List.mem_of_getElem? hx);have hxl:=hxv.1
   try dsimp only
   unfold Bu Mh Bb A6;rw [Ax oM,cond_true,hx,obs,Ql oM,obs,Af oM,obs,Ql oM,obs,Af oM,obs];simp only [Int.toNat_natCast];rw [Ac4 _ _ _ _ (by simp;omega),obs,obs,Af (by simp;omega),Af oM];rfl
  ·try dsimp only
   unfold Bu;rw [Au oM,cond_false,List.nil_append]
 unfold Ix;rw [e1,obs,e2,obs,Af (by simp;omega),Bc oM oM,Bc oM oM,show ((la:Int)+(lb:Int))=((la+lb:Nat):Int) by omega,show ((ra:Int)+(rb:Int))=((ra+rb:Nat):Int) by omega];rw [Nc hp (Ae7 hb.1 hA hB) oM (by simp;omega),obs];rfl
def plc (pos:Nat->Nat) (x:List Int) (n:Nat):Nat->List Int
 | 0=>List.replicate n 0
 | i+1=>(plc pos x n i).set (pos i) (x.getD i 0)
theorem Ut {pos:Nat->Nat} {x:List Int} {n:Nat}:∀ i,(plc pos x n i).length=n
 | 0=>by simp [plc]
 | i+1=>by rw [plc,List.length_set];exact Ut i
theorem Alj {pos:Nat->Nat} {x:List Int} {n k:Nat} (hn:∀ j,j<k->pos j<n) (hi:∀ i j,i<k->j<k->pos i=pos j->i=j):∀ i,i<=k->∀ j,j<i->(plc pos x n i)[pos j]? =some (x.getD j 0)
 | 0,_,j,h=>absurd h oM
 | i+1,hk,j,h=>by
  rw [plc];by_cases e:j=i
  ·subst e;exact List.getElem?_set_self (by rw [Ut];exact hn j oM)
  ·rw [List.getElem?_set_ne (fun h2=>e (hi j i oM oM h2.symm))];exact Alj hn hi i oM j oM
theorem Ahb {pos:Nat->Nat} {x:List Int} {n q:Nat} (hq:q<n):∀ i,(∀ j,j<i->pos j≠q)->(plc pos x n i)[q]? =some 0
 | 0,_=>by rw [plc,List.getElem?_replicate,if_pos hq]
 | i+1,h=>by
  rw [plc,List.getElem?_set_ne (h i oM)];exact Ahb hq i fun j hj=>h j oM
theorem Akg {pos:Nat->Nat} {x T:List Int} {n k:Nat} (hn:∀ j,j<k->pos j<n) (hi:∀ i j,i<k->j<k->pos i=pos j->i=j) (hT:T.length=n) (h1:∀ j,j<k->T[pos j]? =some (x.getD j 0)) (h0:∀ q,q<n->(∀ j,j<k->pos j≠q)->T[q]? =some 0):plc pos x n k=T:=by
 refine List.ext_getElem? fun q=>?_
 by_cases hq:q<n
 ·by_cases he:∃ j,j<k/\pos j=q
  ·obtain ⟨j,hj,rfl⟩:=he;rw [Alj hn hi k (Nat.le_refl _) j hj,h1 j hj]
  ·have hm:∀ j,j<k->pos j≠q:=fun j hj e=>he ⟨j,hj,e⟩
   rw [Ahb hq k hm,h0 q hq hm]
 ·rw [List.getElem?_eq_none (by rw [Ut];omega),List.getElem?_eq_none oM]
theorem Yn {x:List Int} {j:Nat} (h:j<x.length):x[j]? =some (x.getD j 0):=by rw [gDg,gEg h];rfl
theorem Awf {x:List Int} (hx:x.length=la+ra):plc (fun j=>if j<la then j else lb+j) x ((la+lb)+(ra+rb)) (la+ra)=Ru la lb rb x:=by
 refine Akg (fun j hj=>?_) (fun i j hi hj h=>?_) (by simp [Ru,hx];omega) (fun j hj=>?_) (fun q hq hm=>?_)
 ·split <;> omega
 ·try dsimp only at h
  split at h <;> split at h <;> omega
 ·try dsimp only
  rw [← Yn oM];unfold Ru;split
  ·rw [List.getElem?_append_left (by rw [List.length_take];omega),List.getElem?_take,if_pos oM]
  ·rw [List.getElem?_append_right (by rw [List.length_take];omega),List.length_take,List.getElem?_append_right (by rw [List.length_replicate];omega),List.length_replicate,List.getElem?_append_left (by rw [List.length_drop];omega),List.getElem?_drop];congr 1;omega
 ·unfold Ru;by_cases h1:q<la
  ·exact absurd (if_pos h1) (hm q oM)
  by_cases h2:q<la+lb
  ·rw [List.getElem?_append_right (by rw [List.length_take];omega),List.length_take,List.getElem?_append_left (by rw [List.length_replicate];omega),List.getElem?_replicate,if_pos oM]
  by_cases h3:q<la+lb+ra
  ·refine absurd ?_ (hm (q - lb) oM)
   try dsimp only
   rw [if_neg oM];omega
  ·rw [List.getElem?_append_right (by rw [List.length_take];omega),List.length_take,List.getElem?_append_right (by rw [List.length_replicate];omega),List.length_replicate,List.getElem?_append_right (by rw [List.length_drop];omega),List.length_drop,List.getElem?_replicate,if_pos oM]
theorem Awg {x:List Int} (hx:x.length=lb+rb):plc (fun j=>if j<lb then la+j else la+ra+j) x ((la+lb)+(ra+rb)) (lb+rb)=Ti la ra lb x:=by
 refine Akg (fun j hj=>?_) (fun i j hi hj h=>?_) (by simp [Ti,hx];omega) (fun j hj=>?_) (fun q hq hm=>?_)
 ·split <;> omega
 ·try dsimp only at h
  split at h <;> split at h <;> omega
 ·try dsimp only
  rw [← Yn oM];unfold Ti;split
  ·rw [List.getElem?_append_right (by rw [List.length_replicate];omega),List.length_replicate,List.getElem?_append_left (by rw [List.length_take];omega),List.getElem?_take,if_pos oM];congr 1;omega
  ·rw [List.getElem?_append_right (by rw [List.length_replicate];omega),List.length_replicate,List.getElem?_append_right (by rw [List.length_take];omega),List.length_take,List.getElem?_append_right (by rw [List.length_replicate];omega),List.length_replicate,List.getElem?_drop];congr 1;omega
 ·unfold Ti;by_cases h1:q<la
  ·rw [List.getElem?_append_left (by rw [List.length_replicate];omega),List.getElem?_replicate,if_pos h1]
  by_cases h2:q<la+lb
  ·refine absurd ?_ (hm (q - la) oM)
   try dsimp only
   rw [if_pos oM];omega
  by_cases h3:q<la+lb+ra
  ·rw [List.getElem?_append_right (by rw [List.length_replicate];omega),List.length_replicate,List.getElem?_append_right (by rw [List.length_take];omega),List.length_take,List.getElem?_append_left (by rw [List.length_replicate];omega),List.getElem?_replicate,if_pos oM]
  ·refine absurd ?_ (hm (q - la - ra) oM)
   try dsimp only
   rw [if_neg oM];omega
theorem Aim (hp:isF p=true) (hA:MatW p (la+ra) A) (hB:MatW p (lb+rb) B) (hla:la+ra<=100) (hlb:lb+rb<=100) (lA:A.length<=100) (lB:B.length<=100) :
  Gj p (la:Int) (ra:Int) A (lb:Int) (rb:Int) B=some (((la+lb:Nat):Int),((ra+rb:Nat):Int),Aud p la ra lb rb A B):=by
 have hb:=Ca hp;have w1:wI ((la:Int)+(lb:Int))=((la+lb:Nat):Int):=by rw [Bc oM oM];omega
 have w2:wI ((ra:Int)+(rb:Int))=((ra+rb:Nat):Int):=by rw [Bc oM oM];omega
 have w3:wI (((la+lb:Nat):Int)+((ra+rb:Nat):Int))=(((la+lb)+(ra+rb):Nat):Int):=by rw [Bc oM oM];omega
 unfold Gj;rw [Dx A (Ru la lb rb) [] oM (A.map (Ru la lb rb)) (fun i x hx=>?_) ?_,obs]
 ·rw [Dx B (Ti la ra lb) (A.map (Ru la lb rb)) oM (A.map (Ru la lb rb)++B.map (Ti la ra lb)) (fun i x hx=>?_) ?_,obs,w1,w2,Aee hp (Ae7 hb.1 hA hB) oM (by simp;omega),obs]
  ·rfl
  rotate_left
  ·have hi:=Ai hx;have hxl:=(hB x (List.mem_of_getElem? hx)).1
   try dsimp only
   unfold Jy;rw [Ax oM,cond_true,hx,obs,w1,w2,w3,Af oM,Int.toNat_natCast];rw [A3 (s0:=(0,List.replicate ((la+lb)+(ra+rb)) 0)) x.length (fun j=>(j,plc (fun j=>if j<lb then la+j else la+ra+j) x ((la+lb)+(ra+rb)) j)) oM (Ti la ra lb x) rfl (fun j hj=>?_) ?_,obs,Af (by simp;omega),obs,Af oM]
   rotate_left
   ·have hlen:=Ut (pos:=fun j=>if j<lb then la+j else la+ra+j) (x:=x) (n:=(la+lb)+(ra+rb)) j
    try dsimp only
    unfold Jw;rw [Ax oM,cond_true,Yn hj,obs,w1];by_cases h1:j<lb
    ·rw [Ax oM,cond_true,Bc (n:=(la:Int)+(j:Int)) oM oM,Bq oM,show ((la:Int)+(j:Int)).toNat=la+j by omega,gEg oM,obs,obs,obs,Af oM,plc,if_pos h1]
    ·rw [Au oM,cond_false,Bc (n:=((la+lb:Nat):Int)+(ra:Int)) oM oM,Bc (n:=((la+lb:Nat):Int)+(ra:Int)+(j:Int)) oM oM,Bc oM oM,Bq oM,show (((la+lb:Nat):Int)+(ra:Int)+(j:Int) - (lb:Int)).toNat=la+ra+j by omega,gEg oM,obs,obs,obs,Af oM,plc,if_neg h1]
   ·try dsimp only
    unfold Jw;rw [Au oM,cond_false,hxl,Awg hxl]
  ·try dsimp only
   unfold Jy;rw [Au oM,cond_false]
 rotate_left
 ·have hi:=Ai hx;have hxl:=(hA x (List.mem_of_getElem? hx)).1
  try dsimp only
  unfold Jl;rw [Ax oM,cond_true,hx,obs,w1,w2,w3,Af oM,Int.toNat_natCast];rw [A3 (s0:=(0,List.replicate ((la+lb)+(ra+rb)) 0)) x.length (fun j=>(j,plc (fun j=>if j<la then j else lb+j) x ((la+lb)+(ra+rb)) j)) oM (Ru la lb rb x) rfl (fun j hj=>?_) ?_,obs,Af (by simp;omega),obs,Af oM]
  rotate_left
  ·have hlen:=Ut (pos:=fun j=>if j<la then j else lb+j) (x:=x) (n:=(la+lb)+(ra+rb)) j
   try dsimp only
   unfold Jt;rw [Ax oM,cond_true,Yn hj,obs,w1];by_cases h1:j<la
   ·rw [Ax oM,cond_true,gEg oM,obs,obs,Af oM,plc,if_pos h1]
   ·rw [Au oM,cond_false,Bc (n:=((la+lb:Nat):Int)+(j:Int)) oM oM,Bc oM oM,Bq oM,show (((la+lb:Nat):Int)+(j:Int) - (la:Int)).toNat=lb+j by omega,gEg oM,obs,obs,obs,Af oM,plc,if_neg h1]
  ·try dsimp only
   unfold Jt;rw [Au oM,cond_false,hxl,Awf hxl]
 ·try dsimp only
  unfold Jl;rw [Au oM,cond_false,List.nil_append]
end
end
section
-- the other leaves, one by one
def As2:List Int:=[2,3,5,7,11,13,17,19,23,29,31,37,41,43,47,53,59,61,67,71,73,79,83,89,97]
theorem Akq {p:Int} (h:isF p=true):p∈As2:=by
 have hb:=Ca h;obtain ⟨k,rfl⟩:∃ k:Nat,p=(k:Int):=⟨p.toNat,by omega⟩
 have hk:k<98:=by omega
 have key:(List.range 98).all (fun k=> !isF (k:Int)||As2.contains (k:Int))=true:=by kernel_rfl
 have:=List.all_eq_true.1 key k (List.mem_range.2 hk);rw [h,Bool.not_true,Bool.false_or] at this;exact List.contains_iff_mem.1 this
def Afg (p k v:Int):Bool:=match Bl p k v ⟨#[]⟩,A4 p k v ⟨#[]⟩ with
 | some a,some b=>a==b&&(L7 p a.1 a.2.1 a.2.2&&lfW (k,v,⟨#[]⟩)==some (a.1,a.2.1))
 | _,_=>false
theorem Aoe:(As2.all fun p=>[2,3,4,5,6,9,10,11,12].all fun k=>Afg p k 0)=true:=by kernel_rfl
def scV (p v:Int):Int:=(p - v) % p
theorem Ala:((List.range 97).all fun v=>(Cw 2 [(7,(v:Int),[0],[1])] [0] [1]==some true)&&(Cw 2 [(13,(v:Int),[0],[1])] [0] [1]==some true))=true:=by kernel_rfl
theorem Avz:(As2.all fun p=>(List.range p.toNat).all fun v=>(gj p 2 (Ml p 2 [[scV p (v:Int),1]])==[[1,(v:Int)]])&&((gj p 2 [[1,(v:Int)]]==[[1,(v:Int)]])&&(gj p 2 (Ml p 2 [[1,scV p (v:Int)]])==gj p 2 [[(v:Int),1]])))=true:=by kernel_rfl
theorem Ass {p k v:Int} (h:Afg p k v=true) (s:ByteArray):∃ a,Bl p k v s=some a/\A4 p k v s=some a/\L7 p a.1 a.2.1 a.2.2=true/\lfW (k,v,⟨#[]⟩)=some (a.1,a.2.1):=by
 have e1:Bl p k v s=Bl p k v ⟨#[]⟩:=by unfold Bl Lm;rfl
 have e2:A4 p k v s=A4 p k v ⟨#[]⟩:=by unfold A4;rfl
 rw [e1,e2];unfold Afg at h;split at h
 ·rename_i a b h1 h2;simp only [Bool.and_eq_true,beq_iff_eq] at h;obtain ⟨rfl,h3,h4⟩:=h;exact ⟨a,h1,h2,h3,h4⟩
 ·cases h
end
section
section
variable {p:Int} {n:Nat} {m:List (List Int)}
theorem Ar5 {u:Nat->Nat} {k:Nat} (h:∀ i j,i<j->j<k->u i<u j):∀ i,i<k->i<=u i:=by
 intro i
 induction i with
 | zero=>intro _;omega
 | succ i ih=>intro hi;have:=ih oM;have:=h i (i+1) oM hi;omega
theorem Aqd {pv:Nat->Nat} (h:J3 n m.length m pv):m.length<=n:=by
 refine Nat.le_of_not_lt fun hlt=>?_
 have h1:=Ar5 (fun i j a b=>h.mono i j a b) n hlt;have h2:=h.lt n hlt;omega
theorem Ait (hp:isF p=true) (hm:MatW p n m):MatW p n (gj p n m)/\(gj p n m).length<=n/\gj p n (gj p n m)=gj p n m:=by
 have hb:=Ca hp;obtain ⟨⟨pv,h1⟩,_⟩:=R7 hb.1 (Abe hp) hm;have h2:=Rj (n:=n) hb.1 hm;exact ⟨h2,Aqd h1,Aev hb.1 (Abe hp) h2 h2 h1 fun _=>Iff.rfl⟩
theorem Ahf {pv:Nat->Nat} (hp:isF p=true) (hm:MatW p n m) (h:J3 n m.length m pv):gj p n m=m :=
 Aev (Ca hp).1 (Abe hp) hm hm h fun _=>Iff.rfl
-- the identity
def idB (n:Nat):List (List Int):=(List.range n).map fun k=>unV n k++unV n k
theorem Arm {i:Nat} (hi:i<n):(idB n)[i]? =some (unV n i++unV n i):=by
 unfold idB;rw [List.getElem?_map,List.getElem?_range hi];rfl
theorem Afl (hp:2<=p):MatW p (n+n) (idB n):=fun x hx=>by
 obtain ⟨k,_,rfl⟩:=List.mem_map.1 hx;have h:=X8 (n:=n) (k:=k) hp;exact ⟨by rw [List.length_append,h.1],fun a ha=>(List.mem_append.1 ha).elim (h.2 a) (h.2 a)⟩
theorem Aum {i j:Nat} (hi:i<n) (hj:j<n):en (idB n) i j=if j=i then 1 else 0:=by
 unfold en;rw [Bg (Arm hi),gDg,List.getElem?_append_left (by simp [unV];omega),← gDg,Ah4 hi]
theorem Asl {i:Nat} (hi:i<n):(idV n)[i]? =some (unV n i):=by
 unfold idV;rw [List.getElem?_map,List.getElem?_range hi];rfl
theorem Avk {i j:Nat} (hi:i<n):en (idV n) i j=if j=i then 1 else 0:=by
 unfold en;rw [Bg (Asl hi),Ah4 hi]
theorem Arv (hp:2<=p):MatW p n (idV n):=fun x hx=>by
 obtain ⟨k,_,rfl⟩:=List.mem_map.1 hx;exact X8 hp
theorem Ali {R:List (List Int)} {c:Nat} (hl:R.length=n) (hc:n<=c) (he:∀ i j,i<n->j<n->en R i j=if j=i then 1 else 0):J3 c R.length R id where
 rl:=Nat.le_refl _
 lt i hi:=by show i<c;omega
 mono i k h _:=h
 low i hi j hj:=by
  have hj:j<i:=hj;rw [he i j oM oM,if_neg oM]
 one i hi:=by show en R i i=1;rw [he i i oM oM,if_pos rfl]
 zero i hi k hk:=by
  show en R k i=0;by_cases h:k<n
  ·rw [he k i h oM,if_neg oM]
  ·exact Qe oM
 tail i hi j _:=Qe hi
theorem Akv (hp:isF p=true):gj p (n+n) (idB n)=idB n :=
 Ahf hp (Afl (Ca hp).1) (Ali (n:=n) (by simp [idB]) oM fun i j hi hj=>Aum hi hj)
theorem Asu (hp:isF p=true):gj p n (idV n)=idV n :=
 Ahf hp (Arv (Ca hp).1) (Ali (n:=n) (by simp [idV]) (Nat.le_refl _) fun i j hi _=>Avk hi)
theorem T6 (hn:n<=1000):Dr (n:Int)=some ((n:Int),(n:Int),idB n):=by
 unfold Dr
 have key:Ap (fun s_:Nat×List (List Int)=>Cy (n:Int) s_.1 s_.2) 4611686018427387904 (0,([]:List (List Int)))=some (idB n):=by
  refine A3 n (fun k=>(k,(List.range k).map fun k=>unV n k++unV n k)) oM _ rfl (fun k hk=>?_) ?_
  ·try dsimp only
   unfold Cy;rw [Ax oM,cond_true,Akf hk hn,obs,obs,Ac7 _ _ (by simp [unV];omega),obs,Af (by simp;omega),Af oM,List.range_succ,List.map_append];rfl
  ·try dsimp only
   unfold Cy;rw [Au oM,cond_false];rfl
 rw [key];rfl
theorem Ara (hp:2<=p):gj p n []=[]:=by
 have h2:(gj p n []).length<=0:=by
  unfold gj;rw [List.length_take,(Lb hp (w:=0) (m:=[]) (fun x hx=>by cases hx) n).2.2];exact Nat.min_le_right _ _
 exact List.length_eq_zero_iff.1 oM
theorem Auo (hp:isF p=true):Ml p n []=idV n:=by
 unfold Ml;rw [Ara (Ca hp).1]
 have:Qn p n []=idV n:=by
  unfold Qn Xd idV;rw [List.filter_eq_self.2 (fun j _=>by simp [pvs])];rfl
 rw [this,Asu hp]
def rgI (n:Nat):List Int:=(List.range n).map fun k=>((k:Nat):Int)
theorem Avo (hn:n<=1000):N7 (n:Int)=some ((n:Int),[],rgI n,rgI n):=by
 unfold N7
 have key:Ap (fun s_:Nat×List Int=>Kx (n:Int) s_.1 s_.2) 4611686018427387904 (0,[])=some (rgI n):=by
  refine A3 n (fun k=>(k,rgI k)) oM _ rfl (fun k hk=>?_) ?_
  ·have hl:(rgI k).length=k:=by simp [rgI]
   try dsimp only
   unfold Kx;rw [Ax oM,cond_true,Af oM,Af oM,Af oM];unfold rgI;rw [List.range_succ,List.map_append];rfl
  ·try dsimp only
   unfold Kx;rw [Au oM,cond_false]
 rw [key];rfl
theorem Ahp (ends x:List Int) (hl:ends.length<=1000) (he:∀ e∈ends,0<=e/\e.toNat<x.length):Iy ends x=some (ends.map fun e=>x.getD e.toNat 0):=by
 unfold Iy
 have key:Ap (fun s_:Nat×List Int=>H8 ends x s_.1 s_.2) 4611686018427387904 (0,[])=some ([]++ends.map fun e=>x.getD e.toNat 0):=by
  refine Dx ends (fun e=>x.getD e.toNat 0) [] oM _ (fun j e h=>?_) ?_
  ·have:=Ai h;have hb:=he e (List.mem_of_getElem? h)
   try dsimp only
   unfold H8;rw [Ax oM,cond_true,h,obs,Bq hb.1,gEg hb.2,obs,Af (by simp;omega),Af oM,gDg,gEg hb.2];rfl
  ·try dsimp only
   unfold H8;rw [Au oM,cond_false]
 rw [key];rfl
theorem Asg (k:Nat):(rgI n).map (fun e=>(unV n k).getD e.toNat 0)=unV n k:=by
 unfold rgI;rw [List.map_map];refine List.ext_getElem? fun i=>?_
 by_cases h:i<n
 ·rw [List.getElem?_map,List.getElem?_range h];show some ((unV n k).getD i 0)=_;rw [gDg,gEg (show i<(unV n k).length by simp [unV];omega)];rfl
 ·rw [List.getElem?_eq_none (by simp;omega),List.getElem?_eq_none (by simp [unV];omega)]
theorem Aon (hp:isF p=true) (hn:n<=12):Fm p (n:Int) [] (rgI n) (rgI n)=some true:=by
 have hv:Cw (n:Int) [] (rgI n) (rgI n)=some true:=by
  rcases (show n=0∨n=1∨n=2∨n=3∨n=4∨n=5∨n=6∨n=7∨n=8∨n=9∨n=10∨n=11∨n=12 by omega) with rfl|rfl|rfl|rfl|rfl|rfl|rfl|rfl|rfl|rfl|rfl|rfl|rfl <;> kernel_rfl
 unfold Fm Lp;rw [Uy,hp,obs,Bool.not_true,cond_false,hv];rfl
theorem Aug (hp:isF p=true) (hn:n<=12) (s:ByteArray):Bl p 1 (n:Int) s=some ((n:Int),(n:Int),idB n):=by
 have hb:=Ca hp;have hl:(rgI n).length=n:=by simp [rgI]
 unfold Bl Lm;rw [show ((1:Int)==1)=true from rfl,cond_true,Avo oM,obs,obs];unfold Er;dsimp only;rw [Aon hp hn,obs,Bool.not_true,cond_false,Yr _ oM,obs,Af oM]
 have hvs:Ez p (n:Int) [] (rgI n) (rgI n)=some (idV n):=by
  unfold Ez;rw [show Ap (fun s_:Nat×List (List Int)=>Es [] p (n:Int) s_.1 s_.2) 4611686018427387904 (0,[])=some [] from rfl,obs,Aay hp (fun x hx=>by cases hx) oM (by simp),Auo hp];rfl
 rw [hvs,obs]
 have key:Ap (fun s_:Nat×List (List Int)=>C2 (idV n) (rgI n) (rgI n) s_.1 s_.2) 4611686018427387904 (0,([]:List (List Int)))=some ([]++(idV n).map fun x=>x++x):=by
  refine Dx (idV n) (fun x=>x++x) [] (by simp [idV];omega) _ (fun j x h=>?_) ?_
  ·have:=Ai h;have hil:(idV n).length=n:=by simp [idV]
   obtain ⟨k,_,rfl⟩:=List.mem_map.1 (List.mem_of_getElem? h)
   try dsimp only
   unfold C2;rw [Ax oM,cond_true,h,obs,Ahp _ _ (by rw [List.length_append];omega) (fun e he=>?_),obs,Af (by simp;omega),Af oM,List.map_append,Asg];rw [List.mem_append,or_self] at he;obtain ⟨i,hi,rfl⟩:=List.mem_map.1 he;have:=List.mem_range.1 hi;exact ⟨by omega,by simp [unV];omega⟩
  ·try dsimp only
   unfold C2;rw [Au oM,cond_false]
 rw [key,obs,List.nil_append,show (idV n).map (fun x=>x++x)=idB n by unfold idV idB;rw [List.map_map];rfl,hl,Aee hp (Afl hb.1) oM (by simp [idB];omega),Akv hp];rfl
end
section
variable {p v:Int}
theorem Agc {i j:Int} (hp:2<=p/\p<=97) (hv:0<=v/\v<p) (hi:i=0/\j=1∨i=1/\j=0):Ch p 2 [i,j] [1,v]=some (if i=0 then [1,v] else [v,1]):=by
 have e1:Dl p 0 1=some 1:=by rw [Alq hp oM oM,Int.emod_eq_of_lt oM oM];rfl
 have e2:Dl p 0 v=some v:=by rw [Alq hp oM hv,Int.zero_add,Int.emod_eq_of_lt hv.1 hv.2]
 unfold Ch;rw [Af oM];rcases hi with ⟨rfl,rfl⟩|⟨rfl,rfl⟩
 ·have h:Ap (fun s_:Nat×List Int=>Mj [0,1] [1,v] p s_.1 s_.2) 4611686018427387904 (0,List.replicate (2:Int).toNat (0:Int))=some [1,v]:=by
   refine A3 2 (fun i=>(i,if i=0 then [0,0] else if i=1 then [1,0] else [1,v])) oM _ rfl (fun i hi=>?_) rfl;rcases (show i=0∨i=1 by omega) with rfl|rfl
   ·show Option.bind (Dl p 0 1) (fun y15=>og (0+1<4611686018427387904) (some (Ctl.next (0+1,[0,0].set 0 y15))))=_;rw [e1,obs,Af oM];rfl
   ·show Option.bind (Dl p 0 v) (fun y15=>og (1+1<4611686018427387904) (some (Ctl.next (1+1,[1,0].set 1 y15))))=_;rw [e2,obs,Af oM];rfl
  rw [h];rfl
 ·have h:Ap (fun s_:Nat×List Int=>Mj [1,0] [1,v] p s_.1 s_.2) 4611686018427387904 (0,List.replicate (2:Int).toNat (0:Int))=some [v,1]:=by
   refine A3 2 (fun i=>(i,if i=0 then [0,0] else if i=1 then [0,1] else [v,1])) oM _ rfl (fun i hi=>?_) rfl;rcases (show i=0∨i=1 by omega) with rfl|rfl
   ·show Option.bind (Dl p 0 1) (fun y15=>og (0+1<4611686018427387904) (some (Ctl.next (0+1,[0,0].set 1 y15))))=_;rw [e1,obs,Af oM];rfl
   ·show Option.bind (Dl p 0 v) (fun y15=>og (1+1<4611686018427387904) (some (Ctl.next (1+1,[0,1].set 0 y15))))=_;rw [e2,obs,Af oM];rfl
  rw [h];rfl
theorem Ad8 (hp:2<=p):0<=scV p v/\scV p v<p:=Qz hp
theorem Any {k:Int} (hp:isF p=true) (hv:0<=v/\v<p) (hva:Cw 2 [(k,v,[0],[1])] [0] [1]=some true) (hk:Cb k=some true):Fm p 2 [(k,v,[0],[1])] [0] [1]=some true:=by
 unfold Fm Lp
 have h1:Ap (fun s_:Nat=>Ic [(k,v,[0],[1])] p s_) 4611686018427387904 0=some (Ctl.next ()):=by
  refine A3 1 (fun i=>i) oM _ rfl (fun i hi=>?_) ?_
  ·obtain rfl:i=0:=by omega
   unfold Ic;simp only [List.length_singleton,List.getElem?_cons_zero,obs];rw [Ax oM,cond_true,Au oM,cond_false,Af oM]
  ·unfold Ic;simp only [List.length_singleton];rw [Au oM,cond_false]
 have h2:Ap (fun s_:Nat=>G5 [(k,v,[0],[1])] s_) 4611686018427387904 0=some (Ctl.next ()):=by
  refine A3 1 (fun i=>i) oM _ rfl (fun i hi=>?_) ?_
  ·obtain rfl:i=0:=by omega
   unfold G5;simp only [List.length_singleton,List.getElem?_cons_zero,obs,hk];rw [Ax oM,cond_true,Bool.not_true,cond_false,Af oM]
  ·unfold G5;simp only [List.length_singleton];rw [Au oM,cond_false]
 rw [Uy,hp,obs,Bool.not_true,cond_false,hva,obs,obs,Bool.not_true,cond_false,h1,h2];rfl
theorem Apz {k:Int} {row:List Int} (hp:isF p=true) (hr:Gs p 2 k v [0] [1]=some [row]) (hm:MatW p 2 [row]):Ez p 2 [(k,v,[0],[1])] [0] [1]=some (Ml p 2 [row]):=by
 unfold Ez
 have h1:Ap (fun s_:Nat×List (List Int)=>Es [(k,v,[0],[1])] p 2 s_.1 s_.2) 4611686018427387904 (0,[])=some [row]:=by
  refine A3 1 (fun i=>(i,if i=0 then [] else [row])) oM _ rfl (fun i hi=>?_) ?_
  ·obtain rfl:i=0:=by omega
   try dsimp only
   unfold Es;simp only [List.length_singleton,List.getElem?_cons_zero,obs,hr];rw [Ax oM,cond_true,Af (by simp),Af oM];rfl
  ·try dsimp only
   unfold Es;simp only [List.length_singleton];rw [Au oM,cond_false];rfl
 have h2:=Aay (n:=2) hp hm oM (by simp);rw [h1,obs,show (2:Int)=((2:Nat):Int) from rfl,h2,obs]
theorem Aj0 {k:Int} {row:List Int} (hp:isF p=true) (hv:0<=v/\v<p) (hva:Cw 2 [(k,v,[0],[1])] [0] [1]=some true) (hk:Cb k=some true) (hr:Gs p 2 k v [0] [1]=some [row]) (hm:MatW p 2 [row]) :
  Er p 2 [(k,v,[0],[1])] [0] [1]=some (1,1,gj p 2 (Ml p 2 [row]),true):=by
 have hb:=Ca hp;have hN:=Ad2 (p:=p) (n:=2) (m:=[row]) hb.1;have hNl:=Afn (p:=p) (n:=2) (m:=[row]) hb.1;unfold Er;rw [Any hp hv hva hk,obs,Bool.not_true,cond_false,Yr _ (by simp),obs,Af (by simp),Apz hp hr hm,obs];generalize Ml p 2 [row]=M at *
 have key:Ap (fun s_:Nat×List (List Int)=>C2 M [0] [1] s_.1 s_.2) 4611686018427387904 (0,([]:List (List Int)))=some ([]++M.map fun x=>x):=by
  refine Dx M (fun x=>x) [] oM _ (fun j x h=>?_) ?_
  ·have:=Ai h;have hxl:=(hN x (List.mem_of_getElem? h)).1
   have hgl:Iy ([0]++[1]) x=some x:=by
    rw [Ahp _ _ (by simp) (fun e he=>?_)]
    ·match x,hxl with
     | [a,b],_=>rfl
    ·rcases List.mem_cons.1 he with rfl|he
     ·exact ⟨by omega,by rw [hxl];decide⟩
     ·obtain rfl:=List.mem_singleton.1 he;exact ⟨by omega,by rw [hxl];decide⟩
   try dsimp only
   unfold C2;rw [Ax oM,cond_true,h,obs,hgl,obs,Af (by simp;omega),Af oM]
  ·try dsimp only
   unfold C2;rw [Au oM,cond_false]
 rw [key,obs,List.nil_append,List.map_id'];have hR:=Aee (l:=1) (r:=1) hp hN oM oM;rw [show ((([0]:List Int).length:Nat):Int)=((1:Nat):Int) from rfl,show ((([1]:List Int).length:Nat):Int)=((1:Nat):Int) from rfl,hR,obs];rfl
theorem P2 {a b:Int} (ha:0<=a/\a<p) (hb:0<=b/\b<p):MatW p 2 [[a,b]]:=fun x hx=>by
 obtain rfl:=List.mem_singleton.1 hx;refine ⟨rfl,fun c hc=>?_⟩;rcases List.mem_cons.1 hc with rfl|hc
 ·exact ha
 ·obtain rfl:=List.mem_singleton.1 hc;exact hb
theorem Zf (hp:isF p=true) (hv:0<=v/\v<p):gj p 2 (Ml p 2 [[scV p v,1]])=[[1,v]]/\gj p 2 [[1,v]]=[[1,v]]/\gj p 2 (Ml p 2 [[1,scV p v]])=gj p 2 [[v,1]]:=by
 obtain ⟨u,rfl⟩:∃ u:Nat,v=(u:Int):=⟨v.toNat,by omega⟩
 have h:=List.all_eq_true.1 (List.all_eq_true.1 Avz p (Akq hp)) u (List.mem_range.2 oM);simp only [Bool.and_eq_true,beq_iff_eq] at h;exact h
theorem As6 (hp:isF p=true) (hv:0<=v/\v<p) (s:ByteArray):Bl p 7 v s=some (1,1,[[1,v]])/\A4 p 7 v s=some (1,1,[[1,v]]):=by
 have hb:=Ca hp;obtain ⟨f1,f2,f3⟩:=Zf hp hv
 have hva:Cw 2 [(7,v,[0],[1])] [0] [1]=some true:=by
  obtain ⟨u,rfl⟩:∃ u:Nat,v=(u:Int):=⟨v.toNat,by omega⟩
  have h:=List.all_eq_true.1 Ala u (List.mem_range.2 oM);simp only [Bool.and_eq_true,beq_iff_eq] at h;exact h.1
 have hr:Gs p 2 7 v [0] [1]=some [[scV p v,1]]:=by
  show Option.bind (E3 p v) (fun y34=>Option.bind (Ch p 2 [1,0] [1,y34]) fun y35=>some [y35])=_;rw [Yv hb hv,obs];show Option.bind (Ch p 2 [1,0] [1,scV p v]) _=_;rw [Agc hb (Ad8 hb.1) (.inr ⟨rfl,rfl⟩)];rfl
 constructor
 ·show Option.bind (Er p 2 [(7,v,[0],[1])] [0] [1]) (fun y4=>some (y4.1,y4.2.1,y4.2.2.1))=_;rw [Aj0 hp hv hva rfl hr (P2 (Ad8 hb.1) ⟨by omega,by omega⟩),f1];rfl
 ·show Option.bind (Bo p ((1:Nat):Int) ((1:Nat):Int) [[1,v]]) (fun y25=>some (y25.1,y25.2.1,y25.2.2))=_;rw [Nc hp (P2 ⟨by omega,by omega⟩ hv) oM (by simp),f2];rfl
theorem Ami (hp:isF p=true) (hv:0<=v/\v<p) (s:ByteArray):Bl p 13 v s=some (1,1,gj p 2 [[v,1]])/\A4 p 13 v s=some (1,1,gj p 2 [[v,1]]):=by
 have hb:=Ca hp;obtain ⟨f1,f2,f3⟩:=Zf hp hv
 have hva:Cw 2 [(13,v,[0],[1])] [0] [1]=some true:=by
  obtain ⟨u,rfl⟩:∃ u:Nat,v=(u:Int):=⟨v.toNat,by omega⟩
  have h:=List.all_eq_true.1 Ala u (List.mem_range.2 oM);simp only [Bool.and_eq_true,beq_iff_eq] at h;exact h.2
 have hr:Gs p 2 13 v [0] [1]=some [[1,scV p v]]:=by
  show Option.bind (E3 p v) (fun y34=>Option.bind (Ch p 2 [0,1] [1,y34]) fun y35=>some [y35])=_;rw [Yv hb hv,obs];show Option.bind (Ch p 2 [0,1] [1,scV p v]) _=_;rw [Agc hb (Ad8 hb.1) (.inl ⟨rfl,rfl⟩)];rfl
 constructor
 ·show Option.bind (Er p 2 [(13,v,[0],[1])] [0] [1]) (fun y4=>some (y4.1,y4.2.1,y4.2.2.1))=_;rw [Aj0 hp hv hva rfl hr (P2 ⟨by omega,by omega⟩ (Ad8 hb.1)),f3];rfl
 ·show Option.bind (Bo p ((1:Nat):Int) ((1:Nat):Int) [[1,v]]) (fun y19=>Option.bind (Mi p y19.1 y19.2.1 y19.2.2) fun y20=>some (y20.1,y20.2.1,y20.2.2))=_;rw [Nc hp (P2 ⟨by omega,by omega⟩ hv) oM (by simp),f2];show Option.bind (Option.bind (Bo p ((1:Nat):Int) ((1:Nat):Int) [[v,1]]) fun y4=>some (y4.1,y4.2.1,y4.2.2)) (fun y20=>some (y20.1,y20.2.1,y20.2.2))=_;rw [Nc hp (P2 hv ⟨by omega,by omega⟩) oM (by simp)];rfl
end
theorem Alw {p n:Int} {b:List (List Int)} (hn:0<=n) (h:MatW p n.toNat b):U4 p n b=true:=by
 unfold U4;rw [List.all_eq_true];intro x hx;have hx:=h x hx;rw [Bool.and_eq_true,beq_iff_eq,List.all_eq_true];refine ⟨by have:=hx.1;omega,fun a ha=>?_⟩;have:=hx.2 a ha;rw [Gc];omega
theorem Yy {p:Int} {l r:Nat} {b:List (List Int)} (hp:isF p=true) (hs:l+r<=24) (hb:b.length<=l+r) (hm:MatW p (l+r) b) (hg:gj p (l+r) b=b):L7 p (l:Int) (r:Int) b=true:=by
 have e:((l:Int)+(r:Int)).toNat=l+r:=by omega
 unfold L7;simp only [Bool.and_eq_true,Gc,decide_eq_true_eq,beq_iff_eq];exact ⟨hp,⟨by omega,by omega⟩,⟨by omega,by omega⟩,by omega,Alw oM (by rw [e];exact hm),by rw [e];exact hg⟩
theorem Au9 {v:Int} (h:inR v 0 96=true):lfW (7,v,⟨#[]⟩)=some (1,1):=by
 unfold lfW;dsimp only;rw [if_pos (show K4 ⟨#[]⟩=true from beq_self_eq_true _),if_neg (by decide),if_neg (by decide),if_pos (by decide),if_pos (show Xu 7 v=true by unfold Xu;rw [if_pos (.inl rfl)];exact h)];rfl
theorem Aro {v:Int} (h:inR v 0 96=true):lfW (13,v,⟨#[]⟩)=some (1,1):=by
 unfold lfW;dsimp only;rw [if_pos (show K4 ⟨#[]⟩=true from beq_self_eq_true _),if_neg (by decide),if_neg (by decide),if_pos (by decide),if_pos (show Xu 13 v=true by unfold Xu;rw [if_pos (.inr rfl)];exact h)];rfl
theorem Apr {p:Int} (hp:isF p=true) {n:Nd} {w:Int×Int} (hw:lfW n=some w) (hs:n.1≠8/\n.1≠14) (hv:n.1=7∨n.1=13->n.2.1<p) :
  ∃ a,Bl p n.1 n.2.1 n.2.2=some a/\A4 p n.1 n.2.1 n.2.2=some a/\L7 p a.1 a.2.1 a.2.2=true/\w=(a.1,a.2.1):=by
 have hb:=Ca hp;obtain ⟨k,v,s⟩:=n;have hk:=R4 hw;have hm:=Akq hp
 have h0:lfW (k,v,⟨#[]⟩)=some w:=by
  unfold lfW at hw ⊢;dsimp only at hw ⊢;split at hw
  ·rw [if_pos (show K4 ⟨#[]⟩=true from beq_self_eq_true _)];exact hw
  ·cases hw
 have fin:Afg p k v=true->∃ a,Bl p k v s=some a/\A4 p k v s=some a/\L7 p a.1 a.2.1 a.2.2=true/\w=(a.1,a.2.1):=fun h=>by
  obtain ⟨a,h1,h2,h3,h4⟩:=Ass h s;exact ⟨a,h1,h2,h3,osj (h0.symm.trans h4)⟩
 dsimp only at *;by_cases h1:k=1
 ·subst h1;have h0':=h0;unfold lfW at h0';dsimp only at h0';rw [if_pos (show K4 ⟨#[]⟩=true from beq_self_eq_true _),if_pos rfl] at h0';split at h0'
  ·rename_i hvb;obtain rfl:=osj h0';obtain ⟨m,rfl⟩:∃ m:Nat,v=(m:Int):=⟨v.toNat,by omega⟩
   have hm12:m<=12:=by omega
   refine ⟨((m:Int),(m:Int),idB m),Aug hp hm12 s,?_,Yy hp oM (by simp [idB]) (Afl hb.1) (Akv hp),rfl⟩;unfold A4;rw [show ((1:Int)==1)=true from rfl,cond_true,T6 oM,obs]
  ·cases h0'
 ·have hval:k=2/\v=0∨(3<=k/\k<=14/\Xu k v=true):=by
   have h0':=h0;unfold lfW at h0';dsimp only at h0';rw [if_pos (show K4 ⟨#[]⟩=true from beq_self_eq_true _)] at h0';rw [if_neg h1] at h0';split at h0'
   ·split at h0'
    ·rename_i h2 h3;exact .inl ⟨h2,h3⟩
    ·cases h0'
   ·split at h0'
    ·split at h0'
     ·rename_i h2 h3;exact .inr ⟨h2.1,h2.2,h3⟩
     ·cases h0'
    ·cases h0'
  by_cases hsc:k=7∨k=13
  ·have hvp:=hv hsc;rcases hval with ⟨rfl,_⟩|⟨_,_,hvb⟩
   ·omega
   unfold Xu at hvb;rw [if_pos hsc] at hvb;have hvi:=Gc.1 hvb;obtain ⟨u,rfl⟩:∃ u:Nat,v=(u:Int):=⟨v.toNat,by omega⟩
   have hvb':(0:Int)<=(u:Int)/\(u:Int)<p:=⟨by omega,hvp⟩
   have hw1:w=(1,1):=by
    refine osj (h0.symm.trans ?_);rcases hsc with rfl|rfl
    ·exact Au9 hvb
    ·exact Aro hvb
   subst hw1;rcases hsc with rfl|rfl
   ·obtain ⟨g1,g2⟩:=As6 hp hvb' s;exact ⟨_,g1,g2,Yy (l:=1) (r:=1) hp oM (by simp) (P2 ⟨by omega,by omega⟩ hvb') (Zf hp hvb').2.1,rfl⟩
   ·obtain ⟨g1,g2⟩:=Ami hp hvb' s;obtain ⟨q1,q2,q3⟩:=Ait hp (n:=2) (m:=[[(u:Int),1]]) (P2 (p:=p) hvb' ⟨by omega,by omega⟩);exact ⟨_,g1,g2,Yy (l:=1) (r:=1) hp oM q2 q1 q3,rfl⟩
  ·have hv0:v=0:=by
    rcases hval with ⟨_,h⟩|⟨_,_,hvb⟩
    ·exact h
    ·unfold Xu at hvb;rw [if_neg hsc,beq_iff_eq] at hvb;exact hvb
   subst hv0;refine fin (List.all_eq_true.1 (List.all_eq_true.1 Aoe p hm) k ?_);have:k=2∨k=3∨k=4∨k=5∨k=6∨k=9∨k=10∨k=11∨k=12:=by omega
   rcases this with rfl|rfl|rfl|rfl|rfl|rfl|rfl|rfl|rfl <;> simp
end
section
abbrev Rn:=Nat×Nat×List (List Int)
abbrev Rl:=Int×Int×List (List Int)
def B0 (x:Rn):Rl:=((x.1:Int),(x.2.1:Int),x.2.2)
structure Mq (p:Int) (x:Rn):Prop where
 mb:MatW p (x.1+x.2.1) x.2.2
 lb:x.2.2.length<=x.1+x.2.1
 rb:gj p (x.1+x.2.1) x.2.2=x.2.2
def Ag9 (p:Int):List (Int×Int)->List Rn->Prop
 | [],[]=>True
 | w :: T,x :: R=>(w=((x.1:Int),(x.2.1:Int))/\Mq p x)/\Ag9 p T R
 | _,_=>False
def Ajo (p:Int) (a b:Rn):Rn:=(a.1,b.2.1,Auw p a.1 a.2.1 b.2.1 a.2.2 b.2.2)
def Afw (p:Int) (a b:Rn):Rn:=(a.1+b.1,a.2.1+b.2.1,Aud p a.1 a.2.1 b.1 b.2.1 a.2.2 b.2.2)
def N5 (p:Int) (lf:Nd->Rn) (n:Nd):List Rn->List Rn
 | b :: a :: r=>if n.1=15 then Ajo p a b :: r else if n.1=16 then Afw p a b :: r else lf n :: b :: a :: r
 | R=>lf n :: R
def Kl (p:Int) (lf:Nd->Rn):List Nd->List Rn->List Rn
 | [],R=>R
 | n :: r,R=>Kl p lf r (N5 p lf n R)
section
variable {p:Int} {lf:Nd->Rn}
theorem Qb {n:Nd} (h:¬ (n.1=15∨n.1=16)) (R:List Rn):N5 p lf n R=lf n :: R:=by
 match R with
 | []=>rfl
 | [_]=>rfl
 | b :: a :: r =>
  show (if n.1=15 then _ else if n.1=16 then _ else _)=_;rw [if_neg (fun e=>h (.inl e)),if_neg (fun e=>h (.inr e))]
theorem Abq:∀ (xs ys:List Nd) (R:List Rn),Kl p lf (xs++ys) R=Kl p lf ys (Kl p lf xs R)
 | [],_,_=>rfl
 | _ :: r,ys,_=>Abq r ys _
theorem Rf {xs:List Nd} {k:Nat} {n:Nd} (h:xs[k]? =some n):Kl p lf (xs.take (k+1)) []=N5 p lf n (Kl p lf (xs.take k) []):=by
 rw [List.take_add_one,h,Abq];rfl
theorem Apy (hp:isF p=true) {a b:Rn} (ha:Mq p a) (hb:Mq p b) (h:b.1=a.2.1):Mq p (Ajo p a b):=by
 have hb1:=hb.mb;rw [h] at hb1
 have hm:MatW p (a.1+b.2.1) ((Ml p (a.2.2.length+b.2.2.length) (V8 p a.1 a.2.1 a.2.2 b.2.2)).map (Ad1 p a.1 a.2.1 b.2.1 a.2.2 b.2.2)):=fun x hx=>by
  obtain ⟨c,_,rfl⟩:=List.mem_map.1 hx;exact Ah5 (Ca hp).1 ha.mb hb1
 obtain ⟨h1,h2,h3⟩:=Ait hp hm;exact ⟨h1,h2,h3⟩
theorem Aoh (hp:isF p=true) {a b:Rn} (ha:Mq p a) (hb:Mq p b):Mq p (Afw p a b):=by
 obtain ⟨h1,h2,h3⟩:=Ait hp (Ae7 (Ca hp).1 ha.mb hb.mb);exact ⟨h1,h2,h3⟩
theorem Aqh (hp:isF p=true) {lt:Nd->Option (Int×Int)} {n:Nd} (hleaf:∀ w,¬ (n.1=15∨n.1=16)->lt n=some w->w=(((lf n).1:Int),((lf n).2.1:Int))/\Mq p (lf n)) {T T':List (Int×Int)} {R:List Rn} (hT:Ec lt n T=some T') (hR:Ag9 p T R):Ag9 p T' (N5 p lf n R):=by
 unfold Ec at hT;by_cases hc:n.1=15∨n.1=16
 ·rw [if_pos hc] at hT;split at hT
  ·match T,R,hT,hR with
   | w2 :: w1 :: T,y :: x :: R,hT,⟨⟨ey,gy⟩,⟨ex,gx⟩,hR⟩ =>
    subst ey ex;dsimp only at hT;show Ag9 p T' (if n.1=15 then Ajo p x y :: R else if n.1=16 then Afw p x y :: R else lf n :: y :: x :: R);by_cases h15:n.1=15
    ·rw [if_pos h15] at hT ⊢;split at hT
     ·rename_i he;obtain rfl:=osj hT;exact ⟨⟨rfl,Apy hp gx gy oM⟩,hR⟩
     ·cases hT
    ·rw [if_neg h15] at hT ⊢;rw [if_pos (hc.resolve_left h15)];split at hT
     ·obtain rfl:=osj hT;refine ⟨⟨?_,Aoh hp gx gy⟩,hR⟩;unfold Afw;simp
     ·cases hT
  ·cases hT
 ·rw [if_neg hc] at hT;obtain ⟨w,hw,rfl⟩:=oms.1 hT;rw [Qb hc];exact ⟨hleaf w hc hw,hR⟩
-- one step on each side
theorem Aol {S:List Rl} {a b:Rl} {k:Nat} (h:S.length=k):(S++[a,b])[k]? =some a/\(S++[a,b])[k+1]? =some b/\(S++[a,b]).take k=S:=by
 subst h;refine ⟨by simp,by simp,by simp⟩
theorem Alc {x y:Rn} {R:List Rn}:((y :: x :: R).map B0).reverse=(R.map B0).reverse++[B0 x,B0 y]:=by simp
theorem Pt {x:Rn} {R:List Rn}:((x :: R).map B0).reverse=(R.map B0).reverse++[B0 x]:=by simp
theorem Ago (hp:isF p=true) {x y:Rn} (gx:Mq p x) (gy:Mq p y) (h:y.1=x.2.1) (b1:x.1+x.2.1<=100) (b2:y.1+y.2.1<=100) :
  Gg p (B0 x).1 (B0 x).2.1 (B0 x).2.2 (B0 y).1 (B0 y).2.1 (B0 y).2.2=some (B0 (Ajo p x y))/\Fu p (B0 x).1 (B0 x).2.1 (B0 x).2.2 (B0 y).1 (B0 y).2.1 (B0 y).2.2=some (B0 (Ajo p x y)):=by
 have gy1:=gy.mb;have l1:=gx.lb;have l2:=gy.lb;rw [h] at gy1 b2 l2;unfold B0;dsimp only;rw [h];exact ⟨Ajf hp gx.mb gy1 b1 b2 oM oM,Afy hp gx.mb gy1 b1 b2 oM oM⟩
theorem Agr (hp:isF p=true) {x y:Rn} (gx:Mq p x) (gy:Mq p y) (b1:x.1+x.2.1<=100) (b2:y.1+y.2.1<=100) :
  Ix p (B0 x).1 (B0 x).2.1 (B0 x).2.2 (B0 y).1 (B0 y).2.1 (B0 y).2.2=some (B0 (Afw p x y))/\Gj p (B0 x).1 (B0 x).2.1 (B0 x).2.2 (B0 y).1 (B0 y).2.1 (B0 y).2.2=some (B0 (Afw p x y)):=by
 have l1:=gx.lb;have l2:=gy.lb;unfold B0;dsimp only;exact ⟨Aoo hp gx.mb gy.mb b1 b2 oM oM,Aim hp gx.mb gy.mb b1 b2 oM oM⟩
-- what leaves stand for
def Ahg (x:Rl):Rn:=(x.1.toNat,x.2.1.toNat,x.2.2)
theorem Arw {x:Rl} (h1:0<=x.1) (h2:0<=x.2.1):B0 (Ahg x)=x:=by
 obtain ⟨a,b,c⟩:=x;unfold B0 Ahg;dsimp only at *;rw [Int.toNat_of_nonneg h1,Int.toNat_of_nonneg h2]
theorem An7 {x:Rl} (h:L7 p x.1 x.2.1 x.2.2=true):Mq p (Ahg x)/\B0 (Ahg x)=x:=by
 have G:=Ac1 h;have h1:=G.hl;have h2:=G.hr;have e:x.1.toNat+x.2.1.toNat=(x.1+x.2.1).toNat:=by omega
 refine ⟨⟨?_,?_,?_⟩,Arw h1 h2⟩
 ·show MatW p (x.1.toNat+x.2.1.toNat) x.2.2;rw [e];exact G.mb
 ·show x.2.2.length<=x.1.toNat+x.2.1.toNat;have:=G.lb;omega
 ·show gj p (x.1.toNat+x.2.1.toNat) x.2.2=x.2.2;rw [e];exact G.rb
end
end
section
section
variable {p:Int}
def lfD (p:Int) (n:Nd):Rn:=match A4 p n.1 n.2.1 n.2.2 with|some a=>Ahg a|none=>(0,0,[])
theorem Abm (hp:isF p=true) {n:Nd} {w:Int×Int} (hw:lfW n=some w) (hs:n.1≠8/\n.1≠14) (hv:n.1=7∨n.1=13->n.2.1<p) :
  Bl p n.1 n.2.1 n.2.2=some (B0 (lfD p n))/\A4 p n.1 n.2.1 n.2.2=some (B0 (lfD p n))/\w=(((lfD p n).1:Int),((lfD p n).2.1:Int))/\Mq p (lfD p n):=by
 obtain ⟨a,h1,h2,h3,rfl⟩:=Apr hp hw hs hv;obtain ⟨g1,g2⟩:=An7 (x:=a) h3
 have e:lfD p n=Ahg a:=by
  unfold lfD;rw [h2]
 rw [e,g2];refine ⟨h1,h2,?_,g1⟩;have e1:(B0 (Ahg a)).1=a.1:=by rw [g2]
 have e2:(B0 (Ahg a)).2.1=a.2.1:=by rw [g2]
 exact Prod.ext e1.symm e2.symm
theorem Anp (hp:isF p=true) {xs:List Nd} {k:Nat} {n:Nd} (hx:xs[k]? =some n) (hl:xs.length<=1000) {T T':List (Int×Int)} {R:List Rn} (hT:Ec lfW n T=some T') (hok:okT T) (hR:Ag9 p T R) (hlen:R.length<=1000)
  (hI:∀ w,¬ (n.1=15∨n.1=16)->lfW n=some w->A4 p n.1 n.2.1 n.2.2=some (B0 (lfD p n))) :
  Fk xs p k (R.map B0).reverse=some (.next (k+1,((N5 p (lfD p) n R).map B0).reverse)):=by
 have hk:=Ai hx;unfold Fk;rw [Ax oM,cond_true,hx,obs];by_cases hc:n.1=15∨n.1=16
 ·unfold Ec at hT;rw [if_pos hc] at hT;split at hT
  ·match T,R,hT,hR with
   | w2 :: w1 :: T,y :: x :: R,hT,⟨⟨ey,gy⟩,⟨ex,gx⟩,hR⟩ =>
    subst ey ex;have o1:=hok _ (List.mem_cons_of_mem _ List.mem_cons_self);have o2:=hok _ List.mem_cons_self;obtain ⟨⟨_,o11⟩,_,o12⟩:=o1;obtain ⟨⟨_,o21⟩,_,o22⟩:=o2;dsimp only at o11 o12 o21 o22 hT;rw [List.length_cons,List.length_cons] at hlen;rw [Alc];have hSl:((R.map B0).reverse).length=R.length:=by simp
    generalize hS:(R.map B0).reverse=S at *;obtain ⟨s1,s2,s3⟩:=Aol (a:=B0 x) (b:=B0 y) hSl;have w1:wI (((R.length+2:Nat):Int) - 1)=((R.length+1:Nat):Int):=by rw [Bc oM oM];omega
    have w2:wI (((R.length+1:Nat):Int) - 1)=((R.length:Nat):Int):=by rw [Bc oM oM];omega
    have hl2:(S++[B0 x,B0 y]).length=R.length+2:=by simp [hSl]
    simp only [w1,w2,hl2,Bq (Int.natCast_nonneg _),Int.toNat_natCast,s1,s2,s3,obs];show _=some (Ctl.next (k+1,((if n.1=15 then Ajo p x y :: R else if n.1=16 then Afw p x y :: R else lfD p n :: y :: x :: R).map B0).reverse));by_cases h15:n.1=15
    ·rw [if_pos h15] at hT ⊢;split at hT
     ·rename_i he;rw [show (n.1==15)=true from beq_iff_eq.2 h15,cond_true,Af oM,(Ago hp gx gy oM oM oM).1,obs,Af oM,obs,Af oM,Pt,hS]
     ·cases hT
    ·rw [if_neg h15] at hT ⊢;have h16:=hc.resolve_left h15;rw [if_pos h16,show (n.1==15)=false from beq_eq_false_iff_ne.2 h15,cond_false,show (n.1==16)=true from beq_iff_eq.2 h16,cond_true,Af oM,(Agr hp gx gy oM oM).1,obs,Af oM,obs,Af oM,Pt,hS]
  ·cases hT
 ·unfold Ec at hT;rw [if_neg hc] at hT;obtain ⟨w,hw,_⟩:=oms.1 hT;rw [Qb hc,Pt,show (n.1==15)=false from beq_eq_false_iff_ne.2 (fun e=>hc (.inl e)),cond_false,show (n.1==16)=false from beq_eq_false_iff_ne.2 (fun e=>hc (.inr e)),cond_false];have hSl:((R.map B0).reverse).length=R.length:=by simp
  rw [hI w hc hw,obs,Af oM,obs,Af oM]
theorem Aoa (hp:isF p=true) {xs:List Nd} {k:Nat} {n:Nd} (hx:xs[k]? =some n) (hl:xs.length<=1000) (hst:(n.1==8||n.1==14)=false) {T T':List (Int×Int)} {R:List Rn} (hT:Ec lfW n T=some T') (hok:okT T) (hR:Ag9 p T R) (hlen:R.length<=1000)
  (hI:∀ w,¬ (n.1=15∨n.1=16)->lfW n=some w->Bl p n.1 n.2.1 n.2.2=some (B0 (lfD p n))) :
  Fp xs p k (R.map B0).reverse=some (.next (k+1,((N5 p (lfD p) n R).map B0).reverse)):=by
 have hk:=Ai hx;unfold Fp Cb;rw [Ax oM,cond_true,hx,obs,show (n.1 !=8)= !(n.1==8) from rfl,show (n.1 !=14)= !(n.1==14) from rfl];obtain ⟨t1,t2⟩:=Bool.or_eq_false_iff.1 hst;rw [t1,t2];by_cases hc:n.1=15∨n.1=16
 ·unfold Ec at hT;rw [if_pos hc] at hT;split at hT
  ·match T,R,hT,hR with
   | w2 :: w1 :: T,y :: x :: R,hT,⟨⟨ey,gy⟩,⟨ex,gx⟩,hR⟩ =>
    subst ey ex;have o1:=hok _ (List.mem_cons_of_mem _ List.mem_cons_self);have o2:=hok _ List.mem_cons_self;obtain ⟨⟨_,o11⟩,_,o12⟩:=o1;obtain ⟨⟨_,o21⟩,_,o22⟩:=o2;dsimp only at o11 o12 o21 o22 hT;rw [List.length_cons,List.length_cons] at hlen;rw [Alc];have hSl:((R.map B0).reverse).length=R.length:=by simp
    generalize hS:(R.map B0).reverse=S at *;obtain ⟨s1,s2,s3⟩:=Aol (a:=B0 x) (b:=B0 y) hSl;have hl2:(S++[B0 x,B0 y]).length=R.length+2:=by simp [hSl]
    have w1:wI (((R.length+2:Nat):Int) - 1)=((R.length+1:Nat):Int):=by rw [Bc oM oM];omega
    have w2:wI (((R.length+2:Nat):Int) - 2)=((R.length:Nat):Int):=by rw [Bc oM oM];omega
    simp only [hl2,w1,w2,Bq (Int.natCast_nonneg _),Int.toNat_natCast,s1,s2,s3,obs,Bool.not_false,cond_true,Bool.not_true,cond_false];show _=some (Ctl.next (k+1,((if n.1=15 then Ajo p x y :: R else if n.1=16 then Afw p x y :: R else lfD p n :: y :: x :: R).map B0).reverse));by_cases h15:n.1=15
    ·rw [if_pos h15] at hT ⊢;split at hT
     ·rename_i he;have n15:(n.1 !=15)=false:=by rw [h15];rfl
      have b15:(n.1==15)=true:=beq_iff_eq.2 h15;simp only [n15,b15,cond_true,cond_false,obs];rw [Af oM,(Ago hp gx gy oM oM oM).2,obs,Af oM,Pt,hS];exact Af oM _
     ·cases hT
    ·rw [if_neg h15] at hT ⊢;have h16:=hc.resolve_left h15;have n15:(n.1 !=15)=true:=bne_iff_ne.2 h15;have n16:(n.1 !=16)=false:=by rw [h16];rfl
     have b15:(n.1==15)=false:=beq_eq_false_iff_ne.2 h15;rw [if_pos h16];simp only [n15,n16,b15,cond_true,cond_false,obs];rw [Af oM,(Agr hp gx gy oM oM).2,obs,Af oM,Pt,hS];exact Af oM _
  ·cases hT
 ·unfold Ec at hT;rw [if_neg hc] at hT;obtain ⟨w,hw,_⟩:=oms.1 hT;have n15:(n.1 !=15)=true:=bne_iff_ne.2 fun e=>hc (.inl e)
  have n16:(n.1 !=16)=true:=bne_iff_ne.2 fun e=>hc (.inr e)
  have hSl:((R.map B0).reverse).length=R.length:=by simp
  rw [Qb hc,Pt];simp only [n15,n16,cond_true,cond_false,obs,Bool.not_false,Bool.not_true];rw [hI w hc hw,obs,Af oM];show og (k+1<4611686018427387904) (some (Ctl.next (k+1,_)))=_;rw [Af oM]
theorem As9 (hp:isF p=true) {xs:List Nd} (hx:xs.length<=400) {T:List (Int×Int)} (hT:Js lfW xs []=some T) (hs:Xz xs=true) (hv:Oa p xs=true) :
  Ag9 p T (Kl p (lfD p) xs [])/\Ap (fun s_:Nat×(List (Int×Int×List (List Int)))=>Fk xs p s_.1 s_.2) 4611686018427387904 (0,[])=some ((Kl p (lfD p) xs []).map B0).reverse
   /\ Ap (fun s_:Nat×(List (Int×Int×List (List Int)))=>Fp xs p s_.1 s_.2) 4611686018427387904 (0,[])=some (.next ((Kl p (lfD p) xs []).map B0).reverse):=by
 have hnode:∀ n∈xs,(n.1≠8/\n.1≠14)/\(n.1=7∨n.1=13->n.2.1<p):=fun n hn=>by
  have h1:=List.all_eq_true.1 hs n hn;have h2:=List.all_eq_true.1 hv n hn;simp only [Bool.not_eq_true',Bool.or_eq_false_iff,beq_eq_false_iff_ne,Bool.and_eq_false_iff,decide_eq_false_iff_not] at h1 h2;exact ⟨h1,fun h=>by rcases h2 with ⟨a,b⟩|h2 <;> omega⟩
 have hleaf:∀ n∈xs,∀ w,¬ (n.1=15∨n.1=16)->lfW n=some w->w=(((lfD p n).1:Int),((lfD p n).2.1:Int))/\Mq p (lfD p n):=fun n hn w _ hw=>by
  obtain ⟨_,_,h3,h4⟩:=Abm hp hw (hnode n hn).1 (hnode n hn).2;exact ⟨h3,h4⟩
 have hpre:∀ k,k<=xs.length->∃ Tk,Js lfW (xs.take k) []=some Tk/\okT Tk/\Ag9 p Tk (Kl p (lfD p) (xs.take k) [])/\(Kl p (lfD p) (xs.take k) []).length<=k:=by
  intro k
  induction k with
  | zero=>exact fun _=>⟨[],rfl,(fun _ h=>by cases h),trivial,Nat.le_refl _⟩
  | succ k ih =>
   intro hk;obtain ⟨Tk,h1,h2,h3,h4⟩:=ih oM;have hg:=gEg (show k<xs.length by omega);have hm:=List.getElem_mem (show k<xs.length by omega);have hn:=M5 hg h1;rw [Rf hg];cases hst:Ec lfW xs[k] Tk with
   | none=>rw [hst] at hn;rw [Sk hn] at hT;cases hT
   | some T' =>
    rw [hst] at hn;refine ⟨T',hn,Nr (fun n w h=>Afb h) hst h2,Aqh hp (hleaf _ hm) hst h3,?_⟩
    have hlen:∀ (n:Nd) (R:List Rn),(N5 p (lfD p) n R).length<=R.length+1:=fun n R=>by
     unfold N5;split
     ·split
      ·simp only [List.length_cons];omega
      ·split <;> simp only [List.length_cons] <;> omega
     ·simp
    exact Nat.le_trans (hlen _ _) oM
 refine ⟨?_,?_,?_⟩
 ·obtain ⟨Tk,h1,_,h3,_⟩:=hpre xs.length (Nat.le_refl _);rw [List.take_length] at h1 h3;rw [hT] at h1;obtain rfl:=osj h1;exact h3
 ·refine A3 xs.length (fun k=>(k,((Kl p (lfD p) (xs.take k) []).map B0).reverse)) oM _ rfl (fun k hk=>?_) ?_
  ·obtain ⟨Tk,h1,h2,h3,h4⟩:=hpre k oM;obtain ⟨Tn,g1,_⟩:=hpre (k+1) oM;have hg:=gEg hk;have hm:=List.getElem_mem hk;have hn:=M5 hg h1;rw [g1] at hn;rw [Rf hg];exact Anp hp hg oM hn.symm h2 h3 oM (fun w hc hw=>(Abm hp hw (hnode _ hm).1 (hnode _ hm).2).2.1)
  ·try dsimp only
   unfold Fk;rw [Au oM,cond_false,List.take_length]
 ·refine A3 xs.length (fun k=>(k,((Kl p (lfD p) (xs.take k) []).map B0).reverse)) oM _ rfl (fun k hk=>?_) ?_
  ·obtain ⟨Tk,h1,h2,h3,h4⟩:=hpre k oM;obtain ⟨Tn,g1,_⟩:=hpre (k+1) oM;have hg:=gEg hk;have hm:=List.getElem_mem hk;have hn:=M5 hg h1;rw [g1] at hn;rw [Rf hg];refine Aoa hp hg oM ?_ hn.symm h2 h3 oM (fun w hc hw=>(Abm hp hw (hnode _ hm).1 (hnode _ hm).2).1);rw [Bool.or_eq_false_iff,beq_eq_false_iff_ne,beq_eq_false_iff_ne];exact (hnode _ hm).1
  ·try dsimp only
   unfold Fp;rw [Au oM,cond_false,List.take_length]
theorem Auk {xs:List Nd} {s:ByteArray} {l r:Int} {b:List (List Int)} (hp:isF p=true) {w:Int×Int} (hT:tyV xs=some w) (hs:Xz xs=true) (hv:Oa p xs=true) :
  ∃ x:Rn,Mq p x/\w=((x.1:Int),(x.2.1:Int))/\okW w/\Ll p xs=some (B0 x)/\L0 p s xs l r b=some (B0 x):=by
 have hw:=hT;unfold tyV tyG at hw;split at hw
 ·rename_i hx;cases hr:Js lfW xs [] with
  | none=>rw [hr] at hw;cases hw
  | some T =>
   rw [hr] at hw;have hok:=Ak2 (fun n w h=>Afb h) hr (fun _ h=>by cases h);obtain ⟨h1,h2,h3⟩:=As9 hp hx.2 hr hs hv
   match T,hw with
   | [v],hw =>
    obtain rfl:=osj hw;generalize Kl p (lfD p) xs []=R at *
    match R,h1 with
    | [x],⟨⟨e,gx⟩,_⟩ =>
     subst e;have ow:=hok _ (List.mem_singleton.2 rfl);refine ⟨x,gx,rfl,ow,?_,?_⟩
     ·unfold Ll;rw [h2];rfl
     ·unfold L0 O4;rw [U8 xs p oM,hT,hp,hv,h3];rfl
 ·cases hw
end
end
section
section
variable {p:Int}
theorem Asf {s:ByteArray} {xs:List Nd} {l r:Int} {b:List (List Int)} (hx:xs.length<=1073741824) (hb:b.length<=1048576) (hr:Il 1048576 b):∃ v:Bool×Bool,Fd p s xs l r b=some v/\D5 p s xs l r b=some v:=by
 unfold Fd D5;obtain ⟨v,g1,g2⟩:=Awa p s xs l r b hx hb hr;rw [g1,g2,obs,obs];cases v
 ·exact ⟨_,rfl,rfl⟩
 obtain ⟨hp,hv,hs,hg,hT⟩:=Amz hx hb hr g1;have GG:=Ac1 hg;have hbd:=Ca hp;have gm:=GG.mb;have gi:=Anc GG;have glb:=GG.lb;have ghs:=GG.hs;have ghl:=GG.hl;have ghr:=GG.hr;obtain ⟨x,gx,hw,_,d1,d2⟩:=Auk (s:=s) (l:=l) (r:=r) (b:=b) hp hT hs hv;obtain ⟨e1,e2⟩:=Prod.mk.inj hw;have he:(l+r).toNat=x.1+x.2.1:=by omega
 rw [he] at gm gi;have xl:=gx.lb;have hI:=Arc (l:=l) (r:=r) (l':=(x.1:Int)) (r':=(x.2.1:Int)) hbd gm gi gx.mb oM oM oM;obtain ⟨z,hz,hM⟩:=Asp (l:=l) (r:=r) (l':=(x.1:Int)) (r':=(x.2.1:Int)) hbd gm gi gx.mb oM oM oM
 have c2:Kj p s xs l r b=some !(x.2.2.all (Mv p (x.1+x.2.1) b)):=by
  unfold Kj;rw [d1];unfold B0;simp only [obs,hz];rcases hM with ⟨rfl,h⟩|⟨y,rfl,h⟩
  ·rw [Amr h];rfl
  ·obtain ⟨hy,h1,h2⟩:=Apv hbd gm gx.mb h;rw [h2];have hyl:=hy.1;have t1:(y.take ((x.1:Int)).toNat).length<=1000000:=by rw [List.length_take];omega
   have t2:(y.drop ((x.1:Int)).toNat).length<=1000000:=by rw [List.length_drop];omega
   unfold Bb A6;simp only [Sum.elim_inr];rw [Af h1,Af oM,obs,Yp _ t1,obs,Af oM,obs,Yp _ t2];rfl
 unfold Nx;rw [d2];unfold B0;simp only [obs,Bool.not_true,cond_false,hI,c2];exact ⟨_,rfl,by rw [Bool.not_not]⟩
theorem Ajl {s:ByteArray} {xs:List Nd} {l r:Int} {b:List (List Int)} (h0:s.size<=9223372036854775807) (hx:xs.length<=9223372036854775807) (hs:∀ n∈xs,n.2.2.size<=9223372036854775807) (hb:b.length<=9223372036854775807) (hr:Il 9223372036854775807 b):C1 p s xs l r b=some true:=by
 unfold C1;obtain ⟨y,hy,h1|⟨h1,h2,h3,h4,h5⟩⟩:=Acl s xs l r b (v:=1048576) oM h0 hx hs hb hr
 ·rw [hy,obs,Ax h1];rfl
 obtain ⟨v,g1,g2⟩:=Asf (p:=p) (s:=s) (l:=l) (r:=r) (show xs.length<=1073741824 by omega) h4 h5;rw [hy,obs,Au oM,cond_false];simp only [Ach s xs l r b h3 h4 h5,obs,g1,g2,Aci s xs l r b h3 h4 h5,bne_self_eq_false,cond_false,Bool.not_true]
end
end
section
open Go.RowKit Go.Deep
theorem keepsPromise_walk (p:Int) (xName:ByteArray) (xBodyNodes:List (Int×Int×ByteArray)) (A_xBodyNodes:Option Addr) (c_xBodyNodes:Nat) (l_xBodyNodes:List Addr) (xPromiseLeft:Int) (xPromiseRight:Int) (xPromiseBasis:List (List Int)) (A_xPromiseBasis:Option Addr) (c_xPromiseBasis:Nat) (l_xPromiseBasis:List Addr) (w:World) (_i_p: -9223372036854775808<=p/\p<=9223372036854775807) (i_xName:xName.size<=maxLen) (s_xBodyNodes:Sl (fun _=>True) w (.pair .int (.pair .int .str)) A_xBodyNodes c_xBodyNodes xBodyNodes l_xBodyNodes) (i_xBodyNodes:Ty.In (.slice (.pair .int (.pair .int .str))) xBodyNodes) (_i_xPromiseLeft: -9223372036854775808<=xPromiseLeft/\xPromiseLeft<=9223372036854775807) (_i_xPromiseRight: -9223372036854775808<=xPromiseRight/\xPromiseRight<=9223372036854775807) (s_xPromiseBasis:Sl (fun _=>True) w (.slice .int) A_xPromiseBasis c_xPromiseBasis xPromiseBasis l_xPromiseBasis) (_i_xPromiseBasis:Ty.In (.slice (.slice .int)) xPromiseBasis) (tab:Tab w) :
  Calls Tryz.prog 3 #[.int .i64 p,.agg #[.string xName,.slice A_xBodyNodes xBodyNodes.length c_xBodyNodes,.int .i64 xPromiseLeft,.int .i64 xPromiseRight,.slice A_xPromiseBasis xPromiseBasis.length c_xPromiseBasis]] w fun e w'=>e=.returned (.bool true)/\Below w.heap.size w w':=by
 have hl:C1 p xName xBodyNodes xPromiseLeft xPromiseRight xPromiseBasis=some true:=Ajl (Nat.le_trans i_xName (by decide)) (Ah2 s_xBodyNodes).2 (fun n hn=>Nat.le_trans (i_xBodyNodes n hn).2.2 (by decide)) (Ah2 s_xPromiseBasis).2 (Asd s_xPromiseBasis);refine (Mx hl w (fun _=>True) [.int .i64 p,.agg #[.string xName,.slice A_xBodyNodes xBodyNodes.length c_xBodyNodes,.int .i64 xPromiseLeft,.int .i64 xPromiseRight,.slice A_xPromiseBasis xPromiseBasis.length c_xPromiseBasis]] (fun w' hb=>tab.below hb) ⟨_,_,rfl,rfl,⟨_,_,rfl,⟨_,rfl,⟨_,_,rfl,rfl,⟨_,_,rfl,⟨A_xBodyNodes,c_xBodyNodes,l_xBodyNodes,rfl,s_xBodyNodes⟩,⟨_,_,rfl,rfl,⟨_,_,rfl,rfl,⟨_,_,rfl,⟨A_xPromiseBasis,c_xPromiseBasis,l_xPromiseBasis,rfl,s_xPromiseBasis⟩,rfl⟩⟩⟩⟩⟩⟩,rfl⟩⟩).mono ?_;rintro e w' ⟨u,rfl,hb,us,ls,h1,_,rfl⟩;obtain ⟨u1,us1,rfl,h2,_,rfl,rfl⟩:=h1;obtain rfl:u1=.bool true:=h2;exact ⟨rfl,hb⟩
end
end Go.Proofs.YtopjojkjaklalaaGreatDoor
