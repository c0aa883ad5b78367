/- Lemmas on the program and on partial functions that stand in place of its code (part 9); no condition beyond those that each one states. -/
import Derived.Test.YtkaollfdhoaihaaDoorZ8
import Derived.Deep.RegionHeld3
namespace Go.Proofs.YtkaollfdhoaihaaDoor
theorem matloop2 {ρ:Type} {body:Nat×List (List Int)×List (List Int)->Option (Ctl (Nat×List (List Int)×List (List Int)) ρ)} {M E A B:List (List Int)} {r:Nat} {pr pa:List Int} {o:ρ}
  (hl:E.length=M.length) (hA:A.length=M.length) (hB:B.length=M.length) (hM:M[r]? =some pr) (hE:E[r]? =some pr) (hM':A[r]? =some pa) (hE':B[r]? =some pa) (hb:M.length<4611686018427387904)
  (hs:∀ i (h:i<M.length) (s t:List (List Int)),s.length=M.length->t.length=M.length->s[i]? =some M[i]->t[i]? =some (A[i]'(by omega))->s[r]? =some pr->t[r]? =some pa ->
   body (i,s,t)=some (.next (i+1,s.set i (E[i]'(by omega)),t.set i (B[i]'(by omega))))) (he:body (M.length,E,B)=some (.out o)) :
  loopM body 4611686018427387904 (0,M,A)=some o:=by
 have hr:∀ {M E:List (List Int)} {pr:List Int} {j:Nat},(E.take j).length=j->M[r]? =some pr->E[r]? =some pr->(E.take j++M.drop j)[r]? =some pr:=by
  intro M E pr j h1 hM hE
  by_cases h2:r<j
  ·rw [List.getElem?_append_left (by omega),List.getElem?_take,if_pos h2]; exact hE
  ·rw [List.getElem?_append_right (by omega),h1,List.getElem?_drop,show j+(r - j)=r by omega]; exact hM
 refine loopM_det M.length (fun j=>(j,E.take j++M.drop j,B.take j++A.drop j)) hb _ rfl (fun j hj=>?_) ?_
 ·have h1:(E.take j).length=j:=by rw [List.length_take]; omega
  have h2:(B.take j).length=j:=by rw [List.length_take]; omega
  rw [hs j hj _ _ (by simp; omega) (by simp; omega) (pover_get hj h1) (pover_get (by omega) h2) (hr h1 hM hE) (hr h2 hM' hE'),pover_set hj h1,pover_set (by omega) h2,List.take_add_one,List.getElem?_eq_getElem (by omega),List.take_add_one,List.getElem?_eq_getElem (by omega)]; rfl
 ·rw [List.drop_length,List.append_nil,← hl,List.take_length,hl,← hA,List.drop_length,List.append_nil,hA,← hB,List.take_length,hB]; exact he
theorem VecW.tk {p:Int} {w u:Nat} {x:List Int} (h:VecW p w x) (hu:u<=w):VecW p u (x.take u):=⟨by rw [List.length_take,h.1]; omega,fun a ha=>h.2 a (List.mem_of_mem_take ha)⟩
theorem VecW.dr {p:Int} {w u:Nat} {x:List Int} (h:VecW p w x):VecW p (w - u) (x.drop u):=⟨by rw [List.length_drop,h.1],fun a ha=>h.2 a (List.mem_of_mem_drop ha)⟩
theorem MatW.tk {p:Int} {w u:Nat} {m:List (List Int)} (h:MatW p w m) (hu:u<=w):MatW p u (m.map (·.take u)):=fun x hx=>by
 obtain ⟨y,hy,rfl⟩:=List.mem_map.1 hx
 exact (h y hy).tk hu
theorem MatW.dr {p:Int} {w u:Nat} {m:List (List Int)} (h:MatW p w m):MatW p (w - u) (m.map (·.drop u)):=fun x hx=>by
 obtain ⟨y,hy,rfl⟩:=List.mem_map.1 hx
 exact (h y hy).dr
section
variable {p:Int} {w:Nat} {m:List (List Int)}
theorem P_addTimes {x v:List Int} {f:Int} (hp:2<=p∧p<=97) (hx:VecW p w x) (hv:VecW p w v) (hw:w<=100000) (hf:0<=f∧f<p) :
  L_impl_addTimes p x (IntKind.i64.wrap (0 - f)) v=some (rsubV p f x v):=by
 have hl:=hx.1
 have hl':=hv.1
 unfold L_impl_addTimes
 refine vecloop (y:=rsubV p f x v) (by simp [rsubV]; omega) (by omega) (fun j hj z hz=>?_) ?_
 ·have h1:=at_in hx hj
  have h2:=at_in hv (j:=j) (by omega)
  have h3:=mul_bd hp hf h2
  have e:(0 - f)*v[j]= -(f*v[j]):=by rw [Int.zero_sub,Int.neg_mul]
  try dsimp only
  unfold L_impl_addTimes_l1
  rw [dec_t (by omega),cond_true,List.getElem?_eq_getElem (show j<v.length by omega),Option.bind_some,hz,Option.bind_some,i64_lt (n:=0 - f) (by omega) (by omega),e,i64_lt (n:= -(f*v[j])) (by omega) (by omega),i64_lt (by omega) (by omega),P_mod hp,Option.bind_some,og_true (by omega),rsub_get]; rfl
 ·try dsimp only
  unfold L_impl_addTimes_l1
  rw [dec_f (by omega),cond_false]
theorem P_apply0 {r k:Nat} {x y:List Int} {b:Int} (hr:m[r]? =some x) (hk:m[k]? =some y):L_impl_rowOperation_apply 0 (r:Int) (k:Int) b p m=some (swpV m r k):=by
 unfold L_impl_rowOperation_apply swpV
 rw [show ((0:Int)==0)=true from rfl,cond_true,getI_nat (by omega),Int.toNat_natCast,hk,Option.bind_some,getI_nat (by omega),Int.toNat_natCast,hr,Option.bind_some,getD_of hr,getD_of hk]
theorem P_apply1 {r:Nat} {x:List Int} {a b:Int} (hp:isF p=true) (hx:VecW p w x) (hw:w<=100000) (hr:m[r]? =some x) (ha:1<=a∧a<p) :
  L_impl_rowOperation_apply 1 (r:Int) b a p m=some (m.set r (rmulV p (invV p a) x)):=by
 obtain ⟨_,i1,i2,i3,_⟩:=P_invV hp ha
 have hb:=isF_bd hp
 have hl:=hx.1
 unfold L_impl_rowOperation_apply
 rw [show ((1:Int)==0)=false from rfl,cond_false,show ((1:Int)==1)=true from rfl,cond_true,i1,Option.bind_some,getI_nat (by omega),Int.toNat_natCast,hr,Option.bind_some]
 refine rowloop hr (y:=rmulV p (invV p a) x) (by simp [rmulV]) (by omega) (fun j hj z hz=>?_) ?_
 ·have hv:=at_in hx hj
  have h3:=mul_bd hb hv ⟨i2,i3⟩
  try dsimp only
  unfold L_impl_rowOperation_apply_l1
  rw [dec_t (by omega),cond_true,getI_nat (by omega),Int.toNat_natCast,set_get hr,Option.bind_some,og_true (by omega),hz,Option.bind_some,og_true (by omega),og_true (by omega),List.set_set,rmul_get,i64_lt (by omega) (by omega),Int.tmod_eq_emod_of_nonneg (by omega)]
 ·try dsimp only
  unfold L_impl_rowOperation_apply_l1
  rw [dec_f (by omega),cond_false]
theorem P_apply2 {i r:Nat} {x v:List Int} {f:Int} (hp:2<=p∧p<=97) (hx:VecW p w x) (hv:VecW p w v) (hw:w<=100000) (hi:m[i]? =some x) (hr:m[r]? =some v) (hn:i≠r) (hf:0<=f∧f<p) :
  L_impl_rowOperation_apply 2 (i:Int) (r:Int) f p m=some (m.set i (rsubV p f x v)):=by
 have hl:=hx.1
 have hl':=hv.1
 unfold L_impl_rowOperation_apply
 rw [show ((2:Int)==0)=false from rfl,cond_false,show ((2:Int)==1)=false from rfl,cond_false,show ((2:Int)==2)=true from rfl,cond_true,getI_nat (by omega),Int.toNat_natCast,hi,Option.bind_some,getI_nat (by omega),Int.toNat_natCast,hr,Option.bind_some,
  og_true hn,P_addTimes hp hx hv hw hf,Option.bind_some,og_true (by simp [rsubV]; omega)]
theorem swp_self {r:Nat} (hr:r<m.length):swpV m r r=m:=by
 obtain ⟨x,hx⟩:=get_lt hr
 unfold swpV
 rw [getD_of hx,List.set_set,set_self hx]
theorem P_step0 {A:List (List Int)} {r k:Nat} (hA:A.length=m.length) (hr:r<m.length) (hk:k<m.length):L_impl_reduction_1 0 (r:Int) (k:Int) 0 p m A=some (swpV m r k,swpV A r k):=by
 unfold L_impl_reduction_1
 by_cases h:r=k
 ·subst h
  rw [beq_self_eq_true,cond_true,swp_self hr,swp_self (by omega)]
 ·obtain ⟨x,hx⟩:=get_lt hr
  obtain ⟨y,hy⟩:=get_lt hk
  obtain ⟨x',hx'⟩:=get_lt (show r<A.length by omega)
  obtain ⟨y',hy'⟩:=get_lt (show k<A.length by omega)
  rw [show ([(0:Int),(r:Int),(k:Int),0]==[0,(r:Int),(r:Int),0])=false from by rw [beq_eq_false_iff_ne]; intro e; simp at e; omega,cond_false,P_apply0 hx hy,Option.bind_some,og_true (swp_len ..),P_apply0 hx' hy',Option.bind_some,og_true (swp_len ..)]
theorem P_step1 {A:List (List Int)} {w' r:Nat} {x y:List Int} {a:Int} (hp:isF p=true) (hx:VecW p w x) (hy:VecW p w' y) (hw:w<=100000) (hw':w'<=100000) (hr:m[r]? =some x) (hA:A[r]? =some y) (ha:1<=a∧a<p) :
  L_impl_reduction_1 1 (r:Int) 0 a p m A=some (m.set r (rmulV p (invV p a) x),A.set r (rmulV p (invV p a) y)):=by
 unfold L_impl_reduction_1
 rw [show ([(1:Int),(r:Int),0,a]==[0,(r:Int),(r:Int),0])=false from by rw [beq_eq_false_iff_ne]; intro e; simp at e,cond_false,P_apply1 hp hx hw hr ha,Option.bind_some,og_true (List.length_set ..),P_apply1 hp hy hw' hA ha,Option.bind_some,og_true (List.length_set ..)]
theorem P_step2 {A:List (List Int)} {w' i r:Nat} {x v y u:List Int} {f:Int} (hp:2<=p∧p<=97) (hx:VecW p w x) (hv:VecW p w v) (hy:VecW p w' y) (hu:VecW p w' u) (hw:w<=100000) (hw':w'<=100000)
  (hi:m[i]? =some x) (hr:m[r]? =some v) (hi':A[i]? =some y) (hr':A[r]? =some u) (hn:i≠r) (hf:0<=f∧f<p) :
  L_impl_reduction_1 2 (i:Int) (r:Int) f p m A=some (m.set i (rsubV p f x v),A.set i (rsubV p f y u)):=by
 unfold L_impl_reduction_1
 rw [show ([(2:Int),(i:Int),(r:Int),f]==[0,(i:Int),(i:Int),0])=false from by rw [beq_eq_false_iff_ne]; intro e; simp at e,cond_false,P_apply2 hp hx hv hw hi hr hn hf,Option.bind_some,og_true (List.length_set ..),P_apply2 hp hy hu hw' hi' hr' hn hf,Option.bind_some,og_true (List.length_set ..)]
def elmA (p:Int) (c r:Nat) (pa:List Int) (M A:List (List Int)):List (List Int):=A.mapIdx fun i x=>if i=r then pa else rsubV p ((M.getD i []).getD c 0) x pa
theorem elmA_get {c r:Nat} {pa:List Int} {M A:List (List Int)} {i:Nat} (h:i<(elmA p c r pa M A).length) :
  (elmA p c r pa M A)[i]=if i=r then pa else rsubV p ((M.getD i []).getD c 0) (A[i]'(by simpa [elmA] using h)) pa:=by simp [elmA]
theorem P_imElim {M0:List (List Int)×List (List Int)} {A:List (List Int)} {w' c r:Nat} {pr pa:List Int} (hp:2<=p∧p<=97) (hm:MatW p w m) (hA:MatW p w' A) (hlA:A.length=m.length) (hw:w<=100000) (hw':w'<=100000) (hl:m.length<=100000)
  (hr:m[r]? =some pr) (hr':A[r]? =some pa) (hc:c<w) (h0:M0.1.length=m.length) :
  loopM (fun s_:Nat×List (List Int)×List (List Int)=>L_impl_reduction_l3 M0 r c p s_.1 s_.2.1 s_.2.2) 4611686018427387904 (0,m,A)=some (elmV p c r pr m,elmA p c r pa m A):=by
 have hla:(elmA p c r pa m A).length=m.length:=by simp [elmA,hlA]
 have hr2:=getN_lt hr
 refine matloop2 (E:=elmV p c r pr m) (B:=elmA p c r pa m A) (elm_len ..) hlA hla hr (elm_at_r hr2) hr' ?_ (by omega) (fun i hi s t hs ht h1 k1 h2 k2=>?_) ?_
 ·rw [List.getElem?_eq_getElem (by omega),elmA_get,if_pos rfl]
 ·have hx:=hm _ (List.getElem_mem hi)
  have hy:=hA _ (List.getElem_mem (show i<A.length by omega))
  have hv:=hm _ (List.mem_of_getElem? hr)
  have hu:=hA _ (List.mem_of_getElem? hr')
  obtain ⟨g1,g2,g3⟩:=getD_in hx hc
  have hD:m.getD i []=m[i]:=getD_of (List.getElem?_eq_getElem hi)
  try dsimp only
  unfold L_impl_reduction_l3
  rw [dec_t (by omega),cond_true,elm_get,elmA_get,hD]
  generalize m[i]=x at *
  generalize A[i]=y at *
  by_cases hir:i=r
  ·subst hir
   rw [if_pos rfl,if_pos rfl,show (((i:Nat):Int) !=((i:Nat):Int))=false from bne_self_eq_false _,cond_false,Option.bind_some,cond_false,Option.bind_some,set_self h2,set_self k2]
   exact og_true (by omega) _
  ·rw [if_neg hir,if_neg hir,show (((i:Nat):Int) !=((r:Nat):Int))=true from by rw [bne_iff_ne]; omega,cond_true,h1,Option.bind_some,g3,Option.bind_some,Option.bind_some]
   by_cases h0:x.getD c 0=0
   ·rw [h0,show ((0:Int) !=0)=false from rfl,cond_false,Option.bind_some,rsub_zero hx.2 (by rw [hx.1,hv.1]; exact Nat.le_refl _),rsub_zero hy.2 (by rw [hy.1,hu.1]; exact Nat.le_refl _),set_self h1,set_self k1]
    exact og_true (by omega) _
   ·rw [show (x.getD c 0 !=0)=true from bne_iff_ne.2 h0,cond_true,Option.bind_some,g3,Option.bind_some,P_step2 hp hx hv hy hu hw hw' h1 h2 k1 k2 hir ⟨g1,g2⟩,Option.bind_some,Option.bind_some]
    exact og_true (by omega) _
 ·try dsimp only
  unfold L_impl_reduction_l3
  rw [dec_f (by omega),cond_false]
theorem P_imPiv {c r:Nat} (hm:MatW p w m) (hc:c<w) (hl:m.length<=100000) (hr:r<=m.length) :
  loopM (fun s_:Nat=>L_impl_reduction_l2 m c s_) 4611686018427387904 r=some (pivV m c r):=by
 have hle:=piv_le (c:=c) hr
 refine loopM_det ((m.drop r).findIdx fun x=>x.getD c 0 !=0) (fun t=>r+t) (by unfold pivV at hle; omega) _ rfl (fun t ht=>?_) ?_
 ·have h1:r+t<pivV m c r:=by unfold pivV; omega
  have h0:=piv_zero (i:=r+t) (by omega) h1 hr
  obtain ⟨x,hx⟩:=get_lt (show r+t<m.length by omega)
  obtain ⟨g1,g2,g3⟩:=getD_in (hm _ (List.mem_of_getElem? hx)) hc
  rw [getD_of hx] at h0
  try dsimp only
  unfold L_impl_reduction_l2
  rw [dec_t (by omega),cond_true,hx,Option.bind_some,g3,Option.bind_some,Option.bind_some,h0,show ((0:Int)==0)=true from rfl,cond_true,og_true (by omega),Nat.add_assoc]
 ·show L_impl_reduction_l2 m c (pivV m c r)=_
  unfold L_impl_reduction_l2
  by_cases h:pivV m c r=m.length
  ·rw [dec_f (by omega),cond_false,Option.bind_some,cond_false]
  ·have h0:=piv_nz h hr
   obtain ⟨x,hx⟩:=get_lt (show pivV m c r<m.length by omega)
   obtain ⟨g1,g2,g3⟩:=getD_in (hm _ (List.mem_of_getElem? hx)) hc
   rw [getD_of hx] at h0
   rw [dec_t (by omega),cond_true,hx,Option.bind_some,g3,Option.bind_some,Option.bind_some,beq_eq_false_iff_ne.2 h0,cond_false]
theorem getD_take {x:List Int} {u c:Nat} (h:c<u):(x.take u).getD c 0=x.getD c 0:=by
 rw [List.getD_eq_getElem?_getD,List.getElem?_take,if_pos h,List.getD_eq_getElem?_getD]
theorem piv_take {u c r:Nat} (h:c<u):pivV (m.map (·.take u)) c r=pivV m c r:=by
 unfold pivV
 rw [← List.map_drop,List.findIdx_map]
 congr 2
 funext x
 exact congrArg (· !=0) (getD_take h)
theorem getD_map {f:List Int->List Int} (hf:f []=[]) {i:Nat}:(m.map f).getD i []=f (m.getD i []):=by
 rw [List.getD_eq_getElem?_getD,List.getElem?_map,List.getD_eq_getElem?_getD]
 cases m[i]? with
 | none=>exact hf.symm
 | some x=>rfl
theorem swp_map {f:List Int->List Int} (hf:f []=[]) {r k:Nat}:(swpV m r k).map f=swpV (m.map f) r k:=by
 unfold swpV
 rw [List.map_set,List.map_set,getD_map hf,getD_map hf]
theorem rmul_take {k:Int} {x:List Int} {u:Nat}:(rmulV p k x).take u=rmulV p k (x.take u):=by simp [rmulV,List.map_take]
theorem rmul_drop {k:Int} {x:List Int} {u:Nat}:(rmulV p k x).drop u=rmulV p k (x.drop u):=by simp [rmulV,List.map_drop]
theorem rsub_take {k:Int} {x v:List Int} {u:Nat}:(rsubV p k x v).take u=rsubV p k (x.take u) (v.take u):=by simp [rsubV,List.take_zipWith]
theorem rsub_drop {k:Int} {x v:List Int} {u:Nat}:(rsubV p k x v).drop u=rsubV p k (x.drop u) (v.drop u):=by simp [rsubV,List.drop_zipWith]
theorem elm_take {c r u:Nat} {pr:List Int} (h:c<u):(elmV p c r pr m).map (·.take u)=elmV p c r (pr.take u) (m.map (·.take u)):=by
 apply List.ext_getElem
 ·simp [elmV]
 ·intro i h1 h2
  rw [List.getElem_map,elm_get,elm_get,List.getElem_map,getD_take h]
  split
  ·rfl
  ·exact rsub_take
theorem elm_drop {c r u:Nat} {pr:List Int} (h:c<u):(elmV p c r pr m).map (·.drop u)=elmA p c r (pr.drop u) (m.map (·.take u)) (m.map (·.drop u)):=by
 apply List.ext_getElem
 ·simp [elmV,elmA]
 ·intro i h1 h2
  rw [List.getElem_map,elm_get,elmA_get,List.getElem_map,getD_map (f:=(·.take u)) List.take_nil,getD_take h,show m.getD i []=m[i]'(by simpa [elmV] using h1) from getD_of (List.getElem?_eq_getElem (by simpa [elmV] using h1))]
  split
  ·rfl
  ·exact rsub_drop
theorem elmA_set {c r:Nat} {pa y z:List Int} {M A:List (List Int)}:elmA p c r pa (M.set r z) (A.set r y)=elmA p c r pa M A:=by
 apply List.ext_getElem
 ·simp [elmA]
 ·intro i h1 h2
  rw [elmA_get,elmA_get]
  by_cases h:i=r
  ·rw [if_pos h,if_pos h]
  ·rw [if_neg h,if_neg h]
   simp only [List.getElem_set,if_neg (fun e=>h (Eq.symm e)),List.getD_eq_getElem?_getD,List.getElem?_set_ne (Ne.symm h)]
def rdW (u:Nat) (W:List (List Int)):List (List Int):=W.map (·.take u)
def alW (u:Nat) (W:List (List Int)):List (List Int):=W.map (·.drop u)
theorem P_imCols {n u:Nat} (hp:isF p=true) (hm:MatW p w m) (hn:n<=u) (hu:u<=w) (hw:w<=100000) (hl:m.length<=100000) :
  loopM (fun s_:Nat×Nat×List (List Int)×List (List Int)=>L_impl_reduction_l1 (n:Int) p s_.1 s_.2.1 s_.2.2.1 s_.2.2.2) 4611686018427387904 (0,0,rdW u m,alW u m)=some ((gjT p m n).1,rdW u (gjT p m n).2,alW u (gjT p m n).2):=by
 have hb:=isF_bd hp
 refine loopM_eq n (fun c s=>s=((gjT p m c).1,c,rdW u (gjT p m c).2,alW u (gjT p m c).2)) (by omega) _ rfl (fun c s hc hI=>?_) (fun s hI=>?_)
 ·subst hI
  obtain ⟨hm',hr,hl'⟩:=gjT_ok hb.1 hm c
  have hlr:(rdW u (gjT p m c).2).length=(gjT p m c).2.length:=List.length_map ..
  have hla:(alW u (gjT p m c).2).length=(gjT p m c).2.length:=List.length_map ..
  by_cases hlt:(gjT p m c).1<(gjT p m c).2.length
  ·refine .inl ?_
   refine ⟨_,?_,rfl⟩
   show L_impl_reduction_l1 _ _ _ _ _ _=some (Ctl.next ((gjS p c (gjT p m c)).1,c+1,rdW u (gjS p c (gjT p m c)).2,alW u (gjS p c (gjT p m c)).2))
   generalize gjT p m c=s at *
   obtain ⟨r,M⟩:=s
   try dsimp only at *
   have hR:MatW p u (rdW u M):=hm'.tk hu
   have hA:MatW p (w - u) (alW u M):=hm'.dr
   have hpv:pivV (rdW u M) c r=pivV M c r:=piv_take (by omega)
   unfold L_impl_reduction_l1 gjS
   rw [dec_t (by omega),cond_true,Option.bind_some,dec_t (by omega),cond_true,P_imPiv hR (by omega) (by omega) (by omega),Option.bind_some,if_pos hlt,hlr,hpv]
   by_cases hk:pivV M c r=M.length
   ·rw [hk,beq_self_eq_true,cond_true,Option.bind_some,if_pos rfl]
    exact og_true (by omega) _
   ·have hle:=piv_le (c:=c) hr
    have hkl:pivV M c r<M.length:=by omega
    rw [show (((pivV M c r:Nat):Int)==((M.length:Nat):Int))=false from by rw [beq_eq_false_iff_ne]; omega,cond_false,if_neg hk]
    have hnz:=piv_nz hk hr
    obtain ⟨y,hy⟩:=get_lt hkl
    have hyM:=hm' _ (List.mem_of_getElem? hy)
    obtain ⟨g1,g2,_⟩:=getD_in hyM (show c<w by omega)
    rw [getD_of hy] at hnz
    have hs:=swp_at hlt hkl
    rw [getD_of hy] at hs
    have hpm:=mat_swp hm' hlt hkl
    have hsl:=swp_len M r (pivV M c r)
    have e1:swpV (rdW u M) r (pivV M c r)=rdW u (swpV M r (pivV M c r)):=(swp_map List.take_nil).symm
    have e2:swpV (alW u M) r (pivV M c r)=alW u (swpV M r (pivV M c r)):=(swp_map List.drop_nil).symm
    rw [P_step0 (by omega) (by omega) (by omega),Option.bind_some,e1,e2,getD_of hy]
    generalize swpV M r (pivV M c r)=W at *
    have hs1:(rdW u W)[r]? =some (y.take u):=by simp [rdW,hs]
    have hs2:(alW u W)[r]? =some (y.drop u):=by simp [alW,hs]
    have g4:(y.take u)[c]? =some (y.getD c 0):=by rw [(getD_in (hyM.tk hu) (show c<u by omega)).2.2,getD_take (by omega)]
    have q1:VecW p u (rmulV p (invV p (y.getD c 0)) (y.take u)):=vec_rmul hb.1 (hyM.tk hu).1
    have q2:VecW p (w - u) (rmulV p (invV p (y.getD c 0)) (y.drop u)):=vec_rmul hb.1 hyM.dr.1
    have l1:(rdW u W).length=W.length:=List.length_map ..
    have l2:(alW u W).length=W.length:=List.length_map ..
    try dsimp only
    rw [hs1,Option.bind_some,g4,Option.bind_some,P_step1 hp (hyM.tk hu) hyM.dr (by omega) (by omega) hs1 hs2 (by omega),Option.bind_some]
    try dsimp only
    rw [P_imElim hb (w:=u) (w':=w - u) (pr:=rmulV p (invV p (y.getD c 0)) (y.take u)) (pa:=rmulV p (invV p (y.getD c 0)) (y.drop u)) (fun z hz=>?_) (fun z hz=>?_) (by simp only [List.length_set]; omega) (by omega) (by omega) (by simp only [List.length_set]; omega) (set_get hs1) (set_get hs2) (by omega) rfl,Option.bind_some]
    ·have e3:rdW u (elmV p c r (prV p c y) W)=elmV p c r (rmulV p (invV p (y.getD c 0)) (y.take u)) (rdW u W):=by
      unfold rdW prV
      rw [elm_take (by omega),rmul_take]
     have e4:alW u (elmV p c r (prV p c y) W)=elmA p c r (rmulV p (invV p (y.getD c 0)) (y.drop u)) (rdW u W) (alW u W):=by
      unfold rdW alW prV
      rw [elm_drop (by omega),rmul_drop]
     try dsimp only
     rw [og_true (by omega),Option.bind_some,elm_set,elmA_set,e3,e4]
     exact og_true (by omega) _
    ·rcases List.mem_or_eq_of_mem_set hz with hz | rfl
     ·exact hpm.tk hu _ hz
     ·exact q1
    ·rcases List.mem_or_eq_of_mem_set hz with hz | rfl
     ·exact hpm.dr _ hz
     ·exact q2
  ·refine .inr ?_
   rw [gjT_stop hlt n (by omega)]
   generalize gjT p m c=s at *
   try dsimp only
   unfold L_impl_reduction_l1
   rw [dec_t (by omega),cond_true,Option.bind_some,hlr,dec_f (by omega),cond_false]
 ·subst hI
  try dsimp only
  unfold L_impl_reduction_l1
  rw [dec_f (by omega),cond_false,Option.bind_some,cond_false]
theorem P_reduction {n u:Nat} (hp:isF p=true) (hm:MatW p w m) (hn:n<=u) (hu:u<=w) (hw:w<=100000) (hl:m.length<=100000):L_impl_reduction p (rdW u m) (n:Int) (alW u m)=some (rdW u (gjT p m n).2,alW u (gjT p m n).2,(gjT p m n).1):=by
 unfold L_impl_reduction
 rw [P_imCols hp hm hn hu hw hl,Option.bind_some]
theorem P_clones (hm:MatW p w m) (hw:w<=100000) (hl:m.length<=100000):L_impl_clones m=some m:=by
 unfold L_impl_clones
 have h:=loopM_app (body:=fun s_:Nat×List (List Int)=>L_impl_clones_l1 m s_.1 s_.2) m id [] (F:=4611686018427387904) (by omega) m (fun i x h=>?_) ?_
 ·rw [og_true (by omega),show List.replicate 0 ([]:List Int)=[] from rfl,show loopM (fun s_:Nat×List (List Int)=>L_impl_clones_l1 m s_.1 s_.2) 4611686018427387904 (0,[])=some m by simpa using h]; rfl
 ·have:=getN_lt h
  have hx:=(hm x (List.mem_of_getElem? h)).1
  try dsimp only
  unfold L_impl_clones_l1
  rw [dec_t (by omega),cond_true,h,Option.bind_some,P_clone _ (by omega),Option.bind_some,og_true (by simp; omega),og_true (by omega)]; rfl
 ·try dsimp only
  unfold L_impl_clones_l1
  rw [dec_f (by omega),cond_false,List.map_id,List.nil_append]
end
end Go.Proofs.YtkaollfdhoaihaaDoor
namespace Go.Proofs.YtkaollfdhoaihaaDoor
def Cg (p a b:Int):Prop:=∃ q,a=b+p*q
section
variable {p a b c d:Int}
theorem Cg.rf:Cg p a a:=⟨0,by simp⟩
theorem Cg.of (h:a=b):Cg p a b:=h▸Cg.rf
theorem Cg.symm (h:Cg p a b):Cg p b a:=by obtain ⟨q,rfl⟩:=h; exact ⟨-q,by grind⟩
theorem Cg.trans (h1:Cg p a b) (h2:Cg p b c):Cg p a c:=by obtain ⟨q,rfl⟩:=h1; obtain ⟨r,rfl⟩:=h2; exact ⟨q+r,by grind⟩
theorem Cg.add (h1:Cg p a b) (h2:Cg p c d):Cg p (a+c) (b+d):=by obtain ⟨q,rfl⟩:=h1; obtain ⟨r,rfl⟩:=h2; exact ⟨q+r,by grind⟩
theorem Cg.sub (h1:Cg p a b) (h2:Cg p c d):Cg p (a - c) (b - d):=by obtain ⟨q,rfl⟩:=h1; obtain ⟨r,rfl⟩:=h2; exact ⟨q - r,by grind⟩
theorem Cg.mul (h1:Cg p a b) (h2:Cg p c d):Cg p (a*c) (b*d):=by obtain ⟨q,rfl⟩:=h1; obtain ⟨r,rfl⟩:=h2; exact ⟨q*d+b*r+p*q*r,by grind⟩
theorem Cg.md:Cg p (a % p) a:=⟨-(a / p),by have:=Int.emod_add_mul_ediv a p; grind⟩
theorem Cg.to (h:Cg p a b):a % p=b % p:=by obtain ⟨q,rfl⟩:=h; rw [Int.add_mul_emod_self_left]
theorem Cg.fr (h:a % p=b % p):Cg p a b:=(Cg.md.symm.trans (Cg.of h)).trans Cg.md
theorem Cg.eq (h:Cg p a b) (h1:0<=a∧a<p) (h2:0<=b∧b<p):a=b:=by
 have:=h.to
 rwa [Int.emod_eq_of_lt h1.1 h1.2,Int.emod_eq_of_lt h2.1 h2.2] at this
end
def sm:Nat->(Nat->Int)->Int
 | 0,_=>0
 | k+1,f=>sm k f+f k
section
variable {p:Int} {f g:Nat->Int}
theorem sm_cg:∀ {k:Nat},(∀ i,i<k->Cg p (f i) (g i))->Cg p (sm k f) (sm k g)
 | 0,_=>Cg.rf
 | k+1,h=>(sm_cg fun i hi=>h i (by omega)).add (h k (by omega))
theorem sm_eq:∀ {k:Nat},(∀ i,i<k->f i=g i)->sm k f=sm k g
 | 0,_=>rfl
 | k+1,h=>by unfold sm; rw [sm_eq fun i hi=>h i (by omega),h k (by omega)]
theorem sm_add:∀ {k:Nat},sm k (fun i=>f i+g i)=sm k f+sm k g
 | 0=>rfl
 | k+1=>by unfold sm; rw [sm_add]; dsimp only; omega
theorem sm_mul {a:Int}:∀ {k:Nat},sm k (fun i=>a*f i)=a*sm k f
 | 0=>by simp [sm]
 | k+1=>by unfold sm; rw [sm_mul]; grind
theorem sm_zero:∀ {k:Nat},(∀ i,i<k->f i=0)->sm k f=0
 | 0,_=>rfl
 | k+1,h=>by unfold sm; rw [sm_zero fun i hi=>h i (by omega),h k (by omega)]; rfl
theorem sm_one {t:Nat}:∀ {k:Nat},t<k->(∀ i,i<k->i≠t->f i=0)->sm k f=f t
 | 0,h,_=>by omega
 | k+1,h,h0=>by
  unfold sm
  by_cases e:t=k
  ·subst e
   rw [sm_zero fun i hi=>h0 i (by omega) (by omega)]; omega
  ·rw [sm_one (t:=t) (by omega) fun i hi=>h0 i (by omega),h0 k (by omega) (by omega)]; omega
end
def en (m:List (List Int)) (i j:Nat):Int:=(m.getD i []).getD j 0
inductive Span (p:Int) (n:Nat) (m:List (List Int)):(Nat->Int)->Prop
 | zero {f:Nat->Int}:(∀ j,j<n->Cg p (f j) 0)->Span p n m f
 | add {f g:Nat->Int} (i:Nat) (k:Int):i<m.length->Span p n m g->(∀ j,j<n->Cg p (f j) (g j+k*en m i j))->Span p n m f
section
variable {p:Int} {n:Nat} {m m':List (List Int)} {f g:Nat->Int}
theorem span_row {i:Nat} (h:i<m.length):Span p n m (en m i):=.add i 1 h (.zero (f:=fun _=>0) fun _ _=>Cg.rf) fun _ _=>Cg.of (by omega)
theorem span_cg (h:Span p n m f) (hf:∀ j,j<n->Cg p (g j) (f j)):Span p n m g:=by
 cases h with
 | zero h=>exact .zero fun j hj=>(hf j hj).trans (h j hj)
 | add i k hi h hs=>exact .add i k hi h fun j hj=>(hf j hj).trans (hs j hj)
theorem span_add (h:Span p n m f) (hg:Span p n m g):Span p n m (fun j=>f j+g j):=by
 induction hg with
 | zero h0=>exact span_cg h fun j hj=>(Cg.rf.add (h0 j hj)).trans (Cg.of (by omega))
 | add i k hi _ hs ih=>exact .add i k hi ih fun j hj=>(Cg.rf.add (hs j hj)).trans (Cg.of (by omega))
theorem span_mul (a:Int) (h:Span p n m f):Span p n m (fun j=>a*f j):=by
 induction h with
 | zero h0=>exact .zero fun j hj=>(Cg.rf.mul (h0 j hj)).trans (Cg.of (by omega))
 | add i k hi _ hs ih=>exact .add i (a*k) hi ih fun j hj=>(Cg.rf.mul (hs j hj)).trans (Cg.of (by grind))
theorem span_le (h:∀ i,i<m.length->Span p n m' (en m i)) (hf:Span p n m f):Span p n m' f:=by
 induction hf with
 | zero h0=>exact .zero h0
 | add i k hi _ hs ih=>exact span_cg (span_add ih (span_mul k (h i hi))) hs
theorem span_sm {F:Nat->Nat->Int}:∀ {k:Nat},(∀ i,i<k->Span p n m (F i))->Span p n m (fun j=>sm k fun i=>F i j)
 | 0,_=>.zero fun _ _=>Cg.rf
 | k+1,h=>span_add (span_sm fun i hi=>h i (by omega)) (h k (by omega))
structure RInv (c r:Nat) (m:List (List Int)) (pv:Nat->Nat):Prop where
 rl:r<=m.length
 lt:∀ i,i<r->pv i<c
 mono:∀ i k,i<k->k<r->pv i<pv k
 low:∀ i,i<r->∀ j,j<pv i->en m i j=0
 one:∀ i,i<r->en m i (pv i)=1
 zero:∀ i,i<r->∀ k,k≠i->en m k (pv i)=0
 tail:∀ i,r<=i->∀ j,j<c->en m i j=0
theorem en_out {i j:Nat} (h:m.length<=i):en m i j=0:=by
 unfold en
 rw [List.getD_eq_getElem?_getD (l:=m),List.getElem?_eq_none h]; rfl
theorem coords {pv:Nat->Nat} (h:RInv n m.length m pv) (hs:Span p n m f):∀ j,j<n->Cg p (f j) (sm m.length fun i=>f (pv i)*en m i j):=by
 induction hs with
 | zero h0 =>
  intro j hj
  refine (h0 j hj).trans ?_
  refine Cg.symm ((sm_cg (g:=fun _=>0) fun i hi=>?_).trans (Cg.of (sm_zero fun _ _=>rfl)))
  exact ((h0 _ (h.lt i hi)).mul Cg.rf).trans (Cg.of (by omega))
 | @add f g t k ht _ hs ih =>
  intro j hj
  refine (hs j hj).trans (((ih j hj).add Cg.rf).trans ?_)
  have e:sm m.length (fun i=>(g (pv i)+k*en m t (pv i))*en m i j)=sm m.length (fun i=>g (pv i)*en m i j)+k*en m t j:=by
   rw [sm_eq (g:=fun i=>g (pv i)*en m i j+k*(en m t (pv i)*en m i j)) fun i _=>by grind,sm_add (f:=fun i=>g (pv i)*en m i j),sm_mul (f:=fun i=>en m t (pv i)*en m i j),sm_one (f:=fun i=>en m t (pv i)*en m i j) ht fun i hi hne=>by rw [h.zero i hi t (Ne.symm hne)]; omega,h.one t ht,Int.one_mul]
  rw [← e]
  exact (sm_cg fun i hi=>(hs _ (h.lt i hi)).mul Cg.rf).symm
theorem piv_mem {pv:Nat->Nat} (h:RInv n m.length m pv) (hs:Span p n m f) {q:Nat} (hq:q<n) (h0:∀ j,j<q->Cg p (f j) 0) (h1:¬ Cg p (f q) 0):∃ i,i<m.length∧pv i=q:=by
 refine Classical.byContradiction fun hn=>h1 ?_
 refine (coords h hs q hq).trans ((sm_cg (g:=fun _=>0) fun i hi=>?_).trans (Cg.of (sm_zero fun _ _=>rfl)))
 rcases Nat.lt_trichotomy (pv i) q with hlt | he | hgt
 ·exact ((h0 _ hlt).mul Cg.rf).trans (Cg.of (by omega))
 ·exact (hn ⟨i,hi,he⟩).elim
 ·exact Cg.of (by rw [h.low i hi q hgt]; omega)
theorem mono_le {u v:Nat->Nat} {k l:Nat} (hu:∀ i j,i<j->j<k->u i<u j) (hv:∀ i j,i<j->j<l->v i<v j) (h1:∀ i,i<k->∃ t,t<l∧v t=u i) (h2:∀ i,i<l->∃ t,t<k∧u t=v i) :
  ∀ i,i<k->i<l->u i=v i:=by
 intro i
 induction i using Nat.strongRecOn with
 | _ i ih =>
  intro hk hl
  obtain ⟨t,ht,e⟩:=h1 i hk
  obtain ⟨s,hs,e'⟩:=h2 i hl
  have a1:v i<=u i:=by
   rcases Nat.lt_trichotomy t i with hlt | he | hgt
   ·have:=ih t hlt (by omega) ht
    have:=hu t i hlt hk
    omega
   ·subst he; omega
   ·have:=hv i t hgt ht; omega
  have a2:u i<=v i:=by
   rcases Nat.lt_trichotomy s i with hlt | he | hgt
   ·have:=ih s hlt hs (by omega)
    have:=hv s i hlt hl
    omega
   ·subst he; omega
   ·have:=hu i s hgt hs; omega
  omega
theorem mono_len {u v:Nat->Nat} {k l:Nat} (hu:∀ i j,i<j->j<k->u i<u j) (hv:∀ i j,i<j->j<l->v i<v j) (h1:∀ i,i<k->∃ t,t<l∧v t=u i) (h2:∀ i,i<l->∃ t,t<k∧u t=v i):l<=k:=by
 refine Nat.le_of_not_lt fun hlt=>?_
 obtain ⟨t,ht,e⟩:=h2 k hlt
 have:=mono_le hu hv h1 h2 t ht (by omega)
 have:=hv t k ht hlt
 omega
theorem one_ne (hp:2<=p):¬ Cg p 1 0:=fun h=>by
 have:=h.eq ⟨by omega,by omega⟩ ⟨by omega,by omega⟩
 omega
theorem en_in {i j:Nat} (hp:2<=p) (hm:MatW p n m):0<=en m i j∧en m i j<p:=by
 unfold en
 by_cases h:i<m.length
 ·have hx:=hm _ (getD_mem h)
  generalize m.getD i []=x at hx
  by_cases hj:j<x.length
  ·rw [getD_of (List.getElem?_eq_getElem hj)]; exact hx.2 _ (List.getElem_mem hj)
  ·rw [List.getD_eq_getElem?_getD,List.getElem?_eq_none (by omega)]; exact ⟨by simp,by simp; omega⟩
 ·rw [List.getD_eq_getElem?_getD (l:=m),List.getElem?_eq_none (by omega)]; simp; omega
theorem mat_ext (hm:MatW p n m) (hm':MatW p n m') (hl:m.length=m'.length) (h:∀ i,i<m.length->∀ j,j<n->en m i j=en m' i j):m=m':=by
 refine List.ext_getElem hl fun i h1 h2=>?_
 have e1:=hm _ (List.getElem_mem h1)
 have e2:=hm' _ (List.getElem_mem h2)
 refine List.ext_getElem (e1.1.trans e2.1.symm) fun j k1 k2=>?_
 have:=h i h1 j (by have:=e1.1; omega)
 unfold en at this
 rw [getD_of (List.getElem?_eq_getElem h1),getD_of (List.getElem?_eq_getElem h2),getD_of (List.getElem?_eq_getElem k1),getD_of (List.getElem?_eq_getElem k2)] at this
 exact this
theorem rref_uniq {pv pv':Nat->Nat} (hp:2<=p) (h:RInv n m.length m pv) (h':RInv n m'.length m' pv') (hm:MatW p n m) (hm':MatW p n m') (h1:∀ f,Span p n m f->Span p n m' f) (h2:∀ f,Span p n m' f->Span p n m f):m=m':=by
 have k1:∀ i,i<m.length->∃ t,t<m'.length∧pv' t=pv i:=fun i hi =>
  piv_mem h' (h1 _ (span_row hi)) (h.lt i hi) (fun j hj=>Cg.of (h.low i hi j hj)) (by rw [h.one i hi]; exact one_ne hp)
 have k2:∀ i,i<m'.length->∃ t,t<m.length∧pv t=pv' i:=fun i hi =>
  piv_mem h (h2 _ (span_row hi)) (h'.lt i hi) (fun j hj=>Cg.of (h'.low i hi j hj)) (by rw [h'.one i hi]; exact one_ne hp)
 have hl:m.length=m'.length:=Nat.le_antisymm (mono_len h'.mono h.mono k2 k1) (mono_len h.mono h'.mono k1 k2)
 have hpv:=mono_le h.mono h'.mono k1 k2
 refine mat_ext hm hm' hl fun i hi j hj=>?_
 refine Cg.eq (Cg.symm ((coords h (h2 _ (span_row (i:=i) (by omega))) j hj).trans (Cg.of ?_))) (en_in hp hm) (en_in hp hm')
 rw [sm_one hi fun t ht hne=>?_,hpv i hi (by omega),h'.one i (by omega)]
 ·omega
 ·rw [hpv t ht (by omega),h'.zero t (by omega) i (Ne.symm hne)]; omega
theorem en_swp {r k i j:Nat} (hr:r<m.length) (hk:k<m.length):en (swpV m r k) i j=if i=k then en m r j else if i=r then en m k j else en m i j:=by
 unfold en swpV
 by_cases h1:i=k
 ·subst h1
  rw [if_pos rfl,List.getD_eq_getElem?_getD (l:=List.set _ _ _),List.getElem?_set_self (by rw [List.length_set]; exact hk)]; rfl
 ·rw [if_neg h1,List.getD_eq_getElem?_getD (l:=List.set _ _ _),List.getElem?_set_ne (Ne.symm h1)]
  by_cases h2:i=r
  ·subst h2
   rw [if_pos rfl,List.getElem?_set_self hr]; rfl
  ·rw [if_neg h2,List.getElem?_set_ne (Ne.symm h2),← List.getD_eq_getElem?_getD]
theorem rmul_getD {k:Int} {x:List Int} {j:Nat}:(rmulV p k x).getD j 0=x.getD j 0*k % p:=by
 unfold rmulV
 rw [List.getD_eq_getElem?_getD,List.getElem?_map,List.getD_eq_getElem?_getD]
 cases x[j]? with
 | none=>simp
 | some a=>rfl
theorem rsub_getD {k:Int} {x v:List Int} {j:Nat} (h:x.length=v.length):(rsubV p k x v).getD j 0=(x.getD j 0 - k*v.getD j 0) % p:=by
 unfold rsubV
 rw [List.getD_eq_getElem?_getD,List.getElem?_zipWith,List.getD_eq_getElem?_getD,List.getD_eq_getElem?_getD]
 by_cases hj:j<x.length
 ·rw [List.getElem?_eq_getElem hj,List.getElem?_eq_getElem (show j<v.length by omega)]; rfl
 ·rw [List.getElem?_eq_none (show x.length<=j by omega),List.getElem?_eq_none (show v.length<=j by omega)]; simp
theorem en_elm {c r i j:Nat} {pr:List Int} (hm:MatW p n m) (hpr:pr.length=n) (hi:i<m.length):en (elmV p c r pr m) i j=if i=r then pr.getD j 0 else (en m i j - en m i c*pr.getD j 0) % p:=by
 have hx:=hm _ (List.getElem_mem hi)
 unfold en elmV
 rw [List.getD_eq_getElem?_getD (l:=List.mapIdx _ _),List.getElem?_mapIdx,List.getElem?_eq_getElem hi,getD_of (List.getElem?_eq_getElem hi)]
 show (if i=r then pr else rsubV p (m[i].getD c 0) m[i] pr).getD j 0=_
 split
 ·rfl
 ·rw [rsub_getD (by rw [hx.1,hpr])]
def InvOK (p:Int):Prop:=∀ a,1<=a->a<p->a*invV p a % p=1
theorem gjS_inv {c:Nat} {s:Nat×List (List Int)} {pv:Nat->Nat} (hp:2<=p) (hI:InvOK p) (hm:MatW p n s.2) (h:RInv c s.1 s.2 pv) :
  (∃ pv',RInv (c+1) (gjS p c s).1 (gjS p c s).2 pv')∧(∀ f,Span p n (gjS p c s).2 f↔Span p n s.2 f):=by
 obtain ⟨r,m⟩:=s
 dsimp only at hm h
 unfold gjS
 dsimp only
 by_cases h1:r<m.length
 ·rw [if_pos h1]
  by_cases h2:pivV m c r=m.length
  ·rw [if_pos h2]
   refine ⟨⟨pv,h.rl,fun i hi=>Nat.lt_succ_of_lt (h.lt i hi),h.mono,h.low,h.one,h.zero,fun i hi j hj=>?_⟩,fun f=>Iff.rfl⟩
   dsimp only at hi ⊢
   by_cases hjc:j<c
   ·exact h.tail i hi j hjc
   ·obtain rfl:j=c:=by omega
    by_cases hil:i<m.length
    ·exact piv_zero hi (by omega) h.rl
    ·exact en_out (by omega)
  ·rw [if_neg h2]
   have hk1:=piv_le (c:=c) h.rl
   have hk2:=piv_ge m c r
   have hnz:=piv_nz h2 h.rl
   have hkl:pivV m c r<m.length:=by omega
   have hx:=hm _ (getD_mem hkl)
   have ha:en m (pivV m c r) c≠0:=hnz
   generalize hk:pivV m c r=k at *
   have hab:=en_in (i:=k) (j:=c) hp hm
   have hinv:=hI (en m k c) (by omega) hab.2
   generalize hv:invV p (en m k c)=v at hinv
   have hpr:∀ j,(prV p c (m.getD k [])).getD j 0=en m k j*v % p:=fun j=>by
    unfold prV
    rw [rmul_getD]
    show _*invV p (en m k c) % p=_
    rw [hv]; rfl
   have hprl:(prV p c (m.getD k [])).length=n:=(vec_rmul hp hx.1).1
   generalize prV p c (m.getD k [])=pr at *
   have hW:=mat_swp hm h1 hkl
   have hWl:=swp_len m r k
   have hWe:∀ i j,en (swpV m r k) i j=if i=k then en m r j else if i=r then en m k j else en m i j:=fun i j=>en_swp h1 hkl
   generalize swpV m r k=W at *
   have hE:∀ i j,i<m.length->en (elmV p c r pr W) i j=if i=r then en m k j*v % p else (en W i j - en W i c*(en m k j*v % p)) % p:=fun i j hi=>by
    rw [en_elm hW hprl (by omega),hpr]
   have hEl:=elm_len p c r pr W
   have h0:∀ i j,i<m.length->i≠r->en m k j=0->en (elmV p c r pr W) i j=en W i j:=fun i j hi hne h0=>by
    have hb:=en_in (i:=i) (j:=j) hp hW
    rw [hE i j hi,if_neg hne,h0,Int.zero_mul,Int.zero_emod,Int.mul_zero,Int.sub_zero,Int.emod_eq_of_lt hb.1 hb.2]
   have hkj:∀ j,j<c->en m k j=0:=fun j hj=>h.tail k (by omega) j hj
   have hkp:∀ i,i<r->en m k (pv i)=0:=fun i hi=>h.zero i hi k (by omega)
   have hcc:en m k c*v % p=1:=hinv
   have hsp:∀ i j,i<m.length->i≠r->Cg p (en (elmV p c r pr W) i j) (en W i j+ -en W i c*en (elmV p c r pr W) r j):=fun i j hi hne=>by
    rw [hE i j hi,if_neg hne,hE r j h1,if_pos rfl]
    exact Cg.md.trans (Cg.of (by grind))
   have hWr:∀ j,Cg p (en W r j) (en m k c*en (elmV p c r pr W) r j):=fun j=>by
    have e:en W r j=en m k j:=by
     rw [hWe]
     by_cases e:r=k
     ·rw [if_pos e,e]
     ·rw [if_neg e,if_pos rfl]
    rw [e,hE r j h1,if_pos rfl]
    obtain ⟨q,hq⟩:=Cg.fr (p:=p) (a:=en m k c*v) (b:=1) (by rw [hcc]; exact (Int.emod_eq_of_lt (by omega) (by omega)).symm)
    refine Cg.trans ⟨-q*en m k j,?_⟩ (Cg.rf.mul Cg.md.symm)
    grind
   refine ⟨⟨fun i=>if i=r then c else pv i,?_,?_,?_,?_,?_,?_,?_⟩,fun f=>⟨span_le fun i hi=>?_,span_le fun i hi=>?_⟩⟩
   ·show r+1<=(elmV p c r pr W).length
    omega
   ·intro i hi
    try dsimp only
    split
    ·omega
    ·have:=h.lt i (by omega); omega
   ·intro i l hil hl
    try dsimp only
    rw [if_neg (by omega:i≠r)]
    split
    ·exact h.lt i (by omega)
    ·exact h.mono i l hil (by omega)
   ·intro i hi j hj
    dsimp only at hj ⊢
    by_cases e:i=r
    ·subst e
     rw [if_pos rfl] at hj
     rw [hE i j h1,if_pos rfl,hkj j hj,Int.zero_mul,Int.zero_emod]
    ·rw [if_neg e] at hj
     have:=h.lt i (by omega)
     rw [h0 i j (by omega) e (hkj j (by omega)),hWe,if_neg (by omega),if_neg e]
     exact h.low i (by omega) j hj
   ·intro i hi
    dsimp only
    by_cases e:i=r
    ·subst e
     rw [if_pos rfl,hE i c h1,if_pos rfl,hcc]
    ·rw [if_neg e,h0 i (pv i) (by omega) e (hkp i (by omega)),hWe,if_neg (by omega),if_neg e]
     exact h.one i (by omega)
   ·intro i hi l hl
    dsimp only
    by_cases hll:l<m.length
    ·by_cases e:i=r
     ·subst e
      rw [if_pos rfl,hE l c hll,if_neg hl,hcc,Int.mul_one,Int.sub_self,Int.zero_emod]
     ·rw [if_neg e]
      by_cases e2:l=r
      ·subst e2
       rw [hE l (pv i) hll,if_pos rfl,hkp i (by omega),Int.zero_mul,Int.zero_emod]
      ·rw [h0 l (pv i) hll e2 (hkp i (by omega)),hWe]
       by_cases e3:l=k
       ·rw [if_pos e3]; exact h.zero i (by omega) r (by omega)
       ·rw [if_neg e3,if_neg e2]; exact h.zero i (by omega) l hl
    ·exact en_out (by omega)
   ·intro i hi j hj
    dsimp only at hi ⊢
    by_cases hil:i<m.length
    ·by_cases e:j=c
     ·subst e
      rw [hE i j hil,if_neg (by omega),hcc,Int.mul_one,Int.sub_self,Int.zero_emod]
     ·rw [h0 i j hil (by omega) (hkj j (by omega)),hWe]
      by_cases e3:i=k
      ·rw [if_pos e3]; exact h.tail r (Nat.le_refl r) j (by omega)
      ·rw [if_neg e3,if_neg (by omega)]; exact h.tail i (by omega) j (by omega)
    ·exact en_out (by omega)
   ·have hi:i<m.length:=by dsimp only at hi; omega
    have hrow:∀ t,t<m.length->Span p n m (en W t):=fun t ht=>by
     by_cases e1:t=k
     ·exact span_cg (span_row h1) fun j hj=>Cg.of (by rw [hWe,if_pos e1])
     ·by_cases e2:t=r
      ·exact span_cg (span_row hkl) fun j hj=>Cg.of (by rw [hWe,if_neg e1,if_pos e2])
      ·exact span_cg (span_row ht) fun j hj=>Cg.of (by rw [hWe,if_neg e1,if_neg e2])
    have hr':Span p n m (en (elmV p c r pr W) r):=span_cg (span_mul v (span_row hkl)) fun j hj=>by
     rw [hE r j h1,if_pos rfl]
     exact Cg.md.trans (Cg.of (by grind))
    by_cases e:i=r
    ·subst e; exact hr'
    ·exact span_cg (span_add (hrow i hi) (span_mul (-en W i c) hr')) fun j hj=>hsp i j hi e
   ·have hE':∀ t,t<m.length->Span p n (elmV p c r pr W) (en W t):=fun t ht=>by
     by_cases e:t=r
     ·subst e
      exact span_cg (span_mul (en m k c) (span_row (i:=t) (by omega))) fun j hj=>hWr j
     ·refine span_cg (span_add (span_row (i:=t) (by omega)) (span_mul (en W t c) (span_row (i:=r) (by omega)))) fun j hj=>?_
      exact Cg.symm (((hsp t j ht e).add Cg.rf).trans (Cg.of (by grind)))
    by_cases e1:i=r
    ·subst e1
     exact span_cg (hE' k hkl) fun j hj=>Cg.of (by rw [hWe,if_pos rfl])
    ·by_cases e2:i=k
     ·subst e2
      exact span_cg (hE' r h1) fun j hj=>Cg.of (by rw [hWe,if_neg (by omega),if_pos rfl])
     ·exact span_cg (hE' i hi) fun j hj=>Cg.of (by rw [hWe,if_neg e2,if_neg e1])
 ·rw [if_neg h1]
  have:=h.rl
  refine ⟨⟨pv,h.rl,fun i hi=>Nat.lt_succ_of_lt (h.lt i hi),h.mono,h.low,h.one,h.zero,fun i hi j hj=>en_out (m:=m) (by dsimp only at hi; omega)⟩,fun f=>Iff.rfl⟩
theorem gjT_inv {m:List (List Int)} (hp:2<=p) (hI:InvOK p) (hm:MatW p n m):∀ c,(∃ pv,RInv c (gjT p m c).1 (gjT p m c).2 pv)∧∀ f,Span p n (gjT p m c).2 f↔Span p n m f
 | 0=>⟨⟨fun _=>0,Nat.zero_le _,by intro i hi; simp [gjT] at hi,by intro i k _ hk; simp [gjT] at hk,by intro i hi; simp [gjT] at hi,by intro i hi; simp [gjT] at hi,by intro i hi; simp [gjT] at hi,fun _ _ j hj=>by omega⟩,fun _=>Iff.rfl⟩
 | c+1=>by
  obtain ⟨⟨pv,h1⟩,h2⟩:=gjT_inv hp hI hm c
  obtain ⟨h3,h4⟩:=gjS_inv hp hI (gjT_ok hp hm c).1 h1
  exact ⟨h3,fun f=>(h4 f).trans (h2 f)⟩
theorem en_take {r i j:Nat} (h:i<r):en (m.take r) i j=en m i j:=by
 unfold en
 rw [List.getD_eq_getElem?_getD (l:=m.take r),List.getElem?_take,if_pos h,← List.getD_eq_getElem?_getD]
theorem span_cut {k:Nat} (hk:k<=n) (h:Span p n m f):Span p k m f:=by
 induction h with
 | zero h0=>exact .zero fun j hj=>h0 j (by omega)
 | add i k hi _ hs ih=>exact .add i k hi ih fun j hj=>hs j (by omega)
theorem gj_rref_ {c:Nat} (hp:2<=p) (hI:InvOK p) (hm:MatW p n m) (hc:c<=n):(∃ pv,RInv c (gj p c m).length (gj p c m) pv)∧∀ f,Span p c (gj p c m) f↔Span p c m f:=by
 obtain ⟨⟨pv,h⟩,h2⟩:=gjT_inv hp hI hm c
 have hl:=gj_len (n:=c) hp hm
 have hrl:=h.rl
 refine ⟨⟨pv,Nat.le_refl _,?_,?_,?_,?_,?_,?_⟩,fun f=>Iff.trans (b:=Span p c (gjT p m c).2 f) ⟨span_le fun i hi=>?_,span_le fun i hi=>?_⟩ ⟨span_le fun i hi=>span_cut hc ((h2 _).1 (span_row hi)),span_le fun i hi=>span_cut hc ((h2 _).2 (span_row hi))⟩⟩
 ·rw [hl]; exact h.lt
 ·rw [hl]; exact h.mono
 ·rw [hl]; intro i hi j hj; unfold gj; rw [en_take hi]; exact h.low i hi j hj
 ·rw [hl]; intro i hi; unfold gj; rw [en_take hi]; exact h.one i hi
 ·rw [hl]; intro i hi k hk
  by_cases hkl:k<(gjT p m c).1
  ·unfold gj; rw [en_take hkl]; exact h.zero i hi k hk
  ·exact en_out (by omega)
 ·intro i hi j _; exact en_out hi
 ·rw [hl] at hi
  exact span_cg (span_row (i:=i) (by omega)) fun j hj=>Cg.of (by unfold gj; rw [en_take hi])
 ·by_cases hir:i<(gjT p m c).1
  ·exact span_cg (span_row (i:=i) (by omega)) fun j hj=>Cg.of (by unfold gj; rw [en_take hir])
  ·exact .zero fun j hj=>Cg.of (h.tail i (by omega) j hj)
theorem gj_rref (hp:2<=p) (hI:InvOK p) (hm:MatW p n m):(∃ pv,RInv n (gj p n m).length (gj p n m) pv)∧∀ f,Span p n (gj p n m) f↔Span p n m f:=gj_rref_ hp hI hm (Nat.le_refl n)
theorem gj_uniq {pv:Nat->Nat} (hp:2<=p) (hI:InvOK p) (hm:MatW p n m) (hm':MatW p n m') (h:RInv n m'.length m' pv) (hs:∀ f,Span p n m f↔Span p n m' f):gj p n m=m':=by
 obtain ⟨⟨pv',h1⟩,h2⟩:=gj_rref hp hI hm
 exact rref_uniq hp h1 h (gj_mat hp hm) hm' (fun f hf=>(hs f).1 ((h2 f).1 hf)) fun f hf=>(h2 f).2 ((hs f).2 hf)
theorem gj_same (hp:2<=p) (hI:InvOK p) (hm:MatW p n m) (hm':MatW p n m') (hs:∀ f,Span p n m f↔Span p n m' f):gj p n m=gj p n m':=by
 obtain ⟨⟨pv',h1⟩,h2⟩:=gj_rref hp hI hm'
 exact gj_uniq hp hI hm (gj_mat hp hm') h1 fun f=>(hs f).trans (h2 f).symm
end
end Go.Proofs.YtkaollfdhoaihaaDoor
namespace Go.Proofs.YtkaollfdhoaihaaDoor
def leadV (x:List Int):Nat:=x.findIdx fun a=>a !=0
section
variable {p:Int} {n:Nat} {m m' B:List (List Int)} {o:List Int}
theorem lead_row {c r i:Nat} {pv:Nat->Nat} (h:RInv c r m pv) (hm:MatW p n m) (hc:c<=n) (hi:i<r):leadV (m.getD i [])=pv i:=by
 have hl:=h.rl
 have hx:=(hm _ (getD_mem (show i<m.length by omega))).1
 have hlt:=h.lt i hi
 have e:∀ (j:Nat) (hj:j<(m.getD i []).length),(m.getD i [])[j]=en m i j:=fun j hj=>(getD_of (List.getElem?_eq_getElem hj)).symm
 unfold leadV
 refine (List.findIdx_eq (show pv i<(m.getD i []).length by omega)).2 ⟨?_,fun j hj=>?_⟩
 ·rw [e,h.one i hi]; rfl
 ·rw [e,h.low i hi j hj]; rfl
structure OrdV (n:Nat) (o:List Int):Prop where
 nd:o.Nodup
 mem:∀ q,q∈o↔0<=q∧q<(n:Int)
theorem OrdV.len (h:OrdV n o):o.length=n:=by
 have h1:((List.range n).map Int.ofNat).Nodup:=by
  rw [List.Nodup,List.pairwise_map]
  exact List.Pairwise.imp (fun hne e=>hne (Int.ofNat.inj e)) (List.nodup_range (n:=n))
 have h2:o.Perm ((List.range n).map Int.ofNat):=by
  rw [List.perm_ext_iff_of_nodup h.nd h1]
  intro a
  rw [h.mem,List.mem_map]
  constructor
  ·intro ha
   exact ⟨a.toNat,List.mem_range.2 (by omega),by show ((a.toNat:Nat):Int)=a; omega⟩
  ·rintro ⟨b,hb,rfl⟩
   have:=List.mem_range.1 hb
   show 0<=(b:Int)∧(b:Int)<n
   omega
 have:=h2.length_eq
 simpa using this
def ordN (o:List Int) (j:Nat):Nat:=(o.getD j 0).toNat
def invN (o:List Int) (q:Nat):Nat:=o.idxOf (q:Int)
theorem OrdV.at (h:OrdV n o) {j:Nat} (hj:j<n):∃ hj':j<o.length,o[j]=((ordN o j:Nat):Int)∧ordN o j<n:=by
 have hl:=h.len
 refine ⟨by omega,?_⟩
 have h1:=(h.mem (o[j]'(by omega))).1 (List.getElem_mem _)
 have e:ordN o j=(o[j]'(by omega)).toNat:=congrArg Int.toNat (getD_of (List.getElem?_eq_getElem (by omega)))
 omega
theorem OrdV.inv (h:OrdV n o) {q:Nat} (hq:q<n):invN o q<n∧ordN o (invN o q)=q:=by
 have hl:=h.len
 have h1:invN o q<o.length:=List.idxOf_lt_length_of_mem ((h.mem _).2 (by omega))
 refine ⟨by omega,?_⟩
 have h2:o[invN o q]=(q:Int):=List.getElem_idxOf h1
 obtain ⟨_,h3,_⟩:=h.at (show invN o q<n by omega)
 omega
def colsV (o:List Int) (b:List Int):List Int:=o.map fun q=>b.getD q.toNat 0
theorem cols_vec {b:List Int} (hp:2<=p) (hb:VecW p n b):VecW p o.length (colsV o b):=by
 refine ⟨List.length_map ..,fun a ha=>?_⟩
 obtain ⟨q,_,rfl⟩:=List.mem_map.1 ha
 by_cases h:q.toNat<b.length
 ·rw [getD_of (List.getElem?_eq_getElem h)]; exact hb.2 _ (List.getElem_mem h)
 ·rw [List.getD_eq_getElem?_getD,List.getElem?_eq_none (by omega)]; simp; omega
theorem cols_mat (hp:2<=p) (hB:MatW p n B):MatW p o.length (B.map (colsV o)):=fun x hx=>by
 obtain ⟨b,hb,rfl⟩:=List.mem_map.1 hx
 exact cols_vec hp (hB b hb)
theorem span_cols {n':Nat} {f:Nat->Int} {σ:Nat->Nat} (hl:m'.length=m.length) (hσ:∀ j,j<n'->σ j<n) (he:∀ i,i<m.length->∀ j,j<n'->en m' i j=en m i (σ j)) (h:Span p n m f):Span p n' m' (fun j=>f (σ j)):=by
 induction h with
 | zero h0=>exact .zero fun j hj=>h0 _ (hσ j hj)
 | add i k hi _ hs ih=>exact .add i k (by omega) ih fun j hj=>(hs _ (hσ j hj)).trans (Cg.of (by rw [he i hi j hj]))
end
end Go.Proofs.YtkaollfdhoaihaaDoor
namespace Go.Proofs.YtkaollfdhoaihaaDoor
theorem invOK {p:Int} (hp:isF p=true):InvOK p:=fun _ h1 h2=>(P_invV hp ⟨h1,h2⟩).2.2.2.2
def upV (n:Nat):List Int:=(List.range n).map fun k:Nat=>(k:Int)
theorem P_upTo {n:Nat} (h:n<=1000):L_impl_upTo (n:Int)=some (upV n):=by
 unfold L_impl_upTo
 rw [P_zeros (by omega),Option.bind_some,Int.toNat_natCast]
 have h1:loopM (fun s_:Nat×List Int=>L_impl_upTo_l1 (List.replicate n 0) s_.1 s_.2) 4611686018427387904 (0,List.replicate n 0)=some (upV n):=by
  have hl:(upV n).length=n:=by simp [upV]
  refine vecloop (y:=upV n) (by simp [upV]) (by simp; omega) (fun j hj z hz=>?_) ?_
  ·try dsimp only
   unfold L_impl_upTo_l1
   rw [dec_t (by omega),cond_true,hz,Option.bind_some,og_true (by simp at hj; omega)]
   simp [upV]
  ·try dsimp only
   unfold L_impl_upTo_l1
   rw [dec_f (by simp),cond_false]
 rw [h1,Option.bind_some]
theorem P_spLead (x:List Int) (hx:x.length<=1000):L_spec_spLead x=some ((leadV x:Nat):Int):=by
 unfold L_spec_spLead
 have hle:leadV x<=x.length:=List.findIdx_le_length
 have h:loopM (fun s_:Nat=>L_spec_spLead_l1 x s_) 4611686018427387904 0=some (leadV x):=by
  refine loopM_det (leadV x) (fun i=>i) (by omega) _ rfl (fun i hi=>?_) ?_
  ·have h0:=List.not_of_lt_findIdx hi
   have h1:x[i]'(by omega)=0:=by simpa using h0
   try dsimp only
   unfold L_spec_spLead_l1
   rw [dec_t (by omega),cond_true,List.getElem?_eq_getElem (show i<x.length by omega),Option.bind_some,Option.bind_some,h1,show ((0:Int)==0)=true from rfl,cond_true,og_true (by omega)]
  ·unfold L_spec_spLead_l1
   by_cases h:leadV x=x.length
   ·rw [dec_f (by omega),cond_false,Option.bind_some,cond_false]
   ·have h0:=List.findIdx_getElem (w:=show leadV x<x.length by omega)
    rw [dec_t (by omega),cond_true,List.getElem?_eq_getElem (show leadV x<x.length by omega),Option.bind_some,Option.bind_some,show ((x[leadV x]'(by omega))==0)=false from Bool.eq_false_iff.2 (fun e=>bne_iff_ne.1 h0 (beq_iff_eq.1 e)),cond_false]
 rw [h,Option.bind_some]
def InO (n:Nat) (o:List Int):Prop:=∀ q∈o,0<=q∧q<(n:Int)
section
variable {p:Int} {n:Nat} {B:List (List Int)}
theorem getI_vec {b:List Int} {q:Int} (hb:b.length=n) (hq:0<=q∧q<(n:Int)):getI b q=some (b.getD q.toNat 0):=by
 rw [getI_nat hq.1,List.getElem?_eq_getElem (by omega),getD_of (List.getElem?_eq_getElem (by omega))]
theorem P_chosen {b o:List Int} (hb:b.length=n) (ho:InO n o) (hl:o.length<=1000):L_impl_chosen b o=some (colsV o b):=by
 unfold L_impl_chosen
 have h:=loopM_app (body:=fun s_:Nat×List Int=>L_impl_chosen_l1 o b s_.1 s_.2) o (fun q=>b.getD q.toNat 0) [] (F:=4611686018427387904) (by omega) (colsV o b) (fun i x h=>?_) ?_
 ·rw [og_true (by omega),show List.replicate 0 (0:Int)=[] from rfl,show loopM (fun s_:Nat×List Int=>L_impl_chosen_l1 o b s_.1 s_.2) 4611686018427387904 (0,[])=some (colsV o b) by simpa using h,Option.bind_some]
 ·have:=getN_lt h
  try dsimp only
  unfold L_impl_chosen_l1
  rw [dec_t (by omega),cond_true,h,Option.bind_some,getI_vec hb (ho x (List.mem_of_getElem? h)),Option.bind_some,og_true (by simp; omega),og_true (by omega)]
 ·try dsimp only
  unfold L_impl_chosen_l1
  rw [dec_f (by omega),cond_false,List.nil_append]; rfl
theorem P_chosenAll {o:List Int} (hB:MatW p n B) (ho:InO n o) (hl:o.length<=1000) (hb:B.length<=1000):L_impl_chosenAll B o=some (B.map (colsV o)):=by
 unfold L_impl_chosenAll
 have h:=loopM_app (body:=fun s_:Nat×List (List Int)=>L_impl_chosenAll_l1 B o s_.1 s_.2) B (colsV o) [] (F:=4611686018427387904) (by omega) (B.map (colsV o)) (fun i x h=>?_) ?_
 ·rw [show loopM (fun s_:Nat×List (List Int)=>L_impl_chosenAll_l1 B o s_.1 s_.2) 4611686018427387904 (0,[])=some (B.map (colsV o)) by simpa using h,Option.bind_some]
 ·have:=getN_lt h
  try dsimp only
  unfold L_impl_chosenAll_l1
  rw [dec_t (by omega),cond_true,h,Option.bind_some,P_chosen (hB x (List.mem_of_getElem? h)).1 ho hl,Option.bind_some,og_true (by simp; omega),og_true (by omega)]
 ·try dsimp only
  unfold L_impl_chosenAll_l1
  rw [dec_f (by omega),cond_false,List.nil_append]
theorem cols_app {o1 o2 b:List Int}:colsV (o1++o2) b=colsV o1 b++colsV o2 b:=by simp [colsV]
theorem P_hgListC {b o:List Int} (hb:b.length=n) (ho:InO n o) (hl:o.length<=1000):L_spec_hgList o b=some (colsV o b):=by
 unfold L_spec_hgList
 have h:=loopM_app (body:=fun s_:Nat×List Int=>L_spec_hgList_l1 o b s_.1 s_.2) o (fun q=>b.getD q.toNat 0) [] (F:=4611686018427387904) (by omega) (colsV o b) (fun i x h=>?_) ?_
 ·rw [show loopM (fun s_:Nat×List Int=>L_spec_hgList_l1 o b s_.1 s_.2) 4611686018427387904 (0,[])=some (colsV o b) by simpa using h,Option.bind_some]
 ·have:=getN_lt h
  try dsimp only
  unfold L_spec_hgList_l1
  rw [dec_t (by omega),cond_true,h,Option.bind_some,getI_vec hb (ho x (List.mem_of_getElem? h)),Option.bind_some,og_true (by simp; omega),og_true (by omega)]
 ·try dsimp only
  unfold L_spec_hgList_l1
  rw [dec_f (by omega),cond_false,List.nil_append]; rfl
end
end Go.Proofs.YtkaollfdhoaihaaDoor
namespace Go.Proofs.YtkaollfdhoaihaaDoor
def szV (v:Int) (n:Nat):Int:=if v<n then -1 else v - n
theorem P_szIntS (xs:List Int) {v:Int} (hv:0<=v∧v<=1048576) (hx:xs.length<=9223372036854775807):L_laws_szIntS xs v=some (szV v xs.length):=by
 unfold L_laws_szIntS szV
 rw [i64_lt (by omega) (by omega)]
 by_cases h:v<xs.length
 ·rw [dec_t (by omega),if_pos h]; rfl
 ·rw [dec_f (by omega),if_neg h]; rfl
theorem P_toIntS (xs:List Int) (hx:xs.length<=1073741824):L_laws_toIntS xs=some xs:=by
 unfold L_laws_toIntS
 rw [og_true (by omega)]
 have h:loopM (fun s_:Nat×List Int=>L_laws_toIntS_l1 xs s_.1 s_.2) 4611686018427387904 (0,List.replicate xs.length (0:Int))=some xs:=by
  refine loopM_det xs.length (fun i=>(i,xs.take i++List.replicate (xs.length - i) 0)) (by omega) xs (by simp) (fun i hi=>?_) ?_
  ·have hx:=List.getElem?_eq_getElem hi
   try dsimp only
   unfold L_laws_toIntS_l1
   rw [dec_t (by omega),cond_true,hx,Option.bind_some,pfill_get hi,Option.bind_some,og_true (by omega),pfill_set hx]
  ·try dsimp only
   unfold L_laws_toIntS_l1
   rw [dec_f (by omega),cond_false]
   simp
 rw [h]; rfl
theorem P_eqIntS (xs:List Int) (hx:xs.length<=1073741824):L_laws_eqIntS xs xs=some true:=by
 unfold L_laws_eqIntS
 have h:loopM (fun s_:Nat=>L_laws_eqIntS_l1 xs xs s_) 4611686018427387904 0=some (.next ()):=by
  refine loopM_det xs.length (fun i=>i) (by omega) _ rfl (fun i hi=>?_) ?_
  ·have hx:=List.getElem?_eq_getElem hi
   try dsimp only
   unfold L_laws_eqIntS_l1
   rw [dec_t (by omega),cond_true,hx,Option.bind_some,Option.bind_some,bne_self_eq_false,cond_false,og_true (by omega)]
  ·try dsimp only
   unfold L_laws_eqIntS_l1
   rw [dec_f (by omega),cond_false]
 rw [h,bne_self_eq_false,cond_false]; rfl
theorem P_markIntS (xs:List Int) {v:Int} (hv:0<=v∧v<=1152921504606846976) (hx:xs.length<=1073741824) :
  ∃ ys,L_laws_markIntS xs v=some (ys,v+xs.length)∧ys.length=xs.length∧L_laws_heldIntS ys v=some (v+xs.length):=by
 refine ⟨(List.range xs.length).map fun j:Nat=>v+(j:Int),?_,by simp,?_⟩
 ·unfold L_laws_markIntS
  have h:loopM (fun s_:Int×Nat×List Int=>L_laws_markIntS_l1 s_.1 s_.2.1 s_.2.2) 4611686018427387904 (v,0,xs)=some (v+xs.length,(List.range xs.length).map fun j:Nat=>v+(j:Int)):=by
   refine loopM_det xs.length (fun i=>(v+i,i,(List.range i).map (fun (j:Nat)=>v+(j:Int))++xs.drop i)) (by omega) _ (by simp) (fun i hi=>?_) ?_
   ·have hl:((List.range i).map fun j:Nat=>v+(j:Int)).length=i:=by simp
    try dsimp only
    unfold L_laws_markIntS_l1
    rw [dec_t (by rw [List.length_append,hl,List.length_drop]; omega),cond_true,pover_get hi hl,Option.bind_some,og_true (by omega),pover_set hi hl,i64_lt (by omega) (by omega),List.range_succ,List.map_append]
    simp [Int.add_assoc]
   ·try dsimp only
    unfold L_laws_markIntS_l1
    rw [dec_f (by simp),cond_false]
    simp
  rw [h]; rfl
 ·unfold L_laws_heldIntS
  have h:loopM (fun s_:Int×Nat=>L_laws_heldIntS_l1 ((List.range xs.length).map fun j:Nat=>v+(j:Int)) s_.1 s_.2) 4611686018427387904 (v,0)=some (.next (v+xs.length)):=by
   refine loopM_det xs.length (fun i=>(v+i,i)) (by omega) _ (by simp) (fun i hi=>?_) ?_
   ·have hg:((List.range xs.length).map fun j:Nat=>v+(j:Int))[i]? =some (v+i):=by simp [hi]
    try dsimp only
    unfold L_laws_heldIntS_l1
    rw [dec_t (by simp; omega),cond_true,hg,Option.bind_some,bne_self_eq_false,cond_false,og_true (by omega),i64_lt (by omega) (by omega)]
    simp [Int.add_assoc]
   ·try dsimp only
    unfold L_laws_heldIntS_l1
    rw [dec_f (by simp),cond_false]
  rw [h]; rfl
end Go.Proofs.YtkaollfdhoaihaaDoor
namespace Go.Proofs.YtkaollfdhoaihaaDoor
section
variable {σ ρ:Type}
theorem loopM_both {b1 b2:σ->Option (Ctl σ ρ)} {Post:ρ->Prop} (n:Nat) (I:Nat->σ->Prop)
  (hs:∀ i s,i<n->I i s->(∃ s',b1 s=some (.next s')∧b2 s=some (.next s')∧I (i+1) s')∨∃ r,b1 s=some (.out r)∧b2 s=some (.out r)∧Post r) (he:∀ s,I n s->∃ r,b1 s=some (.out r)∧b2 s=some (.out r)∧Post r) :
  ∀ (F k:Nat) (s:σ),k<=n->n - k<F->I k s->∃ r,loopM b1 F s=some r∧loopM b2 F s=some r∧Post r
 | 0,_,_,_,h,_=>by omega
 | F+1,k,s,hk,h,hi=>by
  have key:(∃ r,b1 s=some (.out r)∧b2 s=some (.out r)∧Post r)->∃ r,loopM b1 (F+1) s=some r∧loopM b2 (F+1) s=some r∧Post r:=by
   rintro ⟨r,h1,h2,h3⟩
   exact ⟨r,by simp only [loopM,h1,Option.bind_some,Ctl.then],by simp only [loopM,h2,Option.bind_some,Ctl.then],h3⟩
  rcases Nat.lt_or_ge k n with hlt | hge
  ·rcases hs k s hlt hi with ⟨s',h1,h2,h3⟩ | h
   ·obtain ⟨r,g1,g2,g3⟩:=loopM_both n I hs he F (k+1) s' hlt (by omega) h3
    exact ⟨r,by simp only [loopM,h1,Option.bind_some,Ctl.then]; exact g1,by simp only [loopM,h2,Option.bind_some,Ctl.then]; exact g2,g3⟩
   ·exact key h
  ·obtain rfl:k=n:=by omega
   exact key (he s hi)
theorem loopM_same {b1 b2:σ->Option (Ctl σ ρ)} {Post:ρ->Prop} (n:Nat) (I:Nat->σ->Prop) {F:Nat} (hn:n<F) {s0:σ} (h0:I 0 s0)
  (hs:∀ i s,i<n->I i s->(∃ s',b1 s=some (.next s')∧b2 s=some (.next s')∧I (i+1) s')∨∃ r,b1 s=some (.out r)∧b2 s=some (.out r)∧Post r) (he:∀ s,I n s->∃ r,b1 s=some (.out r)∧b2 s=some (.out r)∧Post r):∃ r,loopM b1 F s0=some r∧loopM b2 F s0=some r∧Post r :=
 loopM_both n I hs he F 0 s0 (Nat.zero_le _) (by omega) h0
end
def mkL (v:Int) (n:Nat):List Int:=(List.range n).map fun j:Nat=>v+(j:Int)
theorem P_markIntSx (xs:List Int) {v:Int} (hv:0<=v∧v<=1152921504606846976) (hx:xs.length<=1073741824):L_laws_markIntS xs v=some (mkL v xs.length,v+xs.length):=by
 unfold L_laws_markIntS
 have h:loopM (fun s_:Int×Nat×List Int=>L_laws_markIntS_l1 s_.1 s_.2.1 s_.2.2) 4611686018427387904 (v,0,xs)=some (v+xs.length,mkL v xs.length):=by
  refine loopM_det xs.length (fun i=>(v+i,i,mkL v i++xs.drop i)) (by omega) _ (by simp [mkL]) (fun i hi=>?_) ?_
  ·have hl:(mkL v i).length=i:=by simp [mkL]
   try dsimp only
   unfold L_laws_markIntS_l1
   rw [dec_t (by rw [List.length_append,hl,List.length_drop]; omega),cond_true,pover_get hi hl,Option.bind_some,og_true (by omega),pover_set hi hl,i64_lt (by omega) (by omega)]
   unfold mkL
   rw [List.range_succ,List.map_append]
   simp [Int.add_assoc]
  ·try dsimp only
   unfold L_laws_markIntS_l1
   rw [dec_f (by simp [mkL]),cond_false]
   simp [mkL]
 rw [h]; rfl
theorem P_heldIntSx (n:Nat) {v:Int} (hv:0<=v∧v<=1152921504606846976) (hx:n<=1073741824):L_laws_heldIntS (mkL v n) v=some (v+n):=by
 unfold L_laws_heldIntS
 have h:loopM (fun s_:Int×Nat=>L_laws_heldIntS_l1 (mkL v n) s_.1 s_.2) 4611686018427387904 (v,0)=some (.next (v+n)):=by
  refine loopM_det n (fun i=>(v+i,i)) (by omega) _ (by simp) (fun i hi=>?_) ?_
  ·have hg:(mkL v n)[i]? =some (v+i):=by simp [mkL,hi]
   try dsimp only
   unfold L_laws_heldIntS_l1
   rw [dec_t (by simp [mkL]; omega),cond_true,hg,Option.bind_some,bne_self_eq_false,cond_false,og_true (by omega),i64_lt (by omega) (by omega)]
   simp [Int.add_assoc]
  ·try dsimp only
   unfold L_laws_heldIntS_l1
   rw [dec_f (by simp [mkL]),cond_false]
 rw [h]; rfl
def RowsB (b:Nat) (xss:List (List Int)):Prop:=∀ x∈xss,x.length<=b
def totS (xss:List (List Int)):Nat:=(xss.map List.length).sum
def marked (v:Int):List (List Int)->List (List Int)
 | []=>[]
 | x :: r=>mkL v x.length :: marked (v+x.length) r
theorem marked_len:∀ (v:Int) (xss:List (List Int)),(marked v xss).length=xss.length
 | _,[]=>rfl
 | v,x :: r=>by simp [marked,marked_len]
theorem marked_get:∀ (v:Int) (xss:List (List Int)) (i:Nat) (h:i<xss.length),(marked v xss)[i]? =some (mkL (v+totS (xss.take i)) xss[i].length)
 | v,x :: r,0,h=>by simp [marked,totS]
 | v,x :: r,i+1,h=>by
  have:=marked_get (v+x.length) r i (by simpa using h)
  simp only [marked,List.getElem?_cons_succ,this,List.take_succ_cons,List.getElem_cons_succ,totS,List.map_cons,List.sum_cons]
  congr 2
  simp [Int.add_assoc]
theorem totS_succ {xss:List (List Int)} {i:Nat} (h:i<xss.length):totS (xss.take (i+1))=totS (xss.take i)+xss[i].length:=by
 unfold totS
 rw [List.take_add_one,List.getElem?_eq_getElem h]
 simp only [Option.toList,List.map_append,List.map_cons,List.map_nil,List.sum_append,List.sum_cons,List.sum_nil,Nat.add_zero]
theorem totS_le {b:Nat}:∀ {xss:List (List Int)},RowsB b xss->totS xss<=xss.length*b
 | [],_=>by simp [totS]
 | x :: r,h=>by
  have h1:=h x (by simp)
  have h2:=totS_le (xss:=r) fun y hy=>h y (by simp [hy])
  simp only [totS,List.map_cons,List.sum_cons,List.length_cons,Nat.succ_mul] at h2 ⊢
  omega
theorem totS_take {b:Nat} {xss:List (List Int)} (h:RowsB b xss) (i:Nat):totS (xss.take i)<=xss.length*b:=by
 refine Nat.le_trans (totS_le fun x hx=>h x (List.mem_of_mem_take hx)) (Nat.mul_le_mul_right _ ?_)
 rw [List.length_take]; omega
theorem P_eqIntSS (xss:List (List Int)) (hn:xss.length<=1048576) (hb:RowsB 1048576 xss):L_laws_eqIntSS xss xss=some true:=by
 unfold L_laws_eqIntSS
 have h:loopM (fun s_:Nat=>L_laws_eqIntSS_l1 xss xss s_) 4611686018427387904 0=some (.next ()):=by
  refine loopM_det xss.length (fun i=>i) (by omega) _ rfl (fun i hi=>?_) ?_
  ·have hx:=List.getElem?_eq_getElem hi
   have:=hb _ (List.getElem_mem hi)
   try dsimp only
   unfold L_laws_eqIntSS_l1
   rw [dec_t (by omega),cond_true,hx,Option.bind_some,Option.bind_some,P_eqIntS _ (by omega),Option.bind_some,Bool.not_true,cond_false,og_true (by omega)]
  ·try dsimp only
   unfold L_laws_eqIntSS_l1
   rw [dec_f (by omega),cond_false]
 rw [h,bne_self_eq_false,cond_false]; rfl
theorem P_markIntSS (xss:List (List Int)) {v:Int} (hv:0<=v∧v<=576460752303423488) (hn:xss.length<=1048576) (hb:RowsB 1048576 xss) :
  ∃ yss,∃ u:Int,v<=u∧u<=v+1099511627776∧L_laws_markIntSS xss v=some (yss,u)∧yss.length=xss.length∧L_laws_heldIntSS yss v=some u:=by
 have hm:xss.length*1048576<=1048576*1048576:=Nat.mul_le_mul_right _ hn
 have ht:=fun i=>totS_take hb i
 have htt:totS xss<=xss.length*1048576:=totS_le hb
 refine ⟨marked v xss,v+totS xss,by omega,by omega,?_,marked_len _ _,?_⟩
 ·unfold L_laws_markIntSS
  have h:loopM (fun s_:Int×Nat×List (List Int)=>L_laws_markIntSS_l1 s_.1 s_.2.1 s_.2.2) 4611686018427387904 (v,0,xss)=some (v+totS xss,marked v xss):=by
   refine loopM_det xss.length (fun i=>(v+totS (xss.take i),i,(marked v xss).take i++xss.drop i)) (by omega) _ (by simp [totS]) (fun i hi=>?_) ?_
   ·have hl:((marked v xss).take i).length=i:=by rw [List.length_take,marked_len]; omega
    have h1:=hb _ (List.getElem_mem hi)
    have h2:=ht i
    have hg:=marked_get v xss i hi
    try dsimp only
    unfold L_laws_markIntSS_l1
    rw [dec_t (by rw [List.length_append,hl,List.length_drop]; omega),cond_true,pover_get hi hl,Option.bind_some,P_markIntSx _ (by omega) (by omega),Option.bind_some,og_true (by simp [mkL]),og_true (by omega),pover_set hi hl,totS_succ hi,List.take_add_one,hg]
    simp [Int.add_assoc]
   ·try dsimp only
    unfold L_laws_markIntSS_l1
    have hl:((marked v xss).take xss.length).length=xss.length:=by rw [List.length_take,marked_len]; omega
    rw [dec_f (by rw [List.length_append,hl]; simp),cond_false]
    simp [List.take_of_length_le,marked_len]
  rw [h]; rfl
 ·unfold L_laws_heldIntSS
  have h:loopM (fun s_:Int×Nat=>L_laws_heldIntSS_l1 (marked v xss) s_.1 s_.2) 4611686018427387904 (v,0)=some (.next (v+totS xss)):=by
   refine loopM_det xss.length (fun i=>(v+totS (xss.take i),i)) (by omega) _ (by simp [totS]) (fun i hi=>?_) ?_
   ·have h1:=hb _ (List.getElem_mem hi)
    have h2:=ht i
    try dsimp only
    unfold L_laws_heldIntSS_l1
    rw [dec_t (by rw [marked_len]; omega),cond_true,marked_get v xss i hi,Option.bind_some,P_heldIntSx _ (by omega) (by omega),Option.bind_some,dec_f (by omega),cond_false,og_true (by omega),totS_succ hi]
    simp [Int.add_assoc]
   ·try dsimp only
    unfold L_laws_heldIntSS_l1
    rw [dec_f (by rw [marked_len]; omega),cond_false,List.take_length]
  rw [h]; rfl
end Go.Proofs.YtkaollfdhoaihaaDoor
namespace Go.Proofs.YtkaollfdhoaihaaDoor
theorem P_reduced {p:Int} {w:Nat} {m:List (List Int)} (hp:isF p=true) (hm:MatW p w m) (hw:w<=100000) (hl:m.length<=100000):L_impl_reduced p m (w:Int)=some (gj p w m):=by
 have hb:=isF_bd hp
 obtain ⟨k1,h2,h3⟩:=gjT_ok hb.1 hm w
 have e1:∀ {m:List (List Int)},MatW p w m->rdW w m=m:=fun {m} hm=>by
  unfold rdW
  exact (List.map_congr_left (g:=id) (fun x hx=>List.take_of_length_le (Nat.le_of_eq (hm x hx).1))).trans (List.map_id _)
 have e2:alW w m=List.replicate m.length []:=by
  unfold alW
  rw [List.eq_replicate_iff]
  refine ⟨List.length_map ..,fun b hb=>?_⟩
  obtain ⟨x,hx,rfl⟩:=List.mem_map.1 hb
  exact List.drop_of_length_le (Nat.le_of_eq (hm x hx).1)
 have e3:(alW w (gjT p m w).2).length=m.length:=by rw [← h3]; exact List.length_map ..
 have hR:=P_reduction hp hm (Nat.le_refl w) (Nat.le_refl w) hw hl
 rw [e1 hm,e2] at hR
 unfold L_impl_reduced
 rw [P_clones hm hw hl,Option.bind_some,og_true (by omega),hR,Option.bind_some]
 rw [e1 k1]
 rw [og_true h3,og_true e3]
 exact og_true (by dsimp only; omega) _
theorem P_eqRelation (l r:Int) (b:List (List Int)) (hn:b.length<=1048576) (hb:RowsB 1048576 b):L_laws_eqRelation l r b l r b=some true:=by
 unfold L_laws_eqRelation
 rw [bne_self_eq_false,cond_false,bne_self_eq_false,cond_false,P_eqIntSS b hn hb,Option.bind_some,Bool.not_true,cond_false]
end Go.Proofs.YtkaollfdhoaihaaDoor
namespace Go.Proofs.YtkaollfdhoaihaaDoor
def NullV (p:Int) (n:Nat) (m:List (List Int)) (f:Nat->Int):Prop:=∀ i,i<m.length->Cg p (sm n fun j=>en m i j*f j) 0
section
variable {p:Int} {n:Nat} {m m':List (List Int)} {f g:Nat->Int}
theorem null_span (hf:NullV p n m f) (hs:Span p n m g):Cg p (sm n fun j=>g j*f j) 0:=by
 induction hs with
 | zero h0=>exact (sm_cg (g:=fun _=>0) fun j hj=>((h0 j hj).mul Cg.rf).trans (Cg.of (by omega))).trans (Cg.of (sm_zero fun _ _=>rfl))
 | @add f' g' i k hi _ hs ih =>
  have e:sm n (fun j=>(g' j+k*en m i j)*f j)=sm n (fun j=>g' j*f j)+k*sm n (fun j=>en m i j*f j):=by
   rw [sm_eq (g:=fun j=>g' j*f j+k*(en m i j*f j)) fun j _=>by grind,sm_add (f:=fun j=>g' j*f j),sm_mul (f:=fun j=>en m i j*f j)]
  refine (sm_cg fun j hj=>(hs j hj).mul Cg.rf).trans ((Cg.of e).trans ?_)
  exact (ih.add (Cg.rf.mul (hf i hi))).trans (Cg.of (by omega))
theorem null_le (h:∀ i,i<m'.length->Span p n m (en m' i)) (hf:NullV p n m f):NullV p n m' f:=fun i hi=>null_span hf (h i hi)
theorem null_add (hf:NullV p n m f) (hg:NullV p n m g):NullV p n m (fun j=>f j+g j):=fun i hi=>by
 refine (Cg.of ?_).trans (((hf i hi).add (hg i hi)).trans (Cg.of (by omega)))
 rw [sm_eq (g:=fun j=>en m i j*f j+en m i j*g j) fun j _=>by grind,sm_add]
theorem null_mul (a:Int) (hf:NullV p n m f):NullV p n m (fun j=>a*f j):=fun i hi=>by
 refine (Cg.of ?_).trans ((Cg.rf.mul (hf i hi)).trans (Cg.of (show a*0=0 by omega)))
 rw [sm_eq (g:=fun j=>a*(en m i j*f j)) fun j _=>by grind,sm_mul]
theorem null_cg (hf:NullV p n m f) (h:∀ j,j<n->Cg p (g j) (f j)):NullV p n m g:=fun i hi=>(sm_cg fun j hj=>Cg.rf.mul (h j hj)).trans (hf i hi)
theorem span_null (h:∀ i,i<m'.length->NullV p n m (en m' i)) (hs:Span p n m' f):NullV p n m f:=by
 induction hs with
 | zero h0=>exact fun i hi=>(sm_cg (g:=fun _=>0) fun j hj=>(Cg.rf.mul (h0 j hj)).trans (Cg.of (by omega))).trans (Cg.of (sm_zero fun _ _=>rfl))
 | add i k hi _ hs ih=>exact null_cg (null_add ih (null_mul k (h i hi))) hs
def pvs (r:Nat) (pv:Nat->Nat) (j:Nat):Bool:=(List.range r).any fun i=>pv i==j
theorem pvs_t {r j:Nat} {pv:Nat->Nat} (h:pvs r pv j=true):∃ i,i<r∧pv i=j:=by
 obtain ⟨i,hi,he⟩:=List.any_eq_true.1 h
 exact ⟨i,List.mem_range.1 hi,beq_iff_eq.1 he⟩
theorem pvs_f {r j i:Nat} {pv:Nat->Nat} (h:pvs r pv j=false) (hi:i<r):pv i≠j:=fun e=>by
 have:=List.any_eq_false.1 h i (List.mem_range.2 hi)
 exact this (beq_iff_eq.2 e)
structure NBas (p:Int) (n:Nat) (R:List (List Int)) (pv:Nat->Nat) (N:List (List Int)):Prop where
 ex:∀ j,j<n->pvs R.length pv j=false->∃ t,t<N.length∧Cg p (en N t j) 1∧(∀ i,i<R.length->Cg p (en N t (pv i)) (-en R i j))∧∀ q,q<n->q≠j->pvs R.length pv q=false->Cg p (en N t q) 0
 all:∀ t,t<N.length->∃ j,j<n∧pvs R.length pv j=false∧Cg p (en N t j) 1∧(∀ i,i<R.length->Cg p (en N t (pv i)) (-en R i j))∧∀ q,q<n->q≠j->pvs R.length pv q=false->Cg p (en N t q) 0
theorem nbas_span {R N:List (List Int)} {pv:Nat->Nat} (h:RInv n R.length R pv) (hN:NBas p n R pv N):Span p n N f↔NullV p n R f:=by
 have hd:∀ i k,i<R.length->k<R.length->en R i (pv k)=if k=i then 1 else 0:=fun i k hi hk=>by
  by_cases e:k=i
  ·subst e; rw [if_pos rfl,h.one k hk]
  ·rw [if_neg e,h.zero k hk i (Ne.symm e)]
 have hpi:∀ i k,i<R.length->k<R.length->pv i=pv k->i=k:=fun i k hi hk e=>by
  rcases Nat.lt_trichotomy i k with h1 | h1 | h1
  ·have:=h.mono i k h1 hk; omega
  ·exact h1
  ·have:=h.mono k i h1 hi; omega
 constructor
 ·refine span_null fun t ht i hi=>?_
  obtain ⟨j,hj,hfr,h1,h2,h3⟩:=hN.all t ht
  have hne:pv i≠j:=pvs_f hfr hi
  have e:Cg p (sm n fun q=>en R i q*en N t q) (sm n fun q=>(if q=j then en R i j else 0)+(if q=pv i then -en R i j else 0)):=by
   refine sm_cg fun q hq=>?_
   by_cases e1:q=j
   ·subst e1
    rw [if_pos rfl,if_neg (Ne.symm hne)]
    exact (Cg.rf.mul h1).trans (Cg.of (by omega))
   ·rw [if_neg e1]
    by_cases e2:q=pv i
    ·subst e2
     rw [if_pos rfl,h.one i hi]
     exact (Cg.rf.mul (h2 i hi)).trans (Cg.of (by omega))
    ·rw [if_neg e2]
     cases hf:pvs R.length pv q
     ·exact (Cg.rf.mul (h3 q hq e1 hf)).trans (Cg.of (by omega))
     ·obtain ⟨k,hk,rfl⟩:=pvs_t hf
      rw [hd i k hi hk,if_neg fun e=>e2 (by rw [e])]
      exact Cg.of (by omega)
  refine e.trans (Cg.of ?_)
  rw [sm_add,sm_one hj fun q _ hq=>if_neg hq,sm_one (h.lt i hi) fun q _ hq=>if_neg hq,if_pos rfl,if_pos rfl]
  omega
 ·intro hf
  have hrow:∀ j,∃ b:Nat->Int,Span p n N b∧(j<n->pvs R.length pv j=false->Cg p (b j) 1∧(∀ i,i<R.length->Cg p (b (pv i)) (-en R i j))∧∀ q,q<n->q≠j->pvs R.length pv q=false->Cg p (b q) 0):=fun j=>by
   by_cases hj:j<n∧pvs R.length pv j=false
   ·obtain ⟨t,ht,h1⟩:=hN.ex j hj.1 hj.2
    exact ⟨en N t,span_row ht,fun _ _=>h1⟩
   ·exact ⟨fun _=>0,.zero fun _ _=>Cg.rf,fun h1 h2=>(hj ⟨h1,h2⟩).elim⟩
  obtain ⟨b,hb⟩:∃ b:Nat->Nat->Int,∀ j,Span p n N (b j)∧(j<n->pvs R.length pv j=false->Cg p (b j j) 1∧(∀ i,i<R.length->Cg p (b j (pv i)) (-en R i j))∧∀ q,q<n->q≠j->pvs R.length pv q=false->Cg p (b j q) 0) :=
   ⟨fun j=>Classical.choose (hrow j),fun j=>Classical.choose_spec (hrow j)⟩
  have hS:Span p n N (fun q=>sm n fun j=>(if pvs R.length pv j then 0 else f j)*b j q):=span_sm (F:=fun j q=>(if pvs R.length pv j then 0 else f j)*b j q) fun j _=>span_mul _ (hb j).1
  refine span_cg hS fun q hq=>Cg.symm ?_
  cases hf':pvs R.length pv q
  ·refine (sm_cg (g:=fun j=>if j=q then f q else 0) fun j hj=>?_).trans (Cg.of ?_)
   ·by_cases e:j=q
    ·subst e
     rw [if_pos rfl,hf',if_neg (by decide)]
     exact (Cg.rf.mul ((hb j).2 hj hf').1).trans (Cg.of (by omega))
    ·rw [if_neg e]
     cases hfj:pvs R.length pv j
     ·exact (Cg.rf.mul (((hb j).2 hj hfj).2.2 q hq (Ne.symm e) hf')).trans (Cg.of (by omega))
     ·rw [if_pos rfl]; exact Cg.of (by omega)
   ·rw [sm_one hq fun j _ hj=>if_neg hj,if_pos rfl]
  ·obtain ⟨i,hi,rfl⟩:=pvs_t hf'
   refine (sm_cg (g:=fun j=> -1*(en R i j*f j)+(if j=pv i then f j else 0)) fun j hj=>?_).trans ?_
   ·cases hfj:pvs R.length pv j
    ·have hne:j≠pv i:=fun e=>pvs_f hfj hi e.symm
     rw [if_neg (by decide),if_neg hne]
     exact (Cg.rf.mul (((hb j).2 hj hfj).2.1 i hi)).trans (Cg.of (by grind))
    ·obtain ⟨k,hk,rfl⟩:=pvs_t hfj
     rw [if_pos rfl,hd i k hi hk]
     by_cases e:k=i
     ·subst e; rw [if_pos rfl,if_pos rfl]; exact Cg.of (by omega)
     ·rw [if_neg e,if_neg fun e'=>e (hpi k i hk hi e')]; exact Cg.of (by omega)
   ·rw [sm_add (f:=fun j=> -1*(en R i j*f j)),sm_mul (f:=fun j=>en R i j*f j),sm_one (f:=fun j=>if j=pv i then f j else 0) hq fun j _ hj=>if_neg hj,if_pos rfl]
    exact ((Cg.rf.mul (hf i hi)).add Cg.rf).trans (Cg.of (by omega))
theorem span_split {c r w:Nat} {pv:Nat->Nat} (h:RInv c r m pv) (hc:c<=w) (hs:Span p w m f):∃ g,Span p w (m.drop r) g∧∀ j,j<w->Cg p (f j) ((sm r fun i=>f (pv i)*en m i j)+g j):=by
 have hd:∀ t j,en (m.drop r) t j=en m (r+t) j:=fun t j=>by
  unfold en
  rw [List.getD_eq_getElem?_getD (l:=m.drop r),List.getElem?_drop,← List.getD_eq_getElem?_getD]
 induction hs with
 | zero h0 =>
  refine ⟨fun _=>0,.zero fun _ _=>Cg.rf,fun j hj=>(h0 j hj).trans (Cg.symm ?_)⟩
  refine (((sm_cg (g:=fun _=>0) fun i hi=>?_).trans (Cg.of (sm_zero fun _ _=>rfl))).add Cg.rf).trans (Cg.of (by dsimp only; omega))
  exact ((h0 _ (by have:=h.lt i hi; omega)).mul Cg.rf).trans (Cg.of (by omega))
 | @add f' g' t k ht _ hs ih =>
  obtain ⟨q,hq,he⟩:=ih
  have hpw:∀ i,i<r->pv i<w:=fun i hi=>by have:=h.lt i hi; omega
  have e1:∀ j,Cg p (sm r fun i=>f' (pv i)*en m i j) ((sm r fun i=>g' (pv i)*en m i j)+k*sm r fun i=>en m t (pv i)*en m i j):=fun j=>by
   refine (sm_cg fun i hi=>(hs _ (hpw i hi)).mul Cg.rf).trans (Cg.of ?_)
   rw [sm_eq (g:=fun i=>g' (pv i)*en m i j+k*(en m t (pv i)*en m i j)) fun i _=>by grind,sm_add (f:=fun i=>g' (pv i)*en m i j),sm_mul (f:=fun i=>en m t (pv i)*en m i j)]
  by_cases htr:t<r
  ·refine ⟨q,hq,fun j hj=>(hs j hj).trans (((he j hj).add Cg.rf).trans (Cg.symm (((e1 j).add Cg.rf).trans (Cg.of ?_))))⟩
   rw [sm_one (f:=fun i=>en m t (pv i)*en m i j) htr fun i hi hne=>by rw [h.zero i hi t (Ne.symm hne)]; omega,h.one t htr,Int.one_mul]
   omega
  ·refine ⟨fun j=>q j+k*en m t j,?_,fun j hj=>(hs j hj).trans (((he j hj).add Cg.rf).trans (Cg.symm (((e1 j).add Cg.rf).trans (Cg.of ?_))))⟩
   ·refine span_cg (span_add hq (span_mul k (span_row (i:=t - r) (by rw [List.length_drop]; omega)))) fun j _=>Cg.of ?_
    rw [hd,show r+(t - r)=t by omega]
   ·rw [sm_zero (f:=fun i=>en m t (pv i)*en m i j) fun i hi=>by rw [h.zero i hi t (by omega)]; omega]
    dsimp only
    omega
theorem left_null {R:Nat} {A W:List (List Int)} (hp:2<=p) (hI:InvOK p) (hW:MatW p (R+n) W) (hl:W.length=n) (hA:A.length=R) (h1:∀ t,t<n->∀ i,i<R->en W t i=en A i t) (h2:∀ t,t<n->∀ j,j<n->en W t (R+j)=if j=t then 1 else 0) :
  Span p n (((gjT p W R).2.drop (gjT p W R).1).map (·.drop R)) f↔NullV p n A f:=by
 obtain ⟨⟨pv,hv⟩,hs⟩:=gjT_inv hp hI hW R
 have hlin:∀ g,Span p (R+n) W g->∀ i,i<R->Cg p (g i) (sm n fun t=>en A i t*g (R+t)):=fun g hg=>by
  induction hg with
  | zero h0 =>
   intro i hi
   refine (h0 i (by omega)).trans (Cg.symm ((sm_cg (g:=fun _=>0) fun t ht=>?_).trans (Cg.of (sm_zero fun _ _=>rfl))))
   exact (Cg.rf.mul (h0 _ (by omega))).trans (Cg.of (by omega))
  | @add f' g' t k ht _ hs ih =>
   intro i hi
   refine (hs i (by omega)).trans (((ih i hi).add Cg.rf).trans (Cg.symm ?_))
   refine (sm_cg fun u hu=>Cg.rf.mul (hs (R+u) (by omega))).trans (Cg.of ?_)
   rw [sm_eq (g:=fun u=>en A i u*g' (R+u)+k*(en A i u*en W t (R+u))) fun u _=>by grind,sm_add (f:=fun u=>en A i u*g' (R+u)),sm_mul (f:=fun u=>en A i u*en W t (R+u)),
    sm_one (f:=fun u=>en A i u*en W t (R+u)) (t:=t) (by omega) fun u hu hne=>by rw [h2 t (by omega) u hu,if_neg hne]; omega,h2 t (by omega) t (by omega),if_pos rfl,h1 t (by omega) i hi,Int.mul_one]
 have hen:∀ t j,t<((gjT p W R).2.drop (gjT p W R).1).length->en (((gjT p W R).2.drop (gjT p W R).1).map (·.drop R)) t j=en (gjT p W R).2 ((gjT p W R).1+t) (R+j):=fun t j ht=>by
  unfold en
  have e1:(((gjT p W R).2.drop (gjT p W R).1).map (·.drop R)).getD t []=((gjT p W R).2.getD ((gjT p W R).1+t) []).drop R:=by
   rw [List.getD_eq_getElem?_getD,List.getElem?_map,List.getElem?_drop,List.getD_eq_getElem?_getD]
   cases (gjT p W R).2[(gjT p W R).1+t]? with
   | none=>exact (List.drop_nil).symm
   | some x=>rfl
  rw [e1,List.getD_eq_getElem?_getD,List.getElem?_drop,← List.getD_eq_getElem?_getD]
 generalize gjT p W R=G at *
 obtain ⟨r,M⟩:=G
 dsimp only at *
 constructor
 ·refine span_null fun t ht i hi=>?_
  have ht':t<(M.drop r).length:=by simpa using ht
  have h3:=hlin _ ((hs _).1 (span_row (i:=r+t) (by rw [List.length_drop] at ht'; omega))) i (by omega)
  rw [hv.tail (r+t) (by omega) i (by omega)] at h3
  refine Cg.trans (Cg.of (sm_eq fun j hj=>?_)) h3.symm
  rw [hen t j ht']
 ·intro hf
  have hg:Span p (R+n) W (fun q=>sm n fun t=>f t*en W t q):=span_sm (F:=fun t q=>f t*en W t q) fun t ht=>span_mul _ (span_row (by omega))
  have hq1:∀ i,i<R->Cg p (sm n fun t=>f t*en W t i) 0:=fun i hi=>by
   refine Cg.trans (Cg.of (sm_eq fun t ht=>?_)) (hf i (by omega))
   rw [h1 t ht i hi]; exact Int.mul_comm _ _
  have hq2:∀ j,j<n->(sm n fun t=>f t*en W t (R+j))=f j:=fun j hj=>by
   rw [sm_one (f:=fun t=>f t*en W t (R+j)) hj fun t ht hne=>by rw [h2 t ht j hj,if_neg (Ne.symm hne)]; omega,h2 j hj j hj,if_pos rfl,Int.mul_one]
  obtain ⟨g,hgs,hge⟩:=span_split hv (Nat.le_add_right R n) ((hs _).2 hg)
  have hG:Span p (R+n) (M.drop r) (fun q=>sm n fun t=>f t*en W t q):=by
   refine span_cg hgs fun q hq=>(hge q hq).trans ?_
   refine ((sm_cg (g:=fun _=>0) fun i hi=>?_).add Cg.rf).trans (Cg.of ?_)
   ·exact ((hq1 _ (hv.lt i hi)).mul Cg.rf).trans (Cg.of (by omega))
   ·rw [sm_zero fun _ _=>rfl]; omega
  have hC:=span_cols (m':=(M.drop r).map (·.drop R)) (n':=n) (σ:=fun j=>R+j) (List.length_map ..) (fun j hj=>by omega) (fun t ht j hj=>by
   rw [hen t j ht]
   unfold en
   rw [List.getD_eq_getElem?_getD (l:=M.drop r),List.getElem?_drop,← List.getD_eq_getElem?_getD]) hG
  exact span_cg hC fun j hj=>Cg.of (hq2 j hj).symm
end
end Go.Proofs.YtkaollfdhoaihaaDoor
namespace Go.Proofs.YtkaollfdhoaihaaDoor
def lv (R:List (List Int)) (i:Nat):Nat:=leadV (R.getD i [])
def bvT (p:Int) (n:Nat) (R:List (List Int)) (j:Nat):Nat->List Int
 | 0=>(List.replicate n 0).set j 1
 | i+1=>(bvT p n R j i).set (lv R i) ((p - en R i j) % p)
def ldT (n:Nat) (R:List (List Int)):Nat->List Int
 | 0=>List.replicate n (-1)
 | i+1=>(ldT n R i).set (lv R i) (i:Int)
def freeV (n:Nat) (R:List (List Int)):List Nat:=(List.range n).filter fun j=> !pvs R.length (lv R) j
def nbasV (p:Int) (n:Nat) (R:List (List Int)):List (List Int):=(freeV n R).map fun j=>bvT p n R j R.length
def nulV (p:Int) (n:Nat) (m:List (List Int)):List (List Int):=gj p n (nbasV p n (gj p n m))
section
variable {p:Int} {n:Nat} {R m:List (List Int)}
theorem rinv_lead {pv:Nat->Nat} (h:RInv n R.length R pv) (hm:MatW p n R):RInv n R.length R (lv R):=by
 have e:∀ i,i<R.length->lv R i=pv i:=fun i hi=>lead_row h hm (Nat.le_refl n) hi
 refine ⟨Nat.le_refl _,fun i hi=>?_,fun i k hik hk=>?_,fun i hi j hj=>?_,fun i hi=>?_,fun i hi k hk=>?_,fun i hi j _=>en_out hi⟩
 ·rw [e i hi]; exact h.lt i hi
 ·rw [e i (by omega),e k hk]; exact h.mono i k hik hk
 ·rw [e i hi] at hj; exact h.low i hi j hj
 ·rw [e i hi]; exact h.one i hi
 ·rw [e i hi]; exact h.zero i hi k hk
theorem pvs_succ {pv:Nat->Nat} {i j:Nat}:pvs (i+1) pv j=(pvs i pv j||(pv i==j)):=by simp [pvs,List.range_succ]
theorem ldT_len:∀ i,(ldT n R i).length=n
 | 0=>by simp [ldT]
 | i+1=>by unfold ldT; rw [List.length_set,ldT_len i]
theorem ldT_at (hlt:∀ i,i<R.length->lv R i<n) {j:Nat} (hj:j<n):∀ i,i<=R.length->∃ v,(ldT n R i)[j]? =some v∧(decide (0<=v)=pvs i (lv R) j)
 | 0,_=>⟨-1,by simp [ldT,hj],rfl⟩
 | i+1,hi=>by
  obtain ⟨v,h1,h2⟩:=ldT_at hlt hj i (by omega)
  have hl:=ldT_len (n:=n) (R:=R) i
  by_cases e:lv R i=j
  ·refine ⟨(i:Int),?_,?_⟩
   ·unfold ldT
    rw [e,List.getElem?_set_self (by omega)]
   ·rw [pvs_succ,beq_iff_eq.2 e,Bool.or_true,dec_t (by omega)]
  ·refine ⟨v,?_,?_⟩
   ·unfold ldT
    rw [List.getElem?_set_ne e]; exact h1
   ·rw [pvs_succ,beq_eq_false_iff_ne.2 e,Bool.or_false]; exact h2
theorem bvT_len {j:Nat}:∀ i,(bvT p n R j i).length=n
 | 0=>by simp [bvT]
 | i+1=>by unfold bvT; rw [List.length_set,bvT_len i]
theorem bvT_in {j:Nat} (hp:2<=p):∀ i,inV p (bvT p n R j i)
 | 0=>fun a ha=>by
  rcases List.mem_or_eq_of_mem_set ha with ha | rfl
  ·obtain rfl:=(List.mem_replicate.1 ha).2; omega
  ·omega
 | i+1=>fun a ha=>by
  rcases List.mem_or_eq_of_mem_set ha with ha | rfl
  ·exact bvT_in hp i a ha
  ·exact md_bdV hp
theorem getD_set {x:List Int} {i j:Nat} {a:Int} (hi:i<x.length):(x.set i a).getD j 0=if i=j then a else x.getD j 0:=by
 rw [List.getD_eq_getElem?_getD]
 by_cases e:i=j
 ·subst e; rw [if_pos rfl,List.getElem?_set_self hi]; rfl
 ·rw [if_neg e,List.getElem?_set_ne e,← List.getD_eq_getElem?_getD]
theorem bvT_piv {j:Nat} (h:RInv n R.length R (lv R)):∀ i,i<=R.length->∀ t,t<i->(bvT p n R j i).getD (lv R t) 0=(p - en R t j) % p
 | 0,_,t,ht=>by omega
 | i+1,hi,t,ht=>by
  unfold bvT
  rw [getD_set (by rw [bvT_len]; exact h.lt i (by omega))]
  by_cases e:i=t
  ·subst e; rw [if_pos rfl]
  ·have:=h.mono t i (by omega) (by omega)
   rw [if_neg (by omega)]
   exact bvT_piv h i (by omega) t (by omega)
theorem bvT_free {j q:Nat} (h:RInv n R.length R (lv R)) (hj:j<n):∀ i,i<=R.length->(∀ t,t<i->lv R t≠q)->(bvT p n R j i).getD q 0=if j=q then 1 else 0
 | 0,_,_=>by
  unfold bvT
  rw [getD_set (by simpa using hj)]
  by_cases e:j=q
  ·rw [if_pos e,if_pos e]
  ·rw [if_neg e,if_neg e,List.getD_eq_getElem?_getD,List.getElem?_replicate]
   split <;> rfl
 | i+1,hi,hq=>by
  unfold bvT
  rw [getD_set (by rw [bvT_len]; exact h.lt i (by omega)),if_neg (hq i (by omega))]
  exact bvT_free h hj i (by omega) fun t ht=>hq t (by omega)
theorem nbas_mat (hp:2<=p):MatW p n (nbasV p n R):=fun x hx=>by
 obtain ⟨j,_,rfl⟩:=List.mem_map.1 hx
 exact ⟨bvT_len _,bvT_in hp _⟩
theorem nbas_len:(nbasV p n R).length<=n:=by
 unfold nbasV freeV
 rw [List.length_map]
 exact Nat.le_trans (List.length_filter_le ..) (by simp)
theorem nbas_ok (hp:2<=p) (h:RInv n R.length R (lv R)):NBas p n R (lv R) (nbasV p n R):=by
 have hb:∀ j,j<n->pvs R.length (lv R) j=false->Cg p ((bvT p n R j R.length).getD j 0) 1∧(∀ i,i<R.length->Cg p ((bvT p n R j R.length).getD (lv R i) 0) (-en R i j))∧∀ q,q<n->q≠j->pvs R.length (lv R) q=false->Cg p ((bvT p n R j R.length).getD q 0) 0:=fun j hj hf=>by
  refine ⟨?_,fun i hi=>?_,fun q _ hne hfq=>?_⟩
  ·rw [bvT_free h hj _ (Nat.le_refl _) fun t ht=>pvs_f hf ht,if_pos rfl]; exact Cg.rf
  ·rw [bvT_piv h _ (Nat.le_refl _) i hi]
   exact Cg.md.trans ⟨1,by omega⟩
  ·rw [bvT_free h hj _ (Nat.le_refl _) fun t ht=>pvs_f hfq ht,if_neg (Ne.symm hne)]; exact Cg.rf
 have he:∀ t j,(freeV n R)[t]? =some j->∀ q,en (nbasV p n R) t q=(bvT p n R j R.length).getD q 0:=fun t j ht q=>by
  unfold en nbasV
  rw [getD_of (x:=bvT p n R j R.length) (by rw [List.getElem?_map,ht]; rfl)]
 have hl:(nbasV p n R).length=(freeV n R).length:=List.length_map ..
 refine ⟨fun j hj hf=>?_,fun t ht=>?_⟩
 ·have hm:j∈freeV n R:=List.mem_filter.2 ⟨List.mem_range.2 hj,by rw [hf]; rfl⟩
  obtain ⟨t,ht,e⟩:=List.getElem_of_mem hm
  have h1:(freeV n R)[t]? =some j:=by rw [List.getElem?_eq_getElem ht,e]
  refine ⟨t,by omega,?_⟩
  simp only [he t j h1]
  exact hb j hj hf
 ·obtain ⟨j,hj⟩:=get_lt (show t<(freeV n R).length by omega)
  have hm:=List.mem_filter.1 (List.mem_of_getElem? hj)
  have hjn:=List.mem_range.1 hm.1
  have hf:pvs R.length (lv R) j=false:=by simpa using hm.2
  refine ⟨j,hjn,hf,?_⟩
  simp only [he t j hj]
  exact hb j hjn hf
theorem nul_span {f:Nat->Int} (hp:isF p=true) (hm:MatW p n m):Span p n (nbasV p n (gj p n m)) f↔NullV p n m f:=by
 have hb:=isF_bd hp
 obtain ⟨⟨pv,h1⟩,h2⟩:=gj_rref hb.1 (invOK hp) hm
 have h3:=rinv_lead h1 (gj_mat hb.1 hm)
 refine (nbas_span h3 (nbas_ok hb.1 h3)).trans ⟨null_le fun i hi=>(h2 _).2 (span_row hi),null_le fun i hi=>(h2 _).1 (span_row hi)⟩
theorem P_fdNeg {x:Int} (hp:2<=p∧p<=97) (hx:0<=x∧x<p):L_spec_fdNeg p x=some ((p - x) % p):=by
 unfold L_spec_fdNeg
 rw [og_true (by omega),i64_lt (by omega) (by omega),Int.tmod_eq_emod_of_nonneg (by omega)]
theorem P_spNull (hp:isF p=true) (hm:MatW p n m) (hn:n<=1000) (hl:m.length<=100000):L_spec_spNull p (n:Int) m=some (nulV p n m):=by
 have hb:=isF_bd hp
 obtain ⟨⟨pv,h1⟩,_⟩:=gj_rref hb.1 (invOK hp) hm
 have hRm:=gj_mat (n:=n) hb.1 hm
 have h:=rinv_lead h1 hRm
 have hRl:(gj p n m).length<=n:=by
  have:=mono_len (k:=n) (u:=id) (fun i j h _=>h) h.mono
  refine Nat.le_of_not_lt fun hlt=>?_
  have hge:∀ i,i<(gj p n m).length->i<=lv (gj p n m) i:=by
   intro i
   induction i with
   | zero=>intro _; omega
   | succ i ih=>intro hi; have:=ih (by omega); have:=h.mono i (i+1) (by omega) hi; omega
  have:=hge n hlt
  have:=h.lt n hlt
  omega
 unfold L_spec_spNull nulV
 rw [P_spReduce hp hm (Nat.le_refl n) (by omega) hl,Option.bind_some,og_true (by omega),Int.toNat_natCast]
 generalize gj p n m=R at *
 have l1:loopM (fun s_:Nat×List Int=>L_spec_spNull_l1 (n:Int) s_.1 s_.2) 4611686018427387904 (0,List.replicate n 0)=some (ldT n R 0):=by
  refine vecloop (y:=ldT n R 0) (by simp [ldT]) (by simp; omega) (fun j hj z hz=>?_) ?_
  ·simp at hj
   try dsimp only
   unfold L_spec_spNull_l1
   rw [Int.toNat_natCast,dec_t (by omega),cond_true,hz,Option.bind_some,og_true (by omega)]
   simp [ldT]
  ·try dsimp only
   unfold L_spec_spNull_l1
   rw [Int.toNat_natCast,dec_f (by simp),cond_false]
 have hrow:∀ i,i<R.length->R[i]? =some (R.getD i [])∧VecW p n (R.getD i []):=fun i hi=>⟨by rw [List.getElem?_eq_getElem hi,getD_of (List.getElem?_eq_getElem hi)],hRm _ (getD_mem hi)⟩
 have l2:loopM (fun s_:Nat×List Int=>L_spec_spNull_l2 R s_.1 s_.2) 4611686018427387904 (0,ldT n R 0)=some (ldT n R R.length):=by
  refine loopM_det R.length (fun i=>(i,ldT n R i)) (by omega) _ rfl (fun i hi=>?_) ?_
  ·obtain ⟨g1,g2⟩:=hrow i hi
   have hlt:=h.lt i hi
   obtain ⟨x,hx⟩:=get_lt (m:=ldT n R i) (i:=lv R i) (by rw [ldT_len]; exact hlt)
   try dsimp only
   unfold L_spec_spNull_l2
   rw [dec_t (by omega),cond_true,g1,Option.bind_some,P_spLead _ (by rw [g2.1]; exact hn),Option.bind_some,getI_nat (by omega),Int.toNat_natCast,show (ldT n R i)[leadV (R.getD i [])]? =some x from hx,Option.bind_some,og_true (by omega)]; rfl
  ·try dsimp only
   unfold L_spec_spNull_l2
   rw [dec_f (by omega),cond_false]
 have l4:∀ j,j<n->loopM (fun s_:Nat×List Int=>L_spec_spNull_l4 R j p s_.1 s_.2) 4611686018427387904 (0,(List.replicate n 0).set j 1)=some (bvT p n R j R.length):=fun j hj=>by
  refine loopM_det R.length (fun i=>(i,bvT p n R j i)) (by omega) _ rfl (fun i hi=>?_) ?_
  ·obtain ⟨g1,g2⟩:=hrow i hi
   have hlt:=h.lt i hi
   obtain ⟨q1,q2,q3⟩:=getD_in g2 hj
   obtain ⟨x,hx⟩:=get_lt (m:=bvT p n R j i) (i:=lv R i) (by rw [bvT_len]; exact hlt)
   try dsimp only
   unfold L_spec_spNull_l4
   rw [dec_t (by omega),cond_true,g1,Option.bind_some,P_spLead _ (by rw [g2.1]; exact hn),Option.bind_some,q3,Option.bind_some,P_fdNeg hb ⟨q1,q2⟩,Option.bind_some,getI_nat (by omega),Int.toNat_natCast,show (bvT p n R j i)[leadV (R.getD i [])]? =some x from hx,Option.bind_some,og_true (by omega)]; rfl
  ·try dsimp only
   unfold L_spec_spNull_l4
   rw [dec_f (by omega),cond_false]
 have l3:loopM (fun s_:Nat×List (List Int)=>L_spec_spNull_l3 (n:Int) (ldT n R R.length) R p s_.1 s_.2) 4611686018427387904 (0,[])=some (nbasV p n R):=by
  refine loopM_det n (fun k=>(k,((List.range k).filter fun j=> !pvs R.length (lv R) j).map fun j=>bvT p n R j R.length)) (by omega) _ rfl (fun k hk=>?_) ?_
  ·obtain ⟨v,v1,v2⟩:=ldT_at h.lt hk R.length (Nat.le_refl _)
   have hle:(((List.range k).filter fun j=> !pvs R.length (lv R) j).map fun j=>bvT p n R j R.length).length<=k:=by
    rw [List.length_map]; exact Nat.le_trans (List.length_filter_le ..) (by simp)
   try dsimp only
   unfold L_spec_spNull_l3
   rw [dec_t (by omega),cond_true,v1,Option.bind_some,v2,List.range_succ,List.filter_append]
   cases hc:pvs R.length (lv R) k
   ·rw [cond_false,og_true (by omega),Int.toNat_natCast,List.getElem?_replicate,if_pos hk,Option.bind_some,l4 k hk,Option.bind_some,og_true (by omega),Option.bind_some,og_true (by omega)]
    simp [hc]
   ·rw [cond_true,Option.bind_some,og_true (by omega)]
    simp [hc]
  ·try dsimp only
   unfold L_spec_spNull_l3
   rw [dec_f (by omega),cond_false]; rfl
 rw [l1,Option.bind_some,l2,Option.bind_some,l3,Option.bind_some,P_spReduce hp (nbas_mat hb.1) (Nat.le_refl n) (by omega) (Nat.le_trans nbas_len (by omega)),Option.bind_some]
def trV (m:List (List Int)) (n:Nat):List (List Int):=(List.range n).map fun j=>m.map fun x=>x.getD j 0
def unV (n k:Nat):List Int:=(List.replicate n 0).set k 1
def idV (n:Nat):List (List Int):=(List.range n).map (unV n)
theorem P_transposed (hm:MatW p n m) (hn:n<=1000) (hl:m.length<=1000):L_impl_transposed m (n:Int)=some (trV m n):=by
 unfold L_impl_transposed
 have htl:(trV m n).length=n:=by simp [trV]
 have key:loopM (fun s_:Nat×List (List Int)=>L_impl_transposed_l1 (n:Int) m s_.1 s_.2) 4611686018427387904 (0,List.replicate n [])=some (trV m n):=by
  refine loopM_det n (fun j=>(j,(trV m n).take j++List.replicate ((trV m n).length - j) [])) (by omega) _ (by simp [htl]) (fun j hj=>?_) ?_
  ·have hx:(trV m n)[j]? =some (m.map fun x=>x.getD j 0):=by simp [trV,hj]
   have hg:=pfill_get (xs:=trV m n) (d:=([]:List Int)) (i:=j) (by omega)
   have hin:loopM (fun s_:Nat×List (List Int)=>L_impl_transposed_l2 m j s_.1 s_.2) 4611686018427387904 (0,((trV m n).take j++List.replicate ((trV m n).length - j) []).set j (List.replicate m.length 0))=some ((((trV m n).take j++List.replicate ((trV m n).length - j) []).set j (List.replicate m.length 0)).set j (m.map fun x:List Int=>x.getD j 0)):=by
    refine rowloop (r:=j) (x:=List.replicate m.length 0) (y:=m.map fun x=>x.getD j 0) (set_get hg) (by simp) (by simp; omega) (fun i hi z hz=>?_) ?_
    ·simp at hi
     have hr:=hm _ (List.getElem_mem hi)
     obtain ⟨_,_,q3⟩:=getD_in hr hj
     try dsimp only
     unfold L_impl_transposed_l2
     rw [dec_t (by omega),cond_true,List.getElem?_eq_getElem hi,Option.bind_some,set_get (set_get hg),Option.bind_some,q3,Option.bind_some,hz,Option.bind_some,og_true (by omega),List.set_set]
     simp
    ·try dsimp only
     unfold L_impl_transposed_l2
     rw [dec_f (by simp),cond_false]
   try dsimp only
   unfold L_impl_transposed_l1
   rw [Int.toNat_natCast,dec_t (by omega),cond_true,P_zeros (by omega),Option.bind_some,hg,Option.bind_some,Int.toNat_natCast,hin,Option.bind_some,og_true (by omega),List.set_set,pfill_set hx]
  ·try dsimp only
   unfold L_impl_transposed_l1
   rw [Int.toNat_natCast,dec_f (by omega),cond_false,htl,Nat.sub_self,List.replicate_zero,List.append_nil,List.take_of_length_le (by omega)]
 rw [og_true (by omega),Int.toNat_natCast,key,Option.bind_some]
theorem P_unit {k:Nat} (hk:k<n) (hn:n<=1000):L_impl_unit (n:Int) (k:Int)=some (unV n k):=by
 unfold L_impl_unit
 rw [P_zeros (by omega),Option.bind_some,getI_nat (by omega),Int.toNat_natCast,Int.toNat_natCast,List.getElem?_replicate,if_pos hk,Option.bind_some]; rfl
theorem P_identityRows (hn:n<=1000):L_impl_identityRows (n:Int)=some (idV n):=by
 unfold L_impl_identityRows
 have key:loopM (fun s_:Nat×List (List Int)=>L_impl_identityRows_l1 (n:Int) s_.1 s_.2) 4611686018427387904 (0,[])=some (idV n):=by
  refine loopM_det n (fun k=>(k,(List.range k).map (unV n))) (by omega) _ rfl (fun k hk=>?_) ?_
  ·try dsimp only
   unfold L_impl_identityRows_l1
   rw [dec_t (by omega),cond_true,P_unit hk hn,Option.bind_some,og_true (by simp; omega),og_true (by omega),List.range_succ,List.map_append]; rfl
  ·try dsimp only
   unfold L_impl_identityRows_l1
   rw [dec_f (by omega),cond_false]; rfl
 rw [key,Option.bind_some]
theorem unV_vec {k:Nat} (hp:2<=p):VecW p n (unV n k):=⟨by simp [unV],fun a ha=>by
 rcases List.mem_or_eq_of_mem_set ha with ha | rfl
 ·obtain rfl:=(List.mem_replicate.1 ha).2; omega
 ·omega⟩
theorem unV_at {k j:Nat} (hk:k<n):(unV n k).getD j 0=if j=k then 1 else 0:=by
 unfold unV
 rw [getD_set (by simpa using hk)]
 by_cases e:k=j
 ·rw [if_pos e,if_pos e.symm]
 ·rw [if_neg e,if_neg (Ne.symm e),List.getD_eq_getElem?_getD,List.getElem?_replicate]
  split <;> rfl
def wiV (m:List (List Int)) (n:Nat):List (List Int):=(List.range n).map fun j=>(m.map fun x=>x.getD j 0)++unV n j
theorem P_orthogonal (hp:isF p=true) (hm:MatW p n m) (hn:n<=1000) (hl:m.length<=1000):L_impl_orthogonal p m (n:Int)=some (nulV p n m):=by
 have hb:=isF_bd hp
 have hwl:(wiV m n).length=n:=by simp [wiV]
 have hcol:∀ j,VecW p m.length (m.map fun x=>x.getD j 0):=fun j=>⟨by simp,fun a ha=>by
  obtain ⟨x,hx,rfl⟩:=List.mem_map.1 ha
  by_cases hj:j<n
  ·obtain ⟨q1,q2,_⟩:=getD_in (hm x hx) hj; exact ⟨q1,q2⟩
  ·have:=(hm x hx).1
   rw [List.getD_eq_getElem?_getD,List.getElem?_eq_none (by omega)]; simp; omega⟩
 have hW:MatW p (m.length+n) (wiV m n):=fun x hx=>by
  obtain ⟨j,_,rfl⟩:=List.mem_map.1 hx
  refine ⟨by rw [List.length_append,(hcol j).1,(unV_vec (k:=j) (n:=n) hb.1).1],fun a ha=>?_⟩
  rcases List.mem_append.1 ha with ha | ha
  ·exact (hcol j).2 a ha
  ·exact (unV_vec hb.1).2 a ha
 have e1:rdW m.length (wiV m n)=trV m n:=by
  unfold rdW wiV trV
  rw [List.map_map]
  exact List.map_congr_left fun j _=>List.take_left' (by simp)
 have e2:alW m.length (wiV m n)=idV n:=by
  unfold alW wiV idV
  rw [List.map_map]
  exact List.map_congr_left fun j _=>List.drop_left' (by simp)
 obtain ⟨g1,g2,g3⟩:=gjT_ok hb.1 hW m.length
 have hred:=P_reduction hp hW (Nat.le_refl m.length) (show m.length<=m.length+n by omega) (by omega) (by omega)
 rw [e1,e2] at hred
 have hmat:MatW p n (((gjT p (wiV m n) m.length).2.drop (gjT p (wiV m n) m.length).1).map (·.drop m.length)):=fun x hx=>by
  obtain ⟨y,hy,rfl⟩:=List.mem_map.1 hx
  have:=(g1 y (List.mem_of_mem_drop hy)).dr (u:=m.length)
  rwa [Nat.add_sub_cancel_left] at this
 have hdr:(alW m.length (gjT p (wiV m n) m.length).2).drop (gjT p (wiV m n) m.length).1=((gjT p (wiV m n) m.length).2.drop (gjT p (wiV m n) m.length).1).map (·.drop m.length):=by
  unfold alW; rw [List.map_drop]
 have htm:MatW p m.length (trV m n):=fun x hx=>by
  obtain ⟨j,_,rfl⟩:=List.mem_map.1 hx
  exact hcol j
 have htl:(trV m n).length=n:=by simp [trV]
 have hil:(idV n).length=n:=by simp [idV]
 have key:gj p n (((gjT p (wiV m n) m.length).2.drop (gjT p (wiV m n) m.length).1).map (·.drop m.length))=nulV p n m:=by
  refine gj_same hb.1 (invOK hp) hmat (nbas_mat hb.1) fun f=>?_
  refine (left_null (A:=m) hb.1 (invOK hp) hW hwl rfl (fun t ht i hi=>?_) fun t ht j hj=>?_).trans (nul_span hp hm).symm
  ·unfold en
   have h1:(wiV m n)[t]? =some ((m.map fun x=>x.getD t 0)++unV n t):=by simp [wiV,ht]
   rw [getD_of h1,List.getD_eq_getElem?_getD,List.getElem?_append_left (by simpa using hi),List.getElem?_map,List.getElem?_eq_getElem hi,getD_of (m:=m) (List.getElem?_eq_getElem hi)]; rfl
  ·unfold en
   have h1:(wiV m n)[t]? =some ((m.map fun x=>x.getD t 0)++unV n t):=by simp [wiV,ht]
   rw [getD_of h1,List.getD_eq_getElem?_getD,List.getElem?_append_right (by simp),List.length_map,Nat.add_sub_cancel_left,← List.getD_eq_getElem?_getD,unV_at ht]
 unfold L_impl_orthogonal L_impl_kernel
 rw [P_transposed hm hn hl,Option.bind_some,P_clones htm (by omega) (by omega),Option.bind_some,htl,P_identityRows hn,Option.bind_some,hred,Option.bind_some]
 have a1:(rdW m.length (gjT p (wiV m n) m.length).2).length=n:=by simp only [rdW,List.length_map]; omega
 have a2:(alW m.length (gjT p (wiV m n) m.length).2).length=(idV n).length:=by simp only [alW,List.length_map]; omega
 dsimp only
 rw [og_true a1,og_true a2,og_true (by omega),hdr,P_reduced hp hmat (by omega) (by simp; omega),Option.bind_some,key,Option.bind_some]
end
end Go.Proofs.YtkaollfdhoaihaaDoor
namespace Go.Proofs.YtkaollfdhoaihaaDoor
structure Sq (p:Int) (n m:Nat) (M:List (List Int)):Prop where
 len:M.length=n
 row:∀ r∈M,r.length=m∧∀ x∈r,0<=x∧x<p
theorem Sq.at {p:Int} {n m:Nat} {M:List (List Int)} (h:Sq p n m M) {i j:Int} (hi:0<=i∧i<n) (hj:0<=j∧j<m):∃ r x,getI M i=some r∧getI r j=some x∧(0<=x∧x<p)∧∀ y,(0<=y∧y<p)->Sq p n m (M.set i.toNat (r.set j.toNat y)):=by
 have h1:i.toNat<M.length:=by rw [h.len]; omega
 obtain ⟨r1,r2⟩:=h.row _ (List.getElem_mem h1)
 have h2:j.toNat<(M[i.toNat]).length:=by rw [r1]; omega
 refine ⟨M[i.toNat],(M[i.toNat])[j.toNat],by rw [getI_nat hi.1]; exact List.getElem?_eq_getElem h1,by rw [getI_nat hj.1]; exact List.getElem?_eq_getElem h2,r2 _ (List.getElem_mem h2),fun y hy=>⟨by rw [List.length_set,h.len],fun r hr=>?_⟩⟩
 rcases List.mem_or_eq_of_mem_set hr with hr | rfl
 ·exact h.row r hr
 ·refine ⟨by rw [List.length_set,r1],fun x hx=>?_⟩
  rcases List.mem_or_eq_of_mem_set hx with hx | rfl
  ·exact r2 x hx
  ·exact hy
theorem Sq.zero {p:Int} (hp:0<p) (n m:Nat):Sq p n m (List.replicate n (List.replicate m 0)) :=
 ⟨by simp,fun r hr=>by
  obtain rfl:=(List.mem_replicate.1 hr).2
  exact ⟨by simp,fun x hx=>by obtain rfl:=(List.mem_replicate.1 hx).2; omega⟩⟩
theorem P_mxZero {n m:Int} (hn:0<=n∧n<=1000) (hm:0<=m∧m<=1000):L_spec_mxZero n m=some (List.replicate n.toNat (List.replicate m.toNat 0)):=by
 unfold L_spec_mxZero
 rw [og_true (by omega)]
 have h:loopM (fun s_:Nat×List (List Int)=>L_spec_mxZero_l1 n m s_.1 s_.2) 4611686018427387904 (0,List.replicate n.toNat ([]:List Int))=some (List.replicate n.toNat (List.replicate m.toNat 0)):=by
  refine loopM_det n.toNat (fun i=>(i,(List.replicate n.toNat (List.replicate m.toNat (0:Int))).take i++List.replicate ((List.replicate n.toNat (List.replicate m.toNat (0:Int))).length - i) [])) (by omega) _ (by simp) (fun i hi=>?_) ?_
  ·have hx:(List.replicate n.toNat (List.replicate m.toNat (0:Int)))[i]? =some (List.replicate m.toNat 0):=by simp [List.getElem?_replicate,hi]
   try dsimp only
   unfold L_spec_mxZero_l1
   rw [dec_t (by omega),cond_true,og_true (by omega),pfill_get (by simpa using hi),Option.bind_some,og_true (by omega),pfill_set hx]
  ·try dsimp only
   unfold L_spec_mxZero_l1
   rw [dec_f (by omega),cond_false]
   simp
 rw [h]; rfl
end Go.Proofs.YtkaollfdhoaihaaDoor
namespace Go.Proofs.YtkaollfdhoaihaaDoor
def isBrP (p nodes:Int) (e:Int×Int×Int):Bool:=inR e.1 0 (nodes - 1)&&(inR e.2.1 0 (nodes - 1)&&(e.1 !=e.2.1&&inR e.2.2 1 (p - 1)))
def goodP (p n:Int) (bs:List (Int×Int×Int)) (l r:List Int):Bool :=
 isF p&&(inR n 1 20&&(decide (bs.length<=60)&&(decide (l.length<=6)&&(decide (r.length<=6)&&((l.all fun x=>inR x 0 (n - 1))&&((r.all fun x=>inR x 0 (n - 1))&&bs.all (isBrP p n)))))))
structure GoodN (p n:Int) (bs:List (Int×Int×Int)) (l r:List Int):Prop where
 fp:isF p=true
 n1:1<=n
 n2:n<=20
 lb:bs.length<=60
 ll:l.length<=6
 lr:r.length<=6
 il:∀ x∈l,0<=x∧x<n
 ir:∀ x∈r,0<=x∧x<n
 ib:∀ e∈bs,(0<=e.1∧e.1<n)∧(0<=e.2.1∧e.2.1<n)∧e.1≠e.2.1∧1<=e.2.2∧e.2.2<p
theorem goodP_iff {p n:Int} {bs:List (Int×Int×Int)} {l r:List Int}:goodP p n bs l r=true↔GoodN p n bs l r:=by
 simp only [goodP,isBrP,Bool.and_eq_true,decide_eq_true_eq,List.all_eq_true,inR_true,bne_iff_ne,ne_eq]
 constructor
 ·rintro ⟨h1,⟨h2,h3⟩,h4,h5,h6,h7,h8,h9⟩
  refine ⟨h1,h2,h3,h4,h5,h6,fun x hx=>?_,fun x hx=>?_,fun e he=>?_⟩
  ·have:=h7 x hx; omega
  ·have:=h8 x hx; omega
  ·obtain ⟨a,b,c,d⟩:=h9 e he
   exact ⟨by omega,by omega,c,by omega⟩
 ·intro h
  refine ⟨h.fp,⟨h.n1,h.n2⟩,h.lb,h.ll,h.lr,fun x hx=>?_,fun x hx=>?_,fun e he=>?_⟩
  ·have:=h.il x hx; omega
  ·have:=h.ir x hx; omega
  ·obtain ⟨a,b,c,d⟩:=h.ib e he
   exact ⟨by omega,by omega,c,by omega⟩
theorem P_isBranch (a b g p n:Int) (hp:2<=p∧p<=97) (hn:1<=n∧n<=20):L_impl_Branch_isBranch a b g p n=some (isBrP p n (a,b,g)):=by
 unfold L_impl_Branch_isBranch isBrP
 rw [i64_lt (by omega) (by omega),i64_lt (by omega) (by omega),P_within,P_within,P_within]
 simp only [Option.bind_some]
 cases inR a 0 (n - 1) <;> cases inR b 0 (n - 1) <;> cases a !=b <;> rfl
theorem P_anyBranch (p n:Int) (bs xs:List (Int×Int×Int)) (l r:List Int) (hp:2<=p∧p<=97) (hn:1<=n∧n<=20) (hx:xs.length<=1099511627776) :
  L_slices_ContainsFunc_impl_Branch_impl_Branch_for_impl_isNetwork_1 xs p n bs l r=some (xs.any fun e=> !isBrP p n e):=by
 unfold L_slices_ContainsFunc_impl_Branch_impl_Branch_for_impl_isNetwork_1 L_slices_IndexFunc_impl_Branch_impl_Branch_for_impl_isNetwork_1
 have:=loopM_any (body:=fun s_:Nat=>L_slices_IndexFunc_impl_Branch_impl_Branch_for_impl_isNetwork_1_l1 xs p n bs l r s_) xs (fun e=> !isBrP p n e) (.next ()) (fun i=>.out (i:Int)) (F:=4611686018427387904) (by omega) (fun i x h=>by
   have:=getN_lt h
   unfold L_slices_IndexFunc_impl_Branch_impl_Branch_for_impl_isNetwork_1_l1 L_impl_isNetwork_1
   rw [dec_t (by omega),cond_true,h,Option.bind_some,P_isBranch _ _ _ _ _ hp hn,Option.bind_some,Option.bind_some,og_true (by omega)]
   cases isBrP p n x <;> rfl) (by
   unfold L_slices_IndexFunc_impl_Branch_impl_Branch_for_impl_isNetwork_1_l1
   rw [dec_f (by omega),cond_false])
 rcases this with ⟨h1,i,hi,h2⟩ | ⟨h1,h2⟩
 ·rw [h2,h1]
  show some (decide (0<=(i:Int)))=_
  rw [dec_t (by omega)]
 ·rw [h2,h1]; rfl
theorem P_isNetwork (p n:Int) (bs:List (Int×Int×Int)) (l r:List Int) (hb:bs.length<=1099511627776) (hl:l.length<=1099511627776) (hr:r.length<=1099511627776):L_impl_isNetwork p n bs l r=some (goodP p n bs l r):=by
 unfold L_impl_isNetwork L_impl_isField goodP
 rw [Option.bind_some,P_within]
 cases hp:isF p
 ·rfl
 cases hn:inR n 1 20
 ·rfl
 have hp':=isF_bd hp
 have hn':=inR_true.1 hn
 simp only [Option.bind_some,Bool.not_true,cond_false,Bool.true_and]
 rw [P_areBelow l n (by omega) hl,P_areBelow r n (by omega) hr,P_anyBranch p n bs bs l r hp' hn' hb]
 by_cases h1:bs.length<=60
 rotate_left
 ·rw [dec_t (by omega),dec_f h1]; rfl
 rw [dec_f (by omega),dec_t h1]
 by_cases h2:l.length<=6
 rotate_left
 ·rw [dec_t (by omega),dec_f h2]; rfl
 rw [dec_f (by omega),dec_t h2]
 by_cases h3:r.length<=6
 rotate_left
 ·rw [dec_t (by omega),dec_f h3]; rfl
 rw [dec_f (by omega),dec_t h3]
 simp only [Option.bind_some,cond_false,Bool.true_and,any_notP]
 cases l.all fun x=>inR x 0 (n - 1)
 ·rfl
 cases r.all fun x=>inR x 0 (n - 1) <;> rfl
theorem P_nwGood (p n:Int) (bs:List (Int×Int×Int)) (l r:List Int) (hb:bs.length<=1099511627776) (hl:l.length<=1099511627776) (hr:r.length<=1099511627776):L_spec_nwGood p n bs l r=some (goodP p n bs l r):=by
 unfold L_spec_nwGood goodP
 rw [P_fdGood,Option.bind_some,P_l1In]
 cases hp:isF p
 ·rfl
 cases hn:inR n 1 20
 ·rfl
 have hp':=isF_bd hp
 have hn':=inR_true.1 hn
 simp only [Option.bind_some,Bool.not_true,cond_false,Bool.true_and]
 rw [i64_lt (by omega) (by omega),P_l1All l _ _ hl,P_l1All r _ _ hr]
 by_cases h1:bs.length<=60
 rotate_left
 ·rw [dec_t (by omega),dec_f h1]; rfl
 rw [dec_f (by omega),dec_t h1]
 by_cases h2:l.length<=6
 rotate_left
 ·rw [dec_t (by omega),dec_f h2]; rfl
 rw [dec_f (by omega),dec_t h2]
 by_cases h3:r.length<=6
 rotate_left
 ·rw [dec_t (by omega),dec_f h3]; rfl
 rw [dec_f (by omega),dec_t h3]
 simp only [Option.bind_some,cond_false,Bool.true_and]
 cases l.all fun x=>inR x 0 (n - 1)
 ·rfl
 cases r.all fun x=>inR x 0 (n - 1)
 ·rfl
 simp only [Bool.not_true,cond_false,Option.bind_some,Bool.true_and]
 rw [loopM_all bs (isBrP p n) (.next ()) (.out false) (by omega) (fun i x h=>?_) ?_,seq_all]
 ·unfold L_spec_nwGood_l1
  rw [dec_f (by omega),cond_false]
 ·have:=getN_lt h
  unfold L_spec_nwGood_l1 isBrP
  rw [dec_t (by omega),cond_true,h,Option.bind_some,i64_lt (by omega) (by omega),i64_lt (by omega) (by omega),P_l1In,P_l1In,P_l1In,og_true (by omega)]
  simp only [Option.bind_some]
  cases inR x.1 0 (n - 1)
  ·rfl
  cases inR x.2.1 0 (n - 1)
  ·rfl
  rw [bne]
  cases x.1==x.2.1
  ·cases inR x.2.2 1 (p - 1) <;> rfl
  ·rfl
end Go.Proofs.YtkaollfdhoaihaaDoor
namespace Go.Proofs.YtkaollfdhoaihaaDoor
theorem md_bd {p x:Int} (hp:2<=p∧p<=97):0<=x % p∧x % p<p:=⟨Int.emod_nonneg x (by omega),Int.emod_lt_of_pos x (by omega)⟩
theorem P_lap_l1 {n:Int} (hn:0<=n∧n<=1000):loopM (fun s_:Nat×List (List Int)=>L_impl_Network_laplacian_l1 n s_.1 s_.2) 4611686018427387904 (0,List.replicate n.toNat ([]:List Int))=some (List.replicate n.toNat (List.replicate n.toNat 0)):=by
 refine loopM_det n.toNat (fun i=>(i,(List.replicate n.toNat (List.replicate n.toNat (0:Int))).take i++List.replicate ((List.replicate n.toNat (List.replicate n.toNat (0:Int))).length - i) [])) (by omega) _ (by simp) (fun i hi=>?_) ?_
 ·have hx:(List.replicate n.toNat (List.replicate n.toNat (0:Int)))[i]? =some (List.replicate n.toNat 0):=by simp [List.getElem?_replicate,hi]
  try dsimp only
  unfold L_impl_Network_laplacian_l1
  rw [dec_t (by omega),cond_true,P_zeros (by omega),Option.bind_some,pfill_get (by simpa using hi),Option.bind_some,og_true (by omega),pfill_set hx]
 ·try dsimp only
  unfold L_impl_Network_laplacian_l1
  rw [dec_f (by omega),cond_false]
  simp
theorem P_lapBoth {p n:Int} {bs:List (Int×Int×Int)} {l r:List Int} (h:GoodN p n bs l r):∃ M,L_spec_nwLaplacian p n bs l r=some M∧L_impl_Network_laplacian n bs l r p=some M∧Sq p n.toNat n.toNat M:=by
 have hp:=isF_bd h.fp
 have n1:=h.n1
 have n2:=h.n2
 have lb:=h.lb
 have key:=loopM_same (b1:=fun s_:Nat×List (List Int)=>L_spec_nwLaplacian_l1 bs p s_.1 s_.2) (b2:=fun s_:Nat×List (List Int)=>L_impl_Network_laplacian_l2 bs p s_.1 s_.2) (Post:=fun M=>Sq p n.toNat n.toNat M) bs.length (fun i s=>s.1=i∧Sq p n.toNat n.toNat s.2) (F:=4611686018427387904) (by omega) (s0:=(0,List.replicate n.toNat (List.replicate n.toNat 0))) ⟨rfl,Sq.zero (by omega) _ _⟩ (fun i s hi hI=>.inl ?_) (fun s hI=>?_)
 ·obtain ⟨M,k1,k2,k3⟩:=key
  refine ⟨M,?_,?_,k3⟩
  ·unfold L_spec_nwLaplacian
   rw [P_mxZero (by omega) (by omega),Option.bind_some,k1]; rfl
  ·unfold L_impl_Network_laplacian
   rw [og_true (by omega),P_lap_l1 (by omega),Option.bind_some,k2]; rfl
 ·obtain ⟨s1,M⟩:=s
  obtain ⟨rfl,hM⟩:=hI
  have hx:=List.getElem?_eq_getElem hi
  obtain ⟨h1,h2,_,h3⟩:=h.ib _ (List.getElem_mem hi)
  generalize bs[s1]=e at hx h1 h2 h3
  have ha:0<=e.1∧e.1<(n.toNat:Int):=by omega
  have hb:0<=e.2.1∧e.2.1<(n.toNat:Int):=by omega
  obtain ⟨r1,x1,g1,f1,q1,w1⟩:=hM.at ha ha
  have W1:=w1 ((x1+e.2.2) % p) (md_bd hp)
  obtain ⟨r2,x2,g2,f2,q2,w2⟩:=W1.at hb hb
  have W2:=w2 ((x2+e.2.2) % p) (md_bd hp)
  obtain ⟨r3,x3,g3,f3,q3,w3⟩:=W2.at ha hb
  have W3:=w3 ((x3 - e.2.2) % p) (md_bd hp)
  obtain ⟨r4,x4,g4,f4,q4,w4⟩:=W3.at hb ha
  have W4:=w4 ((x4 - e.2.2) % p) (md_bd hp)
  refine ⟨(s1+1,_),?_,?_,rfl,W4⟩
  ·try dsimp only
   unfold L_spec_nwLaplacian_l1
   rw [dec_t (by omega),cond_true,hx,Option.bind_some,g1,Option.bind_some,f1,Option.bind_some,P_fdAdd hp q1 (by omega),Option.bind_some,g2,Option.bind_some,f2,Option.bind_some,P_fdAdd hp q2 (by omega),Option.bind_some,
    g3,Option.bind_some,f3,Option.bind_some,P_fdSub hp q3 (by omega),Option.bind_some,g4,Option.bind_some,f4,Option.bind_some,P_fdSub hp q4 (by omega),Option.bind_some,og_true (by omega)]
  ·try dsimp only
   unfold L_impl_Network_laplacian_l2
   rw [dec_t (by omega),cond_true,hx,Option.bind_some,g1,Option.bind_some,f1,Option.bind_some,i64_lt (by omega) (by omega),P_mod hp,Option.bind_some,g2,Option.bind_some,f2,Option.bind_some,i64_lt (by omega) (by omega),P_mod hp,Option.bind_some,
    g3,Option.bind_some,f3,Option.bind_some,i64_lt (by omega) (by omega),P_mod hp,Option.bind_some,g4,Option.bind_some,f4,Option.bind_some,i64_lt (by omega) (by omega),P_mod hp,Option.bind_some,og_true (by omega)]
 ·obtain ⟨s1,M⟩:=s
  obtain ⟨hs,hM⟩:=hI
  have hs:s1=bs.length:=hs
  subst hs
  refine ⟨M,?_,?_,hM⟩
  ·try dsimp only
   unfold L_spec_nwLaplacian_l1
   rw [dec_f (by omega),cond_false]
  ·try dsimp only
   unfold L_impl_Network_laplacian_l2
   rw [dec_f (by omega),cond_false]
end Go.Proofs.YtkaollfdhoaihaaDoor
namespace Go.Proofs.YtkaollfdhoaihaaDoor
def endV (l:List Int) (k:Nat) (a:Int):List Int:=l.map fun t=>if t=(k:Int) then a else 0
def eqnV (p:Int) (l r:List Int) (k:Nat) (row:List Int):List Int:=row++endV l k (p - 1)++endV r k 1
def sysV (p:Int) (M:List (List Int)) (l r:List Int):List (List Int):=M.mapIdx (eqnV p l r)
def fromV (a k:Nat):List Int:=(List.range k).map fun i:Nat=>(a:Int)+(i:Int)
def ordP (n:Nat) (l r:List Int):List Int:=l++fromV n l.length++r++fromV (n+l.length) r.length
section
variable {p:Int} {n:Nat} {M:List (List Int)} {l r:List Int}
theorem endV_len {k:Nat} {a:Int}:(endV l k a).length=l.length:=List.length_map ..
theorem endV_in {k:Nat} {a:Int} (ha:0<=a∧a<p):inV p (endV l k a):=fun b hb=>by
 obtain ⟨t,_,rfl⟩:=List.mem_map.1 hb
 split <;> omega
theorem eqn_vec {k:Nat} {row:List Int} (hp:2<=p) (hr:VecW p n row):VecW p (n+l.length+r.length) (eqnV p l r k row):=by
 refine ⟨by simp [eqnV,endV_len,hr.1]; omega,fun a ha=>?_⟩
 rcases List.mem_append.1 ha with ha | ha
 ·rcases List.mem_append.1 ha with ha | ha
  ·exact hr.2 a ha
  ·exact endV_in (by omega) a ha
 ·exact endV_in (by omega) a ha
theorem sys_mat (hp:2<=p) (hM:MatW p n M):MatW p (n+l.length+r.length) (sysV p M l r):=fun x hx=>by
 obtain ⟨i,hi,rfl⟩:=List.mem_mapIdx.1 hx
 exact eqn_vec hp (hM _ (List.getElem_mem hi))
theorem sys_len:(sysV p M l r).length=M.length:=by simp [sysV]
theorem sys_get {k:Nat} {row:List Int} (h:M[k]? =some row):(sysV p M l r)[k]? =some (eqnV p l r k row):=by
 unfold sysV
 rw [List.getElem?_mapIdx,h]; rfl
theorem endV_take {k i:Nat} {a:Int} (hi:i<l.length):endV (l.take (i+1)) k a=endV (l.take i) k a++[if l[i]=(k:Int) then a else 0]:=by
 unfold endV
 rw [List.take_add_one,List.getElem?_eq_getElem hi,List.map_append]; rfl
theorem P_nwEqn (hp:2<=p∧p<=97) {k:Nat} {row:List Int} (hrow:row.length<=1000) (hl:l.length<=100) (hr:r.length<=100) :
  loopM (fun s_:Nat×List Int=>L_spec_nwSolved_l2 l k p s_.1 s_.2) 4611686018427387904 (0,row)=some (row++endV l k (p - 1)) ∧
  loopM (fun s_:Nat×List Int=>L_spec_nwSolved_l3 r k s_.1 s_.2) 4611686018427387904 (0,row++endV l k (p - 1))=some (eqnV p l r k row):=by
 constructor
 ·refine loopM_det l.length (fun i=>(i,row++endV (l.take i) k (p - 1))) (by omega) _ (by simp [endV]) (fun i hi=>?_) ?_
  ·have hle:(row++endV (l.take i) k (p - 1)).length<=1100:=by rw [List.length_append,endV_len,List.length_take]; omega
   try dsimp only
   unfold L_spec_nwSolved_l2
   rw [dec_t (by omega),cond_true,List.getElem?_eq_getElem hi,Option.bind_some,endV_take hi,i64_lt (n:=p - 1) (by omega) (by omega)]
   by_cases e:l[i]=(k:Int)
   ·rw [beq_iff_eq.2 e,cond_true,og_true (by omega),Option.bind_some,og_true (by omega),if_pos e,List.append_assoc]
   ·rw [beq_eq_false_iff_ne.2 e,cond_false,og_true (by omega),Option.bind_some,og_true (by omega),if_neg e,List.append_assoc]
  ·try dsimp only
   unfold L_spec_nwSolved_l2
   rw [dec_f (by omega),cond_false,List.take_length]
 ·refine loopM_det r.length (fun i=>(i,(row++endV l k (p - 1))++endV (r.take i) k 1)) (by omega) _ (by simp [endV]) (fun i hi=>?_) ?_
  ·have hle:((row++endV l k (p - 1))++endV (r.take i) k 1).length<=1200:=by rw [List.length_append,List.length_append,endV_len,endV_len,List.length_take]; omega
   try dsimp only
   unfold L_spec_nwSolved_l3
   rw [dec_t (by omega),cond_true,List.getElem?_eq_getElem hi,Option.bind_some,endV_take hi]
   by_cases e:r[i]=(k:Int)
   ·rw [beq_iff_eq.2 e,cond_true,og_true (by omega),Option.bind_some,og_true (by omega),if_pos e,List.append_assoc (row++endV l k (p - 1))]
   ·rw [beq_eq_false_iff_ne.2 e,cond_false,og_true (by omega),Option.bind_some,og_true (by omega),if_neg e,List.append_assoc (row++endV l k (p - 1))]
  ·try dsimp only
   unfold L_spec_nwSolved_l3
   rw [dec_f (by omega),cond_false,List.take_length]; rfl
theorem P_nwEqns (hp:2<=p∧p<=97) (hM:MatW p n M) (hn:n<=100) (hm:M.length<=100) (hl:l.length<=100) (hr:r.length<=100) :
  loopM (fun s_:Nat×List (List Int)=>L_spec_nwSolved_l1 M l p r s_.1 s_.2) 4611686018427387904 (0,[])=some (sysV p M l r):=by
 refine loopM_det M.length (fun i=>(i,(sysV p M l r).take i)) (by omega) _ (by simp) (fun i hi=>?_) ?_
 ·have hg:=List.getElem?_eq_getElem hi
  have hx:=(hM _ (List.getElem_mem hi)).1
  obtain ⟨q1,q2⟩:=P_nwEqn (k:=i) (l:=l) (r:=r) hp (row:=M[i]) (by omega) hl hr
  try dsimp only
  unfold L_spec_nwSolved_l1
  rw [dec_t (by omega),cond_true,hg,Option.bind_some,P_l1Own _ (by omega),Option.bind_some,q1,Option.bind_some,q2,Option.bind_some,og_true (by rw [List.length_take]; omega),Option.bind_some,og_true (by omega),List.take_add_one,sys_get hg]; rfl
 ·try dsimp only
  unfold L_spec_nwSolved_l1
  rw [dec_f (by omega),cond_false,List.take_of_length_le (by rw [sys_len]; exact Nat.le_refl _)]
theorem P_joined2 (a b:List Int) (ha:a.length<=1000) (hb:b.length<=1000):L_impl_joined [a,b]=some (a++b):=by
 unfold L_impl_joined
 have h:loopM (fun s_:Nat×List Int=>L_impl_joined_l1 [a,b] s_.1 s_.2) 4611686018427387904 (0,[])=some (a++b):=by
  refine loopM_det 2 (fun i=>(i,([a,b].take i).flatten)) (by omega) _ rfl (fun i hi=>?_) ?_
  ·match i,hi with
   | 0,_ =>
    try dsimp only
    unfold L_impl_joined_l1
    rw [dec_t (by simp),cond_true,show ([a,b]:List (List Int))[0]? =some a from rfl,Option.bind_some,og_true (by simp; omega),og_true (by omega)]; simp
   | 1,_ =>
    try dsimp only
    unfold L_impl_joined_l1
    rw [dec_t (by simp),cond_true,show ([a,b]:List (List Int))[1]? =some b from rfl,Option.bind_some,og_true (by simp; omega),og_true (by omega)]; simp
  ·try dsimp only
   unfold L_impl_joined_l1
   rw [dec_f (by simp),cond_false]; simp
 rw [h,Option.bind_some]
theorem P_ends {body:Nat×List Int->Option (Ctl (Nat×List Int) (List Int))} {k:Nat} {a:Int} (pre post:List Int) (hl:l.length<=1000)
  (hs:∀ i (h:i<l.length) (z:List Int),z.length=pre.length+l.length+post.length->body (i,z)=some (.next (i+1,if l[i]=(k:Int) then z.set (pre.length+i) a else z)))
  (he:∀ z,body (l.length,z)=some (.out z)):loopM body 4611686018427387904 (0,pre++List.replicate l.length 0++post)=some (pre++endV l k a++post):=by
 refine loopM_det l.length (fun i=>(i,pre++(endV (l.take i) k a++List.replicate (l.length - i) 0)++post)) (by omega) _ (by simp [endV]) (fun i hi=>?_) ?_
 ·have hel:(endV (l.take i) k a).length=i:=by rw [endV_len,List.length_take]; omega
  rw [hs i hi _ (by simp [endV_len]; omega),endV_take hi]
  have er:List.replicate (l.length - i) (0:Int)=0 :: List.replicate (l.length - (i+1)) 0:=by rw [show l.length - i=(l.length - (i+1))+1 by omega,List.replicate_succ]
  congr 3
  by_cases e:l[i]=(k:Int)
  ·rw [if_pos e,if_pos e,er,List.append_assoc,List.set_append_right _ _ (by omega),Nat.add_sub_cancel_left,List.append_assoc,List.set_append_right _ _ (by omega),hel,Nat.sub_self]
   simp
  ·rw [if_neg e,if_neg e,er]; simp
 ·rw [he,List.take_length,Nat.sub_self]; simp
theorem P_balances (hp:2<=p∧p<=97) (hM:MatW p n M) (hn:n<=100) (hm:M.length<=100) (hl:l.length<=100) (hr:r.length<=100) :
  loopM (fun s_:Nat×List (List Int)=>L_impl_Network_balances_l1 M l r (n:Int) p s_.1 s_.2) 4611686018427387904 (0,[])=some (sysV p M l r):=by
 refine loopM_det M.length (fun i=>(i,(sysV p M l r).take i)) (by omega) _ (by simp) (fun i hi=>?_) ?_
 ·have hg:=List.getElem?_eq_getElem hi
  have hx:=(hM _ (List.getElem_mem hi)).1
  have q1:loopM (fun s_:Nat×List Int=>L_impl_Network_balances_l2 l i (n:Int) p s_.1 s_.2) 4611686018427387904 (0,M[i]++List.replicate (l.length+r.length) 0)=some (M[i]++endV l i (p - 1)++List.replicate r.length 0):=by
   have h:=P_ends (l:=l) (k:=i) (a:=p - 1) (body:=fun s_:Nat×List Int=>L_impl_Network_balances_l2 l i (n:Int) p s_.1 s_.2) M[i] (List.replicate r.length 0) (by omega) (fun j hj z hz=>?_) (fun z=>?_)
   ·rwa [List.append_assoc M[i] (List.replicate l.length 0),List.replicate_append_replicate] at h
   ·try dsimp only
    unfold L_impl_Network_balances_l2
    rw [dec_t (by omega),cond_true,List.getElem?_eq_getElem hj,Option.bind_some]
    by_cases e:l[j]=(i:Int)
    ·have hz':getI z ((n:Int)+(j:Int))=some (z[n+j]'(by simp at hz; omega)):=by rw [getI_nat (by omega),show ((n:Int)+(j:Int)).toNat=n+j by omega,List.getElem?_eq_getElem (by simp at hz; omega)]
     rw [beq_iff_eq.2 e,cond_true,i64_lt (n:=(n:Int)+(j:Int)) (by omega) (by omega),hz',Option.bind_some,Option.bind_some,i64_lt (n:=p - 1) (by omega) (by omega),show ((n:Int)+(j:Int)).toNat=n+j by omega,Option.bind_some,og_true (by omega),if_pos e,hx]
    ·rw [beq_eq_false_iff_ne.2 e,cond_false,Option.bind_some,og_true (by omega),if_neg e]
   ·try dsimp only
    unfold L_impl_Network_balances_l2
    rw [dec_f (by omega),cond_false]
  have q2:loopM (fun s_:Nat×List Int=>L_impl_Network_balances_l3 r i (n:Int) l s_.1 s_.2) 4611686018427387904 (0,M[i]++endV l i (p - 1)++List.replicate r.length 0)=some (eqnV p l r i M[i]):=by
   have h:=P_ends (l:=r) (k:=i) (a:=1) (body:=fun s_:Nat×List Int=>L_impl_Network_balances_l3 r i (n:Int) l s_.1 s_.2) (M[i]++endV l i (p - 1)) [] (by omega) (fun j hj z hz=>?_) (fun z=>?_)
   ·rwa [List.append_nil,List.append_nil] at h
   ·have hz0:z.length=n+l.length+r.length:=by simp [endV_len] at hz; omega
    try dsimp only
    unfold L_impl_Network_balances_l3
    rw [dec_t (by omega),cond_true,List.getElem?_eq_getElem hj,Option.bind_some]
    by_cases e:r[j]=(i:Int)
    ·have hz':getI z ((n:Int)+(l.length:Int)+(j:Int))=some (z[n+l.length+j]'(by omega)):=by rw [getI_nat (by omega),show ((n:Int)+(l.length:Int)+(j:Int)).toNat=n+l.length+j by omega,List.getElem?_eq_getElem (by omega)]
     rw [beq_iff_eq.2 e,cond_true,i64_lt (n:=(n:Int)+((l.length:Nat):Int)) (by omega) (by omega),i64_lt (n:=(n:Int)+(l.length:Int)+(j:Int)) (by omega) (by omega),hz',Option.bind_some,Option.bind_some,show ((n:Int)+(l.length:Int)+(j:Int)).toNat=n+l.length+j by omega,Option.bind_some,og_true (by omega),if_pos e,List.length_append,endV_len,hx]
    ·rw [beq_eq_false_iff_ne.2 e,cond_false,Option.bind_some,og_true (by omega),if_neg e]
   ·try dsimp only
    unfold L_impl_Network_balances_l3
    rw [dec_f (by omega),cond_false]
  try dsimp only
  unfold L_impl_Network_balances_l1
  rw [dec_t (by omega),cond_true,hg,Option.bind_some,i64_lt (n:=((l.length:Nat):Int)+((r.length:Nat):Int)) (by omega) (by omega),P_zeros (by omega),Option.bind_some,show (((l.length:Nat):Int)+((r.length:Nat):Int)).toNat=l.length+r.length by omega,
   P_joined2 _ _ (by omega) (by simp; omega),Option.bind_some,q1,Option.bind_some,q2,Option.bind_some,og_true (by rw [List.length_take]; omega),Option.bind_some,og_true (by omega),List.take_add_one,sys_get hg]; rfl
 ·try dsimp only
  unfold L_impl_Network_balances_l1
  rw [dec_f (by omega),cond_false,List.take_of_length_le (by rw [sys_len]; exact Nat.le_refl _)]
theorem Sq.mat {N:List (List Int)} {a b:Nat} (h:Sq p a b N):MatW p b N:=fun x hx=>⟨(h.row x hx).1,fun y hy=>(h.row x hx).2 y hy⟩
theorem P_solved {nn:Int} {bs:List (Int×Int×Int)} (G:GoodN p nn bs l r):∃ M,MatW p nn.toNat M∧M.length=nn.toNat∧L_impl_Network_balances nn bs l r p=some (sysV p M l r) ∧
  L_spec_nwSolved p nn bs l r=some (nulV p (nn.toNat+l.length+r.length) (sysV p M l r)):=by
 have hp:=isF_bd G.fp
 have n1:=G.n1
 have n2:=G.n2
 have hll:=G.ll
 have hlr:=G.lr
 obtain ⟨M,m1,m2,m3⟩:=P_lapBoth G
 obtain ⟨n,rfl⟩:=Int.eq_ofNat_of_zero_le (show 0<=nn by omega)
 rw [Int.toNat_natCast] at m3 ⊢
 have hM:=m3.mat
 have hMl:=m3.len
 refine ⟨M,hM,hMl,?_,?_⟩
 ·unfold L_impl_Network_balances
  rw [m2,Option.bind_some,P_balances hp hM (by omega) (by omega) (by omega) (by omega),Option.bind_some]
 ·unfold L_spec_nwSolved
  rw [m1,Option.bind_some,P_nwEqns hp hM (by omega) (by omega) (by omega) (by omega),Option.bind_some,i64_lt (n:=(n:Int)+((l.length:Nat):Int)) (by omega) (by omega),i64_lt (by omega) (by omega),
   show (n:Int)+((l.length:Nat):Int)+((r.length:Nat):Int)=((n+l.length+r.length:Nat):Int) by omega,P_spNull G.fp (sys_mat hp.1 hM) (by omega) (by rw [sys_len]; omega),Option.bind_some]
theorem cols_from {v:List Int} {a k:Nat} (h:a+k<=v.length):colsV (fromV a k) v=(v.drop a).take k:=by
 apply List.ext_getElem
 ·simp [colsV,fromV]; omega
 ·intro i h1 h2
  simp only [colsV,fromV,List.getElem_map,List.getElem_range,List.getElem_take,List.getElem_drop]
  rw [show ((a:Int)+(i:Int)).toNat=a+i by omega]
  exact getD_of (List.getElem?_eq_getElem (by simp at h2; omega))
theorem P_nwPair {nn:Int} {bs:List (Int×Int×Int)} {v:List Int} (h1:1<=nn∧nn<=20) (hll:l.length<=6) (hlr:r.length<=6) (il:∀ x∈l,0<=x∧x<nn) (ir:∀ x∈r,0<=x∧x<nn) (hv:v.length=nn.toNat+l.length+r.length) :
  L_spec_nwPair nn bs l r v=some (colsV (ordP nn.toNat l r) v):=by
 obtain ⟨n,rfl⟩:=Int.eq_ofNat_of_zero_le (show 0<=nn by omega)
 rw [Int.toNat_natCast] at hv ⊢
 have c1:(colsV l v).length=l.length:=List.length_map ..
 have c2:(colsV r v).length=r.length:=List.length_map ..
 unfold L_spec_nwPair
 rw [P_hgListC hv (fun q hq=>by have:=il q hq; omega) (by omega),Option.bind_some,i64_lt (n:=(n:Int)+((l.length:Nat):Int)) (by omega) (by omega),show ((n:Int)+((l.length:Nat):Int)).toNat=n+l.length by omega,Int.toNat_natCast,
  og_true (by omega),og_true (by simp; omega),P_hgListC hv (fun q hq=>by have:=ir q hq; omega) (by omega),Option.bind_some,og_true (by simp; omega),og_true (by omega),og_true (by simp; omega)]
 unfold ordP
 rw [cols_app,cols_app,cols_app,cols_from (by omega),cols_from (by omega)]
 congr 2
 ·congr 2
  rw [List.take_drop]
 ·exact (List.take_of_length_le (by simp; omega)).symm
theorem ordP_in {nn:Int} (h1:1<=nn) (il:∀ x∈l,0<=x∧x<nn) (ir:∀ x∈r,0<=x∧x<nn):InO (nn.toNat+l.length+r.length) (ordP nn.toNat l r):=by
 intro q hq
 unfold ordP fromV at hq
 simp only [List.mem_append,List.mem_map,List.mem_range] at hq
 rcases hq with ((h | ⟨a,ha,rfl⟩) | h) | ⟨a,ha,rfl⟩
 ·have:=il q h; omega
 ·omega
 ·have:=ir q h; omega
 ·omega
theorem ordP_len {n:Nat}:(ordP n l r).length=2*l.length+2*r.length:=by simp [ordP,fromV]; omega
end
end Go.Proofs.YtkaollfdhoaihaaDoor
namespace Go.Proofs.YtkaollfdhoaihaaDoor
theorem P_szBranchS (xs:List (Int×Int×Int)) {v:Int} (hv:0<=v∧v<=1048576) (hx:xs.length<=9223372036854775807):L_laws_szBranchS xs v=some (szV v xs.length):=by
 unfold L_laws_szBranchS szV
 rw [i64_lt (by omega) (by omega)]
 by_cases h:v<xs.length
 ·rw [dec_t (by omega),if_pos h]; rfl
 ·rw [dec_f (by omega),if_neg h]; rfl
theorem P_toBranchS (xs:List (Int×Int×Int)) (hx:xs.length<=1073741824):L_laws_toBranchS xs=some xs:=by
 unfold L_laws_toBranchS
 rw [og_true (by omega)]
 have h:loopM (fun s_:Nat×List (Int×Int×Int)=>L_laws_toBranchS_l1 xs s_.1 s_.2) 4611686018427387904 (0,List.replicate xs.length ((0,0,0):Int×Int×Int))=some xs:=by
  refine loopM_det xs.length (fun i=>(i,xs.take i++List.replicate (xs.length - i) (0,0,0))) (by omega) xs (by simp) (fun i hi=>?_) ?_
  ·have hx:=List.getElem?_eq_getElem hi
   try dsimp only
   unfold L_laws_toBranchS_l1 L_laws_toBranch
   rw [dec_t (by omega),cond_true,hx,Option.bind_some,Option.bind_some,pfill_get hi,Option.bind_some,og_true (by omega),pfill_set hx]
  ·try dsimp only
   unfold L_laws_toBranchS_l1
   rw [dec_f (by omega),cond_false]
   simp
 rw [h]; rfl
theorem P_eqBranchS (xs:List (Int×Int×Int)) (hx:xs.length<=1073741824):L_laws_eqBranchS xs xs=some true:=by
 unfold L_laws_eqBranchS
 have h:loopM (fun s_:Nat=>L_laws_eqBranchS_l1 xs xs s_) 4611686018427387904 0=some (.next ()):=by
  refine loopM_det xs.length (fun i=>i) (by omega) _ rfl (fun i hi=>?_) ?_
  ·have hx:=List.getElem?_eq_getElem hi
   try dsimp only
   unfold L_laws_eqBranchS_l1 L_laws_eqBranch
   rw [dec_t (by omega),cond_true,hx,Option.bind_some,Option.bind_some]
   simp only [bne_self_eq_false,cond_false,Option.bind_some,Bool.not_true]
   rw [og_true (by omega)]
  ·try dsimp only
   unfold L_laws_eqBranchS_l1
   rw [dec_f (by omega),cond_false]
 rw [h,bne_self_eq_false,cond_false]; rfl
theorem P_markBranchS (xs:List (Int×Int×Int)) {v:Int} (hv:0<=v∧v<=1152921504606846976) (hx:xs.length<=1073741824) :
  ∃ ys,L_laws_markBranchS xs v=some (ys,v+3*xs.length)∧ys.length=xs.length:=by
 refine ⟨(List.range xs.length).map fun j:Nat=>(v+3*(j:Int),v+3*(j:Int)+1,v+3*(j:Int)+1+1),?_,by simp⟩
 ·unfold L_laws_markBranchS
  have h:loopM (fun s_:Int×Nat×List (Int×Int×Int)=>L_laws_markBranchS_l1 s_.1 s_.2.1 s_.2.2) 4611686018427387904 (v,0,xs)=some (v+3*xs.length,(List.range xs.length).map fun j:Nat=>(v+3*(j:Int),v+3*(j:Int)+1,v+3*(j:Int)+1+1)):=by
   refine loopM_det xs.length (fun i=>(v+3*i,i,(List.range i).map (fun j:Nat=>(v+3*(j:Int),v+3*(j:Int)+1,v+3*(j:Int)+1+1))++xs.drop i)) (by omega) _ (by simp) (fun i hi=>?_) ?_
   ·have hl:((List.range i).map fun j:Nat=>(v+3*(j:Int),v+3*(j:Int)+1,v+3*(j:Int)+1+1)).length=i:=by simp
    try dsimp only
    unfold L_laws_markBranchS_l1
    have e1:IntKind.i64.wrap (v+3*i+1)=v+3*i+1:=i64_lt (by omega) (by omega)
    have e2:IntKind.i64.wrap (v+3*i+1+1)=v+3*i+1+1:=i64_lt (by omega) (by omega)
    have e3:IntKind.i64.wrap (v+3*i+1+1+1)=v+3*i+1+1+1:=i64_lt (by omega) (by omega)
    rw [dec_t (by rw [List.length_append,hl,List.length_drop]; omega),cond_true,pover_get hi hl,Option.bind_some,e1,e2,e3,pover_set hi hl,pover_get' hl,Option.bind_some,pover_set' hl,pover_get' hl,Option.bind_some,pover_set' hl,og_true (by omega),List.range_succ,List.map_append]
    simp [Int.mul_add,Int.add_assoc]
   ·try dsimp only
    unfold L_laws_markBranchS_l1
    rw [dec_f (by simp),cond_false]
    simp
  rw [h]; rfl
theorem P_szNetwork (n:Int) (b:List (Int×Int×Int)) (l r:List Int) {v:Int} (hv:0<=v∧v<=1048576) (hb:b.length<=9223372036854775807) (hl:l.length<=9223372036854775807) (hr:r.length<=9223372036854775807):L_laws_szNetwork n b l r v=some (szV v (b.length+l.length+r.length)):=by
 unfold L_laws_szNetwork
 rw [P_szBranchS b hv hb,Option.bind_some]
 by_cases h1:v<b.length
 ·rw [show szV v b.length= -1 from if_pos h1,show szV v (b.length+l.length+r.length)= -1 from if_pos (by omega)]; rfl
 rw [show szV v b.length=v - b.length from if_neg h1,dec_f (by omega),cond_false,P_szIntS l (by omega) hl,Option.bind_some]
 by_cases h2:v - b.length<l.length
 ·rw [show szV (v - b.length) l.length= -1 from if_pos h2,show szV v (b.length+l.length+r.length)= -1 from if_pos (by omega)]; rfl
 rw [show szV (v - b.length) l.length=v - b.length - l.length from if_neg h2,dec_f (by omega),cond_false,P_szIntS r (by omega) hr,Option.bind_some]
 by_cases h3:v - b.length - l.length<r.length
 ·rw [show szV (v - b.length - l.length) r.length= -1 from if_pos h3,show szV v (b.length+l.length+r.length)= -1 from if_pos (by omega)]; rfl
 rw [show szV (v - b.length - l.length) r.length=v - b.length - l.length - r.length from if_neg h3,dec_f (by omega),cond_false,show szV v (b.length+l.length+r.length)=v - b.length - l.length - r.length from by unfold szV; rw [if_neg (by omega)]; omega]
theorem P_toNetwork (n:Int) (b:List (Int×Int×Int)) (l r:List Int) (hb:b.length<=1073741824) (hl:l.length<=1073741824) (hr:r.length<=1073741824):L_laws_toNetwork n b l r=some (n,b,l,r):=by
 unfold L_laws_toNetwork
 rw [P_toBranchS b hb,P_toIntS l hl,P_toIntS r hr]; rfl
theorem P_eqNetwork (n:Int) (b:List (Int×Int×Int)) (l r:List Int) (hb:b.length<=1073741824) (hl:l.length<=1073741824) (hr:r.length<=1073741824):L_laws_eqNetwork n b l r n b l r=some true:=by
 unfold L_laws_eqNetwork
 rw [P_eqBranchS b hb,P_eqIntS l hl,P_eqIntS r hr,bne_self_eq_false]; rfl
theorem P_markNetwork (n:Int) (b:List (Int×Int×Int)) (l r:List Int) {v:Int} (hv:0<=v∧v<=576460752303423488) (hb:b.length<=1073741824) (hl:l.length<=1073741824) (hr:r.length<=1073741824) :
  ∃ b' l' r',∃ u:Int,v<=u∧u<=v+8589934592∧L_laws_markNetwork n b l r v=some (b',l',r',u)∧b'.length=b.length∧l'.length=l.length∧r'.length=r.length:=by
 obtain ⟨b',m1,n1⟩:=P_markBranchS b (v:=v) (by omega) hb
 obtain ⟨l',m2,n2,k2⟩:=P_markIntS l (v:=v+3*b.length) (by omega) hl
 obtain ⟨r',m3,n3,k3⟩:=P_markIntS r (v:=v+3*b.length+l.length) (by omega) hr
 refine ⟨b',l',r',v+3*b.length+l.length+r.length,by omega,by omega,?_,n1,n2,n3⟩
 ·unfold L_laws_markNetwork
  rw [m1,Option.bind_some,og_true n1,m2,Option.bind_some,og_true n2,m3,Option.bind_some,og_true n3]
end Go.Proofs.YtkaollfdhoaihaaDoor
namespace Go.Proofs.YtkaollfdhoaihaaDoor
theorem P_markRelation (l r:Int) (xss:List (List Int)) {v:Int} (hv:0<=v∧v<=576460752303423488) (hn:xss.length<=1048576) (hb:RowsB 1048576 xss) :
  ∃ yss,∃ u:Int,v<=u∧u<=v+1099511627776∧L_laws_markRelation l r xss v=some (yss,u)∧yss.length=xss.length∧L_laws_heldIntSS yss v=some u:=by
 obtain ⟨yss,u,h1,h2,h3,h4,h5⟩:=P_markIntSS xss hv hn hb
 refine ⟨yss,u,h1,h2,?_,h4,h5⟩
 unfold L_laws_markRelation
 rw [h3,Option.bind_some,og_true h4]
end Go.Proofs.YtkaollfdhoaihaaDoor
namespace Go.Proofs.YtkaollfdhoaihaaDoor
section
variable {p nn:Int} {bs:List (Int×Int×Int)} {l r:List Int}
theorem P_from {a k:Nat} (ha:a<=1000) (hk:k<=1000):L_impl_from (a:Int) (k:Int)=some (fromV a k):=by
 unfold L_impl_from
 rw [P_upTo hk,Option.bind_some]
 have h:loopM (fun s_:Nat×List Int=>L_impl_from_l1 (upV k) (a:Int) s_.1 s_.2) 4611686018427387904 (0,upV k)=some (fromV a k):=by
  refine vecloop (y:=fromV a k) (by simp [fromV,upV]) (by simp [upV]; omega) (fun j hj z hz=>?_) ?_
  ·simp [upV] at hj
   try dsimp only
   unfold L_impl_from_l1
   rw [dec_t (by simp [upV]; omega),cond_true,hz,Option.bind_some,og_true (by omega),i64_lt (by simp [upV]; omega) (by simp [upV]; omega)]
   simp [upV,fromV,Int.add_comm]
  ·try dsimp only
   unfold L_impl_from_l1
   rw [dec_f (by simp),cond_false]
 rw [h,Option.bind_some]
theorem P_joined4 (a b c d:List Int) (ha:a.length<=100) (hb:b.length<=100) (hc:c.length<=100) (hd:d.length<=100):L_impl_joined [a,b,c,d]=some (a++b++c++d):=by
 unfold L_impl_joined
 have h:loopM (fun s_:Nat×List Int=>L_impl_joined_l1 [a,b,c,d] s_.1 s_.2) 4611686018427387904 (0,[])=some (a++b++c++d):=by
  refine loopM_det 4 (fun i=>(i,([a,b,c,d].take i).flatten)) (by omega) _ rfl (fun i hi=>?_) ?_
  ·match i,hi with
   | 0,_ =>
    try dsimp only
    unfold L_impl_joined_l1
    rw [dec_t (by simp),cond_true,show ([a,b,c,d]:List (List Int))[0]? =some a from rfl,Option.bind_some,og_true (by simp; omega),og_true (by omega)]; simp
   | 1,_ =>
    try dsimp only
    unfold L_impl_joined_l1
    rw [dec_t (by simp),cond_true,show ([a,b,c,d]:List (List Int))[1]? =some b from rfl,Option.bind_some,og_true (by simp; omega),og_true (by omega)]; simp
   | 2,_ =>
    try dsimp only
    unfold L_impl_joined_l1
    rw [dec_t (by simp),cond_true,show ([a,b,c,d]:List (List Int))[2]? =some c from rfl,Option.bind_some,og_true (by simp; omega),og_true (by omega)]; simp
   | 3,_ =>
    try dsimp only
    unfold L_impl_joined_l1
    rw [dec_t (by simp),cond_true,show ([a,b,c,d]:List (List Int))[3]? =some d from rfl,Option.bind_some,og_true (by simp; omega),og_true (by omega)]; simp
  ·try dsimp only
   unfold L_impl_joined_l1
   rw [dec_f (by simp),cond_false]; simp
 rw [h,Option.bind_some]
theorem nul_mat {n:Nat} {m:List (List Int)} (hp:2<=p):MatW p n (nulV p n m):=gj_mat hp (nbas_mat hp)
theorem nul_len {n:Nat} {m:List (List Int)} (hp:2<=p):(nulV p n m).length<=n:=by
 unfold nulV
 have h:=gjT_ok hp (nbas_mat (n:=n) (R:=gj p n m) hp) n
 rw [gj_len hp (nbas_mat hp)]
 have:=nbas_len (p:=p) (n:=n) (R:=gj p n m)
 omega
theorem P_nrlBoth (hb:bs.length<=1099511627776) (hl:l.length<=1099511627776) (hr:r.length<=1099511627776) :
  ∃ v,L_spec_NetworkRelation p nn bs l r=some v∧L_impl_NetworkRelation p nn bs l r=some v∧v.2.2.2.length<=1048576∧RowsB 1048576 v.2.2.2:=by
 unfold L_spec_NetworkRelation L_impl_NetworkRelation
 rw [P_nwGood p nn bs l r hb hl hr,P_isNetwork p nn bs l r hb hl hr]
 cases hg:goodP p nn bs l r
 ·exact ⟨_,rfl,rfl,by simp,fun x hx=>by cases hx⟩
 have G:=goodP_iff.1 hg
 have hp:=isF_bd G.fp
 have n1:=G.n1
 have n2:=G.n2
 have hll:=G.ll
 have hlr:=G.lr
 obtain ⟨M,hM,hMl,hbal,hsol⟩:=P_solved G
 have hS:=sys_mat (l:=l) (r:=r) hp.1 hM
 have hN:=nul_mat (p:=p) (n:=nn.toNat+l.length+r.length) (m:=sysV p M l r) hp.1
 have hNl:=nul_len (p:=p) (n:=nn.toNat+l.length+r.length) (m:=sysV p M l r) hp.1
 have hio:=ordP_in (nn:=nn) n1 G.il G.ir
 have hol:=ordP_len (n:=nn.toNat) (l:=l) (r:=r)
 have hW:MatW p (2*l.length+2*r.length) ((nulV p (nn.toNat+l.length+r.length) (sysV p M l r)).map (colsV (ordP nn.toNat l r))):=by
  have:=cols_mat (o:=ordP nn.toNat l r) hp.1 hN
  rwa [hol] at this
 have hgl:=gj_len (n:=2*l.length+2*r.length) hp.1 hW
 have hgo:=gjT_ok hp.1 hW (2*l.length+2*r.length)
 have hgm:=gj_mat (n:=2*l.length+2*r.length) hp.1 hW
 refine ⟨(true,((2*l.length:Nat):Int),((2*r.length:Nat):Int),gj p (2*l.length+2*r.length) ((nulV p (nn.toNat+l.length+r.length) (sysV p M l r)).map (colsV (ordP nn.toNat l r)))),?_,?_,?_,fun x hx=>?_⟩
 ·rw [Option.bind_some,Bool.not_true,cond_false]
  unfold L_spec_nwRelation L_spec_rlOf
  rw [hsol,Option.bind_some]
  have h1:loopM (fun s_:Nat×List (List Int)=>L_spec_nwRelation_l1 (nulV p (nn.toNat+l.length+r.length) (sysV p M l r)) nn bs l r s_.1 s_.2) 4611686018427387904 (0,[])=some ((nulV p (nn.toNat+l.length+r.length) (sysV p M l r)).map (colsV (ordP nn.toNat l r))):=by
   have h:=loopM_app (body:=fun s_:Nat×List (List Int)=>L_spec_nwRelation_l1 (nulV p (nn.toNat+l.length+r.length) (sysV p M l r)) nn bs l r s_.1 s_.2) (nulV p (nn.toNat+l.length+r.length) (sysV p M l r)) (colsV (ordP nn.toNat l r)) [] (F:=4611686018427387904) (by omega) ((nulV p (nn.toNat+l.length+r.length) (sysV p M l r)).map (colsV (ordP nn.toNat l r))) (fun i x h=>?_) ?_
   ·simpa using h
   ·have:=getN_lt h
    try dsimp only
    unfold L_spec_nwRelation_l1
    rw [dec_t (by omega),cond_true,h,Option.bind_some,P_nwPair ⟨n1,n2⟩ hll hlr G.il G.ir (hN x (List.mem_of_getElem? h)).1,Option.bind_some,og_true (by simp; omega),og_true (by omega)]
   ·try dsimp only
    unfold L_spec_nwRelation_l1
    rw [dec_f (by omega),cond_false,List.nil_append]
  rw [h1,Option.bind_some,i64_lt (n:=2*((l.length:Nat):Int)) (by omega) (by omega),i64_lt (n:=2*((r.length:Nat):Int)) (by omega) (by omega),i64_lt (by omega) (by omega),show 2*((l.length:Nat):Int)+2*((r.length:Nat):Int)=((2*l.length+2*r.length:Nat):Int) by omega,
   P_spReduce G.fp hW (Nat.le_refl _) (by omega) (by simp; omega)]
  rfl
 ·obtain ⟨n,hn⟩:=Int.eq_ofNat_of_zero_le (show 0<=nn by omega)
  rw [Option.bind_some,Bool.not_true,cond_false]
  rw [hbal,i64_lt (n:=nn+((l.length:Nat):Int)) (by omega) (by omega),i64_lt (n:=nn+((l.length:Nat):Int)+((r.length:Nat):Int)) (by omega) (by omega),i64_lt (n:=2*((l.length:Nat):Int)) (by omega) (by omega),i64_lt (n:=2*((r.length:Nat):Int)) (by omega) (by omega)]
  have e1:L_impl_from nn ((l.length:Nat):Int)=some (fromV nn.toNat l.length):=by rw [hn,Int.toNat_natCast]; exact P_from (by omega) (by omega)
  have e2:L_impl_from (nn+((l.length:Nat):Int)) ((r.length:Nat):Int)=some (fromV (nn.toNat+l.length) r.length):=by
   rw [show nn+((l.length:Nat):Int)=((nn.toNat+l.length:Nat):Int) by omega]; exact P_from (by omega) (by omega)
  have e3:L_impl_orthogonal p (sysV p M l r) (nn+((l.length:Nat):Int)+((r.length:Nat):Int))=some (nulV p (nn.toNat+l.length+r.length) (sysV p M l r)):=by
   rw [show nn+((l.length:Nat):Int)+((r.length:Nat):Int)=((nn.toNat+l.length+r.length:Nat):Int) by omega]; exact P_orthogonal G.fp hS (by omega) (by rw [sys_len]; omega)
  rw [e1,Option.bind_some,e2,Option.bind_some,P_joined4 _ _ _ _ (by omega) (by simp [fromV]; omega) (by omega) (by simp [fromV]; omega),Option.bind_some,Option.bind_some,e3,Option.bind_some]
  rw [show l++fromV nn.toNat l.length++r++fromV (nn.toNat+l.length) r.length=ordP nn.toNat l r from rfl,P_chosenAll hN hio (by omega) (by omega),Option.bind_some]
  unfold L_impl_relation
  rw [i64_lt (by omega) (by omega),show 2*((l.length:Nat):Int)+2*((r.length:Nat):Int)=((2*l.length+2*r.length:Nat):Int) by omega,P_reduced G.fp hW (by omega) (by simp; omega)]
  rfl
 ·show (gj p _ _).length<=_
  have:=hgo.2
  simp only [List.length_map] at this
  omega
 ·have:=(hgm x hx).1
  omega
theorem P_lawNrl (h1:bs.length<=9223372036854775807) (h2:l.length<=9223372036854775807) (h3:r.length<=9223372036854775807):L_laws_FnExactNetworkRelation p nn bs l r=some true:=by
 unfold L_laws_FnExactNetworkRelation
 rw [P_szNetwork nn bs l r (by omega) (by omega) (by omega) (by omega),Option.bind_some]
 by_cases e0:(1048576:Int)<((bs.length+l.length+r.length:Nat):Int)
 ·rw [show szV 1048576 (bs.length+l.length+r.length)= -1 from if_pos e0]; rfl
 rw [show szV 1048576 (bs.length+l.length+r.length)=1048576 - ((bs.length+l.length+r.length:Nat):Int) from if_neg e0,dec_f (by omega),cond_false]
 have h1:bs.length<=1073741824:=by omega
 have h2:l.length<=1073741824:=by omega
 have h3:r.length<=1073741824:=by omega
 obtain ⟨v,hs,hi,v1,v2⟩:=P_nrlBoth (p:=p) (nn:=nn) (bs:=bs) (l:=l) (r:=r) (by omega) (by omega) (by omega)
 obtain ⟨vo,va,vb,vm⟩:=v
 obtain ⟨b1,l1,r1,u1,c1,d1,m1,x1,y1,z1⟩:=P_markNetwork nn bs l r (v:=1) (by omega) h1 h2 h3
 obtain ⟨w,u2,c2,d2,m2,x2,k2⟩:=P_markRelation va vb vm (v:=1) (by omega) v1 v2
 have k3:L_laws_heldRelation va vb w 1=some u2:=by
  unfold L_laws_heldRelation
  rw [k2,Option.bind_some,dec_f (by omega),cond_false]
 simp only [P_toNetwork nn bs l r h1 h2 h3,hs,hi,Option.bind_some,P_eqRelation va vb vm v1 v2,P_eqNetwork nn bs l r h1 h2 h3,m1,m2,k3,og_true x1,og_true y1,og_true z1,og_true x2,bne_self_eq_false,Bool.not_true,cond_false,dec_f (show ¬ (u1<0) by omega),dec_f (show ¬ (u2<0) by omega)]
end
end Go.Proofs.YtkaollfdhoaihaaDoor
namespace Go.Proofs.YtkaollfdhoaihaaDoor
open Go.RowKit Go.Deep
theorem networkRelation_walk (p:Int) (nNodes:Int) (nBranches:List (Int×Int×Int)) (A_nBranches:Option Addr) (c_nBranches:Nat) (l_nBranches:List Addr) (nLeft:List (Int)) (A_nLeft:Option Addr) (c_nLeft:Nat) (l_nLeft:List Addr) (nRight:List (Int)) (A_nRight:Option Addr) (c_nRight:Nat) (l_nRight:List Addr) (w:World) (_i_p: -9223372036854775808<=p∧p<=9223372036854775807) (_i_nNodes: -9223372036854775808<=nNodes∧nNodes<=9223372036854775807) (s_nBranches:Sl (fun _=>True) w (.pair .int (.pair .int .int)) A_nBranches c_nBranches nBranches l_nBranches) (_i_nBranches:Ty.In (.slice (.pair .int (.pair .int .int))) nBranches) (s_nLeft:Sl (fun _=>True) w .int A_nLeft c_nLeft nLeft l_nLeft) (_i_nLeft:Ty.In (.slice .int) nLeft) (s_nRight:Sl (fun _=>True) w .int A_nRight c_nRight nRight l_nRight) (_i_nRight:Ty.In (.slice .int) nRight) (tab:Tab w) :
  Calls Tryd.prog 3 #[.int .i64 p,.agg #[.int .i64 nNodes,.slice A_nBranches nBranches.length c_nBranches,.slice A_nLeft nLeft.length c_nLeft,.slice A_nRight nRight.length c_nRight]] w fun e w'=>e=.returned (.bool true)∧Below w.heap.size w w':=by
 have hl:L_laws_FnExactNetworkRelation p nNodes nBranches nLeft nRight=some true:=P_lawNrl (sl_len s_nBranches).2 (sl_len s_nLeft).2 (sl_len s_nRight).2
 refine (ok_laws_FnExactNetworkRelation hl w (fun _=>True) [.int .i64 p,.agg #[.int .i64 nNodes,.slice A_nBranches nBranches.length c_nBranches,.slice A_nLeft nLeft.length c_nLeft,.slice A_nRight nRight.length c_nRight]] (fun w' hb=>tab.below hb) ⟨_,_,rfl,rfl,⟨_,_,rfl,⟨_,rfl,⟨_,_,rfl,rfl,⟨_,_,rfl,⟨A_nBranches,c_nBranches,l_nBranches,rfl,s_nBranches⟩,⟨_,_,rfl,⟨A_nLeft,c_nLeft,l_nLeft,rfl,s_nLeft⟩,⟨_,_,rfl,⟨A_nRight,c_nRight,l_nRight,rfl,s_nRight⟩,rfl⟩⟩⟩⟩⟩,rfl⟩⟩).mono ?_
 rintro e w' ⟨u,rfl,hb,us,ls,h1,_,rfl⟩
 obtain ⟨u1,us1,rfl,h2,_,rfl,rfl⟩:=h1
 obtain rfl:u1=.bool true:=h2
 exact ⟨rfl,hb⟩
end Go.Proofs.YtkaollfdhoaihaaDoor
