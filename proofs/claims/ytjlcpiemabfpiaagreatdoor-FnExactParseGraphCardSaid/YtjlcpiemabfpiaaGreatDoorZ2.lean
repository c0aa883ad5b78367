/- Lemmas on the program and on partial functions that stand in place of its code (part 2); no condition beyond those that each one states. -/
import Derived.Test.YtjlcpiemabfpiaaGreatDoorZ1
import Derived.Laws.CopyRow
import Derived.Laws.IdiomCopy
namespace Go.Proofs.YtjlcpiemabfpiaaGreatDoor
section
open Go.RowKit Go.Deep
theorem Gr (off:Nat):∀ (us:List Value) (n:Nat) (cs:Array Value),off+n+us.length<=cs.size ->
  ((us.zipIdx n).foldl (fun (cs:Array Value) (p:Value×Nat)=>cs.setIfInBounds (off+p.2) p.1) cs).size=cs.size /\
  ∀ j,((us.zipIdx n).foldl (fun (cs:Array Value) (p:Value×Nat)=>cs.setIfInBounds (off+p.2) p.1) cs)[j]? =if off+n<=j/\j<off+n+us.length then us[j - (off+n)]? else cs[j]?
 | [],n,cs,_=>by
  refine ⟨rfl,fun j=>?_⟩;rw [if_neg (by simp)];rfl
 | u :: r,n,cs,h=>by
  simp only [List.zipIdx_cons,List.foldl_cons];simp only [List.length_cons] at h;obtain ⟨h1,h2⟩:=Gr off r (n+1) (cs.setIfInBounds (off+n) u) (by rw [Array.size_setIfInBounds];omega);refine ⟨by rw [h1,Array.size_setIfInBounds],fun j=>?_⟩;rw [h2 j];by_cases e:j=off+n
  ·subst e;rw [if_neg oM,if_pos (by simp only [List.length_cons];omega),Nat.sub_self];simp [Array.getElem?_setIfInBounds];omega
  ·by_cases hin:off+(n+1)<=j/\j<off+(n+1)+r.length
   ·rw [if_pos hin,if_pos (by simp only [List.length_cons];omega)];rw [show j - (off+n)=(j - (off+(n+1)))+1 by omega,List.getElem?_cons_succ]
   ·rw [if_neg hin,if_neg (by simp only [List.length_cons];omega)];rw [Array.getElem?_setIfInBounds_ne oM]
theorem Ug {t:Ty} (hfl:t.flat=true):∀ (ys:List t.D) (ps:List (Nat×Value)) (k:Nat) (cells:Array Value),ps.length=ys.length ->
  (∀ (i:Nat) (p:Nat×Value) (y:t.D),ps[i]? =some p->ys[i]? =some y->p.1=k+i/\p.2.cells.toList=t.enc y)->(k+ys.length)*t.size<=cells.size ->
  ∃ cs,Instr.fill (fun i=>some (i*t.size,t.size)) cells ps=some cs/\cs.size=cells.size/\∀ j,cs[j]? =if k*t.size<=j/\j<(k+ys.length)*t.size then (t.cells ys)[j - k*t.size]? else cells[j]?
 | [],[],k,cells,_,_,_=>⟨cells,rfl,rfl,fun j=>by rw [if_neg (by simp)]⟩
 | [],_ :: _,_,_,h,_,_=>by simp at h
 | _ :: _,[],_,_,h,_,_=>by simp at h
 | y :: ys,p :: ps,k,cells,hl,hp,hs=>by
  obtain ⟨i,v⟩:=p;obtain ⟨e1,e2⟩:=hp 0 (i,v) y (by simp) (by simp);simp only [Nat.add_zero] at e1;subst e1;have hv:v.cells.size=t.size:=by rw [← Array.length_toList,e2,Ty.enc_length y hfl]
  simp only [List.length_cons] at hs;have hmul:(i+(ys.length+1))*t.size=i*t.size+t.size+ys.length*t.size:=by rw [Nat.add_mul,Nat.succ_mul];omega
  have hsz:i*t.size+v.cells.size<=cells.size:=by rw [hv];omega
  have hf:=Gr (i*t.size) v.cells.toList 0 cells (by rw [Array.length_toList];omega);rw [← Array.toList_zipIdx,Array.foldl_toList] at hf;obtain ⟨g1,g2⟩:=hf
  obtain ⟨cs,h1,h2,h3⟩:=Ug hfl ys ps (i+1) _ (by simpa using hl) (fun j q z hq hz=>by
   have:=hp (j+1) q z (by simpa using hq) (by simpa using hz);exact ⟨by omega,this.2⟩) (by rw [g1,show i+1+ys.length=i+(ys.length+1) by omega];exact hs)
  refine ⟨cs,?_,by rw [h2,g1],fun j=>?_⟩
  ·simp only [Instr.fill];rw [if_neg (by simp [hv];omega)];exact h1
  ·have h1m:(i+1)*t.size=i*t.size+t.size:=Nat.succ_mul _ _;have h2m:(i+1+ys.length)*t.size=i*t.size+t.size+ys.length*t.size:=by rw [Nat.add_mul,h1m]
   have ec:t.cells (y :: ys)=t.enc y++t.cells ys:=by simp [Ty.cells]
   rw [h3 j,h1m,h2m,List.length_cons,hmul,ec];have hel:=Ty.enc_length y hfl;by_cases c1:i*t.size+t.size<=j
   ·by_cases c2:j<i*t.size+t.size+ys.length*t.size
    ·rw [if_pos ⟨c1,c2⟩,if_pos ⟨by omega,c2⟩,List.getElem?_append_right oM,hel,Nat.sub_sub]
    ·rw [if_neg oM,if_neg oM,g2 j,if_neg (by rw [Array.length_toList];omega)]
   ·rw [if_neg oM,g2 j];by_cases c3:i*t.size<=j
    ·rw [if_pos (by rw [Array.length_toList];omega),if_pos oM,List.getElem?_append_left oM,e2,Nat.add_zero]
    ·rw [if_neg oM,if_neg oM]
section
variable {P:Program} {G:World->Prop} {w0 w w':World} {ob:Oid->Option Ob} {σ:Oid->Option Loc} {K K':Nat->Prop} {im:Nat->Prop}
theorem Ns {f:Nat->AV} {a:Act} {t:Ty} (hfl:t.flat=true):∀ {xs:List Operand} {zs:List Opd} {ys:List t.D},Opd.ofL xs=some zs->N9 f t zs=some ys->(∀ x∈xs,∀ y,Opd.of x=some y->AV.Rep σ im w (y.ev f) (a.eval x)) ->
  xs.length=ys.length/\∀ (i:Nat) (x:Operand) (y:t.D),xs[i]? =some x->ys[i]? =some y->(a.eval x).cells.toList=t.enc y
 | [],zs,ys,h,he,_=>by
  obtain rfl:[]=zs:=osj h;obtain rfl:[]=ys:=osj he;exact ⟨rfl,fun i x y h=>by simp at h⟩
 | x :: xs,zs,ys,h,he,hf=>by
  simp only [Opd.ofL] at h;split at h
  ·rename_i z zs' h1 h2;obtain rfl:=osj h;simp only [N9] at he;split at he
   ·rename_i y ys' h3 h4;obtain rfl:=osj he;obtain ⟨q1,q2⟩:=Ns hfl h2 h4 (fun u hu=>hf u (by simp [hu]));refine ⟨by simp [q1],fun i u v hu hv=>?_⟩;cases i with
    | zero =>
     simp at hu hv;subst hu hv;have r:=hf x (by simp) z h1;split at h3
     ·rename_i cs hcs;rw [hcs] at r;obtain ⟨vs,e,hr⟩:=r;rw [e]
      simpa [Value.cells] using Ty.ofAV_enc hfl hr h3
     ·rename_i c hne;have:=Ty.ofAV_enc (σ:=σ) (im:=im) (w:=w) (vs:=[a.eval x]) hfl (show AV.RepL σ im w [_] [a.eval x] from ⟨_,_,rfl,r,rfl⟩) h3
      have hone:(a.eval x).oneCell'=true:=by
       have h1':=Ty.enc_one y;rw [← this] at h1';exact h1' _ (by simp)
      rw [← this];cases hq:a.eval x <;> first|rfl|(rw [hq] at hone;cases hone)
    | succ i =>
     exact q2 i u v (by simpa using hu) (by simpa using hv)
   ·cases he
  ·cases h
theorem W4 {o:Oper} {a:Act} {f:Nat->AV} {i:Oid} {v:AV} {us:List (Oid×Option Ob)} {ty e:TypeId} {t:Ty} {bytes n:Nat} {parts:Array (Nat×Operand)} {zs:List Opd} (ho:o.op=.buildSlice ty n parts) (ht:P.underlying ty=some (.slice e)) (hel:L3 P e t bytes=true)
  (hp:parts.toList.map (·.1)=List.range n) (h2:Opd.ofL (parts.toList.map (·.2))=some zs) (hn:n*t.size<=16777216)
  (he:Yb f i e t zs=some (v,us)) (hm:Mem0 G w0 ob σ K w) (hK:∀ n,K n->K' n) (hi:¬ K i.2) (hi':K' i.2)
  (hf:∀ x∈o.op.operands,∀ y,Opd.of x=some y->AV.Rep σ (imm ob σ) w (y.ev f) (a.eval x)):Oper.does P o a w (Goes G w0 (Ae us ob) K' σ (imm ob σ) w v):=by
 obtain ⟨inf,z,q1,q2,q3,q4,q5,q6,q7,q8⟩:=Hk hel;unfold Yb at he;split at he
 ·rename_i ys hys;obtain ⟨rfl,rfl⟩:=Prod.mk.inj (osj he);have hops:o.op.operands=(parts.toList.map (·.2)).toArray:=by rw [ho];rfl
  obtain ⟨hlen,hc⟩:=Ns q5 h2 hys (fun x hx=>hf x (by rw [hops];simpa using hx))
  have hpn:parts.size=n:=by
   have:=congrArg List.length hp
   simpa using this
  have hyn:ys.length=n:=by rw [← hlen];simpa using hpn
  have hfill:∀ cells:Array Value,cells.size=n*t.size->Instr.fill (fun i=>some (i*t.size,t.size)) cells (parts.toList.map fun x=>(x.1,a.eval x.2))=some (t.cells ys).toArray:=by
   intro cells hcells
   obtain ⟨cs,g1,g2,g3⟩:=Ug q5 ys (parts.toList.map fun x=>(x.1,a.eval x.2)) 0 cells (by simp [hpn,hyn]) (fun j p y hp1 hy=>by
    rw [List.getElem?_map] at hp1;obtain ⟨q,hq,rfl⟩:=oms.1 hp1;have hj:=(gSi.1 hq).1;have e1:(parts.toList.map (·.1))[j]? =some q.1:=by rw [List.getElem?_map,hq];rfl
    rw [hp,List.getElem?_range (by simpa [hpn] using hj)] at e1;refine ⟨by simpa using (osj e1).symm,hc j q.2 y (by rw [List.getElem?_map,hq];rfl) hy⟩) (by rw [hcells,Nat.zero_add,hyn];exact Nat.le_refl _)
   rw [g1];congr 1;apply Array.ext';apply List.ext_getElem?;intro j;have:=g3 j;simp only [Nat.zero_mul,Nat.zero_le,true_and,Nat.zero_add,Nat.sub_zero] at this;rw [Array.getElem?_toList,this];split
   ·rfl
   ·rename_i hge;rw [List.getElem?_eq_none (by rw [Ty.cells_length q5];omega),Array.getElem?_eq_none (by rw [hcells,← hyn];omega)]
  have hrun:(execOp a.eval o).run P w=.ok (.value (.slice (some ⟨w.heap.size,0,none⟩) n n)) (w.alloc (.cells (t.cells ys).toArray e)):=by
   have hle:¬ (16777216<n*t.size):=by omega
   by_cases h0:n*t.size=0
   ·simp [execOp,ho,Instr.buildSlice,run_underlying ht,sizeOf,typeInfo,q1,q3,h0,newRow];rw [hfill _ (by simp [h0])];simp
   ·simp [execOp,ho,Instr.buildSlice,run_underlying ht,sizeOf,typeInfo,q1,q2,q3,h0,hle,newRow,zeroValue];rw [hfill _ (by simp)];simp
  have hg:=Goes.row (w':=w.alloc (.cells (t.cells ys).toArray e)) hm hK hi hi' (e:=e) (xs:=ys) q5 ((Below.refl _ _).alloc (Nat.le_refl _) _) (l:=.at_ w.heap.size n t.size) (fun b c s h=>by cases h;rfl) (by
    rw [hyn]
    exact ⟨by rw [Ty.cells_length q5,hyn],.inr ⟨w.heap.size,n,(t.cells ys).toArray,rfl,Nat.le_refl _,by show (w.heap.push _)[w.heap.size]? =_;simp,Nat.le_refl _,by
     have:n<=n*t.size:=Nat.le_mul_of_pos_right _ q7;simp only [maxLen];omega,by simp [Ty.cells_length q5,hyn],by rw [List.take_of_length_le (by simp [Ty.cells_length q5,hyn])]⟩⟩)
  rw [hyn] at hg ⊢;exact Oper.does_value hrun hg
 ·cases he
def Gm:Option Operand->Option (Option Opd)
 | none=>some none
 | some x=>(Opd.of x).map some
theorem Zj {f:Nat->AV} {a:Act} {x:Operand} {y:Opd} {m n:Int} {d b:Nat} {code:BoundsCode} (hr:AV.Rep σ im w (y.ev f) (a.eval x)) (h:Dn f d (some y)=some n) (h0:0<=n) (hb:n<=b) (_:m=m) :
  (Instr.sliceBound (a.eval x) b code).run P w=.ok n.toNat w:=by
 simp only [Dn] at h;split at h
 ·rename_i k n' hy;obtain rfl:=osj h;rw [hy] at hr;have e:a.eval x=.int k n':=hr;simp [Instr.sliceBound,e,asIntOf,h0,hb]
 ·cases h
theorem Eg {f:Nat->AV} {a:Act} {lo hi mx:Option Operand} {lo' hi' mx':Option Opd} (h1:Gm lo=some lo') (h2:Gm hi=some hi') (h3:Gm mx=some mx') (hmh:mx≠none->hi≠none)
  (hf:∀ x,lo=some x∨hi=some x∨mx=some x->∀ y,Opd.of x=some y->AV.Rep σ im w (y.ev f) (a.eval x)) {len cap:Nat} {isS:Bool} {l h m:Int} (e1:Dn f 0 lo'=some l) (e2:Dn f len hi'=some h) (e3:mx'=none/\m=cap∨mx'≠none/\Dn f len mx'=some m)
  (b:0<=l/\l<=h/\h<=m/\m<=cap) (hlc:len<=cap) :
  (Instr.sliceBounds isS len cap (lo.map a.eval) (hi.map a.eval) (mx.map a.eval)).run P w=.ok (l.toNat,h.toNat,m.toNat) w:=by
 obtain ⟨b1,b2,b3,b4⟩:=b
 have one:∀ {z:Option Operand} {z':Option Opd} {n:Int} {d bd:Nat} {code:BoundsCode} {x:Operand},z=some x->Gm z=some z'->(lo=some x∨hi=some x∨mx=some x)->Dn f d z'=some n->0<=n->n<=bd->(Instr.sliceBound (a.eval x) bd code).run P w=.ok n.toNat w:=by
  intro z z' n d bd code x hz ho hx hn h0 hb;subst hz;obtain ⟨y,hy,rfl⟩:=oms.1 ho;exact Zj (m:=0) (hf x hx y hy) hn h0 hb rfl
 cases mx with
 | none =>
  obtain rfl:none=mx':=osj h3
  have hm:m=cap:=by
   rcases e3 with ⟨_,h⟩|⟨h,_⟩
   ·exact h
   ·exact absurd rfl h
  subst hm;cases hi with
  | none =>
   obtain rfl:none=hi':=osj h2;obtain rfl:(len:Int)=h:=osj e2;cases lo with
   | none =>
    obtain rfl:none=lo':=osj h1;obtain rfl:((0:Nat):Int)=l:=osj e1;simp [Instr.sliceBounds]
   | some x =>
    have:=one (code:=.sliceB) (bd:=len) rfl h1 (.inl rfl) e1 b1 oM;simp [Instr.sliceBounds,this]
  | some y =>
   have hy:=one (code:=if isS then .sliceAcap else .sliceAlen) (bd:=cap) rfl h2 (.inr (.inl rfl)) e2 oM oM;cases lo with
   | none =>
    obtain rfl:none=lo':=osj h1;obtain rfl:((0:Nat):Int)=l:=osj e1;simp [Instr.sliceBounds,hy]
   | some x =>
    have:=one (code:=.sliceB) (bd:=h.toNat) rfl h1 (.inl rfl) e1 b1 oM;simp [Instr.sliceBounds,this,hy]
 | some z =>
  have hz:Dn f len mx'=some m:=by
   rcases e3 with ⟨rfl,_⟩|⟨_,e3⟩
   ·obtain ⟨_,_,h⟩:=oms.1 h3;cases h
   ·exact e3
  have hzz:=one (code:=if isS then .slice3Acap else .slice3Alen) (bd:=cap) rfl h3 (.inr (.inr rfl)) hz oM b4;cases hi with
  | none=>exact absurd rfl (hmh (by simp))
  | some y =>
   have hy:=one (code:=.slice3B) (bd:=m.toNat) rfl h2 (.inr (.inl rfl)) e2 oM oM;cases lo with
   | none =>
    obtain rfl:none=lo':=osj h1;obtain rfl:((0:Nat):Int)=l:=osj e1;simp [Instr.sliceBounds,hy,hzz]
   | some x =>
    have:=one (code:=.slice3C) (bd:=h.toNat) rfl h1 (.inl rfl) e1 b1 oM;simp [Instr.sliceBounds,this,hy,hzz]
theorem Ad0 {m:Option (Nat->Prop)} {t:Ty} {xs:List t.D} {v:Value} (h:∃ A c l,v=.slice A xs.length c/\Sl (mR m (imm ob σ)) w t A c xs l):AV.Rep σ (imm ob σ) w (trM m t xs) v:=by
 cases m <;> exact h
theorem Tl {o:Oper} {a:Act} {f:Nat->AV} {v:AV} {ty:TypeId} {sz:Nat} {x:Operand} {x':Opd} {lo hi mx:Option Operand} {lo' hi' mx':Option Opd} (ho:o.op=.slice ty x lo hi mx) (ht:Ga P ty=some sz) (h0:Opd.of x=some x') (h1:Gm lo=some lo') (h2:Gm hi=some hi') (h3:Gm mx=some mx') (hmh:mx≠none->hi≠none)
  (he:Tf f sz x' lo' hi' mx'=some v) (hm:Mem0 G w0 ob σ K w) (hK:∀ n,K n->K' n)
  (hf:∀ x∈o.op.operands,∀ y,Opd.of x=some y->AV.Rep σ (imm ob σ) w (y.ev f) (a.eval x)):Oper.does P o a w (Goes G w0 ob K' σ (imm ob σ) w v):=by
 have r1:=Sr (hf x (by simp [ho,Op.operands]) x' h0)
 have hf':∀ z,lo=some z∨hi=some z∨mx=some z->∀ y,Opd.of z=some y->AV.Rep σ (imm ob σ) w (y.ev f) (a.eval z):=by
  intro z hz y hy;refine hf z ?_ y hy;simp only [ho,Op.operands];rcases hz with rfl|rfl|rfl <;> simp
 have hel:∃ e i,P.underlying ty=some (.slice e)/\P.info? e=some i/\i.size=sz:=by
  unfold Ga at ht;split at ht
  ·obtain ⟨i,hi,rfl⟩:=oms.1 ht;exact ⟨_,i,by assumption,hi,rfl⟩
  ·cases ht
 obtain ⟨e,inf,hu,hinf,hsz⟩:=hel
 have run:∀ (A:Option Addr) (len cap l h m:Nat),a.eval x=.slice A len cap->(Instr.sliceBounds true len cap (lo.map a.eval) (hi.map a.eval) (mx.map a.eval)).run P w=.ok (l,h,m) w ->
   (execOp a.eval o).run P w=.ok (.value (.slice (if m=l then A else A.map (·.add (l*sz))) (h - l) (m - l))) w:=by
  intro A len cap l h m ex hb;simp [execOp,ho,Instr.sliceAt,run_underlying hu,Instr.slice,ex,hb,sizeOf,typeInfo,hinf,hsz]
 unfold Tf at he;split at he
 ·rename_i t xs hx;obtain ⟨A,cp,ls,e1,hs⟩:=Yy (hf x (by simp [ho,Op.operands]) x' h0) hx;split at he
  ·rename_i l h m q1 q2 q3;split at he
   ·rename_i hc;obtain ⟨c0,c1,c2,c3,c4⟩:=hc;obtain rfl:=osj he;have hlc:=hs.1
    obtain ⟨m',hb,hm1,hm2⟩:∃ m':Nat,(Instr.sliceBounds true xs.length cp (lo.map a.eval) (hi.map a.eval) (mx.map a.eval)).run P w=.ok (l.toNat,h.toNat,m') w/\h.toNat<=m'/\m'<=cp:=by
     cases hmx:mx' with
     | none =>
      refine ⟨cp,?_,by omega,Nat.le_refl _⟩;exact Eg (m:=(cp:Int)) h1 h2 h3 hmh hf' q1 q2 (.inl ⟨hmx,rfl⟩) ⟨c1,c2,by omega,Int.le_refl _⟩ hlc
     | some z =>
      refine ⟨m.toNat,?_,by omega,by omega⟩;exact Eg h1 h2 h3 hmh hf' q1 q2 (.inr ⟨by rw [hmx];simp,q3⟩) ⟨c1,c2,c3,by omega⟩ hlc
    refine Oper.does_value (run A _ _ _ _ _ e1 hb) (Goes.same hm hK ?_)
    have hlen:((xs.take h.toNat).drop l.toNat).length=h.toNat - l.toNat:=by
     rw [List.length_drop,List.length_take,Nat.min_eq_left oM]
    obtain ⟨_,d2,g,_,hg⟩:=hs;refine Ad0 ⟨_,m' - l.toNat,(List.range (h.toNat - l.toNat)).flatMap fun i=>g (l.toNat+i),by rw [hlen],by rw [hlen];omega,by omega,fun i=>g (l.toNat+i),by rw [hlen],fun hp=>?_⟩;rw [hlen] at hp;obtain ⟨ad,rfl,hr,hmem⟩:=hg oM;refine ⟨ad.add (l.toNat*sz),by rw [if_neg oM];rfl,by rw [Bl];exact hr,fun i hi=>?_⟩;rw [hlen] at hi;have:=hmem (l.toNat+i) oM;rw [Bt,← c0,← Nat.add_mul]
    have hget:((xs.take h.toNat).drop l.toNat)[i]'(by rw [hlen];exact hi)=xs[l.toNat+i]'oM:=by
     rw [List.getElem_drop,List.getElem_take]
    rw [hget];exact this
   ·cases he
  ·cases he
 ·rename_i i t off len hx;rw [hx] at r1;split at he
  ·rename_i l h q1 q2
   have hmx:mx=none:=by
    cases mx with
    | none=>rfl
    | some z=>obtain ⟨_,_,h⟩:=oms.1 h3;cases h
   split at he
   ·rename_i hc;obtain ⟨c0,c1,c2,c3⟩:=hc;rcases r1 with ⟨g1,rfl,rfl,g4⟩|⟨b,cap,g1,g2,g3⟩|⟨lc,g1,g2,g3,A,cc,g4,g5⟩
    rotate_left
    rotate_left
    ·have hl0:l=0:=by omega
     have hh0:h=0:=by omega
     subst hl0 hh0 g3;have hb:=Eg (P:=P) (isS:=true) (len:=0) (cap:=cc) (m:=(cc:Int)) h1 h2 h3 hmh hf' q1 q2 (.inl ⟨rfl,rfl⟩) ⟨c1,c2,by omega,Int.le_refl _⟩ (Nat.zero_le _);obtain rfl:=osj he;refine Oper.does_value (run _ _ _ _ _ _ g4 hb) (Goes.same hm hK (.inr (.inr ⟨lc,g1,by omega,rfl,_,_,rfl,by omega⟩)))
    ·have hb:=Eg (P:=P) (isS:=true) (len:=0) (cap:=0) (m:=0) h1 h2 h3 hmh hf' q1 q2 (.inl ⟨rfl,rfl⟩) ⟨c1,c2,by omega,by omega⟩ (Nat.le_refl _);have hl0:l=0:=by omega
     have hh0:h=0:=by omega
     subst hl0 hh0;obtain rfl:=osj he;exact Oper.does_value (run none _ _ _ _ _ g4 hb) (Goes.same hm hK (.inl ⟨g1,rfl,rfl,by simp⟩))
    ·have hb:=Eg (P:=P) (isS:=true) (len:=len) (cap:=cap - off) (m:=((cap - off:Nat):Int)) h1 h2 h3 hmh hf' q1 q2 (.inl ⟨rfl,rfl⟩) ⟨c1,c2,by omega,Int.le_refl _⟩ oM;have hrun:=run _ _ _ _ _ _ g3 hb;by_cases hlt:l=0∨l<h
     ·obtain rfl:=osj he;refine Oper.does_value hrun (Goes.same hm hK (.inr (.inl ⟨b,cap,g1,by omega,?_⟩)));rw [Int.toNat_natCast]
      have hA:(if cap - off=l.toNat then some (⟨b,off*t.size,none⟩:Addr) else (some ⟨b,off*t.size,none⟩:Option Addr).map (·.add (l.toNat*sz)))=some ⟨b,(off+l.toNat)*t.size,none⟩:=by
       by_cases hl0:l=0
       ·subst hl0;split
        ·simp
        ·simp [A4]
       ·rw [if_neg oM];simp only [Option.map_some,A4,Nat.add_mul,c0]
      rw [hA];congr 1
      ·omega
      ·omega
     ·obtain rfl:=osj he;have hcap:=hm.cap _ _ _ _ g1;have h00:h.toNat - l.toNat=0:=by omega
      refine Oper.does_value hrun (Goes.same hm hK (.inr (.inr ⟨_,g1,by omega,by omega,?_⟩)));rw [h00];exact ⟨_,_,rfl,by omega⟩
   ·cases he
  ·cases he
 ·cases he
def Vt:Ob->Nat->Option Ob
 | .arr e u xs,k=>if k<=xs.length then some (.arr e u (xs.take k)) else none
 | .vec e s n cs,k=>if k<=n then some (.vec e s k (cs.take (k*s))) else none
 | _,_=>none
def Gh (f:Nat->AV) (ob:Oid->Option Ob) (i:Oid) (sz:Nat) (x:Opd) (lo hi mx:Option Opd):Option (AV×List (Oid×Option Ob)) :=
 match x.ev f with
 | .own j t off len=>match ob j,Dn f 0 lo,Dn f len hi,Dn f len mx with
  | some o,some l,some h,some m=>if (t.size=sz/\off=0/\l=0)/\0<=h/\h<=m/\m<=len/\mx.isSome=true then match Vt o h.toNat with
   | some o'=>some (.own i t 0 h.toNat,[(j,none),(i,some o')])
   | none=>none
   else none
  | _,_,_,_=>none
 | _=>none
theorem Ada {lo:Nat} {o o':Ob} {k b c s m:Nat} {w1:World} {σ1:Oid->Option Loc} {im1:Nat->Prop} (h:Vt o k=some o') (hk:k<=m) (hm:m<=c) (hr:o.Rep lo σ1 im1 w1 (.at_ b c s)):o'.Rep lo σ1 im1 w1 (.at_ b m s):=by
 have Dc:∀ {e:TypeId} {sz n:Nat} {vs:List Value},k<=n->ownsV w1 lo e sz ((Loc.at_ b c s).val n) n vs->ownsV w1 lo e sz ((Loc.at_ b m s).val k) k (vs.take (k*sz)):=by
  intro e sz n vs hkn ho;have hl:=ho.1;have hle:k*sz<=n*sz:=Nat.mul_le_mul_right _ hkn;have hmc:m*sz<=c*sz:=Nat.mul_le_mul_right _ hm;refine ⟨by rw [List.length_take,hl];omega,?_⟩;rcases ho.2 with ⟨e1,_⟩|⟨g,cap,cur,e1,hb,hg,h1,h2,h3,ht⟩
  ·cases e1
  ·cases e1;refine .inr ⟨b,m,cur,rfl,hb,hg,hk,by omega,by omega,?_⟩;rw [← ht,List.take_take,Nat.min_eq_left hle]
 cases o with
 | arr e u xs =>
  simp only [Vt] at h;split at h
  ·rename_i hx;obtain rfl:=osj h;obtain ⟨f1,f2,f3⟩:=hr;have hl:(xs.take k).length=k:=by rw [List.length_take];omega
   refine ⟨f1,?_,fun b' c' s' e'=>by cases e';exact f3 _ _ _ rfl⟩;have:=Dc hx f2;rw [hl]
   have e3:(u.cells xs).take (k*u.size)=u.cells (xs.take k):=by
    have h1:=Lp (l:=.at_ b c u.size) f1 (by rw [f3 _ _ _ rfl] at f2;exact f2) hx (fun e=>by cases e);rcases h1.2 with ⟨q,_⟩|⟨g,cap,cur,q,_,hg,_,_,_,ht⟩
    ·cases q
    ·cases q;rcases f2.2 with ⟨q',_⟩|⟨g',cap',cur',q',_,hg',_,_,_,ht'⟩
     ·cases q'
     ·cases q';rw [hg] at hg';cases hg';rw [← ht,← ht',List.take_take,Nat.min_eq_left (Nat.mul_le_mul_right _ hx)]
   rw [← e3];exact this
  ·cases h
 | vec e sz n cs =>
  simp only [Vt] at h;split at h
  ·rename_i hx;obtain rfl:=osj h;obtain ⟨vs,p1,p2,p3,p4⟩:=hr;exact ⟨vs.take (k*sz),Dc hx p1,p2.take _,fun v hv=>p3 v (List.mem_of_mem_take hv),fun b' c' s' e'=>by cases e';exact p4 _ _ _ rfl⟩
  ·cases h
 | _=>simp only [Vt] at h;cases h
theorem Q6 {o:Oper} {a:Act} {f:Nat->AV} {i:Oid} {v:AV} {us:List (Oid×Option Ob)} {ty:TypeId} {sz:Nat} {x:Operand} {x':Opd} {lo hi mx:Option Operand} {lo' hi' mx':Option Opd} (ho:o.op=.slice ty x lo hi mx) (ht:Ga P ty=some sz) (h0:Opd.of x=some x') (h1:Gm lo=some lo') (h2:Gm hi=some hi') (h3:Gm mx=some mx') (hmh:mx≠none->hi≠none)
  (he:Gh f ob i sz x' lo' hi' mx'=some (v,us)) (hm:Mem0 G w0 ob σ K w) (hK:∀ n,K n->K' n) (hi0:¬ K i.2) (hi1:K' i.2)
  (hf:∀ x∈o.op.operands,∀ y,Opd.of x=some y->AV.Rep σ (imm ob σ) w (y.ev f) (a.eval x)):Oper.does P o a w (Goes G w0 (Ae us ob) K' σ (imm ob σ) w v):=by
 have r1:=hf x (by simp [ho,Op.operands]) x' h0
 have hf':∀ z,lo=some z∨hi=some z∨mx=some z->∀ y,Opd.of z=some y->AV.Rep σ (imm ob σ) w (y.ev f) (a.eval z):=by
  intro z hz y hy;refine hf z ?_ y hy;simp only [ho,Op.operands];rcases hz with rfl|rfl|rfl <;> simp
 have hel:∃ e i,P.underlying ty=some (.slice e)/\P.info? e=some i/\i.size=sz:=by
  unfold Ga at ht;split at ht
  ·obtain ⟨i,hi,rfl⟩:=oms.1 ht;exact ⟨_,i,by assumption,hi,rfl⟩
  ·cases ht
 obtain ⟨e,inf,hu,hinf,hsz⟩:=hel
 have run:∀ (A:Option Addr) (len cap l h m:Nat),a.eval x=.slice A len cap->(Instr.sliceBounds true len cap (lo.map a.eval) (hi.map a.eval) (mx.map a.eval)).run P w=.ok (l,h,m) w ->
   (execOp a.eval o).run P w=.ok (.value (.slice (if m=l then A else A.map (·.add (l*sz))) (h - l) (m - l))) w:=by
  intro A len cap l h m ex hb;simp [execOp,ho,Instr.sliceAt,run_underlying hu,Instr.slice,ex,hb,sizeOf,typeInfo,hinf,hsz]
 unfold Gh at he;split at he
 ·rename_i j t off len hx;rw [hx] at r1;split at he
  ·rename_i o0 l h m hj q1 q2 q3;split at he
   ·rename_i hc;obtain ⟨⟨c0,rfl,rfl⟩,c1,c2,c3,c4⟩:=hc;split at he
    ·rename_i o1 hcut;obtain ⟨rfl,rfl⟩:=Prod.mk.inj (osj he);have hmx:mx'≠none:=fun e=>by rw [e] at c4;cases c4
     have hfr:σ i=none:=Goes.fresh hm hi0;rcases r1 with ⟨g1,_,g3,g4⟩|⟨b,cap,g1,g2,g3⟩|⟨_,_,g,_⟩
     ·subst g3;have hb:=Eg (P:=P) (isS:=true) (len:=0) (cap:=0) h1 h2 h3 hmh hf' q1 q2 (.inr ⟨hmx,q3⟩) ⟨by omega,c1,c2,c3⟩ (Nat.le_refl _);have hh:h=0:=by omega
      have hmm:m=0:=by omega
      subst hh hmm;refine Oper.does_value (run none _ _ _ _ _ g4 hb) ?_
      have hr0:∃ l',l'=Loc.nil/\o1.Rep w0.heap.size σ (imm ob σ) w l':=by
       refine ⟨.nil,rfl,?_⟩;have hr:=hm.obs j _ _ hj g1;cases o0 with
       | arr e' u xs =>
        simp only [Vt] at hcut;split at hcut
        ·obtain rfl:=osj hcut;obtain ⟨f1,f2,f3⟩:=hr;exact ⟨f1,⟨by simp [Ty.cells],.inl ⟨rfl,rfl⟩⟩,f3⟩
        ·cases hcut
       | vec e' s' n cs =>
        simp only [Vt] at hcut;split at hcut
        ·obtain rfl:=osj hcut;obtain ⟨vs,p1,p2,p3,p4⟩:=hr;refine ⟨[],⟨by simp,.inl ⟨rfl,rfl⟩⟩,?_,fun v hv=>(by cases hv),p4⟩;simp only [Int.toNat_zero,Nat.zero_mul,List.take_zero];rfl
        ·cases hcut
       | _=>simp only [Vt] at hcut;cases hcut
      obtain ⟨l',rfl,hr0⟩:=hr0;have hb0:Below w.heap.size w w:=Below.refl _ _;have hmk:=hm.kill j;have hL:=Later.new (ob:=upd ob j none) (i:=i) (l:=.nil) (o:=o1) hfr hb0 (fun b c s e=>by cases e);refine ⟨_,(Later.kill j).trans hL,hmk.new hfr hb0 (fun b c s e=>by cases e) hK hi1 (hr0.later ((Later.kill j).trans hL) (fun _ _ _ e=>by cases e)),.inl ⟨Ar _ _ _,rfl,rfl,by simp⟩⟩
     ·have g2':len<=cap:=by omega
      rw [Nat.zero_mul,Nat.sub_zero] at g3;have hb:=Eg (P:=P) (isS:=true) (len:=len) (cap:=cap) h1 h2 h3 hmh hf' q1 q2 (.inr ⟨hmx,q3⟩) ⟨by omega,c1,c2,by omega⟩ g2';refine Oper.does_value (run _ _ _ _ _ _ g3 hb) ?_;have hr:=hm.obs j _ _ hj g1;have hcap:=hm.cap _ _ _ _ g1;have hr1:=Ada (m:=m.toNat) hcut oM oM hr;have hon:Only b w w:=⟨rfl,rfl,rfl,Nat.le_refl _,fun _ _ _=>rfl⟩
      have hL:=Later.swap (o':=o1) (c':=m.toNat) (s':=t.size) hj g1 (.inr hfr) hon;refine ⟨_,hL,hm.swap hj g1 (.inr hfr) hon hK hi1 oM (hr1.later hL fun _ _ _ _=>rfl),.inr (.inl ⟨b,m.toNat,Ar _ _ _,by omega,?_⟩)⟩;have e0:(0:Int).toNat=0:=rfl;rw [e0];split
      ·simp
      ·simp [A4]
     ·exact absurd rfl g
    ·cases he
   ·cases he
  ·cases he
 ·cases he
theorem U1 {obL:Oid->Option Ob} (hag:∀ id o l,obL id=some o->σ id=some l->ob id=some o) {f:Nat->AV} {i:Oid} {sz:Nat} {x:Opd} {lo hi mx:Option Opd} {u:Value} {r:AV×List (Oid×Option Ob)} {im:Nat->Prop} (hr:AV.Rep σ im w (x.ev f) u) (h:Gh f obL i sz x lo hi mx=some r):Gh f ob i sz x lo hi mx=some r:=by
 unfold Gh at h ⊢;split at h
 ·rename_i j t off len hx;rw [hx] at hr
  have hs:∃ l,σ j=some l:=by
   rcases hr with ⟨g,_⟩|⟨b,c,g,_⟩|⟨lc,g,_⟩ <;> exact ⟨_,g⟩
  obtain ⟨l,hl⟩:=hs;split at h
  ·rename_i o0 l h' m hj q1 q2 q3;simp only [hag _ _ _ hj hl,q1,q2,q3];exact h
  ·cases h
 ·cases h
def Acj (f:Nat->AV) (ob:Oid->Option Ob) (n:Nat) (x:Opd):Option AV :=
 match x.ev f with
 | .elt i j 0=>match ob i with
  | some (.arr _ t _)=>if t.size=n then some (.sla i j n) else none
  | _=>none
 | _=>none
def O1 (P:Program) (t:TypeId):Option Nat :=
 match P.underlying t with
 | some (.array n e)=>if (P.info? e).map (·.size)=some 1 then some n else none
 | _=>none
def K7 (f:Nat->AV) (ob:Oid->Option Ob) (x y:Opd):Option (AV×List (Oid×Option Ob)) :=
 match x.ev f with
 | .sla j k n=>match D4 ob .int (y.ev f) with
  | some ys=>match ob j with
   | some (.arr et t xs)=>match xs[k]? with
    | some d=>match Iz false (ys.take n).length 0 (t.av d) (.agg ((ys.take n).map (AV.int .i64))) with
     | some ds=>match t.ofAV ds with
      | some d'=>if t.size=n then some (.int .i64 ((ys.take n).length:Nat),[(j,none),(j,some (.arr et t (xs.set k d')))]) else none
      | none=>none
     | none=>none
    | none=>none
   | _=>none
  | none=>none
 | .own j .int off len=>match D4 ob .int (y.ev f) with
  | some ys=>match ob j with
   | some (.arr et .int xs)=>if off=0/\len=xs.length/\ys.length=xs.length then some (.int .i64 (ys.length:Nat),[(j,none),(j,some (.arr et .int ys))]) else none
   | _=>none
  | none=>none
 | _=>none
theorem Wh {o:Oper} {a:Act} {f:Nat->AV} {v:AV} {ty:TypeId} {n:Nat} {x:Operand} {x':Opd} (ho:o.op=.slice ty x none none none) (ht:O1 P ty=some n) (h0:Opd.of x=some x') {obL:Oid->Option Ob} (he:Acj f obL n x'=some v) (hob:∀ i o l,obL i=some o->σ i=some l->o.Rep w0.heap.size σ (imm ob σ) w l) (hm:Mem0 G w0 ob σ K w) (hK:∀ n,K n->K' n)
  (hf:∀ x∈o.op.operands,∀ y,Opd.of x=some y->AV.Rep σ (imm ob σ) w (y.ev f) (a.eval x)):Oper.does P o a w (Goes G w0 ob K' σ (imm ob σ) w v):=by
 have r1:=hf x (by simp [ho,Op.operands]) x' h0;unfold Acj at he;split at he
 ·rename_i i j hx;rw [hx] at r1;obtain ⟨b,cap,sz,e1,e2⟩:=r1;split at he
  ·rename_i et t xs hj;split at he
   ·rename_i hn;subst hn;obtain rfl:=osj he;obtain ⟨_,_,hsz⟩:=hob i _ _ hj e1;obtain rfl:=hsz b cap sz rfl;unfold O1 at ht;split at ht
    ·rename_i n' e hu;split at ht
     ·rename_i hi;obtain rfl:=osj ht;obtain ⟨inf,hinf,hsz'⟩:=oms.1 hi;refine Oper.does_value (v:=.slice (some ⟨b,j*t.size,none⟩) t.size t.size) ?_ (Goes.same hm hK ⟨b,cap,e1,rfl⟩);simp [execOp,ho,Instr.sliceAt,run_underlying hu,e2,Instr.sureAddr,Instr.sliceBounds,sizeOf,typeInfo,hinf,hsz',A4]
     ·cases ht
    ·cases ht
   ·cases he
  ·cases he
 ·cases he
theorem Uz {o:Oper} {a:Act} {f:Nat->AV} {v:AV} {us:List (Oid×Option Ob)} {dT sT elem:TypeId} {x y:Operand} {x' y':Opd} {c:Call} (ho:o.op=.call c) (hcb:c.callee=.builtin .copy) (hca:c.args= #[x,y]) (hct:c.argTypes= #[dT,sT])
  (hu:P.underlying dT=some (.slice elem)) (hs:(P.info? elem).map (·.size)=some 1) (h2:Opd.of x=some x') (h3:Opd.of y=some y')
  (he:K7 f ob x' y'=some (v,us)) (hm:Mem0 G w0 ob σ K w) (hK:∀ n,K n->K' n)
  (hf:∀ x∈o.op.operands,∀ y,Opd.of x=some y->AV.Rep σ (imm ob σ) w (y.ev f) (a.eval x)):Oper.does P o a w (Goes G w0 (Ae us ob) K' σ (imm ob σ) w v):=by
 have r1:=hf x (by simp [ho,Op.operands,Call.operands,hca]) x' h2;have r2:=hf y (by simp [ho,Op.operands,Call.operands,hca]) y' h3
 have hex:∀ r w',(Builtin.copy_ #[dT,sT] o.type #[a.eval x,a.eval y]).run P w=.ok r w'->(execOp a.eval o).run P w=.ok (.value r) w':=by
  intro r w' h;simp [execOp,ho,resolve,hcb,hca,hct,invoke,builtin,h,Result.andThen]
 unfold K7 at he;split at he
 ·rename_i j k n hx;rw [hx] at r1;obtain ⟨b,cap,e1,e2⟩:=r1;split at he
  ·rename_i ys hys;obtain ⟨A,cp,e3,hA,hsrc⟩:=M9 (lo:=w0.heap.size) rfl hys hm.obs r2;split at he
   ·rename_i et ty xs hj;split at he
    ·rename_i d hd;split at he
     ·rename_i ds hds;split at he
      ·rename_i d' hd';split at he
       ·rename_i hn;subst hn;obtain ⟨rfl,rfl⟩:=Prod.mk.inj (osj he);obtain ⟨hfl,hown,hsz⟩:=hm.obs j _ _ hj e1
        have hrep:AV.Rep σ (imm ob σ) w (.agg ((ys.take ty.size).map (AV.int .i64))) (.agg ((ys.take ty.size).map (Value.int .i64)).toArray):=by
         refine ⟨_,rfl,AV.RepL.of_get (by simp) (fun i c v h1 h2=>?_)⟩;rw [List.getElem?_map] at h1 h2;cases hq:(ys.take ty.size)[i]? with
         | none=>rw [hq] at h1;cases h1
         | some q=>rw [hq] at h1 h2;obtain rfl:=osj h1;obtain rfl:=osj h2;rfl
        obtain ⟨ws,q1,q2,q3,q4,q5⟩:=Hp hds (fun h=>by cases h) hrep (Ty.enc_rep (σ:=σ) (im:=imm ob σ) (w:=w) d hfl);rw [Ty.enc_length d hfl] at q3;obtain ⟨cur,c1,c2,c3⟩:=Yh hfl hd hown q2 q3 (Ty.ofAV_enc hfl q5 hd').symm
        have hws:ws=(ys.take ty.size).map (Value.int .i64):=by
         have:=congrArg Array.toList q1
         simpa [Value.cells] using this.symm
        have hlen:(ys.take ty.size).length=Nat.min ys.length ty.size:=by rw [List.length_take];exact Nat.min_comm _ _
        have hrun:(Builtin.copy_ #[dT,sT] o.type #[a.eval x,a.eval y]).run P w=.ok (goInt ((ys.take ty.size).length:Nat)) (w.setRow b (cur.take (k*ty.size+0)++(ws++cur.drop (k*ty.size+0+(ys.take ty.size).length))).toArray):=by
         rw [e2,e3];cases A with
         | none =>
          have h0:ys=[]:=hA rfl;subst h0;simp only [List.take_nil,List.map_nil] at hws;subst hws;have hnone:=run_copy_none (P:=P) w dT sT o.type elem (some ⟨b,k*ty.size,none⟩) none ty.size ty.size 0 cp hu hs (Nat.zero_min _);simp only [List.length_nil,List.take_nil,List.nil_append,Nat.add_zero,List.take_append_drop];rw [hnone];have:=setRow_self w b cur.toArray et (0,0) c1;rw [this];rfl
         | some ad =>
          have hcp:=run_copy_row (P:=P) w dT sT o.type elem b (k*ty.size) ty.size ty.size ad ys.length cp cur.toArray et ws hu hs c1 (by rw [hws,List.length_map,hlen]) (fun i v hv=>?_) (by rw [hws,List.length_map];simpa using c2) q4
          ·rw [hcp,hws,List.length_map,List.append_assoc];rfl
          ·rw [hws,List.getElem?_map] at hv;cases hq:(ys.take ty.size)[i]? with
           | none=>rw [hq] at hv;cases hv
           | some q =>
            rw [hq] at hv;obtain rfl:=osj hv;refine hsrc ad rfl i _ ?_
            have hq':ys[i]? =some q:=by
             rw [List.getElem?_take] at hq;split at hq
             ·exact hq
             ·cases hq
            have:=Ty.cells_get (t:=.int) rfl ys i (gSi.1 hq').1 0 (by decide);rw [show i*(Ty.int).size+0=i from by simp [Ty.size]] at this;rw [this,(gSi.1 hq').2];rfl
        have hL:=Later.swap (o':=.arr et ty (xs.set k d')) hj e1 (.inl ⟨rfl,rfl,rfl⟩) (Only.setRow w b (cur.take (k*ty.size+0)++(ws++cur.drop (k*ty.size+0+(ys.take ty.size).length))).toArray);refine Oper.does_value (hex _ _ hrun) ⟨_,hL,hm.swap hj e1 (.inl ⟨rfl,rfl,rfl⟩) (Only.setRow w b _) hK (hK _ (hm.gen _ _ e1)) (hm.cap _ _ _ _ e1) ⟨hfl,?_,fun b c s h=>by cases h;rfl⟩,rfl⟩;rw [List.length_set];exact c3
       ·cases he
      ·cases he
     ·cases he
    ·cases he
   ·cases he
  ·cases he
 ·rename_i j off len hx;rw [hx] at r1;split at he
  ·rename_i ys hys;obtain ⟨A,cp,e3,hA,hsrc⟩:=M9 (lo:=w0.heap.size) rfl hys hm.obs r2;split at he
   ·rename_i et xs hj;split at he
    ·rename_i hc;obtain ⟨rfl,rfl,hlen⟩:=hc;obtain ⟨rfl,rfl⟩:=Prod.mk.inj (osj he);rcases r1 with ⟨e1,_,h0,e2⟩|⟨b,cap,e1,hcap,e2⟩|⟨_,_,hne,_⟩
     ·have hxs:xs=[]:=List.eq_nil_of_length_eq_zero h0;subst hxs;have hys0:ys=[]:=List.eq_nil_of_length_eq_zero hlen;subst hys0
      have hob:Ae [(j,none),(j,some (.arr et .int ([]:List Int)))] ob=ob:=by
       funext q;simp only [Ae,List.foldl_cons,List.foldl_nil,upd];by_cases hq:q=j
       ·subst hq;rw [if_pos rfl];exact hj.symm
       ·rw [if_neg hq,if_neg hq]
      have hrun:(Builtin.copy_ #[dT,sT] o.type #[a.eval x,a.eval y]).run P w=.ok (goInt ((([]:List Int).length:Nat):Int)) w:=by
       rw [e2,e3];exact run_copy_none (P:=P) w dT sT o.type elem none A 0 0 0 cp hu hs (Nat.zero_min _)
      rw [hob];exact Oper.does_value (hex _ _ hrun) (Goes.same hm hK rfl)
     ·obtain ⟨_,hown,hsz⟩:=hm.obs j _ _ hj e1;have hcl:(Ty.cells (t:=.int) xs).length=xs.length:=by rw [Ty.cells_length rfl];simp [Ty.size]
      have hcl':(Ty.cells (t:=.int) ys).length=ys.length:=by rw [Ty.cells_length rfl];simp [Ty.size]
      obtain ⟨cur,c1,c2,c3⟩:=Uk (p:=0) (us:=Ty.cells (t:=.int) ys) (m:=ys.length) hown hcl' (by rw [hcl];omega)
      have hone:∀ v∈Ty.cells (t:=.int) ys,v.oneCell'=true:=fun v hv=>by
       obtain ⟨q,_,hq⟩:=List.mem_flatMap.1 hv;obtain rfl:=List.mem_singleton.1 hq;rfl
      have hd1:(Ty.cells (t:=.int) xs).drop (0+ys.length)=[]:=List.drop_of_length_le (by rw [hcl];omega)
      have hrun:(Builtin.copy_ #[dT,sT] o.type #[a.eval x,a.eval y]).run P w=.ok (goInt (ys.length:Nat)) (w.setRow b (cur.take 0++(Ty.cells (t:=.int) ys++cur.drop (0+ys.length))).toArray):=by
       rw [e2,e3,show 0*Ty.int.size=0 from rfl,show cap - 0=cap from rfl];cases A with
       | none =>
        have h0:ys=[]:=hA rfl;subst h0;have hnone:=run_copy_none (P:=P) w dT sT o.type elem (some ⟨b,0,none⟩) none xs.length cap 0 cp hu hs (Nat.zero_min _);simp only [List.length_nil,Ty.cells,List.flatMap_nil,List.nil_append,Nat.add_zero,List.take_zero,List.drop_zero];rw [show (cur.toArray)=cur.toArray from rfl,setRow_self w b cur.toArray et (0,0) c1];exact hnone
       | some ad =>
        have hcp:=run_copy_row (P:=P) w dT sT o.type elem b 0 xs.length cap ad ys.length cp cur.toArray et (Ty.cells (t:=.int) ys) hu hs c1 (by rw [hcl',hlen];exact (Nat.min_self _).symm) (fun i v hv=>hsrc ad rfl i v hv) (by rw [hcl'];simpa using c2) hone;rw [hcp,hcl',List.append_assoc]
      have hL:=Later.swap (o':=.arr et .int ys) hj e1 (.inl ⟨rfl,rfl,rfl⟩) (Only.setRow w b (cur.take 0++(Ty.cells (t:=.int) ys++cur.drop (0+ys.length))).toArray);refine Oper.does_value (hex _ _ hrun) ⟨_,hL,hm.swap hj e1 (.inl ⟨rfl,rfl,rfl⟩) (Only.setRow w b _) hK (hK _ (hm.gen _ _ e1)) (hm.cap _ _ _ _ e1) ⟨rfl,?_,fun b c s h=>by cases h;rfl⟩,rfl⟩;rw [hd1,List.take_zero,List.nil_append,List.append_nil,← hlen] at c3;exact c3
     ·exact absurd rfl hne
    ·cases he
   ·cases he
  ·cases he
 ·cases he
theorem Zl {obL:Oid->Option Ob} (hag:∀ id o l,obL id=some o->σ id=some l->ob id=some o) {f:Nat->AV} {x y:Opd} {u u':Value} {r:AV×List (Oid×Option Ob)} {im:Nat->Prop} (hsrc:∀ ys,D4 obL .int (y.ev f)=some ys->D4 ob .int (y.ev f)=some ys) (hr:AV.Rep σ im w (x.ev f) u) (_:u'=u') (h:K7 f obL x y=some r):K7 f ob x y=some r:=by
 unfold K7 at h ⊢;split at h
 ·rename_i j k n hx;rw [hx] at hr;obtain ⟨b,cap,g,_⟩:=hr;split at h
  ·rename_i ys hys;simp only [hsrc ys hys];split at h
   ·rename_i et t xs hj;simp only [hag _ _ _ hj g];exact h
   ·cases h
  ·cases h
 ·rename_i j off len hx;rw [hx] at hr
  have hloc:∃ l,σ j=some l:=by
   rcases hr with ⟨g,_⟩|⟨b,cap,g,_⟩|⟨lc,g,_⟩
   ·exact ⟨_,g⟩
   ·exact ⟨_,g⟩
   ·exact ⟨_,g⟩
  obtain ⟨l,g⟩:=hloc;split at h
  ·rename_i ys hys;simp only [hsrc ys hys];split at h
   ·rename_i et xs hj;simp only [hag _ _ _ hj g];exact h
   ·cases h
  ·cases h
 ·cases h
theorem W0 {o:Oper} {a:Act} {f:Nat->AV} {v:AV} {ty:TypeId} {x:Operand} {x':Opd} {lo hi:Option Operand} {lo' hi':Option Opd} (ho:o.op=.slice ty x lo hi none) (ht:P.underlying ty=some .string) (h0:Opd.of x=some x') (h1:Gm lo=some lo') (h2:Gm hi=some hi')
  (he:Yx f x' lo' hi'=some v) (hm:Mem0 G w0 ob σ K w) (hK:∀ n,K n->K' n)
  (hf:∀ x∈o.op.operands,∀ y,Opd.of x=some y->AV.Rep σ (imm ob σ) w (y.ev f) (a.eval x)):Oper.does P o a w (Goes G w0 ob K' σ (imm ob σ) w v):=by
 have r1:=hf x (by simp [ho,Op.operands]) x' h0
 have hf':∀ z,lo=some z∨hi=some z∨none=some z->∀ y,Opd.of z=some y->AV.Rep σ (imm ob σ) w (y.ev f) (a.eval z):=by
  intro z hz y hy;refine hf z ?_ y hy;simp only [ho,Op.operands];rcases hz with rfl|rfl|h
  ·simp
  ·simp
  ·cases h
 unfold Yx at he;split at he
 ·rename_i s hx;rw [hx] at r1;have e1:a.eval x=.string s:=r1;split at he
  ·rename_i l h q1 q2;split at he
   ·rename_i hc;obtain rfl:=osj he;have hb:=Eg (P:=P) (isS:=false) (len:=s.size) (cap:=s.size) (m:=(s.size:Int)) h1 h2 (show Gm none=some none from rfl) (fun h=>absurd rfl h) hf' q1 q2 (.inl ⟨rfl,rfl⟩) ⟨hc.1,hc.2.1,hc.2.2,Int.le_refl _⟩ (Nat.le_refl _);refine Oper.does_value ?_ (Goes.same hm hK (show AV.Rep σ (imm ob σ) w (.str (s.extract l.toNat h.toNat)) (.string (s.extract l.toNat h.toNat)) from rfl));simp only [Option.map_none] at hb;simp [execOp,ho,Instr.sliceAt,run_underlying ht,Instr.slice,e1,hb]
   ·cases he
  ·cases he
 ·cases he
end
end
section
open Go.RowKit Go.Deep
def AV.cellsA:AV->List AV
 | .agg cs=>cs
 | c=>[c]
def Aed (n:Nat) (zc:List AV):List AV:=(List.replicate n zc).flatten
def Np (P:Program) (t:TypeId):Option (TypeId×Nat×List AV) :=
 match P.underlying t with
 | some (.slice e)=>match P.info? e with
  | some i=>match i.zero with
   | some z=>if decide (0<i.size)&&(z.cells.size==i.size&&z.cells.toList.all (·.oneCell')) then some (e,i.bytes,z.cells.toList.map AV.of1) else none
   | none=>none
  | none=>none
 | _=>none
def Om (f:Nat->AV) (i:Oid) (e:TypeId) (t:Ty) (bytes:Nat) (zc:List AV) (len cap:Opd):Option (AV×List (Oid×Option Ob)) :=
 match len.ev f,cap.ev f with
 | .int _ n,.int _ c=>if t.size=zc.length/\0<=n/\n<=c/\c<=1073741824/\(bytes:Int)*c<=140737488355328 then some (.own i t 0 n.toNat,[(i,some (.vec e zc.length n.toNat (Aed n.toNat zc)))]) else none
 | _,_=>none
def Sc (f:Nat->AV) (i:Oid) (e:TypeId) (t:Ty) (sz:Nat) (zs:List Opd):Option (AV×List (Oid×Option Ob)) :=
 if (t.size==sz&&zs.all fun z=>(z.ev f).cellsA.length==sz&&(z.ev f).cellsA.all AV.one)=true then
  some (.own i t 0 zs.length,[(i,some (.vec e sz zs.length (zs.flatMap fun z=>(z.ev f).cellsA)))]) else none
def Zx (ob:Oid->Option Ob) (t:Ty):AV->Option (Nat×List AV)
 | .nils=>some (0,[])
 | .tree u xs=>match Ty.eq? u t with
  | some h=>some (xs.length,(Km h xs).flatMap t.av)
  | none=>none
 | .giv _ u xs=>match Ty.eq? u t with
  | some h=>some (xs.length,(Km h xs).flatMap t.av)
  | none=>none
 | .ftr R u xs=>match Ty.eq? u t with
  | some h=>some (xs.length,(Km h xs).flatMap (t.avM (some R)))
  | none=>none
 | .own i _ off len=>match ob i with
  | some (.vec _ sz n cs)=>if sz=t.size/\off+len<=n then some (len,(cs.drop (off*sz)).take (len*sz)) else none
  | _=>none
 | _=>none
def Io (f:Nat->AV) (ob:Oid->Option Ob) (i:Oid) (e:TypeId) (t:Ty) (bytes:Nat) (x y:Opd):Option (Nat×AV×List (Oid×Option Ob)) :=
 match Zx ob t (y.ev f) with
 | some (m,ds)=>match x.ev f with
  | .nils=>if m<=1073741824/\m*bytes<=140737488355328 then some (1,.own i t 0 m,[(i,some (.vec e t.size m ds))]) else none
  | .own j _ off len=>match ob j with
   | some (.vec e' sz n cs)=>if off=0/\len<=n/\e'=e/\sz=t.size/\len+m<=1073741824/\(len+m)*bytes<=140737488355328 then
     some (2,.own (j.1,i.2) t 0 (len+m),[(j,none),((j.1,i.2),some (.vec e sz (len+m) (cs.take (len*sz)++ds)))]) else none
   | _=>none
  | _=>none
 | none=>none
theorem R6 {sz:Nat}:∀ (vss:List (List Value)) (ps:List (Nat×Value)) (k:Nat) (cells:Array Value),ps.length=vss.length ->
  (∀ (i:Nat) (p:Nat×Value) (vs:List Value),ps[i]? =some p->vss[i]? =some vs->p.1=k+i/\p.2.cells.toList=vs/\vs.length=sz)->(k+vss.length)*sz<=cells.size ->
  ∃ cs,Instr.fill (fun i=>some (i*sz,sz)) cells ps=some cs/\cs.size=cells.size/\∀ j,cs[j]? =if k*sz<=j/\j<(k+vss.length)*sz then vss.flatten[j - k*sz]? else cells[j]?
 | [],[],k,cells,_,_,_=>⟨cells,rfl,rfl,fun j=>by rw [if_neg (by simp)]⟩
 | [],_ :: _,_,_,h,_,_=>by simp at h
 | _ :: _,[],_,_,h,_,_=>by simp at h
 | y :: ys,p :: ps,k,cells,hl,hp,hs=>by
  obtain ⟨i,v⟩:=p;obtain ⟨e1,e2,e3⟩:=hp 0 (i,v) y (by simp) (by simp);simp only [Nat.add_zero] at e1;subst e1;have hv:v.cells.size=sz:=by rw [← Array.length_toList,e2,e3]
  simp only [List.length_cons] at hs;have hmul:(i+(ys.length+1))*sz=i*sz+sz+ys.length*sz:=by rw [Nat.add_mul,Nat.succ_mul];omega
  have hsz:i*sz+v.cells.size<=cells.size:=by rw [hv];omega
  have hf:=Gr (i*sz) v.cells.toList 0 cells (by rw [Array.length_toList];omega);rw [← Array.toList_zipIdx,Array.foldl_toList] at hf;obtain ⟨g1,g2⟩:=hf
  obtain ⟨cs,h1,h2,h3⟩:=R6 ys ps (i+1) _ (by simpa using hl) (fun j q z hq hz=>by
   have:=hp (j+1) q z (by simpa using hq) (by simpa using hz);exact ⟨by omega,this.2⟩) (by rw [g1,show i+1+ys.length=i+(ys.length+1) by omega];exact hs)
  refine ⟨cs,?_,by rw [h2,g1],fun j=>?_⟩
  ·simp only [Instr.fill];rw [if_neg (by simp [hv];omega)];exact h1
  ·have h1m:(i+1)*sz=i*sz+sz:=Nat.succ_mul _ _;have h2m:(i+1+ys.length)*sz=i*sz+sz+ys.length*sz:=by rw [Nat.add_mul,h1m]
   rw [h3 j,h1m,h2m,List.length_cons,hmul,List.flatten_cons];by_cases c1:i*sz+sz<=j
   ·by_cases c2:j<i*sz+sz+ys.length*sz
    ·rw [if_pos ⟨c1,c2⟩,if_pos ⟨by omega,c2⟩,List.getElem?_append_right oM,e3,Nat.sub_sub]
    ·rw [if_neg oM,if_neg oM,g2 j,if_neg (by rw [Array.length_toList];omega)]
   ·rw [if_neg oM,g2 j];by_cases c3:i*sz<=j
    ·rw [if_pos (by rw [Array.length_toList];omega),if_pos oM,List.getElem?_append_left oM,e2,Nat.add_zero]
    ·rw [if_neg oM,if_neg oM]
theorem Ty.av_one:∀ (t:Ty) (x:t.D),∀ c∈t.av x,c.one=true
 | .int,_,c,h=>by obtain rfl:=List.mem_singleton.1 h;rfl
 | .bool,_,c,h=>by obtain rfl:=List.mem_singleton.1 h;rfl
 | .str,_,c,h=>by obtain rfl:=List.mem_singleton.1 h;rfl
 | .slice _,_,c,h=>by obtain rfl:=List.mem_singleton.1 h;rfl
 | .pair a b,x,c,h=>by
  rcases List.mem_append.1 h with h|h
  ·exact Ty.av_one a _ c h
  ·exact Ty.av_one b _ c h
theorem Ty.av_len:∀ (t:Ty) (x:t.D),(t.av x).length=t.size
 | .int,_=>rfl
 | .bool,_=>rfl
 | .str,_=>rfl
 | .slice _,_=>rfl
 | .pair a b,x=>by simp only [Ty.av,List.length_append,Ty.av_len a,Ty.av_len b,Ty.size]
theorem Ty.avs_len {t:Ty} (xs:List t.D):(xs.flatMap t.av).length=xs.length*t.size:=by
 induction xs with
 | nil=>simp
 | cons x xs ih=>rw [List.flatMap_cons,List.length_append,ih,Ty.av_len,List.length_cons,Nat.succ_mul];omega
theorem Ty.avs_get {t:Ty}:∀ (xs:List t.D) (i:Nat) (hi:i<xs.length) (j:Nat),j<t.size->(xs.flatMap t.av)[i*t.size+j]? =(t.av xs[i])[j]?
 | [],i,hi,_,_=>absurd hi (by simp)
 | x :: r,0,_,j,hj=>by
  rw [List.flatMap_cons,Nat.zero_mul,Nat.zero_add,List.getElem_cons_zero,List.getElem?_append_left (by rw [Ty.av_len];exact hj)]
 | x :: r,i+1,hi,j,hj=>by
  rw [List.flatMap_cons,List.getElem_cons_succ,List.getElem?_append_right (by rw [Ty.av_len,Nat.succ_mul];omega),Ty.av_len];rw [show (i+1)*t.size+j - t.size=i*t.size+j by rw [Nat.succ_mul];omega];exact Ty.avs_get r i (by simpa using hi) j hj
theorem Ty.avM_one {g:Option (Nat->Prop)}:∀ (t:Ty) (x:t.D),∀ c∈t.avM g x,c.one=true
 | .int,_,c,h=>by obtain rfl:=List.mem_singleton.1 h;rfl
 | .bool,_,c,h=>by obtain rfl:=List.mem_singleton.1 h;rfl
 | .str,_,c,h=>by obtain rfl:=List.mem_singleton.1 h;rfl
 | .slice _,_,c,h=>by obtain rfl:=List.mem_singleton.1 h;cases g <;> rfl
 | .pair a b,x,c,h=>by
  rcases List.mem_append.1 h with h|h
  ·exact Ty.avM_one a _ c h
  ·exact Ty.avM_one b _ c h
theorem Dl (m:Option (Nat->Prop)):∀ (t:Ty) (x:t.D),(t.avM m x).length=t.size
 | .int,_ | .bool,_ | .str,_ | .slice _,_=>rfl
 | .pair a b,x=>by simp only [Ty.avM,List.length_append,Dl m a,Dl m b,Ty.size]
theorem Ty.avsM_len {g:Option (Nat->Prop)} {t:Ty} (xs:List t.D):(xs.flatMap (t.avM g)).length=xs.length*t.size:=by
 induction xs with
 | nil=>simp
 | cons x xs ih=>rw [List.flatMap_cons,List.length_append,ih,Dl,List.length_cons,Nat.succ_mul];omega
theorem Ty.avsM_get {g:Option (Nat->Prop)} {t:Ty}:∀ (xs:List t.D) (i:Nat) (hi:i<xs.length) (j:Nat),j<t.size->(xs.flatMap (t.avM g))[i*t.size+j]? =(t.avM g xs[i])[j]?
 | [],i,hi,_,_=>absurd hi (by simp)
 | x :: r,0,_,j,hj=>by
  rw [List.flatMap_cons,Nat.zero_mul,Nat.zero_add,List.getElem_cons_zero,List.getElem?_append_left (by rw [Dl];exact hj)]
 | x :: r,i+1,hi,j,hj=>by
  rw [List.flatMap_cons,List.getElem_cons_succ,List.getElem?_append_right (by rw [Dl,Nat.succ_mul];omega),Dl];rw [show (i+1)*t.size+j - t.size=i*t.size+j by rw [Nat.succ_mul];omega];exact Ty.avsM_get r i (by simpa using hi) j hj
section
variable {P:Program} {G:World->Prop} {w0 w w':World} {ob:Oid->Option Ob} {σ:Oid->Option Loc} {K K':Nat->Prop} {im:Nat->Prop}
theorem Ty.size_pos:∀ t:Ty,0<t.size
 | .int | .bool | .str | .slice _=>by simp [Ty.size]
 | .pair a b=>by have:=Ty.size_pos a;simp only [Ty.size];omega
theorem Xo {t:Ty} {A:Option Addr} {c:Nat} {xs:List t.D} {l:List Addr} (hs:Sl im w t A c xs l) :
  ∃ us:List Value,(A=none->xs.length=0)/\(∀ ad,A=some ad->∀ j u,us[j]? =some u->w.cell? (ad.add j)=some u)/\AV.RepL σ im w (xs.flatMap t.av) us:=by
 obtain ⟨_,_,f,_,hf⟩:=hs;rcases Nat.eq_zero_or_pos xs.length with h0|h0
 ·obtain rfl:=List.length_eq_zero_iff.1 h0;exact ⟨[],fun _=>rfl,fun _ _ j u h=>by simp at h,rfl⟩
 ·obtain ⟨ad,rfl,_,hm⟩:=hf h0;have hsz:=Ty.size_pos t
  have hex:∀ j,j<xs.length*t.size->∃ v c,w.cell? (ad.add j)=some v/\(xs.flatMap t.av)[j]? =some c/\AV.Rep σ im w c v:=by
   intro j hj;have hi:j / t.size<xs.length:=Nat.div_lt_of_lt_mul (by rw [Nat.mul_comm];exact hj);have hmod:=Nat.mod_lt j hsz;have hj':j / t.size*t.size+j % t.size=j:=by rw [Nat.mul_comm];exact Nat.div_add_mod j t.size
   obtain ⟨_,hc⟩:=Ty.av_rep (σ:=σ) (hm _ hi);obtain ⟨v,c,h1,h2,h3⟩:=hc _ hmod;rw [Bt,hj'] at h1;refine ⟨v,c,h1,?_,h3⟩;have:=Ty.avs_get xs _ hi _ hmod;rw [hj'] at this;rw [this];exact h2
  refine ⟨(List.range (xs.length*t.size)).map fun j=>(w.cell? (ad.add j)).getD undef,(fun h=>by cases h),fun ad' e j u hu=>?_,AV.RepL.of_get (by rw [Ty.avs_len];simp) fun j c v h1 h2=>?_⟩
  ·obtain rfl:=osj e;rw [List.getElem?_map] at hu;obtain ⟨j',hj',rfl⟩:=oms.1 hu;have hlt:=(gSi.1 hj').1;rw [List.length_range] at hlt;rw [List.getElem?_range hlt] at hj';obtain rfl:=osj hj';obtain ⟨v,_,h1,_⟩:=hex j hlt;rw [h1];rfl
  ·rw [List.getElem?_map] at h2;obtain ⟨j',hj',rfl⟩:=oms.1 h2;have hlt:=(gSi.1 hj').1;rw [List.length_range] at hlt;rw [List.getElem?_range hlt] at hj';obtain rfl:=osj hj';obtain ⟨v,c',g1,g2,g3⟩:=hex j hlt;rw [g1];rw [g2] at h1;obtain rfl:=osj h1;exact g3
theorem Vy (g:Option (Nat->Prop)) {t:Ty} {A:Option Addr} {c:Nat} {xs:List t.D} {l:List Addr} (hs:Sl (mR g im) w t A c xs l) :
  ∃ us:List Value,(A=none->xs.length=0)/\(∀ ad,A=some ad->∀ j u,us[j]? =some u->w.cell? (ad.add j)=some u)/\AV.RepL σ im w (xs.flatMap (t.avM g)) us:=by
 obtain ⟨_,_,f,_,hf⟩:=hs;rcases Nat.eq_zero_or_pos xs.length with h0|h0
 ·obtain rfl:=List.length_eq_zero_iff.1 h0;exact ⟨[],fun _=>rfl,fun _ _ j u h=>by simp at h,rfl⟩
 ·obtain ⟨ad,rfl,_,hm⟩:=hf h0;have hsz:=Ty.size_pos t
  have hex:∀ j,j<xs.length*t.size->∃ v c,w.cell? (ad.add j)=some v/\(xs.flatMap (t.avM g))[j]? =some c/\AV.Rep σ im w c v:=by
   intro j hj;have hi:j / t.size<xs.length:=Nat.div_lt_of_lt_mul (by rw [Nat.mul_comm];exact hj);have hmod:=Nat.mod_lt j hsz;have hj':j / t.size*t.size+j % t.size=j:=by rw [Nat.mul_comm];exact Nat.div_add_mod j t.size
   obtain ⟨_,hc⟩:=Ty.avM_rep (σ:=σ) g (hm _ hi);obtain ⟨v,c,h1,h2,h3⟩:=hc _ hmod;rw [Bt,hj'] at h1;refine ⟨v,c,h1,?_,h3⟩;have:=Ty.avsM_get (g:=g) xs _ hi _ hmod;rw [hj'] at this;rw [this];exact h2
  refine ⟨(List.range (xs.length*t.size)).map fun j=>(w.cell? (ad.add j)).getD undef,(fun h=>by cases h),fun ad' e j u hu=>?_,AV.RepL.of_get (by rw [Ty.avsM_len];simp) fun j c v h1 h2=>?_⟩
  ·obtain rfl:=osj e;rw [List.getElem?_map] at hu;obtain ⟨j',hj',rfl⟩:=oms.1 hu;have hlt:=(gSi.1 hj').1;rw [List.length_range] at hlt;rw [List.getElem?_range hlt] at hj';obtain rfl:=osj hj';obtain ⟨v,_,h1,_⟩:=hex j hlt;rw [h1];rfl
  ·rw [List.getElem?_map] at h2;obtain ⟨j',hj',rfl⟩:=oms.1 h2;have hlt:=(gSi.1 hj').1;rw [List.length_range] at hlt;rw [List.getElem?_range hlt] at hj';obtain rfl:=osj hj';obtain ⟨v,c',g1,g2,g3⟩:=hex j hlt;rw [g1];rw [g2] at h1;obtain rfl:=osj h1;exact g3
theorem Aca {t:Ty} {c:AV} {v:Value} {m:Nat} {ds:List AV} {obL:Oid->Option Ob} {lo:Nat} (h:Zx obL t c=some (m,ds)) (hob:∀ i o l,obL i=some o->σ i=some l->o.Rep lo σ im w l) (hr:AV.Rep σ im w c v) :
  ∃ (A:Option Addr) (cp:Nat) (us:List Value),v=.slice A m cp/\(A=none->m=0)/\(∀ ad,A=some ad->∀ j u,us[j]? =some u->w.cell? (ad.add j)=some u)/\AV.RepL σ im w ds us/\us.length=m*t.size/\∀ u∈us,u.oneCell'=true:=by
 have htree:∀ (xs:List t.D) (A:Option Addr) (c:Nat) (l:List Addr),v=.slice A xs.length c->Sl im w t A c xs l ->
   ∃ (A:Option Addr) (cp:Nat) (us:List Value),v=.slice A xs.length cp/\(A=none->xs.length=0)/\(∀ ad,A=some ad->∀ j u,us[j]? =some u->w.cell? (ad.add j)=some u)/\AV.RepL σ im w (xs.flatMap t.av) us/\us.length=xs.length*t.size/\∀ u∈us,u.oneCell'=true:=by
  intro xs A c l e hs;obtain ⟨us,g1,g2,g3⟩:=Xo (σ:=σ) hs;refine ⟨A,c,us,e,g1,g2,g3,by rw [g3.length,Ty.avs_len],AV.one_repL ?_ g3⟩;rw [List.all_eq_true];intro c hc;obtain ⟨x,_,hx⟩:=List.mem_flatMap.1 hc;exact Ty.av_one t x c hx
 unfold Zx at h;split at h
 ·simp only [Option.some.injEq,Prod.mk.injEq] at h;obtain ⟨rfl,rfl⟩:=h;exact ⟨none,0,[],hr,fun _=>rfl,fun _ _ j u h=>by simp at h,rfl,by simp,fun _ h=>by cases h⟩
 ·split at h
  ·rename_i hh _;simp only [Option.some.injEq,Prod.mk.injEq] at h;obtain ⟨rfl,rfl⟩:=h;obtain ⟨hh⟩:=hh;subst hh;obtain ⟨A,cp,l,e,hs⟩:=hr;exact htree _ A cp l e hs
  ·cases h
 ·split at h
  ·rename_i hh _;simp only [Option.some.injEq,Prod.mk.injEq] at h;obtain ⟨rfl,rfl⟩:=h;obtain ⟨hh⟩:=hh;subst hh;obtain ⟨A,cp,l,e,hs⟩:=hr.2;exact htree _ A cp l e hs
  ·cases h
 ·rename_i R u0 xs0;split at h
  ·rename_i hh _;simp only [Option.some.injEq,Prod.mk.injEq] at h;obtain ⟨rfl,rfl⟩:=h;obtain ⟨hh⟩:=hh;subst hh;obtain ⟨A,cp,l,e,hs⟩:=hr;obtain ⟨us,g1,g2,g3⟩:=Vy (σ:=σ) (im:=im) (some R) hs;refine ⟨A,cp,us,e,g1,g2,g3,by rw [g3.length,Ty.avsM_len],AV.one_repL ?_ g3⟩;rw [List.all_eq_true];intro c hc;obtain ⟨x,_,hx⟩:=List.mem_flatMap.1 hc;exact Ty.avM_one u0 x c hx
  ·cases h
 ·rename_i i u0 off len;split at h
  ·rename_i e sz n cs hj;split at h
   ·rename_i hc;obtain ⟨rfl,hle⟩:=hc;simp only [Option.some.injEq,Prod.mk.injEq] at h;obtain ⟨rfl,rfl⟩:=h;rcases hr with ⟨e1,e2,e3,e4⟩|⟨b,cap,e1,e2,e3⟩|⟨lc,e1,e2,e3,A,c,e4,e5⟩
    rotate_left
    rotate_left
    ·subst e3;exact ⟨A,c,[],e4,fun _=>rfl,fun ad _ j u' hu=>by simp at hu,by simp only [Nat.zero_mul,List.take_zero];rfl,by simp,fun _ h=>by cases h⟩
    ·subst e2 e3;exact ⟨none,0,[],e4,fun _=>rfl,fun ad _ j u' hu=>by simp at hu,by simp only [Nat.zero_mul,List.take_zero];rfl,by simp,fun _ h=>by cases h⟩
    ·obtain ⟨vs,hown,g2,g3,hsz⟩:=hob i _ _ hj e1;have hs0:=hsz b cap _ rfl;have hl:=hown.1;have hmul:off*t.size+len*t.size<=n*t.size:=by rw [← Nat.add_mul];exact Nat.mul_le_mul_right _ hle
     refine ⟨some ⟨b,off*u0.size,none⟩,cap - off,(vs.drop (off*t.size)).take (len*t.size),e3,(fun e=>by cases e),fun ad e j u' hu=>?_,(g2.drop _).take _,by rw [List.length_take,List.length_drop];omega,fun u hu=>g3 u (List.mem_of_mem_drop (List.mem_of_mem_take hu))⟩;obtain rfl:=osj e;rw [List.getElem?_take] at hu;split at hu
     ·rw [List.getElem?_drop] at hu;have:=hown.cells (g:=b) rfl _ _ hu;rw [A4,Nat.zero_add] at this;rw [A4,hs0];exact this
     ·cases hu
   ·cases h
  ·cases h
 ·cases h
theorem Goes.vec (h:Mem0 G w0 ob σ K w) (hK:∀ n,K n->K' n) {i:Oid} (hi:¬ K i.2) (hi':K' i.2) {e:TypeId} {t:Ty} {sz n:Nat} {cs:List AV} {vs:List Value} (hts:t.size=sz) (hb:Below w.heap.size w w') {l:Loc} (hl:∀ b c s,l=.at_ b c s->s=sz)
  (ho:ownsV w' w.heap.size e sz (l.val n) n vs) (hc:AV.RepL σ (imm ob σ) w cs vs) (h1:∀ v∈vs,v.oneCell'=true):Goes G w0 (upd ob i (some (.vec e sz n cs))) K' σ (imm ob σ) w (.own i t 0 n) (l.val n) w':=by
 have hs:=Goes.fresh h hi
 have hlt:∀ b c s,l=.at_ b c s->w.heap.size<=b/\b<w'.heap.size/\c<=maxLen:=by
  intro b c s e;subst e;refine ⟨(ho.lt b rfl).1,(ho.lt b rfl).2,?_⟩;rcases ho.2 with ⟨e1,_⟩|⟨_,_,_,e1,_,_,_,hm,_⟩
  ·cases e1
  ·cases e1;exact hm
 have hL:=Later.new (ob:=ob) (i:=i) (l:=l) (o:=.vec e sz n cs) hs hb (fun b c s e=>(hlt b c s e).1);refine ⟨_,hL,h.new hs hb hlt hK hi' ⟨vs,ho.low h.below.size,AV.RepL.later hL _ _ hc,h1,hl⟩,?_⟩;subst hts;cases l with
 | nil =>
  rcases ho.2 with ⟨_,h0⟩|⟨_,_,_,e1,_⟩
  ·rw [h0];exact .inl ⟨Ar _ _ _,rfl,rfl,rfl⟩
  ·cases e1
 | at_ b c s =>
  obtain rfl:=hl b c s rfl;rcases ho.2 with ⟨e1,_⟩|⟨g,cap,cur,e1,_,_,hc,_⟩
  ·cases e1
  ·cases e1;exact .inr (.inl ⟨b,c,Ar _ _ _,by omega,by simp [Loc.val]⟩)
theorem Fy {ty e:TypeId} {bytes:Nat} {zc:List AV} (h:Np P ty=some (e,bytes,zc)):P.underlying ty=some (.slice e)/\∃ i z,P.info? e=some i/\i.zero=some z/\i.bytes=bytes/\z.cells.toList.map AV.of1=zc/\i.size=zc.length/\0<zc.length/\z.cells.size=zc.length/\∀ v∈z.cells.toList,v.oneCell'=true:=by
 unfold Np at h;split at h
 ·rename_i e' hu;split at h
  ·rename_i i hi;split at h
   ·rename_i z hz;split at h
    ·rename_i hc;simp only [Bool.and_eq_true,decide_eq_true_eq,beq_iff_eq] at hc;obtain ⟨c1,c2,c3⟩:=hc;simp only [Option.some.injEq,Prod.mk.injEq] at h;obtain ⟨rfl,rfl,rfl⟩:=h;refine ⟨hu,i,z,hi,hz,rfl,rfl,by simp [c2],by simp;omega,by simp,fun v hv=>?_⟩;rw [List.all_eq_true] at c3;exact c3 v (by simpa using hv)
    ·cases h
   ·cases h
  ·cases h
 ·cases h
theorem Qv (z:Array Value) (n:Nat):(madeCells z (n*z.size)).toList=(List.replicate n z.toList).flatten:=by
 rcases Nat.eq_zero_or_pos z.size with h0|h0
 ·have:z= #[]:=Array.eq_empty_of_size_eq_zero h0;subst this;simp [madeCells]
 ·apply List.ext_getElem?;intro j;have hlen:(List.replicate n z.toList).flatten.length=n*z.size:=by simp
  by_cases hj:j<n*z.size
  ·have hi:j / z.size<n:=Nat.div_lt_of_lt_mul (by rw [Nat.mul_comm];exact hj);have hm:=Nat.mod_lt j h0
   have key:∀ (n i k:Nat),i<n->k<z.size->(List.replicate n z.toList).flatten[i*z.size+k]? =z.toList[k]?:=by
    intro n
    induction n with
    | zero=>intro i k h;omega
    | succ n ih =>
     intro i k hin hk;rw [List.replicate_succ,List.flatten_cons];cases i with
     | zero=>rw [Nat.zero_mul,Nat.zero_add,List.getElem?_append_left (by simpa using hk)]
     | succ i =>
      rw [List.getElem?_append_right (by rw [Array.length_toList,Nat.succ_mul];omega),Array.length_toList,show (i+1)*z.size+k - z.size=i*z.size+k by rw [Nat.succ_mul];omega];exact ih i k oM hk
   have:=key n _ _ hi hm;rw [show j / z.size*z.size+j % z.size=j by rw [Nat.mul_comm];exact Nat.div_add_mod j z.size] at this;rw [this];simp [madeCells,hj,hm]
  ·rw [List.getElem?_eq_none (by simp [madeCells];omega),List.getElem?_eq_none oM]
theorem Wn {o:Oper} {a:Act} {f:Nat->AV} {i:Oid} {v:AV} {us:List (Oid×Option Ob)} {ty e:TypeId} {t:Ty} {bytes:Nat} {zc:List AV} {x y:Operand} {x' y':Opd} (ho:o.op=.makeSlice ty x y) (hel:Np P ty=some (e,bytes,zc)) (h2:Opd.of x=some x') (h3:Opd.of y=some y')
  (he:Om f i e t bytes zc x' y'=some (v,us)) (hm:Mem0 G w0 ob σ K w) (hK:∀ n,K n->K' n) (hi:¬ K i.2) (hi':K' i.2)
  (hf:∀ x∈o.op.operands,∀ y,Opd.of x=some y->AV.Rep σ (imm ob σ) w (y.ev f) (a.eval x)):Oper.does P o a w (Goes G w0 (Ae us ob) K' σ (imm ob σ) w v):=by
 have r1:=hf x (by simp [ho,Op.operands]) x' h2;have r2:=hf y (by simp [ho,Op.operands]) y' h3;unfold Om at he;split at he
 ·rename_i k n k' c hx hy;rw [hx] at r1;rw [hy] at r2;have e1:a.eval x=.int k n:=r1;have e2:a.eval y=.int k' c:=r2;split at he
  ·rename_i hc;obtain ⟨c0,c1,c2,c3,c4⟩:=hc;obtain ⟨rfl,rfl⟩:=Prod.mk.inj (osj he);obtain ⟨ht,inf,z,q1,q2,q4,q5,q3,q7,q8,q9⟩:=Fy hel;have hrun:=run_make (P:=P) w ty e inf z ht q1 q2 k k' n c c1 c2 (by rw [q4];omega) oM;have hz8:z.cells.size=inf.size:=by rw [q8,q3]
   have hmade:(madeCells z.cells (c.toNat*inf.size)).toList=(List.replicate c.toNat z.cells.toList).flatten:=by rw [← hz8];exact Qv _ _
   have hzr:AV.RepL σ (imm ob σ) w zc z.cells.toList:=by rw [← q5];exact AV.of1_repL _
   have hrep:∀ m:Nat,AV.RepL σ (imm ob σ) w (Aed m zc) (List.replicate m z.cells.toList).flatten:=by
    intro m
    induction m with
    | zero=>exact rfl
    | succ m ih=>simp only [Aed,List.replicate_succ,List.flatten_cons] at ih ⊢;exact hzr.append ih
   have hcn:(List.replicate c.toNat z.cells.toList).flatten.take (n.toNat*zc.length)=(List.replicate n.toNat z.cells.toList).flatten:=by
    rw [show c.toNat=n.toNat+(c.toNat - n.toNat) by omega,← List.replicate_append_replicate,List.flatten_append,List.take_left'];simp [q8]
   have hg:=Goes.vec (w':=w.alloc (.cells (madeCells z.cells (c.toNat*inf.size)) e)) hm hK hi hi' (e:=e) (n:=n.toNat) (cs:=Aed n.toNat zc) (vs:=(List.replicate n.toNat z.cells.toList).flatten) c0 ((Below.refl _ _).alloc (Nat.le_refl _) _) (l:=.at_ w.heap.size c.toNat zc.length) (fun b c s h=>by cases h;rfl)
    ⟨by simp [q8],.inr ⟨w.heap.size,c.toNat,madeCells z.cells (c.toNat*inf.size),rfl,Nat.le_refl _,by show (w.heap.push _)[w.heap.size]? =_;simp,by omega,by simp only [maxLen];omega,by simp [madeCells,q3],by rw [hmade,hcn]⟩⟩ (hrep _) (fun v hv=>by
     obtain ⟨l,hl,hv⟩:=List.mem_flatten.1 hv;obtain rfl:=(List.mem_replicate.1 hl).2;exact q9 v hv)
   exact Oper.does_value (by simp [execOp,ho,e1,e2,hrun,Loc.val]) hg
  ·cases he
 ·cases he
theorem Xc {c:AV} {v:Value} (h1:c.cellsA.all AV.one=true) (hr:AV.Rep σ im w c v):AV.RepL σ im w c.cellsA v.cells.toList:=by
 by_cases hagg:∃ cs,c=.agg cs
 ·obtain ⟨cs,rfl⟩:=hagg;obtain ⟨vs,e,hl⟩:=hr;rw [e];simpa [Value.cells,AV.cellsA] using hl
 ·have e:c.cellsA=[c]:=by cases c <;> first|rfl|exact absurd ⟨_,rfl⟩ hagg
  rw [e] at h1 ⊢;have hone:=AV.one_rep (by simpa using h1) hr;have:v.cells.toList=[v]:=by cases v <;> first|rfl|cases hone
  rw [this];exact ⟨v,[],rfl,hr,rfl⟩
theorem Yg {f:Nat->AV} {a:Act} {sz:Nat}:∀ {xs:List Operand} {zs:List Opd},Opd.ofL xs=some zs->(zs.all fun z=>(z.ev f).cellsA.length==sz&&(z.ev f).cellsA.all AV.one)=true->(∀ x∈xs,∀ y,Opd.of x=some y->AV.Rep σ im w (y.ev f) (a.eval x)) ->
  zs.length=xs.length/\AV.RepL σ im w (zs.flatMap fun z=>(z.ev f).cellsA) (xs.map fun x=>(a.eval x).cells.toList).flatten/\∀ x∈xs,(a.eval x).cells.toList.length=sz/\∀ v∈(a.eval x).cells.toList,v.oneCell'=true
 | [],zs,h,_,_=>by
  obtain rfl:[]=zs:=osj h;exact ⟨rfl,rfl,fun x h=>by cases h⟩
 | x :: xs,zs,h,he,hf=>by
  simp only [Opd.ofL] at h;split at h
  ·rename_i z zs' h1 h2;obtain rfl:=osj h;rw [List.all_cons,Bool.and_eq_true,Bool.and_eq_true,beq_iff_eq] at he;obtain ⟨⟨g1,g2⟩,g3⟩:=he;obtain ⟨q1,q2,q3⟩:=Yg h2 g3 (fun u hu=>hf u (by simp [hu]));have hc:=Xc g2 (hf x (by simp) z h1);refine ⟨by simp [q1],?_,fun u hu=>?_⟩
   ·rw [List.flatMap_cons,List.map_cons,List.flatten_cons];exact hc.append q2
   ·rcases List.mem_cons.1 hu with rfl|hu
    ·exact ⟨by rw [hc.length,g1],AV.one_repL g2 hc⟩
    ·exact q3 u hu
  ·cases h
theorem Acf {o:Oper} {a:Act} {f:Nat->AV} {i:Oid} {v:AV} {us:List (Oid×Option Ob)} {ty e:TypeId} {t:Ty} {bytes n:Nat} {zc:List AV} {parts:Array (Nat×Operand)} {zs:List Opd} (ho:o.op=.buildSlice ty n parts) (hel:Np P ty=some (e,bytes,zc))
  (hp:parts.toList.map (·.1)=List.range n) (h2:Opd.ofL (parts.toList.map (·.2))=some zs) (hn:n*zc.length<=16777216)
  (he:Sc f i e t zc.length zs=some (v,us)) (hm:Mem0 G w0 ob σ K w) (hK:∀ n,K n->K' n) (hi:¬ K i.2) (hi':K' i.2)
  (hf:∀ x∈o.op.operands,∀ y,Opd.of x=some y->AV.Rep σ (imm ob σ) w (y.ev f) (a.eval x)):Oper.does P o a w (Goes G w0 (Ae us ob) K' σ (imm ob σ) w v):=by
 obtain ⟨ht,inf,z,q1,q2,q4,q5,q3,q7,q8,q9⟩:=Fy hel;unfold Sc at he;split at he
 ·rename_i hall;rw [Bool.and_eq_true,beq_iff_eq] at hall;obtain ⟨c0,hall⟩:=hall;obtain ⟨rfl,rfl⟩:=Prod.mk.inj (osj he);have hops:o.op.operands=(parts.toList.map (·.2)).toArray:=by rw [ho];rfl
  obtain ⟨hlen,hrep,hone⟩:=Yg h2 hall (fun x hx=>hf x (by rw [hops];simpa using hx))
  have hpn:parts.size=n:=by
   have:=congrArg List.length hp
   simpa using this
  have hyn:zs.length=n:=by rw [hlen];simpa using hpn
  generalize hV:((parts.toList.map (·.2)).map fun x=>(a.eval x).cells.toList)=vss at hrep;have hvl:vss.length=n:=by rw [← hV];simp [hpn]
  have hfl:vss.flatten.length=n*zc.length:=by
   have:∀ (l:List (List Value)),(∀ vs∈l,vs.length=zc.length)->l.flatten.length=l.length*zc.length:=by
    intro l
    induction l with
    | nil=>simp
    | cons v l ih=>intro h;rw [List.flatten_cons,List.length_append,ih (fun vs hv=>h vs (by simp [hv])),h v (by simp),List.length_cons,Nat.succ_mul];omega
   rw [this vss (fun vs hv=>by rw [← hV] at hv;obtain ⟨x,hx,rfl⟩:=List.mem_map.1 hv;exact (hone x hx).1),hvl]
  have hfill:∀ cells:Array Value,cells.size=n*zc.length->Instr.fill (fun i=>some (i*zc.length,zc.length)) cells (parts.toList.map fun x=>(x.1,a.eval x.2))=some vss.flatten.toArray:=by
   intro cells hcells
   obtain ⟨cs,g1,g2,g3⟩:=R6 (sz:=zc.length) vss (parts.toList.map fun x=>(x.1,a.eval x.2)) 0 cells (by simp [hpn,hvl]) (fun j p y hp1 hy=>by
    rw [List.getElem?_map] at hp1;obtain ⟨q,hq,rfl⟩:=oms.1 hp1;have hj:=(gSi.1 hq).1;have e1:(parts.toList.map (·.1))[j]? =some q.1:=by rw [List.getElem?_map,hq];rfl
    rw [hp,List.getElem?_range (by simpa [hpn] using hj)] at e1;rw [← hV,List.getElem?_map,List.getElem?_map,hq] at hy;have hy:=(osj hy).symm;refine ⟨by simpa using (osj e1).symm,hy.symm,?_⟩;rw [hy];exact (hone q.2 (List.mem_map.2 ⟨q,List.mem_of_getElem? hq,rfl⟩)).1) (by rw [hcells,Nat.zero_add,hvl];exact Nat.le_refl _)
   rw [g1];congr 1;apply Array.ext';apply List.ext_getElem?;intro j;have:=g3 j;simp only [Nat.zero_mul,Nat.zero_le,true_and,Nat.zero_add,Nat.sub_zero] at this;rw [Array.getElem?_toList,this];split
   ·rfl
   ·rename_i hge;rw [List.getElem?_eq_none (by rw [hfl,← hvl];omega),Array.getElem?_eq_none (by rw [hcells,← hvl];omega)]
  have hrun:(execOp a.eval o).run P w=.ok (.value (.slice (some ⟨w.heap.size,0,none⟩) n n)) (w.alloc (.cells vss.flatten.toArray e)):=by
   have hle:¬ (16777216<n*zc.length):=by omega
   by_cases h0:n*zc.length=0
   ·simp [execOp,ho,Instr.buildSlice,run_underlying ht,sizeOf,typeInfo,q1,q3,h0,newRow];rw [hfill _ (by simp [h0])];simp
   ·simp [execOp,ho,Instr.buildSlice,run_underlying ht,sizeOf,typeInfo,q1,q2,q3,h0,hle,newRow,zeroValue];rw [hfill _ (by simp)];simp
  have hg:=Goes.vec (w':=w.alloc (.cells vss.flatten.toArray e)) hm hK hi hi' (e:=e) (n:=n) (cs:=zs.flatMap fun z=>(z.ev f).cellsA) (vs:=vss.flatten) c0 ((Below.refl _ _).alloc (Nat.le_refl _) _) (l:=.at_ w.heap.size n zc.length) (fun b c s h=>by cases h;rfl)
   ⟨hfl,.inr ⟨w.heap.size,n,vss.flatten.toArray,rfl,Nat.le_refl _,by show (w.heap.push _)[w.heap.size]? =_;simp,Nat.le_refl _,by
     have:n<=n*zc.length:=Nat.le_mul_of_pos_right _ q7;simp only [maxLen];omega,by simp [hfl],by rw [List.take_of_length_le (by simp [hfl])]⟩⟩ hrep (fun v hv=>by
    obtain ⟨l,hl,hv⟩:=List.mem_flatten.1 hv;rw [← hV] at hl;obtain ⟨x,hx,rfl⟩:=List.mem_map.1 hl;exact (hone x hx).2 v hv)
  rw [hyn];exact Oper.does_value hrun hg
 ·cases he
theorem Rr {o:Oper} {a:Act} {f:Nat->AV} {i:Oid} {k:Nat} {v:AV} {us:List (Oid×Option Ob)} {ty e:TypeId} {t:Ty} {bytes:Nat} {zc:List AV} {x y:Operand} {x' y':Opd} {c:Call} (ho:o.op=.call c) (hcb:c.callee=.builtin .append) (hca:c.args= #[x,y]) (hct:c.argTypes= #[ty,ty])
  (hel:Np P ty=some (e,bytes,zc)) (hzt:zc.length=t.size) (h2:Opd.of x=some x') (h3:Opd.of y=some y')
  {obL:Oid->Option Ob} (he:Io f obL i e t bytes x' y'=some (k,v,us)) (hob:∀ i o l,obL i=some o->σ i=some l->o.Rep w0.heap.size σ (imm ob σ) w l) (hE:k=2->obL=ob) (hm:Mem0 G w0 ob σ K w) (hK:∀ n,K n->K' n) (hi:¬ K i.2) (hi':K' i.2)
  (hf:∀ x∈o.op.operands,∀ y,Opd.of x=some y->AV.Rep σ (imm ob σ) w (y.ev f) (a.eval x)):Oper.does P o a w (Goes G w0 (Ae us ob) K' σ (imm ob σ) w v):=by
 have r1:=hf x (by simp [ho,Op.operands,Call.operands,hca]) x' h2;have r2:=hf y (by simp [ho,Op.operands,Call.operands,hca]) y' h3;obtain ⟨ht,inf,z,q1,q2,q4,q5,q3,q7,q8,q9⟩:=Fy hel;rw [hzt] at q3 q7 q8
 have hex:∀ r w',(Builtin.append_ #[ty,ty] o.type #[a.eval x,a.eval y]).run P w=.ok r w'->(execOp a.eval o).run P w=.ok (.value r) w':=by
  intro r w' h;simp [execOp,ho,resolve,hcb,hca,hct,invoke,builtin,h]
 unfold Io at he;split at he
 ·rename_i m ds hys;obtain ⟨A,cp,ws,e2,hA,hsrc,hds,hwl,hw1⟩:=Aca hys hob r2;split at he
  ·rename_i hx;rw [hx] at r1;have e1:a.eval x=.slice none 0 0:=r1;split at he
   ·rename_i hc;simp only [Option.some.injEq,Prod.mk.injEq] at he;obtain ⟨_,rfl,rfl⟩:=he;obtain ⟨l',w',hr,hs,hcase⟩:=Jk (P:=P) (rt:=o.type) (w:=w) (cs:=[]) (n:=0) (l:=.nil) ht q1 q2 q3 q4 q7 q8 (fun _ _ _ e=>by cases e) (base:=w.heap.size) (Ie w _ e t.size) (ds:=ws) (m:=m) (cp:=cp) hwl hw1 hA hsrc (by simpa using hc.1) (by simpa using hc.2);simp only [Nat.zero_add,List.nil_append] at hr hcase
    have hb:Below w.heap.size w w'/\ownsV w' w.heap.size e t.size (l'.val m) m ws:=by
     rcases hcase with ⟨_,_,h,_⟩|h
     ·cases h
     ·exact h
    exact Oper.does_value (hex _ _ (by rw [e1,e2];exact hr)) (Goes.vec hm hK hi hi' rfl hb.1 hs hb.2 hds hw1)
   ·cases he
  ·rename_i j u0 off len hx;rw [hx] at r1;split at he
   ·rename_i e' sz n cs hj;split at he
    ·rename_i hc;obtain ⟨rfl,c2,rfl,rfl,c4,c5⟩:=hc;simp only [Option.some.injEq,Prod.mk.injEq] at he;obtain ⟨hk,rfl,rfl⟩:=he;have hEE:obL=ob:=hE hk.symm;subst hEE
     have hsl:∃ l,σ j=some l/\a.eval x=l.val len/\(l=.nil->len=0):=by
      rcases r1 with ⟨g1,_,g3,g4⟩|⟨b,cap,g1,_,g4⟩|⟨_,_,g,_⟩
      rotate_left
      rotate_left
      ·exact absurd rfl g
      ·exact ⟨.nil,g1,g4,fun _=>g3⟩
      ·exact ⟨.at_ b cap u0.size,g1,by simpa [Loc.val] using g4,fun h=>by cases h⟩
     obtain ⟨l,g1,g2,g3⟩:=hsl;obtain ⟨vs,hown,p2,p3,hs⟩:=hm.obs j _ _ hj g1;have hvl:=hown.1
     have hown':ownsV w w0.heap.size e' t.size (l.val len) len (vs.take (len*t.size)):=hown.take c2 (fun g cap e=>by
      cases l with
      | nil=>cases e
      | at_ b c s=>cases e;rfl) (fun e=>by
      cases l with
      | nil=>rfl
      | at_ b c s=>cases e)
     have hown'':ownsV w w0.heap.size e' t.size (l.val len) len (vs.take (len*t.size)):=hown';obtain ⟨l',w',hr,hs',hcase⟩:=Jk (P:=P) (rt:=o.type) (w:=w) (l:=l) ht q1 q2 q3 q4 q7 q8 hs (base:=w0.heap.size) hown'' (ds:=ws) (m:=m) (cp:=cp) hwl hw1 hA hsrc c4 c5;have hcells:AV.RepL σ (imm obL σ) w (cs.take (len*t.size)++ds) (vs.take (len*t.size)++ws):=(p2.take _).append hds
     have hone:∀ v∈vs.take (len*t.size)++ws,v.oneCell'=true:=fun v hv=>by
      rcases List.mem_append.1 hv with hv|hv
      ·exact p3 v (List.mem_of_mem_take hv)
      ·exact hw1 v hv
     have hfr:σ (j.1,i.2)=none:=Goes.fresh hm (i:=(j.1,i.2)) hi;refine Oper.does_value (hex _ _ (by rw [g2,e2];exact hr)) ?_;rcases hcase with ⟨b,c,rfl,rfl,hb,ho'⟩|⟨hb,ho'⟩
     ·have hL:=Later.swap (o':=.vec e' t.size (len+m) (cs.take (len*t.size)++ds)) (c':=c) (s':=t.size) hj g1 (.inr hfr) hb;refine ⟨_,hL,hm.swap hj g1 (.inr hfr) hb hK hi' (hm.cap _ _ _ _ g1) ⟨_,ho',AV.RepL.later hL _ _ hcells,hone,hs'⟩,.inr (.inl ⟨b,c,Ar _ _ _,?_,by simp [Loc.val]⟩)⟩;rcases ho'.2 with ⟨e1,_⟩|⟨_,_,_,e1,_,_,hc',_⟩
      ·cases e1
      ·cases e1;omega
     ·have hg:=Goes.vec (hm.kill j) hK (i:=(j.1,i.2)) hi hi' (t:=t) rfl hb hs' ho' (AV.RepL.later (Later.kill j) _ _ hcells) hone;obtain ⟨σ',hL,hM,hR⟩:=hg;exact ⟨σ',(Later.kill j).trans hL,hM,hR⟩
    ·cases he
   ·cases he
  ·cases he
 ·cases he
end
end
section
open Go.RowKit Go.Deep
def Hy (g:AV->Option AV):List AV->Option (List AV)
 | []=>some []
 | c :: cs=>match g c,Hy g cs with
  | some d,some ds=>some (d :: ds)
  | _,_=>none
def Jt {α:Type} (g:List AV->Option α) (sz:Nat):Nat->List AV->Option (List α)
 | 0,_=>some []
 | n+1,cs=>match g (cs.take sz),Jt g sz n (cs.drop sz) with
  | some x,some xs=>some (x :: xs)
  | _,_=>none
def Vr {α:Type} (ob:Oid->Option Ob) (sz:Nat) (g:List AV->Option α):AV->Option (List α)
 | .own i _ off len=>match ob i with
  | some (.vec _ sz' n cs)=>if sz'=sz/\off+len<=n then Jt g sz len ((cs.drop (off*sz)).take (len*sz)) else none
  | _=>none
 | _=>none
def rdC (ob:Oid->Option Ob):(t:Ty)->List AV->Option t.D
 | .int,cs=>ofI cs
 | .bool,cs=>ofB cs
 | .str,cs=>ofS cs
 | .slice u,cs=>match cs with
  | [c]=>match D4 ob u c with
   | some xs=>some xs
   | none=>Vr ob u.size (rdC ob u) c
  | _=>none
 | .pair a b,cs=>match rdC ob a (cs.take a.size),rdC ob b (cs.drop a.size) with
  | some x,some y=>some (x,y)
  | _,_=>none
def gnd (ob:Oid->Option Ob):Nat->AV->Option AV
 | 0,_=>none
 | n+1,c=>match c with
  | .int k m=>some (.int k m)
  | .bool b=>some (.bool b)
  | .str s=>some (.str s)
  | .nils=>some .nils
  | .err b o=>some (.err b o)
  | .tree t xs=>some (.tree t xs)
  | .giv _ t xs=>some (.tree t xs)
  | .ftr _ t xs=>some (.tree t xs)
  | .own i t off len=>match ob i with
   | some (.arr _ u xs)=>if off+len<=xs.length then some (.tree u ((xs.drop off).take len)) else none
   | some (.vec _ _ _ _)=>(Vr ob t.size (rdC ob t) (.own i t off len)).map (.tree t)
   | _=>none
  | .mp i=>match ob i with
   | some (.map mt t es)=>some (.mtree mt t es)
   | _=>none
  | .mtree mt t es=>some (.mtree mt t es)
  | .box i k=>match ob i with
   | some (.cells _ cs)=>(Hy (gnd ob n) (cs.drop k)).map .ref
   | _=>none
  | .agg cs=>(Hy (gnd ob n) cs).map .agg
  | .fn f cs=>(Hy (gnd ob n) cs).map (.fn f)
  | .ref cs=>(Hy (gnd ob n) cs).map .ref
  | _=>none
def hdL (p:Oid) (u:Ty) (xss:List (List u.D)):List AV:=xss.zipIdx.map fun x=>.own (kid p x.2) u 0 x.1.length
def Aag (p:Oid) (e:TypeId) (u:Ty) (xss:List (List u.D)):List (Oid×Option Ob):=xss.zipIdx.map fun x=>(kid p x.2,some (.arr e u x.1))
inductive RL where
 | sc (c:AV)
 | new (e:TypeId) (t:Ty) (xs:List t.D)
 | newM (e e':TypeId) (u:Ty) (xss:List (List u.D))
 | arg (i:Nat) (k:Option Nat)
 | argS (i:Nat) (k:Option Nat) (sz l h:Nat)
 | frz (c:AV)
 | imm (c:AV)
def Rs (vs:List Value) (i:Nat):Option Nat->Option Value
 | none=>vs[i]?
 | some k=>match vs[i]? with
  | some (.agg a)=>a.toList[k]?
  | _=>none
def X1 (az:List AV) (i:Nat):Option Nat->AV
 | none=>az.getD i .any
 | some k=>match az[i]? with
  | some (.agg cs)=>cs.getD k .any
  | _=>.any
structure RV where
 tup:Bool
 ps:List (Bool×List RL)
def AV.scal:AV->Bool
 | .int .. | .bool .. | .str .. | .nils | .err ..=>true
 | _=>false
mutual
def AV.gndB:AV->Bool
 | .int .. | .bool .. | .str .. | .nils | .err ..=>true
 | .tree ..=>true
 | .ftr ..=>true
 | .mtree ..=>true
 | .agg cs=>AV.gndBL cs
 | .tup cs=>AV.gndBL cs
 | .fn _ cs=>AV.gndBL cs
 | .ref cs=>AV.gndBL cs
 | _=>false
def AV.gndBL:List AV->Bool
 | []=>true
 | c :: cs=>c.gndB&&AV.gndBL cs
end
def AV.part (sz l h:Nat):AV->AV
 | .tree t xs=>if t.size=sz/\l<=h/\h<=xs.length then .tree t ((xs.take h).drop l) else .any
 | .giv _ t xs=>if t.size=sz/\l<=h/\h<=xs.length then .tree t ((xs.take h).drop l) else .any
 | .ftr R t xs=>if t.size=sz/\l<=h/\h<=xs.length then .ftr R t ((xs.take h).drop l) else .any
 | _=>.any
def RL.out (mk:Nat->Oid) (az:List AV):Nat->List RL->List AV×List (Oid×Option Ob)
 | _,[]=>([],[])
 | j,.sc c :: r=>(c :: (RL.out mk az j r).1,(RL.out mk az j r).2)
 | j,.new e t xs :: r=>(.own (mk j) t 0 xs.length :: (RL.out mk az (j+1) r).1,(mk j,some (.arr e t xs)) :: (RL.out mk az (j+1) r).2)
 | j,.newM e e' u xss :: r=>(.own (mk j) (.slice u) 0 xss.length :: (RL.out mk az (j+1) r).1,(mk j,some (.vec e 1 xss.length (hdL (mk j) u xss))) :: (Aag (mk j) e' u xss++(RL.out mk az (j+1) r).2))
 | j,.arg i k :: r=>(X1 az i k :: (RL.out mk az j r).1,(RL.out mk az j r).2)
 | j,.argS i k sz l h :: r=>((X1 az i k).part sz l h :: (RL.out mk az j r).1,(RL.out mk az j r).2)
 | j,.frz c :: r=>(c :: (RL.out mk az j r).1,(RL.out mk az j r).2)
 | j,.imm c :: r=>(c :: (RL.out mk az j r).1,(RL.out mk az j r).2)
def RL.fi:RL->Bool
 | .frz _=>true
 | .imm _=>true
 | _=>false
def RL.isI:RL->Bool
 | .imm _=>true
 | _=>false
def Kt:List (Bool×List RL)->List AV->List AV
 | [],_=>[]
 | (b,rs) :: ps,us=>(if b then .agg (us.take rs.length) else us.headD .any) :: Kt ps (us.drop rs.length)
def Ec:List (Bool×List RL)->List Value->List Value
 | [],_=>[]
 | (b,rs) :: ps,us=>(if b then .agg (us.take rs.length).toArray else us.headD undef) :: Ec ps (us.drop rs.length)
def RV.leaves (r:RV):List RL:=r.ps.flatMap (·.2)
def RV.noI (r:RV):Bool:=r.leaves.all fun l=> !l.isI
def RV.out (r:RV) (mk:Nat->Oid) (az:List AV):AV×List (Oid×Option Ob) :=
 (if r.tup then .tup (Kt r.ps (RL.out mk az 0 r.leaves).1) else (Kt r.ps (RL.out mk az 0 r.leaves).1).headD .any,(RL.out mk az 0 r.leaves).2)
def RL.RepL (lo:Nat) (im:Nat->Prop) (vs:List Value) (w:World):List RL->List Value->List Loc->Prop
 | [],us,ls=>us=[]/\ls=[]
 | .sc c :: r,us,ls=>∃ u us',us=u :: us'/\AV.Rep (fun _=>none) im w c u/\c.scal=true/\RL.RepL lo im vs w r us' ls
 | .new e t xs :: r,us,ls=>∃ l ls' us',us=l.val xs.length :: us'/\ls=l :: ls'/\t.flat=true/\ownsV w lo e t.size (l.val xs.length) xs.length (t.cells xs)/\(∀ b c s,l=.at_ b c s->s=t.size)/\RL.RepL lo im vs w r us' ls'
 | .newM e e' u xss :: r,us,ls=>∃ (l:Loc) (kl ls':List Loc) (us' ks:List Value),us=l.val xss.length :: us'/\ls=l :: (kl++ls')/\((kl.length=xss.length/\u.flat=true)/\(ownsV w lo e 1 (l.val xss.length) xss.length ks/\(∀ b c s,l=.at_ b c s->s=1)) /\
   ∀ (k:Nat) (xs:List u.D) (l:Loc),xss[k]? =some xs->kl[k]? =some l->ks[k]? =some (l.val xs.length)/\ownsV w lo e' u.size (l.val xs.length) xs.length (u.cells xs)/\∀ b c s,l=.at_ b c s->s=u.size)/\RL.RepL lo im vs w r us' ls'
 | .arg i k :: r,us,ls=>∃ u us',us=u :: us'/\Rs vs i k=some u/\RL.RepL lo im vs w r us' ls
 | .argS i k sz l h :: r,us,ls=>∃ A n c us',us=.slice (if c=l then A else A.map (·.add (l*sz))) (h - l) (c - l) :: us'/\Rs vs i k=some (.slice A n c)/\RL.RepL lo im vs w r us' ls
 | .frz c :: r,us,ls=>∃ u us',us=u :: us'/\AV.Rep (fun _=>none) (fun b=>lo<=b) w c u/\c.gndB=true/\RL.RepL lo im vs w r us' ls
 | .imm c :: r,us,ls=>∃ u us',us=u :: us'/\AV.Rep (fun _=>none) (fun b=>im b∨lo<=b) w c u/\c.gndB=true/\RL.RepL lo im vs w r us' ls
def Fe:List Loc->Prop
 | []=>True
 | l :: r=>(∀ b c s,l=.at_ b c s->∀ c' s',.at_ b c' s'∉r)/\Fe r
def RV.Rep (lo:Nat) (im:Nat->Prop) (vs:List Value) (w:World) (r:RV) (u:Value):Prop :=
 ∃ us ls,RL.RepL lo im vs w r.leaves us ls/\(Fe ls/\((∃ l∈r.leaves,l.fi=true)->ls=[]))/\u=(if r.tup then .tuple (Ec r.ps us).toArray else (Ec r.ps us).headD undef)
def Bs (P:Program) (G:World->Prop) (f:FuncId) (args:List AV) (r:RV):Prop :=
 ∀ (w:World) (im:Nat->Prop) (vs:List Value),(∀ w',Below w.heap.size w w'->G w')->AV.RepL (fun _=>none) im w args vs ->
  Calls P f vs.toArray w fun e w'=>∃ u,e=.returned u/\Below w.heap.size w w'/\r.Rep w.heap.size im vs w' u
def Yt:Option Ty->AV->AV
 | some t,.nils=>.tree t []
 | _,c=>c
def Ac7:List (Option Ty)->List AV->List AV
 | t :: ts,c :: cs=>Yt t c :: Ac7 ts cs
 | _,cs=>cs
def Afk:List (Option Ty)->AV->AV
 | ts,.agg cs=>.agg (Ac7 ts cs)
 | t :: _,c=>Yt t c
 | [],c=>c
def Ig:List (List (Option Ty))->List AV->List AV
 | t :: ts,c :: cs=>Afk t c :: Ig ts cs
 | _,cs=>cs
section
variable {P:Program} {G:World->Prop} {w0 w w':World} {ob:Oid->Option Ob} {σ:Oid->Option Loc} {K K':Nat->Prop} {im:Nat->Prop}
theorem Rz {t:Option Ty} {c:AV} {v:Value} (h:AV.Rep σ im w c v):AV.Rep σ im w (Yt t c) v:=by
 unfold Yt;split
 ·exact ⟨none,0,[],h,by simp,by simp [maxLen],fun _=>[],by simp,fun h=>absurd h (by simp)⟩
 ·exact h
theorem V2:∀ {ts:List (Option Ty)} {cs:List AV} {vs:List Value},AV.RepL σ im w cs vs->AV.RepL σ im w (Ac7 ts cs) vs
 | _ :: _,_ :: _,_,⟨u,us,e,h1,h2⟩=>⟨u,us,e,Rz h1,V2 h2⟩
 | [],_,_,h=>by simpa [Ac7] using h
 | _ :: _,[],_,h=>by simpa [Ac7] using h
theorem Aas {ts:List (Option Ty)} {c:AV} {v:Value} (h:AV.Rep σ im w c v):AV.Rep σ im w (Afk ts c) v:=by
 unfold Afk;split
 ·obtain ⟨vs,e,hl⟩:=h;exact ⟨vs,e,V2 hl⟩
 ·exact Rz h
 ·exact h
theorem Mz:∀ {ts:List (List (Option Ty))} {cs:List AV} {vs:List Value},AV.RepL σ im w cs vs->AV.RepL σ im w (Ig ts cs) vs
 | _ :: _,_ :: _,_,⟨u,us,e,h1,h2⟩=>⟨u,us,e,Aas h1,Mz h2⟩
 | [],_,_,h=>by simpa [Ig] using h
 | _ :: _,[],_,h=>by simpa [Ig] using h
theorem P5 {g:AV->Option AV} {σ':Oid->Option Loc} {im':Nat->Prop} (hg:∀ c d v,g c=some d->AV.Rep σ im w c v->AV.Rep σ' im' w d v):∀ {cs ds:List AV} {vs:List Value},Hy g cs=some ds->AV.RepL σ im w cs vs->AV.RepL σ' im' w ds vs
 | [],ds,vs,h,hr=>by
  obtain rfl:[]=ds:=osj h;exact hr
 | c :: cs,ds,vs,h,⟨u,us,e,h1,h2⟩=>by
  simp only [Hy] at h;split at h
  ·rename_i d ds' q1 q2;obtain rfl:=osj h;exact ⟨u,us,e,hg c d u q1 h1,P5 hg q2 h2⟩
  ·cases h
theorem Xk {e:TypeId} {t:Ty} {xs:List t.D} {b cap base off len:Nat} (hfl:t.flat=true) (h:ownsV w base e t.size (.slice (some ⟨b,0,none⟩) xs.length cap) xs.length (t.cells xs)) (hle:off+len<=xs.length) :
  ∃ l,Sl (fun b'=>b'=b) w t (some ⟨b,off*t.size,none⟩) (cap - off) ((xs.drop off).take len) l:=by
 have hc:xs.length<=cap/\cap<=maxLen:=by
  rcases h.2 with ⟨e1,_⟩|⟨_,_,_,e1,_,_,h1,h2,_⟩
  ·cases e1
  ·cases e1;exact ⟨h1,h2⟩
 have hlen:((xs.drop off).take len).length=len:=by rw [List.length_take,List.length_drop];omega
 refine ⟨_,by rw [hlen];omega,by omega,fun i=>(List.range t.size).map ((⟨b,(off+i)*t.size,none⟩:Addr).add ·),rfl,fun _=>⟨_,rfl,rfl,fun i hi=>?_⟩⟩;rw [hlen] at hi
 have hget:((xs.drop off).take len)[i]'(by rw [hlen];exact hi)=xs[off+i]'oM:=by
  rw [List.getElem_take,List.getElem_drop]
 rw [hget,A4,← Nat.add_mul];refine Ty.mem_flat hfl fun j hj=>?_
 rw [A4];have hx:(t.enc (xs[off+i]'oM))[j]? =some ((t.enc (xs[off+i]'oM))[j]'(by rw [Ty.enc_length _ hfl];exact hj)):=gEg _;rw [hx];exact J9 hfl h (gEg _) hx
theorem Pu {α:Type} {g:List AV->Option α} {sz:Nat}:∀ {n:Nat} {cs:List AV} {xs:List α},Jt g sz n cs=some xs->xs.length=n/\∀ (k:Nat) (x:α),xs[k]? =some x->g ((cs.drop (k*sz)).take sz)=some x
 | 0,cs,xs,h=>by
  obtain rfl:[]=xs:=osj h;exact ⟨rfl,fun k x h=>by simp at h⟩
 | n+1,cs,xs,h=>by
  simp only [Jt] at h;split at h
  ·rename_i y ys h1 h2;obtain rfl:=osj h;obtain ⟨q1,q2⟩:=Pu h2;refine ⟨by simp [q1],fun k x hk=>?_⟩;cases k with
   | zero =>
    obtain rfl:=osj hk
    simpa using h1
   | succ k =>
    have:=q2 k x (by simpa using hk);rw [List.drop_drop] at this;rw [Nat.succ_mul,Nat.add_comm];exact this
  ·cases h
theorem Ab0 {lo:Nat} (hob:∀ i o l,ob i=some o->σ i=some l->o.Rep lo σ im w l) {R:Nat->Prop} (hR1:∀ b,im b->R b) (hR2:∀ i o b c s,ob i=some o->σ i=some (.at_ b c s)->R b) {t:Ty} {c:AV} {v:Value} {ys:List t.D} (h:D4 ob t c=some ys) (hr:AV.Rep σ im w c v) :
  ∃ A cp l,v=.slice A ys.length cp/\Sl R w t A cp ys l:=by
 unfold D4 at h;split at h
 ·obtain rfl:=osj h;exact ⟨none,0,[],hr,by simp,by simp [maxLen],fun _=>[],by simp,fun h=>absurd h (by simp)⟩
 ·split at h
  ·rename_i hh _;obtain rfl:=osj h;obtain ⟨hh⟩:=hh;subst hh;obtain ⟨A,cp,l,e,hs⟩:=hr;exact ⟨A,cp,l,e,Al (fun b _ hb=>hR1 b hb) hs⟩
  ·cases h
 ·split at h
  ·rename_i hh _;obtain rfl:=osj h;obtain ⟨hh⟩:=hh;subst hh;obtain ⟨A,cp,l,e,hs⟩:=hr.2;exact ⟨A,cp,l,e,Al (fun b _ hb=>hR1 b hb) hs⟩
  ·cases h
 ·split at h
  ·rename_i hh _;obtain rfl:=osj h;obtain ⟨hh⟩:=hh;subst hh;obtain ⟨A,cp,l,e,hs⟩:=hr;exact ⟨A,cp,l,e,Al (fun b _ hb=>hR1 b hb.1) hs⟩
  ·cases h
 ·rename_i i u0 off len;split at h
  ·rename_i e u xs hj;split at h
   ·rename_i hle;split at h
    ·rename_i hh _;obtain rfl:=osj h;obtain ⟨hh⟩:=hh;subst hh;rw [C5];have hlen:((xs.drop off).take len).length=len:=by rw [List.length_take,List.length_drop];omega
     rcases hr with ⟨g1,rfl,rfl,g4⟩|⟨b,cap,g1,g2,g3⟩|⟨lc,g1,g2,g3,A,c,g4,g5⟩
     rotate_left
     rotate_left
     ·subst g3;exact ⟨A,c,[],by rw [hlen];exact g4,by simp,g5,fun _=>[],by simp,fun h=>absurd h (by simp)⟩
     ·exact ⟨none,0,[],by rw [hlen];exact g4,by simp,by simp [maxLen],fun _=>[],by simp,fun h=>absurd h (by simp)⟩
     ·obtain ⟨hfl,hown,hs⟩:=hob _ _ _ hj g1;have hs0:=hs b cap _ rfl;obtain ⟨l,hl⟩:=Xk hfl hown hle;exact ⟨_,_,l,by rw [hlen,← hs0];exact g3,Al (fun b' _ e=>by subst e;exact hR2 _ _ _ _ _ hj g1) hl⟩
    ·cases h
   ·cases h
  ·cases h
 ·cases h
theorem Yj {lo:Nat} (hob:∀ i o l,ob i=some o->σ i=some l->o.Rep lo σ im w l) {R:Nat->Prop} (hR1:∀ b,im b->R b) (hR2:∀ i o b c s,ob i=some o->σ i=some (.at_ b c s)->R b) {t:Ty} (ih:∀ (cs:List AV) (vs:List Value) (x:t.D),AV.RepL σ im w cs vs->rdC ob t cs=some x->∃ l,Ty.Val R w t vs x l)
  {c:AV} {v:Value} {ys:List t.D} (h:Vr ob t.size (rdC ob t) c=some ys) (hr:AV.Rep σ im w c v):∃ A cp l,v=.slice A ys.length cp/\Sl R w t A cp ys l:=by
 unfold Vr at h;split at h
 ·rename_i i u0 off len;split at h
  ·rename_i e sz n cs hj;split at h
   ·rename_i hc;obtain ⟨rfl,hle⟩:=hc;obtain ⟨hlen,hget⟩:=Pu h;subst hlen;rcases hr with ⟨g1,rfl,h0,g4⟩|⟨b,cap,g1,g2,g3⟩|⟨lc,g1,g2,g3,A,c,g4,g5⟩
    rotate_left
    rotate_left
    ·exact ⟨A,c,[],by rw [g4,g3],by rw [g3];simp,g5,fun _=>[],by rw [g3];simp,fun h=>absurd h (by rw [g3];simp)⟩
    ·exact ⟨none,0,[],by rw [g4,h0],by rw [h0];simp,by simp [maxLen],fun _=>[],by rw [h0];simp,fun h=>absurd h (by rw [h0];simp)⟩
    ·obtain ⟨vs,hown,p2,p3,hs⟩:=hob _ _ _ hj g1;have hs0:=hs b cap _ rfl;have hl:=hown.1
     have hcap:cap<=maxLen:=by
      rcases hown.2 with ⟨e1,_⟩|⟨_,_,_,e1,_,_,_,h2,_⟩
      ·cases e1
      ·cases e1;exact h2
     have hsz:=Ty.size_pos t
     have hex:∀ k:Nat,∃ ls,∀ (hk:k<ys.length),Ty.Mem R w t ((⟨b,off*u0.size,none⟩:Addr).add (k*t.size)) ys[k] ls:=by
      intro k;by_cases hk:k<ys.length
      ·have hq:=hget k _ (gEg hk)
       have hseg:((((cs.drop (off*t.size)).take (ys.length*t.size)).drop (k*t.size)).take t.size)=(cs.drop ((off+k)*t.size)).take t.size:=by
        rw [List.drop_take,List.drop_drop,List.take_take,← Nat.add_mul];congr 1;have:(k+1)*t.size<=ys.length*t.size:=Nat.mul_le_mul_right _ hk;rw [Nat.succ_mul] at this;omega
       rw [hseg] at hq;have hmul:(off+k+1)*t.size<=n*t.size:=Nat.mul_le_mul_right _ oM;rw [Nat.succ_mul] at hmul;obtain ⟨l,hv⟩:=ih _ _ _ ((p2.drop ((off+k)*t.size)).take t.size) hq
       obtain ⟨bs,hm⟩:=Ty.Val.mem hv (a:=(⟨b,off*u0.size,none⟩:Addr).add (k*t.size)) (fun j hj=>by
        have hjl:j<t.size:=by rw [hv.length] at hj;exact hj
        rw [List.getElem?_take,if_pos hjl,List.getElem?_drop];have hin:(off+k)*t.size+j<vs.length:=by omega
        have:=hown.cells (g:=b) rfl _ _ (gEg hin);rw [A4,Nat.zero_add] at this;rw [A4,A4,hs0,← Nat.add_mul,gEg hin];exact this)
       exact ⟨bs,fun _=>hm⟩
      ·exact ⟨[],fun h=>absurd h hk⟩
     refine ⟨_,cap - off,_,g3,by omega,by omega,fun k=>Classical.choose (hex k),rfl,fun _=>⟨_,rfl,hR2 _ _ _ _ _ hj g1,fun k hk=>Classical.choose_spec (hex k) hk⟩⟩
   ·cases h
  ·cases h
 ·cases h
theorem Oc {lo:Nat} (hob:∀ i o l,ob i=some o->σ i=some l->o.Rep lo σ im w l) {R:Nat->Prop} (hR1:∀ b,im b->R b) (hR2:∀ i o b c s,ob i=some o->σ i=some (.at_ b c s)->R b):∀ (t:Ty) (cs:List AV) (vs:List Value) (x:t.D),AV.RepL σ im w cs vs->rdC ob t cs=some x->∃ l,Ty.Val R w t vs x l
 | .int,cs,vs,x,hr,h=>⟨[],Ty.ofAV_enc (t:=.int) rfl hr h,rfl⟩
 | .bool,cs,vs,x,hr,h=>⟨[],Ty.ofAV_enc (t:=.bool) rfl hr h,rfl⟩
 | .str,cs,vs,x,hr,h=>⟨[],Ty.ofAV_enc (t:=.str) rfl hr h,rfl⟩
 | .slice u,cs,vs,x,hr,h=>by
  simp only [rdC] at h;split at h
  ·rename_i c;obtain ⟨v,_,rfl,hv,rfl⟩:=hr;split at h
   ·rename_i ys hs;obtain rfl:=osj h;obtain ⟨A,cp,l,e,hsl⟩:=Ab0 hob hR1 hR2 hs hv;exact ⟨l,A,cp,by rw [e],hsl⟩
   ·obtain ⟨A,cp,l,e,hsl⟩:=Yj hob hR1 hR2 (Oc hob hR1 hR2 u) h hv;exact ⟨l,A,cp,by rw [e],hsl⟩
  ·cases h
 | .pair a b,cs,vs,x,hr,h=>by
  simp only [rdC] at h;split at h
  ·rename_i y z h1 h2;obtain rfl:=osj h;obtain ⟨l1,v1⟩:=Oc hob hR1 hR2 a _ _ y (hr.take a.size) h1;obtain ⟨l2,v2⟩:=Oc hob hR1 hR2 b _ _ z (hr.drop a.size) h2;exact ⟨_,_,_,l1,l2,(List.take_append_drop a.size vs).symm,v1,v2,rfl⟩
  ·cases h
theorem Hg {lo:Nat} (hob:∀ i o l,ob i=some o->σ i=some l->o.Rep lo σ im w l) {R:Nat->Prop} (hR1:∀ b,im b->R b) (hR2:∀ i o b c s,ob i=some o->σ i=some (.at_ b c s)->R b) {σ2:Oid->Option Loc}:∀ (n:Nat) (c d:AV) (v:Value),gnd ob n c=some d->AV.Rep σ im w c v->AV.Rep σ2 R w d v
 | 0,_,_,_,h,_=>by cases h
 | n+1,c,d,v,h,hr=>by
  have ih:=fun {cs ds:List AV} {vs:List Value}=>P5 (σ:=σ) (im:=im) (w:=w) (σ':=σ2) (im':=R) (Hg hob hR1 hR2 n) (cs:=cs) (ds:=ds) (vs:=vs)
  simp only [gnd] at h;split at h
  ·obtain rfl:=osj h;exact hr
  ·obtain rfl:=osj h;exact hr
  ·obtain rfl:=osj h;exact hr
  ·obtain rfl:=osj h;exact hr
  ·obtain rfl:=osj h;exact hr
  ·obtain rfl:=osj h;obtain ⟨A,c,l,e,hs⟩:=hr;exact ⟨A,c,l,e,Al (fun b _ hb=>hR1 b hb) hs⟩
  ·obtain rfl:=osj h;obtain ⟨A,c,l,e,hs⟩:=hr.2;exact ⟨A,c,l,e,Al (fun b _ hb=>hR1 b hb) hs⟩
  ·obtain rfl:=osj h;obtain ⟨A,c,l,e,hs⟩:=hr;exact ⟨A,c,l,e,Al (fun b _ hb=>hR1 b hb.1) hs⟩
  ·rename_i i u0 off len;split at h
   ·rename_i e u xs hj;split at h
    ·rename_i hle;obtain rfl:=osj h;have hlen:((xs.drop off).take len).length=len:=by rw [List.length_take,List.length_drop];omega
     rcases hr with ⟨g1,rfl,rfl,g4⟩|⟨b,cap,g1,g2,g3⟩|⟨lc,g1,g2,g3,A,c,g4,g5⟩
     rotate_left
     rotate_left
     ·subst g3;exact ⟨A,c,[],by rw [hlen];exact g4,by simp,g5,fun _=>[],by simp,fun h=>absurd h (by simp)⟩
     ·exact ⟨none,0,[],by rw [hlen];exact g4,by simp,by simp [maxLen],fun _=>[],by simp,fun h=>absurd h (by simp)⟩
     ·obtain ⟨hfl,hown,hs⟩:=hob _ _ _ hj g1;have hs0:=hs b cap _ rfl;obtain ⟨l,hl⟩:=Xk hfl hown hle;exact ⟨_,_,l,by rw [hlen,← hs0];exact g3,Al (fun b' _ e=>by subst e;exact hR2 _ _ _ _ _ hj g1) hl⟩
    ·cases h
   ·obtain ⟨ys,hys,rfl⟩:=oms.1 h;obtain ⟨A,cp,l,e,hs⟩:=Yj hob hR1 hR2 (Oc hob hR1 hR2 _) hys hr;exact ⟨A,cp,l,e,hs⟩
   ·cases h
  ·rename_i i;split at h
   ·rename_i mt t es hj;obtain rfl:=osj h;obtain ⟨b,cap,sz,g1,g2⟩:=hr;exact ⟨b,g2,hR2 _ _ _ _ _ hj g1,hob _ _ _ hj g1⟩
   ·cases h
  ·obtain rfl:=osj h;obtain ⟨b,e,h1,h2⟩:=hr;exact ⟨b,e,hR1 _ h1,h2⟩
  ·rename_i i k;split at h
   ·rename_i ty cs hj;obtain ⟨ds,hds,rfl⟩:=oms.1 h;obtain ⟨b,cap,sz,g1,g2⟩:=hr;obtain ⟨vs,q1,q2,_⟩:=hob _ _ _ hj g1;refine ⟨b,k,vs.drop k,g2,⟨(Array.getElem?_eq_some_iff.1 q1).1,hR2 _ _ _ _ _ hj g1⟩,fun j u hu=>?_,ih hds (q2.drop k)⟩;rw [List.getElem?_drop] at hu;simp only [World.cell?,q1]
    simpa using hu
   ·cases h
  ·obtain ⟨ds,hds,rfl⟩:=oms.1 h;obtain ⟨vs,e,hl⟩:=hr;exact ⟨vs,e,ih hds hl⟩
  ·obtain ⟨ds,hds,rfl⟩:=oms.1 h;obtain ⟨vs,e,hl⟩:=hr;exact ⟨vs,e,ih hds hl⟩
  ·obtain ⟨ds,hds,rfl⟩:=oms.1 h;obtain ⟨b,k,vs,e1,e2,e3,e4⟩:=hr;exact ⟨b,k,vs,e1,⟨e2.1,hR1 _ e2.2⟩,e3,ih hds e4⟩
  ·cases h
theorem Ad9 {lo:Nat} (hob:∀ i o l,ob i=some o->σ i=some l->o.Rep lo σ im w l) (n:Nat) (c d:AV) (v:Value) (h:gnd ob n c=some d) (hr:AV.Rep σ im w c v):AV.Rep (fun _=>none) (fun _=>True) w d v :=
 Hg hob (fun _ _=>trivial) (fun _ _ _ _ _ _ _=>trivial) n c d v h hr
end
end
section
open Go.RowKit Go.Deep
def Ev (i:Oid) (j:Nat):Oid:=((i.1.1*16+j,0),i.2)
section
variable {P:Program} {G:World->Prop} {w0 w w':World} {ob:Oid->Option Ob} {σ:Oid->Option Loc} {K K':Nat->Prop} {im:Nat->Prop}
def Nr (ns:List (Oid×Ob×Loc)) (ob:Oid->Option Ob):Oid->Option Ob:=ns.foldl (fun ob x=>upd ob x.1 (some x.2.1)) ob
def Hx (ns:List (Oid×Ob×Loc)) (σ:Oid->Option Loc):Oid->Option Loc:=ns.foldl (fun σ x=>upd σ x.1 (some x.2.2)) σ
theorem Ix {α β:Type} (g:β->α) (k:β->Oid):∀ (ns:List β) (f:Oid->α) (j:Oid),(∀ x∈ns,k x≠j)->ns.foldl (fun f x=>upd f (k x) (g x)) f j=f j
 | [],_,_,_=>rfl
 | x :: r,f,j,h=>by
  rw [List.foldl_cons,Ix g k r _ j (fun y hy=>h y (by simp [hy])),Aq _ _ _ _ (fun e=>h x (by simp) e.symm)]
theorem Ha {α β:Type} (g:β->α) (k:β->Oid):∀ (ns:List β) (f:Oid->α) (x:β),(ns.map k).Nodup->x∈ns->ns.foldl (fun f x=>upd f (k x) (g x)) f (k x)=g x
 | [],_,_,_,h=>by cases h
 | y :: r,f,x,nd,h=>by
  rw [List.map_cons,List.nodup_cons] at nd;rw [List.foldl_cons];rcases List.mem_cons.1 h with rfl|h
  ·rw [Ix g k r _ _ (fun z hz e=>nd.1 (by rw [← e];exact List.mem_map_of_mem hz)),Ar]
  ·exact Ha g k r _ x nd.2 h
theorem Cd {us:List (Oid×Option Ob)} {ob:Oid->Option Ob} {j:Oid} (h:∀ u∈us,u.1≠j):Ae us ob j=ob j:=by
 induction us generalizing ob with
 | nil=>rfl
 | cons u us ih =>
  have:=ih (ob:=upd ob u.1 u.2) (fun v hv=>h v (by simp [hv]));simp only [Ae,List.foldl_cons] at this ⊢;rw [this,Aq _ _ _ _ (fun e=>h u (by simp) e.symm)]
theorem Mem0.news (h:Mem0 G w0 ob σ K w) (hb:Below w.heap.size w w') (hK:∀ n,K n->K' n) (ns:List (Oid×Ob×Loc)) (nd:(ns.map (·.1)).Nodup) (hi:∀ x∈ns,σ x.1=none/\K' x.1.2)
  (hl:∀ x∈ns,∀ b c s,x.2.2=.at_ b c s->w.heap.size<=b/\b<w'.heap.size/\c<=maxLen) (hd:∀ x∈ns,∀ y∈ns,∀ b c s c' s',x.2.2=.at_ b c s->y.2.2=.at_ b c' s'->x.1=y.1)
  (ho:∀ x∈ns,∀ σ' im',(∀ y∈ns,σ' y.1=some y.2.2)->x.2.1.Rep w0.heap.size σ' im' w' x.2.2) :
  Later σ (Hx ns σ) (imm ob σ) (imm (Nr ns ob) (Hx ns σ)) w w'/\Mem0 G w0 (Nr ns ob) (Hx ns σ) K' w':=by
 have case:∀ j,(∃ x∈ns,x.1=j/\Nr ns ob j=some x.2.1/\Hx ns σ j=some x.2.2)∨((∀ x∈ns,x.1≠j)/\Nr ns ob j=ob j/\Hx ns σ j=σ j):=by
  intro j;by_cases hj:∃ x∈ns,x.1=j
  ·obtain ⟨x,hx,rfl⟩:=hj;exact .inl ⟨x,hx,rfl,Ha (fun x:Oid×Ob×Loc=>some x.2.1) (·.1) ns ob x nd hx,Ha (fun x:Oid×Ob×Loc=>some x.2.2) (·.1) ns σ x nd hx⟩
  ·have hj':∀ x∈ns,x.1≠j:=fun x hx e=>hj ⟨x,hx,e⟩
   exact .inr ⟨hj',Ix (fun x:Oid×Ob×Loc=>some x.2.1) (·.1) ns ob j hj',Ix (fun x:Oid×Ob×Loc=>some x.2.2) (·.1) ns σ j hj'⟩
 have hL:Later σ (Hx ns σ) (imm ob σ) (imm (Nr ns ob) (Hx ns σ)) w w':=by
  refine ⟨fun j k hj=>?_,fun b hlt him j o c s hoj hsj=>?_,fun b hlt _=>hb.block b hlt,hb.size⟩
  ·rcases case j with ⟨x,hx,rfl,_,_⟩|⟨_,_,e⟩
   ·rw [(hi x hx).1] at hj;cases hj
   ·rw [e];exact hj
  ·rcases case j with ⟨x,hx,rfl,_,e⟩|⟨_,e1,e2⟩
   ·rw [e] at hsj;have:=(hl x hx b c s (osj hsj)).1;omega
   ·rw [e1] at hoj;rw [e2] at hsj;exact him j o c s hoj hsj
 refine ⟨hL,h.below.trans (hb.mono h.below.size),h.inv,fun j l hj=>?_,fun j b c s hj=>?_,fun j b c s hj=>?_,fun j k b c s c' s' oj ok hoj hok hj hk=>?_,fun j o l hoj hj=>?_⟩
 ·rcases case j with ⟨x,hx,rfl,_,_⟩|⟨_,_,e⟩
  ·exact (hi x hx).2
  ·rw [e] at hj;exact hK _ (h.gen j l hj)
 ·rcases case j with ⟨x,hx,rfl,_,e⟩|⟨_,_,e⟩
  ·rw [e] at hj;have:=hl x hx b c s (osj hj);exact ⟨Nat.le_trans h.below.size this.1,this.2.1⟩
  ·rw [e] at hj;exact ⟨(h.lt j b c s hj).1,Nat.lt_of_lt_of_le (h.lt j b c s hj).2 hb.size⟩
 ·rcases case j with ⟨x,hx,rfl,_,e⟩|⟨_,_,e⟩
  ·rw [e] at hj;exact (hl x hx b c s (osj hj)).2.2
  ·rw [e] at hj;exact h.cap j b c s hj
 ·rcases case j with ⟨x,hx,rfl,_,e⟩|⟨_,e1,e2⟩ <;> rcases case k with ⟨y,hy,rfl,_,e'⟩|⟨_,e1',e2'⟩
  ·rw [e] at hj;rw [e'] at hk;exact hd x hx y hy b c s c' s' (osj hj) (osj hk)
  ·rw [e] at hj;rw [e2'] at hk;have:=(hl x hx b c s (osj hj)).1;have:=(h.lt k b c' s' hk).2;omega
  ·rw [e2] at hj;rw [e'] at hk;have:=(hl y hy b c' s' (osj hk)).1;have:=(h.lt j b c s hj).2;omega
  ·rw [e1] at hoj;rw [e2] at hj;rw [e1'] at hok;rw [e2'] at hk;exact h.inj j k b c s c' s' oj ok hoj hok hj hk
 ·rcases case j with ⟨x,hx,rfl,e,e'⟩|⟨_,e1,e2⟩
  ·rw [e] at hoj;rw [e'] at hj;obtain rfl:=osj hoj;obtain rfl:=osj hj;exact ho x hx _ _ fun y hy=>Ha (fun x:Oid×Ob×Loc=>some x.2.2) (·.1) ns σ y nd hy
  ·rw [e1] at hoj;rw [e2] at hj;exact (h.obs j o l hoj hj).later hL fun b c s el=>hb.block b (h.lt j b c s (el▸hj)).2
def Gt (p:Oid) (e:TypeId) (u:Ty) (xss:List (List u.D)) (kl:List Loc):List (Oid×Ob×Loc):=(xss.zip kl).zipIdx.map fun x=>(kid p x.2,.arr e u x.1.1,x.1.2)
def An (mk:Nat->Oid):Nat->List RL->List Loc->List (Oid×Ob×Loc)
 | j,.new e t xs :: r,l :: ls=>(mk j,.arr e t xs,l) :: An mk (j+1) r ls
 | j,.newM e e' u xss :: r,l :: ls=>(mk j,.vec e 1 xss.length (hdL (mk j) u xss),l) :: (Gt (mk j) e' u xss (ls.take xss.length)++An mk (j+1) r (ls.drop xss.length))
 | j,.sc _ :: r,ls=>An mk j r ls
 | j,.arg _ _ :: r,ls=>An mk j r ls
 | j,.argS .. :: r,ls=>An mk j r ls
 | j,.frz _ :: r,ls=>An mk j r ls
 | j,.imm _ :: r,ls=>An mk j r ls
 | _,_,_=>[]
theorem Hn {p:Oid} {e:TypeId} {u:Ty} {xss:List (List u.D)} {kl:List Loc} {x:Oid×Ob×Loc} (h:x∈Gt p e u xss kl):∃ k xs l,xss[k]? =some xs/\kl[k]? =some l/\x=(kid p k,.arr e u xs,l):=by
 obtain ⟨y,hy,rfl⟩:=List.mem_map.1 h;obtain ⟨⟨xs,l⟩,k⟩:=y;rw [List.mem_zipIdx_iff_getElem?] at hy;have hy':(xss.zip kl)[k]? =some (xs,l):=hy;rw [List.getElem?_zip_eq_some] at hy';exact ⟨k,xs,l,hy'.1,hy'.2,rfl⟩
theorem Vs {p:Oid} {e:TypeId} {u:Ty} {xss:List (List u.D)} {kl:List Loc} {k:Nat} {xs:List u.D} {l:Loc} (h1:xss[k]? =some xs) (h2:kl[k]? =some l):(kid p k,Ob.arr e u xs,l)∈Gt p e u xss kl:=by
 refine List.mem_map.2 ⟨((xs,l),k),?_,rfl⟩;rw [List.mem_zipIdx_iff_getElem?];show (xss.zip kl)[k]? =some (xs,l);rw [List.getElem?_zip_eq_some];exact ⟨h1,h2⟩
theorem Cq {mk:Nat->Oid}:∀ (rs:List RL) (ls:List Loc) (j:Nat) (x:Oid×Ob×Loc),x∈An mk j rs ls->∃ k,j<=k/\x.1.1.1=(mk k).1.1/\x.1.2=(mk k).2
 | .new e t xs :: r,l :: ls,j,x,h=>by
  simp only [An] at h;rcases List.mem_cons.1 h with rfl|h
  ·exact ⟨j,Nat.le_refl _,rfl,rfl⟩
  ·obtain ⟨k,h1,h2⟩:=Cq r ls (j+1) x h;exact ⟨k,by omega,h2⟩
 | .newM e e' u xss :: r,l :: ls,j,x,h=>by
  simp only [An] at h;rcases List.mem_cons.1 h with rfl|h
  ·exact ⟨j,Nat.le_refl _,rfl,rfl⟩
  ·rcases List.mem_append.1 h with h|h
   ·obtain ⟨k,xs,l,_,_,rfl⟩:=Hn h;exact ⟨j,Nat.le_refl _,rfl,rfl⟩
   ·obtain ⟨k,h1,h2⟩:=Cq r _ (j+1) x h;exact ⟨k,by omega,h2⟩
 | .sc _ :: r,ls,j,x,h=>Cq r ls j x (by simpa [An] using h)
 | .arg _ _ :: r,ls,j,x,h=>Cq r ls j x (by simpa [An] using h)
 | .argS .. :: r,ls,j,x,h=>Cq r ls j x (by simpa [An] using h)
 | .frz _ :: r,ls,j,x,h=>Cq r ls j x (by simpa [An] using h)
 | .imm _ :: r,ls,j,x,h=>Cq r ls j x (by simpa [An] using h)
 | [],_,_,_,h=>by simp [An] at h
 | .new _ _ _ :: _,[],_,_,h=>by simp [An] at h
 | .newM _ _ _ _ :: _,[],_,_,h=>by simp [An] at h
structure Ags (mk:Nat->Oid):Prop where
 top:∀ j,(mk j).1.2=0
 inj:∀ j k,(mk j).1.1=(mk k).1.1->j=k
theorem Xu (i:Oid):Ags (Ev i):=⟨fun _=>rfl,fun j k h=>by simp only [Ev] at h;omega⟩
theorem Xa {p:Oid} {e:TypeId} {u:Ty} {xss:List (List u.D)} {kl:List Loc}:((Gt p e u xss kl).map (·.1)).Nodup:=by
 unfold Gt;rw [List.map_map]
 have:((xss.zip kl).zipIdx.map ((fun x=>x.1)∘fun x:(List u.D×Loc)×Nat=>(kid p x.2,Ob.arr e u x.1.1,x.1.2)))=((xss.zip kl).zipIdx.map (·.2)).map (kid p):=by
  rw [List.map_map];rfl
 rw [this,List.zipIdx_map_snd];exact List.pairwise_map.2 ((List.pairwise_lt_range' (s:=0) (n:=(xss.zip kl).length)).imp fun h e=>by have:=N8 e;omega)
theorem Ej {mk:Nat->Oid} (hmk:Ags mk):∀ (rs:List RL) (ls:List Loc) (j:Nat),((An mk j rs ls).map (·.1)).Nodup
 | .new e t xs :: r,l :: ls,j=>by
  simp only [An,List.map_cons,List.nodup_cons];refine ⟨fun h=>?_,Ej hmk r ls (j+1)⟩;obtain ⟨x,hx,e⟩:=List.mem_map.1 h;obtain ⟨k,h1,h2,_⟩:=Cq r ls (j+1) x hx;rw [e] at h2;have:=hmk.inj _ _ h2;omega
 | .newM e e' u xss :: r,l :: ls,j=>by
  simp only [An,List.map_cons,List.map_append,List.nodup_cons];refine ⟨fun h=>?_,List.nodup_append.2 ⟨Xa,Ej hmk r _ (j+1),fun x hx y hy e=>?_⟩⟩
  ·rcases List.mem_append.1 h with h|h
   ·obtain ⟨x,hx,e⟩:=List.mem_map.1 h;obtain ⟨k,xs,l,_,_,rfl⟩:=Hn hx;have h0:=hmk.top j;rw [← e] at h0;simp [kid] at h0
   ·obtain ⟨x,hx,e⟩:=List.mem_map.1 h;obtain ⟨k,h1,h2,_⟩:=Cq r _ (j+1) x hx;rw [e] at h2;have:=hmk.inj _ _ h2;omega
  ·subst e;obtain ⟨x',hx',rfl⟩:=List.mem_map.1 hx;obtain ⟨k,xs,l,_,_,rfl⟩:=Hn hx';obtain ⟨y,hy,e⟩:=List.mem_map.1 hy;obtain ⟨k',h1,h2,_⟩:=Cq r _ (j+1) y hy;rw [e] at h2;have:=hmk.inj j k' h2;omega
 | .sc _ :: r,ls,j=>by simpa [An] using Ej hmk r ls j
 | .arg _ _ :: r,ls,j=>by simpa [An] using Ej hmk r ls j
 | .argS .. :: r,ls,j=>by simpa [An] using Ej hmk r ls j
 | .frz _ :: r,ls,j=>by simpa [An] using Ej hmk r ls j
 | .imm _ :: r,ls,j=>by simpa [An] using Ej hmk r ls j
 | [],_,_=>by simp [An]
 | .new _ _ _ :: _,[],_=>by simp [An]
 | .newM _ _ _ _ :: _,[],_=>by simp [An]
theorem Tk {p:Oid} {e:TypeId} {u:Ty} {xss:List (List u.D)} {kl:List Loc} (h:kl.length=xss.length):(Gt p e u xss kl).map (·.2.2)=kl:=by
 apply List.ext_getElem?;intro k;simp only [Gt,List.map_map,List.getElem?_map,List.getElem?_zipIdx];by_cases hk:k<kl.length
 ·have:(xss.zip kl)[k]? =some (xss[k]'oM,kl[k]):=by
   rw [List.getElem?_zip_eq_some];exact ⟨gEg _,gEg _⟩
  rw [this,gEg hk];rfl
 ·rw [List.getElem?_eq_none (by rw [List.length_zip];omega),List.getElem?_eq_none oM];rfl
theorem Cx {mk:Nat->Oid} {lo:Nat} {vs:List Value}:∀ {rs:List RL} {us:List Value} {ls:List Loc} (j:Nat),RL.RepL lo im vs w rs us ls->(An mk j rs ls).map (·.2.2)=ls
 | .new e t xs :: r,us,ls,j,⟨l,ls',us',e1,e2,h1,h2,h3,h4⟩=>by
  subst e2;simp only [An,List.map_cons,Cx (j+1) h4]
 | .newM e e' u xss :: r,us,ls,j,⟨l,kl,ls',us',ks,e1,e2,⟨⟨h1,_⟩,_,_⟩,h4⟩=>by
  subst e2;simp only [An,List.map_cons,List.map_append,List.take_left' h1,List.drop_left' h1,Tk h1,Cx (j+1) h4]
 | .sc _ :: r,us,ls,j,⟨_,_,_,_,_,h4⟩=>by simpa only [An] using Cx j h4
 | .arg _ _ :: r,us,ls,j,⟨_,_,_,_,h4⟩=>by simpa only [An] using Cx j h4
 | .argS .. :: r,us,ls,j,⟨_,_,_,_,_,_,h4⟩=>by simpa only [An] using Cx j h4
 | .frz _ :: r,us,ls,j,⟨_,_,_,_,_,h4⟩=>by simpa only [An] using Cx j h4
 | .imm _ :: r,us,ls,j,⟨_,_,_,_,_,h4⟩=>by simpa only [An] using Cx j h4
 | [],us,ls,j,⟨_,e⟩=>by subst e;simp [An]
theorem Us:∀ {ns:List (Oid×Ob×Loc)},Fe (ns.map (·.2.2))->∀ x∈ns,∀ y∈ns,∀ b c s c' s',x.2.2=.at_ b c s->y.2.2=.at_ b c' s'->x.1=y.1
 | [],_,_,hx,_,_,_,_,_,_,_,_,_=>by cases hx
 | n :: ns,ha,x,hx,y,hy,b,c,s,c',s',ex,ey=>by
  rcases List.mem_cons.1 hx with e1|h1 <;> rcases List.mem_cons.1 hy with e2|h2
  ·rw [e1,e2]
  ·subst e1;exact (ha.1 b c s ex c' s' (List.mem_map.2 ⟨y,h2,ey⟩)).elim
  ·subst e2;exact (ha.1 b c' s' ey c s (List.mem_map.2 ⟨x,h1,ex⟩)).elim
  ·exact Us ha.2 x h1 y h2 b c s c' s' ex ey
theorem Tm {lo:Nat} {e:TypeId} {sz n:Nat} {l:Loc} {vs:List Value} {σ':Oid->Option Loc} {im':Nat->Prop} {i:Oid} {t:Ty} (hs:σ' i=some l) (h2:ownsV w lo e sz (l.val n) n vs) (h3:∀ b c s,l=.at_ b c s->s=t.size):AV.Rep σ' im' w (.own i t 0 n) (l.val n):=by
 cases l with
 | nil =>
  rcases h2.2 with ⟨_,h0⟩|⟨_,_,_,e1,_⟩
  ·exact .inl ⟨hs,rfl,h0,by rw [h0];rfl⟩
  ·cases e1
 | at_ b c s =>
  obtain rfl:=h3 b c s rfl;rcases h2.2 with ⟨e1,_⟩|⟨g,cap,cur,e1,_,_,hc,_⟩
  ·cases e1
  ·cases e1;exact .inr (.inl ⟨b,c,hs,by omega,by simp [Loc.val]⟩)
theorem Na {lo:Nat} {e:TypeId} {sz n:Nat} {l:Loc} {vs:List Value} (h2:ownsV w lo e sz (l.val n) n vs):∀ b c s,l=.at_ b c s->lo<=b/\b<w.heap.size/\c<=maxLen:=by
 intro b c s e;subst e;refine ⟨(h2.lt b rfl).1,(h2.lt b rfl).2,?_⟩;rcases h2.2 with ⟨e1,_⟩|⟨_,_,_,e1,_,_,_,hm,_⟩
 ·cases e1
 ·cases e1;exact hm
theorem Oe {p:Oid} {u:Ty} {xss:List (List u.D)} (k:Nat):(hdL p u xss)[k]? =(xss[k]?).map fun xs=>.own (kid p k) u 0 xs.length:=by
 simp only [hdL,List.getElem?_map,List.getElem?_zipIdx];cases xss[k]? <;> simp
theorem Yf {p:Oid} {u:Ty} {xss:List (List u.D)}:(hdL p u xss).length=xss.length:=by simp [hdL]
theorem Dk {mk:Nat->Oid} {lo:Nat} {vs:List Value}:∀ {rs:List RL} {us:List Value} {ls:List Loc} (j:Nat),RL.RepL lo im vs w rs us ls->∀ x∈An mk j rs ls,
  (∀ b c s,x.2.2=.at_ b c s->lo<=b/\b<w.heap.size/\c<=maxLen)/\∀ lo' σ' im',lo'<=lo->(∀ y∈An mk j rs ls,σ' y.1=some y.2.2)->x.2.1.Rep lo' σ' im' w x.2.2
 | .new e t xs :: r,us,ls,j,⟨l,ls',us',e1,e2,h1,h2,h3,h4⟩,x,hx=>by
  subst e2;simp only [An] at hx ⊢;rcases List.mem_cons.1 hx with rfl|hx
  ·exact ⟨Na h2,fun lo' σ' im' hl hσ=>⟨h1,h2.low hl,h3⟩⟩
  ·obtain ⟨q1,q2⟩:=Dk (j+1) h4 x hx;exact ⟨q1,fun lo' σ' im' hl hσ=>q2 lo' σ' im' hl fun y hy=>hσ y (by simp [hy])⟩
 | .newM e e' u xss :: r,us,ls,j,⟨l,kl,ls',us',ks,e1,e2,⟨⟨h1,h1'⟩,⟨h2,h2'⟩,h3⟩,h4⟩,x,hx=>by
  subst e2;simp only [An,List.take_left' h1,List.drop_left' h1] at hx ⊢;rcases List.mem_cons.1 hx with rfl|hx
  ·refine ⟨Na h2,fun lo' σ' im' hl hσ=>⟨ks,h2.low hl,?_,?_,h2'⟩⟩
   ·have hkl:ks.length=xss.length:=by have:=h2.1;omega
    refine AV.RepL.of_get (by rw [hkl,Yf]) fun k c v hc hv=>?_
    rw [Oe] at hc;obtain ⟨xs,hxs,rfl⟩:=oms.1 hc;have hlt:=(gSi.1 hxs).1;have hkl:kl[k]? =some (kl[k]'oM):=gEg _;obtain ⟨g1,g2,g3⟩:=h3 k xs _ hxs hkl;rw [hv] at g1;obtain rfl:=osj g1;exact Tm (hσ _ (List.mem_cons_of_mem _ (List.mem_append.2 (.inl (Vs hxs hkl))))) g2 g3
   ·intro v hv;obtain ⟨k,hk⟩:=List.getElem?_of_mem hv;have hlt:k<xss.length:=by have:=(gSi.1 hk).1;have:=h2.1;omega
    obtain ⟨g1,_,_⟩:=h3 k _ _ (gEg hlt) (gEg oM);rw [hk] at g1;obtain rfl:=osj g1;cases kl[k]'oM <;> rfl
  ·rcases List.mem_append.1 hx with hx|hx
   ·obtain ⟨k,xs,l,g1,g2,rfl⟩:=Hn hx;obtain ⟨_,g3,g4⟩:=h3 k xs l g1 g2;exact ⟨Na g3,fun lo' σ' im' hl hσ=>⟨h1',g3.low hl,g4⟩⟩
   ·obtain ⟨q1,q2⟩:=Dk (j+1) h4 x hx;exact ⟨q1,fun lo' σ' im' hl hσ=>q2 lo' σ' im' hl fun y hy=>hσ y (by simp [hy])⟩
 | .sc _ :: r,us,ls,j,⟨_,_,_,_,_,h4⟩,x,hx=>Dk j h4 x (by simpa [An] using hx)
 | .arg _ _ :: r,us,ls,j,⟨_,_,_,_,h4⟩,x,hx=>Dk j h4 x (by simpa [An] using hx)
 | .argS .. :: r,us,ls,j,⟨_,_,_,_,_,_,h4⟩,x,hx=>Dk j h4 x (by simpa [An] using hx)
 | .frz _ :: r,us,ls,j,⟨_,_,_,_,_,h4⟩,x,hx=>Dk j h4 x (by simpa [An] using hx)
 | .imm _ :: r,us,ls,j,⟨_,_,_,_,_,h4⟩,x,hx=>Dk j h4 x (by simpa [An] using hx)
 | [],_,_,_,_,x,hx=>by simp [An] at hx
theorem Xj {p:Oid} {e:TypeId} {u:Ty} {xss:List (List u.D)} {kl:List Loc} (h:kl.length=xss.length):Aag p e u xss=(Gt p e u xss kl).map fun x=>(x.1,some x.2.1):=by
 apply List.ext_getElem?;intro k;simp only [Aag,Gt,List.map_map,List.getElem?_map,List.getElem?_zipIdx];by_cases hk:k<xss.length
 ·have:(xss.zip kl)[k]? =some (xss[k],kl[k]'oM):=by
   rw [List.getElem?_zip_eq_some];exact ⟨gEg _,gEg _⟩
  rw [this,gEg hk];rfl
 ·rw [List.getElem?_eq_none (l:=xss.zip kl) (by rw [List.length_zip];omega),List.getElem?_eq_none oM];rfl
theorem F6 {mk:Nat->Oid} {az:List AV} {vs:List Value} {lo:Nat}:∀ {rs:List RL} {us:List Value} {ls:List Loc} (j:Nat),RL.RepL lo im vs w rs us ls->(RL.out mk az j rs).2=(An mk j rs ls).map fun x=>(x.1,some x.2.1)
 | .new e t xs :: r,us,ls,j,⟨l,ls',us',e1,e2,h1,h2,h3,h4⟩=>by
  subst e2;simp only [RL.out,An,List.map_cons,F6 (j+1) h4]
 | .newM e e' u xss :: r,us,ls,j,⟨l,kl,ls',us',ks,e1,e2,⟨⟨h1,_⟩,_,_⟩,h4⟩=>by
  subst e2;simp only [RL.out,An,List.map_cons,List.map_append,List.take_left' h1,List.drop_left' h1,Xj h1,F6 (j+1) h4]
 | .sc _ :: r,us,ls,j,⟨_,_,_,_,_,h4⟩=>by simpa only [RL.out,An] using F6 j h4
 | .arg _ _ :: r,us,ls,j,⟨_,_,_,_,h4⟩=>by simpa only [RL.out,An] using F6 j h4
 | .argS .. :: r,us,ls,j,⟨_,_,_,_,_,_,h4⟩=>by simpa only [RL.out,An] using F6 j h4
 | .frz _ :: r,us,ls,j,⟨_,_,_,_,_,h4⟩=>by simpa only [RL.out,An] using F6 j h4
 | .imm _ :: r,us,ls,j,⟨_,_,_,_,_,h4⟩=>by simpa only [RL.out,An] using F6 j h4
 | [],us,ls,j,⟨_,e⟩=>by subst e;simp [RL.out,An]
theorem Afw {mk:Nat->Oid} {az:List AV} {vs:List Value} {lo:Nat} {rs:List RL} {us:List Value} {ls:List Loc} (j:Nat) (ob:Oid->Option Ob) (h:RL.RepL lo im vs w rs us ls):Ae (RL.out mk az j rs).2 ob=Nr (An mk j rs ls) ob:=by
 rw [F6 j h];unfold Ae Nr;rw [List.foldl_map]
mutual
theorem Gz {σ':Oid->Option Loc} {im im':Nat->Prop} (hi:∀ b,im b->im' b):∀ (c:AV),c.gndB=true->∀ (v:Value),AV.Rep (fun _=>none) im w c v->AV.Rep σ' im' w c v
 | .int ..,_,_,h=>h
 | .bool ..,_,_,h=>h
 | .str ..,_,_,h=>h
 | .err ..,_,_,h=>h
 | .nils,_,_,h=>h
 | .tree t xs,_,_,⟨A,c,l,e,hs⟩=>⟨A,c,l,e,Al (fun b _ hb=>hi b hb) hs⟩
 | .mtree mt t es,_,_,⟨b,e,h1,h2⟩=>⟨b,e,hi b h1,h2⟩
 | .ftr n t xs,_,_,⟨A,c,l,e,hs⟩=>⟨A,c,l,e,Al (fun b _ hb=>⟨hi b hb.1,hb.2⟩) hs⟩
 | .mp _,hg,_,_=>by cases hg
 | .agg cs,hg,_,⟨vs,e,h⟩=>⟨vs,e,Ii hi cs hg vs h⟩
 | .tup cs,hg,_,⟨vs,e,h⟩=>⟨vs,e,Ii hi cs hg vs h⟩
 | .fn f cs,hg,_,⟨vs,e,h⟩=>⟨vs,e,Ii hi cs hg vs h⟩
 | .ref cs,hg,_,⟨b,k,vs,e1,e2,e3,h⟩=>⟨b,k,vs,e1,⟨e2.1,hi b e2.2⟩,e3,Ii hi cs hg vs h⟩
 | .any,hg,_,_=>by cases hg
 | .own ..,hg,_,_=>by cases hg
 | .box ..,hg,_,_=>by cases hg
 | .elt ..,hg,_,_=>by cases hg
 | .sla ..,hg,_,_=>by cases hg
 | .telt ..,hg,_,_=>by cases hg
 | .giv ..,hg,_,_=>by cases hg
 | .abool _ _,hg,_,_=>by cases hg
theorem Ii {σ':Oid->Option Loc} {im im':Nat->Prop} (hi:∀ b,im b->im' b):∀ (cs:List AV),AV.gndBL cs=true->∀ (vs:List Value),AV.RepL (fun _=>none) im w cs vs->AV.RepL σ' im' w cs vs
 | [],_,_,h=>h
 | c :: cs,hg,_,⟨u,us,e,h1,h2⟩=>by
  simp only [AV.gndBL,Bool.and_eq_true] at hg;exact ⟨u,us,e,Gz hi c hg.1 u h1,Ii hi cs hg.2 us h2⟩
end
mutual
theorem Aa8 {σ':Oid->Option Loc} {im im':Nat->Prop} (hi:∀ b,im b->im' b):∀ (c:AV),c.gndB=true->∀ (v:Value),AV.Rep σ' im w c v->AV.Rep (fun _=>none) im' w c v
 | .int ..,_,_,h=>h
 | .bool ..,_,_,h=>h
 | .str ..,_,_,h=>h
 | .err ..,_,_,h=>h
 | .nils,_,_,h=>h
 | .tree t xs,_,_,⟨A,c,l,e,hs⟩=>⟨A,c,l,e,Al (fun b _ hb=>hi b hb) hs⟩
 | .mtree mt t es,_,_,⟨b,e,h1,h2⟩=>⟨b,e,hi b h1,h2⟩
 | .ftr n t xs,_,_,⟨A,c,l,e,hs⟩=>⟨A,c,l,e,Al (fun b _ hb=>⟨hi b hb.1,hb.2⟩) hs⟩
 | .mp _,hg,_,_=>by cases hg
 | .agg cs,hg,_,⟨vs,e,h⟩=>⟨vs,e,Gw hi cs hg vs h⟩
 | .tup cs,hg,_,⟨vs,e,h⟩=>⟨vs,e,Gw hi cs hg vs h⟩
 | .fn f cs,hg,_,⟨vs,e,h⟩=>⟨vs,e,Gw hi cs hg vs h⟩
 | .ref cs,hg,_,⟨b,k,vs,e1,e2,e3,h⟩=>⟨b,k,vs,e1,⟨e2.1,hi b e2.2⟩,e3,Gw hi cs hg vs h⟩
 | .any,hg,_,_=>by cases hg
 | .own ..,hg,_,_=>by cases hg
 | .box ..,hg,_,_=>by cases hg
 | .elt ..,hg,_,_=>by cases hg
 | .sla ..,hg,_,_=>by cases hg
 | .telt ..,hg,_,_=>by cases hg
 | .giv ..,hg,_,_=>by cases hg
 | .abool _ _,hg,_,_=>by cases hg
theorem Gw {σ':Oid->Option Loc} {im im':Nat->Prop} (hi:∀ b,im b->im' b):∀ (cs:List AV),AV.gndBL cs=true->∀ (vs:List Value),AV.RepL σ' im w cs vs->AV.RepL (fun _=>none) im' w cs vs
 | [],_,_,h=>h
 | c :: cs,hg,_,⟨u,us,e,h1,h2⟩=>by
  simp only [AV.gndBL,Bool.and_eq_true] at hg;exact ⟨u,us,e,Aa8 hi c hg.1 u h1,Gw hi cs hg.2 us h2⟩
end
theorem U6 {az:List AV} {vs:List Value} {σ':Oid->Option Loc} {im':Nat->Prop} (has:AV.RepL σ' im' w az vs) {i:Nat} {k:Option Nat} {u:Value} (h:Rs vs i k=some u):AV.Rep σ' im' w (X1 az i k) u:=by
 have get:∀ {az:List AV} {vs:List Value},AV.RepL σ' im' w az vs->∀ {i:Nat} {u:Value},vs[i]? =some u->AV.Rep σ' im' w (az.getD i .any) u:=by
  intro az
  induction az with
  | nil=>intro vs _ i u _;simp only [List.getD_nil];trivial
  | cons a az ih =>
   rintro vs ⟨v,vs',rfl,h1,h2⟩ i u hu;cases i with
   | zero=>obtain rfl:=osj hu;exact h1
   | succ i=>exact ih h2 hu
 cases k with
 | none=>exact get has h
 | some k =>
  simp only [Rs] at h;split at h
  ·rename_i a ha;have:=get has ha;rw [gDg] at this;simp only [X1];split
   ·rename_i cs hcs;rw [hcs] at this;obtain ⟨ws,e,hw⟩:=this;cases e;exact get hw (by simpa using h)
   ·trivial
  ·cases h
theorem Ab2 {σ':Oid->Option Loc} {im':Nat->Prop} {v:AV} {sz l h n c:Nat} {A:Option Addr} (hr:AV.Rep σ' im' w v (.slice A n c)):AV.Rep σ' im' w (v.part sz l h) (.slice (if c=l then A else A.map (·.add (l*sz))) (h - l) (c - l)):=by
 have key:∀ (I:Nat->Prop) (t:Ty) (xs:List t.D),(∃ A' c' ls,Value.slice A n c=.slice A' xs.length c'/\Sl I w t A' c' xs ls)->t.size=sz/\l<=h/\h<=xs.length->∃ A' c' ls,Value.slice (if c=l then A else A.map (·.add (l*sz))) (h - l) (c - l)=.slice A' ((xs.take h).drop l).length c'/\Sl I w t A' c' ((xs.take h).drop l) ls:=by
  rintro I t xs ⟨A',c',ls,e,hs⟩ hc;cases e;obtain ⟨rfl,c2,c3⟩:=hc;have hlen:((xs.take h).drop l).length=h - l:=by rw [List.length_drop,List.length_take,Nat.min_eq_left c3]
  obtain ⟨d1,d2,g,_,hg⟩:=hs;refine ⟨_,c - l,(List.range (h - l)).flatMap fun i=>g (l+i),by rw [hlen],by rw [hlen];omega,by omega,fun i=>g (l+i),by rw [hlen],fun hp=>?_⟩;rw [hlen] at hp;obtain ⟨ad,rfl,hr,hmem⟩:=hg oM;refine ⟨ad.add (l*t.size),by rw [if_neg oM];rfl,by rw [Bl];exact hr,fun i hi=>?_⟩;rw [hlen] at hi;have:=hmem (l+i) oM;rw [Bt,← Nat.add_mul]
  have hget:((xs.take h).drop l)[i]'(by rw [hlen];exact hi)=xs[l+i]'oM:=by
   rw [List.getElem_drop,List.getElem_take]
  rw [hget];exact this
 cases v with
 | tree t xs =>
  show AV.Rep σ' im' w (if t.size=sz/\l<=h/\h<=xs.length then .tree t ((xs.take h).drop l) else .any) _;split
  ·exact key im' t xs hr (by assumption)
  ·trivial
 | giv u t xs =>
  show AV.Rep σ' im' w (if t.size=sz/\l<=h/\h<=xs.length then .tree t ((xs.take h).drop l) else .any) _;split
  ·exact key im' t xs hr.2 (by assumption)
  ·trivial
 | ftr R t xs =>
  show AV.Rep σ' im' w (if t.size=sz/\l<=h/\h<=xs.length then .ftr R t ((xs.take h).drop l) else .any) _;split
  ·exact key _ t xs hr (by assumption)
  ·trivial
 | _=>trivial
theorem Hr {mk:Nat->Oid} {az:List AV} {vs:List Value} {lo:Nat} {im':Nat->Prop} {σ':Oid->Option Loc} (him:∀ b,b<lo->im b->im' b) (has:AV.RepL σ' im' w az vs):∀ {rs:List RL} {us:List Value} {ls:List Loc} (hfz:(∃ l∈rs,l.fi=true)->∀ b,lo<=b->im' b) (j:Nat),RL.RepL lo im vs w rs us ls->(∀ x∈An mk j rs ls,σ' x.1=some x.2.2)->AV.RepL σ' im' w (RL.out mk az j rs).1 us
 | .new e t xs :: r,us,ls,hfz,j,⟨l,ls',us',e1,e2,h1,h2,h3,h4⟩,hσ=>by
  subst e1 e2;have hl:=hσ (mk j,.arr e t xs,l) (by simp [An]);exact ⟨_,_,rfl,Tm hl h2 h3,Hr him has (fun ⟨c,hc,hd⟩=>hfz ⟨c,List.mem_cons_of_mem _ hc,hd⟩) (j+1) h4 (fun x hx=>hσ x (by simp [An,hx]))⟩
 | .newM e e' u xss :: r,us,ls,hfz,j,⟨l,kl,ls',us',ks,e1,e2,⟨⟨h1,_⟩,⟨h2,h2'⟩,_⟩,h4⟩,hσ=>by
  subst e1 e2;have hl:=hσ (mk j,.vec e 1 xss.length (hdL (mk j) u xss),l) (by simp [An]);exact ⟨_,_,rfl,Tm (t:=.slice u) hl h2 h2',Hr him has (fun ⟨c,hc,hd⟩=>hfz ⟨c,List.mem_cons_of_mem _ hc,hd⟩) (j+1) h4 (fun x hx=>hσ x (by simp [An,List.drop_left' h1,hx]))⟩
 | .sc c :: r,us,ls,hfz,j,⟨u,us',e,h1,h2,h4⟩,hσ=>by
  subst e;refine ⟨_,_,rfl,?_,Hr him has (fun ⟨c,hc,hd⟩=>hfz ⟨c,List.mem_cons_of_mem _ hc,hd⟩) j h4 (fun x hx=>hσ x (by simpa [An] using hx))⟩;cases c <;> first|exact h1|cases h2
 | .frz c :: r,us,ls,hfz,j,⟨u,us',e,h1,h2,h4⟩,hσ=>by
  subst e;refine ⟨_,_,rfl,Gz (hfz ⟨.frz c,List.mem_cons_self,rfl⟩) c h2 u h1,Hr him has (fun ⟨c,hc,hd⟩=>hfz ⟨c,List.mem_cons_of_mem _ hc,hd⟩) j h4 (fun x hx=>hσ x (by simpa [An] using hx))⟩
 | .imm c :: r,us,ls,hfz,j,⟨u,us',e,h1,h2,h4⟩,hσ=>by
  subst e;refine ⟨_,_,rfl,Gz (fun b hb=>if hlt:b<lo then him b hlt (hb.resolve_right (Nat.not_le.2 hlt)) else hfz ⟨.imm c,List.mem_cons_self,rfl⟩ b (Nat.not_lt.1 hlt)) c h2 u h1,Hr him has (fun ⟨c,hc,hd⟩=>hfz ⟨c,List.mem_cons_of_mem _ hc,hd⟩) j h4 (fun x hx=>hσ x (by simpa [An] using hx))⟩
 | .argS i k sz l h :: r,us,ls,hfz,j,⟨A,n,c,us',e,h1,h4⟩,hσ=>by
  subst e;refine ⟨_,_,rfl,Ab2 (U6 has h1),Hr him has (fun ⟨c,hc,hd⟩=>hfz ⟨c,List.mem_cons_of_mem _ hc,hd⟩) j h4 (fun x hx=>hσ x (by simpa [An] using hx))⟩
 | .arg i k :: r,us,ls,hfz,j,⟨u,us',e,h1,h4⟩,hσ=>by
  subst e;refine ⟨_,_,rfl,U6 has h1,Hr him has (fun ⟨c,hc,hd⟩=>hfz ⟨c,List.mem_cons_of_mem _ hc,hd⟩) j h4 (fun x hx=>hσ x (by simpa [An] using hx))⟩
 | [],us,ls,_,j,⟨e,_⟩,_=>e
theorem Sj {σ':Oid->Option Loc} {im':Nat->Prop}:∀ (ps:List (Bool×List RL)) (cs:List AV) (us:List Value),AV.RepL σ' im' w cs us->AV.RepL σ' im' w (Kt ps cs) (Ec ps us)
 | [],_,_,_=>rfl
 | (b,rs) :: ps,cs,us,h=>by
  refine ⟨_,_,rfl,?_,Sj ps _ _ (h.drop _)⟩;cases b
  ·cases cs with
   | nil=>trivial
   | cons c cs=>obtain ⟨u,us',e,h1,_⟩:=h;subst e;exact h1
  ·exact ⟨_,rfl,h.take _⟩
theorem Afq {σ':Oid->Option Loc} {im':Nat->Prop} (r:RV) {cs:List AV} {us:List Value} (h:AV.RepL σ' im' w cs us) :
  AV.Rep σ' im' w (if r.tup then .tup (Kt r.ps cs) else (Kt r.ps cs).headD .any) (if r.tup then .tuple (Ec r.ps us).toArray else (Ec r.ps us).headD undef):=by
 have hp:=Sj r.ps cs us h;split
 ·exact ⟨_,rfl,hp⟩
 ·generalize Kt r.ps cs=xs at hp;cases xs with
  | nil=>trivial
  | cons c xs=>obtain ⟨u,us',e,h1,_⟩:=hp;rw [e];exact h1
def Cs (P:Program) (g:FuncId):Bool :=
 match P.funcs[g]? with
 | some fn=>fn.body.isSome&&fn.name != "runtime.NumGoroutine"
 | none=>false
theorem Lg {g:FuncId} {args:Array Value} (h:Cs P g=true):(callFunc g args).run P w=.ok (.enter g args) w:=by
 unfold Cs at h;split at h
 ·rename_i fn hfn;simp only [Bool.and_eq_true,bne_iff_ne] at h;obtain ⟨h1,h2⟩:=h;have h3:fn.body.isNone=false:=by cases hb:fn.body <;> simp_all
  simp [callFunc,hfn,h2,h3];intro h;rw [h] at h1;cases h1
 ·cases h
mutual
def AV.ren (θ:Oid->Oid):AV->AV
 | .own i t off len=>.own (θ i) t off len
 | .box i k=>.box (θ i) k
 | .elt i j k=>.elt (θ i) j k
 | .sla i j n=>.sla (θ i) j n
 | .mp i=>.mp (θ i)
 | .agg cs=>.agg (AV.renL θ cs)
 | .tup cs=>.tup (AV.renL θ cs)
 | .fn f cs=>.fn f (AV.renL θ cs)
 | .ref cs=>.ref (AV.renL θ cs)
 | c=>c
def AV.renL (θ:Oid->Oid):List AV->List AV
 | []=>[]
 | c :: cs=>AV.ren θ c :: AV.renL θ cs
end
def Ob.ren (θ:Oid->Oid):Ob->Ob
 | .cells ty cs=>.cells ty (AV.renL θ cs)
 | .arr e t xs=>.arr e t xs
 | .map mt t es=>.map mt t es
 | .vec e sz n cs=>.vec e sz n (AV.renL θ cs)
 | .pool e t xss=>.pool e t xss
 | .mat e p t xss=>.mat e (θ p) t xss
 | .tv e m t xs=>.tv e m t xs
def tvC (m:Option (Nat->Prop)) (t:Ty) (xs:List t.D):List AV:=xs.flatMap (t.avM m)
def Ag:List (Oid×Option Ob)->Oid->Option Ob
 | [],_=>none
 | (j,o) :: r,i=>match o with
  | some (.pool e u xss)=>if i.1.1=j.1.1/\i.2=j.2/\i.1.2≠0 then (xss[i.1.2 - 1]?).map (.arr e u) else Ag r i
  | some (.mat e p u xss)=>if i=j then some (.vec e 1 xss.length (hdL p u xss)) else Ag r i
  | some (.tv e m t xs)=>if i=j then some (.vec e t.size xs.length (tvC m t xs)) else Ag r i
  | o=>if i=j then o else Ag r i
def Br (l:List (Oid×Ob)):List (Oid×Option Ob):=l.map fun q=>(q.1,some q.2)
def exL:List (Oid×Ob)->List (Oid×Ob)
 | []=>[]
 | (p,o) :: r=>match o with
  | .pool e u xss=>(xss.zipIdx.map fun x=>(kid p x.2,Ob.arr e u x.1))++exL r
  | .mat e q u xss=>(p,.vec e 1 xss.length (hdL q u xss)) :: exL r
  | .tv e m t xs=>(p,.vec e t.size xs.length (tvC m t xs)) :: exL r
  | o=>(p,o) :: exL r
def nmL (l:List (Oid×Ob)):List Oid:=(exL l).map (·.1)
def Bk (θ:Oid->Oid) (i:Oid) (j:Oid):Oid:=if j.2=0 then θ j else ((i.1.1*16+j.1.1,j.1.2),i.2)
def Fr (θ:Oid->Oid) (i:Oid) (ol us:List (Oid×Ob)):List (Oid×Option Ob):=((exL ol).map fun q=>(θ q.1,none))++(exL us).map fun q=>(Bk θ i q.1,some (q.2.ren (Bk θ i)))
def Ra (θ:Oid->Oid) (ol:List (Oid×Ob)) (σ:Oid->Option Loc) (b:Nat):Prop:=∀ q∈exL ol,∀ c s,σ (θ q.1)≠some (.at_ b c s)
def I3 (P:Program) (G:World->Prop) (g:FuncId) (args:List AV) (ol:List (Oid×Ob)) (v:AV) (us:List (Oid×Ob)):Prop :=
 ∀ (θ:Oid->Oid) (i:Oid) (w0:World) (ob:Oid->Option Ob) (σ:Oid->Option Loc) (K:Nat->Prop) (w:World) (vs:List Value),Mem0 G w0 ob σ K w->¬ K i.2->(∀ q∈exL ol,ob (θ q.1)=some (q.2.ren θ))->(∀ j k,j∈nmL ol->k∈nmL ol->θ j=θ k->j=k)->(∀ j∈nmL ol,σ (θ j)≠none)->AV.RepL σ (Ra θ ol σ) w (AV.renL θ args) vs ->
  Calls P g vs.toArray w fun e w'=>∃ u,e=.returned u/\Goes G w0 (Ae (Fr θ i ol us) ob) (fun n=>K n∨n=i.2) σ (imm ob σ) w (v.ren (Bk θ i)) u w'
def Af8 (P:Program) (G:World->Prop) (R:Nat->Prop) (g:FuncId) (args:List AV) (ol:List (Oid×Ob)) (v:AV) (us:List (Oid×Ob)):Prop :=
 ∀ (θ:Oid->Oid) (i:Oid) (w0:World) (ob:Oid->Option Ob) (σ:Oid->Option Loc) (K:Nat->Prop) (w:World) (vs:List Value),(∀ b,R b->imm ob σ b)->Mem0 G w0 ob σ K w->¬ K i.2->(∀ q∈exL ol,ob (θ q.1)=some (q.2.ren θ))->(∀ j k,j∈nmL ol->k∈nmL ol->θ j=θ k->j=k)->(∀ j∈nmL ol,σ (θ j)≠none)->AV.RepL σ (Ra θ ol σ) w (AV.renL θ args) vs ->
  Calls P g vs.toArray w fun e w'=>∃ u,e=.returned u/\Goes G w0 (Ae (Fr θ i ol us) ob) (fun n=>K n∨n=i.2) σ (imm ob σ) w (v.ren (Bk θ i)) u w'
def Agc (P:Program) (G:World->Prop) (g:FuncId) (args:List AV) (v:AV) (us:List (Oid×Ob)):Prop :=
 ∀ (i:Oid) (w0:World) (ob:Oid->Option Ob) (σ:Oid->Option Loc) (K:Nat->Prop) (w:World) (vs:List Value),Mem0 G w0 ob σ K w->¬ K i.2->AV.RepL σ (imm ob σ) w args vs ->
  Calls P g vs.toArray w fun e w'=>∃ u,e=.returned u/\Goes G w0 (Ae (Fr (fun j=>j) i [] us) ob) (fun n=>K n∨n=i.2) σ (imm ob σ) w (v.ren (Bk (fun j=>j) i)) u w'
mutual
def AV.nms:AV->List Oid
 | .own i _ _ _=>[i]
 | .box i _=>[i]
 | .elt i _ _=>[i]
 | .sla i _ _=>[i]
 | .mp i=>[i]
 | .agg cs=>AV.nmsL cs
 | .tup cs=>AV.nmsL cs
 | .fn _ cs=>AV.nmsL cs
 | .ref cs=>AV.nmsL cs
 | _=>[]
def AV.nmsL:List AV->List Oid
 | []=>[]
 | c :: cs=>c.nms++AV.nmsL cs
end
inductive Reached (raw:List AV) (ob:Oid->Option Ob):Oid->Prop
 | arg {i:Oid}:i∈AV.nmsL raw->Reached raw ob i
 | cells {k i:Oid} {ty:TypeId} {cs:List AV}:Reached raw ob k->ob k=some (.cells ty cs)->i∈AV.nmsL cs->Reached raw ob i
 | vec {k i:Oid} {e:TypeId} {sz n:Nat} {cs:List AV}:Reached raw ob k->ob k=some (.vec e sz n cs)->i∈AV.nmsL cs->Reached raw ob i
def Zc (L:List Oid) (ob:Oid->Option Ob) (k:Oid):Option Ob:=if k∈L then none else ob k
mutual
inductive Wa (θ:Oid->Oid) (ob:Oid->Option Ob):AV->AV->Prop
 | ren {c d:AV}:c=d.ren θ->Wa θ ob c d
 | gnd {c d:AV}:d.ren θ=d->gnd ob 8 c=some d->Wa θ ob c d
 | nil {t:Ty}:Wa θ ob .nils (.tree t [])
 | agg {cs ds:List AV}:Jy θ ob cs ds->Wa θ ob (.agg cs) (.agg ds)
 | fn {f:FuncId} {cs ds:List AV}:Jy θ ob cs ds->Wa θ ob (.fn f cs) (.fn f ds)
inductive Jy (θ:Oid->Oid) (ob:Oid->Option Ob):List AV->List AV->Prop
 | nil:Jy θ ob [] []
 | cons {c d:AV} {cs ds:List AV}:Wa θ ob c d->Jy θ ob cs ds->Jy θ ob (c :: cs) (d :: ds)
end
def Aet (P:Program) (G:World->Prop) (f:Nat->AV) (ob:Oid->Option Ob) (i:Oid) (tys:List (List (Option Ty))) (g:FuncId) (xs:List Opd) (r:AV×List (Oid×Option Ob)):Prop :=
 Cs P g=true/\∃ args rv,((Hy (gnd ob 8) (xs.map (Opd.ev f))=some args/\rv.noI=true)∨(xs.map (Opd.ev f)=args/\AV.gndBL args=true))/\Bs P G g (Ig tys args) rv/\rv.out (Ev i) (xs.map (Opd.ev f))=r
def Aae (P:Program) (G:World->Prop) (f:Nat->AV) (ob:Oid->Option Ob) (i:Oid) (g:FuncId) (xs:List Opd) (r:AV×List (Oid×Option Ob)):Prop :=
 (Cs P g=true/\∃ (θ:Oid->Oid) (args:List AV) (ol us:List (Oid×Ob)) (v:AV),Jy θ (Zc ((nmL ol).map θ) ob) (xs.map (Opd.ev f)) args/\(∀ q∈exL ol,ob (θ q.1)=some (q.2.ren θ))/\(∀ j k,j∈nmL ol->k∈nmL ol->θ j=θ k->j=k) /\
  (∀ j∈nmL ol,Reached (xs.map (Opd.ev f)) ob (θ j))/\I3 P G g args ol v us/\(∀ j∈nmL us,j.2≠0∨j∈nmL ol)/\r=(v.ren (Bk θ i),Fr θ i ol us)) ∨
  (Cs P g=true/\∃ (v:AV) (us:List (Oid×Ob)),Agc P G g (xs.map (Opd.ev f)) v us/\(∀ j∈nmL us,j.2≠0)/\r=(v.ren (Bk (fun j=>j) i),Fr (fun j=>j) i [] us))
theorem RV.goes {r:RV} {u:Value} {im0:Nat->Prop} (h:Mem0 G w0 ob σ K w) (hb:Below w.heap.size w w') (hK:∀ n,K n->K' n) {i:Oid} (hi:¬ K i.2) (hi':K' i.2) {az:List AV} {vs:List Value} (has:AV.RepL σ (imm ob σ) w az vs) (hI:(∃ l∈r.leaves,l.isI=true)->∀ b,im0 b->imm ob σ b) (hr:r.Rep w.heap.size im0 vs w' u) :
  Goes G w0 (Ae (r.out (Ev i) az).2 ob) K' σ (imm ob σ) w (r.out (Ev i) az).1 u w':=by
 obtain ⟨us,ls,h1,⟨h2,h2'⟩,rfl⟩:=hr;have hrows:=Dk (mk:=Ev i) 0 h1
 obtain ⟨hL,hM⟩:=h.news hb hK (An (Ev i) 0 r.leaves ls) (Ej (Xu i) _ _ _) (fun x hx=>by
   obtain ⟨k,_,_,e⟩:=Cq _ _ _ x hx;have e':x.1.2=i.2:=e;exact ⟨Goes.fresh h (by rw [e'];exact hi),by rw [e'];exact hi'⟩) (fun x hx b c s e=>(hrows x hx).1 b c s e) (Us (by rw [Cx 0 h1];exact h2)) (fun x hx σ' im' hσ'=>(hrows x hx).2 _ σ' im' h.below.size hσ')
 have hmem:∀ x∈An (Ev i) 0 r.leaves ls,Hx (An (Ev i) 0 r.leaves ls) σ x.1=some x.2.2:=fun x hx=>Ha (fun x:Oid×Ob×Loc=>some x.2.2) (·.1) _ σ x (Ej (Xu i) _ _ _) hx
 have hob:=Afw (mk:=Ev i) (az:=az) 0 ob h1;have has':=AV.RepL.later hL _ _ has
 have hfz:(∃ l∈r.leaves,l.fi=true)->∀ b,w.heap.size<=b->imm (Nr (An (Ev i) 0 r.leaves ls) ob) (Hx (An (Ev i) 0 r.leaves ls) σ) b:=by
  intro hc b hb j o c s hj hs
  have hnil:An (Ev i) 0 r.leaves ls=[]:=by
   rw [h2' hc];have:=Cx (mk:=Ev i) 0 h1;rw [h2' hc] at this;exact List.map_eq_nil_iff.1 this
  rw [hnil] at hs;have:=(h.lt j b c s hs).2;omega
 refine ⟨Hx (An (Ev i) 0 r.leaves ls) σ,?_,?_,?_⟩
 ·simp only [RV.out,hob];exact hL
 ·simp only [RV.out,hob];exact hM
 ·simp only [RV.out,hob];refine Afq r ?_
  have key:∀ {rs:List RL} {us:List Value} {ls:List Loc},(∀ l∈rs,l.isI=true->∃ l∈r.leaves,l.isI=true)->RL.RepL w.heap.size im0 vs w' rs us ls->RL.RepL w.heap.size (fun b=>(∃ l∈r.leaves,l.isI=true)/\im0 b) vs w' rs us ls:=by
   intro rs
   induction rs with
   | nil=>intro us ls _ h;exact h
   | cons l r' ih =>
    intro us ls hh h;have ih:=fun {us} {ls}=>ih (us:=us) (ls:=ls) fun l hl=>hh l (List.mem_cons_of_mem _ hl)
    cases l with
    | sc c=>obtain ⟨u,us',e,q1,q2,q3⟩:=h;exact ⟨u,us',e,(by cases c <;> first|exact q1|cases q2),q2,ih q3⟩
    | new e t xs=>obtain ⟨l,ls',us',e1,e2,q1,q2,q3,q4⟩:=h;exact ⟨l,ls',us',e1,e2,q1,q2,q3,ih q4⟩
    | newM e e' u xss=>obtain ⟨l,kl,ls',us',ks,e1,e2,q,q4⟩:=h;exact ⟨l,kl,ls',us',ks,e1,e2,q,ih q4⟩
    | arg i k=>obtain ⟨u,us',e,q1,q3⟩:=h;exact ⟨u,us',e,q1,ih q3⟩
    | argS i k sz l h'=>obtain ⟨A,n,c,us',e,q1,q3⟩:=h;exact ⟨A,n,c,us',e,q1,ih q3⟩
    | frz c=>obtain ⟨u,us',e,q1,q2,q3⟩:=h;exact ⟨u,us',e,q1,q2,ih q3⟩
    | imm c=>obtain ⟨u,us',e,q1,q2,q3⟩:=h;exact ⟨u,us',e,Gz (fun b hb=>hb.imp (fun h=>⟨hh _ List.mem_cons_self rfl,h⟩) id) c q2 u q1,q2,ih q3⟩
  exact Hr (fun b hb hb'=>hL.im_ b hb (hI hb'.1 b hb'.2)) has' hfz 0 (key (fun l hl hi=>⟨l,hl,hi⟩) h1) hmem
theorem Um {o:Oper} {a:Act} {f:Nat->AV} {obL:Oid->Option Ob} {i:Oid} {v:AV} {us:List (Oid×Option Ob)} {c:Call} {fo:Operand} {fo':Opd} {zs:List Opd} {g:FuncId} {caps:List AV} {capo:List Opd} {tys:List (List (Option Ty))} (ho:o.op=.call c) (hcb:c.callee=.value fo) (hfo:Opd.of fo=some fo') (hg:fo'.ev f=.fn g caps)
  (hxs:Opd.ofL c.args.toList=some zs) (hcap:capo.map (Opd.ev f)=caps) (he:Aet P G f obL i tys (Kz g) (Ct g zs capo) (v,us)) (hm:Mem0 G w0 ob σ K w) (hK:∀ n,K n->K' n) (hi:¬ K i.2) (hi':K' i.2)
  (hob:∀ i o l,obL i=some o->σ i=some l->o.Rep w0.heap.size σ (imm ob σ) w l)
  (hf:∀ x∈o.op.operands,∀ y,Opd.of x=some y->AV.Rep σ (imm ob σ) w (y.ev f) (a.eval x)):Oper.does P o a w (Goes G w0 (Ae us ob) K' σ (imm ob σ) w v):=by
 have hops:o.op.operands= #[fo]++c.args:=by rw [ho];simp [Op.operands,Call.operands,hcb]
 have rf:=hf fo (by rw [hops];simp) fo' hfo;rw [hg] at rf;obtain ⟨cv,ef,hcv⟩:=rf;have ra:=Lj (σ:=σ) (w:=w) (im:=imm ob σ) (f:=f) (a:=a) hxs (fun x hx=>hf x (by rw [hops];simp;exact .inr (by simpa using hx)))
 have rall:AV.RepL σ (imm ob σ) w ((Ct g zs capo).map (Opd.ev f)) (Ct g (c.args.toList.map a.eval) cv):=by
  rw [Ry,hcap];unfold Ct;split
  ·exact ra.append hcv
  ·exact hcv.append ra
 have hexec:∀ h:Cs P (Kz g)=true,(execOp a.eval o).run P w=.ok (.enter (Kz g) (Ct g (c.args.toList.map a.eval) cv).toArray) w:=by
  intro h;have hcf:=Lg (P:=P) (w:=w) (args:=(Ct g (c.args.toList.map a.eval) cv).toArray) h;unfold fnV at ef;unfold Kz Ct at *;split at ef
  ·rename_i hlt;simp only [if_pos hlt] at hcf ⊢
   have e1:Array.map a.eval c.args++cv.toArray=(c.args.toList.map a.eval++cv).toArray:=by
    apply Array.ext';simp
   simp [execOp,ho,resolve,hcb,ef,Deferred.ofValue,invoke,e1,hcf]
  ·rename_i hlt;simp only [if_neg hlt] at hcf ⊢
   have e1:cv.toArray++Array.map a.eval c.args=(cv++c.args.toList.map a.eval).toArray:=by
    apply Array.ext';simp
   simp [execOp,ho,resolve,hcb,ef,Deferred.ofValue,invoke,e1,hcf]
 have hG:∀ w',Below w.heap.size w w'->G w':=fun w' hb=>hm.inv w' (hm.below.trans (hb.mono hm.below.size))
 obtain ⟨hbody,args,rv,hargs,hok,hh⟩:=he;rcases hargs with ⟨hargs,hni⟩|⟨rfl,hgr⟩
 ·have hrep:=Mz (ts:=tys) (P5 (Ad9 hob 8) hargs rall);refine Oper.does_enter (hexec hbody) ((hok w (fun _=>True) _ hG hrep).mono ?_);rintro e w' ⟨u,rfl,hb,hrv⟩
  have:=RV.goes hm hb hK hi hi' rall (fun ⟨l,hl,hi⟩=>by
   have:=List.all_eq_true.1 hni l hl;rw [hi] at this;cases this) hrv
  rw [hh] at this;exact ⟨u,rfl,this⟩
 have hrep:=Mz (ts:=tys) (Gw (im':=imm ob σ) (fun _ h=>h) _ hgr _ rall);refine Oper.does_enter (hexec hbody) ((hok w (imm ob σ) _ hG hrep).mono ?_);rintro e w' ⟨u,rfl,hb,hrv⟩;have:=RV.goes hm hb hK hi hi' rall (fun _ _ h=>h) hrv;rw [hh] at this;exact ⟨u,rfl,this⟩
mutual
theorem Ad5:∀ (c:AV) (v:Value) (i:Oid),AV.Rep σ im w c v->i∈c.nms->σ i≠none
 | .any,_,_,_,h | .int _ _,_,_,_,h | .bool _,_,_,_,h | .str _,_,_,_,h | .nils,_,_,_,h | .abool _ _,_,_,_,h | .err ..,_,_,_,h | .tree _ _,_,_,_,h | .giv _ _ _,_,_,_,h | .mtree _ _ _,_,_,_,h | .ftr _ _ _,_,_,_,h | .telt _ _ _ _,_,_,_,h=>by simp [AV.nms] at h
 | .own _ _ _ _,_,_,hv,h=>by
  obtain rfl:=List.mem_singleton.1 h;rcases hv with ⟨g,_⟩|⟨_,_,g,_⟩|⟨_,g,_⟩ <;> rw [g] <;> simp
 | .box _ _,_,_,⟨_,_,_,g,_⟩,h=>by obtain rfl:=List.mem_singleton.1 h;rw [g];simp
 | .elt _ _ _,_,_,⟨_,_,_,g,_⟩,h=>by obtain rfl:=List.mem_singleton.1 h;rw [g];simp
 | .sla _ _ _,_,_,⟨_,_,g,_⟩,h=>by obtain rfl:=List.mem_singleton.1 h;rw [g];simp
 | .mp _,_,_,⟨_,_,_,g,_⟩,h=>by obtain rfl:=List.mem_singleton.1 h;rw [g];simp
 | .agg cs,_,i,⟨vs,_,hl⟩,h=>F5 cs vs i hl h
 | .tup cs,_,i,⟨vs,_,hl⟩,h=>F5 cs vs i hl h
 | .fn _ cs,_,i,⟨vs,_,hl⟩,h=>F5 cs vs i hl h
 | .ref cs,_,i,⟨_,_,vs,_,_,_,hl⟩,h=>F5 cs vs i hl h
theorem F5:∀ (cs:List AV) (vs:List Value) (i:Oid),AV.RepL σ im w cs vs->i∈AV.nmsL cs->σ i≠none
 | [],_,_,_,h=>by simp [AV.nmsL] at h
 | c :: cs,_,i,⟨u,us,_,h1,h2⟩,h=>by
  rcases List.mem_append.1 (show i∈c.nms++AV.nmsL cs from h) with h|h
  ·exact Ad5 c u i h1 h
  ·exact F5 cs us i h2 h
end
theorem Reached.loc {raw:List AV} {vs:List Value} {obL:Oid->Option Ob} (hm:Mem0 G w0 ob σ K w) (hag:∀ id o l,obL id=some o->σ id=some l->ob id=some o) (hr:AV.RepL σ im w raw vs) {i:Oid} (h:Reached raw obL i):σ i≠none:=by
 induction h with
 | arg h=>exact F5 _ _ _ hr h
 | @cells k i ty cs _ hk hi ih =>
  cases hs:σ k with
  | none=>exact absurd hs ih
  | some l =>
   have:=hm.obs k _ l (hag _ _ l hk hs) hs;cases l with
   | nil=>exact this.elim
   | at_ b c s =>
    obtain ⟨us,_,h2,_⟩:=this;exact F5 _ _ _ h2 hi
 | @vec k i e sz n cs _ hk hi ih =>
  cases hs:σ k with
  | none=>exact absurd hs ih
  | some l =>
   obtain ⟨us,_,h2,_⟩:=hm.obs k _ l (hag _ _ l hk hs) hs;exact F5 _ _ _ h2 hi
mutual
theorem Acy {θ:Oid->Oid} {obR:Oid->Option Ob} {im':Nat->Prop} (hi:∀ b,im b->im' b) (hg:∀ c d v,gnd obR 8 c=some d->AV.Rep σ im w c v->AV.Rep σ im' w d v) (hmono:∀ c v,AV.Rep σ im w c v->AV.Rep σ im' w c v):∀ {c d:AV} {v:Value},Wa θ obR c d->AV.Rep σ im w c v->AV.Rep σ im' w (d.ren θ) v
 | _,_,v,.ren e,hr=>by subst e;exact hmono _ v hr
 | _,_,v,.gnd e h,hr=>by rw [e];exact hg _ _ v h hr
 | _,_,v,.nil,hr=>⟨none,0,[],hr,by simp,by simp [maxLen],fun _=>[],by simp,fun h=>absurd h (by simp)⟩
 | _,_,v,.agg h,⟨vs,e,hl⟩=>⟨vs,e,J1 hi hg hmono h hl⟩
 | _,_,v,.fn h,⟨vs,e,hl⟩=>⟨vs,e,J1 hi hg hmono h hl⟩
theorem J1 {θ:Oid->Oid} {obR:Oid->Option Ob} {im':Nat->Prop} (hi:∀ b,im b->im' b) (hg:∀ c d v,gnd obR 8 c=some d->AV.Rep σ im w c v->AV.Rep σ im' w d v) (hmono:∀ c v,AV.Rep σ im w c v->AV.Rep σ im' w c v):∀ {cs ds:List AV} {vs:List Value},Jy θ obR cs ds->AV.RepL σ im w cs vs->AV.RepL σ im' w (AV.renL θ ds) vs
 | _,_,_,.nil,hr=>hr
 | _,_,_,.cons h hs,⟨u,us,e,h1,h2⟩=>⟨u,us,e,Acy hi hg hmono h h1,J1 hi hg hmono hs h2⟩
end
theorem W1 {o:Oper} {a:Act} {f:Nat->AV} {obL:Oid->Option Ob} {i:Oid} {v:AV} {us:List (Oid×Option Ob)} {c:Call} {fo:Operand} {fo':Opd} {zs:List Opd} {g:FuncId} {caps:List AV} {capo:List Opd} (ho:o.op=.call c) (hcb:c.callee=.value fo) (hfo:Opd.of fo=some fo') (hg:fo'.ev f=.fn g caps)
  (hxs:Opd.ofL c.args.toList=some zs) (hcap:capo.map (Opd.ev f)=caps) (he:Aae P G f obL i (Kz g) (Ct g zs capo) (v,us)) (hm:Mem0 G w0 ob σ K w) (hK:∀ n,K n->K' n) (hi:¬ K i.2) (hi':K' i.2)
  (hag:∀ id o l,obL id=some o->σ id=some l->ob id=some o)
  (hf:∀ x∈o.op.operands,∀ y,Opd.of x=some y->AV.Rep σ (imm ob σ) w (y.ev f) (a.eval x)):Oper.does P o a w (Goes G w0 (Ae us ob) K' σ (imm ob σ) w v):=by
 have hops:o.op.operands= #[fo]++c.args:=by rw [ho];simp [Op.operands,Call.operands,hcb]
 have rf:=hf fo (by rw [hops];simp) fo' hfo;rw [hg] at rf;obtain ⟨cv,ef,hcv⟩:=rf;have ra:=Lj (σ:=σ) (w:=w) (im:=imm ob σ) (f:=f) (a:=a) hxs (fun x hx=>hf x (by rw [hops];simp;exact .inr (by simpa using hx)))
 have rall:AV.RepL σ (imm ob σ) w ((Ct g zs capo).map (Opd.ev f)) (Ct g (c.args.toList.map a.eval) cv):=by
  rw [Ry,hcap];unfold Ct;split
  ·exact ra.append hcv
  ·exact hcv.append ra
 have hexec:∀ h:Cs P (Kz g)=true,(execOp a.eval o).run P w=.ok (.enter (Kz g) (Ct g (c.args.toList.map a.eval) cv).toArray) w:=by
  intro h;have hcf:=Lg (P:=P) (w:=w) (args:=(Ct g (c.args.toList.map a.eval) cv).toArray) h;unfold fnV at ef;unfold Kz Ct at *;split at ef
  ·rename_i hlt;simp only [if_pos hlt] at hcf ⊢
   have e1:Array.map a.eval c.args++cv.toArray=(c.args.toList.map a.eval++cv).toArray:=by
    apply Array.ext';simp
   simp [execOp,ho,resolve,hcb,ef,Deferred.ofValue,invoke,e1,hcf]
  ·rename_i hlt;simp only [if_neg hlt] at hcf ⊢
   have e1:cv.toArray++Array.map a.eval c.args=(cv++c.args.toList.map a.eval).toArray:=by
    apply Array.ext';simp
   simp [execOp,ho,resolve,hcb,ef,Deferred.ofValue,invoke,e1,hcf]
 rcases he with he|⟨hbody,v0,us0,hok,_,e5⟩
 rotate_left
 ·obtain ⟨rfl,rfl⟩:=Prod.mk.inj e5;refine Oper.does_enter (hexec hbody) ((hok i w0 ob σ K w _ hm hi rall).mono ?_);rintro e w' ⟨u,rfl,σ',h1,h2,h3⟩;exact ⟨u,rfl,σ',h1,h2.wide (fun n hn=>hn.elim (hK n) (fun e=>by subst e;exact hi')),h3⟩
 obtain ⟨hbody,θ,args,ol,us0,v0,e1,e2,e3,e4,hok,_,e5⟩:=he;obtain ⟨rfl,rfl⟩:=Prod.mk.inj e5;have hloc:∀ j∈nmL ol,σ (θ j)≠none:=fun j hj=>(e4 j hj).loc hm hag rall
 have hnm:∀ q∈exL ol,q.1∈nmL ol:=fun q hq=>List.mem_map.2 ⟨q,hq,rfl⟩
 have e2':∀ q∈exL ol,ob (θ q.1)=some (q.2.ren θ):=by
  intro q hq;cases hs:σ (θ q.1) with
  | none=>exact absurd hs (hloc q.1 (hnm q hq))
  | some l=>exact hag _ _ l (e2 q hq) hs
 have hO:∀ b,imm ob σ b->Ra θ ol σ b:=fun b hb q hq c s=>hb (θ q.1) _ c s (e2' q hq)
 have hL:Later σ σ (imm ob σ) (Ra θ ol σ) w w:=⟨fun _ _ h=>h,fun b _ hb=>hO b hb,fun _ _ _=>rfl,Nat.le_refl _⟩
 have hob:∀ k o l,Zc ((nmL ol).map θ) obL k=some o->σ k=some l->o.Rep w0.heap.size σ (imm ob σ) w l/\∀ b c s,l=.at_ b c s->Ra θ ol σ b:=by
  intro k o l hk hl;unfold Zc at hk;split at hk
  ·cases hk
  ·rename_i hnk;have hko:=hag k o l hk hl;refine ⟨hm.obs k o l hko hl,fun b c s e q hq c' s' hq'=>?_⟩;subst e;have:=hm.inj k (θ q.1) b c s c' s' _ _ hko (e2' q hq) hl hq';exact hnk (List.mem_map.2 ⟨q.1,hnm q hq,this.symm⟩)
 have hrep:=J1 (im':=Ra θ ol σ) hO (fun c d v h hr=>Hg (fun k o l hk hl=>(hob k o l hk hl).1) hO (fun k o b c s hk hl=>(hob k o _ hk hl).2 b c s rfl) 8 c d v h hr) (fun c v hr=>AV.Rep.later hL c v hr) e1 rall;refine Oper.does_enter (hexec hbody) ((hok θ i w0 ob σ K w _ hm hi e2' e3 hloc hrep).mono ?_);rintro e w' ⟨u,rfl,σ',h1,h2,h3⟩;exact ⟨u,rfl,σ',h1,h2.wide (fun n hn=>hn.elim (hK n) (fun e=>by subst e;exact hi')),h3⟩
end
end
section
open Go.RowKit Go.Deep
theorem C6 (f:Nat->List Addr) (j:Nat):(List.range (j+1)).flatMap f=(List.range j).flatMap f++f j:=by rw [List.range_succ,List.flatMap_append];simp
theorem Ty.Val.lay {R:Nat->Prop} {w:World} {g:Nat}:∀ {t:Ty} {cs:List Value} {x:t.D} {ls:List Addr} {o:Nat},Ty.Val R w t cs x ls->(∀ j,j<cs.length->w.cell? ⟨g,o+j,none⟩=cs[j]?)->ls.Nodup->(∀ p∈ls,p.block≠g) ->
  ∃ l,Ty.Mem R w t ⟨g,o,none⟩ x l/\l.Nodup/\∀ p∈l,(∃ j,o<=j/\j<o+t.size/\p=⟨g,j,none⟩)∨p∈ls
 | .int,_,_,_,o,⟨rfl,_⟩,hc,_,_=>⟨[⟨g,o,none⟩],⟨by simpa using hc 0 (by simp),rfl⟩,by simp,fun p hp=>.inl ⟨o,Nat.le_refl _,by simp [Ty.size],by simpa using hp⟩⟩
 | .bool,_,_,_,o,⟨rfl,_⟩,hc,_,_=>⟨[⟨g,o,none⟩],⟨by simpa using hc 0 (by simp),rfl⟩,by simp,fun p hp=>.inl ⟨o,Nat.le_refl _,by simp [Ty.size],by simpa using hp⟩⟩
 | .str,_,_,_,o,⟨rfl,_⟩,hc,_,_=>⟨[⟨g,o,none⟩],⟨by simpa using hc 0 (by simp),rfl⟩,by simp,fun p hp=>.inl ⟨o,Nat.le_refl _,by simp [Ty.size],by simpa using hp⟩⟩
 | .slice t,_,xs,ls,o,⟨A,c,rfl,he⟩,hc,hn,_=>⟨ls,⟨A,c,by simpa using hc 0 (by simp),he⟩,hn,fun p hp=>.inr hp⟩
 | .pair t u,_,x,_,o,⟨c1,c2,l1,l2,rfl,h1,h2,rfl⟩,hc,hn,hb=>by
  obtain ⟨n1,n2,n3⟩:=List.nodup_append.1 hn;have e1:=h1.length;have e2:=h2.length;obtain ⟨m1,q1,q2,q3⟩:=Ty.Val.lay (o:=o) h1 (fun j hj=>by rw [hc j (by rw [List.length_append];omega),List.getElem?_append_left hj]) n1 (fun p hp=>hb p (List.mem_append_left _ hp))
  obtain ⟨m2,r1,r2,r3⟩:=Ty.Val.lay (o:=o+t.size) h2 (fun j hj=>by
   rw [Nat.add_assoc,hc _ (by rw [List.length_append];omega),List.getElem?_append_right oM];congr 1;omega) n2 (fun p hp=>hb p (List.mem_append_right _ hp))
  refine ⟨m1++m2,⟨m1,m2,q1,by rw [A4];exact r1,rfl⟩,List.nodup_append.2 ⟨q2,r2,fun a ha b hb' e=>?_⟩,fun p hp=>?_⟩
  ·subst e;rcases q3 a ha with ⟨j,j1,j2,rfl⟩|h
   ·rcases r3 _ hb' with ⟨k,k1,k2,e⟩|h'
    ·injection e with _ e;omega
    ·exact hb _ (List.mem_append_right _ h') rfl
   ·rcases r3 _ hb' with ⟨k,k1,k2,rfl⟩|h'
    ·exact hb _ (List.mem_append_left _ h) rfl
    ·exact n3 _ h _ h' rfl
  ·simp only [Ty.size];rcases List.mem_append.1 hp with h|h
   ·rcases q3 p h with ⟨j,j1,j2,e⟩|h
    ·exact .inl ⟨j,j1,by omega,e⟩
    ·exact .inr (List.mem_append_left _ h)
   ·rcases r3 p h with ⟨j,j1,j2,e⟩|h
    ·exact .inl ⟨j,by omega,by omega,e⟩
    ·exact .inr (List.mem_append_right _ h)
section
variable {g n k:Nat} {tt:TypeId} {t:Ty} {xs:List t.D} {w w':World}
theorem Ty.Val.mono {R R':Nat->Prop} (hR:∀ b,b<w.heap.size->R b->R' b):∀ {t:Ty} {cs:List Value} {x:t.D} {l:List Addr},Ty.Val R w t cs x l->Ty.Val R' w t cs x l
 | .int,_,_,_,h=>h
 | .bool,_,_,_,h=>h
 | .str,_,_,_,h=>h
 | .slice _,_,_,_,⟨A,c,h,he⟩=>⟨A,c,h,Al hR he⟩
 | .pair _ _,_,_,_,⟨c1,c2,l1,l2,hc,h1,h2,e⟩=>⟨c1,c2,l1,l2,hc,Ty.Val.mono hR h1,Ty.Val.mono hR h2,e⟩
theorem Ad2 {R:Nat->Prop} {F:Nat->Value} {f:Nat->List Addr} (hcl:∀ i,i<n*t.size->w.cell? ⟨g,i,none⟩=some (F i)) (hn:n=xs.length) (h2:∀ (j:Nat) (hj:j<xs.length),j<n->Ty.Val R w t ((List.range t.size).map fun i=>F (j*t.size+i)) (xs[j]'hj) (f j)) :
  ∀ m,m<=n->((List.range m).flatMap f).Nodup->(∀ p∈(List.range m).flatMap f,p.block≠g)->∃ fl:Nat->List Addr,(∀ (j:Nat) (hj:j<xs.length),j<m->Ty.Mem R w t ⟨g,j*t.size,none⟩ (xs[j]'hj) (fl j))/\((List.range m).flatMap fl).Nodup /\
   ∀ p∈(List.range m).flatMap fl,(∃ j,j<m*t.size/\p=⟨g,j,none⟩)∨p∈(List.range m).flatMap f:=by
 intro m
 induction m with
 | zero=>exact fun _ _ _=>⟨fun _=>[],fun _ _ h=>absurd h oM,by simp,fun p hp=>by simp at hp⟩
 | succ m ih =>
  intro hm hf hne;rw [C6] at hf hne;obtain ⟨n1,n2,n3⟩:=List.nodup_append.1 hf;obtain ⟨fl,q1,q2,q3⟩:=ih oM n1 fun p hp=>hne p (List.mem_append_left _ hp)
  have hmx:m<xs.length:=by omega
  have hsz:m*t.size+t.size<=n*t.size:=by rw [← Nat.succ_mul];exact Nat.mul_le_mul_right _ hm
  have hbl:∀ p∈f m,p.block≠g:=fun p hp=>hne p (List.mem_append_right _ hp)
  obtain ⟨l,r1,r2,r3⟩:=(h2 m hmx oM).lay (g:=g) (o:=m*t.size) (fun j hj=>by
   simp only [List.length_map,List.length_range] at hj;rw [hcl _ oM,List.getElem?_map,List.getElem?_range hj,Option.map_some]) n2 hbl
  refine ⟨fun j=>if j=m then l else fl j,fun j hj hjm=>?_,?_,?_⟩
  ·by_cases e:j=m
   ·subst e;simpa using r1
   ·simpa [e] using q1 j hj oM
  all_goals
   rw [C6]
   have e1:(List.range m).flatMap (fun j=>if j=m then l else fl j)=(List.range m).flatMap fl:=by
    rw [List.flatMap_def,List.flatMap_def];congr 1;exact List.map_congr_left fun j hj=>if_neg (by have:=List.mem_range.1 hj;omega)
   rw [e1];simp only [if_true]
  ·refine List.nodup_append.2 ⟨q2,r2,fun a ha b hb e=>?_⟩;subst e;rcases q3 a ha with ⟨j,j1,rfl⟩|h
   ·rcases r3 _ hb with ⟨k,k1,k2,e⟩|h'
    ·injection e with _ e;omega
    ·exact hbl _ h' rfl
   ·rcases r3 _ hb with ⟨k,k1,k2,rfl⟩|h'
    ·exact hne _ (List.mem_append_left _ h) rfl
    ·exact n3 _ h _ h' rfl
  ·intro p hp;rw [C6,Nat.succ_mul];rcases List.mem_append.1 hp with h|h
   ·rcases q3 p h with ⟨j,j1,e⟩|h
    ·exact .inl ⟨j,by omega,e⟩
    ·exact .inr (List.mem_append_left _ h)
   ·rcases r3 p h with ⟨j,j1,j2,e⟩|h
    ·exact .inl ⟨j,by omega,e⟩
    ·exact .inr (List.mem_append_right _ h)
end
end
section
open Go.RowKit Go.Deep
def Laid1 (lo:Nat) (w:World) (ls:List Loc) (m:List Addr):Prop:=m.Nodup/\∀ p∈m,lo<=p.block/\p.block<w.heap.size/\w.frozen? p=false/\∃ c s,Loc.at_ p.block c s∈ls
section
variable {w:World} {lo:Nat} {e:TypeId} {t:Ty}
theorem Se {xs:List t.D} {l:Loc} (hfl:t.flat=true) (h:ownsV w lo e t.size (l.val xs.length) xs.length (t.cells xs)):∃ A c m,l.val xs.length=.slice A xs.length c/\Sl (Bu lo) w t A c xs m/\Laid1 lo w [l] m:=by
 cases l with
 | nil =>
  have h0:xs.length=0:=by
   rcases h.2 with ⟨_,h⟩|⟨g,cap,cur,h,_⟩
   ·exact h
   ·simp [Loc.val] at h
  refine ⟨none,0,[],by simp [Loc.val,h0],⟨by omega,by simp [maxLen],fun _=>[],by simp,fun h=>absurd h oM⟩,List.nodup_nil,fun p hp=>by cases hp⟩
 | at_ b cap s =>
  have h':=h;rcases h.2 with ⟨h,_⟩|⟨g,cap',cur,hv,hlo,hb,h1,h2,h3,h4⟩
  ·simp [Loc.val] at h
  simp only [Loc.val,Value.slice.injEq,Option.some.injEq,Addr.mk.injEq,true_and,and_true] at hv;obtain ⟨rfl,rfl⟩:=hv;refine ⟨some ⟨b,0,none⟩,cap,(List.range xs.length).flatMap fun i=>(List.range t.size).map (((⟨b,0,none⟩:Addr).add (i*t.size)).add ·),rfl,⟨h1,h2,fun i=>(List.range t.size).map (((⟨b,0,none⟩:Addr).add (i*t.size)).add ·),rfl,fun _=>⟨_,rfl,hlo,fun i hi=>?_⟩⟩,?_⟩
  ·refine Ty.mem_flat hfl fun j hj=>?_
   have hx:(t.enc xs[i])[j]? =some ((t.enc xs[i])[j]'(by rw [Ty.enc_length _ hfl];exact hj)):=gEg _;rw [hx,A4,A4,Nat.zero_add];exact J9 hfl h' (gEg _) hx
  rw [We];refine ⟨?_,?_⟩
  ·exact List.pairwise_map.2 (List.nodup_range.imp fun hne e=>hne (by injection e))
  ·intro p hp;obtain ⟨j,_,rfl⟩:=List.mem_map.1 hp;exact ⟨hlo,(Array.getElem?_eq_some_iff.1 hb).1,by simp [World.frozen?,hb],cap,s,by simp⟩
theorem Q5:∀ (ms:List (List Addr)),(List.range ms.length).flatMap (fun i=>ms.getD i [])=ms.flatten:=by
 intro ms;rw [List.flatMap_def];congr 1;refine List.ext_getElem (by simp) fun i h1 h2=>?_
 simp [gDg,h2]
theorem Uw {e':TypeId} (hfl:t.flat=true):∀ {xss:List (List t.D)} {kl:List Loc} {ks:List Value},kl.length=xss.length->(∀ (k:Nat) (xs:List t.D) (l:Loc),xss[k]? =some xs->kl[k]? =some l->ks[k]? =some (l.val xs.length)/\ownsV w lo e' t.size (l.val xs.length) xs.length (t.cells xs))->Fe kl ->
  ∃ ms:List (List Addr),ms.length=xss.length/\(∀ (k:Nat) (xs:List t.D) (m:List Addr),xss[k]? =some xs->ms[k]? =some m->∃ A c,ks[k]? =some (.slice A xs.length c)/\Sl (Bu lo) w t A c xs m)/\Laid1 lo w kl ms.flatten
 | [],_,_,_,_,_=>⟨[],rfl,fun k xs m h=>by simp at h,List.nodup_nil,fun p hp=>by simp at hp⟩
 | _ :: _,[],_,h,_,_=>by simp at h
 | xs :: xss,l :: kl,ks,h,hk,hap=>by
  obtain ⟨k0,o0⟩:=hk 0 xs l rfl rfl;obtain ⟨A,c,m,e1,e2,n1,e3⟩:=Se hfl o0
  obtain ⟨ms,q1,q2,n2,q3⟩:=Uw (ks:=ks.drop 1) hfl (xss:=xss) (kl:=kl) (by simpa using h) (fun k ys l' hy hl=>by
   have:=hk (k+1) ys l' (by simpa using hy) (by simpa using hl);exact ⟨by rw [List.getElem?_drop,Nat.add_comm];exact this.1,this.2⟩) hap.2
  refine ⟨m :: ms,by simp [q1],fun k ys m' hy hm=>?_,?_,fun p hp=>?_⟩
  ·cases k with
   | zero =>
    simp at hy hm;subst hy hm;exact ⟨A,c,by rw [k0,e1],e2⟩
   | succ k =>
    obtain ⟨A',c',h1,h2⟩:=q2 k ys m' (by simpa using hy) (by simpa using hm);rw [List.getElem?_drop,Nat.add_comm] at h1;exact ⟨A',c',h1,h2⟩
  ·rw [List.flatten_cons];refine List.nodup_append.2 ⟨n1,n2,fun a ha b hb e=>?_⟩;subst e;obtain ⟨_,_,_,c1,s1,g1⟩:=e3 a ha;obtain ⟨_,_,_,c2,s2,g2⟩:=q3 a hb;exact hap.1 _ _ _ (List.mem_singleton.1 g1).symm c2 s2 g2
  ·rw [List.flatten_cons] at hp;rcases List.mem_append.1 hp with h|h
   ·obtain ⟨a1,a2,a3,c1,s1,g1⟩:=e3 p h;exact ⟨a1,a2,a3,c1,s1,by rw [List.mem_singleton.1 g1];exact List.mem_cons_self⟩
   ·obtain ⟨a1,a2,a3,c1,s1,g1⟩:=q3 p h;exact ⟨a1,a2,a3,c1,s1,List.mem_cons_of_mem _ g1⟩
theorem Adw {e':TypeId} {xss:List (List t.D)} {l:Loc} {kl:List Loc} {ks:List Value} (hfl:t.flat=true) (hl:kl.length=xss.length) (ho:ownsV w lo e 1 (l.val xss.length) xss.length ks) (hk:∀ (k:Nat) (xs:List t.D) (l:Loc),xss[k]? =some xs->kl[k]? =some l->ks[k]? =some (l.val xs.length)/\ownsV w lo e' t.size (l.val xs.length) xs.length (t.cells xs)) (hap:Fe (l :: kl)) :
  ∃ A c m,l.val xss.length=.slice A xss.length c/\Sl (Bu lo) w (.slice t) A c xss m/\Laid1 lo w (l :: kl) m:=by
 obtain ⟨ms,q1,q2,n2,q3⟩:=Uw hfl hl hk hap.2
 have hLd:Laid1 lo w (l :: kl) ((List.range xss.length).flatMap fun i=>ms.getD i []):=by
  rw [← q1,Q5]
  exact ⟨n2,fun p hp=>by
   obtain ⟨a1,a2,a3,c1,s1,g1⟩:=q3 p hp;exact ⟨a1,a2,a3,c1,s1,List.mem_cons_of_mem _ g1⟩⟩
 rcases ho.2 with ⟨hv,h0⟩|⟨g,cap,cur,hv,hlo,hb,h1,h2,h3,h4⟩
 ·refine ⟨none,0,_,by rw [hv,h0],⟨by omega,by simp [maxLen],fun i=>ms.getD i [],rfl,fun h=>absurd h oM⟩,hLd⟩
 ·refine ⟨_,cap,_,hv,⟨h1,h2,fun i=>ms.getD i [],rfl,fun _=>⟨_,rfl,hlo,fun i hi=>?_⟩⟩,hLd⟩;obtain ⟨m,hm⟩:∃ m,ms[i]? =some m:=⟨_,gEg oM⟩
  obtain ⟨A,c,hks,hs⟩:=q2 i _ m (gEg hi) hm;have hgd:ms.getD i []=m:=by rw [gDg,hm];rfl
  show Ty.Mem _ _ _ _ _ (ms.getD i []);rw [hgd];refine ⟨A,c,?_,hs⟩;have hc:=ho.cells (g:=g) (by rw [hv];rfl) i _ hks
  simpa [Ty.size] using hc
end
def RL.Out (lo:Nat) (w:World):List RL->List Value->List Addr->Prop
 | [],us,l=>us=[]/\l=[]
 | .sc c :: r,us,l=>∃ u us',us=u :: us'/\AV.Rep (fun _=>none) (fun _=>True) w c u/\RL.Out lo w r us' l
 | .new _ t xs :: r,us,l=>∃ A c m us' l',us=.slice A xs.length c :: us'/\l=m++l'/\Sl (Bu lo) w t A c xs m/\RL.Out lo w r us' l'
 | .newM _ _ u xss :: r,us,l=>∃ A c m us' l',us=.slice A xss.length c :: us'/\l=m++l'/\Sl (Bu lo) w (.slice u) A c xss m/\RL.Out lo w r us' l'
 | .frz c :: r,us,l=>∃ u us',us=u :: us'/\AV.Rep (fun _=>none) (fun b=>lo<=b) w c u/\RL.Out lo w r us' l
 | _ :: _,_,_=>False
def RL.plain:RL->Bool
 | .sc _ | .new .. | .newM .. | .frz _=>true
 | _=>false
theorem L9:∀ {a b:List Loc},Fe (a++b)->Fe b
 | [],_,h=>h
 | _ :: a,_,h=>L9 (a:=a) h.2
theorem Ni:∀ {a b:List Loc},Fe (a++b)->Fe a
 | [],_,_=>trivial
 | _ :: a,_,h=>⟨fun b c s e c' s' hm=>h.1 b c s e c' s' (List.mem_append_left _ hm),Ni (a:=a) h.2⟩
theorem Lh:∀ {a b:List Loc},Fe (a++b)->∀ n c s c' s',Loc.at_ n c s∈a->Loc.at_ n c' s'∉b
 | l :: a,_,h,n,c,s,c',s',hm=>by
  rcases List.mem_cons.1 hm with e|hm
  ·exact fun hb=>h.1 n c s e.symm c' s' (List.mem_append_right _ hb)
  ·exact Lh (a:=a) h.2 n c s c' s' hm
theorem Laid1.append {lo:Nat} {w:World} {a b:List Loc} {l m:List Addr} (h1:Laid1 lo w a l) (h2:Laid1 lo w b m) (hap:Fe (a++b)):Laid1 lo w (a++b) (l++m):=by
 refine ⟨List.nodup_append.2 ⟨h1.1,h2.1,fun x hx y hy e=>?_⟩,fun p hp=>?_⟩
 ·subst e;obtain ⟨_,_,_,c1,s1,g1⟩:=h1.2 x hx;obtain ⟨_,_,_,c2,s2,g2⟩:=h2.2 x hy;exact Lh hap _ _ _ _ _ g1 g2
 ·rcases List.mem_append.1 hp with h|h
  ·obtain ⟨a1,a2,a3,c1,s1,g1⟩:=h1.2 p h;exact ⟨a1,a2,a3,c1,s1,List.mem_append_left _ g1⟩
  ·obtain ⟨a1,a2,a3,c1,s1,g1⟩:=h2.2 p h;exact ⟨a1,a2,a3,c1,s1,List.mem_append_right _ g1⟩
theorem RL.out_of {lo:Nat} {im:Nat->Prop} {vs:List Value} {w:World}:∀ {rs:List RL} {us:List Value} {ls:List Loc},rs.all RL.plain=true->RL.RepL lo im vs w rs us ls->Fe ls->∃ l,RL.Out lo w rs us l/\Laid1 lo w ls l
 | [],us,ls,_,⟨h,_⟩,_=>⟨[],⟨h,rfl⟩,List.nodup_nil,fun p hp=>by cases hp⟩
 | .sc c :: r,us,ls,hp,⟨u,us',e,h1,h2,h3⟩,hap=>by
  obtain ⟨l,q1,q2⟩:=RL.out_of (rs:=r) (by simpa [RL.plain] using hp) h3 hap;exact ⟨l,⟨u,us',e,(by cases c <;> first|exact h1|cases h2),q1⟩,q2⟩
 | .new e t xs :: r,us,ls,hp,⟨l,ls',us',e1,e2,h1,h2,_,h3⟩,hap=>by
  subst e1 e2;obtain ⟨m,q1,q2⟩:=RL.out_of (rs:=r) (by simpa [RL.plain] using hp) h3 hap.2;obtain ⟨A,c,k,e3,e4,e5⟩:=Se h1 h2;exact ⟨k++m,⟨A,c,k,us',m,by rw [e3],rfl,e4,q1⟩,e5.append (a:=[l]) q2 hap⟩
 | .newM e e' u xss :: r,us,ls,hp,⟨l,kl,ls',us',ks,e1,e2,⟨⟨h0,h1⟩,⟨h2,_⟩,h3⟩,h4⟩,hap=>by
  subst e1 e2;obtain ⟨m,q1,q2⟩:=RL.out_of (rs:=r) (by simpa [RL.plain] using hp) h4 (L9 (a:=l :: kl) hap);obtain ⟨A,c,k,e3,e4,e5⟩:=Adw h1 h0 h2 (fun k xs l hx hl=>⟨(h3 k xs l hx hl).1,(h3 k xs l hx hl).2.1⟩) (Ni (a:=l :: kl) hap);exact ⟨k++m,⟨A,c,k,us',m,by rw [e3],rfl,e4,q1⟩,e5.append (a:=l :: kl) q2 hap⟩
 | .frz c :: r,us,ls,hp,⟨u,us',e,h1,h2,h3⟩,hap=>by
  obtain ⟨l,q1,q2⟩:=RL.out_of (rs:=r) (by simpa [RL.plain] using hp) h3 hap;exact ⟨l,⟨u,us',e,h1,q1⟩,q2⟩
 | .arg .. :: _,_,_,hp,_,_=>by simp [RL.plain] at hp
 | .argS .. :: _,_,_,hp,_,_=>by simp [RL.plain] at hp
 | .imm _ :: _,_,_,hp,_,_=>by simp [RL.plain] at hp
theorem RV.out_of {lo:Nat} {im:Nat->Prop} {vs:List Value} {w:World} {r:RV} {u:Value} (h:r.Rep lo im vs w u) (hp:r.leaves.all RL.plain=true) :
  ∃ us l,RL.Out lo w r.leaves us l/\Fresh w lo l/\u=(if r.tup then .tuple (Ec r.ps us).toArray else (Ec r.ps us).headD undef):=by
 obtain ⟨us,ls,h1,⟨h2,_⟩,rfl⟩:=h;obtain ⟨l,q1,q2,q3⟩:=RL.out_of hp h1 h2;exact ⟨us,l,q1,⟨q2,fun p hp=>⟨(q3 p hp).1,(q3 p hp).2.1,(q3 p hp).2.2.1⟩⟩,rfl⟩
end
section
open Go.RowKit Go.Deep
def Qc:AV->Option (List AV)
 | .agg cs=>some cs
 | c=>if c.one then some [c] else none
def Ij (f:Nat->AV):List (Nat×Nat×Opd)->List AV->Option (List AV)
 | [],cs=>some cs
 | (off,sz,x) :: ps,cs=>match Qc (x.ev f) with
  | some ds=>if ds.length=sz/\off+sz<=cs.length then Ij f ps (cs.take off++(ds++cs.drop (off+sz))) else none
  | none=>none
def Sz (f:Nat->AV) (z:List AV) (ps:List (Nat×Nat×Opd)):Option AV :=
 match Ij f ps z with
 | some cs=>some (.agg cs)
 | none=>none
def Aff (f:Nat->AV) (mx:Bool) (x y:Opd):Option AV :=
 match x.ev f,y.ev f with
 | .int k a,.int k' b=>if k=k' then some (.int k (if mx then (if a<b then b else a) else (if b<a then b else a))) else none
 | _,_=>none
def Og (P:Program) (t:TypeId) (i:Nat):Option (Nat×Nat) :=
 match P.underlying t with
 | some (.struct fs)=>(fs.toList[i]?).map fun g=>(g.offset,P.cellsOf g.type)
 | some (.array _ e)=>some (i*P.cellsOf e,P.cellsOf e)
 | _=>none
def O3 (P:Program) (t:TypeId):Bool :=
 match P.underlying t with
 | some (.struct fs)=>fs.toList.all fun g=>(P.info? g.type).isSome
 | some (.array _ e)=>(P.info? e).isSome
 | _=>false
def G7 (P:Program) (t:TypeId):List (Nat×Operand)->Option (List (Nat×Nat×Opd))
 | []=>some []
 | (i,x) :: r=>match Og P t i,Opd.of x,G7 P t r with
  | some (o,s),some x',some ps=>some ((o,s,x') :: ps)
  | _,_,_=>none
section
variable {P:Program} {G:World->Prop} {w0 w w':World} {ob:Oid->Option Ob} {σ:Oid->Option Loc} {K K':Nat->Prop} {im:Nat->Prop}
theorem Tj {c:AV} {ds:List AV} {v:Value} (h:Qc c=some ds) (hr:AV.Rep σ im w c v):AV.RepL σ im w ds v.cells.toList:=by
 unfold Qc at h;split at h
 ·obtain rfl:=osj h;obtain ⟨vs,e,hl⟩:=hr;rw [e];simpa [Value.cells] using hl
 ·split at h
  ·rename_i h1;obtain rfl:=osj h;have hone:=AV.one_rep h1 hr;have:v.cells.toList=[v]:=by cases v <;> first|rfl|cases hone
   rw [this];exact ⟨v,[],rfl,hr,rfl⟩
  ·cases h
theorem Q1 {f:Nat->AV} {a:Act} {place:Nat->Option (Nat×Nat)} {t:TypeId} (hp:∀ i,place i=Og P t i):∀ {parts:List (Nat×Operand)} {ps:List (Nat×Nat×Opd)} {cs ds:List AV} {cells:Array Value},G7 P t parts=some ps->Ij f ps cs=some ds ->
  AV.RepL σ im w cs cells.toList->(∀ x∈parts.map (·.2),∀ y,Opd.of x=some y->AV.Rep σ im w (y.ev f) (a.eval x))->∃ cells',Instr.fill place cells (parts.map fun (i,x)=>(i,a.eval x))=some cells'/\AV.RepL σ im w ds cells'.toList
 | [],ps,cs,ds,cells,h,hb,hr,_=>by
  obtain rfl:[]=ps:=osj h;obtain rfl:cs=ds:=osj hb;exact ⟨cells,rfl,hr⟩
 | (i,x) :: parts,ps,cs,ds,cells,h,hb,hr,hf=>by
  simp only [G7] at h;split at h
  ·rename_i o s x' ps' h1 h2 h3;obtain rfl:=osj h;simp only [Ij] at hb;split at hb
   ·rename_i es hes;split at hb
    ·rename_i hc;have hv:=Tj hes (hf x (by simp) x' h2);have hsz:(a.eval x).cells.size=s:=by rw [← Array.length_toList,hv.length,hc.1]
     have hcl:cs.length=cells.size:=by rw [← hr.length];simp
     have hfs:=Gr o (a.eval x).cells.toList 0 cells (by rw [Array.length_toList];omega);rw [← Array.toList_zipIdx,Array.foldl_toList] at hfs;obtain ⟨g1,g2⟩:=hfs
     have hnew:((a.eval x).cells.zipIdx.foldl (fun (cs:Array Value) (p:Value×Nat)=>cs.setIfInBounds (o+p.2) p.1) cells).toList=cells.toList.take o++((a.eval x).cells.toList++cells.toList.drop (o+s)):=by
      apply List.ext_getElem?;intro j;rw [Array.getElem?_toList,g2 j,Array.length_toList,hsz];simp only [List.getElem?_append,List.length_take,Array.length_toList,List.getElem?_take,List.getElem?_drop,hsz,Array.getElem?_toList,Nat.add_zero]
      repeat' split
      all_goals first|rfl|(exfalso;omega)|(congr 1;omega)
     obtain ⟨cells',q1,q2⟩:=Q1 hp (cells:=(a.eval x).cells.zipIdx.foldl (fun (cs:Array Value) (p:Value×Nat)=>cs.setIfInBounds (o+p.2) p.1) cells) h3 hb (by rw [hnew];exact (hr.take o).append (hv.append (hr.drop _))) (fun z hz=>hf z (by simp at hz ⊢;exact .inr hz));refine ⟨cells',?_,q2⟩;simp only [List.map_cons,Instr.fill,hp,h1];rw [if_neg (by simp [hsz];omega)];exact q1
    ·cases hb
   ·cases hb
  ·cases h
theorem Tb {o:Oper} {a:Act} {f:Nat->AV} {v:AV} {t:TypeId} {parts:Array (Nat×Operand)} {ps:List (Nat×Nat×Opd)} {inf:TypeInfo} {z:Value} (ho:o.op=.build t parts) (hi0:P.info? t=some inf) (hz:inf.zero=some z) (hok:O3 P t=true) (hps:G7 P t parts.toList=some ps)
  (he:Sz f (z.cells.toList.map AV.of1) ps=some v) (hm:Mem0 G w0 ob σ K w) (hK:∀ n,K n->K' n)
  (hf:∀ x∈o.op.operands,∀ y,Opd.of x=some y->AV.Rep σ (imm ob σ) w (y.ev f) (a.eval x)):Oper.does P o a w (Goes G w0 ob K' σ (imm ob σ) w v):=by
 have hops:o.op.operands=(parts.toList.map (·.2)).toArray:=by rw [ho];rfl
 have hf':∀ x∈parts.toList.map (·.2),∀ y,Opd.of x=some y->AV.Rep σ (imm ob σ) w (y.ev f) (a.eval x):=fun x hx=>hf x (by rw [hops];simpa using hx)
 unfold Sz at he;split at he
 ·rename_i cs hcs;obtain rfl:=osj he;have hzr:AV.RepL σ (imm ob σ) w (z.cells.toList.map AV.of1) z.cells.toList:=AV.of1_repL _;have hzv:(zeroValue t).run P w=.ok z w:=by simp [zeroValue,typeInfo,hi0,hz]
  unfold O3 at hok;split at hok
  ·rename_i fs hu
   have hmap:(fs.mapM fun g:Field=>Prod.mk g.offset <$> sizeOf g.type:Sem (Array (Nat×Nat))).run P w=.ok (fs.map fun g=>(g.offset,P.cellsOf g.type)) w:=by
    rw [Array.mapM_eq_mapM_toList]
    have key:∀ l:List Field,l.all (fun g=>(P.info? g.type).isSome)=true->(l.mapM fun g:Field=>Prod.mk g.offset <$> sizeOf g.type:Sem (List (Nat×Nat))).run P w=.ok (l.map fun g=>(g.offset,P.cellsOf g.type)) w:=by
     intro l
     induction l with
     | nil=>intro _;rfl
     | cons g l ih =>
      intro h;rw [List.all_cons,Bool.and_eq_true] at h;obtain ⟨i,hi⟩:=Option.isSome_iff_exists.1 h.1;have hc:P.cellsOf g.type=i.size:=by simp [Program.cellsOf,hi]
      have hh:(Prod.mk g.offset <$> sizeOf g.type:Sem (Nat×Nat)).run P w=.ok (g.offset,P.cellsOf g.type) w:=by
       simp [sizeOf,typeInfo,hi,hc]
      rw [List.mapM_cons,Sem.run_bind,hh];simp only [Result.andThen_ok,Sem.run_bind,ih h.2,Sem.run_pure,List.map_cons]
    rw [Sem.run_map,key _ hok];simp only [Result.andThen_ok];congr 1;apply Array.ext';simp
   obtain ⟨cells',q1,q2⟩:=Q1 (P:=P) (place:=((fs.map fun g=>(g.offset,P.cellsOf g.type))[·]?)) (t:=t) (fun i=>by simp [Og,hu]) hps hcs hzr hf';refine Oper.does_value (v:=.agg cells') ?_ (Goes.same hm hK ⟨cells'.toList,by simp,q2⟩);have q1':Instr.fill (fun x=>(fs.map fun g=>(g.offset,P.cellsOf g.type))[x]?) z.cells (List.map (fun x=>(x.1,a.eval x.2)) parts.toList)=some cells':=q1;simp [execOp,ho,Instr.build,hzv,run_underlying hu];rw [hmap];simp only [Result.andThen_ok];rw [q1'];rfl
  ·rename_i n e hu;obtain ⟨i,hi⟩:=Option.isSome_iff_exists.1 hok;have hc:P.cellsOf e=i.size:=by simp [Program.cellsOf,hi]
   obtain ⟨cells',q1,q2⟩:=Q1 (P:=P) (place:=fun j=>some (j*i.size,i.size)) (t:=t) (fun j=>by simp [Og,hu,hc]) hps hcs hzr hf';refine Oper.does_value (v:=.agg cells') ?_ (Goes.same hm hK ⟨cells'.toList,by simp,q2⟩);have q1':Instr.fill (fun j=>some (j*i.size,i.size)) z.cells (List.map (fun x=>(x.1,a.eval x.2)) parts.toList)=some cells':=q1;simp [execOp,ho,Instr.build,hzv,run_underlying hu,sizeOf,typeInfo,hi];rw [q1'];rfl
  ·cases hok
 ·cases he
theorem Rk {o:Oper} {a:Act} {f:Nat->AV} {v:AV} {mx:Bool} {x y:Operand} {x' y':Opd} {c:Call} (ho:o.op=.call c) (hcb:c.callee=.builtin (if mx then .max else .min)) (hca:c.args= #[x,y]) (h2:Opd.of x=some x') (h3:Opd.of y=some y')
  (he:Aff f mx x' y'=some v) (hm:Mem0 G w0 ob σ K w) (hK:∀ n,K n->K' n)
  (hf:∀ x∈o.op.operands,∀ y,Opd.of x=some y->AV.Rep σ (imm ob σ) w (y.ev f) (a.eval x)):Oper.does P o a w (Goes G w0 ob K' σ (imm ob σ) w v):=by
 have r1:=hf x (by simp [ho,Op.operands,Call.operands,hca]) x' h2;have r2:=hf y (by simp [ho,Op.operands,Call.operands,hca]) y' h3;unfold Aff at he;split at he
 ·rename_i k m k' n hx hy;rw [hx] at r1;rw [hy] at r2;have e1:a.eval x=.int k m:=r1;have e2:a.eval y=.int k' n:=r2;split at he
  ·rename_i hk;subst hk;obtain rfl:=osj he;cases mx
   ·refine Oper.does_value (v:=.int k (if n<m then n else m)) ?_ (Goes.same hm hK rfl);simp [execOp,ho,resolve,hcb,hca,invoke,builtin,Builtin.min_,Builtin.min2,e1,e2]
   ·refine Oper.does_value (v:=.int k (if m<n then n else m)) ?_ (Goes.same hm hK rfl);simp [execOp,ho,resolve,hcb,hca,invoke,builtin,Builtin.max_,Builtin.max2,e1,e2]
  ·cases he
 ·cases he
end
end
section
open Go.RowKit Go.Deep
section
variable {G:World->Prop} {w0 w:World} {ob ob':Oid->Option Ob} {σ:Oid->Option Loc} {K K':Nat->Prop}
theorem T8 (h:∀ i o,ob' i=some o->ob i=some o) {b:Nat} (hb:imm ob σ b):imm ob' σ b:=fun i o c s ho=>hb i o c s (h i o ho)
theorem Later.sub (h:∀ i o,ob' i=some o->ob i=some o):Later σ σ (imm ob σ) (imm ob' σ) w w:=⟨fun _ _ h=>h,fun _ _ hb=>T8 h hb,fun _ _ _=>rfl,Nat.le_refl _⟩
theorem Mem0.sub (hm:Mem0 G w0 ob σ K w) (h:∀ i o,ob' i=some o->ob i=some o):Mem0 G w0 ob' σ K w :=
 ⟨hm.below,hm.inv,hm.gen,hm.lt,hm.cap,fun i j b c s c' s' o o' hi hj=>hm.inj i j b c s c' s' o o' (h i o hi) (h j o' hj),fun i o l hi hl=>(hm.obs i o l (h i o hi) hl).later (Later.sub h) fun _ _ _ _=>rfl⟩
end
def Jn:AV->List (Oid×Option Ob)
 | .own i _ _ _=>[(i,none)]
 | _=>[]
def T6 (f:Nat->AV) (ob:Oid->Option Ob) (t:Ty):List Opd->Option (List (List t.D))
 | []=>some []
 | x :: xs=>match D4 ob t (x.ev f),T6 f ob t xs with
  | some y,some ys=>some (y :: ys)
  | _,_=>none
def Nc (f:Nat->AV) (ob:Oid->Option Ob) (t:Ty) (xs:List Opd):Option (AV×List (Oid×Option Ob)) :=
 match T6 f ob t xs with
 | some yss=>some (.tree (.slice t) yss,xs.flatMap fun x=>Jn (x.ev f))
 | none=>none
section
variable {P:Program} {G:World->Prop} {w0 w w':World} {ob:Oid->Option Ob} {σ:Oid->Option Loc} {K K':Nat->Prop} {im:Nat->Prop}
theorem Ae5:∀ (vs:List Value) (k:Nat) (cells:Array Value),(∀ v∈vs,v.cells= #[v])->k+vs.length<=cells.size ->
  ∃ cs,Instr.fill (fun i=>some (i*1,1)) cells ((vs.zipIdx k).map fun x=>(x.2,x.1))=some cs/\cs.size=cells.size/\∀ j,cs[j]? =if k<=j/\j<k+vs.length then vs[j - k]? else cells[j]?
 | [],k,cells,_,_=>⟨cells,rfl,rfl,fun j=>by rw [if_neg (by simp)]⟩
 | v :: vs,k,cells,h,hs=>by
  simp only [List.length_cons] at hs;have hv:=h v (by simp);obtain ⟨cs,h1,h2,h3⟩:=Ae5 vs (k+1) (cells.setIfInBounds k v) (fun u hu=>h u (by simp [hu])) (by rw [Array.size_setIfInBounds];omega);refine ⟨cs,?_,by rw [h2,Array.size_setIfInBounds],fun j=>?_⟩
  ·simp only [List.zipIdx_cons,List.map_cons,Instr.fill,Nat.mul_one];rw [if_neg (by simp [hv];omega)];simp only [hv]
   simpa using h1
  ·rw [h3 j];by_cases e:j=k
   ·subst e;rw [if_neg oM,if_pos (by simp),Array.getElem?_setIfInBounds_self_of_lt oM];simp
   ·rw [Array.getElem?_setIfInBounds_ne oM];by_cases c:k+1<=j/\j<k+1+vs.length
    ·rw [if_pos c,if_pos (by simp only [List.length_cons];omega),show j - k=(j - (k+1))+1 by omega];simp
    ·rw [if_neg c,if_neg (by simp only [List.length_cons];omega)]
theorem Hq:∀ (us:List (Oid×Option Ob)) (ob:Oid->Option Ob),(∀ u∈us,u.2=none)->(∀ i o,Ae us ob i=some o->ob i=some o)/\∀ u∈us,Ae us ob u.1=none
 | [],_,_=>⟨fun _ _ h=>h,fun _ h=>by cases h⟩
 | (j,x) :: us,ob,h=>by
  obtain rfl:x=none:=h (j,x) (by simp);obtain ⟨h1,h2⟩:=Hq us (upd ob j none) fun u hu=>h u (by simp [hu])
  have key:∀ i o,upd ob j none i=some o->ob i=some o:=by
   intro i o hi;by_cases e:i=j
   ·subst e;rw [Ar] at hi;cases hi
   ·rw [Aq _ _ _ _ e] at hi;exact hi
  refine ⟨fun i o hi=>key i o (h1 i o hi),fun u hu=>?_⟩;rcases List.mem_cons.1 hu with rfl|hu
  ·show Ae us (upd ob j none) j=none;cases hq:Ae us (upd ob j none) j with
   | none=>rfl
   | some o =>
    have:=h1 j o hq;rw [Ar] at this;cases this
  ·exact h2 u hu
theorem Afd {t:Ty} {v:AV} {u:Value} {ys:List t.D} (hm:Mem0 G w0 ob σ K w) (h:D4 ob t v=some ys) (hr:AV.Rep σ (imm ob σ) w v u) :
  ∃ A c l,u=.slice A ys.length c/\Sl (fun b=>imm ob σ b∨∃ i t0 off len cap sz,v=.own i t0 off len/\σ i=some (.at_ b cap sz)/\ob i≠none) w t A c ys l:=by
 unfold D4 at h;split at h
 ·obtain rfl:=osj h;exact ⟨none,0,[],hr,by simp,by simp [maxLen],fun _=>[],by simp,fun h=>absurd h (by simp)⟩
 ·rename_i u0 xs;split at h
  ·rename_i hp hq;obtain ⟨he⟩:=hp;subst he;obtain rfl:=osj h;obtain ⟨A,c,l,e,hs⟩:=hr;exact ⟨A,c,l,e,Al (fun b _ hb=>.inl hb) hs⟩
  ·cases h
 ·rename_i vg u0 xs;split at h
  ·rename_i hp hq;obtain ⟨he⟩:=hp;subst he;obtain rfl:=osj h;obtain ⟨A,c,l,e,hs⟩:=hr.2;exact ⟨A,c,l,e,Al (fun b _ hb=>.inl hb) hs⟩
  ·cases h
 ·rename_i vg u0 xs;split at h
  ·rename_i hp hq;obtain ⟨he⟩:=hp;subst he;obtain rfl:=osj h;obtain ⟨A,c,l,e,hs⟩:=hr;exact ⟨A,c,l,e,Al (fun b _ hb=>.inl hb.1) hs⟩
  ·cases h
 ·rename_i i t0 off len;split at h
  ·rename_i e u0 xs hj;split at h
   ·rename_i hle;split at h
    ·rename_i hp hq;obtain ⟨he⟩:=hp;subst he;obtain rfl:=osj h;simp only [C5];have hlen:((xs.drop off).take len).length=len:=by rw [List.length_take,List.length_drop];omega
     rcases hr with ⟨g1,rfl,rfl,g4⟩|⟨b,cap,g1,g2,g3⟩|⟨lc,g1,g2,g3,A,c,g4,g5⟩
     rotate_left
     rotate_left
     ·subst g3;exact ⟨A,c,[],by rw [hlen];exact g4,by simp,g5,fun _=>[],by simp,fun h=>absurd h (by simp)⟩
     ·exact ⟨none,0,[],by rw [hlen];exact g4,by simp,by simp [maxLen],fun _=>[],by simp,fun h=>absurd h (by simp)⟩
     ·obtain ⟨hfl,hown,hs⟩:=hm.obs _ _ _ hj g1;have hs0:=hs b cap _ rfl;obtain ⟨l,hl⟩:=Xk hfl hown hle;exact ⟨_,_,l,by rw [hlen,← hs0];exact g3,Al (fun b' _ hb=>by subst hb;exact .inr ⟨i,t0,off,len,cap,_,rfl,g1,by rw [hj];simp⟩) hl⟩
    ·cases h
   ·cases h
  ·cases h
 ·cases h
def H7 (P:Program) (e:TypeId):Bool :=
 match P.info? e with
 | some i=>match i.zero with
  | some z=>i.size==1&&z.cells.size==1
  | none=>false
 | none=>false
theorem O7 {e:TypeId} (h:H7 P e=true):∃ i z,P.info? e=some i/\i.zero=some z/\i.size=1/\z.cells.size=1:=by
 unfold H7 at h;split at h
 ·rename_i i hi;split at h
  ·rename_i z hz;simp only [Bool.and_eq_true,beq_iff_eq] at h;exact ⟨i,z,hi,hz,h.1,h.2⟩
  ·cases h
 ·cases h
theorem Vo {f:Nat->AV} {a:Act} {t:Ty} (hm:Mem0 G w0 ob σ K w):∀ {xs:List Operand} {zs:List Opd} {yss:List (List t.D)},Opd.ofL xs=some zs->T6 f ob t zs=some yss->(∀ x∈xs,∀ y,Opd.of x=some y->AV.Rep σ (imm ob σ) w (y.ev f) (a.eval x)) ->
  xs.length=yss.length/\∀ (k:Nat) (x:Operand) (ys:List t.D),xs[k]? =some x->yss[k]? =some ys->∃ z∈zs,∃ A c l,a.eval x=.slice A ys.length c/\Sl (fun b=>imm ob σ b∨∃ i t0 off len cap sz,z.ev f=.own i t0 off len/\σ i=some (.at_ b cap sz)/\ob i≠none) w t A c ys l
 | [],zs,yss,h,he,_=>by
  obtain rfl:[]=zs:=osj h;obtain rfl:[]=yss:=osj he;exact ⟨rfl,fun k x ys hx=>by simp at hx⟩
 | x :: xs,zs,yss,h,he,hf=>by
  simp only [Opd.ofL] at h;split at h
  ·rename_i y ys' h1 h2;obtain rfl:=osj h;simp only [T6] at he;split at he
   ·rename_i q qs h3 h4;obtain rfl:=osj he;obtain ⟨e1,e2⟩:=Vo hm h2 h4 (fun x hx=>hf x (by simp [hx]));refine ⟨by simp [e1],fun k x' ys hx hy=>?_⟩;cases k with
    | zero =>
     obtain rfl:=osj hx;obtain rfl:=osj hy;exact ⟨y,by simp,Afd hm h3 (hf x (by simp) y h1)⟩
    | succ k =>
     obtain ⟨z,hz,r⟩:=e2 k x' ys hx hy;exact ⟨z,by simp [hz],r⟩
   ·cases he
  ·cases h
theorem Wg {o:Oper} {a:Act} {f:Nat->AV} {v:AV} {us:List (Oid×Option Ob)} {ty e:TypeId} {t:Ty} {n:Nat} {parts:Array (Nat×Operand)} {zs:List Opd} (ho:o.op=.buildSlice ty n parts) (ht:P.underlying ty=some (.slice e)) (hel:H7 P e=true)
  (hp:parts.toList.map (·.1)=List.range n) (h2:Opd.ofL (parts.toList.map (·.2))=some zs) (hn:n<=16777216)
  (he:Nc f ob t zs=some (v,us)) (hm:Mem0 G w0 ob σ K w) (hK:∀ n,K n->K' n)
  (hf:∀ x∈o.op.operands,∀ y,Opd.of x=some y->AV.Rep σ (imm ob σ) w (y.ev f) (a.eval x)):Oper.does P o a w (Goes G w0 (Ae us ob) K' σ (imm ob σ) w v):=by
 obtain ⟨inf,z,q1,q2,q3,q4⟩:=O7 hel;unfold Nc at he;split at he
 ·rename_i yss hyss;obtain ⟨rfl,rfl⟩:=Prod.mk.inj (osj he);have hops:o.op.operands=(parts.toList.map (·.2)).toArray:=by rw [ho];rfl
  obtain ⟨hlen,hc⟩:=Vo hm h2 hyss (fun x hx=>hf x (by rw [hops];simpa using hx))
  have hpn:parts.size=n:=by
   have:=congrArg List.length hp
   simpa using this
  have hyn:yss.length=n:=by rw [← hlen];simpa using hpn
  have hvals:((parts.toList.map (·.2)).map a.eval).length=n:=by simp [hpn]
  have hps:(parts.toList.map fun x=>(x.1,a.eval x.2))=(((parts.toList.map (·.2)).map a.eval).zipIdx 0).map fun x=>(x.2,x.1):=by
   apply List.ext_getElem?;intro j;simp only [List.getElem?_map,List.getElem?_zipIdx];cases hq:parts.toList[j]? with
   | none=>simp
   | some q =>
    have hj:=(gSi.1 hq).1;have e1:(parts.toList.map (·.1))[j]? =some q.1:=by rw [List.getElem?_map,hq];rfl
    rw [hp,List.getElem?_range (by simpa [hpn] using hj)] at e1;simp [osj e1]
  have hone:∀ u∈(parts.toList.map (·.2)).map a.eval,u.cells= #[u]:=by
   intro u hu;obtain ⟨k,hk⟩:=List.getElem?_of_mem hu;rw [List.getElem?_map] at hk;obtain ⟨x,hx,rfl⟩:=oms.1 hk;have hkl:k<yss.length:=by rw [← hlen];exact (gSi.1 hx).1
   obtain ⟨_,_,A,c,l,e1,_⟩:=hc k x _ hx (gEg hkl);rw [e1];rfl
  have hfill:∀ cells:Array Value,cells.size=n->Instr.fill (fun i=>some (i*1,1)) cells (parts.toList.map fun x=>(x.1,a.eval x.2))=some ((parts.toList.map (·.2)).map a.eval).toArray:=by
   intro cells hcells;obtain ⟨cs,g1,g2,g3⟩:=Ae5 ((parts.toList.map (·.2)).map a.eval) 0 cells hone oM;rw [hps,g1];congr 1;apply Array.ext';apply List.ext_getElem?;intro j;have:=g3 j;rw [Array.getElem?_toList,this];split
   ·simp
   ·rename_i hge;rw [List.getElem?_eq_none (by simp;omega),Array.getElem?_eq_none oM]
  have hrun:(execOp a.eval o).run P w=.ok (.value (.slice (some ⟨w.heap.size,0,none⟩) n n)) (w.alloc (.cells ((parts.toList.map (·.2)).map a.eval).toArray e)):=by
   have hle:¬ (16777216<n):=by omega
   by_cases h0:n=0
   ·simp [execOp,ho,Instr.buildSlice,run_underlying ht,sizeOf,typeInfo,q1,q3,h0,newRow];have:=hfill (Array.map (fun _=>default) (Array.range 0)) (by simp [h0]);simp only [Nat.mul_one] at this;rw [this];simp
   ·simp [execOp,ho,Instr.buildSlice,run_underlying ht,sizeOf,typeInfo,q1,q2,q3,h0,hle,newRow,zeroValue];have:=hfill (Array.map (fun x=>z.cells[x % z.cells.size]!) (Array.range n)) (by simp);simp at this;rw [this];simp
  have hfree:∀ u∈zs.flatMap (fun x=>Jn (x.ev f)),u.2=none:=by
   intro u hu;obtain ⟨x,_,hx⟩:=List.mem_flatMap.1 hu;unfold Jn at hx;split at hx
   ·obtain rfl:=List.mem_singleton.1 hx;rfl
   ·cases hx
  obtain ⟨hsub,hgone⟩:=Hq _ ob hfree;refine Oper.does_value hrun ?_;have hb:Below w.heap.size w (w.alloc (.cells ((parts.toList.map (·.2)).map a.eval).toArray e)):=(Below.refl _ _).alloc (Nat.le_refl _) _
  have hL:Later σ σ (imm ob σ) (imm (Ae (zs.flatMap fun x=>Jn (x.ev f)) ob) σ) w (w.alloc (.cells ((parts.toList.map (·.2)).map a.eval).toArray e)) :=
   ⟨fun _ _ h=>h,fun b _ h=>T8 hsub h,fun b hlt _=>hb.block b hlt,hb.size⟩
  refine ⟨σ,hL,(hm.sub hsub).grow hb hK,?_⟩
  have hR:∀ z∈zs,∀ b,(imm ob σ b∨∃ i t0 off len cap sz,z.ev f=.own i t0 off len/\σ i=some (.at_ b cap sz)/\ob i≠none)->imm (Ae (zs.flatMap fun x=>Jn (x.ev f)) ob) σ b:=by
   rintro z hz b (h|⟨i,t0,off,len,cap,sz,e1,e2,e3⟩)
   ·exact T8 hsub h
   ·intro j o c s hj hs
    have hij:j=i:=by
     cases ho:ob i with
     | none=>exact absurd ho e3
     | some o'=>exact hm.inj j i b c s cap sz o o' (hsub _ _ hj) ho hs e2
    subst hij;have:=hgone (j,none) (List.mem_flatMap.2 ⟨z,hz,by rw [e1];simp [Jn]⟩);rw [this] at hj;cases hj
  have hpick:∀ k:Nat,∃ l,∀ (x:Operand) (ys:List t.D),(parts.toList.map (·.2))[k]? =some x->yss[k]? =some ys->∃ A c,a.eval x=.slice A ys.length c/\Sl (imm (Ae (zs.flatMap fun x=>Jn (x.ev f)) ob) σ) w t A c ys l:=by
   intro k;cases hx:(parts.toList.map (·.2))[k]? with
   | none=>exact ⟨[],fun _ _ h=>by cases h⟩
   | some x =>
    cases hy:yss[k]? with
    | none=>exact ⟨[],fun _ _ _ h=>by cases h⟩
    | some ys =>
     obtain ⟨z,hz,A,c,l,e1,e2⟩:=hc k x ys hx hy;refine ⟨l,fun x' ys' hx' hy'=>?_⟩;obtain rfl:=osj hx';obtain rfl:=osj hy';exact ⟨A,c,e1,Al (fun b _ h=>hR z hz b h) e2⟩
  refine ⟨some ⟨w.heap.size,0,none⟩,n,_,by rw [hyn],by rw [hyn];exact Nat.le_refl _,by simp only [maxLen];omega,fun k=>Classical.choose (hpick k),rfl,fun _=>⟨_,rfl,?_,fun k hk=>?_⟩⟩
  ·intro i o c s _ hs;have:=(hm.lt i _ c s hs).2;exact absurd this (Nat.lt_irrefl _)
  ·have hkx:k<(parts.toList.map (·.2)).length:=by rw [hlen];exact hk
   obtain ⟨A,c,e1,e2⟩:=Classical.choose_spec (hpick k) _ _ (gEg hkx) (gEg hk);refine ⟨A,c,?_,Ad e2 hb⟩;have hkn:k<parts.size:=by simpa using hkx
   rw [A4,← e1];simp only [World.cell?,World.alloc,Ty.size,Nat.mul_one,Nat.zero_add,Array.getElem?_push_size];simp [hkn]
 ·cases he
theorem Xr {f:Nat->AV} {t:Ty} {zs:List Opd} {v:AV} {us:List (Oid×Option Ob)} (he:Nc f ob t zs=some (v,us)):∀ u∈us,ob u.1≠none:=by
 unfold Nc at he;split at he
 ·rename_i yss hyss;obtain ⟨_,rfl⟩:=Prod.mk.inj (osj he)
  have key:∀ (zs:List Opd) (yss:List (List t.D)),T6 f ob t zs=some yss->∀ z∈zs,∃ ys,D4 ob t (z.ev f)=some ys:=by
   intro zs
   induction zs with
   | nil=>intro _ _ z hz;cases hz
   | cons z zs ih =>
    intro yss h z' hz;simp only [T6] at h;split at h
    ·rename_i y ys h1 h2;rcases List.mem_cons.1 hz with rfl|hz
     ·exact ⟨y,h1⟩
     ·exact ih _ h2 z' hz
    ·cases h
  intro u hu;obtain ⟨z,hz,hx⟩:=List.mem_flatMap.1 hu;obtain ⟨ys,hs⟩:=key zs yss hyss z hz;unfold Jn at hx;split at hx
  ·rename_i i t0 off len hv;obtain rfl:=List.mem_singleton.1 hx;rw [hv] at hs;intro hn;simp only [D4,hn] at hs;cases hs
  ·cases hx
 ·cases he
end
end
end Go.Proofs.YtjlcpiemabfpiaaGreatDoor
