/- Lemmas on the program and on partial functions that stand in place of its code (part 3); no condition beyond those that each one states. -/
import Derived.Test.YtgljmpiofhlkjaaDoorZ2
import Derived.ScopeJumps
import Derived.Deep.LoopGhost
import Derived.KernelRfl
import Derived.IntWalk
import Derived.Shelf.Strconv.Itoa3
import Derived.Shelf.Strings.OnBuilder
import Derived.Shelf.Strings.Replace
namespace Go.Proofs.YtgljmpiofhlkjaaDoor
open Go.RowKit Go.Deep
structure St where
 tm:Nat->AV
 ob:Oid->Option Ob
 gen:Nat
structure X where
 dst:Option Nat
 guard:Option (Nat×Bool)
 q:Q
abbrev Rec:=Nat×AV×List (Oid×Option Ob)
def Fb (d:Option Nat) (v:AV) (f:Nat->AV):Nat->AV :=
 match d with
 | some d=>upd f d v
 | none=>f
def gdv (c:AV) (b:Bool):Option Bool :=
 match c with
 | .bool c=>some (c==b)
 | .tup []=>some false
 | _=>none
noncomputable def Bq (n:Nat) (x:X) (f:Nat->AV) (ob:Oid->Option Ob):Option Rec :=
 match x.guard with
 | none=>ev f ob ((x.dst.getD 0,0),n) x.q
 | some (s,b)=>match gdv (f s) b with
  | some true=>ev f ob ((x.dst.getD 0,0),n) x.q
  | some false=>some (0,.tup [],[])
  | none=>none
def Ds (P:Program) (G:World->Prop) (pure:Bool) (n:Nat) (x:X) (f:Nat->AV) (ob:Oid->Option Ob) (r:Rec):Prop :=
 match x.guard with
 | none=>EvR P G pure f ob ((x.dst.getD 0,0),n) x.q r
 | some (s,b)=>∃ c,gdv (f s) b=some c∧(if c=true then EvR P G pure f ob ((x.dst.getD 0,0),n) x.q r else r=(0,.tup [],[]))
def W1 (P:Program) (G:World->Prop) (g:Nat):Nat->List X->(Nat->AV)->(Oid->Option Ob)->List Rec->(Nat->AV)->(Oid->Option Ob)->Prop
 | _,[],f,ob,rs,f',ob'=>rs=[]∧f'=f∧ob'=ob
 | k,x :: xs,f,ob,rs,f',ob'=>∃ r rs',rs=r :: rs'∧Ds P G false (g+k) x f ob r∧W1 P G g (k+1) xs (Fb x.dst r.2.1 f) (Ap r.2.2 ob) rs' f' ob'
def Ed:AV->List Oid
 | .own i _ _ _=>[i]
 | .elt i _ _=>[i]
 | .sla i _ _=>[i]
 | .box i _=>[i]
 | .mp i=>[i]
 | _=>[]
def O8 (ob:Oid->Option Ob):Nat->AV->List Oid
 | 0,_=>[]
 | n+1,c=>match c with
  | .own i _ _ _=>match ob i with
   | some (.vec _ _ _ cs)=>i :: cs.flatMap Ed
   | _=>[i]
  | .elt i _ _=>[i]
  | .sla i _ _=>[i]
  | .mp i=>[i]
  | .box i _=>match ob i with
   | some (.cells _ cs)=>i :: cs.flatMap (O8 ob n)
   | _=>[i]
  | .agg cs=>cs.flatMap (O8 ob n)
  | .tup cs=>cs.flatMap (O8 ob n)
  | .fn _ cs=>cs.flatMap (O8 ob n)
  | .ref cs=>cs.flatMap (O8 ob n)
  | _=>[]
def rdX (f:Nat->AV) (ob:Oid->Option Ob) (x:X):List Oid :=
 match x.q with
 | .call fo xs _=>(fo :: xs).flatMap fun y=>O8 ob 8 (y.ev f)
 | .i (.ld _ _ x)=>Ed (x.ev f)
 | .i (.look _ _ x _)=>Ed (x.ev f)
 | .i (.lenM _ x)=>Ed (x.ev f)
 | .i (.b2s x)=>Ed (x.ev f)
 | .upd _ m _ _=>Ed (m.ev f)
 | .del _ m _=>Ed (m.ev f)
 | .st _ _ x _=>Ed (x.ev f)
 | .append _ _ _ x y=>Ed (x.ev f)++Ed (y.ev f)
 | .slice _ x _ _ (some _)=>Ed (x.ev f)
 | .slA _ x=>Ed (x.ev f)
 | .copy x y=>Ed (x.ev f)++Ed (y.ev f)
 | .mkV _ _ _ xs=>xs.flatMap fun y=>Ed (y.ev f)
 | .appV _ _ _ x y=>Ed (x.ev f)++Ed (y.ev f)
 | _=>[]
def only (L:List Oid) (ob:Oid->Option Ob) (i:Oid):Option Ob:=if i∈L then ob i else none
theorem Ut {L:List Oid} {ob:Oid->Option Ob} {i:Oid} {o:Ob} (h:only L ob i=some o):i∈L∧ob i=some o:=by
 unfold only at h;split at h
 ·rename_i hi; exact ⟨hi,h⟩
 ·cases h
def Uy (P:Program) (G:World->Prop) (g:Nat):Nat->List X->(Nat->AV)->(Oid->Option Ob)->List Rec->List (List Oid)->(Nat->AV)->(Oid->Option Ob)->Prop
 | _,[],f,ob,rs,ds,f',ob'=>rs=[]∧ds=[]∧f'=f∧ob'=ob
 | k,x :: xs,f,ob,rs,ds,f',ob'=>∃ r rs' ds',rs=r :: rs'∧ds=rdX f ob x :: ds'∧Ds P G false (g+k) x f (only (rdX f ob x) ob) r∧Uy P G g (k+1) xs (Fb x.dst r.2.1 f) (Ap r.2.2 ob) rs' ds' f' ob'
def Wy (N:Nat) (o:Oper):Bool :=
 match o.dst with
 | some d=>decide (d<N)
 | none=>true
def X.of (P:Program) (N:Nat) (ops:Array Oper) (o:Oper):Option X :=
 match Q.of P o with
 | some q=>if Wy N o=true then
   match o.guard with
   | none=>some ⟨o.dst,none,q⟩
   | some (j,b)=>match (ops[j]?).bind (·.dst) with
    | some s=>some ⟨o.dst,some (s,b),q⟩
    | none=>none
  else none
 | none=>none
def X.ofL (P:Program) (N:Nat) (ops:Array Oper):List Oper->Option (List X)
 | []=>some []
 | o :: os=>match X.of P N ops o,X.ofL P N ops os with
  | some x,some xs=>some (x :: xs)
  | _,_=>none
section
variable {P:Program} {G:World->Prop} {w0 w w':World} {N:Nat}
structure Ks where
 σ:Oid->Option Loc
 im:Nat->Prop
 w:World
 zero:∀ i l,σ i=some l->i.2=0
def TmB (B:Ks) (σ:Oid->Option Loc) (im:Nat->Prop) (w:World) (f:Nat->AV) (a:Act):Prop:=TmRep σ im w f a∧Later B.σ σ B.im im B.w w
structure Is (G:World->Prop) (w0:World) (B:Ks) (N:Nat) (S:St) (a:Act) (w:World):Prop where
 ex:∃ σ,Mem0 G w0 S.ob σ (·<S.gen) w∧TmB B σ (imm S.ob σ) w S.tm a
 size:a.tmps.size=N
 defers:a.defers=[]
 obg:∀ i,S.ob i≠none->i.2<S.gen
theorem TmRep.put {σ:Oid->Option Loc} {im:Nat->Prop} {f:Nat->AV} {a:Act} {d:Option Nat} {v:AV} {u:Value} (h:TmRep σ im w f a) (hv:AV.Rep σ im w v u) (hd:∀ x,d=some x->x<a.tmps.size):TmRep σ im w (Fb d v f) (a.put d u):=by
 intro t;cases d with
 | none=>exact h t
 | some x =>
  simp only [Fb,upd,Act.put];split
  ·rename_i e;subst e;rw [Array.getD_eq_getD_getElem?,Array.getElem?_setIfInBounds_self_of_lt (hd _ rfl)];exact hv
  ·rename_i e;rw [Array.getD_eq_getD_getElem?,Array.getElem?_setIfInBounds_ne (fun h=>e h.symm),← Array.getD_eq_getD_getElem?];exact h t
theorem TmRep.later {σ σ':Oid->Option Loc} {im im':Nat->Prop} {f:Nat->AV} {a:Act} (h:TmRep σ im w f a) (hL:Later σ σ' im im' w w'):TmRep σ' im' w' f a:=fun t=>AV.Rep.later hL _ _ (h t)
theorem TmRep.opd {σ:Oid->Option Loc} {im:Nat->Prop} {f:Nat->AV} {a:Act} (h:TmRep σ im w f a) {x:Operand} {y:Opd} (hy:Opd.of x=some y):AV.Rep σ im w (y.ev f) (a.eval x):=Opd.rep hy fun t _=>h t
theorem TmB.put {B:Ks} {σ:Oid->Option Loc} {im:Nat->Prop} {f:Nat->AV} {a:Act} {d:Option Nat} {v:AV} {u:Value} (h:TmB B σ im w f a) (hv:AV.Rep σ im w v u) (hd:∀ x,d=some x->x<a.tmps.size):TmB B σ im w (Fb d v f) (a.put d u):=⟨h.1.put hv hd,h.2⟩
theorem TmB.later {B:Ks} {σ σ':Oid->Option Loc} {im im':Nat->Prop} {f:Nat->AV} {a:Act} (h:TmB B σ im w f a) (hL:Later σ σ' im im' w w'):TmB B σ' im' w' f a:=⟨h.1.later hL,h.2.trans hL⟩
theorem TmB.opd {B:Ks} {σ:Oid->Option Loc} {im:Nat->Prop} {f:Nat->AV} {a:Act} (h:TmB B σ im w f a) {x:Operand} {y:Opd} (hy:Opd.of x=some y):AV.Rep σ im w (y.ev f) (a.eval x):=h.1.opd hy
theorem Sk {σ:Oid->Option Loc} {im:Nat->Prop} {f:Nat->AV} {a:Act} {ops:Array Oper} {o:Oper} {j s:Nat} {b c:Bool} (hg:o.guard=some (j,b)) (hs:(ops[j]?).bind (·.dst)=some s) (hf:AV.Rep σ im w (f s) (a.tmps.getD s undef)) (hc:f s=.bool c):Region.wanted o (yielded ops a.tmps)=(c==b):=by
 rw [hc] at hf;have e:a.tmps.getD s undef=.bool c:=hf
 have e2:a.tmps[s]? =some (.bool c):=by
  rw [Array.getD_eq_getD_getElem?] at e;cases hq:a.tmps[s]? with
  | none=>rw [hq] at e; simp [undef] at e
  | some u=>rw [hq] at e; simp at e; rw [e]
 simp [Region.wanted,hg,yielded,hs,e2]
theorem O2 {σ:Oid->Option Loc} {im:Nat->Prop} {f:Nat->AV} {a:Act} {ops:Array Oper} {o:Oper} {j s:Nat} {b c:Bool} (hg:o.guard=some (j,b)) (hs:(ops[j]?).bind (·.dst)=some s) (hf:AV.Rep σ im w (f s) (a.tmps.getD s undef)) (hc:gdv (f s) b=some c):Region.wanted o (yielded ops a.tmps)=c:=by
 unfold gdv at hc;split at hc
 ·rename_i c' h;obtain rfl:=osj hc;exact Sk hg hs hf h
 ·rename_i h;obtain rfl:=osj hc;rw [h] at hf;obtain ⟨vs,e,hl⟩:=hf;obtain rfl:vs=[]:=hl
  have:yielded ops a.tmps j=none:=by
   unfold yielded;rw [hs];simp only [obs];rw [Array.getD_eq_getD_getElem?] at e;cases hq:a.tmps[s]? with
   | none=>rfl
   | some u=>rw [hq] at e; simp at e; rw [e]
  simp [Region.wanted,hg,this]
 ·cases hc
theorem Xw {f:Nat->AV} {ob:Oid->Option Ob} {i:Oid} {q:Q} {r:Rec} (h:ev f ob i q=some r):∀ u∈r.2.2,(r.1=2∧(ob u.1≠none∨u.1.2=i.2))∨(r.1=1∧u.1.2=i.2):=by
 intro u hu;unfold ev at h;split at h
 ·split at h
  ·rename_i v us he;obtain rfl:=osj h
   have hN:us=[]∨u.1=i:=by
    unfold evN at he
    (repeat' split at he) <;> first
     | (cases he; done)
     | (obtain ⟨_,rfl⟩:=Prod.mk.inj (osj he); first | exact .inl rfl | (refine .inr ?_; obtain rfl:=List.mem_singleton.1 hu; rfl))
     | (obtain ⟨_,_,hh⟩:=oms.1 he; obtain ⟨_,rfl⟩:=Prod.mk.inj hh; exact .inl rfl)
   rcases hN with rfl | e
   ·cases hu
   ·refine .inr ⟨?_,by rw [e]⟩;cases us with
    | nil=>cases hu
    | cons _ _=>rfl
  ·split at h
   ·obtain rfl:=osj h; cases hu
   ·cases h
 ·split at h
  ·rename_i v us he;obtain rfl:=osj h;refine .inl ⟨rfl,.inl ?_⟩;unfold Qx at he;split at he
   ·split at he
    ·rename_i hj;obtain ⟨_,_,hh⟩:=oms.1 he;obtain ⟨_,rfl⟩:=Prod.mk.inj hh;rcases List.mem_cons.1 hu with rfl | hu
     ·simp [hj]
     ·obtain rfl:=List.mem_singleton.1 hu; simp [hj]
    ·cases he
   ·split at he
    ·rename_i hj;split at he
     ·split at he
      ·split at he
       ·obtain ⟨_,rfl⟩:=Prod.mk.inj (osj he);rcases List.mem_cons.1 hu with rfl | hu
        ·simp [hj]
        ·obtain rfl:=List.mem_singleton.1 hu; simp [hj]
       ·cases he
      ·cases he
     ·cases he
    ·rename_i hj;obtain ⟨_,_,hh⟩:=oms.1 he;obtain ⟨_,rfl⟩:=Prod.mk.inj hh;rcases List.mem_cons.1 hu with rfl | hu
     ·simp [hj]
     ·obtain rfl:=List.mem_singleton.1 hu; simp [hj]
    ·cases he
   ·cases he
  ·cases h
 ·split at h
  ·rename_i v us he;obtain rfl:=osj h;unfold Th at he;split at he
   ·obtain ⟨_,rfl⟩:=Prod.mk.inj (osj he);obtain rfl:=List.mem_singleton.1 hu;exact .inr ⟨rfl,rfl⟩
   ·cases he
  ·cases h
 ·split at h
  ·rename_i v us he;obtain rfl:=osj h;unfold Nw at he;split at he
   ·split at he
    ·obtain ⟨_,rfl⟩:=Prod.mk.inj (osj he);obtain rfl:=List.mem_singleton.1 hu;exact .inr ⟨rfl,rfl⟩
    ·cases he
   ·cases he
  ·cases h
 ·split at h
  ·rename_i x y v us he;obtain rfl:=osj h;unfold Eb at he;split at he
   ·split at he
    ·rename_i hx;split at he
     ·obtain ⟨_,rfl⟩:=Prod.mk.inj (osj he);obtain rfl:=List.mem_singleton.1 hu;refine .inr ⟨?_,rfl⟩;simp only [hx]
     ·cases he
    ·rename_i hx;split at he
     ·rename_i hj;split at he
      ·split at he
       ·obtain ⟨_,rfl⟩:=Prod.mk.inj (osj he);refine .inl ⟨by simp only [hx],?_⟩;rcases List.mem_cons.1 hu with rfl | hu
        ·exact .inl (by rw [hj]; simp)
        ·obtain rfl:=List.mem_singleton.1 hu; exact .inr rfl
       ·cases he
      ·cases he
     ·cases he
    ·cases he
   ·cases he
  ·cases h
 ·split at h
  ·obtain rfl:=osj h; cases hu
  ·split at h
   ·rename_i v us he;obtain rfl:=osj h;refine .inl ⟨rfl,?_⟩;unfold Ea at he;split at he
    ·split at he
     ·rename_i hj _ _ _;split at he
      ·split at he
       ·obtain ⟨_,rfl⟩:=Prod.mk.inj (osj he);rcases List.mem_cons.1 hu with rfl | hu
        ·exact .inl (by rw [hj]; simp)
        ·obtain rfl:=List.mem_singleton.1 hu; exact .inr rfl
       ·cases he
      ·cases he
     ·cases he
    ·cases he
   ·cases h
 ·split at h
  ·obtain rfl:=osj h; cases hu
  ·cases h
 ·cases h
 ·split at h
  ·obtain rfl:=osj h; cases hu
  ·cases h
 ·split at h
  ·obtain rfl:=osj h; cases hu
  ·cases h
 ·split at h
  ·split at h
   ·split at h
    ·rename_i v us he;obtain rfl:=osj h;exact .inl ⟨rfl,.inl (S6 he u hu)⟩
    ·cases h
   ·cases h
  ·cases h
 ·split at h
  ·rename_i v us he;obtain rfl:=osj h;unfold L8 at he;split at he
   ·split at he
    ·obtain ⟨_,rfl⟩:=Prod.mk.inj (osj he);obtain rfl:=List.mem_singleton.1 hu;exact .inr ⟨rfl,rfl⟩
    ·cases he
   ·cases he
  ·cases h
 ·unfold Gb at h;split at h
  ·split at h
   ·split at h
    ·obtain rfl:=osj h;obtain rfl:=List.mem_singleton.1 hu;exact .inr ⟨rfl,rfl⟩
    ·cases h
   ·split at h
    ·rename_i hj;split at h
     ·obtain rfl:=osj h;refine .inl ⟨rfl,?_⟩;rcases List.mem_cons.1 hu with rfl | hu
      ·exact .inl (by rw [hj]; simp)
      ·obtain rfl:=List.mem_singleton.1 hu; exact .inr rfl
     ·cases h
    ·cases h
   ·cases h
  ·cases h
 ·obtain rfl:=osj h;obtain rfl:=List.mem_singleton.1 hu;exact .inr ⟨rfl,rfl⟩
 ·obtain rfl:=osj h;obtain rfl:=List.mem_singleton.1 hu;exact .inr ⟨rfl,rfl⟩
 ·unfold Jh at h;split at h
  ·split at h
   ·rename_i hj;split at h
    ·split at h
     ·obtain rfl:=osj h;refine .inl ⟨rfl,.inl ?_⟩;rcases List.mem_cons.1 hu with rfl | hu
      ·simp [hj]
      ·obtain rfl:=List.mem_singleton.1 hu; simp [hj]
     ·cases h
    ·cases h
   ·rename_i hj;split at h
    ·split at h
     ·obtain rfl:=osj h;refine .inl ⟨rfl,.inl ?_⟩;rcases List.mem_cons.1 hu with rfl | hu
      ·simp [hj]
      ·obtain rfl:=List.mem_singleton.1 hu; simp [hj]
     ·cases h
    ·cases h
   ·cases h
  ·cases h
 ·unfold Js at h;split at h
  ·split at h
   ·rename_i hj;split at h
    ·obtain rfl:=osj h;refine .inl ⟨rfl,.inl ?_⟩;rcases List.mem_cons.1 hu with rfl | hu
     ·simp [hj]
     ·obtain rfl:=List.mem_singleton.1 hu; simp [hj]
    ·cases h
   ·cases h
  ·cases h
 ·split at h
  ·obtain rfl:=osj h; cases hu
  ·cases h
 ·split at h
  ·rename_i v us he;obtain rfl:=osj h;refine .inl ⟨rfl,.inl ?_⟩;unfold Ik at he;split at he
   ·split at he
    ·split at he
     ·rename_i hj;split at he
      ·split at he
       ·split at he
        ·split at he
         ·obtain ⟨_,rfl⟩:=Prod.mk.inj (osj he);rcases List.mem_cons.1 hu with rfl | hu
          ·simp [hj]
          ·obtain rfl:=List.mem_singleton.1 hu; simp [hj]
         ·cases he
        ·cases he
       ·cases he
      ·cases he
     ·cases he
    ·cases he
   ·split at he
    ·split at he
     ·rename_i hj;split at he
      ·obtain ⟨_,rfl⟩:=Prod.mk.inj (osj he);rcases List.mem_cons.1 hu with rfl | hu
       ·simp [hj]
       ·obtain rfl:=List.mem_singleton.1 hu; simp [hj]
      ·cases he
     ·cases he
    ·cases he
   ·cases he
  ·cases h
theorem Pq {pure:Bool} {f:Nat->AV} {ob:Oid->Option Ob} {i:Oid} {q:Q} {r:Rec} (h:EvR P G pure f ob i q r):∀ u∈r.2.2,(r.1=2∧(ob u.1≠none∨u.1.2=i.2))∨(r.1=1∧u.1.2=i.2):=by
 have key:∀ (u:Oid×Option Ob) {az:List AV} (rs:List RL) (j:Nat),u∈(RL.out (E9 i) az j rs).2->u.1.2=i.2:=by
  intro u az rs
  induction rs with
  | nil=>intro j h; cases h
  | cons l rs ih =>
   intro j h;cases l with
   | sc c=>exact ih j h
   | new e t xs =>
    rcases List.mem_cons.1 h with rfl | h
    ·rfl
    ·exact ih (j+1) h
   | newM e e' t xss =>
    rcases List.mem_cons.1 h with rfl | h
    ·rfl
    ·rcases List.mem_append.1 h with h | h
     ·obtain ⟨x,_,rfl⟩:=List.mem_map.1 h;rfl
     ·exact ih (j+1) h
   | arg _ _=>exact ih j h
   | argS _ _ _ _ _=>exact ih j h
   | frz _=>exact ih j h
   | imm _=>exact ih j h
 rcases h with ((h | h) | ⟨_,_,_,_,_,_,_,_,_,_,_,_,_,_,_,hmk⟩) | ⟨_,_,_,_,_,_,_,⟨hk,_,args,rv,_,_,hh⟩ | ⟨_,hk,_,θ,args,ol,us,v0,_,e2,_,_,_,e4,e5⟩⟩
 ·exact Xw h
 ·intro u hu;unfold evL at h;split at h
  ·split at h
   ·rename_i v us he;obtain rfl:=osj h;unfold Ot at he;split at he
    ·obtain ⟨_,rfl⟩:=Prod.mk.inj (osj he);obtain rfl:=List.mem_singleton.1 hu;exact .inr ⟨rfl,rfl⟩
    ·cases he
   ·cases h
  ·cases h
 ·subst hmk;exact fun u hu=>.inr ⟨rfl,key u _ _ hu⟩
 ·intro u hu;rw [← hh] at hu;exact .inr ⟨hk,key u _ _ hu⟩
 ·intro u hu;rw [e5] at hu;refine .inl ⟨hk,?_⟩
  have hold:∀ j,j∈nmL ol->ob (θ j)≠none:=by
   intro j hj;obtain ⟨q,hq,rfl⟩:=List.mem_map.1 hj;rw [e2 q hq]; simp
  rcases List.mem_append.1 hu with hu | hu
  ·obtain ⟨q,hq,rfl⟩:=List.mem_map.1 hu;exact .inl (hold _ (List.mem_map.2 ⟨q,hq,rfl⟩))
  ·obtain ⟨q,hq,rfl⟩:=List.mem_map.1 hu;by_cases h0:q.1.2=0
   ·refine .inl ?_;have hm:=(e4 q.1 (List.mem_map.2 ⟨q,hq,rfl⟩)).resolve_left (fun h=>h h0);simp only [Ur,if_pos h0];exact hold _ hm
   ·refine .inr ?_;simp only [Ur,if_neg h0]
theorem Tx [IsP P] {B:Ks} {ops:Array Oper} {Q':Exit->Act->World->Prop} {S0:St}:∀ (os:List Oper) (xs:List X) (k:Nat) (f:Nat->AV) (ob:Oid->Option Ob) (rs:List Rec) (f':Nat->AV) (ob':Oid->Option Ob) (a:Act) (w:World),
  X.ofL P N ops os=some xs->W1 P G S0.gen k xs f ob rs f' ob'->(∃ σ,Mem0 G w0 ob σ (·<S0.gen+k) w∧TmB B σ (imm ob σ) w f a)->a.tmps.size=N->a.defers=[]->(∀ i,ob i≠none->i.2<S0.gen+k) ->
  (∀ a' w',Is G w0 B N ⟨f',ob',S0.gen+k+os.length⟩ a' w'->Q' .normal a' w')->wpList P ops Q' os a w
 | [],xs,k,f,ob,rs,f',ob',a,w,hx,hr,hm,hsz,hd,hg,hQ=>by
  obtain rfl:[]=xs:=osj hx;obtain ⟨_,rfl,rfl⟩:=hr;exact hQ a w ⟨hm,hsz,hd,hg⟩
 | o :: os,xs,k,f,ob,rs,f',ob',a,w,hx,hr,⟨σ,hm,hf⟩,hsz,hd,hg,hQ=>by
  simp only [X.ofL] at hx;split at hx
  ·rename_i x xs' h1 h2;obtain rfl:=osj hx;obtain ⟨r,rs',rfl,hst,hrun⟩:=hr
   ··skip
     have go:∀ a' w',(∃ σ,Mem0 G w0 (Ap r.2.2 ob) σ (·<S0.gen+(k+1)) w'∧TmB B σ (imm (Ap r.2.2 ob) σ) w' (Fb x.dst r.2.1 f) a')->a'.tmps.size=N->a'.defers=[]->(∀ i,Ap r.2.2 ob i≠none->i.2<S0.gen+(k+1))->wpList P ops Q' os a' w':=fun a' w' q1 q2 q3 q4 =>
      Tx os xs' (k+1) _ _ rs' f' ob' a' w' h2 hrun q1 q2 q3 q4 (fun a'' w'' hq=>hQ a'' w'' (by
       have:S0.gen+(k+1)+os.length=S0.gen+k+(o :: os).length:=by simp only [List.length_cons]; omega
       rw [← this]; exact hq))
     have hput:∀ (d:Option Nat) (u:Value),(a.put d u).tmps.size=N∧(a.put d u).defers=[]:=by
      intro d u;cases d <;> simp [Act.put,hsz,hd]
     have hobg:∀ i,Ap r.2.2 ob i≠none->(∀ u∈r.2.2,ob u.1≠none∨u.1.2=S0.gen+k)->i.2<S0.gen+(k+1):=by
      intro i hi hu;by_cases hex:∃ u∈r.2.2,u.1=i
      ·obtain ⟨u,hu',rfl⟩:=hex;rcases hu u hu' with h | h
       ·have:=hg _ h; omega
       ·omega
      ·rw [Db (fun u hu e=>hex ⟨u,hu,e⟩)] at hi;have:=hg i hi; omega
     unfold X.of at h1;split at h1
     ·rename_i q hq;split at h1
      ·rename_i hdst
       have hdb:∀ d,o.dst=some d->d<a.tmps.size:=by
        intro d e;unfold Wy at hdst;rw [e] at hdst;rw [hsz]; exact of_decide_eq_true hdst
       have doit:∀ (h:EvR P G false f ob ((o.dst.getD 0,0),S0.gen+k) q r) (hxd:x.dst=o.dst),o.wp P a w (wpList P ops Q' os) Q':=by
        intro h hxd;have:=Tt (a:=a) (w:=w) (K':=(·<S0.gen+(k+1))) hq h hm (fun n hn=>by omega) (by simp) (by simp) (fun _ i o l h1 h2=>hm.obs i o l h1 h2) (fun _ _ _ _ h _=>h) (fun z _ y hy=>hf.opd hy);refine this _ _ (fun u w' hgo=>?_);obtain ⟨σ',hL,hM,hR⟩:=hgo;refine go _ _ ⟨σ',hM,?_⟩ (hput _ _).1 (hput _ _).2 (fun i hi=>hobg i hi (fun u hu=>?_))
        ·rw [hxd]; exact (hf.later hL).put hR hdb
        ·rcases Pq h u hu with ⟨_,h⟩ | ⟨_,h⟩
         ·exact h
         ·exact .inr h
       split at h1
       ·rename_i hgd;obtain rfl:=osj h1;unfold wpList;rw [if_pos (by simp [Region.wanted,hgd])];exact .inl (doit hst rfl)
       ·rename_i j b hgd;split at h1
        ·rename_i s hs;obtain rfl:=osj h1;obtain ⟨c,hc,hst⟩:=hst
         ·skip
          have hw:=O2 (ops:=ops) hgd hs (hf.1 s) hc;unfold wpList;rw [hw];split at hst
          ·rename_i hcb;rw [if_pos hcb];exact .inl (doit hst rfl)
          ·rename_i hcb;rw [if_neg hcb];subst hst;exact go _ _ ⟨σ,hm.wide (fun n hn=>by omega),hf.put ⟨[],rfl,rfl⟩ hdb⟩ (hput _ _).1 (hput _ _).2 (fun i hi=>by have:=hg i hi; omega)
        ·cases h1
      ·cases h1
     ·cases h1
  ·cases hx
end
end Go.Proofs.YtgljmpiofhlkjaaDoor
namespace Go.Proofs.YtgljmpiofhlkjaaDoor
open Go.RowKit Go.Deep
def D1 (p:Nat->Bool):Nat->List X->List Rec->(Nat->AV)->(Nat->AV)
 | k,x :: xs,r :: rs,f=>D1 p (k+1) xs rs (if p k then Fb x.dst r.2.1 f else f)
 | _,_,_,f=>f
def Di (p:Nat->Bool):Nat->List Rec->(Oid->Option Ob)->(Oid->Option Ob)
 | k,r :: rs,ob=>Di p (k+1) rs (if p k then Ap r.2.2 ob else ob)
 | _,[],ob=>ob
theorem Kx {p:Nat->Bool}:∀ (k:Nat) (xs:List X) (rs:List Rec) (f:Nat->AV),(∀ i,k<=i->p i=false)->D1 p k xs rs f=f
 | _,[],_,_,_=>by simp [D1]
 | _,_ :: _,[],_,_=>rfl
 | k,x :: xs,r :: rs,f,h=>by
  simp only [D1,h k (Nat.le_refl _),Bool.false_eq_true,if_false];exact Kx (k+1) xs rs f (fun i hi=>h i (by omega))
theorem Hn {p:Nat->Bool}:∀ (k:Nat) (rs:List Rec) (ob:Oid->Option Ob),(∀ i,k<=i->p i=false)->Di p k rs ob=ob
 | _,[],_,_=>rfl
 | k,r :: rs,ob,h=>by
  simp only [Di,h k (Nat.le_refl _),Bool.false_eq_true,if_false];exact Hn (k+1) rs ob (fun i hi=>h i (by omega))
theorem Kb {P:Program} {G:World->Prop} {g:Nat}:∀ (xs:List X) (k:Nat) (f:Nat->AV) (ob:Oid->Option Ob) (rs:List Rec) (ds:List (List Oid)) (f':Nat->AV) (ob':Oid->Option Ob),Uy P G g k xs f ob rs ds f' ob' ->
  xs.length=rs.length∧xs.length=ds.length∧f'=D1 (fun _=>true) k xs rs f∧ob'=Di (fun _=>true) k rs ob ∧
  ∀ j x r,xs[j]? =some x->rs[j]? =some r->∃ d,ds[j]? =some d∧Ds P G false (g+(k+j)) x (D1 (fun m=>decide (m<k+j)) k xs rs f) (only d (Di (fun m=>decide (m<k+j)) k rs ob)) r
 | [],k,f,ob,rs,ds,f',ob',h=>by
  obtain ⟨rfl,rfl,rfl,rfl⟩:=h;exact ⟨rfl,rfl,rfl,rfl,fun j x r h=>by simp at h⟩
 | x :: xs,k,f,ob,rs,ds,f',ob',h=>by
  obtain ⟨r,rs',ds',rfl,rfl,hst,hrun⟩:=h
  ··skip
    obtain ⟨h1,h1',h2,h3,h4⟩:=Kb xs (k+1) _ _ rs' ds' f' ob' hrun;refine ⟨by simp [h1],by simp [h1'],by simpa [D1] using h2,by simpa [Di] using h3,fun j y s hy hs=>?_⟩;cases j with
    | zero =>
     simp at hy hs;subst hy hs;refine ⟨_,rfl,?_⟩;rw [Kx k _ _ _ (fun i hi=>by simp; omega),Hn k _ _ (fun i hi=>by simp; omega)];exact hst
    | succ j =>
     obtain ⟨d,hd,this⟩:=h4 j y s (by simpa using hy) (by simpa using hs);refine ⟨d,by simpa using hd,?_⟩;simp only [D1,Di,show decide (k<k+(j+1))=true by simp,if_true];rw [show k+(j+1)=k+1+j by omega];exact this
theorem Uk {P:Program} {G:World->Prop} {p:Bool} {n:Nat} {x:X} {f:Nat->AV} {ob:Oid->Option Ob} {r:Rec} (h:Ds P G p n x f ob r):∀ u∈r.2.2,(r.1=2∧(ob u.1≠none∨u.1.2=n))∨(r.1=1∧u.1.2=n):=by
 unfold Ds at h;split at h
 ·exact Pq h
 ·obtain ⟨c,_,h⟩:=h;split at h
  ·exact Pq h
  ·subst h;intro u hu; cases hu
theorem Mo {P:Program} {G:World->Prop} {p:Bool} {n:Nat} {x:X} {f:Nat->AV} {d:List Oid} {ob:Oid->Option Ob} {r:Rec} (h:Ds P G p n x f (only d ob) r):∀ u∈r.2.2,(r.1=2∧(ob u.1≠none∨u.1.2=n))∨(r.1=1∧u.1.2=n):=by
 intro u hu;rcases Uk h u hu with ⟨h1,h2 | h2⟩ | h
 ·refine .inl ⟨h1,.inl fun e=>h2 ?_⟩;unfold only;rw [e]; split <;> rfl
 ·exact .inl ⟨h1,.inr h2⟩
 ·exact .inr h
theorem Mm {P:Program} {G:World->Prop} {g:Nat}:∀ (xs:List X) (k:Nat) (f:Nat->AV) (ob:Oid->Option Ob) (rs:List Rec) (ds:List (List Oid)) (f':Nat->AV) (ob':Oid->Option Ob),Uy P G g k xs f ob rs ds f' ob'->(∀ i,ob i≠none->i.2<g+k) ->
  ∀ j i,Di (fun m=>decide (m<k+j)) k rs ob i≠none->i.2<g+k+j
 | [],k,f,ob,rs,ds,f',ob',h,hg,j,i,hi=>by
  obtain ⟨rfl,rfl,rfl,rfl⟩:=h;have:=hg i hi;omega
 | x :: xs,k,f,ob,rs,ds,f',ob',h,hg,j,i,hi=>by
  obtain ⟨r,rs',ds',rfl,rfl,hst,hrun⟩:=h
  ··skip
    cases j with
    | zero =>
     rw [Hn k _ _ (fun i hi=>by simp; omega)] at hi;have:=hg i hi;omega
    | succ j =>
     simp only [Di,show decide (k<k+(j+1))=true by simp,if_true] at hi;rw [show k+(j+1)=k+1+j by omega] at hi
     have:=Mm xs (k+1) _ _ rs' ds' f' ob' hrun (fun i hi=>by
      by_cases hex:∃ u∈r.2.2,u.1=i
      ·obtain ⟨u,hu,rfl⟩:=hex;rcases Mo hst u hu with ⟨_,h | h⟩ | ⟨_,h⟩
       ·have:=hg _ h; omega
       ·omega
       ·omega
      ·rw [Db (fun u hu e=>hex ⟨u,hu,e⟩)] at hi;have:=hg i hi;omega) j i hi
     omega
theorem Kn {us:List (Oid×Option Ob)} {ob ob':Oid->Option Ob} {i:Oid} (h:ob i=ob' i):Ap us ob i=Ap us ob' i:=by
 induction us generalizing ob ob' with
 | nil=>exact h
 | cons u us ih =>
  simp only [Ap,List.foldl_cons];refine ih ?_;by_cases e:i=u.1
  ·subst e; rw [Au,Au]
  ·rw [At _ _ _ _ e,At _ _ _ _ e,h]
theorem Gf {p q:Nat->Bool} {i:Oid}:∀ (k:Nat) (rs:List Rec) (ob ob':Oid->Option Ob),ob i=ob' i->(∀ j r,rs[j]? =some r->p (k+j)≠q (k+j)->∀ u∈r.2.2,u.1≠i)->Di p k rs ob i=Di q k rs ob' i
 | _,[],_,_,h,_=>h
 | k,r :: rs,ob,ob',h,hd=>by
  simp only [Di];refine Gf (k+1) rs _ _ ?_ (fun j s hs hne=>hd (j+1) s (by simpa using hs) (by rw [show k+(j+1)=k+1+j by omega]; exact hne));by_cases e:p k=q k
  ·rw [e];split
   ·exact Kn h
   ·exact h
  ·have:=hd 0 r (by simp) (by simpa using e);have hn:∀ o:Oid->Option Ob,Ap r.2.2 o i=o i:=fun o=>Db this
   split <;> split <;> simp [hn,h]
def Vw (us vs:List (Oid×Option Ob)):Prop:=∀ u∈us,∀ v∈vs,u.1≠v.1
theorem Qv {us vs:List (Oid×Option Ob)} (h:Vw us vs) (ob:Oid->Option Ob):Ap us (Ap vs ob)=Ap vs (Ap us ob):=by
 funext i;by_cases hu:∃ u∈us,u.1=i
 ·have hv:∀ v∈vs,v.1≠i:=by
   obtain ⟨u,hu,rfl⟩:=hu;exact fun v hv e=>h u hu v hv e.symm
  rw [Db (ob:=Ap us ob) hv];exact Kn (Db hv)
 ·have hu':∀ u∈us,u.1≠i:=fun u h e=>hu ⟨u,h,e⟩
  rw [Db (ob:=Ap vs ob) hu'];exact (Kn (Db hu')).symm
theorem Ph {p:Nat->Bool} {us:List (Oid×Option Ob)}:∀ (k:Nat) (rs:List Rec) (ob:Oid->Option Ob),(∀ j r,rs[j]? =some r->p (k+j)=true->Vw us r.2.2)->Di p k rs (Ap us ob)=Ap us (Di p k rs ob)
 | _,[],_,_=>rfl
 | k,r :: rs,ob,h=>by
  simp only [Di];rw [← Ph (k+1) rs _ (fun j s hs hp=>h (j+1) s (by simpa using hs) (by rw [show k+(j+1)=k+1+j by omega]; exact hp))];split
  ·rename_i hp;rw [Qv (h 0 r (by simp) (by simpa using hp))]
  ·rfl
theorem O5 {p q:Nat->Bool}:∀ (k:Nat) (rs:List Rec) (ob:Oid->Option Ob),(∀ j,k<=j->p j=q j)->Di p k rs ob=Di q k rs ob
 | _,[],_,_=>rfl
 | k,r :: rs,ob,h=>by
  simp only [Di,h k (Nat.le_refl _)];exact O5 (k+1) rs _ (fun j hj=>h j (by omega))
theorem Rl {p q:Nat->Bool} {i:Nat} (hq:∀ j,q j=(p j||decide (j=i))) (hp:p i=false):∀ (k:Nat) (rs:List Rec) (ob:Oid->Option Ob) (r:Rec),k<=i->rs[i - k]? =some r->(∀ j s,rs[j]? =some s->i<k+j->p (k+j)=true->Vw r.2.2 s.2.2)->Di q k rs ob=Ap r.2.2 (Di p k rs ob)
 | _,[],_,_,_,h,_=>by simp at h
 | k,s :: rs,ob,r,hk,hr,hd=>by
  by_cases e:k=i
  ·subst e;simp at hr;subst hr;simp only [Di,hq k,hp,Bool.false_or,decide_true,if_true,Bool.false_eq_true,if_false];rw [O5 (p:=q) (q:=p) (k+1) rs _ (fun j hj=>by rw [hq]; simp; omega)];exact Ph (k+1) rs ob (fun j s hs hpj=>hd (j+1) s (by simpa using hs) (by omega) (by rw [show k+(j+1)=k+1+j by omega]; exact hpj))
  ·simp only [Di,hq k,show decide (k=i)=false by simp [e],Bool.or_false];have hk':k+1<=i:=by omega
   refine Rl hq hp (k+1) rs _ r hk' ?_ (fun j s hs h1 h2=>hd (j+1) s (by simpa using hs) (by omega) (by rw [show k+(j+1)=k+1+j by omega]; exact h2));rw [show i - k=(i - (k+1))+1 by omega] at hr
   simpa using hr
theorem Tr {p:Nat->Bool} {s:Nat}:∀ (k:Nat) (xs:List X) (rs:List Rec) (f:Nat->AV) (j:Nat) (x:X) (r:Rec),xs[j]? =some x->rs[j]? =some r->x.dst=some s->p (k+j)=true->(∀ l y,xs[l]? =some y->j<l->y.dst≠some s)->D1 p k xs rs f s=r.2.1
 | _,[],_,_,_,_,_,h,_,_,_,_=>by simp at h
 | _,_ :: _,[],_,_,_,_,_,h,_,_,_=>by simp at h
 | k,x0 :: xs,r0 :: rs,f,0,x,r,hx,hr,hd,hp,hl=>by
  simp at hx hr;subst hx hr;simp only [D1,show p k=true by simpa using hp,if_true]
  have key:∀ (k:Nat) (xs:List X) (rs:List Rec) (f:Nat->AV),(∀ y∈xs,y.dst≠some s)->D1 p k xs rs f s=f s:=by
   intro k xs
   induction xs generalizing k with
   | nil=>intro rs f _; simp [D1]
   | cons y ys ih =>
    intro rs f h;cases rs with
    | nil=>rfl
    | cons r rs =>
     simp only [D1];rw [ih (k+1) rs _ (fun z hz=>h z (by simp [hz]))];split
     ·have:=h y (by simp);cases hy:y.dst with
      | none=>rfl
      | some d=>simp only [Fb]; rw [At]; intro e; subst e; exact this hy
     ·rfl
  rw [key (k+1) xs rs _ (fun y hy=>by
   obtain ⟨l,hl1,rfl⟩:=List.mem_iff_getElem.1 hy;exact hl (l+1) _ (by simp [hl1]) (by omega)),hd]
  simp only [Fb,Au]
 | k,x0 :: xs,r0 :: rs,f,j+1,x,r,hx,hr,hd,hp,hl=>by
  simp only [D1];exact Tr (k+1) xs rs _ j x r (by simpa using hx) (by simpa using hr) hd (by rw [show k+1+j=k+(j+1) by omega]; exact hp) (fun l y hy h=>hl (l+1) y (by simpa using hy) (by omega))
def Ka:List (List Nat)->List Nat->List Nat
 | [],acc=>acc
 | ds :: rest,acc=>Ka rest (acc++[ds.foldl (fun s d=>s ||| 2 ^ d ||| acc.getD d 0) 0])
theorem Qu (A:Nat->Nat):∀ (ds:List Nat) (s j:Nat),(ds.foldl (fun s d=>s ||| 2 ^ d ||| A d) s).testBit j=true->s.testBit j=true∨∃ d∈ds,j=d∨(A d).testBit j=true
 | [],s,j,h=>.inl h
 | d :: ds,s,j,h=>by
  rcases Qu A ds _ j h with h | ⟨e,he,h⟩
  ·rw [Nat.testBit_or,Nat.testBit_or,Bool.or_eq_true,Bool.or_eq_true] at h;rcases h with (h | h) | h
   ·exact .inl h
   ·rw [Nat.testBit_two_pow] at h;have e:d=j:=by simpa using h
    exact .inr ⟨d,by simp,.inl e.symm⟩
   ·exact .inr ⟨d,by simp,.inr h⟩
  ·exact .inr ⟨e,by simp [he],h⟩
theorem Ou:∀ (deps:List (List Nat)) (acc:List Nat),(∃ t,Ka deps acc=acc++t∧t.length=deps.length) ∧
  ∀ k ds,deps[k]? =some ds->∀ j,((Ka deps acc).getD (acc.length+k) 0).testBit j=true->∃ d∈ds,j=d∨((Ka deps acc).getD d 0).testBit j=true
 | [],acc=>⟨⟨[],by simp [Ka],rfl⟩,fun k ds h=>by simp at h⟩
 | ds0 :: rest,acc=>by
  obtain ⟨⟨t,h1,h2⟩,h3⟩:=Ou rest (acc++[ds0.foldl (fun s d=>s ||| 2 ^ d ||| acc.getD d 0) 0]);refine ⟨⟨ds0.foldl (fun s d=>s ||| 2 ^ d ||| acc.getD d 0) 0 :: t,by simp only [Ka,h1,List.append_assoc]; rfl,by simp [h2]⟩,fun k ds hk j hj=>?_⟩;simp only [Ka] at hj ⊢;cases k with
  | zero =>
   simp at hk;subst hk;rw [h1] at hj;rw [Nat.add_zero,gDg,List.append_assoc,List.getElem?_append_right (Nat.le_refl _)] at hj;simp at hj;rcases Qu (fun d=>acc[d]?.getD 0) _ _ _ hj with h | ⟨d,hd,h⟩
   ·simp at h
   ·refine ⟨d,hd,h.imp id fun h=>?_⟩;rw [h1,gDg];by_cases hlt:d<acc.length
    ·rw [List.append_assoc,List.getElem?_append_left hlt]; exact h
    ·rw [List.getElem?_eq_none (by omega)] at h;simp at h
  | succ k =>
   have:=h3 k ds (by simpa using hk) j (by
    rw [List.length_append,List.length_cons,List.length_nil,show acc.length+(0+1)+k=acc.length+(k+1) by omega];exact hj)
   exact this
end Go.Proofs.YtgljmpiofhlkjaaDoor
namespace Go.Proofs.YtgljmpiofhlkjaaDoor
open Go.RowKit Go.Deep
def Dn (o:Oper):List Nat:=(o.after.toList.filter (Region.binds .any)).map (·.on)
def Ir (ri rj:Rec) (di dj:List Oid):Prop :=
 ((ri.1=2->rj.1=0)∧(rj.1=2->ri.1=0))∨((ri.1=2->∀ u∈ri.2.2,u.1∉dj)∧(rj.1=2->∀ u∈rj.2.2,u.1∉di)∧∀ u∈ri.2.2,∀ v∈rj.2.2,u.1≠v.1)
def Ml:List (Option Nat)->Bool
 | []=>true
 | none :: r=>Ml r
 | some d :: r=> !r.contains (some d)&&Ml r
theorem It:∀ {ds:List (Option Nat)},Ml ds=true->∀ (i j s:Nat),i<j->ds[i]? =some (some s)->ds[j]?≠some (some s)
 | [],_,i,j,s,_,h=>by simp at h
 | none :: r,hb,0,j,s,_,h=>by simp at h
 | none :: r,hb,i+1,0,s,hij,_=>by omega
 | none :: r,hb,i+1,j+1,s,hij,h=>by
  have:=It (ds:=r) hb i j s (by omega) (by simpa using h)
  simpa using this
 | some d :: r,hb,0,j,s,hij,h=>by
  simp only [Ml,Bool.and_eq_true] at hb;simp at h;subst h;intro hj;cases j with
  | zero=>omega
  | succ j =>
   have h1:(some d:Option Nat)∈r:=List.mem_of_getElem? (by simpa using hj);have h2:=hb.1;simp at h2;exact h2 h1
 | some d :: r,hb,i+1,0,s,hij,_=>by omega
 | some d :: r,hb,i+1,j+1,s,hij,h=>by
  simp only [Ml,Bool.and_eq_true] at hb;have:=It (ds:=r) hb.2 i j s (by omega) (by simpa using h)
  simpa using this
section
variable {P:Program} {G:World->Prop} {w0 w w':World} {N:Nat}
theorem L5:∀ {os:List Oper} {xs:List X} {ops:Array Oper},X.ofL P N ops os=some xs->os.length=xs.length∧∀ (k:Nat) (o:Oper),os[k]? =some o->∃ x:X,xs[k]? =some x∧X.of P N ops o=some x
 | [],xs,ops,h=>by
  obtain rfl:[]=xs:=osj h;exact ⟨rfl,fun k o h=>by simp at h⟩
 | o :: os,xs,ops,h=>by
  simp only [X.ofL] at h;split at h
  ·rename_i x xs' h1 h2;obtain rfl:=osj h;obtain ⟨q1,q2⟩:=L5 h2;refine ⟨by simp [q1],fun k o' hk=>?_⟩;cases k with
   | zero=>simp at hk; subst hk; exact ⟨x,by simp,h1⟩
   | succ k=>obtain ⟨y,r1,r2⟩:=q2 k o' (by simpa using hk); exact ⟨y,by simpa using r1,r2⟩
  ·cases h
theorem X.of_dst {ops:Array Oper} {o:Oper} {x:X} (h:X.of P N ops o=some x):x.dst=o.dst∧Wy N o=true:=by
 unfold X.of at h;split at h
 ·split at h
  ·rename_i hd;split at h
   ·obtain rfl:=osj h; exact ⟨rfl,hd⟩
   ·split at h
    ·obtain rfl:=osj h; exact ⟨rfl,hd⟩
    ·cases h
  ·cases h
 ·cases h
structure Drawn (ops:Array Oper) (xs:List X) (rs:List Rec) (ds:List (List Oid)):Prop where
 lx:xs.length=ops.size
 lr:rs.length=ops.size
 ld:ds.length=ops.size
 dst:∀ (k:Nat) (o:Oper) (x:X),ops[k]? =some o->xs[k]? =some x->x.dst=o.dst
 fwd:∀ (k:Nat) (o:Oper),ops[k]? =some o->∀ d∈Dn o,d<k
 one:∀ (i j:Nat) (x y:X) (s:Nat),i<j->xs[i]? =some x->xs[j]? =some y->x.dst=some s->y.dst≠some s
 pair:∀ (i j:Nat) (oi oj:Oper) (ri rj:Rec) (di dj:List Oid),j<i->ops[i]? =some oi->ops[j]? =some oj->rs[i]? =some ri->rs[j]? =some rj->ds[i]? =some di->ds[j]? =some dj ->
  ((Ka (ops.toList.map Dn) []).getD i 0).testBit j=true∨(oj.apart ops oi=true∧Ir ri rj di dj)
theorem Drawn.of {ops:Array Oper} {xs:List X} {rs:List Rec} {ds:List (List Oid)} (hx:X.ofL P N ops ops.toList=some xs) (hr:xs.length=rs.length) (hd:xs.length=ds.length)
  (b2:(ops.toList.zipIdx.all fun x=>(Dn x.1).all fun d=>decide (d<x.2))=true) (b3:Ml (ops.toList.map (·.dst))=true)
  (b4:∀ i j,i<ops.size->j<i->((Ka (ops.toList.map Dn) []).getD i 0).testBit j=true∨((ops.getD j default).apart ops (ops.getD i default)=true∧Ir (rs.getD i (0,.any,[])) (rs.getD j (0,.any,[])) (ds.getD i []) (ds.getD j []))):Drawn ops xs rs ds:=by
 obtain ⟨q1,q2⟩:=L5 hx;have lx:xs.length=ops.size:=by rw [← q1]; simp
 have hdst:∀ (k:Nat) (o:Oper) (x:X),ops[k]? =some o->xs[k]? =some x->x.dst=o.dst:=by
  intro k o x ho hx';obtain ⟨y,r1,r2⟩:=q2 k o (by simpa using ho);rw [hx'] at r1;obtain rfl:=osj r1;exact (X.of_dst r2).1
 refine ⟨lx,by omega,by omega,hdst,?_,?_,?_⟩
 ·intro k o ho d hd;rw [List.all_eq_true] at b2;have:=b2 (o,k) (by rw [List.mem_zipIdx_iff_getElem?]; simpa using ho);rw [List.all_eq_true] at this;exact of_decide_eq_true (this d hd)
 ·intro i j x y s hij hxi hxj hs hs';have hi:i<ops.size:=by rw [← lx]; exact (gSi.1 hxi).1
  have hj:j<ops.size:=by rw [← lx]; exact (gSi.1 hxj).1
  refine It b3 i j s hij ?_ ?_
  ·rw [List.getElem?_map];simp [hi,← hdst i _ x (Array.getElem?_eq_getElem hi) hxi,hs]
  ·rw [List.getElem?_map];simp [hj,← hdst j _ y (Array.getElem?_eq_getElem hj) hxj,hs']
 ·intro i j oi oj ri rj di dj hij hoi hoj hri hrj hdi hdj;have hi:i<ops.size:=(Array.getElem?_eq_some_iff.1 hoi).1;have h2:=b4 i j hi hij;have e1:ops.getD i default=oi:=by simp [Array.getD_eq_getD_getElem?,hoi]
  have e2:ops.getD j default=oj:=by simp [Array.getD_eq_getD_getElem?,hoj]
  rw [e1,e2] at h2
  simpa only [gDg,hri,hrj,hdi,hdj,Option.getD_some] using h2
def Bn (listed:Array Bool) (k:Nat):Bool:=listed.getD k false
theorem Sg {ops:Array Oper} {xs:List X} {rs:List Rec} {ds:List (List Oid)} (hD:Drawn ops xs rs ds) {p:Nat->Bool} (hcl:∀ (k:Nat) (o:Oper),ops[k]? =some o->p k=true->∀ d∈Dn o,p d=true):∀ (n k:Nat),k<=n->∀ (o:Oper),ops[k]? =some o->(∀ d∈Dn o,p d=true)->∀ j,((Ka (ops.toList.map Dn) []).getD k 0).testBit j=true->p j=true
 | n,k,hk,o,ho,hd,j,hj=>by
  obtain ⟨d,hdm,h⟩:=(Ou (ops.toList.map Dn) []).2 k (Dn o) (by rw [List.getElem?_map]; simp [ho]) j (by simpa using hj);have hpd:=hd d hdm;rcases h with rfl | h
  ·exact hpd
  ·have hlt:=hD.fwd k o ho d hdm;have hko:k<ops.size:=(Array.getElem?_eq_some_iff.1 ho).1;cases n with
   | zero=>omega
   | succ n =>
    exact Sg hD hcl n d (by omega) _ (Array.getElem?_eq_getElem (by omega:d<ops.size)) (hcl d _ (Array.getElem?_eq_getElem (by omega:d<ops.size)) hpd) j h
theorem Le {ops:Array Oper} {x y:Oper} (h:x.apart ops y=true):(∀ d,x.dst=some d->d∉y.looksAt ops)∧(∀ d,x.dst=some d->y.dst≠some d)∧(∀ d,y.dst=some d->d∉x.looksAt ops):=Oper.apart_spec h
theorem Hg {p q:Nat->Bool} {s:Nat}:∀ (k:Nat) (xs:List X) (rs:List Rec) (f f':Nat->AV),f s=f' s->(∀ (j:Nat) (x:X),xs[j]? =some x->x.dst=some s->p (k+j)=q (k+j))->D1 p k xs rs f s=D1 q k xs rs f' s
 | _,[],rs,f,f',h,_=>by cases rs <;> exact h
 | _,_ :: _,[],_,_,h,_=>h
 | k,x :: xs,r :: rs,f,f',h,hd=>by
  simp only [D1];refine Hg (k+1) xs rs _ _ ?_ (fun j y hy hs=>by rw [show k+1+j=k+(j+1) by omega]; exact hd (j+1) y (by simpa using hy) hs);by_cases e:x.dst=some s
  ·have:=hd 0 x (by simp) e;rw [Nat.add_zero] at this;rw [this,e];split
   ·simp only [Fb,Au]
   ·exact h
  ·have hp:∀ g:Nat->AV,Fb x.dst r.2.1 g s=g s:=by
    intro g;cases hx:x.dst with
    | none=>rfl
    | some d=>simp only [Fb]; rw [At]; intro e'; subst e'; exact e hx
   split <;> split <;> simp [hp,h]
theorem Yu (p:Nat->Bool):∀ k,p k=false->∃ m,m<=k∧p m=false∧∀ l,l<m->p l=true:=by
 intro k
 induction k using Nat.strongRecOn with
 | _ k ih =>
  intro hk;by_cases h:∃ l,l<k∧p l=false
  ·obtain ⟨l,h1,h2⟩:=h;obtain ⟨m,q1,q2,q3⟩:=ih l h1 h2;exact ⟨m,by omega,q2,q3⟩
  ·refine ⟨k,Nat.le_refl _,hk,fun l hl=>?_⟩;cases hp:p l with
   | true=>rfl
   | false=>exact absurd ⟨l,hl,hp⟩ h
theorem Sr (l:List Bool) (i:Nat) (h:l[i]? =some false):((l.set i true).filter (!·)).length+1=(l.filter (!·)).length:=by
 induction l generalizing i with
 | nil=>simp at h
 | cons b l ih =>
  cases i with
  | zero=>simp at h; subst h; simp
  | succ i =>
   have:=ih i (by simpa using h);cases b <;> simp [List.filter_cons] at* <;> omega
theorem W9 [IsP P] {B:Ks} {ops:Array Oper} {Q':Exit->Act->World->Prop} {g:Nat} {xs:List X} {f0:Nat->AV} {ob0:Oid->Option Ob} {rs:List Rec} {ds:List (List Oid)} {f':Nat->AV} {ob':Oid->Option Ob}
  (hx:X.ofL P N ops ops.toList=some xs) (hr:Uy P G g 0 xs f0 ob0 rs ds f' ob') (hD:Drawn ops xs rs ds) (hg:∀ i,ob0 i≠none->i.2<g)
  (hQ:∀ a' w',(∃ σ,Mem0 G w0 ob' σ (fun m=>m<g+ops.size) w'∧TmB B σ (imm ob' σ) w' f' a')->a'.tmps.size=N->a'.defers=[]->Q' .normal a' w') :
  ∀ (fuel:Nat) (listed:Array Bool) (a:Act) (w:World),listed.size=ops.size->(listed.toList.filter (!·)).length=fuel->(∀ (k:Nat) (o:Oper),ops[k]? =some o->Bn listed k=true->∀ d∈Dn o,Bn listed d=true) ->
   (∃ σ,Mem0 G w0 (Di (Bn listed) 0 rs ob0) σ (fun m=>m<g∨∃ k,Bn listed k=true∧m=g+k) w∧TmB B σ (imm (Di (Bn listed) 0 rs ob0) σ) w (D1 (Bn listed) 0 xs rs f0) a)->a.tmps.size=N->a.defers=[] ->
   wpAny P .any ops Q' fuel listed a w:=by
 obtain ⟨s1,_,s2,s3,s4⟩:=Kb xs 0 f0 ob0 rs ds f' ob' hr;obtain ⟨_,hxo⟩:=L5 hx;intro fuel
 induction fuel with
 | zero =>
  intro listed a w hsz hcnt hcl hm hN hd
  have hall:∀ k,k<ops.size->Bn listed k=true:=by
   intro k hk;have h0:listed.toList.filter (!·)=[]:=List.length_eq_zero_iff.1 hcnt;rw [List.filter_eq_nil_iff] at h0;have:=h0 (listed[k]'(by omega)) (by simp)
   simpa [Bn,Array.getD_eq_getD_getElem?,hsz,hk] using this
  have hready:Region.ready .any ops listed=[]:=by
   unfold Region.ready;rw [List.filter_eq_nil_iff];intro k hk;have:=hall k (by simpa using hk);have hk':k<listed.size:=by rw [hsz]; simpa using hk
   simp only [Bn,Array.getD_eq_getD_getElem?,Array.getElem?_eq_getElem hk',Option.getD_some] at this;simp [hk',this]
  refine ⟨hready,hQ a w ?_ hN hd⟩;obtain ⟨σ,h1,h2⟩:=hm
  have e1:Di (Bn listed) 0 rs ob0=ob':=by
   rw [s3];funext id;exact Gf 0 rs ob0 ob0 rfl (fun j r hj hne=>absurd (hall (0+j) (by have:=(gSi.1 hj).1; have:=hD.lr; omega)) hne)
  have e2:D1 (Bn listed) 0 xs rs f0=f':=by
   rw [s2];funext t;exact Hg 0 xs rs f0 f0 rfl (fun j x hj _=>hall (0+j) (by have:=(gSi.1 hj).1; have:=hD.lx; omega))
  rw [e1] at h1 h2;rw [e2] at h2
  exact ⟨σ,h1.wide (fun n hn=>by
   rcases hn with hn | ⟨k,hk,rfl⟩
   ·omega
   ·have:k<ops.size:=by
     rcases Nat.lt_or_ge k ops.size with h | h
     ·exact h
     ·simp [Bn,Array.getD_eq_getD_getElem?,Array.getElem?_eq_none (show listed.size<=k by omega)] at hk
    omega),h2⟩
 | succ fuel ih =>
  intro listed a w hsz hcnt hcl hm hN hd
  have hbig:∀ k,Bn listed k=true->k<ops.size:=by
   intro k hk;rcases Nat.lt_or_ge k ops.size with h | h
   ·exact h
   ·simp [Bn,Array.getD_eq_getD_getElem?,Array.getElem?_eq_none (show listed.size<=k by omega)] at hk
  refine ⟨fun hready=>?_,fun i hi=>?_⟩
  ·have hne:listed.toList.filter (!·)≠[]:=fun h=>by rw [h] at hcnt; cases hcnt
   obtain ⟨b,hb'⟩:=List.exists_mem_of_ne_nil _ hne;obtain ⟨hb1,hb2⟩:=List.mem_filter.1 hb';obtain ⟨k,hk,rfl⟩:=List.mem_iff_getElem.1 hb1;have hk':k<listed.size:=by simpa using hk
   have hkf:Bn listed k=false:=by
    simp only [Bn,Array.getD_eq_getD_getElem?,Array.getElem?_eq_getElem hk',Option.getD_some]
    simpa using hb2
   obtain ⟨m,q1,q2,q3⟩:=Yu (Bn listed) k hkf;have hmo:m<ops.size:=by omega
   have:m∈Region.ready .any ops listed:=by
    unfold Region.ready;rw [List.mem_filter];refine ⟨by simpa using hmo,?_⟩;have hml:m<listed.size:=by omega
    simp only [Bn,Array.getD_eq_getD_getElem?,Array.getElem?_eq_getElem hml,Option.getD_some] at q2;simp only [Array.getD_eq_getD_getElem?,Array.getElem?_eq_getElem hml,Option.getD_some,q2,Bool.not_false,Bool.true_and,Array.getElem?_eq_getElem hmo,Option.map_some];rw [Array.all_eq_true_iff_forall_mem];intro e he;cases hbe:Region.binds .any e with
    | false=>rfl
    | true =>
     have hlt:=hD.fwd m _ (Array.getElem?_eq_getElem hmo) e.on (List.mem_map.2 ⟨e,List.mem_filter.2 ⟨by simpa using he,hbe⟩,rfl⟩);have:=q3 e.on hlt;simp only [Bn] at this;rw [Array.getD_eq_getD_getElem?] at this;simp [this]
   rw [hready] at this;cases this
  ·unfold Region.ready at hi;rw [List.mem_filter] at hi;obtain ⟨hir,hi2⟩:=hi;have hio:i<ops.size:=by simpa using hir
   have hil:i<listed.size:=by omega
   simp only [Bool.and_eq_true,Array.getElem?_eq_getElem hio,Option.map_some,Option.getD_some] at hi2;obtain ⟨hi3,hi4⟩:=hi2
   have hpi:Bn listed i=false:=by
    simp only [Array.getD_eq_getD_getElem?,Array.getElem?_eq_getElem hil,Option.getD_some] at hi3;simp only [Bn,Array.getD_eq_getD_getElem?,Array.getElem?_eq_getElem hil,Option.getD_some]
    simpa using hi3
   have hoi:ops[i]? =some ops[i]:=Array.getElem?_eq_getElem hio;generalize ops[i]=o at hoi hi4
   have hdeps:∀ d∈Dn o,Bn listed d=true:=by
    intro d hd';obtain ⟨e,he,rfl⟩:=List.mem_map.1 hd';obtain ⟨he1,he2⟩:=List.mem_filter.1 he;rw [Array.all_eq_true_iff_forall_mem] at hi4;have:=hi4 e (by simpa using he1);rw [he2] at this
    simpa [Bn] using this
   obtain ⟨x,hxi,hxof⟩:=hxo i o (by simpa using hoi);obtain ⟨hxd,hdb⟩:=X.of_dst hxof;have hri:∃ r,rs[i]? =some r:=⟨_,gEg (by have:=hD.lr; omega)⟩
   obtain ⟨r,hri⟩:=hri;obtain ⟨d0,hd0,hst⟩:=s4 i x r hxi hri;rw [Nat.zero_add] at hst
   have before:∀ j oj rj,j<i->Bn listed j=false->ops[j]? =some oj->rs[j]? =some rj->oj.apart ops o=true∧∃ dj,ds[j]? =some dj∧Ir r rj d0 dj:=by
    intro j oj rj hj hpj hoj hrj;have hdj:ds[j]? =some (ds[j]'(by have:=hD.ld; have:=(Array.getElem?_eq_some_iff.1 hoj).1; omega)):=gEg _;rcases hD.pair i j o oj r rj _ _ hj hoi hoj hri hrj hd0 hdj with h | h
    ·have:=Sg hD hcl i i (Nat.le_refl _) o hoi hdeps j h;rw [hpj] at this; cases this
    ·exact ⟨h.1,_,hdj,h.2⟩
   have after:∀ k ok rk,i<k->Bn listed k=true->ops[k]? =some ok->rs[k]? =some rk->o.apart ops ok=true∧∃ dk,ds[k]? =some dk∧Ir rk r dk d0:=by
    intro k ok rk hk hpk hok hrk;have hdk:ds[k]? =some (ds[k]'(by have:=hD.ld; have:=(Array.getElem?_eq_some_iff.1 hok).1; omega)):=gEg _;rcases hD.pair k i ok o rk r _ _ hk hok hoi hrk hri hdk hd0 with h | h
    ·have:=Sg hD hcl k k (Nat.le_refl _) ok hok (hcl k ok hok hpk) i h;rw [hpi] at this; cases this
    ·exact ⟨h.1,_,hdk,h.2⟩
   have rec0:∀ j rj,rs[j]? =some rj->∀ u∈rj.2.2,(rj.1=2∧(Di (fun m=>decide (m<j)) 0 rs ob0 u.1≠none∨u.1.2=g+j))∨(rj.1=1∧u.1.2=g+j):=by
    intro j rj hrj;have hjx:∃ y,xs[j]? =some y:=⟨_,gEg (by have:=(gSi.1 hrj).1; omega)⟩
    obtain ⟨y,hy⟩:=hjx;obtain ⟨_,_,hsj⟩:=s4 j y rj hy hrj;have:=Mo hsj
    rwa [Nat.zero_add] at this
   obtain ⟨σ,hM,hF⟩:=hm
   -- the temporaries that the operation looks at
   have htm:∀ t∈o.looksAt ops,D1 (fun m=>decide (m<i)) 0 xs rs f0 t=D1 (Bn listed) 0 xs rs f0 t:=by
    intro t ht;refine Hg 0 xs rs f0 f0 rfl (fun j y hy hd'=>?_);rw [Nat.zero_add];have hjo:j<ops.size:=by rw [← hD.lx]; exact (gSi.1 hy).1
    have hoj:ops[j]? =some ops[j]:=Array.getElem?_eq_getElem hjo;have hrj:rs[j]? =some (rs[j]'(by have:=hD.lr; omega)):=gEg _;have hdj:(ops[j]).dst=some t:=by rw [← hD.dst j _ y hoj hy]; exact hd'
    rcases Nat.lt_trichotomy j i with h | rfl | h
    ·cases hp:Bn listed j with
     | true=>simp [h]
     | false=>exact absurd ht ((Le (before j _ _ h hp hoj hrj).1).1 t hdj)
    ·rw [hpi]; simp
    ·cases hp:Bn listed j with
     | true=>exact absurd ht ((Le (after j _ _ h hp hoj hrj).1).2.2 t hdj)
     | false=>simp; omega
   have hops:∀ z∈o.op.operands,∀ y,Opd.of z=some y->AV.Rep σ (imm (Di (Bn listed) 0 rs ob0) σ) w (y.ev (D1 (fun m=>decide (m<i)) 0 xs rs f0)) (a.eval z):=by
    intro z hz y hy;refine Opd.rep hy (fun t e=>?_)
    have:t∈o.looksAt ops:=by
     refine List.mem_append_left _ (List.mem_filterMap.2 ⟨z,by simpa using hz,?_⟩);cases z <;> simp [Opd.of] at hy <;> subst hy <;> cases e;rfl
    rw [htm t this];exact hF.1 t
   -- the objects
   have hagree:r.1≠0->∀ id ob l,only d0 (Di (fun m=>decide (m<i)) 0 rs ob0) id=some ob->σ id=some l->Di (Bn listed) 0 rs ob0 id=some ob:=by
    intro hk id ob l h0 h2;obtain ⟨hid,h1⟩:=Ut h0;rw [← h1];refine (Gf 0 rs ob0 ob0 rfl (fun j rj hrj hne u hu e=>?_)).symm;rw [Nat.zero_add] at hne;subst e;have hjo:j<ops.size:=by rw [← hD.lr]; exact (gSi.1 hrj).1
    have hoj:ops[j]? =some ops[j]:=Array.getElem?_eq_getElem hjo;have hgen:=hM.gen _ _ h2;rcases Nat.lt_trichotomy j i with h | rfl | h
    ·have hp:Bn listed j=false:=by
      cases hp:Bn listed j with
      | false=>rfl
      | true=>rw [hp] at hne; simp [h] at hne
     have hk2:rj.1≠2:=fun e=>by
      obtain ⟨_,dj,_,h | h⟩:=before j _ _ h hp hoj hrj
      ·exact hk (h.2 e)
      ·exact h.2.1 e u hu hid
     rcases rec0 j rj hrj u hu with ⟨e,_⟩ | ⟨_,e⟩
     ·exact hk2 e
     ·rcases hgen with hg' | ⟨m,hm1,hm2⟩
      ·omega
      ·have:m=j:=by omega
       subst this; rw [hp] at hm1; cases hm1
    ·rw [hpi] at hne; simp at hne
    ·have hp:Bn listed j=true:=by
      cases hp:Bn listed j with
      | true=>rfl
      | false=>rw [hp] at hne; simp at hne; omega
     have hk2:rj.1≠2:=fun e=>by
      obtain ⟨_,dj,_,h | h⟩:=after j _ _ h hp hoj hrj
      ·exact hk (h.1 e)
      ·exact h.1 e u hu hid
     rcases rec0 j rj hrj u hu with ⟨e,_⟩ | ⟨_,e⟩
     ·exact hk2 e
     ·have:=Mm xs 0 f0 ob0 rs ds f' ob' hr (fun i hi=>by have:=hg i hi; omega) i u.1 (by rw [Nat.zero_add,h1]; simp);omega
   -- behind it
   have hq:∀ j,Bn (listed.setIfInBounds i true) j=(Bn listed j||decide (j=i)):=by
    intro j;simp only [Bn,Array.getD_eq_getD_getElem?];by_cases e:j=i
    ·subst e; simp [Array.getElem?_setIfInBounds_self_of_lt hil]
    ·rw [Array.getElem?_setIfInBounds_ne (fun h=>e h.symm)]; simp [e]
   have hO:Di (Bn (listed.setIfInBounds i true)) 0 rs ob0=Ap r.2.2 (Di (Bn listed) 0 rs ob0):=by
    refine Rl hq hpi 0 rs ob0 r (Nat.zero_le _) (by simpa using hri) (fun j s hs hij hp=>?_);rw [Nat.zero_add] at hij hp;have hjo:j<ops.size:=hbig j hp;have hoj:ops[j]? =some ops[j]:=Array.getElem?_eq_getElem hjo;obtain ⟨_,dj,_,⟨a1,a2⟩ | ⟨_,_,a3⟩⟩:=after j _ _ hij hp hoj hs
    ·intro u hu v hv;rcases rec0 i r hri u hu with ⟨e,_⟩ | ⟨e,e'⟩ <;> rcases rec0 j s hs v hv with ⟨k,_⟩ | ⟨k,k'⟩
     ·have:=a1 k; omega
     ·have:=a2 e; omega
     ·have:=a1 k; omega
     ·intro he; rw [he] at e'; omega
    ·exact fun u hu v hv e=>a3 v hv u hu e.symm
   have hT':D1 (Bn (listed.setIfInBounds i true)) 0 xs rs f0=Fb x.dst r.2.1 (D1 (Bn listed) 0 xs rs f0):=by
    funext t;by_cases e:x.dst=some t
    ·rw [Tr 0 xs rs f0 i x r hxi hri e (by rw [Nat.zero_add,hq]; simp) (fun l y hy hl=>hD.one i l x y t hl hxi hy e),e];simp only [Fb,Au]
    ·have hp:Fb x.dst r.2.1 (D1 (Bn listed) 0 xs rs f0) t=D1 (Bn listed) 0 xs rs f0 t:=by
      cases hx':x.dst with
      | none=>rfl
      | some d=>simp only [Fb]; rw [At]; intro e'; subst e'; exact e hx'
     rw [hp];refine Hg 0 xs rs f0 f0 rfl (fun j y hy hd'=>?_);rw [hq]
     have:j≠i:=by
      intro h; subst h;rw [hxi] at hy; obtain rfl:=osj hy; exact e hd'
     rw [Nat.zero_add];simp [this]
   have hcl':∀ (k:Nat) (ok:Oper),ops[k]? =some ok->Bn (listed.setIfInBounds i true) k=true->∀ d∈Dn ok,Bn (listed.setIfInBounds i true) d=true:=by
    intro k ok hok hk d hd';rw [hq] at hk ⊢;by_cases e:k=i
    ·subst e;rw [hoi] at hok;obtain rfl:=osj hok;rw [hdeps d hd']; rfl
    ·have:Bn listed k=true:=by simpa [e] using hk
     rw [hcl k ok hok this d hd']; rfl
   have hcnt':((listed.setIfInBounds i true).toList.filter (!·)).length=fuel:=by
    have:listed.toList[i]? =some false:=by
     rw [Array.getElem?_toList,Array.getElem?_eq_getElem hil]
     simpa [Bn,Array.getD_eq_getD_getElem?,hil] using hpi
    have:=Sr listed.toList i this;rw [Array.toList_setIfInBounds];omega
   have hputs:∀ u,(a.put o.dst u).tmps.size=N∧(a.put o.dst u).defers=[]:=by
    intro u;cases o.dst <;> simp [Act.put,hN,hd]
   have hdlt:∀ d,x.dst=some d->d<a.tmps.size:=by
    intro d e;rw [hxd] at e;unfold Wy at hdb;rw [e] at hdb;rw [hN]; exact of_decide_eq_true hdb
   have go:∀ u w',(∃ σ',Mem0 G w0 (Ap r.2.2 (Di (Bn listed) 0 rs ob0)) σ' (fun m=>m<g∨∃ k,Bn (listed.setIfInBounds i true) k=true∧m=g+k) w'∧TmB B σ' (imm (Ap r.2.2 (Di (Bn listed) 0 rs ob0)) σ') w' (Fb x.dst r.2.1 (D1 (Bn listed) 0 xs rs f0)) (a.put o.dst u)) ->
     wpAny P .any ops Q' fuel (listed.setIfInBounds i true) (a.put o.dst u) w':=by
    intro u w' h;refine ih _ _ _ (by simpa using hsz) hcnt' hcl' ?_ (hputs u).1 (hputs u).2;rw [hO,hT'];exact h
   have hKw:∀ n,(n<g∨∃ k,Bn listed k=true∧n=g+k)->(n<g∨∃ k,Bn (listed.setIfInBounds i true) k=true∧n=g+k):=by
    rintro n (h | ⟨k,hk,h⟩)
    ·exact .inl h
    ·exact .inr ⟨k,by rw [hq,hk]; rfl,h⟩
   have doit:∀ q,Q.of P o=some q->EvR P G false (D1 (fun m=>decide (m<i)) 0 xs rs f0) (only d0 (Di (fun m=>decide (m<i)) 0 rs ob0)) ((x.dst.getD 0,0),g+i) q r->o.wp P a w (wpAny P .any ops Q' fuel (listed.setIfInBounds i true)) Q':=by
    intro q hqo he
    have:=Tt (a:=a) (w:=w) (K':=fun m=>m<g∨∃ k,Bn (listed.setIfInBounds i true) k=true∧m=g+k) hqo he hM hKw
     (by
      rintro (h | ⟨k,hk,h⟩)
      ·exact absurd (show g+i<g from h) (by omega)
      ·have:k=i:=by simp at h; omega
       subst this; rw [hpi] at hk; cases hk)
     (.inr ⟨i,by rw [hq]; simp,rfl⟩)
     (fun hk id o' l h1 h2=>hM.obs id o' l (hagree hk id o' l h1 h2) h2) (fun hk=>hagree (by omega)) hops
    refine this _ _ (fun u w' hgo=>?_);obtain ⟨σ',hL,hM',hR⟩:=hgo;refine go u w' ⟨σ',hM',?_⟩;rw [← hxd];exact (hF.later hL).put hR hdlt
   unfold wpOp;rw [hoi];simp only;unfold X.of at hxof;split at hxof
   ·rename_i q hqo;rw [if_pos hdb] at hxof;split at hxof
    ·rename_i hgd;obtain rfl:=osj hxof;rw [if_pos (by simp [Region.wanted,hgd])];exact .inl (doit q hqo hst)
    ·rename_i j b hgd;split at hxof
     ·rename_i s hs;obtain rfl:=osj hxof
      have hsl:s∈o.looksAt ops:=by
       refine List.mem_append_right _ ?_;simp [hgd,hs]
      obtain ⟨c,hc,hst⟩:=hst
      ·skip
       rw [htm s hsl] at hc;have hw:=O2 (ops:=ops) hgd hs (hF.1 s) hc;rw [hw];split at hst
       ·rename_i hcb;rw [if_pos hcb];exact .inl (doit q hqo hst)
       ·rename_i hcb;rw [if_neg hcb];subst hst;refine go _ _ ⟨σ,hM.wide hKw,?_⟩;exact hF.put ⟨[],rfl,rfl⟩ hdlt
     ·cases hxof
   ·cases hxof
end
end Go.Proofs.YtgljmpiofhlkjaaDoor
namespace Go.Proofs.YtgljmpiofhlkjaaDoor
open Go.RowKit Go.Deep
def I.pot:I->Nat
 | .alloc .. | .box .. | .ld .. | .look .. | .lenM .. | .b2s ..=>1
 | _=>0
def Q.pot:Q->Nat
 | .i q=>q.pot
 | .st .. | .append .. | .mkV .. | .appV .. | .call .. | .upd .. | .del .. | .copy ..=>2
 | .slice _ _ _ _ (some _)=>2
 | .slice .. | .sub .. | .build .. | .mm ..=>0
 | _=>1
def Xy (kj ki:Nat):Bool:=(ki==2&&kj !=0)||(kj==2&&ki !=0)
def U9 (ops:Array Oper) (ps:List Nat):Option (List (Nat×Nat)) :=
 if (ps.length==ops.size)&&((ops.toList.zipIdx.all fun x=>(Dn x.1).all fun d=>decide (d<x.2))&&(Ml (ops.toList.map (·.dst)) &&
  ((List.range ops.size).all fun i=>(List.range i).all fun j =>
   ((Ka (ops.toList.map Dn) []).getD i 0).testBit j||(ops.getD j default).apart ops (ops.getD i default)))) then
  some ((List.range ops.size).flatMap fun i=>((List.range i).filter fun j=> !((Ka (ops.toList.map Dn) []).getD i 0).testBit j&&Xy (ps.getD j 0) (ps.getD i 0)).map fun j=>(j,i))
 else none
def Sz (rs:List Rec) (ds:List (List Oid)):List (Nat×Nat)->Prop
 | []=>True
 | p :: ps=>Ir (rs.getD p.2 (0,.any,[])) (rs.getD p.1 (0,.any,[])) (ds.getD p.2 []) (ds.getD p.1 [])∧Sz rs ds ps
theorem Q1 {rs:List Rec} {ds:List (List Oid)}:∀ {bad:List (Nat×Nat)},Sz rs ds bad->∀ p∈bad,Ir (rs.getD p.2 (0,.any,[])) (rs.getD p.1 (0,.any,[])) (ds.getD p.2 []) (ds.getD p.1 [])
 | [],_,p,hp=>by cases hp
 | q :: ps,h,p,hp=>by
  rcases List.mem_cons.1 hp with rfl | hp
  ·exact h.1
  ·exact Q1 h.2 p hp
inductive AC where
 | skip
 | region (xs:List X) (draw:Bool) (bad:List (Nat×Nat))
 | seq (a b:AC)
 | cond (c:Opd) (a b:AC)
 | block (id:Nat) (a:AC)
 | loop (a:AC)
 | exit (id:Nat)
 | ret
def Bw (l:Nat):Nat:=1000000+2*l
def Jn:Code->Option Nat
 | .label l=>some l
 | _=>none
def Mk:Code->Option Nat
 | .seq a b=>match Jn a with
  | some l=>some l
  | none=>match Mk b with
   | some l=>if (findLabel a l).isNone then some l else none
   | none=>none
 | _=>none
def AC.exB (p:Nat->Bool):AC->Bool
 | .seq a b=>AC.exB p a&&AC.exB p b
 | .cond _ a b=>AC.exB p a&&AC.exB p b
 | .block _ a=>AC.exB p a
 | .loop a=>AC.exB p a
 | .exit id=>p id
 | _=>true
def AC.ofB (P:Program) (N:Nat):Bool->Code->Option AC
 | false,.skip=>some .skip
 | false,.region _ ops draw=>match X.ofL P N ops ops.toList with
  | some xs=>if draw then match U9 ops (xs.map (·.q.pot)) with
    | some bad=>some (.region xs true bad)
    | none=>none
   else some (.region xs false [])
  | none=>none
 | s,.seq a b=>match Jn a with
  | some l=>match s,AC.ofB P N false b with
   | true,some b=>if AC.exB (fun i=>decide (i<1000000)||i==Bw l) b then some (.block (Bw l+1) (.loop (.block (Bw l) (.seq b (.exit (Bw l+1)))))) else none
   | _,_=>none
  | none=>match AC.ofB P N false a,AC.ofB P N s b with
   | some a,some b=>if !s||AC.exB (fun i=>decide (i<1000000)) a then some (.seq a b) else none
   | _,_=>none
 | false,.cond c a b=>match Opd.of c,AC.ofB P N false a,AC.ofB P N false b with
  | some c,some a,some b=>some (.cond c a b)
  | _,_,_=>none
 | false,.block id a=>if id<1000000 then (AC.ofB P N false a).map (.block id) else none
 | false,.loop a=>(AC.ofB P N false a).map .loop
 | false,.exit id=>if id<1000000 then some (.exit id) else none
 | false,.goto l=>some (.exit (Bw l))
 | false,.scope c=>match Mk c with
  | some _=>AC.ofB P N true c
  | none=>none
 | false,.ret=>some .ret
 | _,_=>none
def AC.of (P:Program) (N:Nat) (c:Code):Option AC:=AC.ofB P N false c
inductive AE where
 | normal
 | exit (id:Nat)
 | ret
def AE.out:AE->Exit
 | .normal=>.normal
 | .exit id=>if id<1000000 then .exit id else .goto ((id - 1000000) / 2)
 | .ret=>.ret
def WeakG (G:World->Prop) (S S':St):Prop:=∀ (w0:World) (B:Ks) (N:Nat) (a:Act) (w:World),Is G w0 B N S a w->Is G w0 B N S' a w
def E3 (K:St->Prop) (R:AE->St->Prop):AE->St->Prop
 | .normal,S=>K S
 | e,S=>R e S
def D5 (id:Nat) (R:AE->St->Prop):AE->St->Prop
 | .exit i,S=>if i=id then R .normal S else R (.exit i) S
 | e,S=>R e S
def awp (P:Program) (G:World->Prop):AC->(AE->St->Prop)->St->Prop
 | .skip,R,S=>R .normal S
 | .region xs false _,R,S=>∃ rs f' ob',W1 P G S.gen 0 xs S.tm S.ob rs f' ob'∧R .normal ⟨f',ob',S.gen+xs.length⟩
 | .region xs true bad,R,S=>∃ rs ds f' ob',Uy P G S.gen 0 xs S.tm S.ob rs ds f' ob'∧Sz rs ds bad∧R .normal ⟨f',ob',S.gen+xs.length⟩
 | .seq a b,R,S=>awp P G a (E3 (fun S'=>∃ S'',WeakG G S' S''∧awp P G b R S'') R) S
 | .cond c a b,R,S=>(∃ t,c.ev S.tm=.bool t∧(t=true->awp P G a R S)∧(t=false->awp P G b R S))∨(∃ pos n,c.ev S.tm=.abool pos n∧((pos=true->n=0)->awp P G a R S)∧((pos=false->n=0)->awp P G b R S))
 | .block id a,R,S=>awp P G a (D5 id R) S
 | .loop a,R,S=>∃ (α:Type) (I:α->St->Prop) (μ:α->Nat),(∃ s S0,WeakG G S S0∧I s S0)∧∀ s S1,I s S1->awp P G a (E3 (fun S2=>∃ s' S3,WeakG G S2 S3∧I s' S3∧μ s'<μ s) R) S1
 | .exit id,R,S=>R (.exit id) S
 | .ret,R,S=>R .ret S
theorem B3 {P:Program} {G:World->Prop}:∀ {c:AC} {R R':AE->St->Prop} {S:St},(∀ e S,R e S->R' e S)->awp P G c R S->awp P G c R' S
 | .skip,_,_,_,h,hh=>h _ _ hh
 | .region _ false _,_,_,_,h,⟨rs,f',ob',h1,h3⟩=>⟨rs,f',ob',h1,h _ _ h3⟩
 | .region _ true _,_,_,_,h,⟨rs,ds,f',ob',h1,h2,h3⟩=>⟨rs,ds,f',ob',h1,h2,h _ _ h3⟩
 | .seq a b,_,_,_,h,hh=>B3 (c:=a) (fun e S hq=>by
   cases e with
   | normal=>obtain ⟨S',hw,hq⟩:=hq; exact ⟨S',hw,B3 (c:=b) h hq⟩
   | exit id=>exact h _ _ hq
   | ret=>exact h _ _ hq) hh
 | .cond c a b,_,_,_,h,.inl ⟨t,h1,h2,h3⟩=>.inl ⟨t,h1,fun e=>B3 (c:=a) h (h2 e),fun e=>B3 (c:=b) h (h3 e)⟩
 | .cond c a b,_,_,_,h,.inr ⟨p,n,h1,h2,h3⟩=>.inr ⟨p,n,h1,fun e=>B3 (c:=a) h (h2 e),fun e=>B3 (c:=b) h (h3 e)⟩
 | .block id a,R,R',_,h,hh=>B3 (c:=a) (fun e S hq=>by
   cases e with
   | normal=>exact h _ _ hq
   | exit i=>simp only [D5] at hq ⊢; split <;> simp_all
   | ret=>exact h _ _ hq) hh
 | .loop a,_,_,_,h,⟨α,I,μ,h1,h2⟩=>⟨α,I,μ,h1,fun s S1 hs=>B3 (c:=a) (fun e S hq=>by
   cases e with
   | normal=>exact hq
   | exit id=>exact h _ _ hq
   | ret=>exact h _ _ hq) (h2 s S1 hs)⟩
 | .exit _,_,_,_,h,hh=>h _ _ hh
 | .ret,_,_,_,h,hh=>h _ _ hh
section
variable {P:Program} {G:World->Prop} {w0 w w':World} {N:Nat}
theorem Ud {c:Code} {Q:Exit->Act->World->Prop} {a:Act} {w:World} {α:Type} (I:α->Act->World->Prop) (μ:α->Nat) (s0:α) (h₀:I s0 a w)
  (round:∀ s a w,I s a w->c.wp P (Exit.then (fun a' w'=>∃ s',I s' a' w'∧μ s'<μ s) Q) a w):(Code.loop c).wp P Q a w:=by
 intro b k cs
 have key:∀ n s a w,μ s=n->I s a w ->
   ∃ e a' w',Q e a' w'∧Arrives P (lone (b.at a (.code c :: .inLoop c :: k)) cs w) b k cs e a' w':=by
  intro n
  induction n using Nat.strongRecOn with
  | _ n ih =>
   intro s a w hn hI;obtain ⟨e,a₁,w₁,hq,harr⟩:=round s a w hI b (.inLoop c :: k) cs;cases e with
   | normal =>
    obtain ⟨s',hI₁,hlt⟩:=hq;obtain ⟨e₂,a₂,w₂,hq₂,harr₂⟩:=ih (μ s') (hn▸hlt) s' a₁ w₁ rfl hI₁;exact ⟨e₂,a₂,w₂,hq₂,.of_steps (Steps.trans harr (.one step_inLoop)) harr₂⟩
   | exit id=>exact ⟨_,a₁,w₁,hq,.pass (x:=.inLoop c) rfl (fun _ _=>.inl (by simp)) harr⟩
   | goto l=>exact ⟨_,a₁,w₁,hq,.pass (x:=.inLoop c) rfl (fun _ _=>.inl (by simp)) harr⟩
   | ret=>exact ⟨_,a₁,w₁,hq,.pass (x:=.inLoop c) rfl (fun _ _=>.inl (by simp)) harr⟩
   | panic ch=>exact ⟨_,a₁,w₁,hq,.pass (x:=.inLoop c) rfl (fun _ _=>.inl (by simp)) harr⟩
   | outgrown=>exact ⟨_,a₁,w₁,hq,.pass (x:=.inLoop c) rfl (fun _ _=>.inl (by simp)) harr⟩
 obtain ⟨e,a',w',hq,harr⟩:=key _ s0 a w rfl h₀;exact ⟨e,a',w',hq,.of_steps (.one step_loop) harr⟩
theorem So {c rest:Code} {Q:Exit->Act->World->Prop} {a:Act} {w:World} (l:Nat) (J:Nat->Act->World->Prop) (hf:findLabel c l=some rest)
  (first:c.wp P (Exit.jump l (fun a w=>∃ n,J n a w) Q) a w)
  (pass:∀ n a w,J n a w->rest.wp P (Exit.jump l (fun a' w'=>∃ m,m<n∧J m a' w') Q) a w):(Code.scope c).wp P Q a w:=by
 intro b k cs;have hg:gotoIn l (.inScope c :: k)=some (.code rest :: .inScope c :: k):=by simp [gotoIn,hf]
 have key:∀ n a w,J n a w->∃ e a' w',Q e a' w'∧Arrives P (lone (b.at a (.code rest :: .inScope c :: k)) cs w) b k cs e a' w':=by
  intro n
  induction n using Nat.strongRecOn with
  | _ n ih =>
   intro a w hJ;obtain ⟨e,a₁,w₁,hq,harr⟩:=pass n a w hJ b (.inScope c :: k) cs;cases e with
   | normal=>exact ⟨.normal,a₁,w₁,hq,Steps.trans harr (.one step_inScope)⟩
   | exit id=>exact ⟨.exit id,a₁,w₁,hq,fun k' hk=>harr k' (by simp [exitTo,hk])⟩
   | goto l' =>
    obtain ⟨rfl,m,hlt,hJ'⟩:=hq;obtain ⟨e₂,a₂,w₂,hq₂,harr₂⟩:=ih m hlt a₁ w₁ hJ';exact ⟨e₂,a₂,w₂,hq₂,.of_steps (harr _ hg) harr₂⟩
   | ret=>exact ⟨_,a₁,w₁,hq,harr⟩
   | panic ch=>exact ⟨_,a₁,w₁,hq,harr⟩
   | outgrown=>exact ⟨_,a₁,w₁,hq,harr⟩
 obtain ⟨e,a₁,w₁,hq,harr⟩:=first b (.inScope c :: k) cs
 cases e with
 | normal=>exact ⟨.normal,a₁,w₁,hq,.head step_scope (Steps.trans harr (.one step_inScope))⟩
 | exit id=>exact ⟨.exit id,a₁,w₁,hq,fun k' hk=>.head step_scope (harr k' (by simp [exitTo,hk]))⟩
 | goto l' =>
  obtain ⟨rfl,n,hJ'⟩:=hq;obtain ⟨e₂,a₂,w₂,hq₂,harr₂⟩:=key n a₁ w₁ hJ';exact ⟨e₂,a₂,w₂,hq₂,.of_steps (.head step_scope (harr _ hg)) harr₂⟩
 | ret=>exact ⟨_,a₁,w₁,hq,.of_steps (.one step_scope) harr⟩
 | panic ch=>exact ⟨_,a₁,w₁,hq,.of_steps (.one step_scope) harr⟩
 | outgrown=>exact ⟨_,a₁,w₁,hq,.of_steps (.one step_scope) harr⟩
def okE (p:Nat->Bool):AE->Prop
 | .exit i=>p i=true
 | _=>True
theorem C1 {p:Nat->Bool}:∀ {c:AC} {R:AE->St->Prop} {S:St},c.exB p=true->awp P G c R S->awp P G c (fun e S=>okE p e∧R e S) S
 | .skip,_,_,_,h=>⟨trivial,h⟩
 | .region _ false _,_,_,_,⟨rs,f',ob',h1,h3⟩=>⟨rs,f',ob',h1,trivial,h3⟩
 | .region _ true _,_,_,_,⟨rs,ds,f',ob',h1,h2,h3⟩=>⟨rs,ds,f',ob',h1,h2,trivial,h3⟩
 | .seq a b,_,_,hp,h=>by
  rw [AC.exB,Bool.and_eq_true] at hp;refine B3 (c:=a) (fun e S hq=>?_) (C1 (c:=a) hp.1 h);cases e with
  | normal=>obtain ⟨_,S',hw,hq⟩:=hq; exact ⟨S',hw,C1 (c:=b) hp.2 hq⟩
  | exit id=>exact hq
  | ret=>exact hq
 | .cond c a b,_,_,hp,.inl ⟨t,h1,h2,h3⟩=>by
  rw [AC.exB,Bool.and_eq_true] at hp;exact .inl ⟨t,h1,fun e=>C1 (c:=a) hp.1 (h2 e),fun e=>C1 (c:=b) hp.2 (h3 e)⟩
 | .cond c a b,_,_,hp,.inr ⟨q,n,h1,h2,h3⟩=>by
  rw [AC.exB,Bool.and_eq_true] at hp;exact .inr ⟨q,n,h1,fun e=>C1 (c:=a) hp.1 (h2 e),fun e=>C1 (c:=b) hp.2 (h3 e)⟩
 | .block id a,_,_,hp,h=>by
  refine B3 (c:=a) (fun e S hq=>?_) (C1 (c:=a) hp h);cases e with
  | normal=>exact hq
  | exit i =>
   obtain ⟨h1,h2⟩:=hq;simp only [D5] at h2 ⊢;split
   ·rename_i e; rw [if_pos e] at h2; exact ⟨trivial,h2⟩
   ·rename_i e; rw [if_neg e] at h2; exact ⟨h1,h2⟩
  | ret=>exact hq
 | .loop a,_,_,hp,⟨α,I,μ,h1,h2⟩=>⟨α,I,μ,h1,fun s S1 hs=>B3 (c:=a) (fun e S hq=>by
   cases e with
   | normal=>exact hq.2
   | exit id=>exact hq
   | ret=>exact hq) (C1 (c:=a) hp (h2 s S1 hs))⟩
 | .exit _,_,_,hp,h=>⟨hp,h⟩
 | .ret,_,_,_,h=>⟨trivial,h⟩
theorem X3 {f:Nat->AV} {ob:Oid->Option Ob} {i:Oid} {q:Q} {r:Rec} (h:ev f ob i q=some r):r.1=0∨(r.1=1∧1<=q.pot)∨(r.1=2∧q.pot=2):=by
 unfold ev at h;split at h
 ·rename_i q;split at h
  ·rename_i v us he;obtain rfl:=osj h;cases us with
   | nil=>exact .inl rfl
   | cons u us =>
    refine .inr (.inl ⟨rfl,?_⟩)
    cases q <;> simp only [evN] at he <;> first
     | exact Nat.le_refl _
     | (exfalso; (repeat' split at he) <;> simp_all; done)
  ·split at h
   ·rename_i v he;obtain rfl:=osj h;refine .inr (.inl ⟨rfl,?_⟩);cases q <;> first | exact Nat.le_refl _ | cases he
   ·cases h
 ·skip
  split at h
  ·obtain rfl:=osj h; exact .inr (.inr ⟨rfl,rfl⟩)
  ·cases h
 ·skip
  split at h
  ·obtain rfl:=osj h; exact .inr (.inl ⟨rfl,Nat.le_refl _⟩)
  ·cases h
 ·skip
  split at h
  ·obtain rfl:=osj h; exact .inr (.inl ⟨rfl,Nat.le_refl _⟩)
  ·cases h
 ·skip
  split at h
  ·obtain rfl:=osj h;dsimp only;split
   ·exact .inr (.inl ⟨rfl,by simp [Q.pot]⟩)
   ·exact .inr (.inr ⟨rfl,rfl⟩)
  ·cases h
 ·split at h
  ·obtain rfl:=osj h; exact .inl rfl
  ·split at h
   ·rename_i v us he;obtain rfl:=osj h;refine .inr (.inr ⟨rfl,?_⟩)
    have key:∀ (sz:Nat) (x:Opd) (lo hi mx:Option Opd),mx.isSome=true->Q.pot (.slice sz x lo hi mx)=2:=fun sz x lo hi mx h=>by
     cases mx with
     | none=>cases h
     | some z=>rfl
    unfold Ea at he;split at he
    ·split at he
     ·split at he
      ·rename_i hc;obtain ⟨_,_,_,_,c4⟩:=hc;exact key _ _ _ _ _ c4
      ·cases he
     ·cases he
    ·cases he
   ·cases h
 ·split at h
  ·obtain rfl:=osj h; exact .inl rfl
  ·cases h
 ·cases h
 ·split at h
  ·obtain rfl:=osj h; exact .inl rfl
  ·cases h
 ·split at h
  ·obtain rfl:=osj h; exact .inl rfl
  ·cases h
 ·split at h
  ·split at h
   ·split at h
    ·obtain rfl:=osj h; exact .inr (.inr ⟨rfl,rfl⟩)
    ·cases h
   ·cases h
  ·cases h
 ·split at h
  ·obtain rfl:=osj h; exact .inr (.inl ⟨rfl,Nat.le_refl _⟩)
  ·cases h
 ·unfold Gb at h
  (repeat' split at h) <;> first | (cases h; done) | (obtain rfl:=osj h; exact .inr (.inl ⟨rfl,by simp [Q.pot]⟩)) | (obtain rfl:=osj h; exact .inr (.inr ⟨rfl,rfl⟩))
 ·obtain rfl:=osj h; exact .inr (.inl ⟨rfl,Nat.le_refl _⟩)
 ·obtain rfl:=osj h; exact .inr (.inl ⟨rfl,Nat.le_refl _⟩)
 ·exact .inr (.inr ⟨Nf (r:=r.2) h,rfl⟩)
 ·exact .inr (.inr ⟨M5 (r:=r.2) h,rfl⟩)
 ·split at h
  ·obtain rfl:=osj h; exact .inr (.inl ⟨rfl,Nat.le_refl _⟩)
  ·cases h
 ·split at h
  ·obtain rfl:=osj h; exact .inr (.inr ⟨rfl,rfl⟩)
  ·cases h
theorem T7 {p:Bool} {n:Nat} {x:X} {f:Nat->AV} {ob:Oid->Option Ob} {r:Rec} (h:Ds P G p n x f ob r):r.1=0∨(r.1=1∧1<=x.q.pot)∨(r.1=2∧x.q.pot=2):=by
 have key:∀ {i:Oid},EvR P G p f ob i x.q r->r.1=0∨(r.1=1∧1<=x.q.pot)∨(r.1=2∧x.q.pot=2):=by
  rintro i (((h | h) | ⟨_,_,_,_,_,_,_,_,_,_,hq,_,_,_,_,hr⟩) | ⟨_,_,_,_,_,hq,_,⟨hk,_⟩ | ⟨_,hk,_⟩⟩)
  ·exact X3 h
  ·unfold evL at h;split at h
   ·rename_i hq;split at h
    ·obtain rfl:=osj h;rw [hq]; exact .inr (.inl ⟨rfl,by simp [Q.pot]⟩)
    ·cases h
   ·cases h
  ·subst hr; rw [hq]; exact .inr (.inl ⟨rfl,by simp [Q.pot]⟩)
  ·rw [hq]; exact .inr (.inl ⟨hk,by simp [Q.pot]⟩)
  ·rw [hq]; exact .inr (.inr ⟨hk,rfl⟩)
 unfold Ds at h;split at h
 ·exact key h
 ·obtain ⟨c,_,h⟩:=h;split at h
  ·exact key h
  ·subst h; exact .inl rfl
theorem Wm {ops:Array Oper} {xs:List X} {rs:List Rec} {ds:List (List Oid)} {ps:List Nat} {bad:List (Nat×Nat)} (h:U9 ops ps=some bad) (hb:Sz rs ds bad) (hx:X.ofL P N ops ops.toList=some xs) (hr:xs.length=rs.length) (hd:xs.length=ds.length)
  (hk:∀ j,(rs.getD j (0,.any,[])).1=0∨((rs.getD j (0,.any,[])).1=1∧1<=ps.getD j 0)∨((rs.getD j (0,.any,[])).1=2∧ps.getD j 0=2)):Drawn ops xs rs ds:=by
 unfold U9 at h;split at h
 ·rename_i hc;obtain rfl:=osj h;simp only [Bool.and_eq_true,beq_iff_eq] at hc;obtain ⟨c1,c2,c3,c4⟩:=hc;refine Drawn.of hx hr hd c2 c3 (fun i j hi hj=>?_);rw [List.all_eq_true] at c4;have c5:=c4 i (by simpa using hi);rw [List.all_eq_true] at c5;have c6:=c5 j (by simpa using hj);rw [Bool.or_eq_true] at c6;by_cases hbit:((Ka (ops.toList.map Dn) []).getD i 0).testBit j=true
  ·exact .inl hbit
  ·refine .inr ⟨c6.resolve_left hbit,?_⟩;cases hq:Xy (ps.getD j 0) (ps.getD i 0) with
   | true=>exact Q1 hb (j,i) (List.mem_flatMap.2 ⟨i,by simpa using hi,List.mem_map.2 ⟨j,List.mem_filter.2 ⟨by simpa using hj,by rw [Bool.and_eq_true]; exact ⟨by simpa using hbit,hq⟩⟩,rfl⟩⟩)
   | false =>
    refine .inl ?_;have h1:=hk j;have h2:=hk i;simp only [Xy,Bool.or_eq_false_iff,Bool.and_eq_false_iff,beq_eq_false_iff_ne,bne_eq_false_iff_eq] at hq;omega
 ·cases h
theorem Qr {K:Act->World->Prop} {Q:Exit->Act->World->Prop} {id:Nat} {a:Act} {w:World} (h:Q (AE.out (.exit id)) a w):Exit.then K Q (AE.out (.exit id)) a w:=by
 simp only [AE.out] at h ⊢;split
 ·rename_i e; rw [if_pos e] at h; exact h
 ·rename_i e; rw [if_neg e] at h; exact h
def QR (G:World->Prop) (w0:World) (B:Ks) (N:Nat) (R:AE->St->Prop):Exit->Act->World->Prop:=fun e a w=>∃ e' S',e=AE.out e'∧R e' S'∧Is G w0 B N S' a w
def Pv (P:Program) (G:World->Prop) (w0:World) (B:Ks) (N:Nat) (b:AC) (l:Nat) (R:AE->St->Prop) (n:Nat) (a:Act) (w:World):Prop :=
 ∃ (α:Type) (I:α->St->Prop) (μ:α->Nat) (s:α) (S1:St),μ s=n∧I s S1∧Is G w0 B N S1 a w ∧
  ∀ s S1,I s S1->awp P G (.block (Bw l) (.seq b (.exit (Bw l+1)))) (E3 (fun S2=>∃ s' S3,WeakG G S2 S3∧I s' S3∧μ s'<μ s) (D5 (Bw l+1) R)) S1
theorem Pf {B:Ks} {b:Code} {b':AC} {l:Nat} {R:AE->St->Prop} (hex:b'.exB (fun i=>decide (i<1000000)||i==Bw l)=true)
  (hb:∀ R S a w,awp P G b' R S->Is G w0 B N S a w->b.wp P (QR G w0 B N R) a w) (n:Nat) (a:Act) (w:World) (hJ:Pv P G w0 B N b' l R n a w) :
  b.wp P (Exit.jump l (fun a' w'=>∃ m,m<n∧Pv P G w0 B N b' l R m a' w') (QR G w0 B N R)) a w:=by
 obtain ⟨α,I,μ,s,S1,hn,hI,hr,hround⟩:=hJ;have h0:=hround s S1 hI;simp only [awp] at h0;have h1:=C1 hex h0;refine Code.wp_mono (fun e a' w' hq=>?_) (hb _ S1 a w h1 hr);obtain ⟨e',S',rfl,⟨ho,hq⟩,hr'⟩:=hq;cases e' with
 | normal =>
  obtain ⟨S'',hw,hq⟩:=hq;have hq:R .normal S'':=by simpa [D5,E3] using hq
  exact ⟨.normal,S'',rfl,hq,hw _ _ _ _ _ hr'⟩
 | exit i =>
  have ho:i<1000000∨i=Bw l:=by simpa [okE] using ho
  by_cases hi:i=Bw l
  ·subst hi;have hq:∃ s' S3,WeakG G S' S3∧I s' S3∧μ s'<μ s:=by simpa [D5,E3] using hq
   obtain ⟨s',S3,g1,g2,g3⟩:=hq
   have ho:AE.out (.exit (Bw l))=.goto l:=by
    have h1:¬ Bw l<1000000:=by unfold Bw; omega
    have h2:(Bw l - 1000000) / 2=l:=by unfold Bw; omega
    simp only [AE.out,if_neg h1,h2]
   rw [ho];exact ⟨rfl,μ s',hn▸g3,α,I,μ,s',S3,rfl,g2,g1 _ _ _ _ _ hr',hround⟩
  ·have hlt:i<1000000:=by omega
   have h2:¬ i=Bw l+1:=by unfold Bw; omega
   have hq:R (.exit i) S':=by simpa [D5,E3,hi,h2] using hq
   have ho:AE.out (.exit i)=.exit i:=by simp only [AE.out,if_pos hlt]
   rw [ho];exact ⟨.exit i,S',ho.symm,hq,hr'⟩
 | ret=>exact ⟨.ret,S',rfl,hq,hr'⟩
theorem C9 [IsP P] {B:Ks} (hfol:P.follows .mixedOrders=true):∀ (c:Code),(∀ (ac:AC) (R:AE->St->Prop) (S:St) (a:Act) (w:World),AC.ofB P N false c=some ac->awp P G ac R S->Is G w0 B N S a w->c.wp P (QR G w0 B N R) a w) ∧
  ∀ (l:Nat) (ac:AC),AC.ofB P N true c=some ac->Mk c=some l->∃ b b',findLabel c l=some (.seq .skip b)∧b'.exB (fun i=>decide (i<1000000)||i==Bw l)=true ∧
   (∀ R S a w,awp P G b' R S->Is G w0 B N S a w->b.wp P (QR G w0 B N R) a w) ∧
   ∀ R S a w,awp P G ac R S->Is G w0 B N S a w->c.wp P (Exit.jump l (fun a w=>∃ n,Pv P G w0 B N b' l R n a w) (QR G w0 B N R)) a w
 | .skip=>⟨fun ac R S a w hc h hr=>by
   obtain rfl:=osj hc;exact wp_skip ⟨.normal,S,rfl,h,hr⟩,fun _ _ hc=>(by cases hc)⟩
 | .region id ops draw=>by
  refine ⟨fun ac R S a w hc h hr=>?_,fun _ _ hc=>(by cases hc)⟩;simp only [AC.ofB] at hc;split at hc
  ·rename_i xs hx;have hlen:=(L5 hx).1;split at hc
   ·rename_i hd;subst hd;split at hc
    ·rename_i bad hbad;obtain rfl:=osj hc;obtain ⟨rs,ds,f',ob',h1,h2,h3⟩:=h;have hsp:=Kb xs 0 S.tm S.ob rs ds f' ob' h1
     have hB:Drawn ops xs rs ds:=Wm hbad h2 hx hsp.1 hsp.2.1 (fun j=>by
      rcases Nat.lt_or_ge j rs.length with hj | hj
      ·have hxj:xs[j]? =some (xs[j]'(by have:=hsp.1; omega)):=gEg _;have hrj:rs[j]? =some rs[j]:=gEg _;obtain ⟨_,_,hst⟩:=hsp.2.2.2.2 j _ _ hxj hrj;have:=T7 hst
       simpa [gDg,hxj,hrj] using this
      ·exact .inl (by simp [gDg,List.getElem?_eq_none hj]))
     refine wp_region_any hfol ?_
     have hend:∀ a' w',(∃ σ,Mem0 G w0 ob' σ (fun m=>m<S.gen+ops.size) w'∧TmB B σ (imm ob' σ) w' f' a')->a'.tmps.size=N->a'.defers=[]->Is G w0 B N ⟨f',ob',S.gen+xs.length⟩ a' w':=by
      intro a' w' hm hN hd;refine ⟨?_,hN,hd,?_⟩
      ·have:xs.length=ops.size:=by rw [← hlen]; simp
       rw [this]; exact hm
      ·intro i hi
       have:=Mm xs 0 S.tm S.ob rs ds f' ob' h1 (fun i hi=>by have:=hr.obg i hi; omega) xs.length i (by
        rw [hsp.2.2.2.1] at hi;intro he;apply hi;rw [← he];refine Gf 0 rs S.ob S.ob rfl (fun j r hj hne=>?_);exfalso; apply hne;have:=(gSi.1 hj).1;have:=hsp.1;simp; omega)
       simpa using this
     refine W9 (N:=N) (w0:=w0) hx h1 hB hr.obg (fun a' w' hm hN hd=>⟨.normal,⟨f',ob',S.gen+xs.length⟩,rfl,h3,hend a' w' hm hN hd⟩) ops.size _ a _ (by simp) (by simp) ?_ ?_ hr.size hr.defers
     ·intro k o _ hk;simp [Bn,Array.getD_eq_getD_getElem?] at hk;exfalso;rcases Nat.lt_or_ge k ops.size with h | h
      ·simp [h] at hk
      ·simp [Nat.not_lt.2 h] at hk
     ·obtain ⟨σ,q1,q2⟩:=hr.ex
      have hnone:∀ i,Bn (Array.replicate ops.size false) i=false:=by
       intro i;simp only [Bn,Array.getD_eq_getD_getElem?];rcases Nat.lt_or_ge i ops.size with h | h
       ·simp [h]
       ·simp [Nat.not_lt.2 h]
      rw [Hn 0 rs S.ob (fun i _=>hnone i),Kx 0 xs rs S.tm (fun i _=>hnone i)];have hb:Below w.heap.size w { w with drawn:=w.drawn+1 }:=⟨rfl,rfl,rfl,Nat.le_refl _,fun _ _=>rfl⟩
      exact ⟨σ,q1.grow hb (fun n hn=>.inl hn),q2.later (Later.below hb)⟩
    ·cases hc
   ·rename_i hd;have hd':draw=false:=by simpa using hd
    subst hd';obtain rfl:=osj hc;obtain ⟨rs,f',ob',h1,h3⟩:=h;refine wp_region_list (Tx (N:=N) (w0:=w0) (S0:=S) ops.toList xs 0 S.tm S.ob rs f' ob' a w hx h1 (by simpa using hr.ex) hr.size hr.defers (by simpa using hr.obg) (fun a' w' hq=>⟨.normal,_,rfl,h3,?_⟩));rw [Nat.add_zero,hlen] at hq;exact hq
  ·cases hc
 | .seq x y=>by
  have ihx:=C9 (B:=B) hfol x;have ihy:=C9 (B:=B) hfol y;refine ⟨fun ac R S a w hc h hr=>?_,fun l ac hc hl=>?_⟩
  ·simp only [AC.ofB] at hc;cases hx:Jn x with
   | some l=>rw [hx] at hc; simp at hc
   | none =>
    rw [hx] at hc;dsimp only at hc;split at hc
    ·rename_i x' y' h1 h2;simp only [Bool.not_false,Bool.true_or,if_true] at hc;obtain rfl:=osj hc;refine wp_seq (Code.wp_mono (fun e a' w' hq=>?_) (ihx.1 x' _ S a w h1 h hr));obtain ⟨e',S',rfl,hq,hr'⟩:=hq;cases e' with
     | normal =>
      obtain ⟨S'',hw,hq⟩:=hq;exact ihy.1 y' R S'' a' w' h2 hq (hw w0 B N a' w' hr')
     | exit id=>exact Qr ⟨.exit id,S',rfl,hq,hr'⟩
     | ret=>exact ⟨.ret,S',rfl,hq,hr'⟩
    ·cases hc
  ·simp only [AC.ofB] at hc;cases hx:Jn x with
   | some l' =>
    simp only [Mk,hx] at hl;obtain rfl:=osj hl
    obtain rfl:x=.label l':=by
     cases x <;> simp [Jn] at hx;rw [hx]
    rw [hx] at hc;dsimp only at hc;split at hc
    ·rename_i b' _ h1;split at hc
     ·rename_i hex;obtain rfl:=osj hc;have hy:∀ R S a w,awp P G b' R S->Is G w0 B N S a w->y.wp P (QR G w0 B N R) a w:=fun R S a w=>ihy.1 b' R S a w h1
      refine ⟨y,b',by simp [findLabel],hex,hy,fun R S a w h hr=>?_⟩;obtain ⟨α,I,μ,⟨s0,S0,hw,hI⟩,hround⟩:=h;refine wp_seq (wp_label ?_);refine Code.wp_mono (fun e a' w' hq=>?_) (Pf hex hy (μ s0) a w ⟨α,I,μ,s0,S0,rfl,hI,hw _ _ _ _ _ hr,hround⟩);cases e with
      | goto l2=>exact ⟨hq.1,hq.2.imp fun _ h=>h.2⟩
      | _=>exact hq
     ·cases hc
    ·cases hc
   | none =>
    rw [hx] at hc;dsimp only at hc;simp only [Mk,hx] at hl;split at hl
    ·rename_i l' hs;split at hl
     ·rename_i hfn;obtain rfl:=osj hl;split at hc
      ·rename_i x' y' h1 h2;split at hc
       ·rename_i hex;obtain rfl:=osj hc;simp only [Bool.not_true,Bool.false_or] at hex;obtain ⟨b,b',f1,f2,f3,f4⟩:=ihy.2 l' y' h2 hs;refine ⟨b,b',by rw [findLabel,Option.isNone_iff_eq_none.1 hfn]; exact f1,f2,f3,fun R S a w h hr=>?_⟩;refine wp_seq (Code.wp_mono (fun e a' w' hq=>?_) (ihx.1 x' _ S a w h1 (C1 hex h) hr));obtain ⟨e',S',rfl,⟨ho,hq⟩,hr'⟩:=hq;cases e' with
        | normal =>
         obtain ⟨S'',hw,hq⟩:=hq;exact f4 R S'' a' w' hq (hw w0 B N a' w' hr')
        | exit id =>
         have hlt:id<1000000:=by simpa [okE] using ho
         have ho:AE.out (.exit id)=.exit id:=by simp only [AE.out,if_pos hlt]
         rw [ho];exact ⟨.exit id,S',ho.symm,hq,hr'⟩
        | ret=>exact ⟨.ret,S',rfl,hq,hr'⟩
       ·cases hc
      ·cases hc
     ·cases hl
    ·cases hl
 | .cond c x y=>by
  have ihx:=C9 (B:=B) hfol x;have ihy:=C9 (B:=B) hfol y;refine ⟨fun ac R S a w hc h hr=>?_,fun _ _ hc=>(by cases hc)⟩;simp only [AC.ofB] at hc;split at hc
  ·rename_i c' x' y' h0 h1 h2;obtain rfl:=osj hc;obtain ⟨σ,m1,m2⟩:=hr.ex;have hv:=m2.opd h0;rcases h with ⟨t,ht,q1,q2⟩ | ⟨pos,n,ht,q1,q2⟩
   rotate_left
   ·rw [ht] at hv;obtain ⟨t,hv,hn⟩:=hv;refine wp_cond (t:=t) hv ?_;cases t with
    | true=>exact ihx.1 x' R S a w h1 (q1 fun e=>hn e.symm) hr
    | false=>exact ihy.1 y' R S a w h2 (q2 fun e=>hn e.symm) hr
   rw [ht] at hv;refine wp_cond (t:=t) hv ?_;cases t with
   | true=>exact ihx.1 x' R S a w h1 (q1 rfl) hr
   | false=>exact ihy.1 y' R S a w h2 (q2 rfl) hr
  ·cases hc
 | .block id x=>by
  have ihx:=C9 (B:=B) hfol x;refine ⟨fun ac R S a w hc h hr=>?_,fun _ _ hc=>(by cases hc)⟩;simp only [AC.ofB] at hc;split at hc
  ·rename_i hid;obtain ⟨x',h1,rfl⟩:=oms.1 hc;refine wp_block (Code.wp_mono (fun e a' w' hq=>?_) (ihx.1 x' _ S a w h1 h hr));obtain ⟨e',S',rfl,hq,hr'⟩:=hq;cases e' with
   | normal=>exact ⟨.normal,S',rfl,hq,hr'⟩
   | exit i =>
    simp only [D5] at hq;by_cases hi:i<1000000
    ·have ho:AE.out (.exit i)=.exit i:=by simp only [AE.out,if_pos hi]
     rw [ho];simp only [Exit.inBlock];split
     ·rename_i e; rw [if_pos e] at hq; exact ⟨.normal,S',rfl,hq,hr'⟩
     ·rename_i e; rw [if_neg e] at hq; exact ⟨.exit i,S',ho.symm,hq,hr'⟩
    ·rw [if_neg (by omega)] at hq;have ho:AE.out (.exit i)=.goto ((i - 1000000) / 2):=by simp only [AE.out,if_neg hi]
     rw [ho];exact ⟨.exit i,S',ho.symm,hq,hr'⟩
   | ret=>exact ⟨.ret,S',rfl,hq,hr'⟩
  ·cases hc
 | .loop x=>by
  have ihx:=C9 (B:=B) hfol x;refine ⟨fun ac R S a w hc h hr=>?_,fun _ _ hc=>(by cases hc)⟩;simp only [AC.ofB] at hc;obtain ⟨x',h1,rfl⟩:=oms.1 hc;obtain ⟨α,I,μ,⟨s0,S0,hw,hI⟩,hround⟩:=h;refine Ud (fun s a w=>∃ S1,I s S1∧Is G w0 B N S1 a w) μ s0 ⟨S0,hI,hw w0 B N a w hr⟩ (fun s a1 w1 ⟨S1,hI1,hr1⟩=>?_);refine Code.wp_mono (fun e a' w' hq=>?_) (ihx.1 x' _ S1 a1 w1 h1 (hround s S1 hI1) hr1);obtain ⟨e',S',rfl,hq,hr'⟩:=hq;cases e' with
  | normal =>
   obtain ⟨s',S3,g1,g2,g3⟩:=hq;exact ⟨s',⟨S3,g2,g1 w0 B N a' w' hr'⟩,g3⟩
  | exit i=>exact Qr ⟨.exit i,S',rfl,hq,hr'⟩
  | ret=>exact ⟨.ret,S',rfl,hq,hr'⟩
 | .exit id=>by
  refine ⟨fun ac R S a w hc h hr=>?_,fun _ _ hc=>(by cases hc)⟩;simp only [AC.ofB] at hc;split at hc
  ·rename_i hlt;obtain rfl:=osj hc;exact wp_exit ⟨.exit id,S,by simp only [AE.out,if_pos hlt],h,hr⟩
  ·cases hc
 | .ret=>⟨fun ac R S a w hc h hr=>by
   obtain rfl:=osj hc;exact wp_ret ⟨.ret,S,rfl,h,hr⟩,fun _ _ hc=>(by cases hc)⟩
 | .scope c=>by
  have ih:=C9 (B:=B) hfol c;refine ⟨fun ac R S a w hc h hr=>?_,fun _ _ hc=>(by cases hc)⟩;simp only [AC.ofB] at hc;split at hc
  ·rename_i l hl;obtain ⟨b,b',f1,f2,f3,f4⟩:=ih.2 l ac hc hl;exact So l (Pv P G w0 B N b' l R) f1 (f4 R S a w h hr) (fun n a w hJ=>wp_seq (wp_skip (Pf f2 f3 n a w hJ)))
  ·cases hc
 | .goto l=>by
  refine ⟨fun ac R S a w hc h hr=>?_,fun _ _ hc=>(by cases hc)⟩;obtain rfl:=osj hc;have h1:¬ Bw l<1000000:=by unfold Bw; omega
  have h2:(Bw l - 1000000) / 2=l:=by unfold Bw; omega
  exact wp_goto ⟨.exit (Bw l),S,by simp only [AE.out,if_neg h1,h2],h,hr⟩
 | .rangeFunc _ _ _ _=>⟨fun _ _ _ _ _ hc=>(by cases hc),fun _ _ hc=>(by cases hc)⟩
 | .label _=>⟨fun _ _ _ _ _ hc=>(by cases hc),fun _ _ hc=>(by cases hc)⟩
 | .refuse _=>⟨fun _ _ _ _ _ hc=>(by cases hc),fun _ _ hc=>(by cases hc)⟩
theorem Uh [IsP P] {B:Ks} (hfol:P.follows .mixedOrders=true) (c:Code) (ac:AC) (R:AE->St->Prop) (S:St) (a:Act) (w:World) (hc:AC.of P N c=some ac) (h:awp P G ac R S) (hr:Is G w0 B N S a w) :
  c.wp P (fun e a w=>∃ e' S',e=AE.out e'∧R e' S'∧Is G w0 B N S' a w) a w:=(C9 hfol c).1 ac R S a w hc h hr
end
end Go.Proofs.YtgljmpiofhlkjaaDoor
namespace Go.Proofs.YtgljmpiofhlkjaaDoor
open Go.RowKit Go.Deep
inductive Res where
 | tmp (t:Nat)
 | cell (t:Nat) (one:Bool) (m:Nat)
def Res.of (P:Program):ResultVar->Option Res
 | .tmp t=>some (.tmp t)
 | .cell t ty=>(Fr P ty).map fun x=>.cell t x.1 x.2
def Res.ofL (P:Program):List ResultVar->Option (List Res)
 | []=>some []
 | r :: rs=>match Res.of P r,Res.ofL P rs with
  | some x,some xs=>some (x :: xs)
  | _,_=>none
def Res.ev (f:Nat->AV) (ob:Oid->Option Ob):Res->Option AV
 | .tmp t=>some (f t)
 | .cell t one m=>match f t with
  | .box i k=>match ob i with
   | some (.cells _ cs)=>Cc one m k cs
   | _=>none
  | .elt i j k=>match ob i with
   | some (.arr _ t xs)=>match xs[j]? with
    | some y=>Cc one m k (t.av y)
    | none=>none
   | _=>none
  | _=>none
def Res.evL (f:Nat->AV) (ob:Oid->Option Ob):List Res->Option (List AV)
 | []=>some []
 | r :: rs=>match r.ev f ob,Res.evL f ob rs with
  | some x,some xs=>some (x :: xs)
  | _,_=>none
def Il (ob:Oid->Option Ob):AV->Option RL
 | .int k n=>some (.sc (.int k n))
 | .bool b=>some (.sc (.bool b))
 | .str s=>some (.sc (.str s))
 | .nils=>some (.sc .nils)
 | .own i _ off len=>match ob i with
  | some (.arr e u xs)=>if off=0∧len<=xs.length then some (.new e u (xs.take len)) else none
  | _=>none
 | _=>none
def Yn (ob:Oid->Option Ob) (c:AV) (l:RL):Prop :=
 ∃ (i:Oid) (t:Ty) (len:Nat) (e e':TypeId) (u:Ty) (n:Nat) (cs:List AV) (xss:List (List u.D)),c=.own i t 0 len∧ob i=some (.vec e 1 n cs)∧len<=n∧l=.newM e e' u xss∧u.flat=true∧xss.length=len ∧
  ∀ (k:Nat) (xs:List u.D),xss[k]? =some xs->∃ (i':Oid) (t':Ty) (len':Nat) (ys:List u.D),cs[k]? =some (.own i' t' 0 len')∧ob i'=some (.arr e' u ys)∧len'<=ys.length∧xs=ys.take len'
def LeafR (vs:List Value) (ob:Oid->Option Ob) (c:AV) (l:RL):Prop :=
 (Il ob c=some l∨(∃ v t xs i k,c=.giv v t xs∧l=.arg i k∧Pg vs i k=some v)∨∃ e t,c=.nils∧l=.new e t []∧t.flat=true)∨(Yn ob c l∨∃ e e' u,c=.nils∧l=.newM e e' u []∧u.flat=true)
def LeavesR (vs:List Value) (ob:Oid->Option Ob):List AV->List RL->Prop
 | [],ls=>ls=[]
 | c :: cs,ls=>∃ l ls',ls=l :: ls'∧LeafR vs ob c l∧LeavesR vs ob cs ls'
def PartsR (vs:List Value) (ob:Oid->Option Ob):List AV->List (Bool×List RL)->Prop
 | [],ps=>ps=[]
 | .agg cs :: r,ps=>∃ ls ps',ps=(true,ls) :: ps'∧LeavesR vs ob cs ls∧PartsR vs ob r ps'
 | c :: r,ps=>∃ l ps',ps=(false,[l]) :: ps'∧LeafR vs ob c l∧PartsR vs ob r ps'
def Pj:List AV->List Oid
 | []=>[]
 | .own i _ _ _ :: r=>i :: Pj r
 | _ :: r=>Pj r
def Of (ob:Oid->Option Ob):List AV->List Oid
 | []=>[]
 | .own i _ _ len :: r=>(match ob i with
  | some (.vec _ _ _ cs)=>i :: Pj (cs.take len)
  | _=>[i])++Of ob r
 | _ :: r=>Of ob r
def Jj:List AV->List AV
 | []=>[]
 | .agg cs :: r=>cs++Jj r
 | c :: r=>c :: Jj r
def RetOK (vs:List Value) (rs:List Res) (S:St) (r:RV):Prop :=
 ∃ avs ps,Res.evL S.tm S.ob rs=some avs∧PartsR vs S.ob avs ps∧(Of S.ob (Jj avs)).Nodup∧r=⟨decide (rs.length≠1),ps⟩
def St.init (args:List AV):St:=⟨fun i=>args.getD i .any,fun _=>none,1⟩
def Ao:List (Nat×AV)->Nat->AV
 | [],_=>.any
 | (j,v) :: r,i=>if i=j then v else Ao r i
theorem R9 {ob:Oid->Option Ob} {c:AV} {l:RL} (h:Il ob c=some l):l.fi=false:=by
 unfold Il at h
 (repeat' split at h) <;> first | (cases h; done) | (obtain rfl:=osj h; rfl)
theorem Pc {vs:List Value} {ob:Oid->Option Ob} {c:AV} {l:RL} (h:LeafR vs ob c l):l.fi=false:=by
 rcases h with (h | ⟨_,_,_,_,_,_,rfl,_⟩ | ⟨_,_,_,rfl,_⟩) | ⟨_,_,_,_,_,_,_,_,_,_,_,_,rfl,_⟩ | ⟨_,_,_,_,rfl,_⟩
 ·exact R9 h
 ·rfl
 ·rfl
 ·rfl
 ·rfl
theorem Lg {vs:List Value} {ob:Oid->Option Ob}:∀ {cs:List AV} {ls:List RL},LeavesR vs ob cs ls->∀ d∈ls,d.fi=false
 | [],ls,h=>by
  obtain rfl:ls=[]:=h;simp
 | c :: cs,ls,h=>by
  obtain ⟨l,ls',rfl,h1,h2⟩:=h;intro d hm;rcases List.mem_cons.1 hm with rfl | hm
  ·exact Pc h1
  ·exact Lg h2 d hm
theorem F4 {vs:List Value} {ob:Oid->Option Ob} {c:AV} (hc:¬ ∃ cs,c=.agg cs) (r:List AV) (ps:List (Bool×List RL)):PartsR vs ob (c :: r) ps=∃ l ps',ps=(false,[l]) :: ps'∧LeafR vs ob c l∧PartsR vs ob r ps':=by
 cases c <;> first | rfl | exact absurd ⟨_,rfl⟩ hc
theorem Iy {vs:List Value} {ob:Oid->Option Ob}:∀ {cs:List AV} {ps:List (Bool×List RL)},PartsR vs ob cs ps->∀ d∈ps.flatMap (·.2),d.fi=false
 | [],ps,h,d=>by
  obtain rfl:ps=[]:=h;simp
 | c :: cs,ps,h,d=>by
  by_cases hagg:∃ ds,c=.agg ds
  ·obtain ⟨ds,rfl⟩:=hagg;obtain ⟨ls,qs,rfl,h1,h2⟩:=h;rw [List.flatMap_cons,List.mem_append];rintro (hm | hm)
   ·exact Lg h1 d hm
   ·exact Iy h2 d hm
  ·rw [F4 hagg] at h;obtain ⟨l,qs,rfl,h1,h2⟩:=h;rw [List.flatMap_cons,List.mem_append];rintro (hm | hm)
   ·rw [List.mem_singleton.1 hm]; exact Pc h1
   ·exact Iy h2 d hm
section
variable {P:Program} {G:World->Prop} {w0 w w':World} {ob:Oid->Option Ob} {σ:Oid->Option Loc} {K:Nat->Prop} {im:Nat->Prop}
theorem K5 (hM:Mem0 G w0 ob σ K w):∀ {idl:List (Option Oid×Loc)},(∀ x∈idl,(x.1=none->x.2=.nil)∧∀ i,x.1=some i->∃ o,ob i=some o∧σ i=some x.2)->(idl.filterMap (·.1)).Nodup->Nr (idl.map (·.2))
 | [],_,_=>trivial
 | x :: idl,h,nd=>by
  obtain ⟨q1,q2⟩:=h x (by simp);cases hx:x.1 with
  | none =>
   rw [List.filterMap_cons_none hx] at nd;refine ⟨fun b c s e=>?_,K5 hM (fun y hy=>h y (by simp [hy])) nd⟩;have e:x.2=.at_ b c s:=e;rw [q1 hx] at e; cases e
  | some i =>
   rw [List.filterMap_cons_some hx] at nd;obtain ⟨n1,n2⟩:=List.nodup_cons.1 nd;refine ⟨fun b c s e c' s' hin=>?_,K5 hM (fun y hy=>h y (by simp [hy])) n2⟩;obtain ⟨y,hy,ey⟩:=List.mem_map.1 hin;have e:x.2=.at_ b c s:=e;have ey:y.2=.at_ b c' s':=ey;obtain ⟨o,g1,g2⟩:=q2 i hx;obtain ⟨r1,r2⟩:=h y (by simp [hy]);cases hy1:y.1 with
   | none=>rw [r1 hy1] at ey; cases ey
   | some j =>
    obtain ⟨o',g3,g4⟩:=r2 j hy1;rw [e] at g2;rw [ey] at g4;have:=hM.inj i j b c s c' s' o o' g1 g3 g2 g4;subst this;exact n1 (List.mem_filterMap.2 ⟨y,hy,hy1⟩)
theorem Qd {i:Oid} {t:Ty} {len:Nat} {u:Value} {im':Nat->Prop} (h1:AV.Rep σ im' w (.own i t 0 len) u):∃ l,σ i=some l∧u=l.val len∧(l=.nil->len=0):=by
 rcases h1 with ⟨g1,_,g3,g4⟩ | ⟨b,cap,g1,_,g4⟩ | ⟨_,_,g,_⟩
 rotate_left
 rotate_left
 ·exact absurd rfl g
 ·exact ⟨.nil,g1,g4,fun _=>g3⟩
 ·exact ⟨.at_ b cap t.size,g1,by simpa [Loc.val] using g4,fun h=>by cases h⟩
theorem Na {vs0:List Value} (hM:Mem0 G w0 ob σ K w):∀ {cs:List AV} {ls:List RL} {us:List Value},LeavesR vs0 ob cs ls->AV.RepL σ (imm ob σ) w cs us ->
  ∃ idl:List (Option Oid×Loc),RL.RepL w0.heap.size im vs0 w ls us (idl.map (·.2))∧idl.filterMap (·.1)=Of ob cs∧∀ x∈idl,(x.1=none->x.2=.nil)∧∀ i,x.1=some i->∃ o,ob i=some o∧σ i=some x.2
 | [],ls,us,h,hr=>by
  obtain rfl:ls=[]:=h;exact ⟨[],⟨hr,rfl⟩,rfl,fun _ h=>by cases h⟩
 | c :: cs,ls,us,h,⟨u,us',e,h1,h2⟩=>by
  subst e;obtain ⟨l,ls',rfl,q0,q2⟩:=h;obtain ⟨idl,r1,r3,r2⟩:=Na hM q2 h2
  have sc:∀ {d:AV},d.scal=true->l=.sc d->AV.Rep (fun _=>none) im w d u->Of ob (c :: cs)=Of ob cs->∃ idl:List (Option Oid×Loc),RL.RepL w0.heap.size im vs0 w (l :: ls') (u :: us') (idl.map (·.2))∧idl.filterMap (·.1)=Of ob (c :: cs)∧∀ x∈idl,(x.1=none->x.2=.nil)∧∀ i,x.1=some i->∃ o,ob i=some o∧σ i=some x.2:=by
   intro d hd hl hr he;subst hl;exact ⟨idl,⟨u,us',rfl,hr,hd,r1⟩,by rw [he]; exact r3,r2⟩
  rcases q0 with (q1 | ⟨v,t,xs,i,k,rfl,rfl,hv⟩ | ⟨e,t,rfl,rfl,hfl⟩) | ⟨i,t,len,e,e',u0,n,cs0,xss,rfl,hj,hle,rfl,hfl,hxl,hrow⟩ | ⟨e,e',u0,rfl,rfl,hfl⟩
  ·unfold Il at q1;split at q1
   ·exact sc rfl (osj q1).symm h1 rfl
   ·exact sc rfl (osj q1).symm h1 rfl
   ·exact sc rfl (osj q1).symm h1 rfl
   ·exact sc rfl (osj q1).symm h1 rfl
   ·rename_i i u0 off len;split at q1
    ·rename_i e v xs hj;split at q1
     ·rename_i hc;obtain ⟨rfl,hle⟩:=hc;obtain rfl:=osj q1;have hlen:(xs.take len).length=len:=by rw [List.length_take]; omega
      obtain ⟨l,g1,g2,g3⟩:=Qd h1;obtain ⟨hfl,hown,hs⟩:=hM.obs i _ _ hj g1;have hown':=I9 hfl hown hle g3;refine ⟨(some i,l) :: idl,⟨l,idl.map (·.2),us',by rw [hlen,g2],rfl,hfl,by rw [hlen]; exact hown',hs,r1⟩,?_,fun x hx=>?_⟩
      ·rw [show ((some i,l) :: idl).filterMap (·.1)=i :: idl.filterMap (·.1) from rfl,r3];simp only [Of,hj,List.singleton_append]
      ·rcases List.mem_cons.1 hx with rfl | hx
       ·exact ⟨fun h=>(by cases h),fun i' e=>(by cases e; exact ⟨_,hj,g1⟩)⟩
       ·exact r2 x hx
     ·cases q1
    ·cases q1
   ·cases q1
  ·obtain ⟨rfl,_⟩:=h1;exact ⟨idl,⟨_,us',rfl,hv,r1⟩,r3,r2⟩
  ·obtain rfl:u=.slice none 0 0:=h1;refine ⟨(none,.nil) :: idl,⟨.nil,idl.map (·.2),us',rfl,rfl,hfl,Hk w w0.heap.size e t.size,fun _ _ _ h=>(nomatch h),r1⟩,by rw [show ((none,Loc.nil) :: idl).filterMap (·.1)=idl.filterMap (·.1) from rfl,r3]; rfl,fun x hx=>?_⟩;rcases List.mem_cons.1 hx with rfl | hx
   ·exact ⟨fun _=>rfl,fun _ e=>(by cases e)⟩
   ·exact r2 x hx
  ·obtain ⟨l,g1,g2,g3⟩:=Qd h1;obtain ⟨vs,hown,p2,p3,hs⟩:=hM.obs i _ _ hj g1;have hvn:vs.length=n:=by have:=hown.1; omega
   have hcn:cs0.length=n:=by rw [← p2.length]; exact hvn
   have hown':ownsV w w0.heap.size e 1 (l.val len) len (vs.take (len*1)):=hown.take hle (fun g cap e=>by
    cases l with
    | nil=>cases e
    | at_ b c s=>cases e; rfl) (fun e=>by
    cases l with
    | nil=>rfl
    | at_ b c s=>cases e)
   subst hxl
   have hkid:∀ k,k<xss.length->∃ x:Oid×Loc,∃ (t':Ty) (len':Nat) (ys:List u0.D),cs0[k]? =some (.own x.1 t' 0 len')∧ob x.1=some (.arr e' u0 ys)∧len'<=ys.length∧xss[k]? =some (ys.take len')∧σ x.1=some x.2∧vs[k]? =some (x.2.val len')∧(x.2=.nil->len'=0):=by
    intro k hk;obtain ⟨i',t',len',ys,a1,a2,a3,a4⟩:=hrow k _ (gEg hk);obtain ⟨v,hv,hr⟩:=p2.get a1;obtain ⟨l',b1,b2,b3⟩:=Qd hr;exact ⟨(i',l'),t',len',ys,a1,a2,a3,by rw [gEg hk,a4],b1,by rw [hv,b2],b3⟩
   have hkid':∃ g:Nat->Oid×Loc,∀ k,k<xss.length->∃ (t':Ty) (len':Nat) (ys:List u0.D),cs0[k]? =some (.own (g k).1 t' 0 len')∧ob (g k).1=some (.arr e' u0 ys)∧len'<=ys.length∧xss[k]? =some (ys.take len')∧σ (g k).1=some (g k).2∧vs[k]? =some ((g k).2.val len')∧((g k).2=.nil->len'=0):=by
    rcases Nat.eq_zero_or_pos xss.length with h0 | h0
    ·exact ⟨fun _=>(((0,0),0),.nil),fun k hk=>by omega⟩
    ·have:Inhabited (Oid×Loc):=⟨(((0,0),0),.nil)⟩
     exact Deep.choose_lt hkid
   obtain ⟨g,hg⟩:=hkid'
   have hids:Pj (cs0.take xss.length)=(List.range xss.length).map fun k=>(g k).1:=by
    have key:∀ (m:Nat) (cs:List AV) (h:Nat->Oid),cs.length=m->(∀ k,k<m->∃ t' len',cs[k]? =some (.own (h k) t' 0 len'))->Pj cs=(List.range m).map h:=by
     intro m
     induction m with
     | zero=>intro cs h hl _; obtain rfl:=List.length_eq_zero_iff.1 hl; rfl
     | succ m ih =>
      intro cs h hl hk;cases cs with
      | nil=>simp at hl
      | cons c cs =>
       obtain ⟨t',len',h0⟩:=hk 0 (by omega);obtain rfl:=osj h0;rw [List.range_succ_eq_map,List.map_cons,List.map_map];simp only [Pj];rw [ih cs (fun k=>h (k+1)) (by simpa using hl) (fun k hk'=>by simpa using hk (k+1) (by omega))];rfl
    refine key _ _ _ (by rw [List.length_take]; omega) fun k hk=>?_
    obtain ⟨t',len',_,a1,_⟩:=hg k hk;exact ⟨t',len',by rw [List.getElem?_take,if_pos hk]; exact a1⟩
   refine ⟨(some i,l) :: (((List.range xss.length).map fun k=>(some (g k).1,(g k).2))++idl),⟨l,(List.range xss.length).map fun k=>(g k).2,idl.map (·.2),us',vs.take (xss.length*1),by rw [g2],by simp,⟨⟨by simp,hfl⟩,⟨hown',hs⟩,fun k xs l' hk hl'=>?_⟩,r1⟩,?_,fun x hx=>?_⟩
   ·have hlt:=(gSi.1 hk).1;obtain ⟨t',len',ys,a1,a2,a3,a4,a5,a6,a7⟩:=hg k hlt;rw [List.getElem?_map,List.getElem?_range hlt] at hl';obtain rfl:=osj hl';rw [hk] at a4;obtain rfl:=osj a4;have hlen:(ys.take len').length=len':=by rw [List.length_take]; omega
    obtain ⟨_,hown2,hs2⟩:=hM.obs _ _ _ a2 a5;rw [hlen];exact ⟨by rw [List.getElem?_take,if_pos (by omega)]; exact a6,I9 hfl hown2 a3 a7,hs2⟩
   ·rw [show ((some i,l) :: (((List.range xss.length).map fun k=>(some (g k).1,(g k).2))++idl)).filterMap (·.1)=i :: (((List.range xss.length).map fun k=>(some (g k).1,(g k).2))++idl).filterMap (·.1) from rfl,List.filterMap_append,r3];simp only [Of,hj,hids,List.filterMap_map,List.cons_append];congr 2;rw [← List.filterMap_eq_map];rfl
   ·rcases List.mem_cons.1 hx with rfl | hx
    ·exact ⟨fun h=>(by cases h),fun i' e=>(by cases e; exact ⟨_,hj,g1⟩)⟩
    ·rcases List.mem_append.1 hx with hx | hx
     ·obtain ⟨k,hk,rfl⟩:=List.mem_map.1 hx;obtain ⟨t',len',ys,a1,a2,a3,a4,a5,a6,a7⟩:=hg k (by simpa using hk);exact ⟨fun h=>(by cases h),fun i' e=>(by cases e; exact ⟨_,a2,a5⟩)⟩
     ·exact r2 x hx
  ·obtain rfl:u=.slice none 0 0:=h1;refine ⟨(none,.nil) :: idl,⟨.nil,[],idl.map (·.2),us',[],rfl,rfl,⟨⟨rfl,hfl⟩,⟨Hk w w0.heap.size e 1,fun _ _ _ h=>(nomatch h)⟩,fun k xs l h=>by simp at h⟩,r1⟩,by rw [show ((none,Loc.nil) :: idl).filterMap (·.1)=idl.filterMap (·.1) from rfl,r3]; rfl,fun x hx=>?_⟩;rcases List.mem_cons.1 hx with rfl | hx
   ·exact ⟨fun _=>rfl,fun _ e=>(by cases e)⟩
   ·exact r2 x hx
theorem Iq {vs0:List Value}:∀ {avs:List AV} {ps:List (Bool×List RL)} {us:List Value},PartsR vs0 ob avs ps->AV.RepL σ im w avs us ->
  ∃ vs,LeavesR vs0 ob (Jj avs) (ps.flatMap (·.2))∧AV.RepL σ im w (Jj avs) vs∧F2 ps vs=us
 | [],ps,us,h,hr=>by
  obtain rfl:ps=[]:=h;exact ⟨[],rfl,rfl,hr.symm⟩
 | c :: r,ps,us,h,⟨u,us',e,h1,h2⟩=>by
  subst e
  have app:∀ (xs ys:List AV) (l m:List RL),LeavesR vs0 ob xs l->LeavesR vs0 ob ys m->LeavesR vs0 ob (xs++ys) (l++m):=by
   intro xs
   induction xs with
   | nil=>intro ys l m hl hm; obtain rfl:l=[]:=hl; simpa using hm
   | cons x xs ih =>
    rintro ys l m ⟨a,b,rfl,q1,q2⟩ hm;exact ⟨a,b++m,rfl,q1,ih ys _ _ q2 hm⟩
  have len:∀ (xs:List AV) (l:List RL),LeavesR vs0 ob xs l->l.length=xs.length:=by
   intro xs
   induction xs with
   | nil=>intro l hl; obtain rfl:l=[]:=hl; rfl
   | cons x xs ih =>
    rintro l ⟨a,b,rfl,q1,q2⟩;simp [ih _ q2]
  by_cases hagg:∃ cs,c=.agg cs
  ·obtain ⟨cs,rfl⟩:=hagg;obtain ⟨ls,ps',rfl,q1,q2⟩:=h;obtain ⟨vs,r1,r2,r3⟩:=Iq q2 h2;obtain ⟨ws,e1,e2⟩:=h1;have hwl:ls.length=ws.length:=by rw [len _ _ q1,e2.length]
   refine ⟨ws++vs,?_,e2.append r2,?_⟩
   ·simp only [Jj,List.flatMap_cons];exact app _ _ _ _ q1 r1
   ·simp only [F2,if_true];rw [List.take_left' hwl.symm,List.drop_left' hwl.symm,r3,e1]
  ·rw [F4 hagg] at h;obtain ⟨l,ps',rfl,q1,q2⟩:=h
   have hf:Jj (c :: r)=c :: Jj r:=by
    cases c <;> first | rfl | exact absurd ⟨_,rfl⟩ hagg
   obtain ⟨vs,r1,r2,r3⟩:=Iq q2 h2;refine ⟨u :: vs,?_,?_,?_⟩
   ·rw [hf]; exact ⟨l,_,rfl,q1,r1⟩
   ·rw [hf]; exact ⟨u,vs,rfl,h1,r2⟩
   ·simp [F2,r3]
def Uj (tmps:Array Value):ResultVar->Sem Value
 | .tmp t=>pure (tmps.getD t undef)
 | .cell a t=>do loadVar t (← asAddr (tmps.getD a undef))
theorem Ri {fn:Func} {tmps:Array Value} {us:List Value} (h:(fn.results.toList.mapM (Uj tmps)).run P w=.ok us w) (hl:us.length=fn.results.size) :
  (results fn tmps).run P w=.ok (if fn.results.size=1 then us.headD undef else .tuple us.toArray) w:=by
 have e:results fn tmps=(do let vs ← fn.results.mapM (Uj tmps); pure (if h:vs.size=1 then vs[0] else .tuple vs)):=rfl;rw [e,Array.mapM_eq_mapM_toList];simp only [Sem.run_bind,Sem.run_map,h,Result.andThen_ok,Sem.run_pure];by_cases h1:fn.results.size=1
 ·have:us.toArray.size=1:=by simp [hl,h1]
  rw [dif_pos this,if_pos h1];cases us with
  | nil=>simp at this
  | cons u us=>rfl
 ·rw [dif_neg (by simp [hl,h1]),if_neg h1]
theorem Res.run {f:Nat->AV} {a:Act} (hM:Mem0 G w0 ob σ K w) (hF:TmRep σ (imm ob σ) w f a) {r:ResultVar} {x:Res} {c:AV} (h:Res.of P r=some x) (he:x.ev f ob=some c) :
  ∃ u,(Uj a.tmps r).run P w=.ok u w∧AV.Rep σ (imm ob σ) w c u:=by
 cases r with
 | tmp t =>
  obtain rfl:=osj h;obtain rfl:=osj he;exact ⟨_,rfl,hF t⟩
 | cell t ty =>
  obtain ⟨⟨one,m⟩,h1,rfl⟩:=oms.1 h;simp only [Res.ev] at he;split at he
  ·rename_i i k hb;have hv:=hF t;rw [hb] at hv;obtain ⟨b,cap,sz,e1,e2⟩:=hv;split at he
   ·rename_i ty' cs hj;obtain ⟨vs,g1,g2,_⟩:=hM.obs i _ _ hj e1
    obtain ⟨u,hu,hr⟩:=Im (P:=P) (w:=w) (σ:=σ) (im:=imm ob σ) (ad:=⟨b,k,none⟩) h1 he (fun j d hd=>by
     obtain ⟨u,hu,hr⟩:=g2.get hd;refine ⟨u,?_,hr⟩;rw [Bf];simp only [World.cell?,g1]
     simpa using hu)
    refine ⟨u,?_,hr⟩;simp only [Instr.loadAt,Instr.sureAddr,Sem.run_bind,Sem.run_pure,Result.andThen_ok] at hu;simp [Uj,e2,asAddr,hu]
   ·cases he
  ·rename_i i e k hb;have hv:=hF t;rw [hb] at hv;obtain ⟨b,cap,sz,e1,e2⟩:=hv;split at he
   ·rename_i et t' xs hj;split at he
    ·rename_i y hy;obtain ⟨hfl,hown,hsz⟩:=hM.obs i _ _ hj e1;obtain rfl:=hsz b cap sz rfl
     obtain ⟨u,hu,hr⟩:=Im (P:=P) (w:=w) (σ:=σ) (im:=imm ob σ) (ad:=⟨b,e*t'.size+k,none⟩) h1 he (fun j d hd=>by
      obtain ⟨u,hu,hr⟩:=(Ty.enc_rep (σ:=σ) (im:=imm ob σ) (w:=w) y hfl).get hd;refine ⟨u,?_,hr⟩;rw [Bf,Nat.add_assoc];exact K1 hfl hown hy hu)
     refine ⟨u,?_,hr⟩;simp only [Instr.loadAt,Instr.sureAddr,Sem.run_bind,Sem.run_pure,Result.andThen_ok] at hu;simp [Uj,e2,asAddr,hu]
    ·cases he
   ·cases he
  ·cases he
theorem LeafR.wide {vs:List Value} {ob:Oid->Option Ob} {c:AV} {l:RL} (h:LeafR [] ob c l):LeafR vs ob c l:=by
 rcases h with (h | ⟨_,_,_,i,k,_,_,hv⟩ | h) | h
 ·exact .inl (.inl h)
 ·cases k <;> simp [Pg] at hv
 ·exact .inl (.inr (.inr h))
 ·exact .inr h
theorem LeavesR.wide {vs:List Value} {ob:Oid->Option Ob}:∀ {cs:List AV} {ls:List RL},LeavesR [] ob cs ls->LeavesR vs ob cs ls
 | [],_,h=>h
 | _ :: _,_,⟨l,ls',e,h1,h2⟩=>⟨l,ls',e,h1.wide,h2.wide⟩
theorem PartsR.wide {vs:List Value} {ob:Oid->Option Ob}:∀ {cs:List AV} {ps:List (Bool×List RL)},PartsR [] ob cs ps->PartsR vs ob cs ps
 | [],_,h=>h
 | c :: cs,ps,h=>by
  by_cases hagg:∃ ds,c=.agg ds
  ·obtain ⟨ds,rfl⟩:=hagg;obtain ⟨ls,qs,e,h1,h2⟩:=h;exact ⟨ls,qs,e,h1.wide,h2.wide⟩
  ·rw [F4 hagg] at h ⊢;obtain ⟨l,qs,e,h1,h2⟩:=h;exact ⟨l,qs,e,h1.wide,h2.wide⟩
theorem RetOK.wide {vs:List Value} {rs:List Res} {S:St} {r:RV} (h:RetOK [] rs S r):RetOK vs rs S r:=by
 obtain ⟨avs,ps,h1,h2,h3,h4⟩:=h;exact ⟨avs,ps,h1,h2.wide,h3,h4⟩
theorem Xc [IsP P] (hfol:P.follows .mixedOrders=true) {g:FuncId} {fn:Func} {c:Code} {ac:AC} {rs:List Res} {args:List AV} {r:RV} (hf:P.funcs[g]? =some fn) (hb:fn.body=some c) (hc:AC.of P fn.ntmps c=some ac) (hrs:Res.ofL P fn.results.toList=some rs)
  (hn:args.length<=fn.ntmps) (h:∀ (im:Nat->Prop) (w:World) (vs:List Value),AV.RepL (fun _=>none) im w args vs->∃ args',args'.length=args.length∧AV.RepL (fun _=>none) im w args' vs∧awp P G ac (fun e S=>∃ S',WeakG G S S'∧(e=.normal∨e=.ret)∧RetOK vs rs S' r) (St.init args')):Az P G g args r:=by
 intro w im vs hG hargs0;obtain ⟨args',hlen',hargs,h⟩:=h im w vs hargs0;rw [← hlen'] at hn
 clear hargs0
 revert hn hargs h
 generalize args'=args;intro hn hargs h;have hlen:vs.length=args.length:=hargs.length
 have hany:∀ (cs:List AV) (us:List Value),AV.RepL (fun _=>none) im w cs us->AV.RepL (fun _=>none) (imm (fun _=>none) (fun _=>none)) w cs us:=fun cs us h' =>
  AV.RepL.later ⟨fun _ _ h=>h,(fun _ _ _ _ _ _ _ h=>by cases h),fun _ _ _=>rfl,Nat.le_refl _⟩ cs us h'
 have hreps:Is G w ⟨fun _=>none,fun _=>False,w,fun _ _ h=>(nomatch h)⟩ fn.ntmps (St.init args) { tmps:=vs.toArray++Array.replicate (fn.ntmps - vs.toArray.size) undef,defers:=[] } w:=by
  refine ⟨⟨fun _=>none,⟨Below.refl _ _,hG,(fun _ _ h=>by cases h),(fun _ _ _ _ h=>by cases h),(fun _ _ _ _ h=>by cases h),(fun _ _ _ _ _ _ _ _ _ h=>by cases h),(fun _ _ _ h=>by cases h)⟩,fun t=>?_,⟨fun _ _ h=>h,fun _ _ h=>h.elim,fun _ _ h=>h.elim,Nat.le_refl _⟩⟩,by simp; omega,rfl,fun i h=>absurd rfl h⟩;simp only [St.init,gDg];cases ht:args[t]? with
  | none=>trivial
  | some c =>
   obtain ⟨v,hv,hr⟩:=(hany _ _ hargs).get ht;have hlt:t<vs.length:=(gSi.1 hv).1
   have e:(vs.toArray++Array.replicate (fn.ntmps - vs.toArray.size) undef).getD t undef=v:=by
    rw [Array.getD_eq_getD_getElem?,Array.getElem?_append_left (by simpa using hlt)];simp [hv]
   rw [e];exact hr
 refine calls_of_wp hf hb (Code.wp_mono (fun e a' w' hq=>?_) (Uh hfol c ac _ _ _ w hc h hreps));obtain ⟨e',S0,rfl,⟨S',hweak,hend,avs,ps,h1,h2,h3,h4⟩,hr⟩:=hq
 replace hr:=hweak _ _ _ _ _ hr
 obtain ⟨σ,hM,hF,_⟩:=hr.ex
 have hrun:∀ (vars:List ResultVar) (rs:List Res) (avs:List AV),Res.ofL P vars=some rs->Res.evL S'.tm S'.ob rs=some avs ->
   ∃ us,(vars.mapM (Uj a'.tmps)).run P w'=.ok us w'∧AV.RepL σ (imm S'.ob σ) w' avs us∧us.length=vars.length∧rs.length=vars.length:=by
  intro vars
  induction vars with
  | nil =>
   intro rs avs q1 q2;obtain rfl:[]=rs:=osj q1;obtain rfl:[]=avs:=osj q2;exact ⟨[],rfl,rfl,rfl,rfl⟩
  | cons v vars ih =>
   intro rs avs q1 q2;simp only [Res.ofL] at q1;split at q1
   ·rename_i x xs p1 p2;obtain rfl:=osj q1;simp only [Res.evL] at q2;split at q2
    ·rename_i y ys p3 p4;obtain rfl:=osj q2;obtain ⟨u,r1,r2⟩:=Res.run hM hF p1 p3;obtain ⟨us,r3,r4,r5,r6⟩:=ih _ _ p2 p4;refine ⟨u :: us,?_,⟨u,us,rfl,r2,r4⟩,by simp [r5],by simp [r6]⟩;rw [List.mapM_cons,Sem.run_bind,r1];simp only [Result.andThen_ok,Sem.run_bind,r3,Sem.run_pure]
    ·cases q2
   ·cases q1
 obtain ⟨us,u1,u2,u3,u4⟩:=hrun fn.results.toList rs avs hrs h1;obtain ⟨vs',f1,f2,f3⟩:=Iq h2 u2;obtain ⟨idl,l1,l3,l4⟩:=Na (im:=im) hM f1 f2;have l2:=K5 hM l4 (by rw [l3]; exact h3)
 have hres:(results fn a'.tmps).run P w'=.ok (if fn.results.size=1 then us.headD undef else .tuple us.toArray) w':=by
  exact Ri u1 (by rw [u3]; simp)
 have hrv:r.Rep w.heap.size im vs w' (if fn.results.size=1 then us.headD undef else .tuple us.toArray):=by
  subst h4;refine ⟨vs',_,l1,⟨l2,fun ⟨c,hc,hd⟩=>by rw [Iy h2 c hc] at hd; cases hd⟩,?_⟩;simp only [f3];have:rs.length=fn.results.size:=by rw [u4]; simp
  rw [this];by_cases h1:fn.results.size=1 <;> simp [h1]
 have fin:∃ u,(results fn a'.tmps).run P w'=.ok u w'∧∃ v,Ending.returned u=.returned v∧Below w.heap.size w w'∧r.Rep w.heap.size im vs w' v:=⟨_,hres,_,rfl,hM.below,hrv⟩
 rcases hend with rfl | rfl
 ·exact ⟨hr.defers,fin⟩
 ·exact ⟨hr.defers,fin⟩
end
end Go.Proofs.YtgljmpiofhlkjaaDoor
namespace Go.Proofs.YtgljmpiofhlkjaaDoor
open Go.RowKit Go.Deep
section
variable {P:Program} {G:World->Prop} {w0 w w':World} {ob:Oid->Option Ob} {σ:Oid->Option Loc} {K:Nat->Prop} {im:Nat->Prop}
mutual
def AV.clo (D:List Oid):AV->Bool
 | .own i _ _ _=>D.contains i
 | .box i _=>D.contains i
 | .elt i _ _=>D.contains i
 | .sla i _ _=>D.contains i
 | .mp i=>D.contains i
 | .agg cs=>AV.cloL D cs
 | .tup cs=>AV.cloL D cs
 | .fn _ cs=>AV.cloL D cs
 | .ref cs=>AV.cloL D cs
 | _=>true
def AV.cloL (D:List Oid):List AV->Bool
 | []=>true
 | c :: cs=>AV.clo D c&&AV.cloL D cs
end
mutual
def AV.cloP (D:Oid->Prop):AV->Prop
 | .own i _ _ _=>D i
 | .box i _=>D i
 | .elt i _ _=>D i
 | .sla i _ _=>D i
 | .mp i=>D i
 | .agg cs=>AV.cloPL D cs
 | .tup cs=>AV.cloPL D cs
 | .fn _ cs=>AV.cloPL D cs
 | .ref cs=>AV.cloPL D cs
 | _=>True
def AV.cloPL (D:Oid->Prop):List AV->Prop
 | []=>True
 | c :: cs=>AV.cloP D c∧AV.cloPL D cs
end
mutual
theorem AV.cloP_of {D:List Oid}:∀ (c:AV),c.clo D=true->c.cloP (·∈D)
 | .any,_ | .int _ _,_ | .bool _,_ | .str _,_ | .nils,_ | .abool _ _,_ | .tree _ _,_ | .giv _ _ _,_ | .mtree _ _ _,_ | .ftr _ _ _,_ | .telt _ _ _ _,_=>trivial
 | .own _ _ _ _,h=>List.contains_iff_mem.1 h
 | .box _ _,h=>List.contains_iff_mem.1 h
 | .elt _ _ _,h=>List.contains_iff_mem.1 h
 | .sla _ _ _,h=>List.contains_iff_mem.1 h
 | .mp _,h=>List.contains_iff_mem.1 h
 | .agg cs,h=>AV.cloPL_of cs h
 | .tup cs,h=>AV.cloPL_of cs h
 | .fn _ cs,h=>AV.cloPL_of cs h
 | .ref cs,h=>AV.cloPL_of cs h
theorem AV.cloPL_of {D:List Oid}:∀ (cs:List AV),AV.cloL D cs=true->AV.cloPL (·∈D) cs
 | [],_=>trivial
 | c :: cs,h=>by
  simp only [AV.cloL,Bool.and_eq_true] at h;exact ⟨AV.cloP_of c h.1,AV.cloPL_of cs h.2⟩
end
mutual
theorem AV.cloP_mono {D E:Oid->Prop} (hd:∀ i,D i->E i):∀ (c:AV),c.cloP D->c.cloP E
 | .any,_ | .int _ _,_ | .bool _,_ | .str _,_ | .nils,_ | .abool _ _,_ | .tree _ _,_ | .giv _ _ _,_ | .mtree _ _ _,_ | .ftr _ _ _,_ | .telt _ _ _ _,_=>trivial
 | .own i _ _ _,h=>hd i h
 | .box i _,h=>hd i h
 | .elt i _ _,h=>hd i h
 | .sla i _ _,h=>hd i h
 | .mp i,h=>hd i h
 | .agg cs,h=>AV.cloPL_mono hd cs h
 | .tup cs,h=>AV.cloPL_mono hd cs h
 | .fn _ cs,h=>AV.cloPL_mono hd cs h
 | .ref cs,h=>AV.cloPL_mono hd cs h
theorem AV.cloPL_mono {D E:Oid->Prop} (hd:∀ i,D i->E i):∀ (cs:List AV),AV.cloPL D cs->AV.cloPL E cs
 | [],_=>trivial
 | c :: cs,h=>⟨AV.cloP_mono hd c h.1,AV.cloPL_mono hd cs h.2⟩
end
def Ob.cloP (D:Oid->Prop):Ob->Prop
 | .cells _ cs=>AV.cloPL D cs
 | .vec _ _ _ cs=>AV.cloPL D cs
 | .pool _ _ _=>False
 | .mat _ _ _ _=>False
 | .tv _ _ _ _=>False
 | _=>True
mutual
def AV.hp (D:Oid->Prop):AV->Prop
 | .own i _ _ _=>D i
 | .box i _=>D i
 | .elt i _ _=>D i
 | .sla i _ _=>D i
 | .mp i=>D i
 | .agg cs=>AV.hpL D cs
 | .tup cs=>AV.hpL D cs
 | .fn _ cs=>AV.hpL D cs
 | .ref _=>False
 | .tree _ _=>False
 | .giv _ _ _=>False
 | .ftr _ _ _=>False
 | .telt _ _ _ _=>False
 | .mtree _ _ _=>False
 | _=>True
def AV.hpL (D:Oid->Prop):List AV->Prop
 | []=>True
 | c :: cs=>AV.hp D c∧AV.hpL D cs
end
mutual
def AV.hpB (D:List Oid):AV->Bool
 | .own i _ _ _=>D.contains i
 | .box i _=>D.contains i
 | .elt i _ _=>D.contains i
 | .sla i _ _=>D.contains i
 | .mp i=>D.contains i
 | .agg cs=>AV.hpBL D cs
 | .tup cs=>AV.hpBL D cs
 | .fn _ cs=>AV.hpBL D cs
 | .ref _=>false
 | .tree _ _=>false
 | .giv _ _ _=>false
 | .ftr _ _ _=>false
 | .telt _ _ _ _=>false
 | .mtree _ _ _=>false
 | _=>true
def AV.hpBL (D:List Oid):List AV->Bool
 | []=>true
 | c :: cs=>AV.hpB D c&&AV.hpBL D cs
end
mutual
theorem AV.hpB_P {D:List Oid}:∀ (c:AV),c.hpB D=true->c.hp (·∈D)
 | .any,_ | .int _ _,_ | .bool _,_ | .str _,_ | .nils,_ | .abool _ _,_=>trivial
 | .own _ _ _ _,h=>List.contains_iff_mem.1 h
 | .box _ _,h=>List.contains_iff_mem.1 h
 | .elt _ _ _,h=>List.contains_iff_mem.1 h
 | .sla _ _ _,h=>List.contains_iff_mem.1 h
 | .mp _,h=>List.contains_iff_mem.1 h
 | .agg cs,h=>AV.hpB_PL cs h
 | .tup cs,h=>AV.hpB_PL cs h
 | .fn _ cs,h=>AV.hpB_PL cs h
theorem AV.hpB_PL {D:List Oid}:∀ (cs:List AV),AV.hpBL D cs=true->AV.hpL (·∈D) cs
 | [],_=>trivial
 | c :: cs,h=>by
  simp only [AV.hpBL,Bool.and_eq_true] at h;exact ⟨AV.hpB_P c h.1,AV.hpB_PL cs h.2⟩
end
mutual
theorem AV.hp_mono {D E:Oid->Prop} (hd:∀ i,D i->E i):∀ (c:AV),c.hp D->c.hp E
 | .any,_ | .int _ _,_ | .bool _,_ | .str _,_ | .nils,_ | .abool _ _,_=>trivial
 | .own i _ _ _,h=>hd i h
 | .box i _,h=>hd i h
 | .elt i _ _,h=>hd i h
 | .sla i _ _,h=>hd i h
 | .mp i,h=>hd i h
 | .agg cs,h=>AV.hpL_mono hd cs h
 | .tup cs,h=>AV.hpL_mono hd cs h
 | .fn _ cs,h=>AV.hpL_mono hd cs h
 | .ref _,h=>h
 | .tree _ _,h=>h
 | .giv _ _ _,h=>h
 | .ftr _ _ _,h=>h
 | .telt _ _ _ _,h=>h
 | .mtree _ _ _,h=>h
theorem AV.hpL_mono {D E:Oid->Prop} (hd:∀ i,D i->E i):∀ (cs:List AV),AV.hpL D cs->AV.hpL E cs
 | [],_=>trivial
 | c :: cs,h=>⟨AV.hp_mono hd c h.1,AV.hpL_mono hd cs h.2⟩
end
mutual
theorem Wv {D:Oid->Prop} {ν:Oid->Oid} {σ σ':Oid->Option Loc} {im im':Nat->Prop} (hσ:∀ i,D i->σ' (ν i)=σ i):∀ (c:AV) (v:Value),c.hp D->AV.Rep σ im w c v->AV.Rep σ' im' w (c.ren ν) v
 | .any,_,_,_=>trivial
 | .int _ _,_,_,h=>h
 | .bool _,_,_,h=>h
 | .str _,_,_,h=>h
 | .nils,_,_,h=>h
 | .abool _ _,_,_,h=>h
 | .own i t off len,_,hc,h=>by
  have e:=hσ i hc;rcases h with ⟨g,q⟩ | ⟨b,cap,g,q⟩ | ⟨lc,g,q⟩
  ·exact .inl ⟨e.trans g,q⟩
  ·exact .inr (.inl ⟨b,cap,e.trans g,q⟩)
  ·exact .inr (.inr ⟨lc,e.trans g,q⟩)
 | .box i k,_,hc,⟨b,cap,sz,g,e⟩=>⟨b,cap,sz,(hσ i hc).trans g,e⟩
 | .elt i _ _,_,hc,⟨b,cap,sz,g,e⟩=>⟨b,cap,sz,(hσ i hc).trans g,e⟩
 | .sla i _ _,_,hc,⟨b,cap,g,e⟩=>⟨b,cap,(hσ i hc).trans g,e⟩
 | .mp i,_,hc,⟨b,cap,sz,g,e⟩=>⟨b,cap,sz,(hσ i hc).trans g,e⟩
 | .agg cs,_,hc,⟨vs,e,h⟩=>⟨vs,e,J2 hσ cs vs hc h⟩
 | .tup cs,_,hc,⟨vs,e,h⟩=>⟨vs,e,J2 hσ cs vs hc h⟩
 | .fn _ cs,_,hc,⟨vs,e,h⟩=>⟨vs,e,J2 hσ cs vs hc h⟩
 | .ref _,_,hc,_ | .tree _ _,_,hc,_ | .giv _ _ _,_,hc,_ | .ftr _ _ _,_,hc,_ | .telt _ _ _ _,_,hc,_ | .mtree _ _ _,_,hc,_=>by cases hc
theorem J2 {D:Oid->Prop} {ν:Oid->Oid} {σ σ':Oid->Option Loc} {im im':Nat->Prop} (hσ:∀ i,D i->σ' (ν i)=σ i):∀ (cs:List AV) (vs:List Value),AV.hpL D cs->AV.RepL σ im w cs vs->AV.RepL σ' im' w (AV.renL ν cs) vs
 | [],_,_,h=>h
 | c :: cs,_,hc,⟨u,us,e,h1,h2⟩=>⟨u,us,e,Wv hσ c u hc.1 h1,J2 hσ cs us hc.2 h2⟩
end
theorem Yf {D:Oid->Prop} (m:Option (Nat->Prop)) (t:Ty) (xs:List t.D):(trM m t xs).cloP D:=by cases m <;> trivial
theorem J9 {D:Oid->Prop}:∀ {a b:List AV},AV.cloPL D a->AV.cloPL D b->AV.cloPL D (a++b)
 | [],_,_,h=>h
 | _ :: _,_,h,h'=>⟨h.1,J9 h.2 h'⟩
theorem Sd {D:Oid->Prop} (m:Option (Nat->Prop)):∀ (t:Ty) (x:t.D),AV.cloPL D (t.avM m x)
 | .int,_=>⟨trivial,trivial⟩
 | .bool,_=>⟨trivial,trivial⟩
 | .str,_=>⟨trivial,trivial⟩
 | .slice t,xs=>⟨Yf m t xs,trivial⟩
 | .pair a b,x=>J9 (Sd m a x.1) (Sd m b x.2)
theorem Wc {D:Oid->Prop} {m:Option (Nat->Prop)} {t:Ty}:∀ (xs:List t.D),AV.cloPL D (tvC m t xs)
 | []=>trivial
 | x :: xs=>J9 (Sd m t x) (Wc xs)
theorem Mj {θ:Oid->Oid}:∀ (a b:List AV),AV.renL θ (a++b)=AV.renL θ a++AV.renL θ b
 | [],_=>rfl
 | c :: a,b=>by simp only [List.cons_append,AV.renL,Mj a b]
theorem Pu {θ:Oid->Oid} (m:Option (Nat->Prop)):∀ (t:Ty) (x:t.D),AV.renL θ (t.avM m x)=t.avM m x
 | .int,_=>rfl
 | .bool,_=>rfl
 | .str,_=>rfl
 | .slice t,xs=>by cases m <;> rfl
 | .pair a b,x=>by simp only [Ty.avM,Mj,Pu m a,Pu m b]
theorem Tf {θ:Oid->Oid} {m:Option (Nat->Prop)} {t:Ty}:∀ (xs:List t.D),AV.renL θ (tvC m t xs)=tvC m t xs
 | []=>rfl
 | x :: xs=>by
  have:=Tf (θ:=θ) (m:=m) xs;simp only [tvC,List.flatMap_cons,Mj,Pu] at *;rw [this]
mutual
theorem Tn {D:Oid->Prop} {θ:Oid->Oid} {σ σ':Oid->Option Loc} {im im':Nat->Prop} (hσ:∀ i,D i->σ' i=σ (θ i)) (hi:∀ b,im b->im' b):∀ (c:AV) (v:Value),c.cloP D->AV.Rep σ im w (c.ren θ) v->AV.Rep σ' im' w c v
 | .any,_,_,_=>trivial
 | .int _ _,_,_,h=>h
 | .bool _,_,_,h=>h
 | .str _,_,_,h=>h
 | .nils,_,_,h=>h
 | .abool _ _,_,_,h=>h
 | .tree _ _,_,_,⟨A,c,l,e,hs⟩=>⟨A,c,l,e,Bo (fun b _ hb=>hi b hb) hs⟩
 | .giv _ _ _,_,_,⟨h0,A,c,l,e,hs⟩=>⟨h0,A,c,l,e,Bo (fun b _ hb=>hi b hb) hs⟩
 | .ftr _ _ _,_,_,⟨A,c,l,e,hs⟩=>⟨A,c,l,e,Bo (fun b _ hb=>⟨hi b hb.1,hb.2⟩) hs⟩
 | .own i t off len,_,hc,h=>by
  have e:=hσ i hc;rcases h with ⟨g,q⟩ | ⟨b,cap,g,q⟩ | ⟨lc,g,q⟩
  ·exact .inl ⟨e.trans g,q⟩
  ·exact .inr (.inl ⟨b,cap,e.trans g,q⟩)
  ·exact .inr (.inr ⟨lc,e.trans g,q⟩)
 | .box i k,_,hc,⟨b,cap,sz,g,e⟩=>⟨b,cap,sz,(hσ i hc).trans g,e⟩
 | .elt i _ _,_,hc,⟨b,cap,sz,g,e⟩=>⟨b,cap,sz,(hσ i hc).trans g,e⟩
 | .sla i _ _,_,hc,⟨b,cap,g,e⟩=>⟨b,cap,(hσ i hc).trans g,e⟩
 | .mp i,_,hc,⟨b,cap,sz,g,e⟩=>⟨b,cap,sz,(hσ i hc).trans g,e⟩
 | .mtree _ _ _,_,_,⟨b,e,h1,h2⟩=>⟨b,e,hi _ h1,h2⟩
 | .telt _ _ _ _,_,_,⟨a,l,e,hm,hb⟩=>⟨a,l,e,hm.mono fun b _ hb=>Ti hi hb,Ti hi hb⟩
 | .agg cs,_,hc,⟨vs,e,h⟩=>⟨vs,e,E1 hσ hi cs vs hc h⟩
 | .tup cs,_,hc,⟨vs,e,h⟩=>⟨vs,e,E1 hσ hi cs vs hc h⟩
 | .fn _ cs,_,hc,⟨vs,e,h⟩=>⟨vs,e,E1 hσ hi cs vs hc h⟩
 | .ref cs,_,hc,⟨b,k,vs,e,hb,hcl,h⟩=>⟨b,k,vs,e,⟨hb.1,hi _ hb.2⟩,hcl,E1 hσ hi cs vs hc h⟩
theorem E1 {D:Oid->Prop} {θ:Oid->Oid} {σ σ':Oid->Option Loc} {im im':Nat->Prop} (hσ:∀ i,D i->σ' i=σ (θ i)) (hi:∀ b,im b->im' b):∀ (cs:List AV) (vs:List Value),AV.cloPL D cs->AV.RepL σ im w (AV.renL θ cs) vs->AV.RepL σ' im' w cs vs
 | [],_,_,h=>h
 | c :: cs,_,hc,⟨u,us,e,h1,h2⟩=>by
  exact ⟨u,us,e,Tn hσ hi c u hc.1 h1,E1 hσ hi cs us hc.2 h2⟩
end
theorem X8 {D:Oid->Prop} {θ:Oid->Oid} {σ σ':Oid->Option Loc} {im im':Nat->Prop} {lo:Nat} (hσ:∀ i,D i->σ' i=σ (θ i)) (hi:∀ b,im b->im' b) {q:Ob} {l:Loc} (hq:q.cloP D) (h:(q.ren θ).Rep lo σ im w l):q.Rep lo σ' im' w l:=by
 cases q with
 | arr e t xs=>exact h
 | map mt t es=>cases l <;> exact h
 | cells ty cs =>
  cases l with
  | nil=>exact h
  | at_ b c s=>obtain ⟨vs,h1,h2,h3⟩:=h; exact ⟨vs,h1,E1 hσ hi cs vs hq h2,h3⟩
 | vec e sz n cs=>obtain ⟨vs,h1,h2,h3⟩:=h; exact ⟨vs,h1,E1 hσ hi cs vs hq h2,h3⟩
 | pool e t xss=>cases hq
 | mat e p t xss=>cases hq
 | tv e m t xs=>cases hq
theorem Eg {i:Oid} {o:Ob}:∀ {ol:List (Oid×Ob)},Aq (A5 ol) i=some o->(i,o)∈exL ol
 | [],h=>by cases h
 | (j,x) :: r,h=>by
  simp only [A5,List.map_cons] at h;cases x with
  | pool e u xss =>
   simp only [Aq] at h;simp only [exL,List.mem_append];split at h
   ·rename_i hc;obtain ⟨c1,c2,c3⟩:=hc;obtain ⟨row,hrow,rfl⟩:=oms.1 h;refine .inl (List.mem_map.2 ⟨(row,i.1.2 - 1),?_,?_⟩)
    ·rw [List.mem_zipIdx_iff_getElem?]; exact hrow
    ·obtain ⟨⟨i1,i2⟩,i3⟩:=i;simp only [kid] at *;subst c1 c2;rw [show i2 - 1+1=i2 by omega]
   ·exact .inr (Eg (ol:=r) h)
  | mat e p u xss =>
   simp only [Aq] at h;simp only [exL];split at h
   ·rename_i e; subst e; obtain rfl:=osj h; exact List.mem_cons_self
   ·exact List.mem_cons_of_mem _ (Eg (ol:=r) h)
  | _ =>
   simp only [Aq] at h;simp only [exL];split at h
   ·rename_i e; subst e; obtain rfl:=osj h; exact List.mem_cons_self
   ·exact List.mem_cons_of_mem _ (Eg (ol:=r) h)
theorem J8 {α β:Type} {f:α->β}:∀ {l:List α},(l.map f).Nodup->∀ {x y:α},x∈l->y∈l->f x=f y->x=y
 | [],_,_,_,h,_,_=>by cases h
 | a :: r,nd,x,y,hx,hy,e=>by
  simp only [List.map_cons,List.nodup_cons] at nd;rcases List.mem_cons.1 hx with h1 | h1
  ·rcases List.mem_cons.1 hy with h2 | h2
   ·rw [h1,h2]
   ·exact absurd (List.mem_map.2 ⟨y,h2,by rw [← e,h1]⟩) nd.1
  ·rcases List.mem_cons.1 hy with h2 | h2
   ·exact absurd (List.mem_map.2 ⟨x,h1,by rw [e,h2]⟩) nd.1
   ·exact J8 nd.2 h1 h2 e
end
end Go.Proofs.YtgljmpiofhlkjaaDoor
namespace Go.Proofs.YtgljmpiofhlkjaaDoor
open Go.RowKit Go.Deep
theorem WeakG.refl {G:World->Prop} (S:St):WeakG G S S:=fun _ _ _ _ _ h=>h
theorem WeakG.trans {G:World->Prop} {S S' S'':St} (h:WeakG G S S') (k:WeakG G S' S''):WeakG G S S'':=fun w0 B N a w hr=>k w0 B N a w (h w0 B N a w hr)
def Dl:List (Oid×Oid)->Oid->Oid
 | [],i=>i
 | (a,b) :: r,i=>if i=a then b else if i.1.1=a.1.1∧i.2=a.2∧i.1.2≠0 then ((b.1.1,i.1.2),b.2) else Dl r i
def T1 (l:List (Oid×Oid)):Bool:=l.all fun x=>x.1.1.2==0
theorem Ju:∀ {l:List (Oid×Oid)},T1 l=true->∀ {p:Oid},p.1.2=0->∀ k,Dl l (kid p k)=kid (Dl l p) k
 | [],_,_,_,_=>rfl
 | (a,b) :: r,h,p,hp,k=>by
  simp only [T1,List.all_cons,Bool.and_eq_true,beq_iff_eq] at h;obtain ⟨h1,h2⟩:=h
  have hne:kid p k≠a:=fun e=>by
   rw [← e] at h1;simp [kid] at h1
  simp only [Dl,if_neg hne];by_cases hpa:p=a
  ·subst hpa;rw [if_pos ⟨rfl,rfl,by simp [kid]⟩,if_pos rfl];rfl
  ·have:¬ ((kid p k).1.1=a.1.1∧(kid p k).2=a.2∧(kid p k).1.2≠0):=by
    rintro ⟨e1,e2,_⟩;apply hpa;obtain ⟨⟨p1,p2⟩,p3⟩:=p;obtain ⟨⟨a1,a2⟩,a3⟩:=a;simp only [kid] at *;subst hp h1 e1 e2;rfl
   rw [if_neg this,if_neg hpa,if_neg (fun h=>h.2.2 hp)];exact Ju h2 hp k
def ndB:List Oid->Bool
 | []=>true
 | i :: r=> !r.contains i&&ndB r
theorem Jp:∀ {l:List Oid},ndB l=true->l.Nodup
 | [],_=>List.nodup_nil
 | i :: r,h=>by
  simp only [ndB,Bool.and_eq_true,Bool.not_eq_true',List.contains_eq_mem,decide_eq_false_iff_not] at h;exact List.nodup_cons.2 ⟨h.1,Jp h.2⟩
def Ob.isPool:Ob->Bool
 | .pool ..=>true
 | _=>false
def Gk (i:Oid):Oid:=((i.1.1,0),i.2)
theorem Eo {p:Oid} (h:p.1.2=0) (k:Nat):Gk (kid p k)=p:=by
 obtain ⟨⟨p1,p2⟩,p3⟩:=p;simp only at h;subst h; rfl
theorem Qn {i:Oid} (h:i.1.2≠0):i=kid (Gk i) (i.1.2 - 1):=by
 obtain ⟨⟨a,b⟩,c⟩:=i;simp only [kid,Gk] at *;rw [show b - 1+1=b by omega]
def G6:List (Oid×Option Ob)->Oid->Option Ob
 | [],_=>none
 | (j,o) :: r,i=>match o with
  | some (.pool e u xss)=>if i.1.1=j.1.1∧i.2=j.2∧i.1.2≠0 then (xss[i.1.2 - 1]?).map (.arr e u) else G6 r i
  | o=>if i=j then o else G6 r i
def Ob.exp:Ob->Ob
 | .mat e p u xss=>.vec e 1 xss.length (hdL p u xss)
 | .tv e m t xs=>.vec e t.size xs.length (tvC m t xs)
 | o=>o
theorem Ni:∀ (ol:List (Oid×Option Ob)) (i:Oid),Aq ol i=(G6 ol i).map Ob.exp
 | [],_=>rfl
 | (j,o) :: r,i=>by
  have ih:=Ni r i;cases o with
  | none =>
   simp only [Aq,G6];split
   ·rfl
   ·exact ih
  | some o =>
   cases o with
   | pool e u xss =>
    simp only [Aq,G6];split
    ·cases xss[i.1.2 - 1]? <;> rfl
    ·exact ih
   | _ =>
    simp only [Aq,G6];split
    ·rfl
    ·exact ih
def Gd:List (Oid×Option Ob)->Oid->Option Ob
 | [],_=>none
 | (j,o) :: r,p=>match o with
  | some (.pool e u xss)=>if p.1.1=j.1.1∧p.2=j.2 then some (.pool e u xss) else Gd r p
  | _=>if p.1.1=j.1.1∧p.2=j.2∧j.1.2≠0 then none else Gd r p
theorem Gg {e:TypeId} {u:Ty} {xss:List (List u.D)} {p:Oid}:∀ {ol:List (Oid×Option Ob)},Gd ol p=some (.pool e u xss)->∀ k,G6 ol (kid p k)=(xss[k]?).map (.arr e u)
 | [],h,_=>by cases h
 | (j,o) :: r,h,k=>by
  have hk:¬ (p.1.1=j.1.1∧p.2=j.2∧j.1.2≠0)->kid p k≠j:=fun hn ej=>hn (by subst ej; exact ⟨rfl,rfl,by simp [kid]⟩)
  cases o with
  | none =>
   simp only [Gd] at h;simp only [G6];split at h
   ·cases h
   ·rename_i hn;rw [if_neg (hk hn)];exact Gg h k
  | some o =>
   cases o with
   | pool e' u' xss' =>
    simp only [Gd] at h;simp only [G6];split at h
    ·rename_i hc;obtain ⟨rfl,rfl,he⟩:=Ob.pool.inj (osj h);obtain rfl:=eq_of_heq he;rw [if_pos ⟨by simpa [kid] using hc.1,by simpa [kid] using hc.2,by simp [kid]⟩];simp [kid]
    ·rename_i hc;rw [if_neg (fun h'=>hc ⟨h'.1,h'.2.1⟩)];exact Gg h k
   | _ =>
    simp only [Gd] at h;simp only [G6];split at h
    ·cases h
    ·rename_i hn;rw [if_neg (hk hn)];exact Gg h k
theorem Uw {e:TypeId} {u:Ty} {xss:List (List u.D)} {p:Oid} {ol:List (Oid×Option Ob)} (h:Gd ol p=some (.pool e u xss)) (k:Nat):Aq ol (kid p k)=(xss[k]?).map (.arr e u):=by
 rw [Ni,Gg h];cases xss[k]? <;> rfl
theorem Vi {e:TypeId} {u:Ty} {xss:List (List u.D)} {row:List u.D} {p:Oid} {k:Nat} {ol:List (Oid×Option Ob)} (h:Gd ol p=some (.pool e u xss)) (hx:xss[k]? =some row):Aq ol (kid p k)=some (.arr e u row):=by
 rw [Uw h,hx]; rfl
theorem W3 (θ:Oid->Oid) (o:Ob) (hk:∀ e p u xss,o=.mat e p u xss->∀ k,θ (kid p k)=kid (θ p) k):(o.ren θ).exp=o.exp.ren θ:=by
 cases o with
 | mat e p u xss =>
  have:AV.renL θ (hdL p u xss)=hdL (θ p) u xss:=by
   have key:∀ l:List (List u.D×Nat),AV.renL θ (l.map fun x=>.own (kid p x.2) u 0 x.1.length)=l.map fun x=>.own (kid (θ p) x.2) u 0 x.1.length:=by
    intro l
    induction l with
    | nil=>rfl
    | cons x l ih=>simp only [List.map_cons,AV.renL,ih,AV.ren,hk _ _ _ _ rfl]
   exact key _
  simp only [Ob.ren,Ob.exp,this]
 | tv e m t xs=>simp only [Ob.ren,Ob.exp,Tf]
 | _=>rfl
def V6 (ol0:List (Oid×Option Ob)) (θ:Oid->Oid) (q:Oid×Ob):Option Ob:=if q.2.isPool then Gd ol0 (θ q.1) else G6 ol0 (θ q.1)
def V0 (ol0:List (Oid×Option Ob)) (θ:Oid->Oid):List (Oid×Ob)->Prop
 | []=>True
 | q :: r=>V6 ol0 θ q=some (q.2.ren θ)∧V0 ol0 θ r
theorem T3 {ol0:List (Oid×Option Ob)} {θ:Oid->Oid}:∀ {ol:List (Oid×Ob)},(ol.map fun q=>V6 ol0 θ q)=(ol.map fun q=>some (q.2.ren θ))->V0 ol0 θ ol
 | [],_=>trivial
 | q :: r,h=>by
  simp only [List.map_cons,List.cons.injEq] at h;exact ⟨h.1,T3 h.2⟩
theorem Nv {ol0:List (Oid×Option Ob)} {θ:Oid->Oid}:∀ {ol:List (Oid×Ob)},V0 ol0 θ ol->∀ q∈ol,V6 ol0 θ q=some (q.2.ren θ)
 | _ :: _,h,q,hq=>by
  rcases List.mem_cons.1 hq with rfl | hq
  ·exact h.1
  ·exact Nv h.2 q hq
theorem Ql {q:Oid×Ob}:∀ {ol:List (Oid×Ob)},q∈exL ol->(∃ p e u xss k row,(p,Ob.pool e u xss)∈ol∧xss[k]? =some row∧q=(kid p k,.arr e u row))∨∃ o,(q.1,o)∈ol∧o.isPool=false∧q.2=o.exp
 | [],h=>by cases h
 | (p,o) :: r,h=>by
  have rest:q∈exL r->_:=fun h=>Ql (ol:=r) h
  have lift:((∃ p e u xss k row,(p,Ob.pool e u xss)∈r∧xss[k]? =some row∧q=(kid p k,.arr e u row))∨∃ o,(q.1,o)∈r∧o.isPool=false∧q.2=o.exp)->((∃ p' e u xss k row,(p',Ob.pool e u xss)∈(p,o) :: r∧xss[k]? =some row∧q=(kid p' k,.arr e u row))∨∃ o',(q.1,o')∈(p,o) :: r∧o'.isPool=false∧q.2=o'.exp):=by
   rintro (⟨p',e,u,xss,k,row,h1,h2⟩ | ⟨o',h1,h2⟩)
   ·exact .inl ⟨p',e,u,xss,k,row,List.mem_cons_of_mem _ h1,h2⟩
   ·exact .inr ⟨o',List.mem_cons_of_mem _ h1,h2⟩
  cases o with
  | pool e u xss =>
   simp only [exL,List.mem_append] at h;rcases h with h | h
   ·obtain ⟨⟨row,k⟩,hx,rfl⟩:=List.mem_map.1 h;rw [List.mem_zipIdx_iff_getElem?] at hx;exact .inl ⟨p,e,u,xss,k,row,by simp,hx,rfl⟩
   ·exact lift (rest h)
  | _ =>
   simp only [exL] at h;rcases List.mem_cons.1 h with rfl | h
   ·exact .inr ⟨_,List.mem_cons_self,rfl,rfl⟩
   ·exact lift (rest h)
theorem Xd {ol0:List (Oid×Option Ob)} {l:List (Oid×Oid)} {ol:List (Oid×Ob)} (hl:T1 l=true) (h:V0 ol0 (Dl l) ol) (hp:(ol.all fun q=>match q.2 with | .pool ..=>q.1.1.2==0 | .mat _ p _ _=>p.1.2==0 | _=>true)=true):∀ q∈exL ol,Aq ol0 (Dl l q.1)=some (q.2.ren (Dl l)):=by
 intro q hq;rw [List.all_eq_true] at hp;rcases Ql hq with ⟨p,e,u,xss,k,row,h1,h2,rfl⟩ | ⟨o,h1,h2,h3⟩
 ·have g:=Nv h _ h1;simp only [V6,Ob.isPool,if_true,Ob.ren] at g;have hp0:=hp _ h1;simp only [beq_iff_eq] at hp0;rw [Ju hl hp0,Vi g h2];rfl
 ·have g:=Nv h _ h1;simp only [V6,h2,Bool.false_eq_true,if_false] at g;rw [h3,Ni,g];simp only [Option.map_some];rw [W3];intro e p u xss e' k;subst e';have hp0:=hp _ h1;simp only [beq_iff_eq] at hp0;exact Ju hl hp0 k
def Hb (DN DP:List Oid) (i:Oid):Bool:=if i.1.2=0 then DN.contains i else DP.contains (Gk i)
mutual
def AV.cl (DN DP:List Oid):AV->Bool
 | .own i _ _ _=>Hb DN DP i
 | .box i _=>Hb DN DP i
 | .elt i _ _=>Hb DN DP i
 | .sla i _ _=>Hb DN DP i
 | .mp i=>Hb DN DP i
 | .agg cs=>AV.clL DN DP cs
 | .tup cs=>AV.clL DN DP cs
 | .fn _ cs=>AV.clL DN DP cs
 | .ref cs=>AV.clL DN DP cs
 | _=>true
def AV.clL (DN DP:List Oid):List AV->Bool
 | []=>true
 | c :: cs=>AV.cl DN DP c&&AV.clL DN DP cs
end
def Ob.cl (DN DP:List Oid):Ob->Bool
 | .cells _ cs=>AV.clL DN DP cs
 | .vec _ _ _ cs=>AV.clL DN DP cs
 | .mat _ p _ _=>DP.contains p&&p.1.2==0
 | _=>true
mutual
theorem AV.cl_P {DN DP:List Oid}:∀ (c:AV),c.cl DN DP=true->c.cloP (fun i=>Hb DN DP i=true)
 | .any,_ | .int _ _,_ | .bool _,_ | .str _,_ | .nils,_ | .abool _ _,_ | .tree _ _,_ | .giv _ _ _,_ | .mtree _ _ _,_ | .ftr _ _ _,_ | .telt _ _ _ _,_=>trivial
 | .own _ _ _ _,h=>h
 | .box _ _,h=>h
 | .elt _ _ _,h=>h
 | .sla _ _ _,h=>h
 | .mp _,h=>h
 | .agg cs,h=>AV.clL_P cs h
 | .tup cs,h=>AV.clL_P cs h
 | .fn _ cs,h=>AV.clL_P cs h
 | .ref cs,h=>AV.clL_P cs h
theorem AV.clL_P {DN DP:List Oid}:∀ (cs:List AV),AV.clL DN DP cs=true->AV.cloPL (fun i=>Hb DN DP i=true) cs
 | [],_=>trivial
 | c :: cs,h=>by
  simp only [AV.clL,Bool.and_eq_true] at h;exact ⟨AV.cl_P c h.1,AV.clL_P cs h.2⟩
end
theorem X0 {D:Oid->Prop} {p:Oid} {u:Ty} (xss:List (List u.D)) (h:∀ k,k<xss.length->D (kid p k)):AV.cloPL D (hdL p u xss):=by
 have key:∀ l:List (List u.D×Nat),(∀ x∈l,D (kid p x.2))->AV.cloPL D (l.map fun x=>.own (kid p x.2) u 0 x.1.length):=by
  intro l
  induction l with
  | nil=>intro _; trivial
  | cons x l ih=>intro h; exact ⟨h x (by simp),ih fun y hy=>h y (by simp [hy])⟩
 refine key _ fun x hx=>h _ ?_
 obtain ⟨row,k⟩:=x;rw [List.mem_zipIdx_iff_getElem?] at hx;exact (gSi.1 hx).1
theorem Ob.cl_P {DN DP:List Oid} (o:Ob) (hp:o.isPool=false) (h:o.cl DN DP=true):o.exp.cloP (fun i=>Hb DN DP i=true):=by
 cases o with
 | cells _ cs=>exact AV.clL_P cs h
 | vec _ _ _ cs=>exact AV.clL_P cs h
 | mat e p u xss =>
  simp only [Ob.cl,Bool.and_eq_true,beq_iff_eq] at h;refine X0 xss fun k _=>?_
  simp only [Hb];rw [if_neg (by simp [kid]),Eo h.2];exact h.1
 | arr _ _ _=>trivial
 | map _ _ _=>trivial
 | pool _ _ _=>cases hp
 | tv e m t xs=>exact Wc xs
def Fj (ol:List (Oid×Ob)):List Oid:=(ol.filter fun q=> !q.2.isPool).map (·.1)
def Ex (ol:List (Oid×Ob)):List Oid:=(ol.filter fun q=>q.2.isPool).map (·.1)
def Ys (l:List (Oid×Oid)) (tl:List (Nat×AV)) (ol:List (Oid×Ob)) (g:Nat):Bool :=
 T1 l&&((tl.all fun p=>p.2.cl (Fj ol) (Ex ol))&&((ol.all fun q=>q.2.cl (Fj ol) (Ex ol))&&(ndB ((Fj ol).map (Dl l))&&(ndB ((Ex ol).map (Dl l)) &&
  ((ol.all fun q=>decide (q.1.2<g)&&(q.1.1.2==0))&&((ol.all fun q=> !(q.1.2==0)||(Dl l q.1==q.1)) &&
   (((Ex ol).all fun i=>(Dl l i).1.2==0)&&(((Fj ol).all fun i=>(Dl l i).1.2==0|| !((Ex ol).map (Dl l)).contains (Gk (Dl l i)))&&decide (0<g)))))))))
theorem Ad {G:World->Prop} {tl0:List (Nat×AV)} {ol0:List (Oid×Option Ob)} {g0:Nat} (l:List (Oid×Oid)) {tl:List (Nat×AV)} {ol:List (Oid×Ob)} {g:Nat} (h1:(tl.map fun p=>Ao tl0 p.1)=tl.map fun p=>p.2.ren (Dl l):=by kernel_rfl) (h2:V0 ol0 (Dl l) ol:=by exact T3 (by kernel_rfl)) (h3:Ys l tl ol g=true:=by kernel_rfl):WeakG G ⟨Ao tl0,Aq ol0,g0⟩ ⟨Ao tl,Aq (A5 ol),g⟩:=by
 intro w0 B N a w hr;obtain ⟨σ,hm,hf,hB⟩:=hr.ex;simp only [Ys,Bool.and_eq_true,decide_eq_true_eq] at h3;obtain ⟨c0,c1,c2,c3,c4,c5,c6,c7,c8,c9⟩:=h3;rw [List.all_eq_true] at c1 c2 c5 c6 c7 c8;have memN:∀ {q},q∈ol->q.2.isPool=false->q.1∈Fj ol:=fun hq hp=>List.mem_map.2 ⟨_,List.mem_filter.2 ⟨hq,by simp [hp]⟩,rfl⟩
 have memP:∀ {q},q∈ol->q.2.isPool=true->q.1∈Ex ol:=fun hq hp=>List.mem_map.2 ⟨_,List.mem_filter.2 ⟨hq,by simp [hp]⟩,rfl⟩
 have ofN:∀ {i},i∈Fj ol->∃ q∈ol,q.1=i:=fun hi=>by
  obtain ⟨q,hq,e⟩:=List.mem_map.1 hi; exact ⟨q,(List.mem_filter.1 hq).1,e⟩
 have ofP:∀ {i},i∈Ex ol->∃ q∈ol,q.1=i:=fun hi=>by
  obtain ⟨q,hq,e⟩:=List.mem_map.1 hi; exact ⟨q,(List.mem_filter.1 hq).1,e⟩
 have c5':∀ q∈ol,q.1.2<g∧q.1.1.2=0:=fun q hq=>by
  have:=c5 q hq
  simpa only [Bool.and_eq_true,decide_eq_true_eq,beq_iff_eq] using this
 have ndN:=Jp c3;have ndP:=Jp c4
 let D:Oid->Prop:=fun i=>Hb (Fj ol) (Ex ol) i=true
 let σ':Oid->Option Loc:=fun i=>if i.2=0 then σ i else if Hb (Fj ol) (Ex ol) i=true then σ (Dl l i) else none
 have hzero:∀ q∈ol,q.1.2=0->Dl l q.1=q.1:=by
  intro q hq h;have:=c6 q hq;simp only [Bool.or_eq_true,Bool.not_eq_true',beq_eq_false_iff_ne,beq_iff_eq] at this;exact this.resolve_left fun h'=>h' h
 have hDc:∀ i,D i->(i.1.2=0∧i∈Fj ol)∨(i.1.2≠0∧Gk i∈Ex ol):=by
  intro i hi;have hi:Hb (Fj ol) (Ex ol) i=true:=hi;unfold Hb at hi;split at hi
  ·exact .inl ⟨by assumption,List.contains_iff_mem.1 hi⟩
  ·exact .inr ⟨by assumption,List.contains_iff_mem.1 hi⟩
 have hkid:∀ i,i.1.2≠0->Dl l i=kid (Dl l (Gk i)) (i.1.2 - 1):=by
  intro i hi;have:=Ju c0 (p:=Gk i) rfl (i.1.2 - 1)
  rwa [← Qn hi] at this
 have hσ:∀ i,D i->σ' i=σ (Dl l i):=by
  intro i hi;by_cases h0:i.2=0
  ·simp only [σ',if_pos h0];rcases hDc i hi with ⟨_,hm⟩ | ⟨hk,hm⟩
   ·obtain ⟨q,hq,rfl⟩:=ofN hm;rw [hzero q hq h0]
   ·obtain ⟨q,hq,e⟩:=ofP hm;have:Dl l (Gk i)=Gk i:=by rw [← e]; exact hzero q hq (by rw [e]; exact h0)
    rw [hkid i hk,this,← Qn hk]
  ·simp only [σ',if_neg h0]; exact if_pos hi
 have hpl:(ol.all fun q=>match q.2 with | .pool ..=>q.1.1.2==0 | .mat _ p _ _=>p.1.2==0 | _=>true)=true:=by
  rw [List.all_eq_true];rintro ⟨i,o⟩ hq;cases o with
  | pool e u xss=>simpa using (c5' _ hq).2
  | mat e p u xss =>
   have:=c2 _ hq;simp only [Ob.cl,Bool.and_eq_true] at this;exact this.2
  | _=>rfl
 have hget:=Xd c0 h2 hpl;have htget:∀ p∈tl,Ao tl0 p.1=p.2.ren (Dl l):=fun p hp=>List.map_inj_left.1 h1 p hp
 have hex:∀ q∈exL ol,D q.1∧q.2.cloP D:=by
  intro q hq;rcases Ql hq with ⟨p,e,u,xss,k,row,m1,m2,rfl⟩ | ⟨o,m1,m2,m3⟩
  ·refine ⟨?_,trivial⟩;show Hb _ _ _=true;unfold Hb;rw [if_neg (by simp [kid]),Eo (c5' _ m1).2];exact List.contains_iff_mem.2 (memP m1 rfl)
  ·refine ⟨?_,by rw [m3]; exact Ob.cl_P o m2 (c2 _ m1)⟩;show Hb _ _ _=true;unfold Hb;rw [if_pos (c5' (q.1,o) m1).2];exact List.contains_iff_mem.2 (memN (q:=(q.1,o)) m1 m2)
 have hinj:∀ q∈exL ol,∀ q'∈exL ol,Dl l q.1=Dl l q'.1->q.1=q'.1:=by
  intro q hq q' hq' e;rcases hDc _ (hex q hq).1 with ⟨a1,a2⟩ | ⟨a1,a2⟩ <;> rcases hDc _ (hex q' hq').1 with ⟨b1,b2⟩ | ⟨b1,b2⟩
  ·exact J8 ndN a2 b2 e
  ·exfalso;rw [hkid _ b1] at e;have hz:=c7 _ b2;rw [beq_iff_eq] at hz;have:=c8 _ a2;rw [e] at this;simp only [Bool.or_eq_true,beq_iff_eq,Bool.not_eq_true',Eo hz] at this;rcases this with h | h
   ·simp [kid] at h
   ·rw [List.contains_iff_mem.2 (List.mem_map.2 ⟨_,b2,rfl⟩)] at h;cases h
  ·exfalso;rw [hkid _ a1] at e;have hz:=c7 _ a2;rw [beq_iff_eq] at hz;have:=c8 _ b2;rw [← e] at this;simp only [Bool.or_eq_true,beq_iff_eq,Bool.not_eq_true',Eo hz] at this;rcases this with h | h
   ·simp [kid] at h
   ·rw [List.contains_iff_mem.2 (List.mem_map.2 ⟨_,a2,rfl⟩)] at h;cases h
  ·rw [hkid _ a1,hkid _ b1] at e;have z1:=c7 _ a2;have z2:=c7 _ b2;rw [beq_iff_eq] at z1 z2
   have e1:Dl l (Gk q.1)=Dl l (Gk q'.1):=by
    rw [← Eo z1 (q.1.1.2 - 1),e,Eo z2]
   have e2:=J8 ndP a2 b2 e1;rw [e1] at e;have e3:=Tk e;rw [Qn a1,Qn b1,e2,e3]
 have him:∀ b,imm (Aq ol0) σ b->imm (Aq (A5 ol)) σ' b:=by
  intro b hb i o cp s ho hs;have hq:=Eg ho;rw [hσ i (hex _ hq).1] at hs;exact hb (Dl l i) _ cp s (hget _ hq) hs
 have hσ0:∀ i l',σ' i=some l'->(i.2=0∧σ i=some l')∨(D i∧σ (Dl l i)=some l'):=by
  intro i l' hi;simp only [σ'] at hi;split at hi
  ·exact .inl ⟨by assumption,hi⟩
  ·split at hi
   ·exact .inr ⟨by assumption,hi⟩
   ·cases hi
 refine ⟨⟨σ',⟨hm.below,hm.inv,fun i l' hi=>?_,fun i b cp s hi=>?_,fun i b cp s hi=>?_,fun i j b cp s cp' s' o o' hi hj e1 e2=>?_,fun i o l' ho hl=>?_⟩,fun t=>?_,?_⟩,hr.size,hr.defers,fun i hi=>?_⟩
 ·rcases hσ0 i l' hi with ⟨h,_⟩ | ⟨h,_⟩
  ·show i.2<g; omega
  ·show i.2<g;rcases hDc i h with ⟨_,hm⟩ | ⟨_,hm⟩
   ·obtain ⟨q,hq,rfl⟩:=ofN hm;exact (c5' q hq).1
   ·obtain ⟨q,hq,e⟩:=ofP hm;have:=(c5' q hq).1;rw [e] at this;exact this
 ·rcases hσ0 i _ hi with ⟨_,h⟩ | ⟨_,h⟩ <;> exact hm.lt _ b cp s h
 ·rcases hσ0 i _ hi with ⟨_,h⟩ | ⟨_,h⟩ <;> exact hm.cap _ b cp s h
 ·have q1:=Eg hi;have q2:=Eg hj;rw [hσ i (hex _ q1).1] at e1;rw [hσ j (hex _ q2).1] at e2;have:=hm.inj (Dl l i) (Dl l j) b cp s cp' s' _ _ (hget _ q1) (hget _ q2) e1 e2;exact hinj _ q1 _ q2 this
 ·have hq:=Eg ho;rw [hσ i (hex _ hq).1] at hl;exact X8 hσ him (hex _ hq).2 (hm.obs (Dl l i) _ l' (hget _ hq) hl)
 ·have key:∀ l':List (Nat×AV),(∀ p∈l',p∈tl)->AV.Rep σ' (imm (Aq (A5 ol)) σ') w (Ao l' t) (a.tmps.getD t undef):=by
   intro l'
   induction l' with
   | nil=>intro _; trivial
   | cons p r ih =>
    obtain ⟨j,v⟩:=p;intro h;simp only [Ao];split
    ·rename_i e; subst e;have hp:=h (t,v) (by simp);have:AV.Rep σ (imm (Aq ol0) σ) w (Ao tl0 t) (a.tmps.getD t undef):=hf t;rw [show Ao tl0 t=v.ren (Dl l) from htget _ hp] at this;exact Tn hσ him v _ (AV.cl_P v (c1 _ hp)) this
    ·exact ih fun p hp=>h p (by simp [hp])
  exact key tl fun _ h=>h
 ·refine ⟨fun i l' hi=>?_,fun b hb hi=>him b (hB.im_ b hb hi),hB.blk,hB.size⟩;have:=hB.loc i l' hi;have h0:=B.zero i l' hi;simp only [σ',if_pos h0];exact this
 ·cases ho:Aq (A5 ol) i with
  | none=>exact absurd ho hi
  | some o =>
   show i.2<g;rcases hDc i (hex _ (Eg ho)).1 with ⟨_,hm⟩ | ⟨_,hm⟩
   ·obtain ⟨q,hq,rfl⟩:=ofN hm;exact (c5' q hq).1
   ·obtain ⟨q,hq,e⟩:=ofP hm;have:=(c5' q hq).1;rw [e] at this;exact this
def Aw (P:Program) (fn:Func):Option (AC×List Res) :=
 match fn.body with
 | some c=>match AC.of P fn.ntmps c,Res.ofL P fn.results.toList with
  | some ac,some rs=>some (ac,rs)
  | _,_=>none
 | none=>none
theorem Ws {P:Program} [IsP P] {G:World->Prop} (hfol:P.follows .mixedOrders=true) {g:FuncId} {fn:Func} (hf:P.funcs[g]? =some fn) {ac:AC} {rs:List Res} (hc:Aw P fn=some (ac,rs)) {args:List AV} {r:RV} {n:Nat} (hN:fn.ntmps=n) (hn:args.length<=n)
  (h:awp P G ac (fun e S=>∃ S',WeakG G S S'∧(e=.normal∨e=.ret)∧RetOK [] rs S' r) (St.init args)):Az P G g args r:=by
 unfold Aw at hc;split at hc
 ·rename_i c hb;split at hc
  ·rename_i ac' rs' h1 h2;obtain ⟨rfl,rfl⟩:=Prod.mk.inj (osj hc);exact Xc hfol hf hb h1 h2 (by omega) fun im w vs hr=>⟨args,rfl,hr,B3 (fun e S ⟨S',hw,he,hq⟩=>⟨S',hw,he,hq.wide⟩) h⟩
  ·cases hc
 ·cases hc
end Go.Proofs.YtgljmpiofhlkjaaDoor
namespace Go.Proofs.YtgljmpiofhlkjaaDoor
open Go.RowKit Go.Deep
-- lists of objects, spelt otherwise
section
variable {ol:List (Oid×Option Ob)} {e1 e:TypeId} {u:Ty} {xss:List (List u.D)} {p o:Oid}
end
end Go.Proofs.YtgljmpiofhlkjaaDoor
namespace Go.Proofs.YtgljmpiofhlkjaaDoor
open Go.RowKit Go.Deep
end Go.Proofs.YtgljmpiofhlkjaaDoor
namespace Go.Proofs.YtgljmpiofhlkjaaDoor
open Go.RowKit Go.Deep
section
variable {P:Program} {G:World->Prop}
theorem Ac {x y:AC} {R:AE->St->Prop} {S:St} (h:awp P G x (E3 (fun S'=>∃ S'',WeakG G S' S''∧awp P G y R S'') R) S):awp P G (.seq x y) R S:=h
theorem O0 {x y:AC} {R:AE->St->Prop} {S:St} (K:St->Prop) (h:awp P G x (E3 (fun S'=>∃ S'',WeakG G S' S''∧K S'') R) S) (k:∀ S'',K S''->awp P G y R S''):awp P G (.seq x y) R S:=by
 unfold awp
 exact B3 (fun e S hq=>by
  cases e with
  | normal=>obtain ⟨S'',hw,hk⟩:=hq; exact ⟨S'',hw,k S'' hk⟩
  | exit id=>exact hq
  | ret=>exact hq) h
def Xv (rs:List Rec) (ds:List (List Oid)):List (Nat×Nat)->Bool
 | []=>true
 | p :: ps=>(let ri:=rs.getD p.2 (0,.any,[]); let rj:=rs.getD p.1 (0,.any,[]); let di:=ds.getD p.2 []; let dj:=ds.getD p.1 []
   ((!(ri.1==2)||rj.1==0)&&(!(rj.1==2)||ri.1==0))||((!(ri.1==2)||ri.2.2.all fun u=> !dj.contains u.1)&&((!(rj.1==2)||rj.2.2.all fun u=> !di.contains u.1)&&ri.2.2.all fun u=>rj.2.2.all fun v=> !(u.1==v.1))))&&Xv rs ds ps
theorem Dh {rs:List Rec} {ds:List (List Oid)}:∀ {bad:List (Nat×Nat)},Xv rs ds bad=true->Sz rs ds bad
 | [],_=>trivial
 | p :: ps,h=>by
  simp only [Xv,Bool.and_eq_true] at h;refine ⟨?_,Dh h.2⟩;have h1:=h.1;simp only [Bool.or_eq_true,Bool.and_eq_true,Bool.not_eq_true',beq_eq_false_iff_ne,beq_iff_eq,List.all_eq_true,List.contains_eq_mem,decide_eq_false_iff_not] at h1;unfold Ir;rcases h1 with ⟨a,b⟩ | ⟨a,b,c⟩
  ·refine .inl ⟨fun e=>?_,fun e=>?_⟩
   ·rcases a with a | a
    ·exact absurd e a
    ·exact a
   ·rcases b with b | b
    ·exact absurd e b
    ·exact b
  ·refine .inr ⟨fun e=>?_,fun e=>?_,c⟩
   ·rcases a with a | a
    ·exact absurd e a
    ·exact a
   ·rcases b with b | b
    ·exact absurd e b
    ·exact b
def XW (P:Program) (G:World->Prop) (g k:Nat) (xs:List X) (tl:List (Nat×AV)) (ol:List (Oid×Option Ob)) (Kf:List (Nat×AV)->List (Oid×Option Ob)->Prop):Prop :=
 ∃ rs tl' ol',W1 P G g k xs (Ao tl) (Aq ol) rs (Ao tl') (Aq ol')∧Kf tl' ol'
def XD (P:Program) (G:World->Prop) (bad:List (Nat×Nat)) (g k:Nat) (xs:List X) (tl:List (Nat×AV)) (ol:List (Oid×Option Ob)) (ra:List Rec) (da:List (List Oid)) (Kf:List (Nat×AV)->List (Oid×Option Ob)->Prop):Prop :=
 ∃ rs ds tl' ol',Uy P G g k xs (Ao tl) (Aq ol) rs ds (Ao tl') (Aq ol')∧Sz (ra.reverse++rs) (da.reverse++ds) bad∧Kf tl' ol'
theorem Ab {xs:List X} {bad:List (Nat×Nat)} {R:AE->St->Prop} {tl:List (Nat×AV)} {ol:List (Oid×Option Ob)} {g:Nat} (g':Nat) (h:XW P G g 0 xs tl ol fun tl' ol'=>R .normal ⟨Ao tl',Aq ol',g'⟩) (hn:g+xs.length=g':=by kernel_rfl):awp P G (.region xs false bad) R ⟨Ao tl,Aq ol,g⟩:=by
 obtain ⟨rs,tl',ol',h,hr⟩:=h;exact ⟨rs,_,_,h,by subst hn; exact hr⟩
theorem Pa {tl:List (Nat×AV)} {d:Nat} {v:AV} (h:Ao tl d=v):Ao ((d,v) :: tl)=Ao tl:=by
 funext i;show (if i=d then v else Ao tl i)=Ao tl i;split
 ·rename_i e; rw [e,h]
 ·rfl
theorem rq {xs:List X} {tl:List (Nat×AV)} {ol:List (Oid×Option Ob)} {g k:Nat} {Kf:List (Nat×AV)->List (Oid×Option Ob)->Prop} (d:Nat) {b c:Bool} (q:b=c) (h:XW P G g k xs ((d,.bool c) :: tl) ol Kf) (hd:Ao tl d=.bool b:=by kernel_rfl):XW P G g k xs tl ol Kf:=by
 subst q;unfold XW at *
 rwa [Pa hd] at h
theorem dq {xs:List X} {bad:List (Nat×Nat)} {tl:List (Nat×AV)} {ol:List (Oid×Option Ob)} {g k:Nat} {ra:List Rec} {da:List (List Oid)} {Kf:List (Nat×AV)->List (Oid×Option Ob)->Prop} (d:Nat) {b c:Bool} (q:b=c) (h:XD P G bad g k xs ((d,.bool c) :: tl) ol ra da Kf) (hd:Ao tl d=.bool b:=by kernel_rfl):XD P G bad g k xs tl ol ra da Kf:=by
 subst q;unfold XD at *
 rwa [Pa hd] at h
theorem Cu {xs:List X} {bad:List (Nat×Nat)} {R:AE->St->Prop} {tl:List (Nat×AV)} {ol:List (Oid×Option Ob)} {g:Nat} (g':Nat) (h:XD P G bad g 0 xs tl ol [] [] fun tl' ol'=>R .normal ⟨Ao tl',Aq ol',g'⟩) (hn:g+xs.length=g':=by kernel_rfl):awp P G (.region xs true bad) R ⟨Ao tl,Aq ol,g⟩:=by
 obtain ⟨rs,ds,tl',ol',h,hb,hr⟩:=h;exact ⟨rs,ds,_,_,h,hb,by subst hn; exact hr⟩
theorem Mn (tl:List (Nat×AV)) (d:Nat) (v:AV):upd (Ao tl) d v=Ao ((d,v) :: tl):=by
 funext i;rfl
def Iv:Option Ob->Bool
 | some (.pool ..)=>false
 | some (.mat ..)=>false
 | some (.tv ..)=>false
 | _=>true
def Dm (us:List (Oid×Option Ob)):Bool:=us.all fun u=>Iv u.2
theorem V5 {ol:List (Oid×Option Ob)} {j:Oid} {o:Option Ob} (h:Iv o=true):upd (Aq ol) j o=Aq ((j,o) :: ol):=by
 cases o with
 | none=>funext i; rfl
 | some o=>cases o <;> first | (funext i; rfl) | cases h
theorem D7:∀ (us ol:List (Oid×Option Ob)),Dm us=true->Ap us (Aq ol)=Aq (us.reverseAux ol)
 | [],_,_=>rfl
 | (j,o) :: us,ol,h=>by
  simp only [Dm,List.all_cons,Bool.and_eq_true] at h;show Ap us (upd (Aq ol) j o)=_;rw [V5 h.1];exact D7 us _ h.2
theorem Ek {p:Bool} {n:Nat} {x:X} {f:Nat->AV} {ob:Oid->Option Ob} {r:Rec} (h:Bq n x f ob=some r):Ds P G p n x f ob r:=by
 unfold Bq at h;unfold Ds;split at h
 ·exact .inl (.inl (.inl h))
 ·split at h
  ·rename_i hc;exact ⟨true,hc,by rw [if_pos rfl]; exact .inl (.inl (.inl h))⟩
  ·rename_i hc;exact ⟨false,hc,by rw [if_neg (by simp)]; exact (osj h).symm⟩
  ·cases h
def Q4 (gd:Option (Nat×Bool)) (f:Nat->AV):Prop :=
 match gd with
 | none=>True
 | some (s,c)=>f s=.bool c
theorem V2 {s:Nat} {b:Bool} {f:Nat->AV} (h:Q4 (some (s,b)) f):gdv (f s) b=some true:=by
 rw [show f s=.bool b from h]; simp [gdv]
theorem C4 {s:Nat} {b:Bool} {f:Nat->AV} (h:f s=.bool b):Q4 (some (s,b)) f:=h
theorem Tm {p:Bool} {n:Nat} {d:Option Nat} {gd:Option (Nat×Bool)} {fo:Opd} {xs:List Opd} {tys:List (List (Option Ty))} {f:Nat->AV} {ob:Oid->Option Ob} {F:FuncId} {caps args0 args:List AV} {rv:RV} {r:AV×List (Oid×Option Ob)}
  (hgd:Q4 gd f) (hfo:fo.ev f=.fn F caps) (h1:Gt (gnd ob 8) ((xs++caps.map Opd.cst).map (Opd.ev f))=some args0) (hn:Ib tys args0=args) (hb:Ba P F=true) (hc:Az P G F args rv) (hni:rv.noI=true) (hr:rv.out (E9 ((d.getD 0,0),n)) ((xs++caps.map Opd.cst).map (Opd.ev f))=r) :
  Ds P G p n ⟨d,gd,.call fo xs tys⟩ f ob (1,r.1,r.2):=by
 subst hn;have key:EvR P G p f ob ((d.getD 0,0),n) (.call fo xs tys) (1,r.1,r.2):=.inr ⟨fo,xs,tys,F,caps,rfl,hfo,.inl ⟨rfl,hb,args0,rv,.inl ⟨h1,hni⟩,hc,hr⟩⟩;unfold Ds;cases gd with
 | none=>exact key
 | some sb=>exact ⟨true,V2 hgd,by rw [if_pos rfl]; exact key⟩
theorem Xl {n:Nat} {d:Option Nat} {gd:Option (Nat×Bool)} {q:Q} {f:Nat->AV} {ob:Oid->Option Ob} {r:Rec} (hgd:Q4 gd f) (h:evL f ((d.getD 0,0),n) q=some r):Ds P G false n ⟨d,gd,q⟩ f ob r:=by
 have key:EvR P G false f ob ((d.getD 0,0),n) q r:=.inl (.inl (.inr h));unfold Ds;cases gd with
 | none=>exact key
 | some sb=>exact ⟨true,V2 hgd,by rw [if_pos rfl]; exact key⟩
theorem Av {g k:Nat} {tl:List (Nat×AV)} {ol:List (Oid×Option Ob)} {Kf:List (Nat×AV)->List (Oid×Option Ob)->Prop} (h:Kf tl ol):XW P G g k [] tl ol Kf:=⟨[],tl,ol,⟨rfl,rfl,rfl⟩,h⟩
theorem Qo {bad:List (Nat×Nat)} {g k:Nat} {tl:List (Nat×AV)} {ol:List (Oid×Option Ob)} {ra:List Rec} {da:List (List Oid)} {Kf:List (Nat×AV)->List (Oid×Option Ob)->Prop} (hb:Sz (ra.reverse++[]) (da.reverse++[]) bad) (h:Kf tl ol):XD P G bad g k [] tl ol ra da Kf:=⟨[],[],tl,ol,⟨rfl,rfl,rfl,rfl⟩,hb,h⟩
section
variable {g k d:Nat} {gd:Option (Nat×Bool)} {q:Q} {xs:List X} {tl:List (Nat×AV)} {ol:List (Oid×Option Ob)} {bad:List (Nat×Nat)} {ra:List Rec} {da:List (List Oid)} {Kf:List (Nat×AV)->List (Oid×Option Ob)->Prop}
theorem X1 (c:Nat) (v:AV) (us ol':List (Oid×Option Ob)) (h:Ds P G false (g+k) ⟨some d,gd,q⟩ (Ao tl) (Aq ol) (c,v,us)) (he:Ap us (Aq ol)=Aq ol') (h3:XW P G g (k+1) xs ((d,v) :: tl) ol' Kf):XW P G g k (⟨some d,gd,q⟩ :: xs) tl ol Kf :=
 by
 obtain ⟨rs,tl',ol',h3,hk⟩:=h3;exact ⟨_,tl',ol',⟨_,_,rfl,h,by simp only [Fb,Mn,he]; exact h3⟩,hk⟩
theorem Xb (c:Nat) (v:AV) (us ol':List (Oid×Option Ob)) (h:Ds P G false (g+k) ⟨none,gd,q⟩ (Ao tl) (Aq ol) (c,v,us)) (he:Ap us (Aq ol)=Aq ol') (h3:XW P G g (k+1) xs tl ol' Kf):XW P G g k (⟨none,gd,q⟩ :: xs) tl ol Kf :=
 by
 obtain ⟨rs,tl',ol',h3,hk⟩:=h3;exact ⟨_,tl',ol',⟨_,_,rfl,h,by simp only [Fb,he]; exact h3⟩,hk⟩
theorem X9 (c:Nat) (v:AV) (us ol':List (Oid×Option Ob)) (h:Ds P G false (g+k) ⟨some d,gd,q⟩ (Ao tl) (only (rdX (Ao tl) (Aq ol) ⟨some d,gd,q⟩) (Aq ol)) (c,v,us)) (he:Ap us (Aq ol)=Aq ol') (h3:XD P G bad g (k+1) xs ((d,v) :: tl) ol' ((c,v,us) :: ra) ((rdX (Ao tl) (Aq ol) ⟨some d,gd,q⟩) :: da) Kf):XD P G bad g k (⟨some d,gd,q⟩ :: xs) tl ol ra da Kf :=
 by
 obtain ⟨rs,ds,tl',ol',h3,hb,hk⟩:=h3;refine ⟨_,_,tl',ol',⟨_,rs,ds,rfl,rfl,h,by simp only [Fb,Mn,he]; exact h3⟩,?_,hk⟩
 simpa using hb
theorem O4 (c:Nat) (v:AV) (us:List (Oid×Option Ob)) (h:Ds P G false (g+k) ⟨some d,gd,q⟩ (Ao tl) (Aq ol) (c,v,us)) (h3:XW P G g (k+1) xs ((d,v) :: tl) (us.reverseAux ol) Kf) (hx:Dm us=true):XW P G g k (⟨some d,gd,q⟩ :: xs) tl ol Kf:=X1 c v us _ h (D7 us ol hx) h3
theorem Yc (c:Nat) (v:AV) (us:List (Oid×Option Ob)) (h:Ds P G false (g+k) ⟨none,gd,q⟩ (Ao tl) (Aq ol) (c,v,us)) (h3:XW P G g (k+1) xs tl (us.reverseAux ol) Kf) (hx:Dm us=true):XW P G g k (⟨none,gd,q⟩ :: xs) tl ol Kf:=Xb c v us _ h (D7 us ol hx) h3
theorem Tv (c:Nat) (v:AV) (us:List (Oid×Option Ob)) (h:Ds P G false (g+k) ⟨some d,gd,q⟩ (Ao tl) (only (rdX (Ao tl) (Aq ol) ⟨some d,gd,q⟩) (Aq ol)) (c,v,us)) (h3:XD P G bad g (k+1) xs ((d,v) :: tl) (us.reverseAux ol) ((c,v,us) :: ra) ((rdX (Ao tl) (Aq ol) ⟨some d,gd,q⟩) :: da) Kf) (hx:Dm us=true):XD P G bad g k (⟨some d,gd,q⟩ :: xs) tl ol ra da Kf:=X9 c v us _ h (D7 us ol hx) h3
-- the shape of most steps: what the machine says is found by reckoning
theorem rs0 (v:AV) (h:Bq (g+k) ⟨some d,gd,q⟩ (Ao tl) (Aq ol)=some (0,v,[])) (h3:XW P G g (k+1) xs ((d,v) :: tl) ol Kf):XW P G g k (⟨some d,gd,q⟩ :: xs) tl ol Kf:=O4 0 v [] (Ek h) h3 rfl
theorem rs1 (v:AV) (i:Oid) (o:Ob) (h:Bq (g+k) ⟨some d,gd,q⟩ (Ao tl) (Aq ol)=some (1,v,[(i,some o)])) (h3:XW P G g (k+1) xs ((d,v) :: tl) ((i,some o) :: ol) Kf) (hx:Iv (some o)=true:=by rfl):XW P G g k (⟨some d,gd,q⟩ :: xs) tl ol Kf:=O4 1 v _ (Ek h) h3 (by simp only [Dm,List.all_cons,List.all_nil,hx]; rfl)
theorem rs2 (v:AV) (j i:Oid) (o:Ob) (h:Bq (g+k) ⟨some d,gd,q⟩ (Ao tl) (Aq ol)=some (2,v,[(j,none),(i,some o)])) (h3:XW P G g (k+1) xs ((d,v) :: tl) ((i,some o) :: (j,none) :: ol) Kf) (hx:Iv (some o)=true:=by rfl):XW P G g k (⟨some d,gd,q⟩ :: xs) tl ol Kf:=O4 2 v _ (Ek h) h3 (by simp only [Dm,List.all_cons,List.all_nil,hx]; rfl)
theorem Yw (j i:Oid) (o:Ob) (h:Bq (g+k) ⟨none,gd,q⟩ (Ao tl) (Aq ol)=some (2,.any,[(j,none),(i,some o)])) (h3:XW P G g (k+1) xs tl ((i,some o) :: (j,none) :: ol) Kf) (hx:Iv (some o)=true:=by rfl):XW P G g k (⟨none,gd,q⟩ :: xs) tl ol Kf:=Yc 2 _ _ (Ek h) h3 (by simp only [Dm,List.all_cons,List.all_nil,hx]; rfl)
theorem ds0 (v:AV) (h:Bq (g+k) ⟨some d,gd,q⟩ (Ao tl) (only (rdX (Ao tl) (Aq ol) ⟨some d,gd,q⟩) (Aq ol))=some (0,v,[])) (h3:XD P G bad g (k+1) xs ((d,v) :: tl) ol ((0,v,[]) :: ra) ((rdX (Ao tl) (Aq ol) ⟨some d,gd,q⟩) :: da) Kf):XD P G bad g k (⟨some d,gd,q⟩ :: xs) tl ol ra da Kf:=Tv 0 v [] (Ek h) h3 rfl
theorem dsl (v:AV) (h:Bq (g+k) ⟨some d,gd,q⟩ (Ao tl) (only (rdX (Ao tl) (Aq ol) ⟨some d,gd,q⟩) (Aq ol))=some (1,v,[])) (h3:XD P G bad g (k+1) xs ((d,v) :: tl) ol ((1,v,[]) :: ra) ((rdX (Ao tl) (Aq ol) ⟨some d,gd,q⟩) :: da) Kf):XD P G bad g k (⟨some d,gd,q⟩ :: xs) tl ol ra da Kf:=Tv 1 v [] (Ek h) h3 rfl
section
variable {fo:Opd} {ys:List Opd} {tys:List (List (Option Ty))} {F:FuncId} {caps:List AV} {rv:RV} {args0:List AV}
theorem Cr (v:AV) (us:List (Oid×Option Ob)) (zs args:List AV) (hgd:Q4 gd (Ao tl)) (h1:Gt (gnd (Aq ol) 8) zs=some args0) (hc:Az P G F args rv) (hb:Ba P F=true) (h3:XW P G g (k+1) xs ((d,v) :: tl) (us.reverseAux ol) Kf) (hfo:fo.ev (Ao tl)=.fn F caps:=by kernel_rfl) (hz:(ys++caps.map Opd.cst).map (Opd.ev (Ao tl))=zs:=by kernel_rfl) (hn:Ib tys args0=args:=by kernel_rfl) (hr:rv.out (E9 ((d,0),g+k)) zs=(v,us):=by kernel_rfl) (hx:Dm us=true:=by rfl) (hni:rv.noI=true:=by kernel_rfl):XW P G g k (⟨some d,gd,.call fo ys tys⟩ :: xs) tl ol Kf:=by
 subst hz;exact O4 1 v us (Tm (P:=P) (G:=G) (p:=false) (n:=g+k) (d:=some d) hgd hfo h1 hn hb hc hni hr) h3 hx
theorem Pb (v:AV) (us:List (Oid×Option Ob)) (zs args:List AV) (hgd:Q4 gd (Ao tl)) (h1:Gt (gnd (only (rdX (Ao tl) (Aq ol) ⟨some d,gd,.call fo ys tys⟩) (Aq ol)) 8) zs=some args0) (hc:Az P G F args rv) (hb:Ba P F=true) (h3:XD P G bad g (k+1) xs ((d,v) :: tl) (us.reverseAux ol) ((1,v,us) :: ra) ((rdX (Ao tl) (Aq ol) ⟨some d,gd,.call fo ys tys⟩) :: da) Kf) (hfo:fo.ev (Ao tl)=.fn F caps:=by kernel_rfl) (hz:(ys++caps.map Opd.cst).map (Opd.ev (Ao tl))=zs:=by kernel_rfl) (hn:Ib tys args0=args:=by kernel_rfl) (hr:rv.out (E9 ((d,0),g+k)) zs=(v,us):=by kernel_rfl) (hx:Dm us=true:=by rfl) (hni:rv.noI=true:=by kernel_rfl):XD P G bad g k (⟨some d,gd,.call fo ys tys⟩ :: xs) tl ol ra da Kf:=by
 subst hz;exact Tv 1 v us (Tm (P:=P) (G:=G) (p:=false) (n:=g+k) (d:=some d) hgd hfo h1 hn hb hc hni hr) h3 hx
theorem rsU (v:AV) (us:List (Oid×Option Ob)) (h:Bq (g+k) ⟨some d,gd,q⟩ (Ao tl) (Aq ol)=some (2,v,us)) (h3:XW P G g (k+1) xs ((d,v) :: tl) (us.reverseAux ol) Kf) (hx:Dm us=true:=by rfl):XW P G g k (⟨some d,gd,q⟩ :: xs) tl ol Kf:=O4 2 v us (Ek h) h3 hx
end
end
-- what arguments read as
theorem D4 {g:AV->Option AV}:Gt g []=some []:=rfl
theorem A0 {g:AV->Option AV} {c d:AV} {cs ds:List AV} (h:g c=some d) (hs:Gt g cs=some ds):Gt g (c :: cs)=some (d :: ds):=by simp only [Gt,h,hs]
section
variable {ob:Oid->Option Ob} {n:Nat}
theorem Fh {i:Oid} {t u:Ty} {e:TypeId} {xs:List u.D} {len:Nat} (h:ob i=some (.arr e u xs)) (hl:len=xs.length):gnd ob (n+1) (.own i t 0 len)=some (.tree u xs):=by
 subst hl;simp only [gnd,h,Nat.zero_add,Nat.le_refl,if_true,List.drop_zero,List.take_length]
theorem Pk {cs ds:List AV} (h:Gt (gnd ob n) cs=some ds):gnd ob (n+1) (.agg cs)=some (.agg ds):=by simp only [gnd,h,Option.map_some]
end
-- steps that hang on something
section
variable {n:Nat} {d:Option Nat} {f:Nat->AV} {ob:Oid->Option Ob}
theorem Sj {sz:Nat} {x i:Opd} {t:Ty} {xs:List t.D} {y:t.D} {k:IntKind} {m:Int} {j:Nat} (hx:(x.ev f).un=.tree t xs) (hi:i.ev f=.int k m) (hs:sz=t.size) (h0:0<=m) (hj:m.toNat=j) (hy:xs[j]? =some y) {g:Option (Nat->Prop)} (hg:(x.ev f).tag=g:=by kernel_rfl):Bq n ⟨d,none,.i (.idx sz x i)⟩ f ob=some (0,.telt g t y 0,[]):=by
 subst hs hj hg;simp [Bq,ev,evN,hx,hi,h0,hy]
theorem Vj {sz:Nat} {x i:Opd} {t:Ty} {o:Oid} {len:Nat} {k:IntKind} {m:Int} {j:Nat} (hx:x.ev f=.own o t 0 len) (hi:i.ev f=.int k m) (hs:sz=t.size) (h0:0<=m) (hj:m.toNat=j) (hl:j<len):Bq n ⟨d,none,.i (.idx sz x i)⟩ f ob=some (0,.elt o j 0,[]):=by
 subst hs hj;have:m<(len:Int):=by omega
 simp [Bq,ev,evN,hx,hi,h0,AV.un,this]
theorem Xm {one:Bool} {m:Nat} {x:Opd} {i:Oid} {j k:Nat} {e:TypeId} {t:Ty} {xs:List t.D} {y:t.D} {c:AV} (hx:x.ev f=.elt i j k) (hob:ob i=some (.arr e t xs)) (hy:xs[j]? =some y) (hc:Cc one m k (t.av y)=some c):Bq n ⟨d,none,.i (.ld one m x)⟩ f ob=some (1,c,[]):=by
 simp [Bq,ev,evN,evR,hx,hob,hy,hc]
theorem Yp {one:Bool} {m:Nat} {x y:Opd} {i:Oid} {j k:Nat} {e:TypeId} {t:Ty} {xs:List t.D} {x0 x1:t.D} {cs:List AV} (hx:x.ev f=.elt i j k) (hob:ob i=some (.arr e t xs)) (hy:xs[j]? =some x0) (hc:F9 one m k (t.av x0) (y.ev f)=some cs) (hd:t.ofAV cs=some x1):Bq n ⟨d,none,.st one m x y⟩ f ob=some (2,.any,[(i,none),(i,some (.arr e t (xs.set j x1)))]):=by
 simp [Bq,ev,Qx,hx,hob,hy,hc,hd]
theorem Yg {e:TypeId} {t:Ty} {by_:Nat} {l c:Opd} {k k':IntKind} {m m':Int} {j:Nat} (hl:l.ev f=.int k m) (hc:c.ev f=.int k' m') (h:0<=m∧m<=m'∧m'<=1073741824∧(by_:Int)*m'<=140737488355328) (hj:m.toNat=j):Bq n ⟨d,none,.make e t by_ l c⟩ f ob=some (1,.own ((d.getD 0,0),n) t 0 j,[(((d.getD 0,0),n),some (.arr e t (List.replicate j t.dflt)))]):=by
 subst hj;simp only [Bq,ev,Nw,hl,hc,if_pos h]
theorem Ga {t t':Ty} {i:Oid} {e:TypeId} {xs:List t.D} {len:Nat} (h:ob i=some (.arr e t xs)) (hl:len=xs.length):Dj ob t (.own i t' 0 len)=some xs:=by
 subst hl;simp only [Dj,h,Nat.zero_add,Nat.le_refl,if_true,Ty.eq?_self,De,List.drop_zero,List.take_length]
theorem Wn {t:Ty}:J5 f ob t []=some []:=rfl
theorem D9 {t:Ty} {x:Opd} {c:AV} {xs:List Opd} {ys:List t.D} {yss:List (List t.D)} (hx:x.ev f=c) (hs:Dj ob t c=some ys) (h:J5 f ob t xs=some yss):J5 f ob t (x :: xs)=some (ys :: yss):=by
 simp only [J5,hx,hs,h]
theorem Yi {t:Ty} {xs:List Opd} {yss:List (List t.D)} {us:List (Oid×Option Ob)} (h:J5 f ob t xs=some yss) {e:TypeId} (hu:(xs.flatMap fun x=>F7 (x.ev f))=us):Bq n ⟨d,none,.mkV e (.slice t) 1 xs⟩ f ob=some (2,.tree (.slice t) yss,us):=by
 subst hu;simp only [Bq,ev,J3,h,if_true]
theorem V4 {e:TypeId} {t t':Ty} {by_:Nat} {x y:Opd} {c:AV} {ys xs zs:List t.D} {j:Oid} {len:Nat} (hx:x.ev f=.own j t' 0 len) (hob:ob j=some (.arr e t xs)) (hl:len=xs.length) (hy:y.ev f=c) (hs:Dj ob t c=some ys) (hz:zs=xs++ys) (h:xs.length+ys.length<=1073741824∧(xs.length+ys.length)*by_<=140737488355328) :
  Bq n ⟨d,none,.append e t by_ x y⟩ f ob=some (2,.own (j.1,n) t 0 zs.length,[(j,none),((j.1,n),some (.arr e t zs))]):=by
 subst hl hz;simp only [Bq,ev,Eb,hx,hy,hs,hob,Ty.eq?_self,Nat.le_refl,true_and,h.1,h.2,and_self,if_true,De,List.take_length,List.length_append]
theorem X6 {x y:Opd} {j:Nat} (hx:x.ev f=.int .i64 j) (hy:y.ev f=.int .i64 1) (h:j+1<4611686018427387904):Bq n ⟨d,none,.i (.bin .add x y)⟩ f ob=some (0,.int .i64 ((j+1:Nat):Int),[]):=by
 have:IntKind.i64.wrap ((j:Int)+1)=((j+1:Nat):Int):=by rw [Go.IntWalk.i64_in _ (by omega)]; rfl
 simp [Bq,ev,evN,Li,hx,hy,this]
theorem Yl {x y:Opd} {k:IntKind} {a b:Int} (hx:x.ev f=.int k a) (hy:y.ev f=.int k b) (h:b≠0):Bq n ⟨d,none,.i (.bin .quo x y)⟩ f ob=some (0,.int k (k.wrap (a.tdiv b)),[]):=by
 simp [Bq,ev,evN,Li,hx,hy,h]
theorem Xj {x y:Opd} {k:IntKind} {a b:Int} (hx:x.ev f=.int k a) (hy:y.ev f=.int k b) (h:b≠0):Bq n ⟨d,none,.i (.bin .rem x y)⟩ f ob=some (0,.int k (a.tmod b),[]):=by
 simp [Bq,ev,evN,Li,hx,hy,h]
theorem Gj {x y:Opd} {a b:ByteArray} (hx:x.ev f=.str a) (hy:y.ev f=.str b) (h:(a.size+b.size:Nat)<=9223372036854775807):Bq n ⟨d,none,.i (.bin .add x y)⟩ f ob=some (0,.str (a++b),[]):=by
 simp [Bq,ev,evN,Li,hx,hy,h]
end
theorem Ae {c:Opd} {x y:AC} {R:AE->St->Prop} {S:St} {t:Bool} (ht:t=true) (h1:awp P G x R S) (h:c.ev S.tm=.bool t:=by kernel_rfl):awp P G (.cond c x y) R S:=by
 subst ht; exact .inl ⟨true,h,fun _=>h1,fun h=>(nomatch h)⟩
theorem Af {c:Opd} {x y:AC} {R:AE->St->Prop} {S:St} {t:Bool} (ht:t=false) (h2:awp P G y R S) (h:c.ev S.tm=.bool t:=by kernel_rfl):awp P G (.cond c x y) R S:=by
 subst ht; exact .inl ⟨false,h,fun h=>(nomatch h),fun _=>h2⟩
theorem Ax {i:Nat} {a:AC} {R:AE->St->Prop} {S:St} (h:awp P G a (D5 i R) S):awp P G (.block i a) R S:=h
theorem Ub {a:AC} {R:AE->St->Prop} {S:St} {α:Type} (I:α->St->Prop) (μ:α->Nat) (h0:∃ s S0,WeakG G S S0∧I s S0) (h1:∀ s S1,I s S1->awp P G a (E3 (fun S2=>∃ s' S3,WeakG G S2 S3∧I s' S3∧μ s'<μ s) R) S1):awp P G (.loop a) R S:=⟨α,I,μ,h0,h1⟩
theorem C3 {i:Nat} {R:AE->St->Prop} {S:St} (h:R (.exit i) S):awp P G (.exit i) R S:=h
theorem Ak {R:AE->St->Prop} {S:St} (h:R .normal S):awp P G .skip R S:=h
theorem Ag {R:AE->St->Prop} {S:St} (h:R .ret S):awp P G .ret R S:=h
end
section
variable {K:St->Prop} {R:AE->St->Prop} {S:St} {i j:Nat}
theorem tn_ (h:K S):E3 K R .normal S:=h
theorem te_ (h:R (.exit i) S):E3 K R (.exit i) S:=h
theorem tr_ (h:R .ret S):E3 K R .ret S:=h
theorem bn_ (h:R .normal S):D5 i R .normal S:=h
theorem be_ (h:R .normal S):D5 i R (.exit i) S:=by simpa [D5] using h
theorem br_ (h:R .ret S):D5 i R .ret S:=h
end
def tmL:Nat->List AV->List (Nat×AV)
 | _,[]=>[]
 | k,v :: r=>(k,v) :: tmL (k+1) r
theorem Ru:∀ (l:List AV) (k i:Nat),Ao (tmL k l) (k+i)=l.getD i .any
 | [],k,i=>by simp [tmL,Ao]
 | v :: r,k,i=>by
  cases i with
  | zero=>simp [tmL,Ao]
  | succ i =>
   have:=Ru r (k+1) i;simp only [tmL,Ao];rw [if_neg (by omega),show k+(i+1)=k+1+i by omega,this];simp
theorem Xa (args:List AV):(fun i=>args.getD i .any)=Ao (tmL 0 args):=by
 funext i;have:=Ru args 0 i;rw [Nat.zero_add] at this;exact this.symm
theorem St.init_eq (args:List AV):St.init args=⟨Ao (tmL 0 args),Aq [],1⟩:=by
 unfold St.init;rw [Xa];rfl
theorem Rq {G:World->Prop} {tl:List (Nat×AV)} {ol:List (Oid×Option Ob)} {g:Nat} (s:Nat) (v v':AV) (h:Ao tl s=v) (e:v=v'):WeakG G ⟨Ao tl,Aq ol,g⟩ ⟨Ao ((s,v') :: tl),Aq ol,g⟩:=by
 subst e
 have:Ao ((s,v) :: tl)=Ao tl:=by
  funext i;simp only [Ao];split
  ·rename_i e; rw [e]; exact h.symm
  ·rfl
 rw [this]; exact WeakG.refl _
section
variable {P:Program} {G:World->Prop} (hfol:P.follows .mixedOrders=true) {g:FuncId} {fn:Func} (hf:P.funcs[g]? =some fn) {ac:AC} {rs:List Res} (hc:Aw P fn=some (ac,rs)) {args:List AV} {r:RV} {n:Nat} (hN:fn.ntmps=n) (hn:args.length<=n)
include hfol hf hc hN hn
theorem Ay [IsP P] {tl:List (Nat×AV)} (htl:tmL 0 args=tl) (h:awp P G ac (fun e S=>∃ S',WeakG G S S'∧(e=.normal∨e=.ret)∧RetOK [] rs S' r) ⟨Ao tl,Aq [],1⟩):Az P G g args r:=by
 refine Ws hfol hf hc hN hn ?_;rw [St.init_eq,htl];exact h
omit hN hn in
end
theorem A2 {G:World->Prop} {rs:List Res} {f:Nat->AV} {ob:Oid->Option Ob} {g:Nat} {r:RV} (avs:List AV) {vs:List Value} {e:AE} (h2:PartsR vs ob avs r.ps) (he:e=.normal∨e=.ret:=by simp) (h1:Res.evL f ob rs=some avs:=by kernel_rfl) (h3:ndB (Of ob (Jj avs))=true:=by kernel_rfl) (h4:r.tup=decide (rs.length≠1):=by kernel_rfl):∃ S',WeakG G ⟨f,ob,g⟩ S'∧(e=.normal∨e=.ret)∧RetOK vs rs S' r :=
 ⟨_,WeakG.refl _,he,avs,r.ps,h1,h2,Jp h3,by cases r; cases h4; rfl⟩
section
variable {vs:List Value} {ob:Oid->Option Ob}
theorem Xh {cs r:List AV} {ls:List RL} {ps:List (Bool×List RL)} (h1:LeavesR vs ob cs ls) (h2:PartsR vs ob r ps):PartsR vs ob (.agg cs :: r) ((true,ls) :: ps):=⟨ls,ps,rfl,h1,h2⟩
theorem Ar {c:AV} {r:List AV} {l:RL} {ps:List (Bool×List RL)} (hc:c.one=true) (h1:LeafR vs ob c l) (h2:PartsR vs ob r ps):PartsR vs ob (c :: r) ((false,[l]) :: ps):=by
 rw [F4 (by rintro ⟨_,rfl⟩; cases hc)];exact ⟨l,ps,rfl,h1,h2⟩
theorem As:PartsR vs ob [] []:=rfl
theorem Fi {c:AV} {cs:List AV} {l:RL} {ls:List RL} (h1:LeafR vs ob c l) (h2:LeavesR vs ob cs ls):LeavesR vs ob (c :: cs) (l :: ls):=⟨l,ls,rfl,h1,h2⟩
theorem Xi:LeavesR vs ob [] []:=rfl
theorem Yz {c:AV} {l:RL} (h:Il ob c=some l):LeafR vs ob c l:=.inl (.inl h)
theorem Gx {i:Oid} {t u:Ty} {e:TypeId} {xs:List u.D} {len:Nat} (h:ob i=some (.arr e u xs)) (hl:len=xs.length):LeafR vs ob (.own i t 0 len) (.new e u xs):=by
 subst hl;exact .inl (.inl (by simp only [Il,h,Nat.le_refl,and_self,if_true,List.take_length]))
theorem Xx {e:TypeId} {t:Ty} (h:t.flat=true):LeafR vs ob .nils (.new e t []):=.inl (.inr (.inr ⟨e,t,rfl,rfl,h⟩))
end
end Go.Proofs.YtgljmpiofhlkjaaDoor
namespace Go.Proofs.YtgljmpiofhlkjaaDoor
open Go.RowKit Go.Deep
abbrev tm (n:Nat):Opd:=.tmp n
abbrev cb (b:Bool):Opd:=.cst (.bool b)
abbrev ci (n:Int):Opd:=.cst (.int .i64 n)
abbrev xo (d:Nat) (q:Q):X:=⟨some d,none,q⟩
abbrev xn (q:Q):X:=⟨none,none,q⟩
abbrev qm (x:Opd):Q:=.i (.mov x)
abbrev ql (x:Opd):Q:=.i (.ld true 1 x)
abbrev qs (x y:Opd):Q:=.st true 1 x y
abbrev qf (k:Nat) (x:Opd):Q:=.i (.fld k x)
abbrev qb (o:BinOp) (x y:Opd):Q:=.i (.bin o x y)
abbrev qc (f:FuncId) (xs:List Opd) (tys:List (List (Option Ty))):Q:=.call (.cst (.fn f [])) xs tys
abbrev rg (xs:List X):AC:=.region xs false []
abbrev ai (n:Int):AV:=.int .i64 n
abbrev oi (a b:Nat):Oid:=((a,0),b)
def Wl (d:Option Nat) (v:AV) (tl:List (Nat×AV)):List (Nat×AV) :=
 match d with
 | some d=>(d,v) :: tl
 | none=>tl
theorem Vn (d:Option Nat) (v:AV) (tl:List (Nat×AV)):Fb d v (Ao tl)=Ao (Wl d v tl):=by
 cases d with
 | none=>rfl
 | some d=>simp only [Fb,Wl,Mn]
noncomputable def Qb (g:Nat):Nat->Nat->List X->List (Nat×AV)->List (Oid×Option Ob)->Option (List (Nat×AV)×List (Oid×Option Ob))
 | 0,_,_,tl,ol=>some (tl,ol)
 | _+1,_,[],_,_=>none
 | n+1,k,x :: xs,tl,ol=>match Bq (g+k) x (Ao tl) (Aq ol) with
  | some (_,v,us)=>if Dm us then Qb g n (k+1) xs (Wl x.dst v tl) (us.reverseAux ol) else none
  | none=>none
theorem Yt {P:Program} {G:World->Prop} {g:Nat} {Kf:List (Nat×AV)->List (Oid×Option Ob)->Prop}:∀ (n k:Nat) (xs:List X) (tl:List (Nat×AV)) (ol:List (Oid×Option Ob)) (r:List (Nat×AV)×List (Oid×Option Ob)),Qb g n k xs tl ol=some r->XW P G g (k+n) (xs.drop n) r.1 r.2 Kf->XW P G g k xs tl ol Kf
 | 0,k,xs,tl,ol,r,h,hk=>by
  obtain rfl:=osj h;exact hk
 | n+1,k,[],tl,ol,r,h,hk=>by cases h
 | n+1,k,x :: xs,tl,ol,r,h,hk=>by
  simp only [Qb] at h;split at h
  ·rename_i c v us hst;split at h
   ·rename_i hx;obtain ⟨rs,tl',ol',h1,h2⟩:=Yt (P:=P) (G:=G) n (k+1) xs _ _ r h (by rw [show k+1+n=k+(n+1) by omega]; exact hk);exact ⟨(c,v,us) :: rs,tl',ol',⟨_,_,rfl,Ek hst,by rw [Vn,D7 _ _ hx]; exact h1⟩,h2⟩
   ·cases h
  ·cases h
theorem rsB {P:Program} {G:World->Prop} {g k:Nat} {xs:List X} {tl:List (Nat×AV)} {ol:List (Oid×Option Ob)} {Kf:List (Nat×AV)->List (Oid×Option Ob)->Prop} (n:Nat) (hk:XW P G g (k+n) (xs.drop n) ((Qb g n k xs tl ol).getD ([],[])).1 ((Qb g n k xs tl ol).getD ([],[])).2 Kf) (h:(Qb g n k xs tl ol).isSome=true:=by kernel_rfl):XW P G g k xs tl ol Kf:=by
 obtain ⟨r,hr⟩:=Option.isSome_iff_exists.1 h;rw [hr] at hk;exact Yt n k xs tl ol r hr hk
noncomputable def Vx (g:Nat):Nat->Nat->List X->List (Nat×AV)->List (Oid×Option Ob)->Option (List (Nat×AV))
 | 0,_,_,tl,_=>some tl
 | _+1,_,[],_,_=>none
 | n+1,k,x :: xs,tl,ol=>match Bq (g+k) x (Ao tl) (Aq ol) with
  | some (_,v,[])=>Vx g n (k+1) xs (Wl x.dst v tl) ol
  | _=>none
theorem Yh {P:Program} {G:World->Prop} {g:Nat} {ol:List (Oid×Option Ob)} {Kf:List (Nat×AV)->List (Oid×Option Ob)->Prop}:∀ (n k:Nat) (xs:List X) (tl:List (Nat×AV)) (r:List (Nat×AV)),Vx g n k xs tl ol=some r->XW P G g (k+n) (xs.drop n) r ol Kf->XW P G g k xs tl ol Kf
 | 0,k,xs,tl,r,h,hk=>by
  obtain rfl:=osj h;exact hk
 | n+1,k,[],tl,r,h,hk=>by cases h
 | n+1,k,x :: xs,tl,r,h,hk=>by
  simp only [Vx] at h;split at h
  ·rename_i c v hst;obtain ⟨rs,tl',ol',h1,h2⟩:=Yh (P:=P) (G:=G) n (k+1) xs _ r h (by rw [show k+1+n=k+(n+1) by omega]; exact hk);exact ⟨(c,v,[]) :: rs,tl',ol',⟨_,_,rfl,Ek hst,by rw [Vn]; exact h1⟩,h2⟩
  ·cases h
theorem rsT {P:Program} {G:World->Prop} {g k:Nat} {xs:List X} {tl:List (Nat×AV)} {ol:List (Oid×Option Ob)} {Kf:List (Nat×AV)->List (Oid×Option Ob)->Prop} (n:Nat) (hk:XW P G g (k+n) (xs.drop n) ((Vx g n k xs tl ol).getD []) ol Kf) (h:(Vx g n k xs tl ol).isSome=true:=by kernel_rfl):XW P G g k xs tl ol Kf:=by
 obtain ⟨r,hr⟩:=Option.isSome_iff_exists.1 h;rw [hr] at hk;exact Yh n k xs tl r hr hk
theorem Al {P:Program} {G:World->Prop} {g:Nat} {xs:List X} {bad:List (Nat×Nat)} {y:AC} {R:AE->St->Prop} {tl:List (Nat×AV)} {ol:List (Oid×Option Ob)} (h:awp P G y R ⟨Ao ((Qb g xs.length 0 xs tl ol).getD ([],[])).1,Aq ((Qb g xs.length 0 xs tl ol).getD ([],[])).2,g+xs.length⟩) (hs:(Qb g xs.length 0 xs tl ol).isSome=true:=by kernel_rfl):awp P G (.seq (.region xs false bad) y) R ⟨Ao tl,Aq ol,g⟩:=by
 refine Ac (Ab (g+xs.length) (rsB xs.length (by rw [List.drop_length]; exact Av (tn_ ⟨_,WeakG.refl _,h⟩)) hs) rfl)
section
variable {n:Nat} {d:Option Nat} {f:Nat->AV} {ob:Oid->Option Ob} {ol:List (Oid×Option Ob)}
theorem Xs {i:Oid} {e:TypeId} {t:Ty} {sz:Nat} {xs:List Opd} {r:Rec} (h:(Ot f i e t sz xs).map (fun r=>((1:Nat),r.1,r.2))=some r):evL f i (.mkV e t sz xs)=some r:=by
 simp only [evL];cases hq:Ot f i e t sz xs with
 | none=>rw [hq] at h; cases h
 | some q=>rw [hq] at h; obtain ⟨v,us⟩:=q; exact h
end
section
variable {P:Program} {G:World->Prop} {g k d:Nat} {gd:Option (Nat×Bool)} {q:Q} {xs:List X} {tl:List (Nat×AV)} {ol:List (Oid×Option Ob)} {bad:List (Nat×Nat)} {ra:List Rec} {da:List (List Oid)} {Kf:List (Nat×AV)->List (Oid×Option Ob)->Prop}
theorem Yv (v:AV) (i:Oid) (o:Ob) (hgd:Q4 gd (Ao tl)) (h:evL (Ao tl) ((d,0),g+k) q=some (1,v,[(i,some o)])) (h3:XW P G g (k+1) xs ((d,v) :: tl) ((i,some o) :: ol) Kf) (hx:Iv (some o)=true:=by rfl):XW P G g k (⟨some d,gd,q⟩ :: xs) tl ol Kf:=O4 1 v _ (Xl (d:=some d) hgd h) h3 (by simp only [Dm,List.all_cons,List.all_nil,hx]; rfl)
theorem Yx (v:AV) (i:Oid) (o:Ob) (hgd:Q4 gd (Ao tl)) (h:evL (Ao tl) ((d,0),g+k) q=some (1,v,[(i,some o)])) (h3:XD P G bad g (k+1) xs ((d,v) :: tl) ((i,some o) :: ol) ((1,v,[(i,some o)]) :: ra) ((rdX (Ao tl) (Aq ol) ⟨some d,gd,q⟩) :: da) Kf) (hx:Iv (some o)=true:=by rfl):XD P G bad g k (⟨some d,gd,q⟩ :: xs) tl ol ra da Kf:=Tv 1 v _ (Xl (d:=some d) hgd h) h3 (by simp only [Dm,List.all_cons,List.all_nil,hx]; rfl)
end
-- what arguments read as
section
variable {ol:List (Oid×Option Ob)} {n:Nat}
end
end Go.Proofs.YtgljmpiofhlkjaaDoor
namespace Go.Proofs.YtgljmpiofhlkjaaDoor
open Go.RowKit Go.Deep
section
variable {f:Nat->AV} {ob:Oid->Option Ob} {n:Nat} {d:Option Nat}
end
end Go.Proofs.YtgljmpiofhlkjaaDoor
namespace Go.Proofs.YtgljmpiofhlkjaaDoor
open Go.RowKit Go.Deep
abbrev T5:Ty:=.pair .int (.pair .int (.pair .int (.pair .int .int)))
section
variable {P:Program} {G:World->Prop} {g k d:Nat} {gd:Option (Nat×Bool)} {q:Q} {xs:List X} {tl:List (Nat×AV)} {ol:List (Oid×Option Ob)} {bad:List (Nat×Nat)} {ra:List Rec} {da:List (List Oid)} {Kf:List (Nat×AV)->List (Oid×Option Ob)->Prop}
theorem dz0 (v:AV) (h3:XD P G bad g (k+1) xs ((d,v) :: tl) ol ((0,v,[]) :: ra) ((rdX (Ao tl) (Aq ol) ⟨some d,gd,q⟩) :: da) Kf) (h:Bq (g+k) ⟨some d,gd,q⟩ (Ao tl) (only (rdX (Ao tl) (Aq ol) ⟨some d,gd,q⟩) (Aq ol))=some (0,v,[]):=by kernel_rfl):XD P G bad g k (⟨some d,gd,q⟩ :: xs) tl ol ra da Kf:=ds0 v h h3
theorem dzl (v:AV) (h3:XD P G bad g (k+1) xs ((d,v) :: tl) ol ((1,v,[]) :: ra) ((rdX (Ao tl) (Aq ol) ⟨some d,gd,q⟩) :: da) Kf) (h:Bq (g+k) ⟨some d,gd,q⟩ (Ao tl) (only (rdX (Ao tl) (Aq ol) ⟨some d,gd,q⟩) (Aq ol))=some (1,v,[]):=by kernel_rfl):XD P G bad g k (⟨some d,gd,q⟩ :: xs) tl ol ra da Kf:=dsl v h h3
theorem zc {fo:Opd} {ys:List Opd} {tys:List (List (Option Ty))} {F:FuncId} {rv:RV} {args:List AV} (v:AV) (us:List (Oid×Option Ob)) (zs:List AV) (hc:Az P G F args rv) (h3:XW P G g (k+1) xs ((d,v) :: tl) (us.reverseAux ol) Kf) (h1:Gt (gnd (Aq ol) 8) zs=some zs:=by kernel_rfl) (hb:Ba P F=true:=by kernel_rfl) (hfo:fo.ev (Ao tl)=.fn F []:=by kernel_rfl) (hz:(ys++([]:List AV).map Opd.cst).map (Opd.ev (Ao tl))=zs:=by kernel_rfl) (hn:Ib tys zs=args:=by kernel_rfl) (hr:rv.out (E9 ((d,0),g+k)) zs=(v,us):=by kernel_rfl) (hx:Dm us=true:=by rfl) (hni:rv.noI=true:=by kernel_rfl):XW P G g k (⟨some d,none,.call fo ys tys⟩ :: xs) tl ol Kf:=Cr (caps:=[]) (args0:=zs) v us zs args trivial h1 hc hb h3 hfo hz hn hr hx hni
end
abbrev sI:Ty:=.slice .int
abbrev an (n:Nat):AV:=.int .i64 n
abbrev tI (x:List Int):AV:=.tree .int x
abbrev tS (x:List (List Int)):AV:=.tree (.slice .int) x
abbrev oI (a b n:Nat):AV:=.own (oi a b) .int 0 n
abbrev nI (a b:Nat) (x:List Int):Oid×Option Ob:=(oi a b,some (.arr 3 .int x))
abbrev xm (d s:Nat):X:=⟨some d,none,.i (.mov (.tmp s))⟩
abbrev xl (d s:Nat):X:=⟨some d,none,.i (.ld true 1 (.tmp s))⟩
abbrev xf (d k s:Nat):X:=⟨some d,none,.i (.fld k (.tmp s))⟩
abbrev xx (d z a b:Nat):X:=⟨some d,none,.i (.idx z (.tmp a) (.tmp b))⟩
abbrev xn1 (d s:Nat):X:=⟨some d,none,.i (.len (.tmp s))⟩
abbrev xa (d s:Nat):X:=⟨some d,none,.i (.bin .add (.tmp s) (.cst (.int .i64 1)))⟩
abbrev xs1 (d a b:Nat):X:=⟨some d,none,.i (.bin .lss (.tmp a) (.tmp b))⟩
section
variable {P:Program} {G:World->Prop} {g k d:Nat} {gd:Option (Nat×Bool)} {q:Q} {xs:List X} {tl:List (Nat×AV)} {ol:List (Oid×Option Ob)} {bad:List (Nat×Nat)} {ra:List Rec} {da:List (List Oid)} {Kf:List (Nat×AV)->List (Oid×Option Ob)->Prop}
theorem dzc {fo:Opd} {ys:List Opd} {tys:List (List (Option Ty))} {F:FuncId} {rv:RV} {args:List AV} (v:AV) (us:List (Oid×Option Ob)) (zs:List AV) (hc:Az P G F args rv) (h3:XD P G bad g (k+1) xs ((d,v) :: tl) (us.reverseAux ol) ((1,v,us) :: ra) ((rdX (Ao tl) (Aq ol) ⟨some d,none,.call fo ys tys⟩) :: da) Kf) (h1:Gt (gnd (only (rdX (Ao tl) (Aq ol) ⟨some d,none,.call fo ys tys⟩) (Aq ol)) 8) zs=some zs:=by kernel_rfl) (hb:Ba P F=true:=by kernel_rfl) (hfo:fo.ev (Ao tl)=.fn F []:=by kernel_rfl) (hz:(ys++([]:List AV).map Opd.cst).map (Opd.ev (Ao tl))=zs:=by kernel_rfl) (hn:Ib tys zs=args:=by kernel_rfl) (hr:rv.out (E9 ((d,0),g+k)) zs=(v,us):=by kernel_rfl) (hx:Dm us=true:=by rfl) (hni:rv.noI=true:=by kernel_rfl):XD P G bad g k (⟨some d,none,.call fo ys tys⟩ :: xs) tl ol ra da Kf:=Pb (caps:=[]) (args0:=zs) v us zs args trivial h1 hc hb h3 hfo hz hn hr hx hni
theorem zI {sz:Nat} {x i:Opd} (t:Ty) {zs:List t.D} {y:t.D} {j:Nat} (hy:zs[j]? =some y) (h3:XW P G g (k+1) xs ((d,.telt none t y 0) :: tl) ol Kf) (hx:(x.ev (Ao tl)).un=.tree t zs:=by kernel_rfl) (hi:i.ev (Ao tl)=.int .i64 (j:Int):=by kernel_rfl) (hs:sz=t.size:=by rfl) (he:(x.ev (Ao tl)).tag=none:=by kernel_rfl):XW P G g k (⟨some d,none,.i (.idx sz x i)⟩ :: xs) tl ol Kf:=rs0 _ (Sj hx hi hs (Int.natCast_nonneg _) rfl hy he) h3
theorem dzI {sz:Nat} {x i:Opd} (t:Ty) {zs:List t.D} {y:t.D} {j:Nat} (hy:zs[j]? =some y) (h3:XD P G bad g (k+1) xs ((d,.telt none t y 0) :: tl) ol ((0,.telt none t y 0,[]) :: ra) ((rdX (Ao tl) (Aq ol) ⟨some d,none,.i (.idx sz x i)⟩) :: da) Kf) (hx:(x.ev (Ao tl)).un=.tree t zs:=by kernel_rfl) (hi:i.ev (Ao tl)=.int .i64 (j:Int):=by kernel_rfl) (hs:sz=t.size:=by rfl) (he:(x.ev (Ao tl)).tag=none:=by kernel_rfl):XD P G bad g k (⟨some d,none,.i (.idx sz x i)⟩ :: xs) tl ol ra da Kf:=ds0 _ (Sj hx hi hs (Int.natCast_nonneg _) rfl hy he) h3
theorem zO {sz:Nat} {x i:Opd} (o:Oid) (t:Ty) (len:Nat) {j:Nat} (hl:j<len) (h3:XW P G g (k+1) xs ((d,.elt o j 0) :: tl) ol Kf) (hx:x.ev (Ao tl)=.own o t 0 len:=by kernel_rfl) (hi:i.ev (Ao tl)=.int .i64 (j:Int):=by kernel_rfl) (hs:sz=t.size:=by rfl):XW P G g k (⟨some d,none,.i (.idx sz x i)⟩ :: xs) tl ol Kf:=rs0 _ (Vj hx hi hs (Int.natCast_nonneg _) rfl hl) h3
theorem zA {x y:Opd} {j:Nat} (h:j+1<4611686018427387904) (h3:XW P G g (k+1) xs ((d,.int .i64 ((j+1:Nat):Int)) :: tl) ol Kf) (hx:x.ev (Ao tl)=.int .i64 j:=by kernel_rfl) (hy:y.ev (Ao tl)=.int .i64 1:=by kernel_rfl):XW P G g k (⟨some d,none,.i (.bin .add x y)⟩ :: xs) tl ol Kf:=rs0 _ (X6 hx hy h) h3
end
section
variable {n:Nat} {d:Option Nat} {f:Nat->AV} {ob:Oid->Option Ob}
theorem zi {sz:Nat} {x i:Opd} {t:Ty} {xs:List t.D} {y:t.D} {k:IntKind} {m:Int} {j:Nat} (h0:0<=m) (hy:xs[j]? =some y) (hx:(x.ev f).un=.tree t xs:=by kernel_rfl) (hi:i.ev f=.int k m:=by kernel_rfl) (hs:sz=t.size:=by rfl) (hj:m.toNat=j:=by rfl) {e:Option (Nat->Prop)} (he:(x.ev f).tag=e:=by kernel_rfl):Bq n ⟨d,none,.i (.idx sz x i)⟩ f ob=some (0,.telt e t y 0,[]):=Sj hx hi hs h0 hj hy he
theorem zo {sz:Nat} {x i:Opd} {t:Ty} {o:Oid} {len:Nat} {k:IntKind} {m:Int} {j:Nat} (h0:0<=m) (hl:j<len) (hx:x.ev f=.own o t 0 len:=by kernel_rfl) (hi:i.ev f=.int k m:=by kernel_rfl) (hs:sz=t.size:=by rfl) (hj:m.toNat=j:=by rfl):Bq n ⟨d,none,.i (.idx sz x i)⟩ f ob=some (0,.elt o j 0,[]):=Vj hx hi hs h0 hj hl
theorem zl {vs:List Value} {c:AV} {l:RL} (h:Il ob c=some l:=by kernel_rfl):LeafR vs ob c l:=Yz h
end
theorem zj {α:Type} {a b:α} (h:some a=some b):a=b:=osj h
theorem wr_ {G:World->Prop} {S:St} {K:St->Prop} (h:K S):∃ S',WeakG G S S'∧K S':=⟨S,WeakG.refl _,h⟩
end Go.Proofs.YtgljmpiofhlkjaaDoor
namespace Go.Proofs.YtgljmpiofhlkjaaDoor
open Go.RowKit Go.Deep
inductive Ctl (σ ρ:Type) where
 | next (s:σ)
 | out (r:ρ)
def Ctl.then {σ β:Type} (k:σ->Option β):Ctl σ β->Option β
 | .next t=>k t
 | .out r=>some r
section
variable {α β σ τ ρ:Type}
def og (c:Prop) [Decidable c] (k:Option α):Option α:=if c then k else none
theorem Bk {c:Prop} [Decidable c] {k:Option α} {r:α} (h:og c k=some r):c∧k=some r:=by
 unfold og at h;split at h
 ·rename_i hc; exact ⟨hc,h⟩
 ·cases h
theorem A7 {c:Prop} [Decidable c] (h:c) (k:Option α):og c k=k:=if_pos h
theorem Ah {o:Option α} {f:α->Option β} {b:β} (h:o.bind f=some b):∃ a,o=some a∧f a=some b:=Option.bind_eq_some_iff.1 h
theorem Aa {c:Bool} {a b:Option α} {r:α} (h:cond c a b=some r):(c=true∧a=some r)∨(c=false∧b=some r):=by
 cases c
 ·exact .inr ⟨rfl,h⟩
 ·exact .inl ⟨rfl,h⟩
def Q2 (a:Option (Ctl τ β)) (k:τ->Option β):Option β :=
 a.bind (Ctl.then k)
theorem T6 {a:Option (Ctl τ β)} {k:τ->Option β} {r:β} (h:Q2 a k=some r):∃ v,a=some v∧Ctl.then k v=some r:=Ah h
def Bs (body:σ->Option (Ctl σ ρ)):Nat->σ->Option ρ
 | 0,_=>none
 | n+1,s=>(body s).bind (Ctl.then (Bs body n))
theorem Sa {body:σ->Option (Ctl σ ρ)} {n:Nat} {s:σ} {v:ρ} (h:Bs body (n+1) s=some v):∃ c,body s=some c∧Ctl.then (Bs body n) c=some v:=Ah h
theorem Ss {body:σ->Option (Ctl σ ρ)} {s:σ} {v:ρ} (h:Bs body 0 s=some v):False:=by cases h
def Qw (xs:List α) (n:Int):Option α:=if 0<=n then xs[n.toNat]? else none
theorem Ej {xs:List α} {k:Nat} {x:α} (h:xs[k]? =some x):k<xs.length:=(gSi.1 h).1
theorem Kh {xs:List α} {n:Int} {x:α} (h:Qw xs n=some x):0<=n∧n<xs.length∧xs[n.toNat]? =some x:=by
 unfold Qw at h;split at h
 ·rename_i h0;have:=Ej h;exact ⟨h0,by omega,h⟩
 ·cases h
theorem M4 {xs:List α} {n:Int} (h:0<=n):Qw xs n=xs[n.toNat]?:=if_pos h
end
section
variable {P:Program} {G:World->Prop} {σ τ β ρ:Type}
theorem A1 {x y:AC} {R:AE->St->Prop} {S:St} {A:Option τ} {k:τ->Option β} {r:β} (h:A.bind k=some r) (J:τ->St->Prop) (h1:∀ t,A=some t->awp P G x (E3 (fun S'=>∃ S'',WeakG G S' S''∧J t S'') R) S) (h2:∀ t S'',J t S''->k t=some r->awp P G y R S''):awp P G (.seq x y) R S:=by
 obtain ⟨t,ha,hk⟩:=Ah h;exact O0 (J t) (h1 t ha) fun S'' hj=>h2 t S'' hj hk
theorem G8 {x y:AC} {R:AE->St->Prop} {S:St} {A:Option (Ctl τ β)} {k:τ->Option β} {r:β} (h:Q2 A k=some r) (J:τ->St->Prop)
  (h1:∀ v,A=some v->Ctl.then k v=some r->awp P G x (E3 (fun S'=>∃ t S'',v=.next t∧WeakG G S' S''∧J t S'') R) S) (h2:∀ t S'',J t S''->k t=some r->awp P G y R S''):awp P G (.seq x y) R S:=by
 obtain ⟨v,ha,hk⟩:=T6 h;refine O0 (fun S''=>∃ t,v=.next t∧J t S'') (B3 (fun e S' hq=>?_) (h1 v ha hk)) fun S'' ⟨t,hv,hj⟩=>?_
 ·cases e with
  | normal=>obtain ⟨t,S'',hv,hw,hj⟩:=hq; exact ⟨S'',hw,t,hv,hj⟩
  | exit id=>exact hq
  | ret=>exact hq
 ·subst hv; exact h2 t S'' hj hk
theorem C2 {a:AC} {R:AE->St->Prop} {S:St} {body:σ->Option (Ctl σ ρ)} {fuel:Nat} {s0:σ} {v:ρ} (h:Bs body fuel s0=some v) (J:σ->St->Prop) (h0:∃ S0,WeakG G S S0∧J s0 S0)
  (h1:∀ n s S1 c,J s S1->body s=some c->Ctl.then (Bs body n) c=some v->awp P G a (E3 (fun S2=>∃ s' S3,WeakG G S2 S3∧J s' S3∧Bs body n s'=some v) R) S1):awp P G (.loop a) R S:=by
 obtain ⟨S0,hw,hj⟩:=h0;refine Ub (fun (p:Nat×σ) S=>Bs body p.1 p.2=some v∧J p.2 S) (·.1) ⟨(fuel,s0),S0,hw,h,hj⟩ ?_;rintro ⟨n,s⟩ S1 ⟨hl,hj⟩;cases n with
 | zero=>exact (Ss hl).elim
 | succ n =>
  obtain ⟨c,hc,hn⟩:=Sa hl;refine B3 (fun e S2 hq=>?_) (h1 n s S1 c hj hc hn);cases e with
  | normal=>obtain ⟨s',S3,hw,hj,hl⟩:=hq; exact ⟨(n,s'),S3,hw,⟨hl,hj⟩,Nat.lt_succ_self n⟩
  | exit id=>exact hq
  | ret=>exact hq
end
end Go.Proofs.YtgljmpiofhlkjaaDoor

namespace Go.Proofs.YtgljmpiofhlkjaaDoor
open Go.RowKit Go.Deep
def E7 (a0:Int):Option Bool:=some (isF a0)
def Lp (r:Bool):RV:=⟨false,[(false,[.sc (.bool r)])]⟩
theorem Ly {a0:Int} {r:Bool} (h:E7 a0=some r):Az Tryd.prog Tab 57 [.int .i64 a0] (Lp r):=by
 obtain rfl:=osj h;intro w im vs hG hr;obtain ⟨u1,_,rfl,h1,h2⟩:=hr;obtain rfl:_=[]:=h2;obtain rfl:u1=.int .i64 a0:=h1;refine (Ro a0 w (hG w (Below.refl _ _))).mono ?_;rintro e w' ⟨rfl,rfl⟩;exact ⟨_,rfl,Below.refl _ _,[_],[],⟨_,[],rfl,rfl,rfl,rfl,rfl⟩,⟨trivial,fun _=>rfl⟩,rfl⟩
end Go.Proofs.YtgljmpiofhlkjaaDoor
namespace Go.Proofs.YtgljmpiofhlkjaaDoor
open Go.RowKit Go.Deep Go.Shelf
def U3:Go.Shelf.Ren:=⟨fun | 171=>46 | 243=>69 | 246=>80 | 283=>86 | 284=>87 | 285=>88 | 286=>89 | 129=>97 | 317=>96 | 318=>98 | 319=>99 | 320=>100 | 337=>105 | 338=>106 | n=>n,fun | 3=>3 | 9=>9 | 2=>2 | 4=>4 | 171=>123 | 0=>0 | 53=>124 | 37=>98 | 5=>5 | 173=>127 | 212=>136 | 51=>137 | 20=>20 | 213=>138 | 46=>139 | 232=>148 | 233=>149 | n=>n,fun | 17=>1 | 18=>5 | 19=>6 | n=>n⟩
theorem Vp:LaysM.n171 Tryd.prog U3 where
  mixed:=by kernel_rfl
  f129:=Tryd.func97.trans (congrArg some (by kernel_rfl))
  f171:=Tryd.func46.trans (congrArg some (by kernel_rfl))
  f243:=Tryd.func69.trans (congrArg some (by kernel_rfl))
  f246:=Tryd.func80.trans (congrArg some (by kernel_rfl))
  f283:=Tryd.func86.trans (congrArg some (by kernel_rfl))
  f284:=Tryd.func87.trans (congrArg some (by kernel_rfl))
  f285:=Tryd.func88.trans (congrArg some (by kernel_rfl))
  f286:=Tryd.func89.trans (congrArg some (by kernel_rfl))
  f317:=Tryd.func96.trans (congrArg some (by kernel_rfl))
  f318:=Tryd.func98.trans (congrArg some (by kernel_rfl))
  f319:=Tryd.func99.trans (congrArg some (by kernel_rfl))
  f320:=Tryd.func100.trans (congrArg some (by kernel_rfl))
  f337:=Tryd.func105.trans (congrArg some (by kernel_rfl))
  f338:=Tryd.func106.trans (congrArg some (by kernel_rfl))
  t0:=Tryd.underlying0
  a0:=Tryd.isAgg0
  z0:=Tryd.sizeOf0
  v0:=Tryd.zeroValue0
  t2:=Tryd.underlying2
  a2:=Tryd.isAgg2
  z2:=Tryd.sizeOf2
  v2:=Tryd.zeroValue2
  t3:=Tryd.underlying3
  a3:=Tryd.isAgg3
  z3:=Tryd.sizeOf3
  v3:=Tryd.zeroValue3
  t4:=Tryd.underlying4
  a4:=Tryd.isAgg4
  z4:=Tryd.sizeOf4
  v4:=Tryd.zeroValue4
  t5:=Tryd.underlying5
  a5:=Tryd.isAgg5
  z5:=Tryd.sizeOf5
  v5:=Tryd.zeroValue5
  t9:=Tryd.underlying9
  a9:=Tryd.isAgg9
  z9:=Tryd.sizeOf9
  v9:=Tryd.zeroValue9
  t20:=Tryd.underlying20
  a20:=Tryd.isAgg20
  z20:=Tryd.sizeOf20
  v20:=Tryd.zeroValue20
  t37:=Tryd.underlying98
  a37:=Tryd.isAgg98
  z37:=Tryd.sizeOf98
  v37:=Tryd.zeroValue98
  t46:=Tryd.underlying139
  a46:=Tryd.isAgg139
  z46:=Tryd.sizeOf139
  v46:=Tryd.zeroValue139
  t51:=Tryd.underlying137
  a51:=Tryd.isAgg137
  z51:=Tryd.sizeOf137
  v51:=Tryd.zeroValue137
  t53:=Tryd.underlying124
  a53:=Tryd.isAgg124
  z53:=Tryd.sizeOf124
  v53:=Tryd.zeroValue124
  t171:=Tryd.underlying123
  a171:=Tryd.isAgg123
  z171:=Tryd.sizeOf123
  v171:=Tryd.zeroValue123
  t173:=Tryd.underlying127
  a173:=Tryd.isAgg127
  z173:=Tryd.sizeOf127
  v173:=Tryd.zeroValue127
  t212:=Tryd.underlying136
  a212:=Tryd.isAgg136
  z212:=Tryd.sizeOf136
  v212:=Tryd.zeroValue136
  t213:=Tryd.underlying138
  a213:=Tryd.isAgg138
  z213:=Tryd.sizeOf138
  t232:=Tryd.underlying148
  a232:=Tryd.isAgg148
  z232:=Tryd.sizeOf148
  v232:=Tryd.zeroValue148
  t233:=Tryd.underlying149
  a233:=Tryd.isAgg149
  z233:=Tryd.sizeOf149
  v233:=Tryd.zeroValue149
  g17:=by kernel_rfl
  g18:=by kernel_rfl
  g19:=by kernel_rfl
  i0:=by kernel_rfl
  i2:=by kernel_rfl
  i3:=by kernel_rfl
  i4:=by kernel_rfl
  i5:=by kernel_rfl
  i9:=by kernel_rfl
  i20:=by kernel_rfl
  i37:=by kernel_rfl
  i46:=by kernel_rfl
  i51:=by kernel_rfl
  i53:=by kernel_rfl
  i171:=by kernel_rfl
  i173:=by kernel_rfl
  i212:=by kernel_rfl
  i232:=by kernel_rfl
  i233:=by kernel_rfl
  m17:=by kernel_rfl
  m18:=by kernel_rfl
  m19:=by kernel_rfl
end Go.Proofs.YtgljmpiofhlkjaaDoor

namespace Go.Proofs.YtgljmpiofhlkjaaDoor
open Go.RowKit Go.Deep Go.Shelf
def Rz:Go.Shelf.Ren:=⟨fun | 156=>49 | 165=>72 | 166=>73 | 169=>74 | 240=>81 | 241=>82 | 276=>90 | 277=>91 | n=>n,fun | 31=>72 | 9=>9 | 3=>3 | 4=>4 | 0=>0 | 20=>20 | 72=>105 | 76=>109 | 70=>103 | 37=>98 | 75=>108 | 127=>119 | 164=>129 | 5=>5 | 80=>53 | n=>n,fun  | n=>n⟩
theorem Ra:Lays.n156 Tryd.prog Rz where
  mixed:=by kernel_rfl
  f156:=Tryd.func49.trans (congrArg some (by kernel_rfl))
  f165:=Tryd.func72.trans (congrArg some (by kernel_rfl))
  f166:=Tryd.func73.trans (congrArg some (by kernel_rfl))
  f169:=Tryd.func74.trans (congrArg some (by kernel_rfl))
  f240:=Tryd.func81.trans (congrArg some (by kernel_rfl))
  f241:=Tryd.func82.trans (congrArg some (by kernel_rfl))
  f276:=Tryd.func90.trans (congrArg some (by kernel_rfl))
  f277:=Tryd.func91.trans (congrArg some (by kernel_rfl))
  t0:=Tryd.underlying0
  a0:=Tryd.isAgg0
  z0:=Tryd.sizeOf0
  v0:=Tryd.zeroValue0
  t3:=Tryd.underlying3
  a3:=Tryd.isAgg3
  z3:=Tryd.sizeOf3
  v3:=Tryd.zeroValue3
  t4:=Tryd.underlying4
  a4:=Tryd.isAgg4
  z4:=Tryd.sizeOf4
  v4:=Tryd.zeroValue4
  t9:=Tryd.underlying9
  a9:=Tryd.isAgg9
  z9:=Tryd.sizeOf9
  v9:=Tryd.zeroValue9
  t20:=Tryd.underlying20
  a20:=Tryd.isAgg20
  z20:=Tryd.sizeOf20
  v20:=Tryd.zeroValue20
  t31:=Tryd.underlying72
  a31:=Tryd.isAgg72
  z31:=Tryd.sizeOf72
  v31:=Tryd.zeroValue72
  t37:=Tryd.underlying98
  a37:=Tryd.isAgg98
  z37:=Tryd.sizeOf98
  v37:=Tryd.zeroValue98
  t70:=Tryd.underlying103
  a70:=Tryd.isAgg103
  z70:=Tryd.sizeOf103
  v70:=Tryd.zeroValue103
  t72:=Tryd.underlying105
  a72:=Tryd.isAgg105
  z72:=Tryd.sizeOf105
  v72:=Tryd.zeroValue105
  t75:=Tryd.underlying108
  a75:=Tryd.isAgg108
  z75:=Tryd.sizeOf108
  v75:=Tryd.zeroValue108
  t76:=Tryd.underlying109
  a76:=Tryd.isAgg109
  z76:=Tryd.sizeOf109
  v76:=Tryd.zeroValue109
  t127:=Tryd.underlying119
  a127:=Tryd.isAgg119
  z127:=Tryd.sizeOf119
  v127:=Tryd.zeroValue119
  t164:=Tryd.underlying129
  a164:=Tryd.isAgg129
  z164:=Tryd.sizeOf129
  v164:=Tryd.zeroValue129
theorem Rg:Builder.Extra Tryd.prog Rz where
  sizeBuilder:=by kernel_rfl
  liesBuilder:=by kernel_rfl
  t5:=Tryd.underlying5
  a5:=Tryd.isAgg5
  z5:=Tryd.sizeOf5
  v5:=Tryd.zeroValue5
  infoByte:=by kernel_rfl
  cellsByte:=by kernel_rfl
  sizeByte:=by kernel_rfl
  neB5:=by decide
end Go.Proofs.YtgljmpiofhlkjaaDoor

namespace Go.Proofs.YtgljmpiofhlkjaaDoor
open Go.RowKit Go.Deep Go.Shelf
def Rt:Go.Shelf.Ren:=⟨fun | 155=>61 | 154=>79 | 138=>83 | 165=>72 | 143=>84 | 166=>73 | 197=>85 | 169=>74 | 195=>92 | 218=>93 | 240=>81 | 241=>82 | 219=>94 | 260=>95 | 276=>90 | 277=>91 | 217=>101 | 225=>102 | 224=>103 | 267=>104 | 266=>107 | 314=>108 | n=>n,fun | 9=>9 | 3=>3 | 4=>4 | 72=>105 | 0=>0 | 76=>109 | 105=>121 | 21=>21 | 5=>5 | 70=>103 | 20=>20 | 37=>98 | 75=>108 | 127=>119 | 164=>129 | 46=>139 | 119=>141 | 139=>144 | 138=>143 | 146=>146 | 51=>137 | 80=>53 | n=>n,fun | 1=>2 | 3=>3 | 4=>4 | n=>n⟩
theorem Vs:Lays.n155 Tryd.prog Rt where
  mixed:=by kernel_rfl
  f138:=Tryd.func83.trans (congrArg some (by kernel_rfl))
  f143:=Tryd.func84.trans (congrArg some (by kernel_rfl))
  f154:=Tryd.func79.trans (congrArg some (by kernel_rfl))
  f155:=Tryd.func61.trans (congrArg some (by kernel_rfl))
  f165:=Tryd.func72.trans (congrArg some (by kernel_rfl))
  f166:=Tryd.func73.trans (congrArg some (by kernel_rfl))
  f169:=Tryd.func74.trans (congrArg some (by kernel_rfl))
  f195:=Tryd.func92.trans (congrArg some (by kernel_rfl))
  f197:=Tryd.func85.trans (congrArg some (by kernel_rfl))
  f217:=Tryd.func101.trans (congrArg some (by kernel_rfl))
  f218:=Tryd.func93.trans (congrArg some (by kernel_rfl))
  f219:=Tryd.func94.trans (congrArg some (by kernel_rfl))
  f224:=Tryd.func103.trans (congrArg some (by kernel_rfl))
  f225:=Tryd.func102.trans (congrArg some (by kernel_rfl))
  f240:=Tryd.func81.trans (congrArg some (by kernel_rfl))
  f241:=Tryd.func82.trans (congrArg some (by kernel_rfl))
  f260:=Tryd.func95.trans (congrArg some (by kernel_rfl))
  f266:=Tryd.func107.trans (congrArg some (by kernel_rfl))
  f267:=Tryd.func104.trans (congrArg some (by kernel_rfl))
  f276:=Tryd.func90.trans (congrArg some (by kernel_rfl))
  f277:=Tryd.func91.trans (congrArg some (by kernel_rfl))
  f314:=Tryd.func108.trans (congrArg some (by kernel_rfl))
  t0:=Tryd.underlying0
  a0:=Tryd.isAgg0
  z0:=Tryd.sizeOf0
  v0:=Tryd.zeroValue0
  t3:=Tryd.underlying3
  a3:=Tryd.isAgg3
  z3:=Tryd.sizeOf3
  v3:=Tryd.zeroValue3
  t4:=Tryd.underlying4
  a4:=Tryd.isAgg4
  z4:=Tryd.sizeOf4
  v4:=Tryd.zeroValue4
  t5:=Tryd.underlying5
  a5:=Tryd.isAgg5
  z5:=Tryd.sizeOf5
  v5:=Tryd.zeroValue5
  t9:=Tryd.underlying9
  a9:=Tryd.isAgg9
  z9:=Tryd.sizeOf9
  v9:=Tryd.zeroValue9
  t20:=Tryd.underlying20
  a20:=Tryd.isAgg20
  z20:=Tryd.sizeOf20
  v20:=Tryd.zeroValue20
  t21:=Tryd.underlying21
  a21:=Tryd.isAgg21
  z21:=Tryd.sizeOf21
  v21:=Tryd.zeroValue21
  t37:=Tryd.underlying98
  a37:=Tryd.isAgg98
  z37:=Tryd.sizeOf98
  v37:=Tryd.zeroValue98
  t46:=Tryd.underlying139
  a46:=Tryd.isAgg139
  z46:=Tryd.sizeOf139
  v46:=Tryd.zeroValue139
  t51:=Tryd.underlying137
  a51:=Tryd.isAgg137
  z51:=Tryd.sizeOf137
  v51:=Tryd.zeroValue137
  t70:=Tryd.underlying103
  a70:=Tryd.isAgg103
  z70:=Tryd.sizeOf103
  v70:=Tryd.zeroValue103
  t72:=Tryd.underlying105
  a72:=Tryd.isAgg105
  z72:=Tryd.sizeOf105
  v72:=Tryd.zeroValue105
  t75:=Tryd.underlying108
  a75:=Tryd.isAgg108
  z75:=Tryd.sizeOf108
  v75:=Tryd.zeroValue108
  t76:=Tryd.underlying109
  a76:=Tryd.isAgg109
  z76:=Tryd.sizeOf109
  v76:=Tryd.zeroValue109
  t105:=Tryd.underlying121
  a105:=Tryd.isAgg121
  z105:=Tryd.sizeOf121
  v105:=Tryd.zeroValue121
  t119:=Tryd.underlying141
  a119:=Tryd.isAgg141
  z119:=Tryd.sizeOf141
  t127:=Tryd.underlying119
  a127:=Tryd.isAgg119
  z127:=Tryd.sizeOf119
  v127:=Tryd.zeroValue119
  t138:=Tryd.underlying143
  a138:=Tryd.isAgg143
  z138:=Tryd.sizeOf143
  v138:=Tryd.zeroValue143
  t139:=Tryd.underlying144
  a139:=Tryd.isAgg144
  z139:=Tryd.sizeOf144
  v139:=Tryd.zeroValue144
  t146:=Tryd.underlying146
  a146:=Tryd.isAgg146
  z146:=Tryd.sizeOf146
  v146:=Tryd.zeroValue146
  t164:=Tryd.underlying129
  a164:=Tryd.isAgg129
  z164:=Tryd.sizeOf129
  v164:=Tryd.zeroValue129
  g1:=by kernel_rfl
  g3:=by kernel_rfl
  g4:=by kernel_rfl
theorem Vy:Builder.Extra Tryd.prog Rt where
  sizeBuilder:=by kernel_rfl
  liesBuilder:=by kernel_rfl
  t5:=Tryd.underlying5
  a5:=Tryd.isAgg5
  z5:=Tryd.sizeOf5
  v5:=Tryd.zeroValue5
  infoByte:=by kernel_rfl
  cellsByte:=by kernel_rfl
  sizeByte:=by kernel_rfl
  neB5:=by decide
end Go.Proofs.YtgljmpiofhlkjaaDoor

namespace Go.Proofs.YtgljmpiofhlkjaaDoor
open Go.RowKit Go.Deep Go.Shelf
def Yy (n:Nat):ByteArray:=⟨(Lib.decDigits n).toArray⟩
def Dx (a0:Int):Option ByteArray:=og (0<=a0∧a0<100) (some (Yy a0.toNat))
def L2 (r:ByteArray):RV:=⟨false,[(false,[.sc (.str r)])]⟩
theorem Lm {a0:Int} {r:ByteArray} (h:Dx a0=some r):Az Tryd.prog Tab 46 [.int .i64 a0] (L2 r):=by
 unfold Dx og at h;split at h
 ·rename_i hc;obtain rfl:=osj h;obtain ⟨n,rfl⟩:=Int.eq_ofNat_of_zero_le hc.1;intro w im vs hG hr;obtain ⟨u1,_,rfl,h1,h2⟩:=hr;obtain rfl:_=[]:=h2;obtain rfl:u1=.int .i64 (n:Int):=h1;refine (Any.strconv_Itoa_small { Vp with } n (by omega) w).mono ?_;rintro e w' ⟨rfl,rfl⟩;exact ⟨_,rfl,Below.refl _ _,[_],[],⟨_,[],rfl,rfl,rfl,rfl,rfl⟩,⟨trivial,fun _=>rfl⟩,rfl⟩
 ·cases h
def Ux (xs:List ByteArray) (sep:ByteArray):ByteArray:=⟨(Lib.join (xs.map (·.data.toList)) sep.data.toList).toArray⟩
def Ck (a0:List ByteArray) (a1:ByteArray):Option ByteArray:=og (a0.length<=1073741824∧(Ux a0 a1).size<=140737488355328) (some (Ux a0 a1))
def Lv (r:ByteArray):RV:=⟨false,[(false,[.sc (.str r)])]⟩
theorem Gq:Ba Tryd.prog 49=true:=by kernel_rfl
theorem Gn {a0:List ByteArray} {a1 r:ByteArray} (h:Ck a0 a1=some r):Az Tryd.prog Tab 49 [.tree .str a0,.str a1] (Lv r):=by
 unfold Ck og at h;split at h
 ·rename_i hc;obtain rfl:=osj h;intro w im vs hG hr;obtain ⟨u1,_,rfl,h1,u2,_,rfl,h2,h3⟩:=hr;obtain rfl:_=[]:=h3;obtain rfl:u2=.string a1:=h2;obtain ⟨A,c,l,rfl,hl1,hl2,f,-,hf⟩:=h1
  have key:Calls Tryd.prog 49 #[.slice A a0.length c,.string a1] w fun e w'=>e=.returned (.string (Ux a0 a1))∧Below w.heap.size w w':=by
   by_cases h0:a0=[]
   ·subst h0;exact (Any.strings_Join_none Ra Rg A c a1 w).mono fun e w' ⟨he,hw⟩=>⟨he,hw▸Below.refl _ _⟩
   ·have hp:0<a0.length:=by cases a0 with | nil=>exact absurd rfl h0 | cons _ _=>simp
    obtain ⟨ad,rfl,-,hm⟩:=hf hp;obtain ⟨b,off,sp⟩:=ad;have hc0:w.cell? ⟨b,off,sp⟩=some (.string a0[0]):=by have:=(hm 0 hp).1; simpa [Addr.add] using this
    obtain rfl:sp=none:=World.cell?_spot hc0;refine Any.strings_Join Ra Rg b off c a0 a1 w (fun j x hx=>?_) (World.block_lt_of_cell? w _ hc0) (by omega) hl1 ?_
    ·obtain ⟨hj,rfl⟩:=gSi.1 hx;rw [show (⟨b,off+j,none⟩:Addr)=(⟨b,off,none⟩:Addr).add (j*Ty.str.size) from by simp [Addr.add,Ty.size]];exact (hm j hj).1
    ·have:=hc.2
     simpa [Ux,ByteArray.size] using this
  refine key.mono ?_;rintro e w' ⟨rfl,hb⟩;exact ⟨_,rfl,hb,[_],[],⟨_,[],rfl,rfl,rfl,rfl,rfl⟩,⟨trivial,fun _=>rfl⟩,rfl⟩
 ·cases h
def Yr (s old new:ByteArray):ByteArray:=⟨(Lib.replaceAll s.data.toList old.data.toList new.data.toList).toArray⟩
def A6 (a0 a1 a2:ByteArray):Option ByteArray:=og (a0.size<=1073741824∧(1<=a1.size∧a2.size<=1)) (some (Yr a0 a1 a2))
def Gu (r:ByteArray):RV:=⟨false,[(false,[.sc (.str r)])]⟩
theorem D2 {a0 a1 a2 r:ByteArray} (h:A6 a0 a1 a2=some r):Az Tryd.prog Tab 61 [.str a0,.str a1,.str a2] (Gu r):=by
 unfold A6 og at h;split at h
 ·rename_i hc;obtain rfl:=osj h;intro w im vs hG hr;obtain ⟨u1,_,rfl,h1,u2,_,rfl,h2,u3,_,rfl,h3,h4⟩:=hr;obtain rfl:_=[]:=h4;obtain rfl:u1=.string a0:=h1;obtain rfl:u2=.string a1:=h2;obtain rfl:u3=.string a2:=h3;obtain ⟨m,hm⟩:=(hG w (Below.refl _ _)).2
  have hcount:Lib.countB a0 a1<=a0.size:=by
   have:=Lib.countB_mul_le a1 hc.2.1 a0.size a0 (Nat.le_refl _);have h2:Lib.countB a0 a1*1<=Lib.countB a0 a1*a1.size:=Nat.mul_le_mul_left _ hc.2.1;omega
  have hlen:a0.size+Lib.countB a0 a1*a2.size<=140737488355328:=by
   have:Lib.countB a0 a1*a2.size<=a0.size*1:=Nat.mul_le_mul hcount hc.2.2;omega
  refine (Any.strings_ReplaceAll Vs Vy a0 a1 a2 m w (by omega) hm hc.2.1 hlen).mono ?_;rintro e w' ⟨rfl,hb⟩;exact ⟨_,rfl,hb,[_],[],⟨_,[],rfl,rfl,rfl,rfl,rfl⟩,⟨trivial,fun _=>rfl⟩,rfl⟩
 ·cases h
end Go.Proofs.YtgljmpiofhlkjaaDoor
namespace Go.Proofs.YtgljmpiofhlkjaaDoor
open Go.RowKit Go.Deep
set_option maxRecDepth 4000
def Lj:AC :=
 (.seq (rg [xo 6 (qm (cb false))])
 (.seq (rg [xm 7 0,xm 8 1,xo 9 (qb .geq (tm 7) (tm 8)),xm 10 9,⟨some 11,some (10,true),qm (tm 0)⟩,⟨some 12,some (10,true),qm (tm 2)⟩,⟨some 13,some (10,true),qb .leq (tm 11) (tm 12)⟩,xo 14 (.i (.pick (tm 10) (tm 13) (cb false))),xm 6 14])
 .ret))
def Qz:List Res:=[.tmp 6]
theorem Ry:Aw Tryd.prog Tryd.f33=some (Lj,Qz):=by kernel_rfl
theorem B9:Ba Tryd.prog 33=true:=by kernel_rfl
def A4 (a0 a1 a2:Int):Option Bool :=
 (cond (decide (a1<=a0))
  (some (decide (a0<=a2)))
  (some false)).bind fun u0 =>
some u0
def Qh (r:Bool):RV:=⟨false,[(false,[.sc (.bool r)])]⟩
theorem A9 {a0 a1 a2:Int} {r:Bool} (h:A4 a0 a1 a2=some r):Az Tryd.prog Tab 33 [ai a0,ai a1,ai a2] (Qh r):=by
 refine Ay (by kernel_rfl) Tryd.func33 Ry (n:=15) (by kernel_rfl) (by simp) rfl ?_;unfold Lj;unfold A4 at h;refine Al (A1 h (fun (u0:Bool) S_=>S_=⟨Ao [(6,.bool u0)],Aq (A5 []),2⟩) ?_ ?_)
 ·intro v_ h;refine Ab 11 (rsT 4 ?_);rcases Aa h with ⟨q3,h⟩ | ⟨q3,h⟩
  ·have q3_:=of_decide_eq_true q3;refine rq 10 q3 (rsT 5 (Av (tn_ ?_)));obtain rfl:=zj h;exact ⟨_,Ad [],rfl⟩
  have q3_:=of_decide_eq_false q3;refine rq 10 q3 (rsT 5 (Av (tn_ ?_)));obtain rfl:=zj h;exact ⟨_,Ad [],rfl⟩
 rintro u0 _ rfl h
 (try dsimp only at h);refine Ag ?_;obtain rfl:=zj h;exact A2 [.bool u0] (Ar rfl zl As)
def Fw:AC :=
 (.seq (.seq (rg [xm 7 3,xm 8 3,xo 9 (qb .mul (tm 7) (tm 8)),xm 10 0,xo 11 (qb .leq (tm 9) (tm 10))])
 (.cond (tm 11)
  .skip
  (.exit 0)))
 (.seq (.block 1 (.seq (rg [xm 14 0,xm 15 3,xo 16 (qb .rem (tm 14) (tm 15)),xo 17 (qb .eql (tm 16) (ci 0))])
 (.cond (tm 17)
  (.seq (rg [xo 2 (qm (cb false))])
  .ret)
  .skip)))
 (rg [xm 12 3,xa 13 12,xm 3 13])))
def Id:AC :=
 (.seq (rg [xo 2 (qm (cb false))])
 (.seq (.seq (rg [xm 4 0,xo 5 (qc 33 [tm 4,ci 2,ci 97] [[],[],[]]),xo 6 (.i (.not (tm 5)))])
 (.cond (tm 6)
  (.seq (rg [xo 2 (qm (cb false))])
  .ret)
  .skip))
 (.seq (.seq (rg [xo 3 (qm (ci 2))])
 (.block 0 (.loop Fw)))
 (.seq (rg [xo 2 (qm (cb true))])
 .ret))))
def Oa:List Res:=[.tmp 2]
theorem Oq:Aw Tryd.prog Tryd.f51=some (Id,Oa):=by kernel_rfl
def Cj (a0:Int) (u0:Nat):Option (Ctl Nat (Ctl Unit Bool)) :=
 cond (decide (wI ((u0:Int)*(u0:Int))<=a0))
 (og ((u0:Int)≠0) <|
 cond ((Int.tmod a0 (u0:Int))==0)
  (some (Ctl.out (Ctl.out false)))
  (og (u0+1<4611686018427387904) <|
  some (Ctl.next (u0+1))))
 (some (Ctl.out (Ctl.next ())))
def Dp (a0:Int):Option Bool :=
 (A4 a0 2 97).bind fun y4 =>
cond (!y4)
 (some false)
 (Q2 (Bs (fun s_:Nat=>Cj a0 s_) 4611686018427387904 2) fun _ =>
 some true)
def Ms (r:Bool):RV:=⟨false,[(false,[.sc (.bool r)])]⟩
theorem M7 {a0:Int} {r:Bool} (h:Dp a0=some r):Az Tryd.prog Tab 51 [ai a0] (Ms r):=by
 refine Ay (by kernel_rfl) Tryd.func51 Oq (n:=18) (by kernel_rfl) (by simp) rfl ?_;unfold Id;unfold Dp at h;refine Al (Ac (Ac ?_));obtain ⟨y4,h4,h⟩:=Ah h;refine Ab 5 (rsT 1 (zc (.bool y4) [] [ai a0,ai 2,ai 97] (A9 h4) (rsT 1 (Av (tn_ (wr_ ?_))))));rcases Aa h with ⟨q5,h⟩ | ⟨q5,h⟩
 ·refine Ae q5 (Al (Ag (tr_ ?_)));obtain rfl:=zj h;exact A2 [.bool false] (Ar rfl zl As)
 refine Af q5 (Ak (tn_ (wr_ (G8 h (fun (_:Unit) S_=>S_=⟨Ao [],Aq (A5 []),2⟩) ?_ ?_))))
 ·intro v_ h hk7;refine Al (Ax (C2 h (fun (u0:Nat) S_=>S_=⟨Ao [(0,ai a0),(3,an u0)],Aq (A5 []),2⟩) ⟨_,Ad [],rfl⟩ ?_));rintro n_ u0 _ c_ rfl h hn9
  (try dsimp only at h);unfold Cj at h;unfold Fw;refine Ac (Al ?_);rcases Aa h with ⟨q12,h⟩ | ⟨q12,h⟩
  ·have q12_:=of_decide_eq_true q12;refine Ae q12 (Ak (tn_ (wr_ (Ac (Ax (Ac ?_))))));obtain ⟨g15,h⟩:=Bk h;refine Ab 11 (rsT 2 (rs0 (ai (Int.tmod a0 (u0:Int))) (Xj (k:=.i64) (a:=a0) (b:=(u0:Int)) (by kernel_rfl) (by kernel_rfl) g15) (rsT 1 (Av (tn_ (wr_ ?_))))));rcases Aa h with ⟨q16,h⟩ | ⟨q16,h⟩
   ·refine Ae q16 (Al (Ag (br_ (tr_ (tr_ (br_ (tr_ ?_)))))));obtain rfl:=zj h;have h:=hn9
    (try dsimp only at h);obtain rfl:=zj h;have h:=hk7
    (try dsimp only at h);obtain rfl:=zj h;exact A2 [.bool false] (Ar rfl zl As)
   refine Af q16 (Ak (bn_ (tn_ (wr_ ?_))));obtain ⟨g18,h⟩:=Bk h;refine Ab 14 (rsT 1 (zA g18 (rsT 1 (Av (tn_ ?_)))));obtain rfl:=zj h;exact ⟨u0+1,_,Ad [],rfl,hn9⟩
  have q12_:=of_decide_eq_false q12;refine Af q12 (C3 (te_ (te_ (be_ (tn_ ?_)))));obtain rfl:=zj h;have h:=hn9
  (try dsimp only at h);obtain rfl:=zj h;exact ⟨(),_,rfl,Ad [],rfl⟩
 rintro _ _ rfl h
 (try dsimp only at h);refine Al (Ag ?_);obtain rfl:=zj h;exact A2 [.bool true] (Ar rfl zl As)
def Ie:AC :=
 (.seq (rg [xo 6 (qm (cb false))])
 (.seq (rg [xm 7 0,xm 8 1,xo 9 (qb .geq (tm 7) (tm 8)),xm 10 9,⟨some 11,some (10,true),qm (tm 0)⟩,⟨some 12,some (10,true),qm (tm 2)⟩,⟨some 13,some (10,true),qb .leq (tm 11) (tm 12)⟩,xo 14 (.i (.pick (tm 10) (tm 13) (cb false))),xm 6 14])
 .ret))
def Ol:List Res:=[.tmp 6]
theorem N7:Aw Tryd.prog Tryd.f42=some (Ie,Ol):=by kernel_rfl
theorem B5:Ba Tryd.prog 42=true:=by kernel_rfl
def A3 (a0 a1 a2:Int):Option Bool :=
 (cond (decide (a1<=a0))
  (some (decide (a0<=a2)))
  (some false)).bind fun u0 =>
some u0
def N6 (r:Bool):RV:=⟨false,[(false,[.sc (.bool r)])]⟩
theorem Bj {a0 a1 a2:Int} {r:Bool} (h:A3 a0 a1 a2=some r):Az Tryd.prog Tab 42 [ai a0,ai a1,ai a2] (N6 r):=by
 refine Ay (by kernel_rfl) Tryd.func42 N7 (n:=15) (by kernel_rfl) (by simp) rfl ?_;unfold Ie;unfold A3 at h;refine Al (A1 h (fun (u0:Bool) S_=>S_=⟨Ao [(6,.bool u0)],Aq (A5 []),2⟩) ?_ ?_)
 ·intro v_ h;refine Ab 11 (rsT 4 ?_);rcases Aa h with ⟨q3,h⟩ | ⟨q3,h⟩
  ·have q3_:=of_decide_eq_true q3;refine rq 10 q3 (rsT 5 (Av (tn_ ?_)));obtain rfl:=zj h;exact ⟨_,Ad [],rfl⟩
  have q3_:=of_decide_eq_false q3;refine rq 10 q3 (rsT 5 (Av (tn_ ?_)));obtain rfl:=zj h;exact ⟨_,Ad [],rfl⟩
 rintro u0 _ rfl h
 (try dsimp only at h);refine Ag ?_;obtain rfl:=zj h;exact A2 [.bool u0] (Ar rfl zl As)
def Eu:AC :=
 (.seq (rg [xs1 10 9 8])
 (.seq (.cond (tm 10)
  .skip
  (.exit 0))
 (.seq (.block 1 (.seq (rg [xx 11 1 7 9,xl 12 11,xm 6 12])
 (.seq (rg [xm 13 6,xm 14 1,xo 15 (qb .sub (tm 14) (ci 1)),xo 16 (qc 42 [tm 13,ci 0,tm 15] [[],[],[]]),xo 17 (.i (.not (tm 16)))])
 (.cond (tm 17)
  (.seq (rg [xo 4 (qm (cb false))])
  .ret)
  .skip))))
 (rg [xa 18 9,xm 9 18]))))
def Gl:AC :=
 (.seq (rg [xo 4 (qm (cb false))])
 (.seq (.seq (rg [xm 7 0,xn1 8 7,xo 9 (qm (ci 0))])
 (.block 0 (.loop Eu)))
 (.seq (rg [xo 4 (qm (cb true))])
 .ret)))
def Ln:List Res:=[.tmp 4]
theorem Lu:Aw Tryd.prog Tryd.f76=some (Gl,Ln):=by kernel_rfl
theorem Kg:Ba Tryd.prog 76=true:=by kernel_rfl
def Cw (a0:List Int) (a1:Int) (u0:Nat):Option (Ctl Nat (Ctl Unit Bool)) :=
 cond (decide ((u0:Int)<(a0.length:Int)))
 ((a0[u0]?).bind fun x10 =>
 (A3 x10 0 (wI (a1 - 1))).bind fun y12 =>
 cond (!y12)
  (some (Ctl.out (Ctl.out false)))
  (og (u0+1<4611686018427387904) <|
  some (Ctl.next (u0+1))))
 (some (Ctl.out (Ctl.next ())))
def B8 (a0:List Int) (a1:Int):Option Bool :=
 Q2 (Bs (fun s_:Nat=>Cw a0 a1 s_) 4611686018427387904 0) fun _ =>
some true
def Kk (r:Bool):RV:=⟨false,[(false,[.sc (.bool r)])]⟩
theorem K9 {a0:List Int} {a1:Int} {r:Bool} (h:B8 a0 a1=some r):Az Tryd.prog Tab 76 [tI a0,ai a1] (Kk r):=by
 refine Ay (by kernel_rfl) Tryd.func76 Lu (n:=19) (by kernel_rfl) (by simp) rfl ?_;unfold Gl;unfold B8 at h;refine Al (G8 h (fun (_:Unit) S_=>S_=⟨Ao [],Aq (A5 []),2⟩) ?_ ?_)
 ·intro v_ h hk2;refine Al (Ax (C2 h (fun (u0:Nat) S_=>S_=⟨Ao [(1,ai a1),(7,tI a0),(8,an a0.length),(9,an u0)],Aq (A5 []),2⟩) ⟨_,Ad [],rfl⟩ ?_));rintro n_ u0 _ c_ rfl h hn4
  (try dsimp only at h);unfold Cw at h;unfold Eu;refine Al (Ac ?_);rcases Aa h with ⟨q7,h⟩ | ⟨q7,h⟩
  ·have q7_:=of_decide_eq_true q7;refine Ae q7 (Ak (tn_ (wr_ (Ac (Ax (Ac ?_))))));obtain ⟨x10,e10,h⟩:=Ah h;refine Ab 6 (zI .int e10 (rsT 2 (Av (tn_ (wr_ (Ac ?_))))));obtain ⟨y12,h12,h⟩:=Ah h;refine Ab 11 (rsT 3 (zc (.bool y12) [] [ai x10,ai 0,ai (wI (a1 - 1))] (Bj h12) (rsT 1 (Av (tn_ (wr_ ?_))))));rcases Aa h with ⟨q13,h⟩ | ⟨q13,h⟩
   ·refine Ae q13 (Al (Ag (br_ (tr_ (tr_ (br_ (tr_ ?_)))))));obtain rfl:=zj h;have h:=hn4
    (try dsimp only at h);obtain rfl:=zj h;have h:=hk2
    (try dsimp only at h);obtain rfl:=zj h;exact A2 [.bool false] (Ar rfl zl As)
   refine Af q13 (Ak (bn_ (tn_ (wr_ ?_))));obtain ⟨g15,h⟩:=Bk h;refine Ab 13 (zA g15 (rsT 1 (Av (tn_ ?_))));obtain rfl:=zj h;exact ⟨u0+1,_,Ad [],rfl,hn4⟩
  have q7_:=of_decide_eq_false q7;refine Af q7 (C3 (te_ (te_ (be_ (tn_ ?_)))));obtain rfl:=zj h;have h:=hn4
  (try dsimp only at h);obtain rfl:=zj h;exact ⟨(),_,rfl,Ad [],rfl⟩
 rintro _ _ rfl h
 (try dsimp only at h);refine Al (Ag ?_);obtain rfl:=zj h;exact A2 [.bool true] (Ar rfl zl As)
def Fv:AC :=
 (.seq (rg [xo 4 (qm (cb false))])
 (.seq (rg [xm 5 1,xo 6 (qb .geq (tm 5) (ci 0)),xm 7 6,⟨some 8,some (7,true),qm (tm 1)⟩,⟨some 9,some (7,true),qm (tm 0)⟩,⟨some 10,some (7,true),qb .lss (tm 8) (tm 9)⟩,xo 11 (.i (.pick (tm 7) (tm 10) (cb false))),xm 4 11])
 .ret))
def Kj:List Res:=[.tmp 4]
theorem K4:Aw Tryd.prog Tryd.f78=some (Fv,Kj):=by kernel_rfl
theorem I7:Ba Tryd.prog 78=true:=by kernel_rfl
def Cn (a0 a1:Int):Option Bool :=
 (cond (decide (0<=a1))
  (some (decide (a1<a0)))
  (some false)).bind fun u0 =>
some u0
def Jk (r:Bool):RV:=⟨false,[(false,[.sc (.bool r)])]⟩
theorem Jg {a0 a1:Int} {r:Bool} (h:Cn a0 a1=some r):Az Tryd.prog Tab 78 [ai a0,ai a1] (Jk r):=by
 refine Ay (by kernel_rfl) Tryd.func78 K4 (n:=12) (by kernel_rfl) (by simp) rfl ?_;unfold Fv;unfold Cn at h;refine Al (A1 h (fun (u0:Bool) S_=>S_=⟨Ao [(4,.bool u0)],Aq (A5 []),2⟩) ?_ ?_)
 ·intro v_ h;refine Ab 10 (rsT 3 ?_);rcases Aa h with ⟨q3,h⟩ | ⟨q3,h⟩
  ·have q3_:=of_decide_eq_true q3;refine rq 7 q3 (rsT 5 (Av (tn_ ?_)));obtain rfl:=zj h;exact ⟨_,Ad [],rfl⟩
  have q3_:=of_decide_eq_false q3;refine rq 7 q3 (rsT 5 (Av (tn_ ?_)));obtain rfl:=zj h;exact ⟨_,Ad [],rfl⟩
 rintro u0 _ rfl h
 (try dsimp only at h);refine Ag ?_;obtain rfl:=zj h;exact A2 [.bool u0] (Ar rfl zl As)
end Go.Proofs.YtgljmpiofhlkjaaDoor

