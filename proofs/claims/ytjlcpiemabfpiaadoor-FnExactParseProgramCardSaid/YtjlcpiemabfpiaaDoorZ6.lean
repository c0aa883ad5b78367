/- Lemmas on the program and on partial functions that stand in place of its code (part 6); no condition beyond those that each one states. -/
import Derived.Test.YtjlcpiemabfpiaaDoorZ5
import Derived.Deep.RegionHeld3
namespace Go.Proofs.YtjlcpiemabfpiaaDoor
section
section
variable {p i o c g:Int} {code:List Eu}
theorem V3 (G:G6 p i o c g code):Be p (ba (Hf i o c g code))=some (i,o,c,g,code,true):=by
 have ht:=V5 G;obtain ⟨h1,h2⟩:=Mf G;have hl:=G.hl;unfold Be;rw [show (10:Int)=(((10:UInt8).toNat:Nat):Int) from rfl,F7 _ 10 (by omega),obs,Pm,List.map_cons];generalize hy:ba (Fb i o c g) :: (code.map Er++[[]]).map ba=y3;have hlen:y3.length=code.length+2:=by rw [← hy]; simp
 have h0:y3[0]? =some (ba (Fb i o c g)):=by rw [← hy]; rfl
 have hget:∀ k e,code[k]? =some e->y3[1+k]? =some (ba (Er e)):=fun k e he=>by
  have hk:=A1 he;rw [← hy,Nat.add_comm 1 k,List.getElem?_cons_succ,List.getElem?_map,List.getElem?_append_left (by simpa using hk),List.getElem?_map,he];rfl
 have hw:(wI (((y3.length:Nat):Int) - 1))=((code.length+1:Nat):Int):=by rw [hlen,Cc (by omega) (by omega)]; omega
 have hw2:(wI (((y3.length:Nat):Int) - 1) - 1).toNat=code.length:=by rw [hw]; omega
 have hloop:Bc (fun s_:Nat×List Eu=>A9 y3 s_.1 s_.2) 4611686018427387904 (0,[])=some code:=by
  have:=Hj (body:=fun s_:Nat×List Eu=>A9 y3 s_.1 s_.2) code (fun e=>e) [] (F:=4611686018427387904) (by omega) code (fun k x hx=>?_) ?_
  ·simpa using this
  ·have:=A1 hx;have hm:=G.all x (List.mem_of_getElem? hx)
   try dsimp only
   unfold A9;rw [hw2,Cj (by omega),cond_true,As (by omega),hget k x hx,obs,Aao G.hp G.hi G.ho G.hc G.hg hm,obs,As (by simp; omega),As (by omega)]
  ·try dsimp only
   unfold A9;rw [hw2,Cg (by omega),cond_false];simp
 rw [Ny,Cp.2 (by omega),obs,Bool.not_true,cond_false,h0,obs,show (32:Int)=(((32:UInt8).toNat:Nat):Int) from rfl,F7 _ 32 (by omega),obs,Py];have r1:=Jp (h1 i (by simp));have r2:=Jp (h1 o (by simp));have r3:=Jp (h1 c (by simp));have r4:=Jp (h1 g (by simp));simp only [List.map_cons,List.map_nil,List.length_cons,List.length_nil,List.getElem?_cons_succ,List.getElem?_cons_zero,obs,r1,r2,r3,r4];have hg:=Fj.2 G;rw [hw,As (by rw [hlen]; omega),hloop];show Option.bind (Option.bind (De p i o c g code) _) _=_;rw [Vt (by omega),hg,obs,Bool.not_true,cond_false,Qy G,obs,beq_self_eq_true];rfl
theorem Yx {l:List UInt8} (hl:l.length<=1048577):Be p (ba l)=some (0,0,0,0,[],false)∨∃ i o c g code,Be p (ba l)=some (i,o,c,g,code,true)∧Rl p i o c g code=true∧Hf i o c g code=l:=by
 unfold Be;rw [show (10:Int)=(((10:UInt8).toNat:Nat):Int) from rfl,F7 _ 10 hl,obs]
 have hmem:∀ x∈(Df 10 l).map ba,∃ z:List UInt8,x=ba z∧z.length<=1048577:=by
  intro x hx;obtain ⟨z,hz,rfl⟩:=List.mem_map.1 hx;exact ⟨z,rfl,Nat.le_trans (Hl l z hz) hl⟩
 generalize (Df 10 l).map ba=y3 at *;rw [Ny,obs];cases hin:inR ((y3.length:Nat):Int) 2 122
 ·exact .inl rfl
 have hb:=Cp.1 hin;obtain ⟨z0,hz0,hz1⟩:=hmem y3[0] (List.getElem_mem (by omega));rw [Bool.not_true,cond_false,gEg (show 0<y3.length by omega),obs,hz0,show (32:Int)=(((32:UInt8).toNat:Nat):Int) from rfl,F7 z0 32 hz1,obs]
 have hmem2:∀ x∈(Df 32 z0).map ba,∃ z:List UInt8,x=ba z:=by
  intro x hx;obtain ⟨z,_,rfl⟩:=List.mem_map.1 hx;exact ⟨z,rfl⟩
 generalize (Df 32 z0).map ba=y11 at *;by_cases h5:y11.length=5
 ·have hne:(((y11.length:Nat):Int) !=5)=false:=by rw [h5]; rfl
  rw [hne,cond_false]
  have hrd:∀ k (hk:k<y11.length),∃ v,Bj y11[k]=some v:=fun k hk=>by
   obtain ⟨z,hz⟩:=hmem2 _ (List.getElem_mem hk);rw [hz]; exact N5 z
  obtain ⟨a,ha⟩:=hrd 1 (by omega);obtain ⟨b,hb2⟩:=hrd 2 (by omega);obtain ⟨c,hc⟩:=hrd 3 (by omega);obtain ⟨d,hd⟩:=hrd 4 (by omega);rw [gEg (show 1<y11.length by omega),obs,ha,obs,gEg (show 2<y11.length by omega),obs,hb2,obs,gEg (show 3<y11.length by omega),obs,hc,obs,gEg (show 4<y11.length by omega),obs,hd,obs];have hw:(wI (((y3.length:Nat):Int) - 1))=((y3.length - 1:Nat):Int):=by rw [Cc (by omega) (by omega)]; omega
  have hw2:(wI (((y3.length:Nat):Int) - 1) - 1).toNat=y3.length - 2:=by rw [hw]; omega
  have key:∃ code,Bc (fun s_:Nat×List Eu=>A9 y3 s_.1 s_.2) 4611686018427387904 (0,[])=some code∧code.length<=1048577:=by
   refine Eb (F:=4611686018427387904) (s0:=((0,[]):Nat×List Eu)) (Post:=fun code:List Eu=>code.length<=1048577) (y3.length - 2) (fun (i:Nat) (st:Nat×List Eu)=>st.1=i∧st.2.length=i) (by omega) ⟨rfl,rfl⟩ ?_ ?_
   ·rintro i ⟨i',out⟩ hi ⟨h1,h2⟩;dsimp only at h1 h2;subst h1;obtain ⟨z,hz,hzl⟩:=hmem _ (List.getElem_mem (show 1+i'<y3.length by omega));obtain ⟨v,hv⟩:=Uu hzl
    try dsimp only
    unfold A9;rw [hw2,Cj (by omega),cond_true,As (by omega),gEg (show 1+i'<y3.length by omega),obs,hz,hv,obs,As (by omega),As (by omega)];exact .inl ⟨_,rfl,rfl,by simp; omega⟩
   ·rintro ⟨i',out⟩ ⟨h1,h2⟩;dsimp only at h1 h2;subst h1
    try dsimp only
    unfold A9;rw [hw2,Cg (by omega),cond_false];exact ⟨_,rfl,by omega⟩
  obtain ⟨code,hr,hcl⟩:=key;rw [hw,As (by omega),hr]
  have hv:∀ v,(Option.bind (some code) fun l25_m8_4=>Option.bind (Option.bind (De p a b c d l25_m8_4) fun y41=>cond (!y41) (some true) (Option.bind (D4 a b c d l25_m8_4) fun y43=>some (!(y43.toList==(ba l).toList)))) fun l40_m70=>cond l40_m70 (some (0,0,0,0,[],false)) (some (a,b,c,d,l25_m8_4,true)))=v->v=some (0,0,0,0,[],false)∨(v=some (a,b,c,d,code,true)∧Rl p a b c d code=true∧Hf a b c d code=l):=by
   rintro v rfl;rw [obs,Vt (by omega),obs];cases hg:Rl p a b c d code
   ·exact .inl rfl
   rw [Bool.not_true,cond_false,Qy (Fj.1 hg),obs];cases hq:(ba (Hf a b c d code)).toList==(ba l).toList
   ·exact .inl rfl
   ·refine .inr ⟨rfl,rfl,?_⟩;have:=beq_iff_eq.1 hq
    rwa [ByteArray.toList_eq,ByteArray.toList_eq,E2,E2] at this
  rcases hv _ rfl with h | ⟨h,h6,h7⟩
  ·exact .inl h
  ·exact .inr ⟨a,b,c,d,code,h,h6,h7⟩
 ·have hne:(((y11.length:Nat):Int) !=5)=true:=by rw [bne_iff_ne]; omega
  rw [hne];exact .inl rfl
theorem Ac8 {l:List UInt8} (hl:l.length<=1048577):∃ r,Be p (ba l)=some r∧Ba p (ba l)=some r∧r.2.2.2.2.1.length<=1048576:=by
 rcases Zc (p:=p) hl with h | ⟨i,o,c,g,code,h,hg,ht⟩
 ·rcases Yx (p:=p) hl with h2 | ⟨i,o,c,g,code,h2,hg,ht⟩
  ·exact ⟨_,h2,h,by simp⟩
  ·rw [← ht,Vw (Fj.1 hg)] at h;simp at h
 ·refine ⟨_,?_,h,?_⟩
  ·rw [← ht]; exact V3 (Fj.1 hg)
  ·have:=(Fj.1 hg).hl;dsimp only;omega
theorem Mc {p:Int} {s:ByteArray} (_h:s.size<=9223372036854775807):Bn p s=some true:=by
 unfold Bn;by_cases e0:(1048576:Int)<((s.size:Nat):Int)
 ·rw [Cj e0]; rfl
 rw [Cg e0,cond_false];obtain ⟨⟨v1,v2,v3,v4,va,vo⟩,h1,h2,h3⟩:=Ac8 (p:=p) (l:=s.data.toList) (by rw [← Bd,T0]; omega);rw [T0] at h1 h2;dsimp only at h3;obtain ⟨b4,u4,c4,d4,m4,x4,k4⟩:=Sa v1 v2 v3 v4 va (v:=1) (by omega) (by omega);simp only [h1,h2,obs,Wb v1 v2 v3 v4 va (by omega),m4,k4,As x4,bne_self_eq_false,Bool.not_true,cond_false,Cg (show ¬ u4<0 by omega)]
end
end
section
open Go.RowKit Go.Deep
theorem parseProgram_walk (p:Int) (s:ByteArray) (w:World) (_i_p: -9223372036854775808<=p∧p<=9223372036854775807) (i_s:s.size<=maxLen) (tab:Tab w) :
  Calls Tryd.prog 3 #[.int .i64 p,.string s] w fun e w'=>e=.returned (.bool true)∧Below w.heap.size w w':=by
 have hl:Bn p s=some true:=Mc (Nat.le_trans i_s (by decide));refine (F4 hl w (fun _=>True) [.int .i64 p,.string s] (fun w' hb=>tab.below hb) ⟨_,_,rfl,rfl,⟨_,_,rfl,rfl,rfl⟩⟩).mono ?_;rintro e w' ⟨u,rfl,hb,us,ls,h1,_,rfl⟩;obtain ⟨u1,us1,rfl,h2,_,rfl,rfl⟩:=h1;obtain rfl:u1=.bool true:=h2;exact ⟨rfl,hb⟩
end
end Go.Proofs.YtjlcpiemabfpiaaDoor
