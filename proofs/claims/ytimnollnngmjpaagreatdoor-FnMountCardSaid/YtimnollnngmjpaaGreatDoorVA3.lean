import Derived.Test.YtimnollnngmjpaaGreatDoorVA2
import Derived.Below
import Derived.MapKept
import Derived.MapFrom
import Derived.Lib.AppendZerosOnto
import Derived.RangeFuncIn
/- A part of the proof, its blanks struck by a program of ours. -/
set_option linter.unusedVariables false
namespace Go.Vm
open Go
section
variable {γ:Nat→G} {B:Nat→List Nat} {w:World} {lk lkS:Look}
theorem boxAt_sound(hM:Mem γ B w lk)(hS:Sub lkS lk){p:PV}{v:Value}{n r k:Nat}{ps':List PV}(h:(boxAt lkS p n).run=some (r,k,ps'))(hv:VRel γ (Dom lk) w (Owned B lk) p v):
  ∃ps b o cs,lk r=some (.box ps)∧ps'=(ps.drop k).take n∧k+n≤ps.length∧(γ r).at 0 k=some (b,o)∧v= .pointer (some ⟨b,o,none⟩)∧B r=[b]∧b<w.heap.size∧LL γ (Dom lk) w (Owned B lk) ps' cs∧w.rangeAt b o cs∧w.there b o cs.length:=by
 unfold Vm.boxAt at h
 split at h
 ·rename_i r' k'
  split at h
  ·rename_i ps hx
   simp only[Out.need_some,Out.ret_some,decide_eq_true_eq,Prod.mk.injEq]at h
   obtain⟨hle,rfl,rfl,rfl⟩:=h
   obtain⟨hd,b,o,ha,rfl⟩:=vrel_ptr.1 hv
   obtain⟨b',o',out,e1,h0,h1,h2,⟨cs,h3,h4⟩,h5,h6⟩:=(hM.rel _ _ (hS _ _ hx)).box
   have ha':=ha
   rw[e1]at ha'
   obtain⟨_,rfl,rfl⟩:=at_box ha'
   obtain⟨c1,c2,c3,e2,k1,e3,k2,k3⟩:=h3.split k' n
   refine⟨ps,b,_,c2,hS _ _ hx,rfl,hle,ha,by simp,h1,h2,k2,?_,?_⟩
   ·rw[e2]at h4
    have:=rangeAt_mid h4
    rwa [e3]at this
   ·refine there_part h5 (by omega) ?_
    have:=h3.length
    rw[e2]at this
    simp only[List.length_append]at this
    rw[e3]at this
    omega
  ·simp[Out.run]at h
 ·simp[Out.run]at h
theorem LL.nil_inv{D:Nat→Nat}{W:Nat→Nat→Prop}{cs:List Value}(h:LL γ D w W [] cs):cs=[]:=h
theorem isTop_unpack_nil{lkS:Look}{t:Ty}{p:PV}{x:t.den}(h:(toD lkS t p).run=some x): ∃l,(toL lkS t (unpack p)).run=some (x,l)∧l=[]:=by
 simp only[toD,Out.need_some,Out.bind_some]at h
 obtain⟨_,⟨x0,l⟩,h1,h2⟩:=h
 cases l with
 |nil=>simp only[Out.ret_some]at h2;subst h2;exact⟨[],h1,rfl⟩
 |cons a l=>simp[Out.run]at h2
theorem gather_val(hM:Mem γ B w lk)(hS:Sub lkS lk){O:Nat→Prop}{t:Ty}{p:PV}{v:Value}{x:t.den}{ws:List Wb}{rest:List PV}(htop:topV t p=true)(hx:(toD lkS t p).run=some x)(hw:(wbsW lkS t (unpack p)).run=some (ws,rest))(hv:VRel γ (Dom lk) w (Owned B lk) p v)(hn:(wbRoots ws).Nodup):
  ∃cs bs,Shp t v cs∧DRel w O true t x cs bs∧Hand γ B w lk ws bs∧KnownW lk ws∧ ∀(w':World) (O':Nat→Prop) outs bs',(∃cs,Shp t v cs∧SlR w' O' t cs outs bs')→WsO γ w w' O' ws outs bs':=by
 have hshp:=shp_of htop hx hv
 have hit:isTop p=true:=by
  simp only[toD,Out.need_some]at hx;exact hx.1
 obtain⟨l,h1,rfl⟩:=isTop_unpack_nil hx
 have ho:t.arrOK=true:=by simp only[topV,Bool.and_eq_true]at htop;exact htop.1.2
 obtain⟨c1,c2,bs,e,hd,hl,_,hh,hk,hb⟩:=wbs_sound hM hS (O:=O) t (unpack p) v.cells.toList x [] rest ws h1 hw (hv.unpack hit).1 ho hn
 obtain rfl:=hl.nil_inv
 rw[List.append_nil]at e
 refine⟨c1,bs,by rw[←e];exact hshp,hd,hh,hk,?_⟩
 rintro w' O' outs bs' ⟨cs,hs,hsl⟩
 have:cs=c1:=by
  rw[←e]
  cases hr:isRowT t
  ·rw[hs.2.1 hr,hshp.2.1 hr]
  ·have h1:=hs.1 hr
   have h2:=hshp.1 hr
   rw[h1];simp[Value.cells]
 subst this
 exact hb _ _ _ _ hsl
theorem goneW_roots: ∀(ws:List Wb),(∀x∈ws,(∃r t,x= .row r t)∨ ∃t,x= .none_ t)→wbRoots (goneW ws)=wbRoots ws
 |[],_=>rfl
 | .row r t::ws,h=>by simp[goneW,wbRoots,goneW_roots ws (fun x hx=>h x (by simp[hx]))]
 | .none_ t::ws,h=>by simp[goneW,wbRoots,goneW_roots ws (fun x hx=>h x (by simp[hx]))]
 | .gone r::ws,h=>by rcases h (.gone r) (by simp)with⟨_,_,e⟩|⟨_,e⟩<;>cases e
 | .var r k t o l::ws,h=>by rcases h (.var r k t o l) (by simp)with⟨_,_,e⟩|⟨_,e⟩<;>cases e
 | .nst r n k t::ws,h=>by rcases h (.nst r n k t) (by simp)with⟨_,_,e⟩|⟨_,e⟩<;>cases e
theorem wholeW_kind{lkS:Look}{p:PV}{ws:List Wb}(h:(wholeW lkS p).run=some ws): ∀x∈ws,((∃r t,x= .row r t)∨ ∃t,x= .none_ t)∨ ∃r n k t,x= .nst r n k t:=by
 unfold wholeW at h
 split at h
 ·split at h
  ·simp only[Out.need_some,Out.ret_some]at h
   obtain⟨_,rfl⟩:=h
   simp
  ·simp[Out.run]at h
 ·simp only[Out.ret_some]at h
  subst h;simp
 ·split at h
  ·split at h
   ·simp only[Out.need_some,Out.ret_some]at h
    obtain⟨_,rfl⟩:=h
    simp
   ·simp[Out.run]at h
  ·simp[Out.run]at h
 ·simp[Out.run]at h
theorem wbsW_kind{lkS:Look}: ∀(t:Ty) (ps rest:List PV) (ws:List Wb),(wbsW lkS t ps).run=some (ws,rest)→ ∀x∈ws,((∃r t,x= .row r t)∨ ∃t,x= .none_ t)∨ ∃r n k t,x= .nst r n k t
 | .pair a b,ps,rest,ws,h=>by
  simp only[wbsW,Out.bind_some,Out.ret_some,Prod.mk.injEq]at h
  obtain⟨⟨w1,q1⟩,k1,⟨w2,q2⟩,k2,rfl,rfl⟩:=h
  intro x hx
  rcases List.mem_append.1 hx with h|h
  ·exact wbsW_kind a _ _ _ k1 x h
  ·exact wbsW_kind b _ _ _ k2 x h
 | .st t,ps,rest,ws,h=>wbsW_kind t ps rest ws (by simpa only[wbsW]using h)
 | .unit,ps,rest,ws,h=>by simp only[wbsW,Out.ret_some,Prod.mk.injEq]at h;obtain⟨rfl,_⟩:=h;simp
 | .sl u,[],rest,ws,h=>by simp[wbsW,Out.run]at h
 | .sl u,p::ps,rest,ws,h=>by
  simp only[wbsW,Out.bind_some,Out.ret_some,Prod.mk.injEq]at h
  obtain⟨w1,k1,rfl,rfl⟩:=h
  exact wholeW_kind k1
 | .int _,[],_,_,h| .bool,[],_,_,h| .str,[],_,_,h| .err,[],_,_,h| .ref,[],_,_,h| .arr _ _,[],_,_,h=>by simp[wbsW,Out.run]at h
 | .int _,_::_,_,ws,h| .bool,_::_,_,ws,h| .str,_::_,_,ws,h| .err,_::_,_,ws,h| .ref,_::_,_,ws,h| .arr _ _,_::_,_,ws,h=>by
  simp only[wbsW,Out.ret_some,Prod.mk.injEq]at h;obtain⟨rfl,_⟩:=h;simp
theorem noNst_kind: ∀{ws:List Wb},noNst ws=true→(∀x∈ws,((∃r t,x= .row r t)∨ ∃t,x= .none_ t)∨ ∃r n k t,x= .nst r n k t)→ ∀x∈ws,(∃r t,x= .row r t)∨ ∃t,x= .none_ t
 |y::ws,h,hk,x,hx=>by
  have h':noNst ws=true:=by cases y<;>first|exact h|simp[noNst]at h
  rcases List.mem_cons.1 hx with rfl|hx
  ·rcases hk x (by simp)with h1|⟨r,n,k,t,rfl⟩
   ·exact h1
   ·simp[noNst]at h
  ·exact noNst_kind h' (fun z hz=>hk z (by simp[hz])) x hx
theorem goneW_mem: ∀{ws:List Wb} {x:Wb},x∈goneW ws→ ∃r,x= .gone r
 | .row r t::ws,x,h=>by
  simp only[goneW,List.mem_cons]at h
  exact h.elim (fun h=>⟨_,h⟩) goneW_mem
 | .none_ _::ws,x,h| .gone _::ws,x,h| .nst _ _ _ _::ws,x,h| .var _ _ _ _ _::ws,x,h=>goneW_mem (ws:=ws) h
theorem WsO.gone_nil{w':World}{O:Nat→Prop}: ∀(ws:List Wb),WsO γ w w' O (goneW ws) [] []
 |[]=>⟨rfl,rfl⟩
 | .row _ _::ws=>WsO.gone_nil ws
 | .none_ _::ws| .gone _::ws| .nst _ _ _ _::ws| .var _ _ _ _ _::ws=>WsO.gone_nil ws
theorem LRels.one{D:Nat→Nat}{W:Nat→Nat→Prop}{c:PV}{vs:List Value}(h:LRels γ D w W [c] vs): ∃u,vs=[u]∧LRel γ D w W c [u]:=by
 simp only[LRels]at h
 obtain⟨v,vs',rfl,h1,rfl⟩:=h
 exact⟨v,rfl,h1⟩
theorem LRels.two{D:Nat→Nat}{W:Nat→Nat→Prop}{c d:PV}{vs:List Value}(h:LRels γ D w W [c,d] vs): ∃u u',vs=[u,u']∧LRel γ D w W c [u]∧LRel γ D w W d [u']:=by
 simp only[LRels]at h
 obtain⟨v,vs',rfl,h1,v',vs'',rfl,h2,rfl⟩:=h
 exact⟨v,v',rfl,h1,h2⟩
theorem vrel_fn{D:Nat→Nat}{W:Nat→Nat→Prop}{f:Nat}{cs:List PV}{v:Value}:VRel γ D w W (.fn f cs) v↔ ∃vs,v= .func (.func f) #[] vs.toArray∧LRels γ D w W cs vs:=by
 simp only[VRel,VRel0,LRel,List.cons.injEq,and_true]
theorem gather_sound(hM:Mem γ B w lk)(hS:Sub lkS lk){O:Nat→Prop}(hO: ∀k,O k→AllW (Owned B lk) k): ∀(m:Mode) (p:PV) (v:Value) (g:Got),(gather lkS m p).run=some g→VRel γ (Dom lk) w (Owned B lk) p v→(wbRoots g.ws).Nodup→(∀r∈g.lent,∀k∈B r,¬O k)→
  ∃bs,ArgR w O m v g.ds bs∧Hand γ B w lk g.ws bs∧KnownW lk g.ws∧ ∀(w':World) (O':Nat→Prop) outs bs',OutR w w' O' m v outs bs'→WsO γ w w' O' g.ws outs bs'
 | .b t,p,v,g,h,hv,hn,hl=>by
  simp only[Vm.gather,Out.need_some,Out.bind_some,Out.ret_some]at h
  obtain⟨htop,x,hx,rfl⟩:=h
  obtain⟨hd,_⟩:=hM.toD hS hx hv ⟨hO,fun r hr=>hl r (reach_sub _ _ _ r hr)⟩
  exact⟨[],⟨x,_,rfl,rfl,shp_of htop hx hv,hd⟩,⟨by simp,by simp,by simp⟩,by simp[KnownW,wbRoots],fun w' O' outs bs' h=>h⟩
 | .q t,p,v,g,h,hv,hn,hl=>by
  unfold Vm.gather at h
  split at h
  ·cases ‹Mode.q t=_›
  ·rename_i t' u x e
   cases e
   simp only[Out.bind_some,Out.ret_some]at h
   obtain⟨y,hy,rfl⟩:=h
   obtain⟨rfl,rfl⟩:=castD_some.1 hy
   obtain⟨a,cells,rfl,h1,h2,h3,h4⟩:=vrel_ro.1 hv
   exact⟨[],⟨_,a,cells,rfl,rfl,rfl,h1,fun h=>h2 (hO _ h),h3,h4.less hO⟩,⟨by simp,by simp,by simp⟩,by simp[KnownW,wbRoots],fun w' O' outs bs' h=>h⟩
  ·rename_i t' e _
   cases e
   simp only[Out.bind_some]at h
   obtain⟨⟨r,k,ps⟩,hb,⟨x,l⟩,hx,h⟩:=h
   split at h
   ·rename_i hl0
    dsimp only at hl0
    subst hl0
    simp only[Out.ret_some]at h
    subst h
    obtain⟨ps0,b,o,cs,q1,q2,q3,q4,rfl,q5,q6,q7,q8,q9⟩:=boxAt_sound hM hS hb hv
    obtain⟨c1,c2,qs,e1,hd,h2,_⟩:=hM.toL (O':=O) hS t ps cs x [] hx q7 ⟨hO,fun s hs=>hl s (List.mem_cons_of_mem _ (reach_sub _ _ _ s hs))⟩
    obtain rfl:=h2.nil_inv
    rw[List.append_nil]at e1
    subst e1
    exact⟨[],⟨x,⟨b,o,none⟩,cs,rfl,rfl,rfl,q6,hl r (by simp) b (by rw[q5];simp),fun j u hj=>by rw[Addr.add_mid];exact q8 j u hj,hd⟩,⟨by simp,by simp,by simp⟩,by simp[KnownW,wbRoots],fun w' O' outs bs' h=>h⟩
   ·simp[Out.run]at h
  all_goals first|(rename_i e _ _;cases e;done)|(rename_i e _;cases e;done)|(rename_i e;cases e;done)|(simp[Out.run]at h)
 | .i t,p,v,g,h,hv,hn,hl=>by
  simp only[Vm.gather,Out.need_some,Out.bind_some,Out.ret_some]at h
  obtain⟨htop,x,hx,⟨ws,rest⟩,hw,rfl⟩:=h
  obtain⟨cs,bs,h1,h2,h3,h4,h5⟩:=gather_val (O:=O) hM hS htop hx hw hv hn
  exact⟨bs,⟨x,cs,rfl,h1,h2⟩,h3,h4,fun w' O' outs bs' h=>h5 w' O' outs bs' h⟩
 | .o t,p,v,g,h,hv,hn,hl=>by
  simp only[Vm.gather,Out.need_some,Out.bind_some,Out.ret_some]at h
  obtain⟨htop,x,hx,⟨ws,rest⟩,hw,hnn,rfl⟩:=h
  have hr:=goneW_roots ws (noNst_kind hnn (wbsW_kind _ _ _ _ hw))
  dsimp only at hn
  rw[hr]at hn
  obtain⟨cs,bs,h1,h2,h3,h4,h5⟩:=gather_val (O:=O) hM hS htop hx hw hv hn
  refine⟨bs,⟨x,cs,rfl,h1,h2⟩,⟨h3.nodup,by dsimp only;rw[hr];exact h3.sub,fun r n k t hm=>by obtain⟨_,e⟩:=goneW_mem hm;cases e⟩,by dsimp only;unfold KnownW;rw[hr];exact h4,fun w' O' outs bs' h=>?_⟩
  obtain⟨rfl,rfl⟩:=h
  exact WsO.gone_nil ws
 | .p t true,p,v,g,h,hv,hn,hl=>by
  simp only[Vm.gather,Out.bind_some,Out.need_some]at h
  obtain⟨⟨r,k,ps⟩,hb,hown,⟨x,l⟩,hx,h⟩:=h
  dsimp only at h hown hx
  split at h
  ·simp only[Out.ret_some]at h
   subst h
   obtain⟨ps0,b,o,cs,q1,q2,q3,q4,rfl,q5,q6,q7,q8,q9⟩:=boxAt_sound hM hS hb hv
   obtain⟨c1,c2,qs,e1,hd,h2,e2⟩:=hM.toL_own (O:=O) hS t ps cs x [] hx q7 hown
   obtain rfl:=h2.nil_inv
   rw[List.append_nil]at e1 e2
   subst e1 e2
   have hlen:cs.length=t.sz:=DRel.length _ _ _ _ hd
   have hkn:KnownW lk [.var r k t true (idsL ps)]:=fun s hs=>by
    simp only[wbRoots,List.append_nil,List.mem_cons]at hs
    rcases hs with rfl|hs
    ·exact⟨_,q1⟩
    ·obtain⟨y,hy⟩:=ownableL_known _ hown s hs;exact⟨y,hS _ _ hy⟩
   dsimp only[wbRoots]at hn
   rw[List.append_nil]at hn
   refine⟨b::(idsL ps).flatMap B,⟨x,b,o,cs,_,rfl,rfl,rfl,q6,q8,by rw[←hlen];exact q9,hd⟩,⟨?_,fun j hj=>?_,by simp⟩,hkn,?_⟩
   ·have:=hM.nodupL (L:=r::idsL ps) hn (fun s hs=>hkn s (by simpa[wbRoots]using hs))
    simpa[q5]using this
   ·rcases List.mem_cons.1 hj with rfl|hj
    ·exact⟨r,by simp[wbRoots],by rw[q5];simp⟩
    ·obtain⟨s,hs,h⟩:=List.mem_flatMap.1 hj;exact⟨s,by simp[wbRoots,hs],h⟩
   ·rintro w' O' outs bs' ⟨b',o',y,cs',bs'',e1,rfl,rfl,r1,r2,r3,r4⟩
    cases e1
    exact⟨b,o,cs',y,bs'',[],[],rfl,by simp,q4,r1,r2,r3,r4,rfl,rfl⟩
  ·simp[Out.run]at h
 | .p t false,p,v,g,h,hv,hn,hl=>by
  simp only[Vm.gather,Out.bind_some]at h
  obtain⟨⟨r,k,ps⟩,hb,h⟩:=h
  dsimp only at h
  split at h
  ·rename_i hids
   simp only[Out.bind_some]at h
   obtain⟨⟨x,l⟩,hx,h⟩:=h
   dsimp only at h
   split at h
   ·simp only[Out.ret_some]at h
    subst h
    obtain⟨ps0,b,o,cs,q1,q2,q3,q4,rfl,q5,q6,q7,q8,q9⟩:=boxAt_sound hM hS hb hv
    obtain⟨c1,c2,qs,e1,hd,h2,_⟩:=hM.toL (O':=O) hS t ps cs x [] hx q7 ⟨hO,fun s hs=>by rw[hids]at hs;simp at hs⟩
    obtain rfl:=h2.nil_inv
    rw[List.append_nil]at e1
    subst e1
    have hlen:cs.length=t.sz:=DRel.length _ _ _ _ hd
    refine⟨[b],⟨x,b,o,cs,[],rfl,rfl,rfl,q6,q8,by rw[←hlen];exact q9,hd⟩,⟨by simp,fun j hj=>⟨r,by simp[wbRoots],by rw[q5];exact hj⟩,by simp⟩,fun s hs=>by
     obtain rfl:s=r:=by simpa[wbRoots]using hs
     exact⟨_,q1⟩,?_⟩
    rintro w' O' outs bs' ⟨b',o',y,cs',bs'',e1,rfl,rfl,r1,r2,r3,r4⟩
    cases e1
    exact⟨b,o,cs',y,bs'',[],[],rfl,by simp,q4,r1,r2,r3,r4,rfl,rfl⟩
   ·simp[Out.run]at h
  ·simp[Out.run]at h
 | .f0 f,p,v,g,h,hv,hn,hl=>by
  unfold Vm.gather at h
  split at h<;>try (rename_i e;cases e;done)
  all_goals try (rename_i e _;cases e;done)
  all_goals try (rename_i e _ _;cases e;done)
  ·rename_i g' h' e
   cases e
   simp only[Out.need_some,Out.ret_some,beq_iff_eq]at h
   obtain⟨rfl,rfl⟩:=h
   obtain⟨vs,rfl,hc⟩:=vrel_fn.1 hv
   simp only[LRels]at hc
   subst hc
   exact⟨[],⟨rfl,rfl,rfl⟩,⟨by simp,by simp,by simp⟩,by simp[KnownW,wbRoots],fun w' O' outs bs' h=>h⟩
  ·simp[Out.run]at h
 | .f1 f m,p,v,g,h,hv,hn,hl=>by
  unfold Vm.gather at h
  split at h<;>try (rename_i e;cases e;done)
  all_goals try (rename_i e _;cases e;done)
  all_goals try (rename_i e _ _;cases e;done)
  ·rename_i g' m' h' c e
   cases e
   simp only[Out.need_some,Bool.and_eq_true,beq_iff_eq]at h
   obtain⟨⟨rfl,hc⟩,h⟩:=h
   obtain⟨vs,rfl,hcs⟩:=vrel_fn.1 hv
   obtain⟨u,rfl,hu⟩:=hcs.one
   obtain⟨bs,h1,h2,h3,h4⟩:=gather_sound hM hS hO m c u g h ((VRel.cap hc).2 hu) hn hl
   refine⟨bs,⟨u,rfl,h1⟩,h2,h3,?_⟩
   rintro w' O' outs bs' ⟨u',e,ho⟩
   cases e
   exact h4 _ _ _ _ ho
  ·simp[Out.run]at h
 | .f2 f m n,p,v,g,h,hv,hn,hl=>by
  unfold Vm.gather at h
  split at h<;>try (rename_i e;cases e;done)
  all_goals try (rename_i e _;cases e;done)
  all_goals try (rename_i e _ _;cases e;done)
  ·rename_i g' m' n' h' c d e
   cases e
   simp only[Out.need_some,Bool.and_eq_true,beq_iff_eq,Out.bind_some,Out.ret_some]at h
   obtain⟨⟨⟨rfl,hc⟩,hd⟩,g1,h1,g2,h2,rfl⟩:=h
   obtain⟨vs,rfl,hcs⟩:=vrel_fn.1 hv
   obtain⟨u,u',rfl,hu,hu'⟩:=hcs.two
   dsimp only[Got.add]at hn hl
   have hn':=hn
   rw[wbRoots_append,List.nodup_append]at hn'
   obtain⟨bs1,a1,a2,a3,a4⟩:=gather_sound hM hS hO m c u g1 h1 ((VRel.cap hc).2 hu) hn'.1 (fun r hr=>hl r (by simp[hr]))
   obtain⟨bs2,b1,b2,b3,b4⟩:=gather_sound hM hS hO n d u' g2 h2 ((VRel.cap hd).2 hu') hn'.2.1 (fun r hr=>hl r (by simp[hr]))
   refine⟨bs1++bs2,⟨u,u',_,_,_,_,rfl,rfl,rfl,a1,b1⟩,a2.append hM b2 a3 b3 hn,a3.append b3,?_⟩
   rintro w' O' outs bs' ⟨c',d',ds1,ds2,p1,p2,e,rfl,rfl,o1,o2⟩
   cases e
   exact(a4 _ _ _ _ o1).append (b4 _ _ _ _ o2)
  ·simp[Out.run]at h
 | .pb m,p,v,g,h,hv,hn,hl=>by
  unfold Vm.gather at h
  split at h<;>try (rename_i e;cases e;done)
  all_goals try (rename_i e _;cases e;done)
  all_goals try (rename_i e _ _;cases e;done)
  ·rename_i m' c e
   cases e
   simp only[Out.need_some]at h
   obtain⟨hc,h⟩:=h
   simp only[VRel,VRel0,LRel,List.cons.injEq,and_true]at hv
   obtain⟨a,u,rfl,q1,q2,q3,q4⟩:=hv
   obtain⟨bs,h1,h2,h3,h4⟩:=gather_sound hM hS hO m c u g h ((VRel.cap hc).2 q4) hn hl
   refine⟨bs,⟨a,u,rfl,q1,fun h=>q2 (hO _ h),q3,h1⟩,h2,h3,?_⟩
   rintro w' O' outs bs' ⟨a',u',e,e',ho⟩
   cases e
   rw[q3]at e'
   cases e'
   exact h4 _ _ _ _ ho
  ·rename_i m' e _
   cases e
   simp only[Out.bind_some]at h
   obtain⟨⟨r,k,ps⟩,hb,h⟩:=h
   dsimp only at h
   split at h
   ·rename_i c
    simp only[Out.need_some,Out.bind_some,Out.ret_some]at h
    obtain⟨hc,g',h,rfl⟩:=h
    obtain⟨ps0,b,o,cs,q1,q2,q3,q4,rfl,q5,q6,q7,q8,q9⟩:=boxAt_sound hM hS hb hv
    have h7:=LL.single.1 q7
    have hsz:szV c=1:=by cases c<;>simp only[capOK,Bool.false_eq_true]at hc<;>rfl
    obtain⟨u,rfl⟩: ∃u,cs=[u]:=List.length_eq_one_iff.1 (by rw[h7.length,hsz])
    obtain⟨bs,h1,h2,h3,h4⟩:=gather_sound hM hS hO m c u g' h ((VRel.cap hc).2 h7) hn (fun s hs=>hl s (by simp[hs]))
    have hcell:w.cell? ((⟨b,o,none⟩:Addr).add 0)=some u:=by rw[Addr.add_mid];exact q8 0 u rfl
    refine⟨bs,⟨⟨b,o,none⟩,u,rfl,q6,hl r (by simp) b (by rw[q5];simp),hcell,h1⟩,h2,h3,?_⟩
    rintro w' O' outs bs' ⟨a',u',e,e',ho⟩
    cases e
    rw[hcell]at e'
    cases e'
    exact h4 _ _ _ _ ho
   ·simp[Out.run]at h
  ·simp[Out.run]at h
end
end Go.Vm
namespace Go.Vm
open Go
section
variable {γ γc:Nat→G} {B B0 Bc:Nat→List Nat} {w w':World} {lk lk0 lkc lkS:Look}
theorem updF_dead{L:List Nat}{lk:Look}(h: ∀r∈L,lk r=some .dead)(u:Ups):updF lk (L.map (fun r=>(r,none))++u)=updF lk u:=by
 rw[updF_append,updF_kill]
 congr 1
 funext s
 unfold killF
 split
 ·rename_i hs;exact(h s hs).symm
 ·rfl
theorem box_back{O':Nat→Prop}(hM0:Mem γ B0 w lk0)(hK:Kp γ (Dom lk0) w (Owned B0 lk0) γc (Dom lkc) w' (Owned Bc lkc) (fun _=>True))(hMc:Mem γc Bc w' lkc)(hc0:lkc 0=some .ext){r k b o:Nat}{ps ps' c:List PV}(hr0:r≠0)(hx:lk0 r=some (.box ps))
  (hdead:lkc r=some .dead∧Bc r=[]) (hsb:(setBox ps k c).run=some ps') (ha:(γ r).at 0 k=some (b,o)) {cs:List Value} {n:Nat} (hn:cs.length=n) (hra:w'.rangeAt b o cs) (hth:w'.there b o n)
  (hout: ∀j,j<o∨o+n≤j→(w'.cell? ⟨b,j,none⟩,w'.frozen? ⟨b,j,none⟩)=(w.cell? ⟨b,j,none⟩,w.frozen? ⟨b,j,none⟩)) (hl:LL γc (Dom lkc) w' (Owned Bc lkc) c cs) (hb0:b∈Bc 0):
  ∃g B',Drw γc Bc lkc (updN γc r g) B' (setF lkc r (.box ps')) w' [b] [r]:=by
 obtain⟨b',o',out,e1,h0,h1,h2,⟨cs0,h3,h4⟩,h5,h6⟩:=(hM0.rel r _ hx).box
 have ha':=ha
 rw[e1]at ha'
 obtain⟨_,rfl,rfl⟩:=at_box ha'
 simp only[setBox,Out.need_some,Out.ret_some,Bool.and_eq_true,decide_eq_true_eq]at hsb
 obtain⟨⟨⟨hk,hal⟩,hnf⟩,rfl⟩:=hsb
 obtain⟨c1,c2,c3,e2,k1,e3,k2,k3⟩:=h3.split k c.length
 have hc2:c2.length=n:=by rw[k2.length,alikeL_sz hal,←hl.length,hn]
 have hpe:ps=ps.take k++((ps.drop k).take c.length++ps.drop (k+c.length)):=by rw[←List.drop_drop,List.take_append_drop,List.take_append_drop]
 have hmap:(ps.take k++c++ps.drop (k+c.length)).map szV=ps.map szV:=by
  conv=>rhs;rw[hpe]
  simp only[List.map_append,alikeL_sz hal,List.append_assoc]
 have hn':nstFree (ps.take k++c++ps.drop (k+c.length))=true:=by
  rw[hpe]at h0
  rw[nstFree_append,nstFree_append]at h0
  rw[nstFree_append,nstFree_append]
  exact⟨⟨h0.1,hnf⟩,h0.2.2⟩
 have hfree:nstFree (ps.take k)=true∧nstFree (ps.drop (k+c.length))=true:=by
  rw[nstFree_append,nstFree_append]at hn'
  exact⟨hn'.1.1,hn'.2⟩
 have hL:LL γc (Dom lkc) w' (Owned Bc lkc) (ps.take k++c++ps.drop (k+c.length)) (c1++cs++c3):=
  ((k1.step hK _ _ (by rw[nstOfL_free _ hfree.1];simp)).append hl).append (k3.step hK _ _ (by rw[nstOfL_free _ hfree.2];simp))
 have htot:(ps.map szV).sum=c1.length+n+c3.length:=by rw[←h3.length,e2];simp[hc2];omega
 rw[←e3]at hra hth hout
 have hra':w'.rangeAt b o' (c1++cs++c3):=by
  refine rangeAt_append (rangeAt_append (fun j v hj=>?_) hra) (fun j v hj=>?_)
  ·have hj':=(List.getElem?_eq_some_iff.1 hj).1
   have:=hout (o'+j) (.inl (by omega))
   simp only[Prod.mk.injEq]at this
   rw[this.1]
   exact h4 j v (by rw[e2,List.append_assoc,List.getElem?_append_left hj'];exact hj)
  ·have:=hout (o'+(c1++cs).length+j) (.inr (by simp;omega))
   simp only[Prod.mk.injEq]at this
   rw[this.1]
   have:=h4 ((c1++cs).length+j) v (by
    rw[e2]
    have:(c1++cs).length=(c1++c2).length:=by simp[hc2,hn]
    rw[this,List.getElem?_append_right (by omega),Nat.add_sub_cancel_left];exact hj)
   rwa [←Nat.add_assoc]at this
 have hth':w'.there b o' (ps.map szV).sum:=fun j hj=>by
  by_cases hin:c1.length≤j∧j<c1.length+n
  ·have:=hth (j-c1.length) (by omega)
   rwa [show o'+c1.length+(j-c1.length)=o'+j by omega]at this
  ·have:=hout (o'+j) (by omega)
   simp only[Prod.mk.injEq]at this
   rw[this.1,this.2];exact h5 j hj
 have hlt:b<w'.heap.size:=Nat.lt_of_lt_of_le h2 hK.stp.size
 have hγ:γc r=γ r:=hK.same r (Dom_ne hx)
 obtain⟨B',hd⟩:=box_draw (out:=out) hMc hc0 hr0 (.inr hdead) hL hn' hra' (by rw[hmap];exact hth') hlt hb0 (fun _=>by rw[hγ,e1,hmap])
  (fun j hj=>by
   rw[hmap]at hj
   rw[hout j (by omega)]
   exact h6 j hj)
 exact⟨_,B',hd⟩
theorem map_some_keys{α:Type}(l:List (Nat×α)):(l.map fun(j,y)=>((j,some y):Nat×Option α)).map (·.1)=l.map (·.1):=by
 induction l with
 |nil=>rfl
 |cons a l ih=>simp[ih]
theorem writeBack_sound{O' kp:Nat→Prop}(hM0:Mem γ B0 w lk0): ∀(ws:List Wb) (ds:List Dyn) (bs:List Nat) (ys ys':List Dyn) (id id':Nat) (up:Ups) (γc:Nat→G) (Bc:Nat→List Nat) (lkc:Look),
  (∀r∈wbRoots ws,∀y,lkS r=some y→lk0 r=some y)→Kp γ (Dom lk0) w (Owned B0 lk0) γc (Dom lkc) w' (Owned Bc lkc) (fun _=>True)→Mem γc Bc w' lkc→lkc 0=some .ext→
  (∀r∈wbRoots ws,lkc r=some .dead∧Bc r=[]∧r≠0)→(wbRoots ws).Nodup→WsO γ w w' O' ws ds bs→bs.Nodup→(∀k∈bs,k∈Bc 0)→
  (∀r n k t,Wb.nst r n k t∈ws→ ∃h,NstOK γ B0 w lk0 r n k t h∧ ∀j∈B0 r,j∉h→j∈Bc 0∧j∉bs∧w'.heap[j]?=w.heap[j]?∧kp j)→((∀k,AllW (Owned Bc lkc) k→O' k)∨flatW ws=true)→
  0<id→(∀j x,(j,some x)∈up→id≤j→j<id'→lkc j=none)→(writeBack lkS ws (ds++ys) id).run=some (up,ys',id')→
  ys'=ys∧id≤id'∧ ∃γ' B' ks ts,Drw γc Bc lkc γ' B' (updF lkc up) w' ts ks∧((∀k∈bs,k∈ts)∧ ∀k∈ts,k∈bs∨kp k)∧(∀s∈ks,s∈wbRoots ws∨(id≤s∧s<id'∧ ∃x,(s,some x)∈up))∧(∀s∈up.map (·.1),s∈wbRoots ws∨(id≤s∧s<id'))∧(∀s∈wbRoots ws,s∈up.map (·.1))
 |[],ds,bs,ys,ys',id,id',up,γc,Bc,lkc,hS,hK,hMc,hc0,hdead,hn,ho,hnd,hbs,hN,hO,hid,hf,h=>by
  obtain⟨rfl,rfl⟩:=ho
  simp only[writeBack,Out.ret_some,Prod.mk.injEq,List.nil_append]at h
  obtain⟨rfl,rfl,rfl⟩:=h
  exact⟨rfl,Nat.le_refl _,γc,Bc,[],[],Drw.refl hMc hc0,by simp,by simp,by simp,by simp[wbRoots]⟩
 | .gone r::ws,ds,bs,ys,ys',id,id',up,γc,Bc,lkc,hS,hK,hMc,hc0,hdead,hn,ho,hnd,hbs,hN,hO,hid,hf,h=>by
  simp only[writeBack,Out.bind_some,Out.ret_some,Prod.mk.injEq]at h
  obtain⟨⟨up1,z1,z2⟩,h,rfl,rfl,rfl⟩:=h
  simp only[wbRoots,List.nodup_cons]at hn
  obtain⟨q1,q2,γ',B',ks,ts,q3,q7,q4,q5,q6⟩:=writeBack_sound hM0 ws ds bs ys _ id _ up1 γc Bc lkc (fun s hs=>hS s (by simp[wbRoots,hs])) hK hMc hc0 (fun s hs=>hdead s (by simp[wbRoots,hs])) hn.2 ho hnd hbs (fun r n k t hm=>hN r n k t (List.mem_cons_of_mem _ hm)) (by simpa[flatW]using hO) hid (fun j x hj=>hf j x (List.mem_cons_of_mem _ hj)) h
  have hd:=hdead r (by simp[wbRoots])
  have he:updF lkc ((r,none)::up1)=updF lkc up1:=by
   have:=updF_dead (L:=[r]) (lk:=lkc) (by simpa using hd.1) up1
   simpa using this
  refine⟨q1,q2,γ',B',ks,ts,by rw[he];exact q3,q7,fun s hs=>(q4 s hs).imp (fun h=>by simp[wbRoots,h]) (fun⟨h1,h2,x,hx⟩=>⟨h1,h2,x,List.mem_cons_of_mem _ hx⟩),fun s hs=>?_,fun s hs=>?_⟩
  ·simp only[List.map_cons,List.mem_cons]at hs
   rcases hs with rfl|hs
   ·left;simp[wbRoots]
   ·exact(q5 s hs).imp (fun h=>by simp[wbRoots,h]) (fun h=>h)
  ·simp only[wbRoots,List.mem_cons]at hs
   rcases hs with rfl|hs
   ·simp
   ·simp[q6 s hs]
 | .none_ t::ws,ds,bs,ys,ys',id,id',up,γc,Bc,lkc,hS,hK,hMc,hc0,hdead,hn,ho,hnd,hbs,hN,hO,hid,hf,h=>by
  obtain⟨ds',rfl,ho⟩:=ho
  simp only[List.cons_append,writeBack,Out.need_some]at h
  obtain⟨_,h⟩:=h
  obtain⟨q1,q2,γ',B',ks,ts,q3,q7,q4,q5,q6⟩:=writeBack_sound hM0 ws ds' bs ys ys' id id' up γc Bc lkc hS hK hMc hc0 hdead hn ho hnd hbs (fun r n k t hm=>hN r n k t (List.mem_cons_of_mem _ hm)) (by simpa[flatW]using hO) hid hf h
  exact⟨q1,q2,γ',B',ks,ts,q3,q7,q4,q5,q6⟩
 | .row r u::ws,ds,bs,ys,ys',id,id',up,γc,Bc,lkc,hS,hK,hMc,hc0,hdead,hn,ho,hnd,hbs,hN,hO,hid,hf,h=>by
  obtain⟨xs,v,ds',b1,b2,rfl,rfl,hg,hown,ho⟩:=ho
  simp only[List.cons_append,writeBack,Out.bind_some]at h
  obtain⟨xs',hx',h⟩:=h
  obtain⟨_,rfl⟩:=castD_some.1 hx'
  split at h
  ·rename_i u' xs0 m hlk
   simp only[Out.need_some,Out.bind_some,Out.ret_some,Prod.mk.injEq]at h
   obtain⟨hm,xs',hc,⟨up1,z1,z2⟩,h,rfl,rfl,rfl⟩:=h
   obtain⟨e,rfl⟩:=castL_some.1 hc
   subst e
   simp only[wbRoots,List.nodup_cons]at hn
   rw[List.nodup_append]at hnd
   have hd:=hdead r (by simp[wbRoots])
   have hl0:=hS r (by simp[wbRoots]) _ hlk
   have hγ:γc r= .row v u:=(hK.same r (Dom_ne hl0)).trans hg
   have hmz:m≠ .froz:=by rintro rfl;simp[Own.deep]at hm
   obtain⟨B1,d1⟩:=Drw.one hMc hc0 hd.2.2 (.inr ⟨hd.1,hd.2.1⟩) (x':= .row u xs m.wr) (g:= .row v u) (bs:=b1) (fun _=>hγ.symm) (fun k hk=>hbs k (by simp[hk])) hnd.1
    (fun n k b o ha=>by
     obtain⟨⟨l,c,rfl⟩,_⟩:=at_row ha
     simp only[G.at,Option.map_eq_some_iff,Prod.mk.injEq]at ha
     obtain⟨g,hg',_⟩:=ha
     obtain⟨_,_,e⟩:=rowAt_some hg'
     rcases hown with⟨_,e1,_⟩|⟨g',cap,cells,rest,e1,_,_,h3,_⟩
     ·cases e1;cases e
     ·cases e1;exact h3)
    (fun γ' B' lk' _ _ hK' _=>RootRel.mkWr hmz (hown.step (fun _ _=>rfl) (Nat.le_refl _) (fun x c b _ _ hr=>by
     cases hdp:m.deep
     ·rw[RowR.shal hdp]
      rw[hdp]at hm
      simp only[Bool.false_or,Bool.and_eq_true]at hm
      exact DRel.flat _ _ _ _ hm.1 hr
     ·rw[RowR.deep hdp];exact hr.anyO)))
   have hcur: ∀s,s∈wbRoots ws→s≠r:=fun s hs e=>hn.1 (e▸hs)
   have hγc:updN γc r (.row v u)=γc:=by
    funext s;unfold updN;split
    ·rename_i e;rw[e,hγ]
    ·rfl
   obtain⟨q1,q2,γ',B',ks,ts,q3,q7,q4,q5,q6⟩:=writeBack_sound hM0 ws ds' b2 ys _ id _ up1 (updN γc r (.row v u)) B1 (setF lkc r (.row u xs m.wr)) (fun s hs=>hS s (by simp[wbRoots,hs]))
    ((hK.trans d1.kp).weaken fun _ _ _=>trivial) d1.mem d1.ext (fun s hs=>by
     have h1:=hdead s (by simp[wbRoots,hs])
     obtain⟨h2,h3⟩:=d1.other s (by simpa using hcur s hs) h1.2.2
     exact⟨by rw[h3];exact h1.1,by rw[h2];exact h1.2.1,h1.2.2⟩) hn.2 ho hnd.2.1
    (fun k hk=>(d1.zero k).2 ⟨hbs k (by simp[hk]),fun hk'=>hnd.2.2 k hk' k hk rfl⟩)
    (fun r' n' k' t' hm=>by
     obtain⟨z,h1,h2⟩:=hN r' n' k' t' (List.mem_cons_of_mem _ hm)
     refine⟨z,h1,fun j hj hjz=>?_⟩
     obtain⟨h3,h4,h5⟩:=h2 j hj hjz
     exact⟨(d1.zero j).2 ⟨h3,fun hk'=>h4 (by simp[hk'])⟩,fun hk=>h4 (by simp[hk]),h5⟩)
    (hO.imp (fun h k hk=>h k ((d1.all k).1 hk)) (by simp[flatW])) hid
    (fun j x hk hj hj'=>by
     have hjn:=hf j x (List.mem_cons_of_mem _ hk) hj hj'
     have:j≠r:=fun e=>by rw[e,hd.1]at hjn;cases hjn
     simp[setF,this,hjn]) h
   refine⟨q1,q2,γ',B',[r]++ks,b1++ts,d1.trans q3,⟨fun k hk=>?_,fun k hk=>?_⟩,fun s hs=>?_,fun s hs=>?_,fun s hs=>?_⟩
   ·rcases List.mem_append.1 hk with h|h
    ·exact List.mem_append_left _ h
    ·exact List.mem_append_right _ (q7.1 k h)
   ·rcases List.mem_append.1 hk with h|h
    ·left;simp[h]
    ·rcases q7.2 k h with h|h
     ·left;simp[h]
     ·exact .inr h
   ·rcases List.mem_append.1 hs with h|h
    ·left;simp only[List.mem_singleton]at h;simp[wbRoots,h]
    ·exact(q4 s h).imp (fun h=>by simp[wbRoots,h]) (fun⟨h1,h2,x,hx⟩=>⟨h1,h2,x,List.mem_cons_of_mem _ hx⟩)
   ·simp only[List.map_cons,List.mem_cons]at hs
    rcases hs with rfl|hs
    ·left;simp[wbRoots]
    ·exact(q5 s hs).imp (fun h=>by simp[wbRoots,h]) (fun h=>h)
   ·simp only[wbRoots,List.mem_cons]at hs
    rcases hs with rfl|hs
    ·simp
    ·simp[q6 s hs]
  ·simp[Out.run]at h
 | .nst r n k t::ws,ds,bs,ys,ys',id,id',up,γc,Bc,lkc,hS,hK,hMc,hc0,hdead,hn,ho,hnd,hbs,hN,hO,hid,hf,h=>by
  obtain⟨zs,v,ds',b1,b2,b,o,rfl,rfl,hat,hcell,hown,ho⟩:=ho
  obtain⟨z,⟨u,xs,m,x,v0,v',c1,c3,b',o',hl0,hm,hg,hxn,hBr,hat',hcell',hclos⟩,hkept⟩:=hN r n k t (by simp)
  rw[hat]at hat'
  cases hat'
  rw[hcell]at hcell'
  cases hcell'
  simp only[List.cons_append,writeBack,Out.bind_some]at h
  obtain⟨zs',hz',h⟩:=h
  obtain⟨_,rfl⟩:=castD_some.1 hz'
  split at h
  ·rename_i u' xs0 m' hlk
   have hl1:=hS r (by simp[wbRoots]) _ hlk
   rw[hl0]at hl1
   cases hl1
   simp only[Out.need_some,Out.bind_some,Out.ret_some,Prod.mk.injEq,nthO,Out.opt_some]at h
   obtain⟨_,x2,⟨x3,hx3,e3⟩,x',hset,⟨up1,z1,z2⟩,h,rfl,rfl,rfl⟩:=h
   subst e3
   rw[hxn]at hx3
   cases hx3
   simp only[wbRoots,List.nodup_cons]at hn
   rw[List.nodup_append]at hnd
   have hd:=hdead r (by simp[wbRoots])
   have hγ:γc r= .row v0 u:=(hK.same r (Dom_ne hl0)).trans hg
   have hmz:m≠ .froz:=by rintro rfl;simp[Own.deep]at hm
   have hBnd:=hM0.nodup r _ hl0
   rw[hBr,List.nodup_append]at hBnd
   have hBnd1:=List.nodup_append.1 hBnd.1
   have hk1: ∀j∈c1,j∈B0 r∧j∉z:=fun j hj=>⟨by rw[hBr];simp[hj],fun hz=>hBnd1.2.2 j hj j hz rfl⟩
   have hk3: ∀j∈c3,j∈B0 r∧j∉z:=fun j hj=>⟨by rw[hBr];simp[hj],fun hz=>hBnd.2.2 j (List.mem_append_right _ hz) j hj rfl⟩
   have hkk: ∀j∈c1++c3,j∈B0 r∧(j∈Bc 0∧j∉b1++b2∧w'.heap[j]?=w.heap[j]?∧kp j):=fun j hj=>by
    rcases List.mem_append.1 hj with h|h
    ·exact⟨(hk1 j h).1,hkept j (hk1 j h).1 (hk1 j h).2⟩
    ·exact⟨(hk3 j h).1,hkept j (hk3 j h).1 (hk3 j h).2⟩
   have hown2:=hclos w' O' hK.stp.size (fun j hj=>(hkk j hj).2.2.2.1) zs b1 x' hown hset
   obtain⟨B1,d1⟩:=Drw.one hMc hc0 hd.2.2 (.inr ⟨hd.1,hd.2.1⟩) (x':= .row u (xs.set n x') m.wr) (g:= .row v0 u) (bs:=c1++b1++c3) (fun _=>hγ.symm) (fun k hk=>by
     simp only[List.mem_append]at hk
     rcases hk with(h|h)|h
     ·exact(hkk k (by simp[h])).2.1
     ·exact hbs k (by simp[h])
     ·exact(hkk k (by simp[h])).2.1)
    (by
     rw[List.nodup_append,List.nodup_append]
     refine⟨⟨hBnd1.1,hnd.1,fun a ha b hb e=>?_⟩,hBnd.2.1,fun a ha b hb e=>?_⟩
     ·subst e;exact(hkk a (by simp[ha])).2.2.1 (by simp[hb])
     ·subst e
      rcases List.mem_append.1 ha with h|h
      ·exact hBnd.2.2 a (by simp[h]) a hb rfl
      ·exact(hkk a (by simp[hb])).2.2.1 (by simp[h]))
    (fun n k b o ha=>by
     obtain⟨⟨l,c,rfl⟩,_⟩:=at_row ha
     simp only[G.at,Option.map_eq_some_iff,Prod.mk.injEq]at ha
     obtain⟨g,hg',_⟩:=ha
     obtain⟨_,_,e⟩:=rowAt_some hg'
     rcases hown2 with⟨_,e1,_⟩|⟨g',cap,cells,rest,e1,_,_,h3,_⟩
     ·cases e1;cases e
     ·cases e1;exact h3)
    (fun γ' B' lk' _ _ hK' _=>RootRel.mkWr hmz (hown2.step (fun _ _=>rfl) (Nat.le_refl _) (fun x c b _ _ hr=>by
     rw[RowR.deep hm];exact hr.anyO)))
   have hcur: ∀s,s∈wbRoots ws→s≠r:=fun s hs e=>hn.1 (e▸hs)
   have hdis: ∀k∈b2,k∉c1++b1++c3:=fun k hk hk'=>by
    simp only[List.mem_append]at hk'
    rcases hk' with(h|h)|h
    ·exact(hkk k (by simp[h])).2.2.1 (by simp[hk])
    ·exact hnd.2.2 k h k hk rfl
    ·exact(hkk k (by simp[h])).2.2.1 (by simp[hk])
   obtain⟨q1,q2,γ',B',ks,ts,q3,q7,q4,q5,q6⟩:=writeBack_sound hM0 ws ds' b2 ys _ id _ up1 (updN γc r (.row v0 u)) B1 (setF lkc r (.row u (xs.set n x') m.wr)) (fun s hs=>hS s (by simp[wbRoots,hs]))
    ((hK.trans d1.kp).weaken fun _ _ _=>trivial) d1.mem d1.ext (fun s hs=>by
     have h1:=hdead s (by simp[wbRoots,hs])
     obtain⟨h2,h3⟩:=d1.other s (by simpa using hcur s hs) h1.2.2
     exact⟨by rw[h3];exact h1.1,by rw[h2];exact h1.2.1,h1.2.2⟩) hn.2 ho hnd.2.1
    (fun k hk=>(d1.zero k).2 ⟨hbs k (by simp[hk]),hdis k hk⟩)
    (fun r' n' k' t' hmem=>by
     obtain⟨q,h1,h2⟩:=hN r' n' k' t' (List.mem_cons_of_mem _ hmem)
     have hrr:=hcur r' (nst_root hmem)
     refine⟨q,h1,fun j hj hjz=>?_⟩
     obtain⟨h3,h4,h5⟩:=h2 j hj hjz
     obtain⟨u',xs',_,_,_,_,_,_,_,_,hl',_⟩:=h1
     refine⟨(d1.zero j).2 ⟨h3,fun hk'=>?_⟩,fun hk=>h4 (by simp[hk]),h5⟩
     simp only[List.mem_append]at hk'
     rcases hk' with(h|h)|h
     ·exact hrr (hM0.uniq r' r _ _ j hl' hl0 hj (hk1 j h).1)
     ·exact h4 (by simp[h])
     ·exact hrr (hM0.uniq r' r _ _ j hl' hl0 hj (hk3 j h).1))
    (hO.imp (fun h k hk=>h k ((d1.all k).1 hk)) (by simp[flatW])) hid
    (fun j x hk hj hj'=>by
     have hjn:=hf j x (List.mem_cons_of_mem _ hk) hj hj'
     have:j≠r:=fun e=>by rw[e,hd.1]at hjn;cases hjn
     simp[setF,this,hjn]) h
   refine⟨q1,q2,γ',B',[r]++ks,(c1++b1++c3)++ts,d1.trans q3,⟨fun k hk=>?_,fun k hk=>?_⟩,fun s hs=>?_,fun s hs=>?_,fun s hs=>?_⟩
   ·rcases List.mem_append.1 hk with h|h
    ·simp[h]
    ·exact List.mem_append_right _ (q7.1 k h)
   ·rcases List.mem_append.1 hk with h|h
    ·simp only[List.mem_append]at h
     rcases h with(h|h)|h
     ·exact .inr (hkk k (by simp[h])).2.2.2.2
     ·left;simp[h]
     ·exact .inr (hkk k (by simp[h])).2.2.2.2
    ·rcases q7.2 k h with h|h
     ·left;simp[h]
     ·exact .inr h
   ·rcases List.mem_append.1 hs with h|h
    ·left;simp only[List.mem_singleton]at h;simp[wbRoots,h]
    ·exact(q4 s h).imp (fun h=>by simp[wbRoots,h]) (fun⟨h1,h2,x,hx⟩=>⟨h1,h2,x,List.mem_cons_of_mem _ hx⟩)
   ·simp only[List.map_cons,List.mem_cons]at hs
    rcases hs with rfl|hs
    ·left;simp[wbRoots]
    ·exact(q5 s hs).imp (fun h=>by simp[wbRoots,h]) (fun h=>h)
   ·simp only[wbRoots,List.mem_cons]at hs
    rcases hs with rfl|hs
    ·simp
    ·simp[q6 s hs]
  ·simp[Out.run]at h
 | .var r k t own old::ws,ds,bs,ys,ys',id,id',up,γc,Bc,lkc,hS,hK,hMc,hc0,hdead,hn,ho,hnd,hbs,hN,hO,hid,hf,h=>by
  obtain⟨b,o,cs,y,b1,b2,ds',rfl,rfl,ha,hra,hth,hdr,hout,ho⟩:=ho
  have hlen:cs.length=t.sz:=DRel.length _ _ _ _ hdr
  simp only[wbRoots,List.cons_append,List.nodup_cons,List.mem_append,not_or]at hn
  have hnr:=hn.1
  have hn2:=hn.2
  rw[List.nodup_append]at hn2
  simp only[List.cons_append,List.nodup_cons]at hnd
  have hnd':=hnd.2
  rw[List.nodup_append]at hnd'
  have hd:=hdead r (by simp[wbRoots])
  have hb0:b∈Bc 0:=hbs b (by simp)
  cases own
  ·
   simp only[List.cons_append,writeBack,Out.bind_some]at h
   obtain⟨y',hy',h⟩:=h
   obtain⟨_,rfl⟩:=castD_some.1 hy'
   split at h
   ·rename_i ps hlk
    simp only[Out.bind_some,Out.ret_some,Prod.mk.injEq]at h
    obtain⟨ps',hsb,⟨up1,z1,z2⟩,h,rfl,rfl,rfl⟩:=h
    have hl0:=hS r (by simp[wbRoots]) _ hlk
    obtain rfl:=DRel.noblocks _ _ _ _ hdr
    have hdr':DRel w' (AllW (Owned Bc lkc)) false t y cs []:=by
     rcases hO with hO|hO
     ·exact hdr.less hO
     ·simp only[flatW,Bool.and_eq_true]at hO
      exact(DRel.flat _ _ _ _ hO.1 hdr).2
    obtain⟨g,B1,d1⟩:=box_back (O':=O') hM0 hK hMc hc0 hd.2.2 hl0 ⟨hd.1,hd.2.1⟩ hsb ha hlen hra hth hout (leaves_LL t y cs hdr') hb0
    obtain⟨q1,q2,γ',B',ks,ts,q3,q7,q4,q5,q6⟩:=writeBack_sound hM0 ws ds' b2 ys _ id _ up1 (updN γc r g) B1 (setF lkc r (.box ps')) (fun s hs=>hS s (by simp[wbRoots,hs]))
     ((hK.trans d1.kp).weaken fun _ _ _=>trivial) d1.mem d1.ext (fun s hs=>by
      have h1:=hdead s (by simp[wbRoots,hs])
      obtain⟨h2,h3⟩:=d1.other s (by simp only[List.mem_singleton];rintro rfl;exact hnr.2 hs) h1.2.2
      exact⟨by rw[h3];exact h1.1,by rw[h2];exact h1.2.1,h1.2.2⟩) hn2.2.1 ho hnd'.2.1
     (fun k hk=>(d1.zero k).2 ⟨hbs k (by simp[hk]),fun hk'=>by
      simp only[List.mem_singleton]at hk'
      exact hnd.1 (by simp[←hk',hk])⟩)
     (fun r' n' k' t' hm=>by
     obtain⟨z,h1,h2⟩:=hN r' n' k' t' (List.mem_cons_of_mem _ hm)
     refine⟨z,h1,fun j hj hjz=>?_⟩
     obtain⟨h3,h4,h5⟩:=h2 j hj hjz
     exact⟨(d1.zero j).2 ⟨h3,fun hk'=>h4 (by simp only[List.mem_singleton]at hk';simp[hk'])⟩,fun hk=>h4 (by simp[hk]),h5⟩)
     (hO.imp (fun h k hk=>h k ((d1.all k).1 hk)) (fun h=>by simp only[flatW,Bool.and_eq_true]at h;exact h.2)) hid
     (fun j x hk hj hj'=>by
      have hjn:=hf j x (by
       simp only[List.mem_append,List.mem_cons]
       exact .inr (.inr hk)) hj hj'
      have:j≠r:=fun e=>by rw[e,hd.1]at hjn;cases hjn
      simp[setF,this,hjn]) h
    have he:updF lkc (old.map (fun o=>(o,none))++(r,some (.box ps'))::up1)=updF (setF lkc r (.box ps')) up1:=updF_dead (fun s hs=>(hdead s (by simp[wbRoots,hs])).1) _
    refine⟨q1,q2,γ',B',[r]++ks,[b]++ts,by rw[he];exact d1.trans q3,⟨fun k hk=>?_,fun k hk=>?_⟩,fun s hs=>?_,fun s hs=>?_,fun s hs=>?_⟩
    ·simp only[List.cons_append,List.nil_append,List.mem_cons]at hk⊢
     exact hk.imp (fun h=>h) (q7.1 k)
    ·simp only[List.cons_append,List.nil_append,List.mem_cons]at hk⊢
     rcases hk with h|h
     ·exact .inl (.inl h)
     ·rcases q7.2 k h with h|h
      ·exact .inl (.inr h)
      ·exact .inr h
    ·rcases List.mem_append.1 hs with h|h
     ·left;simp only[List.mem_singleton]at h;simp[wbRoots,h]
     ·exact(q4 s h).imp (fun h=>by simp[wbRoots,h]) (fun⟨h1,h2,x,hx⟩=>⟨h1,h2,x,by simp only[List.mem_append,List.mem_cons];exact .inr (.inr hx)⟩)
    ·simp only[List.map_append,List.map_cons,List.mem_append,List.mem_cons,List.map_map,List.mem_map,Function.comp_def]at hs
     rcases hs with⟨s',hs',rfl⟩|rfl|hs
     ·left;simp[wbRoots,hs']
     ·left;simp[wbRoots]
     ·have:s∈up1.map (·.1):=List.mem_map.2 hs
      exact(q5 s this).imp (fun h=>by simp[wbRoots,h]) (fun h=>h)
    ·simp only[wbRoots,List.cons_append,List.mem_cons,List.mem_append]at hs
     rcases hs with rfl|hs|hs
     ·simp
     ·simp[hs]
     ·have:=q6 s hs
      simp only[List.map_append,List.mem_append,List.map_cons,List.mem_cons]
      exact .inr (.inr this)
   ·simp[Out.run]at h
  ·
   simp only[List.cons_append,writeBack,Out.bind_some]at h
   obtain⟨y',hy',h⟩:=h
   obtain⟨_,rfl⟩:=castD_some.1 hy'
   split at h
   ·rename_i ps c u id1 hlk hown
    simp only[Out.need_some,Out.bind_some,Out.ret_some,Prod.mk.injEq]at h
    obtain⟨harr,ps',hsb,⟨up1,z1,z2⟩,h,rfl,rfl,rfl⟩:=h
    have hl0:=hS r (by simp[wbRoots]) _ hlk
    have e1:(ownL t y id).1=c:=by rw[hown]
    have e2:(ownL t y id).2.1=u:=by rw[hown]
    have e3:(ownL t y id).2.2=id1:=by rw[hown]
    have hle1:id≤id1:=by rw[←e3];exact ownL_le t y id
    have hle2: ∀{a:List Dyn×Nat} {x:Ups} {ws:List Wb} {ys:List Dyn} {i:Nat},(writeBack lkS ws ys i).run=some (x,a)→i≤a.2:=by
     intro a x ws
     induction ws generalizing a x with
     |nil=>intro ys i h;simp only[writeBack,Out.ret_some,Prod.mk.injEq]at h;rw[←h.2];exact Nat.le_refl _
     |cons w ws ih=>
      intro ys i h
      cases w with
      |gone r=>simp only[writeBack,Out.bind_some,Out.ret_some,Prod.mk.injEq]at h;obtain⟨⟨_,_⟩,h,rfl,rfl⟩:=h;exact ih h
      |none_ t=>cases ys with
       |nil=>simp[writeBack,Out.run]at h
       |cons y ys=>simp only[writeBack,Out.need_some]at h;exact ih h.2
      |row r t=>cases ys with
       |nil=>simp[writeBack,Out.run]at h
       |cons y ys=>
        simp only[writeBack,Out.bind_some]at h
        obtain⟨_,_,h⟩:=h
        split at h
        ·simp only[Out.need_some,Out.bind_some,Out.ret_some,Prod.mk.injEq]at h
         obtain⟨_,_,_,⟨_,_⟩,h,_,rfl⟩:=h
         exact ih h
        ·simp[Out.run]at h
      |nst r n k t=>cases ys with
       |nil=>simp[writeBack,Out.run]at h
       |cons y ys=>
        simp only[writeBack,Out.bind_some]at h
        obtain⟨_,_,h⟩:=h
        split at h
        ·simp only[Out.need_some,Out.bind_some,Out.ret_some,Prod.mk.injEq]at h
         obtain⟨_,_,_,_,_,⟨_,_⟩,h,_,rfl⟩:=h
         exact ih h
        ·simp[Out.run]at h
      |var r k t own old=>cases ys with
       |nil=>cases own<;>simp[writeBack,Out.run]at h
       |cons y ys=>
        cases own
        ·simp only[writeBack,Out.bind_some]at h
         obtain⟨_,_,h⟩:=h
         split at h
         ·simp only[Out.bind_some,Out.ret_some,Prod.mk.injEq]at h
          obtain⟨_,_,⟨_,_⟩,h,_,rfl⟩:=h
          exact ih h
         ·simp[Out.run]at h
        ·simp only[writeBack,Out.bind_some]at h
         obtain⟨z,_,h⟩:=h
         split at h
         ·rename_i hw
          simp only[Out.need_some,Out.bind_some,Out.ret_some,Prod.mk.injEq]at h
          obtain⟨_,_,_,⟨_,_⟩,h,_,rfl⟩:=h
          have h1:=ih h
          have h2:=ownL_le t z i
          rw[hw]at h2
          exact Nat.le_trans h2 h1
         ·simp[Out.run]at h
    have hle3:id1≤id':=hle2 h
    obtain⟨γ1,B1,ks1,d1,k1,r1⟩:=ownL_draw t y cs b1 id γc Bc lkc hdr harr hnd'.1 hMc hc0 (fun k hk=>hbs k (by simp[hk])) hid (fun j hj=>by
     have hk:=ownL_keys t y id j hj
     rw[e3]at hk
     rw[e2]at hj
     obtain⟨⟨j',x⟩,hx,rfl⟩:=List.mem_map.1 hj
     exact hf j' x (by simp only[List.mem_append];exact .inr (.inl (List.mem_map.2 ⟨_,hx,rfl⟩))) hk.1 (by omega))
    rw[e2]at d1 r1
    rw[e1]at r1
    rw[e3,e2]at k1
    have hks: ∀s∈ks1,s∉r::(old++wbRoots ws):=fun s hs hs'=>by
     have h1:=(k1 s hs).1
     obtain⟨⟨s',x⟩,hx,e⟩:=List.mem_map.1 (k1 s hs).2
     dsimp only at e
     subst e
     have h2:=hf s' x (by simp only[List.mem_append];exact .inr (.inl (List.mem_map.2 ⟨_,hx,rfl⟩))) h1.1 (by omega)
     have h3:=(hdead s' (by simpa[wbRoots]using hs')).1
     rw[h2]at h3;cases h3
    have hk0:r∉ks1:=fun h=>hks r h (by simp)
    obtain⟨o1,o2⟩:=d1.other r hk0 hd.2.2
    obtain⟨g,B2,d2⟩:=box_back (O':=O') hM0 ((hK.trans d1.kp).weaken fun _ _ _=>trivial) d1.mem d1.ext hd.2.2 hl0 ⟨by rw[o2];exact hd.1,by rw[o1];exact hd.2.1⟩ hsb ha hlen hra hth hout r1
     ((d1.zero b).2 ⟨hb0,fun h=>hnd.1 (by simp[h])⟩)
    have dd:=d1.trans d2
    obtain⟨q1,q2,γ',B',ks,ts,q3,q7,q4,q5,q6⟩:=writeBack_sound hM0 ws ds' b2 ys _ id1 _ up1 _ B2 _ (fun s hs=>hS s (by simp[wbRoots,hs]))
     ((hK.trans dd.kp).weaken fun _ _ _=>trivial) dd.mem dd.ext (fun s hs=>by
      have h1:=hdead s (by simp[wbRoots,hs])
      obtain⟨h2,h3⟩:=dd.other s (by
       rw[List.mem_append]
       rintro(h|h)
       ·exact hks s h (by simp[hs])
       ·simp only[List.mem_singleton]at h;subst h;exact hnr.2 hs) h1.2.2
      exact⟨by rw[h3];exact h1.1,by rw[h2];exact h1.2.1,h1.2.2⟩) hn2.2.1 ho hnd'.2.1
     (fun k hk=>(dd.zero k).2 ⟨hbs k (by simp[hk]),fun hk'=>by
      rcases List.mem_append.1 hk' with h|h
      ·exact hnd'.2.2 k h k hk rfl
      ·simp only[List.mem_singleton]at h
       exact hnd.1 (by simp[←h,hk])⟩)
     (fun r' n' k' t' hm=>by
     obtain⟨z,h1,h2⟩:=hN r' n' k' t' (List.mem_cons_of_mem _ hm)
     refine⟨z,h1,fun j hj hjz=>?_⟩
     obtain⟨h3,h4,h5⟩:=h2 j hj hjz
     exact⟨(dd.zero j).2 ⟨h3,fun hk'=>h4 (by simp only[List.mem_append,List.mem_singleton]at hk';simp only[List.cons_append,List.mem_cons,List.mem_append];exact hk'.elim (fun h=> .inr (.inl h)) .inl)⟩,fun hk=>h4 (by simp[hk]),h5⟩)
     (hO.imp (fun h k hk=>h k ((dd.all k).1 hk)) (by simp[flatW])) (by omega)
     (fun j x hk hj hj'=>by
      have hjn:=hf j x (by
       simp only[List.mem_append,List.mem_cons]
       exact .inr (.inr (.inr hk))) (by omega) hj'
      rw[(dd.other j (by
       rw[List.mem_append]
       rintro(h|h)
       ·have:=(k1 j h).1;omega
       ·simp only[List.mem_singleton]at h
        rw[h,hd.1]at hjn;cases hjn) (by omega)).2]
      exact hjn) h
    have he:updF lkc (old.map (fun o=>(o,none))++(u.map (fun(i,x)=>(i,some x))++(r,some (.box ps'))::up1))=updF (setF (updF lkc (u.map fun(i,x)=>(i,some x))) r (.box ps')) up1:=by
     rw[updF_dead (fun s hs=>(hdead s (by simp[wbRoots,hs])).1),updF_append];rfl
    have hku: ∀s∈u.map (·.1),id≤s∧s<id1:=fun s hs=>by
     have:=ownL_keys t y id s (by rw[e2];exact hs)
     rwa [e3]at this
    have dfin:=dd.trans q3
    refine⟨q1,by omega,γ',B',(ks1++[r])++ks,(b1++[b])++ts,by rw[he];exact dfin,⟨fun k hk=>?_,fun k hk=>?_⟩,fun s hs=>?_,fun s hs=>?_,fun s hs=>?_⟩
    ·simp only[List.cons_append,List.mem_cons,List.mem_append]at hk
     simp only[List.mem_append,List.mem_singleton]
     rcases hk with h|h|h
     ·exact .inl (.inr h)
     ·exact .inl (.inl h)
     ·exact .inr (q7.1 k h)
    ·simp only[List.mem_append,List.mem_singleton]at hk
     simp only[List.cons_append,List.mem_cons,List.mem_append]
     rcases hk with(h|h)|h
     ·exact .inl (.inr (.inl h))
     ·exact .inl (.inl h)
     ·rcases q7.2 k h with h|h
      ·exact .inl (.inr (.inr h))
      ·exact .inr h
    ·rcases List.mem_append.1 hs with h|h
     ·rcases List.mem_append.1 h with h|h
      ·right
       have:=(k1 s h).1
       obtain⟨⟨s',x⟩,hx,e⟩:=List.mem_map.1 (k1 s h).2
       dsimp only at e
       subst e
       exact⟨by omega,by omega,x,by simp only[List.mem_append];exact .inr (.inl (List.mem_map.2 ⟨_,hx,rfl⟩))⟩
      ·left;simp only[List.mem_singleton]at h;simp[wbRoots,h]
     ·exact(q4 s h).imp (fun h=>by simp[wbRoots,h]) (fun⟨h1,h2,x,hx⟩=>⟨by omega,by omega,x,by simp only[List.mem_append,List.mem_cons];exact .inr (.inr (.inr hx))⟩)
    ·simp only[List.map_append,List.map_cons,List.mem_append,List.mem_cons,map_some_keys]at hs
     rcases hs with hs|hs|rfl|hs
     ·simp only[List.map_map,List.mem_map,Function.comp_def]at hs
      obtain⟨s',hs',rfl⟩:=hs
      left;simp[wbRoots,hs']
     ·right;have:=hku s hs;omega
     ·left;simp[wbRoots]
     ·exact(q5 s hs).imp (fun h=>by simp[wbRoots,h]) (fun h=>by omega)
    ·simp only[wbRoots,List.cons_append,List.mem_cons,List.mem_append]at hs
     simp only[List.map_append,List.mem_append,List.map_cons,List.mem_cons]
     rcases hs with rfl|hs|hs
     ·exact .inr (.inr (.inl rfl))
     ·left;simp[hs]
     ·exact .inr (.inr (.inr (q6 s hs)))
   ·simp[Out.run]at h
end
end Go.Vm
namespace Go.Vm
open Go
section
variable {γ γc:Nat→G} {B B0 Bc:Nat→List Nat} {w w':World} {lk lk0 lkc lkS:Look}
theorem nstOf_pack(t:Ty)(l:List PV)(h:nstOfL l=[]):nstOf (pack t l)=[]:=by
 unfold pack
 cases t.isSt
 ·match l,h with
  |[],_=>rfl
  |[v],h=>simpa[nstOfL]using h
  |_::_::_,_=>rfl
 ·simpa[nstOf]using h
theorem Shp.eq{t:Ty}{v v':Value}{cs:List Value}(h:Shp t v cs)(h1:isRowT t=true→v'= .agg cs.toArray)(h2:isRowT t=false→cs=[v']):v'=v:=by
 cases hr:isRowT t
 ·have:=(h2 hr).symm.trans (h.2.1 hr)
  simpa using this
 ·rw[h1 hr,h.1 hr]
theorem pack_notTup(t:Ty)(l:List PV)(h: ∀p∈l,∀ps,p≠ .tup ps): ∀ps,pack t l≠ .tup ps:=by
 unfold pack
 intro ps
 cases t.isSt
 ·match l,h with
  |[],_=>simp
  |[v],h=>simpa using h v (by simp) ps
  |_::_::_,_=>simp
 ·simp
theorem VRel0.of{γ:Nat→G}{D:Nat→Nat}{W:Nat→Nat→Prop}{p:PV}{v:Value}(h:VRel γ D w W p v)(hp: ∀ps,p≠ .tup ps):VRel0 γ D w W p v:=by
 unfold VRel at h
 split at h
 ·rename_i ps;exact absurd rfl (hp ps)
 ·exact h
theorem VRel.of0{γ:Nat→G}{D:Nat→Nat}{W:Nat→Nat→Prop}{p:PV}{v:Value}(h:VRel0 γ D w W p v)(hp: ∀ps,p≠ .tup ps):VRel γ D w W p v:=by
 unfold VRel
 split
 ·rename_i ps;exact absurd rfl (hp ps)
 ·exact h
theorem free_notTup: ∀(l:List PV),nstFree l=true→ ∀p∈l,∀ps,p≠ .tup ps
 |[],_,p,hp=>by simp at hp
 |q::l,h,p,hp=>by
  simp only[nstFree,Bool.and_eq_true]at h
  rcases List.mem_cons.1 hp with rfl|hp
  ·rintro ps rfl;simp[leafOK]at h
  ·exact free_notTup l h.2 p hp
theorem results_ids: ∀(rs:List Res) (ds:List Dyn) (i:Nat) (pvs:List PV) (up:Ups) (i':Nat),(results_ rs ds i).run=some (pvs,up,i')→i≤i'∧ ∀s∈up.map (·.1),i≤s∧s<i':=by
 intro rs
 induction rs with
 |nil=>
  intro ds i pvs up i' h
  cases ds<;>simp[results_,Out.run]at h
  obtain⟨_,rfl,rfl⟩:=h
  simp
 |cons r rs ih=>
  intro ds i pvs up i' h
  cases ds with
  |nil=>cases r with
   |v t f=>cases f<;>simp[results_,Out.run]at h
   |pn t=>simp[results_,Out.run]at h
   |pl t=>simp[results_,Out.run]at h
  |cons d ds=>
   cases r with
   |v t f=>
    cases f
    ·simp only[results_,Out.bind_some,Out.need_some,Out.ret_some,Prod.mk.injEq]at h
     obtain⟨_,_,_,⟨_,_,_⟩,h,_,rfl,rfl⟩:=h
     exact ih _ _ _ _ _ h
    ·simp only[results_,Out.bind_some]at h
     obtain⟨z,_,h⟩:=h
     rcases ho:ownL t z i with⟨c,u,i1⟩
     simp only[ho,Out.bind_some,Out.need_some,Out.ret_some,Prod.mk.injEq]at h
     obtain⟨_,⟨_,_,i2⟩,h,_,rfl,rfl⟩:=h
     have h1:=ownL_keys t z i
     have h2:=ownL_le t z i
     rw[ho]at h1 h2
     dsimp only at h1 h2⊢
     obtain⟨h3,h4⟩:=ih _ _ _ _ _ h
     refine⟨by omega,fun s hs=>?_⟩
     simp only[List.map_append,map_some_keys,List.mem_append]at hs
     rcases hs with hs|hs
     ·have:=h1 s hs;omega
     ·have:=h4 s hs;omega
   |pn t=>
    simp only[results_,Out.bind_some]at h
    obtain⟨z,_,h⟩:=h
    rcases ho:ownL t z (i+1)with⟨c,u,i1⟩
    simp only[ho,Out.bind_some,Out.need_some,Out.ret_some,Prod.mk.injEq]at h
    obtain⟨_,⟨_,_,i2⟩,h,_,rfl,rfl⟩:=h
    have h1:=ownL_keys t z (i+1)
    have h2:=ownL_le t z (i+1)
    rw[ho]at h1 h2
    dsimp only at h1 h2⊢
    obtain⟨h3,h4⟩:=ih _ _ _ _ _ h
    refine⟨by omega,fun s hs=>?_⟩
    simp only[List.map_append,map_some_keys,List.mem_append,List.map_cons,List.mem_cons]at hs
    rcases hs with hs|rfl|hs
    ·have:=h1 s hs;omega
    ·omega
    ·have:=h4 s hs;omega
   |pl t=>
    simp only[results_,Out.bind_some,Out.ret_some,Prod.mk.injEq]at h
    obtain⟨_,_,⟨_,_,i2⟩,h,_,rfl,rfl⟩:=h
    obtain⟨h3,h4⟩:=ih _ _ _ _ _ h
    dsimp only at h3 h4⊢
    refine⟨by omega,fun s hs=>?_⟩
    simp only[List.map_cons,List.mem_cons]at hs
    rcases hs with rfl|hs
    ·omega
    ·have:=h4 s hs;omega
theorem results_ge(rs:List Res)(ds:List Dyn)(i:Nat)(pvs:List PV)(up:Ups)(i':Nat)(h:(results_ rs ds i).run=some (pvs,up,i')): ∀s∈up.map (·.1),i≤s:=fun s hs=>((results_ids rs ds i pvs up i' h).2 s hs).1
theorem results_sound{O':Nat→Prop}: ∀(rs:List Res) (vs:List Value) (ds:List Dyn) (bs:List Nat) (pvs:List PV) (up:Ups) (id id':Nat) (γc:Nat→G) (Bc:Nat→List Nat) (lkc:Look),
  RessR w' O' rs vs ds bs→(results_ rs ds id).run=some (pvs,up,id')→Mem γc Bc w' lkc→lkc 0=some .ext→bs.Nodup→(∀k∈bs,k∈Bc 0)→0<id→(∀j∈up.map (·.1),lkc j=none)→((∀k,AllW (Owned Bc lkc) k→O' k)∨borrowed rs=false)→
  id≤id'∧ ∃γ' B' ks,Drw γc Bc lkc γ' B' (updF lkc up) w' bs ks∧(∀s∈ks,s∈up.map (·.1))∧(∀s∈up.map (·.1),id≤s∧s<id')∧VRels γ' (Dom (updF lkc up)) w' (Owned B' (updF lkc up)) pvs vs∧nstOfL pvs=[]∧(∀p∈pvs,∀ps,p≠ .tup ps)
 |[],vs,ds,bs,pvs,up,id,id',γc,Bc,lkc,hr,h,hM,h0,hnd,hbs,hid,hf,hO=>by
  obtain⟨rfl,rfl,rfl⟩:=hr
  simp only[results_,Out.ret_some,Prod.mk.injEq]at h
  obtain⟨rfl,rfl,rfl⟩:=h
  exact⟨Nat.le_refl _,γc,Bc,[],Drw.refl hM h0,by simp,by simp,rfl,rfl,by simp⟩
 | .v t true::rs,vs,ds,bs,pvs,up,id,id',γc,Bc,lkc,hr,h,hM,h0,hnd,hbs,hid,hf,hO=>by
  obtain⟨v,vs',d,ds',b1,b2,rfl,rfl,rfl,⟨y,cs,rfl,hshp,hd⟩,hr⟩:=hr
  simp only[results_,Out.bind_some]at h
  obtain⟨y',hy',h⟩:=h
  obtain⟨_,rfl⟩:=castD_some.1 hy'
  rcases hown:ownL t y id with⟨c,u,i1⟩
  simp only[hown,Out.need_some,Out.bind_some,Out.ret_some,Prod.mk.injEq,Bool.and_eq_true]at h
  obtain⟨⟨hl,harr⟩,⟨pvs1,up1,id1⟩,h,rfl,rfl,rfl⟩:=h
  rw[List.nodup_append]at hnd
  dsimp only at hf
  simp only[List.map_append,map_some_keys,List.mem_append]at hf
  obtain⟨γ1,B1,ks1,d1,k1,r1⟩:=ownL_draw t y cs b1 id γc Bc lkc hd harr hnd.1 hM h0 (fun k hk=>hbs k (by simp[hk])) hid (fun j hj=>hf j (.inl (by rw[hown]at hj;exact hj)))
  have hle:=ownL_le t y id
  have hokeys:=ownL_keys t y id
  have hfree:=ownL_free t y id
  have halike:=ownL_alike t y id
  rw[hown]at hle d1 k1 r1 hokeys hfree halike
  dsimp only at hle d1 k1 r1 hokeys hfree halike
  have hk1: ∀s∈ks1,s<i1:=fun s hs=>(k1 s hs).1.2
  have hrange: ∀s∈up1.map (·.1),i1≤s:=results_ge _ _ _ _ _ _ h
  obtain⟨q1,γ',B',ks,q2,q3,q4,q5,q6,q7⟩:=results_sound rs vs' ds' b2 pvs1 up1 _ id1 γ1 B1 _ hr h d1.mem d1.ext hnd.2.1 (fun k hk=>(d1.zero k).2 ⟨hbs k (by simp[hk]),fun hk'=>hnd.2.2 k hk' k hk rfl⟩) (by omega)
   (fun j hj=>by
    have hjr:=hrange j hj
    rw[(d1.other j (fun hk=>by have:=hk1 j hk;omega) (by omega)).2]
    exact hf j (.inr hj)) (hO.imp (fun h k hk=>h k ((d1.all k).1 hk)) (by simp[borrowed]))
  refine⟨by dsimp only;omega,γ',B',ks1++ks,by rw[updF_append];exact d1.trans q2,fun s hs=>?_,fun s hs=>?_,?_,?_,?_⟩
  ·simp only[List.map_append,map_some_keys,List.mem_append]
   rcases List.mem_append.1 hs with h|h
   ·exact .inl (k1 s h).2
   ·exact .inr (q3 s h)
  ·simp only[List.map_append,map_some_keys,List.mem_append]at hs
   rcases hs with h|h
   ·have:=hokeys s h;dsimp only;omega
   ·have:=q4 s h;dsimp only;omega
  ·obtain⟨v',p1,p2,p3,p4⟩:=VRel.pack (u:=t) halike (by simpa using hl) r1
   obtain rfl:=hshp.eq p3 p4
   rw[updF_append]
   have hnt:nstOf (pack t c)=[]:=nstOf_pack _ _ (nstOfL_free _ hfree)
   exact⟨v',vs',rfl,(VRel0.of p1 (pack_notTup _ _ (free_notTup _ hfree))).step q2.kp _ _ (by rw[hnt];simp),q5⟩
  ·have hnt:nstOf (pack t c)=[]:=nstOf_pack _ _ (nstOfL_free _ hfree)
   simp[nstOfL,hnt,q6]
  ·intro p hp
   rcases List.mem_cons.1 hp with rfl|hp
   ·exact pack_notTup _ _ (free_notTup _ hfree)
   ·exact q7 p hp
 | .v t false::rs,vs,ds,bs,pvs,up,id,id',γc,Bc,lkc,hr,h,hM,h0,hnd,hbs,hid,hf,hO=>by
  obtain⟨v,vs',d,ds',b1,b2,rfl,rfl,rfl,⟨y,cs,rfl,rfl,hshp,hd⟩,hr⟩:=hr
  simp only[results_,Out.bind_some]at h
  obtain⟨y',hy',h⟩:=h
  obtain⟨_,rfl⟩:=castD_some.1 hy'
  simp only[Out.need_some,Out.bind_some,Out.ret_some,Prod.mk.injEq]at h
  obtain⟨hl,⟨pvs1,up1,id1⟩,h,rfl,rfl,rfl⟩:=h
  obtain⟨q1,γ',B',ks,q2,q3,q4,q5,q6,q7⟩:=results_sound rs vs' ds' b2 pvs1 up1 id id1 γc Bc lkc hr h hM h0 (by simpa using hnd) (fun k hk=>hbs k (by simp[hk])) hid hf
   (hO.imp (fun h=>h) fun h=>by simp only[borrowed,Bool.or_eq_false_iff]at h;exact h.2)
  have hd':DRel w' (AllW (Owned Bc lkc)) false t y cs []:=by
   rcases hO with hO|hO
   ·exact hd.less hO
   ·simp only[borrowed,Bool.or_eq_false_iff,Bool.not_eq_false']at hO
    exact(DRel.flat _ _ _ _ hO.1 hd).2
  obtain⟨v',p1,p2,p3,p4⟩:=expand_rel (γ:=γc) (D:=Dom lkc) (W:=Owned Bc lkc) (u:=t) (by simpa using hl) hd'
  obtain rfl:=hshp.eq p3 p4
  have hnt:nstOf (expand t y)=[]:=nstOf_pack _ _ (nstOfL_free _ (leaves_free t y))
  refine⟨q1,γ',B',ks,by simpa using q2,q3,q4,⟨v',vs',rfl,(VRel0.of p1 (pack_notTup _ _ (free_notTup _ (leaves_free t y)))).step q2.kp _ _ (by rw[hnt];simp),q5⟩,by simp[nstOfL,hnt,q6],?_⟩
  intro p hp
  rcases List.mem_cons.1 hp with rfl|hp
  ·exact pack_notTup _ _ (free_notTup _ (leaves_free t y))
  ·exact q7 p hp
 | .pn t::rs,vs,ds,bs,pvs,up,id,id',γc,Bc,lkc,hr,h,hM,h0,hnd,hbs,hid,hf,hO=>by
  obtain⟨v,vs',d,ds',b1',b2,rfl,rfl,rfl,⟨y,b,o,cs,b1,rfl,rfl,rfl,hb,hra,hth,hd⟩,hr⟩:=hr
  simp only[results_,Out.bind_some]at h
  obtain⟨y',hy',h⟩:=h
  obtain⟨_,rfl⟩:=castD_some.1 hy'
  rcases hown:ownL t y (id+1)with⟨c,u,i1⟩
  simp only[hown,Out.need_some,Out.bind_some,Out.ret_some,Prod.mk.injEq]at h
  obtain⟨harr,⟨pvs1,up1,id1⟩,h,rfl,rfl,rfl⟩:=h
  simp only[List.cons_append,List.nodup_cons]at hnd
  have hnd':=hnd.2
  rw[List.nodup_append]at hnd'
  dsimp only at hf
  simp only[List.map_append,map_some_keys,List.mem_append,List.map_cons,List.mem_cons]at hf
  obtain⟨γ1,B1,ks1,d1,k1,r1⟩:=ownL_draw t y cs b1 (id+1) γc Bc lkc hd harr hnd'.1 hM h0 (fun k hk=>hbs k (by simp[hk])) (by omega) (fun j hj=>hf j (.inl (by rw[hown]at hj;exact hj)))
  have hle:=ownL_le t y (id+1)
  have hokeys:=ownL_keys t y (id+1)
  have hfree:=ownL_free t y (id+1)
  have hosz:=ownL_sz t y (id+1)
  rw[hown]at hle d1 k1 r1 hokeys hfree hosz
  dsimp only at hle d1 k1 r1 hokeys hfree hosz
  have hk1: ∀s∈ks1,id+1≤s∧s<i1:=fun s hs=>(k1 s hs).1
  have hn1:updF lkc (u.map fun(j,x)=>(j,some x)) id=none:=by
   rw[(d1.other id (fun h=>by have:=hk1 id h;omega) (by omega)).2];exact hf id (.inr (.inl rfl))
  obtain⟨B2,d2⟩:=box_draw (out:=fun j=>(w'.cell? ⟨b,j,none⟩,w'.frozen? ⟨b,j,none⟩)) d1.mem d1.ext (by omega) (.inl hn1) r1 hfree hra (by rw[hosz];exact hth) hb
   ((d1.zero b).2 ⟨hbs b (by simp),fun h=>hnd.1 (by simp[h])⟩) (fun h=>absurd hn1 h) (fun j hj=>rfl)
  have dd:=d1.trans d2
  have hrange: ∀s∈up1.map (·.1),i1≤s:=results_ge _ _ _ _ _ _ h
  obtain⟨q1,γ',B',ks,q2,q3,q4,q5,q6,q7⟩:=results_sound rs vs' ds' b2 pvs1 up1 _ id1 _ B2 _ hr h dd.mem dd.ext hnd'.2.1 (fun k hk=>(dd.zero k).2 ⟨hbs k (by simp[hk]),fun hk'=>by
    rcases List.mem_append.1 hk' with h|h
    ·exact hnd'.2.2 k h k hk rfl
    ·simp only[List.mem_singleton]at h;exact hnd.1 (by simp[←h,hk])⟩) (by omega)
   (fun j hj=>by
    have hjr:=hrange j hj
    rw[(dd.other j (by
     rw[List.mem_append]
     rintro(h|h)
     ·have:=hk1 j h;omega
     ·simp only[List.mem_singleton]at h;omega) (by omega)).2]
    exact hf j (.inr (.inr hj))) (hO.imp (fun h k hk=>h k ((dd.all k).1 hk)) (by simp[borrowed]))
  have he:updF lkc (u.map (fun(j,x)=>(j,some x))++(id,some (.box c))::up1)=updF (setF (updF lkc (u.map fun(j,x)=>(j,some x))) id (.box c)) up1:=by
   rw[updF_append];rfl
  have hperm: ∀k,k∈(b::b1)++b2↔k∈(b1++[b])++b2:=fun k=>by simp;constructor<;>(rintro(h|h|h)<;>simp[h])
  have dfin:=dd.trans q2
  refine⟨by dsimp only;omega,γ',B',(ks1++[id])++ks,by
   rw[he]
   exact⟨dfin.mem,dfin.ext,fun k=>by rw[dfin.zero,hperm],dfin.other,fun s hs k hk=>(hperm k).2 (dfin.mine s hs k hk),dfin.all,dfin.kp,dfin.known⟩,fun s hs=>?_,fun s hs=>?_,?_,by simp[nstOfL,nstOf,q6],?_⟩
  ·simp only[List.map_append,map_some_keys,List.mem_append,List.map_cons,List.mem_cons]
   rcases List.mem_append.1 hs with h|h
   ·rcases List.mem_append.1 h with h|h
    ·exact .inl (k1 s h).2
    ·simp only[List.mem_singleton]at h;exact .inr (.inl h)
   ·exact .inr (.inr (q3 s h))
  ·simp only[List.map_append,map_some_keys,List.mem_append,List.map_cons,List.mem_cons]at hs
   rcases hs with h|rfl|h
   ·have:=hokeys s h;dsimp only;omega
   ·dsimp only;omega
   ·have:=q4 s h;dsimp only;omega
  ·rw[he]
   refine⟨_,vs',rfl,?_,q5⟩
   simp only[VRel0,LRel]
   have hlk:(updF (setF (updF lkc (u.map fun(j,x)=>(j,some x))) id (.box c)) up1) id=some (.box c):=by
    rw[(q2.other id (fun h=>by have:=hrange id (q3 id h);omega) (by omega)).2];simp[setF]
   have hs:=q2.kp.same id Dom_setF_same
   refine⟨Dom_ne hlk,b,o,?_,by simp⟩
   rw[hs];simp[updN,G.at]
  ·intro p hp
   rcases List.mem_cons.1 hp with rfl|hp
   ·simp
   ·exact q7 p hp
 | .pl t::rs,vs,ds,bs,pvs,up,id,id',γc,Bc,lkc,hr,h,hM,h0,hnd,hbs,hid,hf,hO=>by
  obtain⟨v,vs',d,ds',b1',b2,rfl,rfl,rfl,⟨y,b,o,cs,rfl,rfl,rfl,hb,hra,hth,hd⟩,hr⟩:=hr
  simp only[results_,Out.bind_some]at h
  obtain⟨y',hy',h⟩:=h
  obtain⟨_,rfl⟩:=castD_some.1 hy'
  simp only[Out.ret_some,Prod.mk.injEq]at h
  obtain⟨⟨pvs1,up1,id1⟩,h,rfl,rfl,rfl⟩:=h
  simp only[List.cons_append,List.nil_append,List.nodup_cons]at hnd
  dsimp only at hf
  simp only[List.map_cons,List.mem_cons]at hf
  have hO1:(∀k,AllW (Owned Bc lkc) k→O' k)∨(t.flat=true∧borrowed rs=false):=hO.imp (fun h=>h) fun h=>by
   simp only[borrowed,Bool.or_eq_false_iff,Bool.not_eq_false']at h;exact h
  have hd':DRel w' (AllW (Owned Bc lkc)) false t y cs []:=by
   rcases hO1 with hO1|hO1
   ·exact hd.less hO1
   ·exact(DRel.flat _ _ _ _ hO1.1 hd).2
  have hn1:lkc id=none:=hf id (.inl rfl)
  obtain⟨B2,d2⟩:=box_draw (out:=fun j=>(w'.cell? ⟨b,j,none⟩,w'.frozen? ⟨b,j,none⟩)) hM h0 (by omega) (.inl hn1) (leaves_LL (γ:=γc) (D:=Dom lkc) (W:=Owned Bc lkc) t y cs hd') (leaves_free t y) hra (by rw[leaves_sz];exact hth) hb
   (hbs b (by simp)) (fun h=>absurd hn1 h) (fun j hj=>rfl)
  have hrange: ∀s∈up1.map (·.1),id+1≤s:=results_ge _ _ _ _ _ _ h
  obtain⟨q1,γ',B',ks,q2,q3,q4,q5,q6,q7⟩:=results_sound rs vs' ds' b2 pvs1 up1 _ id1 _ B2 _ hr h d2.mem d2.ext hnd.2 (fun k hk=>(d2.zero k).2 ⟨hbs k (by simp[hk]),fun hk'=>by
    simp only[List.mem_singleton]at hk'
    exact hnd.1 (hk'▸hk)⟩) (by omega)
   (fun j hj=>by
    have hjr:=hrange j hj
    rw[(d2.other j (by simp only[List.mem_singleton];omega) (by omega)).2]
    exact hf j (.inr hj)) (hO1.imp (fun h k hk=>h k ((d2.all k).1 hk)) fun h=>h.2)
  refine⟨by dsimp only;omega,γ',B',[id]++ks,d2.trans q2,fun s hs=>?_,fun s hs=>?_,?_,by simp[nstOfL,nstOf,q6],?_⟩
  ·simp only[List.map_cons,List.mem_cons]
   rcases List.mem_append.1 hs with h|h
   ·exact .inl (by simpa using h)
   ·exact .inr (q3 s h)
  ·simp only[List.map_cons,List.mem_cons]at hs
   rcases hs with rfl|h
   ·dsimp only;omega
   ·have:=q4 s h;dsimp only;omega
  ·refine⟨_,vs',rfl,?_,q5⟩
   simp only[VRel0,LRel]
   have hlk:(updF (setF lkc id (.box (leaves t y))) up1) id=some (.box (leaves t y)):=by
    rw[(q2.other id (fun h=>by have:=hrange id (q3 id h);omega) (by omega)).2];simp[setF]
   have hs:=q2.kp.same id Dom_setF_same
   refine⟨Dom_ne hlk,b,o,?_,by simp⟩
   rw[hs];simp[updN,G.at]
  ·intro p hp
   rcases List.mem_cons.1 hp with rfl|hp
   ·simp
   ·exact q7 p hp
end
end Go.Vm
namespace Go.Vm
open Go
section
variable {γ:Nat→G} {B:Nat→List Nat} {w:World} {lk lkS:Look} {P:Program}
mutual
theorem ArgR.less{O O':Nat→Prop}(h: ∀k,O' k→O k): ∀(m:Mode) (v:Value) (ds:List Dyn) (bs:List Nat),ArgR w O m v ds bs→ArgR w O' m v ds bs
 | .b t,v,ds,bs,⟨x,cs,h1,h2,h3,h4⟩=>⟨x,cs,h1,h2,h3,h4.less h⟩
 | .q t,v,ds,bs,⟨x,a,cells,h1,h2,h3,h4,h5,h6,h7⟩=>⟨x,a,cells,h1,h2,h3,h4,fun k=>h5 (h _ k),h6,h7.less h⟩
 | .i t,v,ds,bs,⟨x,cs,h1,h2,h3⟩=>⟨x,cs,h1,h2,h3.anyO⟩
 | .o t,v,ds,bs,⟨x,cs,h1,h2,h3⟩=>⟨x,cs,h1,h2,h3.anyO⟩
 | .p t own,v,ds,bs,⟨x,b,o,cs,bs',h1,h2,h3,h4,h5,h6,h7⟩=>⟨x,b,o,cs,bs',h1,h2,h3,h4,h5,h6,by
   cases own
   ·obtain rfl:=DRel.noblocks _ _ _ _ h7;exact h7.less h
   ·exact h7.anyO⟩
 | .f0 g,v,ds,bs,k=>k
 | .f1 g m,v,ds,bs,⟨c,h1,h2⟩=>⟨c,h1,ArgR.less h m _ _ _ h2⟩
 | .f2 g m n,v,ds,bs,⟨c,d,ds1,ds2,bs1,bs2,h1,h2,h3,h4,h5⟩=>⟨c,d,ds1,ds2,bs1,bs2,h1,h2,h3,ArgR.less h m _ _ _ h4,ArgR.less h n _ _ _ h5⟩
 | .pb m,v,ds,bs,⟨a,u,h1,h2,h3,h4,h5⟩=>⟨a,u,h1,h2,fun k=>h3 (h _ k),h4,ArgR.less h m _ _ _ h5⟩
end
theorem ArgsR.less{O O':Nat→Prop}(h: ∀k,O' k→O k): ∀(ms:List Mode) (vs:List Value) (ds:List Dyn) (bs:List Nat),ArgsR w O ms vs ds bs→ArgsR w O' ms vs ds bs
 |[],_,_,_,k=>k
 |m::ms,vs,ds,bs,⟨v,vs',ds1,ds2,bs1,bs2,h1,h2,h3,h4,h5⟩=>⟨v,vs',ds1,ds2,bs1,bs2,h1,h2,h3,ArgR.less h m _ _ _ h4,ArgsR.less h ms _ _ _ h5⟩
theorem gatherL_sound(hM:Mem γ B w lk)(hS:Sub lkS lk){O:Nat→Prop}(hO: ∀k,O k→AllW (Owned B lk) k): ∀(ms:List Mode) (ps:List PV) (vs:List Value) (g:Got),(gatherL lkS ms ps).run=some g→VRels γ (Dom lk) w (Owned B lk) ps vs→(∀p∈ps,∀qs,p≠ .tup qs)→(wbRoots g.ws).Nodup→(∀r∈g.lent,∀k∈B r,¬O k)→
  ∃bs,ArgsR w O ms vs g.ds bs∧Hand γ B w lk g.ws bs∧KnownW lk g.ws∧ ∀(w':World) (O':Nat→Prop) outs bs',OutsR w w' O' ms vs outs bs'→WsO γ w w' O' g.ws outs bs'
 |[],[],vs,g,h,hv,_,hn,hl=>by
  simp only[gatherL,Out.ret_some]at h
  subst h
  obtain rfl:vs=[]:=hv
  exact⟨[],⟨rfl,rfl,rfl⟩,⟨by simp,by simp,by simp⟩,by simp[KnownW,wbRoots],fun w' O' outs bs' ⟨_,h1,h2⟩=>⟨h1,h2⟩⟩
 |m::ms,p::ps,vs,g,h,⟨v,vs',e,hp,hps⟩,hnt,hn,hl=>by
  subst e
  simp only[gatherL,Out.bind_some,Out.ret_some]at h
  obtain⟨g1,h1,g2,h2,rfl⟩:=h
  dsimp only[Got.add]at hn hl⊢
  have hn':=hn
  rw[wbRoots_append,List.nodup_append]at hn'
  obtain⟨bs1,a1,a2,a3,a4⟩:=gather_sound hM hS hO m p v g1 h1 (VRel.of0 hp (hnt p (by simp))) hn'.1 (fun r hr=>hl r (by simp[hr]))
  obtain⟨bs2,b1,b2,b3,b4⟩:=gatherL_sound hM hS hO ms ps vs' g2 h2 hps (fun q hq=>hnt q (by simp[hq])) hn'.2.1 (fun r hr=>hl r (by simp[hr]))
  refine⟨bs1++bs2,⟨v,vs',_,_,_,_,rfl,rfl,rfl,a1,b1⟩,a2.append hM b2 a3 b3 hn,a3.append b3,?_⟩
  rintro w' O' outs bs' ⟨v',vs'',ds1,ds2,p1,p2,e,rfl,rfl,o1,o2⟩
  cases e
  exact(a4 _ _ _ _ o1).append (b4 _ _ _ _ o2)
 |[],_::_,_,_,h,_,_,_,_|_::_,[],_,_,h,_,_,_,_=>by simp[gatherL,Out.run]at h
theorem encP_decP: ∀(ts:List Ty) (ds:List Dyn) (x:PT ts),(decP ts ds).run=some x→ds=encP ts x
 |[],[],x,_=>rfl
 |[t],[d],x,h=>by
  obtain⟨d1,d2⟩:=d
  simp only[decP]at h
  obtain⟨e,rfl⟩:=castD_some.1 h
  subst e;rfl
 |t::u::ts,d::ds,x,h=>by
  obtain⟨d1,d2⟩:=d
  simp only[decP,Out.bind_some,Out.ret_some]at h
  obtain⟨y,hy,z,hz,rfl⟩:=h
  obtain⟨e,rfl⟩:=castD_some.1 hy
  subst e
  rw[encP_decP (u::ts) ds z hz];rfl
 |[],_::_,_,h|[_],[],_,h|[_],_::_::_,_,h|_::_::_,[],_,h=>by simp[decP,Out.run]at h
theorem updF_agree: ∀(u:Ups) (lk lk':Look),(∀s,s∉u.map (·.1)→lk s=lk' s)→updF lk u=updF lk' u
 |[],lk,lk',h=>by funext s;exact h s (by simp)
 |(r,x)::u,lk,lk',h=>updF_agree u _ _ fun s hs=>by
  unfold setF
  split
  ·rfl
  ·rename_i e;exact h s (by simp only[List.map_cons,List.mem_cons,not_or];exact⟨e,hs⟩)
theorem updF_out: ∀(u:Ups) (lk:Look) (s:Nat),s∉u.map (·.1)→updF lk u s=lk s
 |[],lk,s,_=>rfl
 |(r,x)::u,lk,s,h=>by
  simp only[List.map_cons,List.mem_cons,not_or]at h
  rw[updF,updF_out u _ s h.2];simp[setF,h.1]
theorem results_some: ∀(rs:List Res) (ds:List Dyn) (i:Nat) (pvs:List PV) (up:Ups) (i':Nat),(results_ rs ds i).run=some (pvs,up,i')→ ∀s∈up.map (·.1),∃x,(s,some x)∈up:=by
 intro rs ds i pvs up i' h s hs
 have key: ∀(rs:List Res) (ds:List Dyn) (i:Nat) (pvs:List PV) (up:Ups) (i':Nat),(results_ rs ds i).run=some (pvs,up,i')→ ∀q∈up,∃x,q.2=some x:=by
  intro rs
  induction rs with
  |nil=>intro ds i pvs up i' h q hq;cases ds<;>simp[results_,Out.run]at h;obtain⟨_,rfl,_⟩:=h;simp at hq
  |cons r rs ih=>
   intro ds i pvs up i' h q hq
   cases ds with
   |nil=>cases r with
    |v t f=>cases f<;>simp[results_,Out.run]at h
    |pn t=>simp[results_,Out.run]at h
    |pl t=>simp[results_,Out.run]at h
   |cons d ds=>
    cases r with
    |pl t=>
     simp only[results_,Out.bind_some,Out.ret_some,Prod.mk.injEq]at h
     obtain⟨_,_,⟨_,_,_⟩,h,_,rfl,_⟩:=h
     rcases List.mem_cons.1 hq with rfl|hq
     ·exact⟨_,rfl⟩
     ·exact ih _ _ _ _ _ h q hq
    |v t f=>
     cases f
     ·simp only[results_,Out.bind_some,Out.need_some,Out.ret_some,Prod.mk.injEq]at h
      obtain⟨_,_,_,⟨_,_,_⟩,h,_,rfl,_⟩:=h
      exact ih _ _ _ _ _ h q hq
     ·simp only[results_,Out.bind_some]at h
      obtain⟨z,_,h⟩:=h
      rcases ho:ownL t z i with⟨c,u,i1⟩
      simp only[ho,Out.bind_some,Out.need_some,Out.ret_some,Prod.mk.injEq]at h
      obtain⟨_,⟨_,_,_⟩,h,_,rfl,_⟩:=h
      rcases List.mem_append.1 hq with hq|hq
      ·obtain⟨⟨a,b⟩,_,rfl⟩:=List.mem_map.1 hq;exact⟨_,rfl⟩
      ·exact ih _ _ _ _ _ h q hq
    |pn t=>
     simp only[results_,Out.bind_some]at h
     obtain⟨z,_,h⟩:=h
     rcases ho:ownL t z (i+1)with⟨c,u,i1⟩
     simp only[ho,Out.bind_some,Out.need_some,Out.ret_some,Prod.mk.injEq]at h
     obtain⟨_,⟨_,_,_⟩,h,_,rfl,_⟩:=h
     rcases List.mem_append.1 hq with hq|hq
     ·obtain⟨⟨a,b⟩,_,rfl⟩:=List.mem_map.1 hq;exact⟨_,rfl⟩
     ·rcases List.mem_cons.1 hq with rfl|hq
      ·exact⟨_,rfl⟩
      ·exact ih _ _ _ _ _ h q hq
 obtain⟨⟨a,b⟩,hq,e⟩:=List.mem_map.1 hs
 dsimp only at e
 subst e
 obtain⟨x,hx⟩:=key _ _ _ _ _ _ h _ hq
 dsimp only at hx
 exact⟨x,by rw[←hx];exact hq⟩
theorem packR_rel{γ:Nat→G}{D:Nat→Nat}{W:Nat→Nat→Prop}{ps:List PV}{vs:List Value}(h:VRels γ D w W ps vs)(hn: ∀p∈ps,∀qs,p≠ .tup qs):VRel γ D w W (packR ps) (packVs vs):=by
 match ps,vs,h,hn with
 |[],vs,h,_=>obtain rfl:vs=[]:=h;exact⟨[],rfl,rfl⟩
 |[p],vs,⟨v,vs',e,h1,h2⟩,hn=>
  obtain rfl:vs'=[]:=h2
  subst e
  exact VRel.of0 h1 (hn p (by simp))
 |p::q::ps,vs,⟨v,vs',e,h1,v2,vs2,e2,h2,h3⟩,hn=>
  subst e2 e
  exact⟨_,rfl,v,_,rfl,h1,v2,vs2,rfl,h2,h3⟩
theorem callS_sound(hM:Mem γ B w lk)(h0:lk 0=some .ext)(hS:Sub lkS lk){g:FuncId}{s:Spec}(hC:Contract P g s){id:Nat}{pvs:List PV}{vs:List Value}(hv:VRels γ (Dom lk) w (Owned B lk) pvs vs)(hnt: ∀p∈pvs,∀qs,p≠ .tup qs){p:PV}{up:Ups}
  (h:(callS s id pvs lkS).run=some (p,up)) (hnew: ∀j x,(j,some x)∈up→id≤j→j<id+1001→lk j=none):
  Calls P g vs.toArray w fun| .returned v,w'=> ∃γ' B',Post γ B w lk up p γ' B' w' v|_,_=>False:=by
 simp only[callS,Out.bind_some,Out.need_some,Out.opt_some,Out.ret_some,Prod.mk.injEq,Bool.and_eq_true,Bool.not_eq_true',List.all_eq_true]at h
 obtain⟨g',hg,⟨⟨⟨hnd,hap⟩,hno0⟩,hlk⟩,x,hx,y,hy,⟨up1,ys,id1⟩,hwb,⟨rvs,up2,id2⟩,hres,hid2,fz,hfz,rfl,rfl⟩:=h
 have hnd:=nodupB_ok hnd
 have hap: ∀r∈g'.lent,r∉wbRoots g'.ws:=fun r hr=>by
  have:=(List.all_eq_true.1 hap) r hr
  simpa using this
 have hlent: ∀r∈g'.lent,∃z,lk r=some z:=fun r hr=>by
  obtain⟨z,hz⟩:=Option.isSome_iff_exists.1 (hlk r hr);exact⟨z,hS _ _ hz⟩
 have hno:0∉g'.lent∧0∉wbRoots g'.ws:=by
  have: ¬(0∈g'.lent++wbRoots g'.ws):=by simpa using hno0
  simpa using this
 have hid2:id2≤id+1000:=by simpa using hid2
 dsimp only at hwb hres hid2 hnew⊢
 obtain⟨B0,hM0,hK0,hall0,hsame0,hfz0,hfree0⟩: ∃B0,Mem γ B0 w (updF lk fz)∧Kp γ (Dom lk) w (Owned B lk) γ (Dom (updF lk fz)) w (Owned B0 (updF lk fz)) (fun s=>s∈fz.map (·.1))∧
   (∀k,AllW (Owned B0 (updF lk fz)) k→AllW (Owned B lk) k)∧(∀s,s∉g'.lent→updF lk fz s=lk s∧B0 s=B s)∧(∀s∈fz.map (·.1),s∈g'.lent)∧
   (((∀k,AllW (Owned B0 (updF lk fz)) k→ ∀r∈g'.lent,k∉B r)∧ ∀r∈g'.lent,r∈fz.map (·.1))∨(borrowed s.res=false∧flatW g'.ws=true∧fz=[]∧B0=B)):=by
  rw[Out.cond_some]at hfz
  rcases hfz with⟨hb,hfz⟩|⟨hb,hfz⟩
  ·obtain⟨B0,k1,k2,k3,k4,k5⟩:=hM.freezeL hS.rows hfz
   exact⟨B0,k1,k2,fun k hk=>(k3 k hk).1,k4,by rw[k5];exact fun _ h=>h,.inl ⟨fun k hk=>(k3 k hk).2,by rw[k5];exact fun _ h=>h⟩⟩
  ·simp only[Out.ret_some]at hfz
   subst hfz
   simp only[Bool.or_eq_false_iff,Bool.not_eq_false']at hb
   exact⟨B,hM,Kp.refl _ _ _ _ _,fun _ h=>h,fun _ _=>⟨rfl,rfl⟩,by simp,.inr ⟨hb.1,hb.2,rfl,rfl⟩⟩
 generalize hlk0:updF lk fz=lk0 at*
 have h00:lk0 0=some .ext:=by rw[(hsame0 0 hno.1).1];exact h0
 let F:List Nat:=(List.range w.heap.size).filter fun k=> @decide (AllW (Owned B0 lk0) k∧(∀r∈wbRoots g'.ws,k∉B r)∧ ∀r∈g'.lent,k∉B r) (Classical.propDecidable _)
 have hF: ∀k,k∈F↔k<w.heap.size∧AllW (Owned B0 lk0) k∧(∀r∈wbRoots g'.ws,k∉B r)∧ ∀r∈g'.lent,k∉B r:=fun k=>by
  simp only[F,List.mem_filter,List.mem_range,decide_eq_true_eq]
 have hFn:F.Nodup:=List.nodup_range.filter _
 clear_value F
 obtain⟨bs,hargs,hand,hknown,hback⟩:=gatherL_sound hM hS (O:=fun k=>(∃r∈wbRoots g'.ws,(∃z,lk r=some z)∧k∈B r)∨k∈F) (fun k hk=>by
   rcases hk with⟨r,_,⟨z,hz⟩,hk⟩|hk
   ·exact⟨r,z,hz,hk⟩
   ·exact hall0 k ((hF k).1 hk).2.1) s.params pvs vs g' hg hv hnt hnd (fun r hr k hk hO=>by
   obtain⟨z,hz⟩:=hlent r hr
   rcases hO with⟨r',hr',⟨z',hz'⟩,hk'⟩|hk'
   ·exact hap r hr ((hM.uniq r r' z z' k hz hz' hk hk')▸hr')
   ·exact((hF k).1 hk').2.2.2 r hr hk)
 obtain⟨F0,hF0⟩: ∃F0,F0=F:=⟨F,rfl⟩
 have hF00: ∀k,k∈F0↔k<w.heap.size∧AllW (Owned B0 lk0) k∧(∀r∈wbRoots g'.ws,k∉B r)∧ ∀r∈g'.lent,k∉B r:=by rw[hF0];exact hF
 rw[←hF0]at hargs
 clear hF hFn hF0
 clear F
 obtain⟨F,hF,hFn⟩: ∃F:List Nat,(∀k,k∈F↔k<w.heap.size∧AllW (Owned B0 lk0) k∧k∉bs∧ ∀r∈g'.lent,k∉B r)∧F.Nodup:=
  ⟨(List.range w.heap.size).filter fun k=> @decide (AllW (Owned B0 lk0) k∧k∉bs∧ ∀r∈g'.lent,k∉B r) (Classical.propDecidable _),fun k=>by simp only[List.mem_filter,List.mem_range,decide_eq_true_eq],List.nodup_range.filter _⟩
 have hbsF:(bs++F).Nodup:=by
  rw[List.nodup_append]
  refine⟨hand.nodup,hFn,fun a ha b hb hab=>?_⟩
  subst hab
  exact((hF a).1 hb).2.2.1 ha
 have hbslt: ∀k∈bs++F,k<w.heap.size:=fun k hk=>by
  rcases List.mem_append.1 hk with h|h
  ·obtain⟨r,hr,h1⟩:=hand.sub k h
   obtain⟨z,hz⟩:=hknown r hr
   exact hM.lt r z hz k h1
  ·exact((hF k).1 h).1
 have hargs':ArgsR w (· ∈bs++F) s.params vs (encP _ x) bs:=by
  rw[←encP_decP _ _ _ hx]
  refine ArgsR.less (fun k hk=>?_) _ _ _ _ hargs
  rcases List.mem_append.1 hk with h|h
  ·obtain⟨r,hr,h1⟩:=hand.sub k h
   exact .inl ⟨r,hr,hknown r hr,h1⟩
  ·by_cases hw: ∃r∈wbRoots g'.ws,k∈B r
   ·obtain⟨r,hr,h1⟩:=hw
    exact .inl ⟨r,hr,hknown r hr,h1⟩
   ·obtain⟨h1,h2,_,h4⟩:=(hF k).1 h
    exact .inr ((hF00 k).2 ⟨h1,h2,fun r hr hk'=>hw ⟨r,hr,hk'⟩,h4⟩)
 refine Calls.mono (hC x y hy w vs bs F hargs' hbsF hbslt) fun e w' he=>?_
 cases e with
 |panicked c=>exact he.elim
 |outgrown=>exact he.elim
 |returned v=>
  obtain⟨vs',bs1,bs2,outs,ress,rfl,hoy,houts,hress,hn12,hlt12,hst,hkF⟩:=he
  show ∃γ' B',Post γ B w lk (fz++(up1++up2)) (packR rvs) γ' B' w' (packVs vs')
  have hwo:=hback _ _ _ _ houts
  rw[hoy]at hwb
  rw[List.nodup_append]at hn12
  have hn12':=hn12.1
  rw[List.nodup_append]at hn12'
  have hlk0S: ∀r∈wbRoots g'.ws,lk0 r=lk r∧B0 r=B r:=fun r hr=>hsame0 r fun h=>hap r h hr
  have hnotF: ∀k∈bs,k∉F:=fun k hk hk'=>by
   rw[List.nodup_append]at hbsF
   exact hbsF.2.2 k hk k hk' rfl
  have hlk0': ∀r∈wbRoots g'.ws,∀k∈B r,∀s∈g'.lent,k∉B s:=fun r hr k hk s hs hk'=>by
   obtain⟨z,hz⟩:=hknown r hr
   obtain⟨z',hz'⟩:=hlent s hs
   exact hap s hs ((hM.uniq r s z z' k hz hz' hk hk')▸hr)
  obtain⟨kept,hkept,hkn⟩: ∃kept:List Nat,(∀k,k∈kept↔k<w.heap.size∧(∃r n l t,Wb.nst r n l t∈g'.ws∧k∈B r)∧k∉bs)∧kept.Nodup:=
   ⟨(List.range w.heap.size).filter fun k=> @decide ((∃r n l t,Wb.nst r n l t∈g'.ws∧k∈B r)∧k∉bs) (Classical.propDecidable _),fun k=>by simp only[List.mem_filter,List.mem_range,decide_eq_true_eq],List.nodup_range.filter _⟩
  have hkeptR: ∀k∈kept,∃r∈wbRoots g'.ws,k∈B r:=fun k hk=>by
   obtain⟨_,⟨r,n,l,t,h1,h2⟩,_⟩:=(hkept k).1 hk
   exact⟨r,nst_root h1,h2⟩
  have hkeptF: ∀k∈kept,k∈F:=fun k hk=>by
   obtain⟨r,hr,h1⟩:=hkeptR k hk
   obtain⟨h0,_,h2⟩:=(hkept k).1 hk
   obtain⟨z,hz⟩:=hknown r hr
   exact(hF k).2 ⟨h0,⟨r,z,by rw[(hlk0S r hr).1];exact hz,by rw[(hlk0S r hr).2];exact h1⟩,h2,hlk0' r hr k h1⟩
  have hpot0: ∀k∈bs1++bs2,k<w'.heap.size∧(k<w.heap.size→k∈bs):=fun k hk=>by
   refine⟨hlt12 k (by rw[List.mem_append];exact .inl hk),fun hlt=>Classical.byContradiction fun hno=>?_⟩
   have hkF':k∉F:=fun h=>hn12.2.2 k hk k h rfl
   exact hst.ours k hlt (by simp[hno,hkF']) (by rw[List.mem_append];exact .inl hk)
  have hkd: ∀k∈kept,k∉bs1++bs2:=fun k hk h=>hn12.2.2 k h k (hkeptF k hk) rfl
  have hpn:(bs1++bs2++kept).Nodup:=by
   rw[List.nodup_append]
   exact⟨hn12.1,hkn,fun a ha b hb e=>by subst e;exact hkd a hb ha⟩
  have hpot: ∀k∈bs1++bs2++kept,k<w'.heap.size∧(k<w.heap.size→ ∃r∈wbRoots g'.ws,k∈B r):=fun k hk=>by
   rcases List.mem_append.1 hk with h|h
   ·exact⟨(hpot0 k h).1,fun hlt=>by obtain⟨r,hr,h1⟩:=hand.sub k ((hpot0 k h).2 hlt);exact⟨r,hr,h1⟩⟩
   ·exact⟨Nat.lt_of_lt_of_le ((hkept k).1 h).1 hst.size,fun _=>hkeptR k h⟩
  obtain⟨hM1,hK1⟩:=hM0.scatter h00 (wbRoots g'.ws) (bs1++bs2++kept) w' hno.2 (fun r hr=>by obtain⟨z,hz⟩:=hknown r hr;exact⟨z,by rw[(hlk0S r hr).1];exact hz⟩) hst.size
   (fun k hk hkS=>by
    by_cases hkF':k∈F
    ·exact hkF k hkF'
    ·refine hst.keep k hk fun h=>?_
     rcases List.mem_append.1 h with h|h
     ·obtain⟨r,hr,h1⟩:=hand.sub k h
      exact hkS r hr (by rw[(hlk0S r hr).2];exact h1)
     ·exact hkF' h) hst.os hst.output hst.tape hpn
   (fun k hk=>⟨(hpot k hk).1,fun hlt=>by
    obtain⟨r,hr,h1⟩:=(hpot k hk).2 hlt
    exact⟨r,hr,by rw[(hlk0S r hr).2];exact h1⟩⟩)
  generalize hB1:(fun s=>if s∈wbRoots g'.ws then []else if s=0 then B0 0++(bs1++bs2++kept)else B0 s)=B1 at hM1 hK1
  have hB1S: ∀r∈wbRoots g'.ws,B1 r=[]:=fun r hr=>by rw[←hB1];simp[hr]
  have hB10:B1 0=B0 0++(bs1++bs2++kept):=by rw[←hB1];simp[hno.2]
  have hB1o: ∀r,r∉wbRoots g'.ws→r≠0→B1 r=B0 r:=fun r h1 h2=>by rw[←hB1];simp[h1,h2]
  have hl1S: ∀r∈wbRoots g'.ws,killF lk0 (wbRoots g'.ws) r=some .dead:=fun r hr=>by simp[killF,hr]
  have hl1o: ∀r,r∉wbRoots g'.ws→killF lk0 (wbRoots g'.ws) r=lk0 r:=fun r hr=>by simp[killF,hr]
  have h10:killF lk0 (wbRoots g'.ws) 0=some .ext:=by rw[hl1o 0 hno.2];exact h00
  have hown1: ∀r k,Owned B1 (killF lk0 (wbRoots g'.ws)) r k→k∈bs1++bs2++kept∨(r∉wbRoots g'.ws∧Owned B0 lk0 r k):=by
   rintro r k ⟨z,hz,hk⟩
   by_cases hr:r∈wbRoots g'.ws
   ·rw[hB1S r hr]at hk;simp at hk
   ·rw[hl1o r hr]at hz
    by_cases hr0:r=0
    ·subst hr0
     rw[hB10,List.mem_append]at hk
     exact hk.elim (fun h=> .inr ⟨hr,z,hz,h⟩) .inl
    ·rw[hB1o r hr hr0]at hk;exact .inr ⟨hr,z,hz,hk⟩
  have hOwn:(∀k,AllW (Owned B1 (killF lk0 (wbRoots g'.ws))) k→k∈bs1++bs2++F)∨(borrowed s.res=false∧flatW g'.ws=true):=by
   rcases hfree0 with⟨hfr,_⟩|⟨h1,h2,_⟩
   ·refine .inl fun k hk=>?_
    obtain⟨r,hk⟩:=hk
    rcases hown1 r k hk with h|⟨hr,z,hz,hk⟩
    ·rw[List.mem_append]
     rcases List.mem_append.1 h with h|h
     ·exact .inl h
     ·exact .inr (hkeptF k h)
    ·rw[List.mem_append]
     refine .inr ((hF k).2 ⟨hM0.lt r z hz k hk,⟨r,z,hz,hk⟩,fun hk'=>?_,hfr k ⟨r,z,hz,hk⟩⟩)
     obtain⟨r',hr',hk'⟩:=hand.sub k hk'
     obtain⟨z',hz'⟩:=hknown r' hr'
     obtain⟨e1,e2⟩:=hlk0S r' hr'
     exact hr ((hM0.uniq r r' z z' k hz (by rw[e1];exact hz') hk (by rw[e2];exact hk'))▸hr')
   ·exact .inr ⟨h1,h2⟩
  have hnone0: ∀j,lk j=none→lk0 j=none∧killF lk0 (wbRoots g'.ws) j=none:=fun j hj=>by
   have h1:j∉g'.lent:=fun h=>by obtain⟨z,hz⟩:=hlent j h;rw[hj]at hz;cases hz
   have h2:j∉wbRoots g'.ws:=fun h=>by obtain⟨z,hz⟩:=hknown j h;rw[hj]at hz;cases hz
   have h3:lk0 j=none:=by rw[(hsame0 j h1).1];exact hj
   exact⟨h3,by rw[hl1o j h2];exact h3⟩
  have hids:=results_ids _ _ _ _ _ _ hres
  obtain⟨rfl,hid1,γ2,B2,ks2,ts,d2,hts,hks2,hk2a,hk2b⟩:=writeBack_sound (kp:=(· ∈kept)) hM0 g'.ws outs bs1 ress ys (id+1) id1 up1 γ B1 _ (fun r hr z hz=>by rw[(hlk0S r hr).1];exact hS _ _ hz) hK1 hM1 h10
   (fun r hr=>⟨hl1S r hr,hB1S r hr,fun e=>hno.2 (e▸hr)⟩) hnd hwo hn12'.1 (fun k hk=>by rw[hB10];simp[hk])
   (fun r n k t hm=>by
    obtain⟨z,⟨u,xs,m,x,v0,v,c1,c3,b,o,k1,k2,k3,k4,k5,k6,k7,k8⟩,h2⟩:=hand.nst r n k t hm
    obtain⟨e1,e2⟩:=hlk0S r (nst_root hm)
    refine⟨z,⟨u,xs,m,x,v0,v,c1,c3,b,o,by rw[e1];exact k1,k2,k3,k4,by rw[e2];exact k5,k6,k7,k8⟩,fun j hj hjz=>?_⟩
    rw[e2]at hj
    have hj':=h2 j hj hjz
    have hjk:j∈kept:=(hkept j).2 ⟨hM.lt r _ k1 j hj,⟨r,n,k,t,hm,hj⟩,hj'⟩
    exact⟨by rw[hB10];simp[hjk],fun h=>hkd j hjk (by simp[h]),hkF j (hkeptF j hjk),hjk⟩)
   (hOwn.imp (fun h=>h) (fun h=>h.2)) (by omega)
   (fun j x hj h1 h2=>(hnone0 j (hnew j x (by simp[hj]) (by omega) (by
    have:=hids.1
    omega))).2) hwb
  obtain⟨hid12,γ3,B3,ks3,d3,hks3,hk3,hvals,hfree,htup⟩:=results_sound s.res vs' ys bs2 rvs up2 id1 id2 γ2 B2 _ hress hres d2.mem d2.ext hn12'.2.1
   (fun k hk=>(d2.zero k).2 ⟨by rw[hB10];simp[hk],fun h=>by
    rcases hts.2 k h with h|h
    ·exact hn12'.2.2 k h k hk rfl
    ·exact hkd k h (by simp[hk])⟩) (by omega)
   (fun j hj=>by
    obtain⟨x,hx⟩:=results_some _ _ _ _ _ _ hres j hj
    have hj2:=hids.2 j hj
    have hn:=hnew j x (by simp[hx]) (by omega) (by omega)
    rw[(d2.other j (fun h=>by
     rcases hks2 j h with h|h
     ·obtain⟨z,hz⟩:=hknown j h;rw[hn]at hz;cases hz
     ·omega) (by omega)).2]
    exact(hnone0 j hn).2) (hOwn.imp (fun h k hk=>h k ((d2.all k).1 hk)) (fun h=>h.1))
  have dd:=d2.trans d3
  have htab:updF (updF (killF lk0 (wbRoots g'.ws)) up1) up2=updF lk (fz++(up1++up2)):=by
   rw[updF_append,updF_append,hlk0]
   congr 1
   refine updF_agree _ _ _ fun s hs=>?_
   rw[hl1o s (fun h=>hs (hk2b s h))]
  rw[htab]at d3 dd hvals
  have hdk: ∀r,r∈ks2++ks3→r∈wbRoots g'.ws∨lk r=none:=fun r hr=>by
   rcases List.mem_append.1 hr with h|h
   ·rcases hks2 r h with h'|⟨h1,h2,x,hx⟩
    ·exact .inl h'
    ·exact .inr (hnew r x (by simp[hx]) (by omega) (by have:=hids.1;omega))
   ·obtain⟨x,hx⟩:=results_some _ _ _ _ _ _ hres r (hks3 r h)
    have hj2:=hids.2 r (hks3 r h)
    exact .inr (hnew r x (by simp[hx]) (by omega) (by omega))
  have hother: ∀r,r∉wbRoots g'.ws→lk r≠none→r≠0→B3 r=B0 r∧updF lk (fz++(up1++up2)) r=lk0 r:=fun r h1 h2 h3=>by
   obtain⟨e1,e2⟩:=dd.other r (fun h=>(hdk r h).elim h1 h2) h3
   exact⟨e1.trans (hB1o r h1 h3),e2.trans (hl1o r h1)⟩
  have hlent0: ∀r k,Owned B0 lk0 r k→Owned B lk r k:=by
   rintro r k ⟨z,hz,hk⟩
   by_cases hr:r∈g'.lent
   ·obtain⟨s',hs',hz',hk'⟩: ∃s',∃z',lk s'=some z'∧k∈B s':=by
     obtain⟨s',z',h1,h2⟩:=hall0 k ⟨r,z,hz,hk⟩;exact⟨s',z',h1,h2⟩
    rcases hfree0 with⟨hfr,_⟩|⟨_,_,rfl,rfl⟩
    ·by_cases hs:s'∈g'.lent
     ·exact absurd hk' (hfr k ⟨r,z,hz,hk⟩ s' hs)
     ·obtain⟨e1,e2⟩:=hsame0 s' hs
      have:=hM0.uniq r s' z hs' k hz (by rw[e1];exact hz') hk (by rw[e2];exact hk')
      exact absurd (this▸hr) hs
    ·have:lk0=lk:=by rw[←hlk0];rfl
     exact⟨z,by rw[←this];exact hz,hk⟩
   ·obtain⟨e1,e2⟩:=hsame0 r hr
    exact⟨z,by rw[←e1];exact hz,by rw[←e2];exact hk⟩
  have hS0: ∀k,k∈bs→ ∃r∈wbRoots g'.ws,Owned B lk r k:=fun k hk=>by
   obtain⟨r,hr,h1⟩:=hand.sub k hk
   obtain⟨z,hz⟩:=hknown r hr
   exact⟨r,hr,z,hz,h1⟩
  have hown3: ∀r k,Owned B3 (updF lk (fz++(up1++up2))) r k→k<w.heap.size→(∃r'∈wbRoots g'.ws,Owned B lk r' k)∨(r∉wbRoots g'.ws∧Owned B lk r k):=by
   have hin: ∀k,(∃r∈wbRoots g'.ws,k∈B r)→ ∃r'∈wbRoots g'.ws,Owned B lk r' k:=fun k ⟨r,hr,h⟩=>by
    obtain⟨z,hz⟩:=hknown r hr
    exact⟨r,hr,z,hz,h⟩
   rintro r k ⟨z,hz,hk⟩ hlt
   by_cases hr:r∈ks2++ks3
   ·have:=dd.mine r hr k hk
    rcases List.mem_append.1 this with h|h
    ·rcases hts.2 k h with h|h
     ·exact .inl (hin k ((hpot k (by simp[h])).2 hlt))
     ·exact .inl (hin k ((hpot k (by simp[h])).2 hlt))
    ·exact .inl (hin k ((hpot k (by simp[h])).2 hlt))
   ·by_cases hr0:r=0
    ·subst hr0
     have hk1:=((dd.zero k).1 hk).1
     rcases hown1 0 k ⟨_,h10,hk1⟩with h|⟨h1,h2⟩
     ·exact .inl (hin k ((hpot k h).2 hlt))
     ·exact .inr ⟨h1,hlent0 0 k h2⟩
    ·obtain⟨e1,e2⟩:=dd.other r hr hr0
     rw[e1]at hk;rw[e2]at hz
     rcases hown1 r k ⟨z,hz,hk⟩with h|⟨h1,h2⟩
     ·exact .inl (hin k ((hpot k h).2 hlt))
     ·exact .inr ⟨h1,hlent0 r k h2⟩
  have hall3: ∀k,k<w.heap.size→AllW (Owned B3 (updF lk (fz++(up1++up2)))) k→AllW (Owned B lk) k:=by
   rintro k hlt ⟨r,h⟩
   rcases hown3 r k h hlt with⟨r',_,h⟩|⟨_,h⟩
   ·exact⟨r',h⟩
   ·exact⟨r,h⟩
  have hheap: ∀k,k<w.heap.size→k∉bs→w'.heap[k]?=w.heap[k]?:=fun k hk hno=>by
   by_cases hf:k∈F
   ·exact hkF k hf
   ·exact hst.keep k hk (by simp[hno,hf])
  have hkp:Kp γ (Dom lk) w (Owned B lk) γ3 (Dom (updF lk (fz++(up1++up2)))) w' (Owned B3 (updF lk (fz++(up1++up2)))) (fun r=>r∈(fz++(up1++up2)).map (·.1)):=by
   have hcomp:=(hK0.trans hK1).trans dd.kp
   refine⟨⟨hst.size,fun k hk hno=>hheap k hk fun h=>by obtain⟨r',_,h⟩:=hS0 k h;exact hno ⟨r',h⟩,fun k hk hno h=>hno (hall3 k hk h),hst.os,hst.output,hst.tape⟩,hcomp.same,hcomp.dom,fun r hr hbad=>?_⟩
   simp only[List.map_append,List.mem_append,not_or]at hbad
   have hrS:r∉wbRoots g'.ws:=fun h=>hbad.2.1 (hk2b r h)
   have hrn:lk r≠none:=fun h=>by rw[dom_none.2 h]at hr;cases hr
   refine⟨?_,⟨hst.size,fun k hk hno=>hheap k hk fun h=>?_,fun k hk hno h=>?_,hst.os,hst.output,hst.tape⟩,fun k hk=>?_⟩
   ·rw[Dom_eq (show updF lk (fz++(up1++up2)) r=lk r from updF_out _ _ _ (by simp only[List.map_append,List.mem_append,not_or];exact hbad))];exact hr
   ·obtain⟨r',hr',h⟩:=hS0 k h
    exact hno ⟨r',fun e=>hrS (e▸hr'),h⟩
   ·obtain⟨s',hs',h⟩:=h
    rcases hown3 s' k h hk with⟨r',hr',h⟩|⟨_,h⟩
    ·exact hno ⟨r',fun e=>hrS (e▸hr'),h⟩
    ·exact hno ⟨s',hs',h⟩
   ·obtain⟨z,hz,hk⟩:=hk
    have hr0l:updF lk (fz++(up1++up2)) r=lk r:=updF_out _ _ _ (by simp only[List.map_append,List.mem_append,not_or];exact hbad)
    have hB0r:B0 r=B r:=by
     by_cases hl:r∈g'.lent
     ·rcases hfree0 with⟨_,hfr⟩|⟨_,_,_,rfl⟩
      ·exact absurd (hfr r hl) hbad.1
      ·rfl
     ·exact(hsame0 r hl).2
    refine⟨z,by rw[hr0l];exact hz,?_⟩
    by_cases hr0:r=0
    ·subst hr0
     refine(dd.zero k).2 ⟨by rw[hB10];rw[hB0r];simp[hk],fun h=>?_⟩
     have hlt:=hM.lt 0 z hz k hk
     have hp:k∈bs1++bs2++kept:=by
      rcases List.mem_append.1 h with h|h
      ·rcases hts.2 k h with h|h<;>simp[h]
      ·simp[h]
     obtain⟨r',hr',hk'⟩:=(hpot k hp).2 hlt
     obtain⟨z',hz'⟩:=hknown r' hr'
     exact hno.2 ((hM.uniq 0 r' z z' k hz hz' hk hk')▸hr')
    ·obtain⟨e1,_⟩:=hother r hrS hrn hr0
     rw[e1,hB0r];exact hk
  exact⟨γ3,B3,dd.mem,hkp,packR_rel hvals htup⟩
end
end Go.Vm
namespace Go.Vm
open Go Go.RowKit
def ItMk(P:Program)(g:FuncId)(it:It):Prop:=it.ts.all (fun t=>!isRowT t)=true∧
 ∀(x:PT it.ts) (w:World) (O:Nat→Prop) (args:List Value),ArgsR w O (it.ts.map .b) args (encP it.ts x) []→it.pre x=true→Calls P g args.toArray w fun e w'=> ∃bs:List Nat,
  e= .returned (.func (.func it.h) #[] (bs.map fun b=>Value.pointer (some ⟨b,0,none⟩)).toArray)∧bs.length=args.length∧
  (∀(i:Nat) b v,bs[i]?=some b→args[i]?=some v→w.heap.size≤b∧b<w'.heap.size∧w'.cell? ⟨b,0,none⟩=some v)∧Below w.heap.size w w'
section
variable {γ:Nat→G} {B:Nat→List Nat} {w w':World} {lk lkS:Look} {P:Program}
theorem ros_rel{O:Nat→Prop}{D:Nat→Nat}{W:Nat→Nat→Prop}(hst:Stp w O w' (AllW W)): ∀(ts:List Ty) (vs:List Value) (ds:List Dyn) (bs:List Nat),ts.all (fun t=>!isRowT t)=true→ArgsR w O (ts.map .b) vs ds []→bs.length=vs.length→
  (∀(i:Nat) b v,bs[i]?=some b→vs[i]?=some v→b<w'.heap.size∧ ¬AllW W b∧w'.cell? ⟨b,0,none⟩=some v)→LRels γ D w' W (rosL ds) (bs.map fun b=>Value.pointer (some ⟨b,0,none⟩))
 |[],vs,ds,bs,_,h,hl,_=>by
  obtain⟨rfl,rfl,_⟩:=h
  have:bs=[]:=by simpa using hl
  subst this
  simp[rosL,LRels]
 |t::ts,vs,ds,bs,hr,h,hl,hb=>by
  obtain⟨v,vs',ds1,ds2,bs1,bs2,rfl,rfl,e,h1,h2⟩:=h
  simp only[List.nil_eq,List.append_eq_nil_iff]at e
  obtain⟨rfl,rfl⟩:=e
  simp only[List.all_cons,Bool.and_eq_true,Bool.not_eq_true']at hr
  obtain⟨x,cs,rfl,_,hs,hd⟩:=h1
  cases bs with
  |nil=>simp at hl
  |cons b bs=>
   obtain⟨k1,k2,k3⟩:=hb 0 b v rfl rfl
   obtain rfl:=hs.2.1 hr.1
   simp only[List.map_cons,List.singleton_append,rosL,LRels]
   refine⟨_,_,rfl,?_,ros_rel hst ts vs' ds2 bs hr.2 h2 (by simpa using hl) (fun i b v h3 h4=>hb (i+1) b v (by simpa using h3) (by simpa using h4))⟩
   simp only[LRel]
   refine⟨⟨b,0,none⟩,[v],rfl,k1,k2,fun j u hj=>?_,DRel.bor hst _ _ _ _ hd⟩
   cases j with
   |zero=>
    simp only[List.getElem?_cons_zero,Option.some.injEq]at hj
    subst hj
    rw[Addr.add_zero];exact k3
   |succ j=>simp at hj
theorem itS_sound(hM:Mem γ B w lk)(h0:lk 0=some .ext)(hS:Sub lkS lk){g:FuncId}{it:It}(hI:ItMk P g it){pvs:List PV}{vs:List Value}(hv:VRels γ (Dom lk) w (Owned B lk) pvs vs)(hnt: ∀p∈pvs,∀qs,p≠ .tup qs){p:PV}{up:Ups}
  (h:(itS it pvs lkS).run=some (p,up)):Calls P g vs.toArray w fun| .returned v,w'=> ∃γ' B',Post γ B w lk up p γ' B' w' v|_,_=>False:=by
 unfold itS at h
 simp only[Out.bind_some,Out.guard_some,Out.need_some,Out.ret_some,Prod.mk.injEq,Bool.and_eq_true,Bool.not_eq_true']at h
 obtain⟨g',hg,x,hx,hpre,⟨hl0,hws⟩,fz,hfz,rfl,rfl⟩:=h
 have hws':g'.ws=[]:=by simpa using hws
 obtain⟨B0,hM0,hK0,hall0,hsame0,hkeys⟩:=hM.freezeL hS.rows hfz
 have h00:updF lk fz 0=some .ext:=by
  rw[(hsame0 0 (by simpa using hl0)).1];exact h0
 obtain⟨bs,hargs,hand,_,_⟩:=gatherL_sound hM hS (O:=AllW (Owned B0 (updF lk fz))) (fun k hk=>(hall0 k hk).1) (it.ts.map .b) pvs vs g' hg hv hnt (by rw[hws'];simp[wbRoots]) (fun r hr k hk hO=>(hall0 k hO).2 r hr hk)
 have hbs:bs=[]:=by
  cases bs with
  |nil=>rfl
  |cons b bs=>
   obtain⟨r,hr,_⟩:=hand.sub b (by simp)
   rw[hws']at hr;simp[wbRoots]at hr
 subst hbs
 have hds:=encP_decP _ _ _ hx
 refine(hI.2 x w _ vs (by rw[←hds];exact hargs) hpre).mono fun e w' he=>?_
 obtain⟨bs,rfl,hlen,hcell,hb⟩:=he
 have hst:Stp w (AllW (Owned B0 (updF lk fz))) w' (AllW (Owned B0 (updF lk fz))):=⟨hb.size,fun k hk _=>hb.block k hk,fun _ _ h=>h,hb.os,hb.output,hb.tape⟩
 obtain⟨hM1,hK1⟩:=hM0.scatter h00 [] [] w' (by simp) (by simp) hb.size (fun k hk _=>hb.block k hk) hb.os hb.output hb.tape (by simp) (by simp)
 have hB1:(fun s=>if s∈([]:List Nat)then []else if s=0 then B0 0++[]else B0 s)=B0:=by
  funext s;by_cases e:s=0<;>simp[e]
 have hk1:killF (updF lk fz) []=updF lk fz:=by funext s;simp[killF]
 rw[hB1,hk1]at hM1 hK1
 have hK2:Kp γ (Dom (updF lk fz)) w (Owned B0 (updF lk fz)) γ (Dom (updF lk fz)) w' (Owned B0 (updF lk fz)) (fun _=>False):=
  ⟨hst,fun _ _=>rfl,fun _ h=>h,fun r hr _=>⟨hr,⟨hb.size,fun k hk _=>hb.block k hk,fun _ _ h=>h,hb.os,hb.output,hb.tape⟩,fun _ h=>h⟩⟩
 refine⟨γ,B0,hM1,(hK0.trans hK2).weaken fun r hr hbad=>?_,?_⟩
 ·exact hbad.elim id fun h=>h.elim
 ·refine vrel_fn.2 ⟨_,rfl,ros_rel hst it.ts vs g'.ds bs hI.1 hargs hlen fun i b v h1 h2=>?_⟩
  obtain⟨k1,k2,k3⟩:=hcell i b v h1 h2
  refine⟨k2,fun hk=>?_,k3⟩
  obtain⟨s,y,hy,hk⟩:=hk
  have:=hM0.lt s y hy b hk
  omega
end
end Go.Vm
namespace Go.Vm
open Go Go.MapKept
section
variable {γ:Nat→G} {B:Nat→List Nat} {w:World} {lk lkS:Look} {P:Program} {e:Env}
theorem MapTy.zero{v:TypeId}{i:TypeInfo}(h1:P.info? v=some i)(h2:i.zero=some (.bool false)):(zeroValue v).run P w= .ok (.bool false) w:=by
 simp[zeroValue,typeInfo,h1,h2]
theorem MapOf.keys{xs:List Int}{es:List MapEntry}(h:MapOf xs es): ∀x∈es,IsKey (.int .i64) x.key:=fun x hx=>by
 obtain⟨n,_,h1,_⟩:=h.1 x hx
 rw[h1];exact rfl
theorem map_get{t:TypeId}(hm:MapTy P t){b:Nat}{es:Array MapEntry}{c:Nat}(hb:w.heap[b]?=some (.map es c)){xs:List Int}(h:MapOf xs es.toList)(n:Int):
  (Instr.lookup t (.map (some b)) (.int .i64 n) false).run P w= .ok (.bool (xs.contains n)) w:=by
 obtain⟨k,v,i,h1,h2,h3,h4⟩:=hm
 have hkey:IsKey (.int .i64) (.int .i64 n):=rfl
 rcases findNow_spec hkey es.toList 0 h.keys with⟨f1,f2⟩|⟨j,x,f1,f2,f3⟩
 ·have hn:xs.contains n=false:=by
   cases hc:xs.contains n with
   |false=>rfl
   |true=>
    obtain⟨x,hx,hk⟩:=h.2 n (by simpa using hc)
    exact absurd hk (f2 x hx)
  rw[hn]
  simp[Instr.lookup,run_underlying h1,MapKept.run_getObj_map hb,run_checkKey h2 hkey,run_findKey h2 f1,MapTy.zero h3 h4,Result.andThen]
 ·obtain⟨m,hm',hk,hv⟩:=h.1 x (List.mem_of_getElem? f2)
  rw[hk]at f3
  cases f3
  have hn:xs.contains n=true:=by simpa using hm'
  rw[hn]
  simp[Instr.lookup,run_underlying h1,MapKept.run_getObj_map hb,run_checkKey h2 hkey,run_findKey h2 f1,hv,Result.andThen]
theorem map_put{t:TypeId}(hm:MapTy P t){b:Nat}{es:Array MapEntry}{c:Nat}(hb:w.heap[b]?=some (.map es c)){xs:List Int}(h:MapOf xs es.toList)(n:Int):
  ∃es' c',(Instr.mapUpdate t (.map (some b)) (.int .i64 n) (.bool true)).run P w= .ok () {w with heap:=w.heap.setIfInBounds b (.map es' c')}∧MapOf (n::xs) es'.toList:=by
 obtain⟨k,v,i,h1,h2,h3,h4⟩:=hm
 have hkey:IsKey (.int .i64) (.int .i64 n):=rfl
 rcases findNow_spec hkey es.toList 0 h.keys with⟨f1,f2⟩|⟨j,x,f1,f2,f3⟩
 ·refine⟨es.push ⟨.int .i64 n,.bool true,c⟩,c+1,?_,⟨fun y hy=>?_,fun m hm=>?_⟩⟩
  ·simp[Instr.mapUpdate,run_underlying h1,MapKept.run_getObj_map hb,run_checkKey h2 hkey,run_findKey h2 f1,MapKept.run_setObj_map _ hb,Result.andThen]
  ·simp only[Array.toList_push,List.mem_append,List.mem_singleton]at hy
   rcases hy with hy|rfl
   ·obtain⟨m,q1,q2,q3⟩:=h.1 y hy
    exact⟨m,List.mem_cons_of_mem _ q1,q2,q3⟩
   ·exact⟨n,List.mem_cons_self,rfl,rfl⟩
  ·simp only[Array.toList_push]
   rcases List.mem_cons.1 hm with rfl|hm
   ·exact⟨_,List.mem_append_right _ (List.mem_singleton.2 rfl),rfl⟩
   ·obtain⟨y,q1,q2⟩:=h.2 m hm
    exact⟨y,List.mem_append_left _ q1,q2⟩
 ·have hj:es[j]?=some x:=by simpa using f2
  refine⟨es.modify j (fun e'=>{e' with key:= .int .i64 n,val:= .bool true}),c,?_,⟨fun y hy=>?_,fun m hm=>?_⟩⟩
  ·simp[Instr.mapUpdate,run_underlying h1,MapKept.run_getObj_map hb,run_checkKey h2 hkey,run_findKey h2 f1,hj,f3,run_keyThatStays hkey,MapKept.run_setObj_map _ hb,Result.andThen]
  ·rcases MapFrom.mem_modify hy with hy|⟨e',_,rfl⟩
   ·obtain⟨m,q1,q2,q3⟩:=h.1 y hy
    exact⟨m,List.mem_cons_of_mem _ q1,q2,q3⟩
   ·exact⟨n,List.mem_cons_self,rfl,rfl⟩
  ·have hkeys:=modify_keys (es:=es) j (fun e'=>({e' with key:= .int .i64 n,val:= .bool true}:MapEntry)) (fun e' he'=>by rw[hj]at he';cases he';exact f3.symm)
   have hin:(Value.int .i64 m)∈es.toList.map (·.key):=by
    rcases List.mem_cons.1 hm with rfl|hm
    ·exact List.mem_map.2 ⟨x,List.mem_of_getElem? f2,f3⟩
    ·obtain⟨y,q1,q2⟩:=h.2 m hm
     exact List.mem_map.2 ⟨y,q1,q2⟩
   rw[←hkeys]at hin
   obtain⟨y,q1,q2⟩:=List.mem_map.1 hin
   exact⟨y,q1,q2⟩
theorem makeMap_sound(hM:Mem γ B w lk){id:Nat}(hid:lk id=none){t:TypeId}:
  ∃v w' γ' B',(Instr.makeMap t none).run P w= .ok v w'∧Post γ B w lk [(id,some (.mp []))] (.rf id) γ' B' w' v:=by
 have hw:=More.alloc w (.map #[] 0)
 have h:=hM.add hid (w':=w.alloc (.map #[] 0)) (x:= .mp []) (g:= .row (.map (some w.heap.size)) (.int .i64)) (bs:=[w.heap.size])
  (by rw[hw.size];omega) (fun k hk=>hw.old hk) hw.os hw.output hw.tape (by simp) (by simp[hw.size]) (fun n k b o ha=>by simp[G.at,rowAt]at ha)
  (fun hK=>⟨rfl,w.heap.size,rfl,rfl,by rw[hw.size];omega,#[],0,by rw[hw.heap];simp,by simp,by simp⟩)
 refine⟨.map (some w.heap.size),_,_,_,by simp[Instr.makeMap],h.1,h.2.weaken fun _ _ h=>h.elim,?_⟩
 simp only[VRel,VRel0,LRel]
 exact⟨Dom_setF_same,_,.int .i64,by simp only[updN,if_true],rfl,rfl⟩
theorem mp_of(hM:Mem γ B w lk){r:Nat}{xs:List Int}(hx:lk r=some (.mp xs)){v:Value}(hv:VRel γ (Dom lk) w (Owned B lk) (.rf r) v):
  ∃b es c,v= .map (some b)∧B r=[b]∧b<w.heap.size∧γ r= .row (.map (some b)) (.int .i64)∧w.heap[b]?=some (.map es c)∧MapOf xs es.toList:=by
 obtain⟨b,es,c,e1,e2,e3,e4,e5⟩:=(hM.rel r _ hx).mp
 simp only[VRel,VRel0,LRel]at hv
 obtain⟨_,v',t,h1,h2,_⟩:=hv
 rw[e1]at h1
 cases h1
 simp only[List.cons.injEq,and_true]at h2
 exact⟨b,es,c,h2,e2,e3,e1,e4,e5⟩
theorem lookup_sound(hM:Mem γ B w lk){r:Nat}{xs:List Int}(hx:lk r=some (.mp xs)){v i:Value}(hv:VRel γ (Dom lk) w (Owned B lk) (.rf r) v){t:TypeId}(ht:MapTy P t){n:Int}(hi:i= .int .i64 n):
  (Instr.lookup t v i false).run P w= .ok (.bool (xs.contains n)) w:=by
 obtain⟨b,es,c,rfl,_,_,_,h4,h5⟩:=mp_of hM hx hv
 subst hi
 exact map_get ht h4 h5 n
theorem mapUpdate_sound(hM:Mem γ B w lk){r:Nat}{xs:List Int}(hx:lk r=some (.mp xs)){v i:Value}(hv:VRel γ (Dom lk) w (Owned B lk) (.rf r) v){t:TypeId}(ht:MapTy P t){n:Int}(hi:i= .int .i64 n):
  ∃w' γ' B',(Instr.mapUpdate t v i (.bool true)).run P w= .ok () w'∧ ∀u,Post γ B w lk [(r,some (.mp (n::xs)))] .undef γ' B' w' u:=by
 obtain⟨b,es,c,rfl,h1,h2,h3,h4,h5⟩:=mp_of hM hx hv
 subst hi
 obtain⟨es',c',h6,h7⟩:=map_put ht h4 h5 n
 have hp:=hM.put hx (x':= .mp (n::xs)) (w':={w with heap:=w.heap.setIfInBounds b (.map es' c')}) (by simp)
  (fun k hk=>(heap_set h4).2 k (fun e=>hk (by rw[h1,e];simp))) rfl rfl rfl (fun hK=>by
   rw[h3,h1]
   exact⟨rfl,b,rfl,rfl,by simpa using h2,es',c',(heap_set h4).1,h7⟩)
 exact⟨_,γ,B,h6,fun u=>⟨hp.1,hp.2.weaken fun s _ hs=>by rw[hs];simp,trivial⟩⟩
end
end Go.Vm
namespace Go.Vm
open Go
section
variable {γ:Nat→G} {B:Nat→List Nat} {w:World} {lk lkS:Look} {P:Program} {e:Env}
theorem span_rel{O:Nat→Prop}{q n:Nat}{t:Ty}{xs:List t.den}{cells:List Value}(hz:t.sz=1)(h:EL (DRel w O false t) xs cells [])(hn:n+q≤xs.length):
  DRel w O false (.arr q t) ((xs.drop n).take q) ((cells.drop n).take q) []:=by
 obtain⟨b1,b2,e1,_,h1⟩:=EL.take_drop (fun x c b h=>DRel.length _ _ _ _ h) n h
 obtain⟨rfl,rfl⟩:b1=[]∧b2=[]:=by simpa using e1.symm
 obtain⟨b1,b2,e1,h2,_⟩:=EL.take_drop (fun x c b h=>DRel.length _ _ _ _ h) q h1
 obtain⟨rfl,rfl⟩:b1=[]∧b2=[]:=by simpa using e1.symm
 rw[hz,Nat.mul_one,Nat.mul_one]at h2
 exact⟨by simp;omega,h2⟩
theorem range_part{b o n q:Nat}{cells:List Value}(h:w.rangeAt b o cells):w.rangeAt b (o+n) ((cells.drop n).take q):=fun j v hj=>by
 rw[List.getElem?_take]at hj
 split at hj
 ·rw[List.getElem?_drop]at hj
  have:=h _ v hj
  rwa [show o+n+j=o+(n+j) by omega]
 ·cases hj
theorem Mem.getSpan(hM:Mem γ B w lk)(hS:Sub lkS lk){u:Ty}{r n k:Nat}{j:Option Nat}{o':Out PV}{p:PV}(hg:Vm.getSpan lkS u r n k j=some o')(hp:o'.run=some p){b o:Nat}(ha:(γ r).at n k=some (b,o)):
  ∃cs v,w.rangeAt b (o+j.getD 0) cs∧cs.length=u.sz∧VRel γ (Dom lk) w (Owned B lk) p v∧(isRowT u=true→v= .agg cs.toArray)∧(isRowT u=false→cs=[v]):=by
 unfold Vm.getSpan at hg
 split at hg
 case h_2=>cases hg
 rename_i q t
 split at hg
 ·rename_i j
  simp only[Option.some.injEq]at hg
  subst hg
  simp only[Out.bind_some,Out.need_some,Out.guard_some,Out.ret_some,Bool.and_eq_true,beq_iff_eq,decide_eq_true_eq]at hp
  obtain⟨⟨t',xs⟩,hpl,⟨⟨hlf,hfl⟩,hz⟩,ys,hc,hle,rfl⟩:=hp
  obtain⟨e1,rfl⟩:=castL_some.1 hc
  dsimp only at e1 hle⊢
  subst e1
  obtain⟨cells,h1,h2,_⟩:=hM.placeA hS hpl ha (noneFree B lk [r])
  have h3:=span_rel hz (EL.det hfl h2:EL (DRel w (AllW (Owned B lk)) false t') xs cells []) hle
  obtain⟨v,h5,h6,h7,h8⟩:=expand_rel (γ:=γ) (D:=Dom lk) (W:=Owned B lk) (u:= .arr q t') (.inl rfl) h3
  exact⟨_,v,range_part h1,DRel.length _ _ _ _ h3,h5,h7,h8⟩
 ·split at hg
  ·rename_i t' xs m hx
   rw[Bool.cond_eq_ite]at hg
   split at hg
   ·rename_i ht
    simp only[decide_eq_true_eq]at ht
    subst ht
    simp only[Option.some.injEq]at hg
    subst hg
    simp only[Out.bind_some,Out.need_some,Out.guard_some,Out.ret_some,Bool.and_eq_true,beq_iff_eq,decide_eq_true_eq]at hp
    obtain⟨⟨⟨rfl,⟨hlf,hfl⟩,hz⟩,hq⟩,ys,hc,hle,rfl⟩:=hp
    obtain⟨e1,rfl⟩:=castL_some.1 hc
    have hq':0<q:=by simpa using hq
    obtain⟨v0,ev,hb⟩:=hM.rowBor (hS _ _ hx) (noneFree B lk [r])
    obtain⟨A,cap,rfl,_,h⟩:=hb
    dsimp only at hle⊢
    rw[ev]at ha
    obtain⟨⟨l,c,e2⟩,e3⟩:=at_row ha
    obtain⟨a,cells,rfl,h1,h2,h3,h4⟩:=h (by omega)
    simp only[Value.slice.injEq,Option.some.injEq]at e2
    obtain⟨rfl,_,_⟩:=e2
    have h5:=span_rel hz (EL.det hfl h4:EL (DRel w (AllW (Owned B lk)) false t') xs cells []) hle
    obtain⟨v,h6,h7,h8,h9⟩:=expand_rel (γ:=γ) (D:=Dom lk) (W:=Owned B lk) (u:= .arr q t') (.inl rfl) h5
    have hr:w.rangeAt b 0 cells:=fun j v hj=>by rw[←Addr.add_mid];exact h3 j v hj
    refine⟨_,v,?_,DRel.length _ _ _ _ h5,h6,h8,h9⟩
    have:=range_part (n:=n) (q:=q) hr
    rw[e3,hz,offL_zero]
    simpa using this
   ·cases hg
  ·cases hg
theorem load_span_sound(hE:EnvOK P e)(hM:Mem γ B w lk)(hS:Sub lkS lk){ty:TypeId}{t:Ty}(ht:tyOf e ty=some t){r n k:Nat}{j:Option Nat}{o':Out PV}{p:PV}(hg:getSpan lkS t r n k j=some o')(hp:o'.run=some p){v:Value}
  (hv:VRel γ (Dom lk) w (Owned B lk) (.ptr r n k j) v):Gives P γ B w lk (Instr.loadAt ty v) p:=by
 obtain⟨hd,b,o,ha,rfl⟩:=vrel_ptr.1 hv
 have hty:=hE.ty _ _ ht
 obtain⟨cs,v,h1,h2,h3,h4,h5⟩:=hM.getSpan hS hg hp ha
 refine⟨v,?_,h3⟩
 have:=run_loadVar_any w ⟨b,o+j.getD 0,none⟩ ty t hty cs v (fun i x hx=>by rw[Addr.add_mid];exact h1 i x hx) h2 h4 h5
 simp only[Instr.loadAt,Instr.sureAddr,Sem.run_bind,Sem.run_pure,Result.andThen_ok,this]
theorem run_arrayAt{ty el:TypeId}{q:Nat}(hu:P.underlying ty=some (.array q el)){a:Option Addr}{l c:Nat}(h:q≤l):(Instr.arrayAt ty (.slice a l c)).run P w= .ok (.pointer a) w:=by
 simp[Instr.arrayAt,run_underlying hu,show ¬l<q by omega]
theorem arrayAt_rf_sound(hE:EnvOK P e)(hM:Mem γ B w lk)(hS:Sub lkS lk){ty:TypeId}{q:Nat}{u:Ty}(ht:tyOf e ty=some (.arr q u)){r:Nat}{t:Ty}{xs:List t.den}{mo:Own}
  (hx:lkS r=some (.row t xs mo)) (hq:0<q) (hle:q≤xs.length) {v:Value} (hv:VRel γ (Dom lk) w (Owned B lk) (.rf r) v):Gives P γ B w lk (Instr.arrayAt ty v) (.ptr r 0 0 none):=by
 simp only[VRel,VRel0,LRel]at hv
 obtain⟨hd,v',t',e',e'',_⟩:=hv
 simp only[List.cons.injEq,and_true]at e''
 subst e''
 obtain⟨A,cap,e1,h1,hl,_⟩:=hM.rowVal (hS _ _ hx)
 rw[e']at e1
 cases e1
 obtain⟨g,rfl⟩:=h1 (by omega)
 obtain⟨el,hi,hel⟩:=(hE.ty _ _ ht: ∃el,Inf P (.arr q u) ty (.array q el)∧TyOK P u el)
 refine⟨_,run_arrayAt hi.und hle,vrel_ptr.2 ⟨hd,g,0,?_,rfl⟩⟩
 rw[e'];simp[G.at,rowAt_pos (show 0<cap by omega),offL_zero]
theorem arrayAt_av_sound(hE:EnvOK P e){ty:TypeId}{q:Nat}{u:Ty}(ht:tyOf e ty=some (.arr q u)){r n k off len:Nat}(hq:0<q)(hle:q≤len){v:Value}(hv:VRel γ (Dom lk) w (Owned B lk) (.av r n k off len) v):
  Gives P γ B w lk (Instr.arrayAt ty v) (.ptr r n k (some off)):=by
 simp only[VRel,VRel0,LRel]at hv
 obtain⟨hd,b,o,A,c',h1,e'',h2,_,h3,h4⟩:=hv
 simp only[List.cons.injEq,and_true]at e''
 subst e''
 obtain rfl:=h4 (by omega)
 obtain⟨el,hi,hel⟩:=(hE.ty _ _ ht: ∃el,Inf P (.arr q u) ty (.array q el)∧TyOK P u el)
 exact⟨_,run_arrayAt hi.und hle,vrel_ptr.2 ⟨hd,b,o,h1,rfl⟩⟩
theorem mark_sound(hE:EnvOK P e)(hM:Mem γ B w lk){ty:TypeId}(ht:tyOf e ty=some (.sl (.int .u8))){r:Nat}{xs:List UInt8}(hx:lk r=some (.row (.int .u8) xs .bare))(hp:0<xs.length){v:Value}(hv:VRel γ (Dom lk) w (Owned B lk) (.rf r) v):
  ∃w' γ' B',(convert ty ty v).run P w= .ok v w'∧Post γ B w lk [(r,some (.row (.int .u8) xs .full))] (.rf r) γ' B' w' v:=by
 have hv0:=hv
 simp only[VRel,VRel0,LRel]at hv
 obtain⟨hd,v',t',e',e'',h1c⟩:=hv
 simp only[List.cons.injEq,and_true]at e''
 subst e''
 obtain⟨v2,e2,hown⟩:=(hM.rel r _ hx).row
 have hbr: ∀g,rowAt v2=some g→Plain w g:=by
  have:=hM.rel r _ hx
  rw[e2]at this
  exact this.bare
 rw[e']at e2
 cases e2
 replace hown:OwnS w (RowR w (AllW (Owned B lk)) .bare (.int .u8)) 1 xs v (B r):=by
  rcases hown with⟨_,h⟩|⟨h0,_⟩
  ·exact h
  ·cases h0
 rcases hown with⟨A,_,h0,_⟩|⟨g,cap,cells,rest,rfl,h1,h2,h3,h4,h5,h6,h7⟩
 ·subst h0;simp at hp
 obtain⟨C,cty,hC⟩:=hbr g (rowAt_pos (by omega))
 obtain⟨el,hi,hel⟩:=(hE.ty _ _ ht: ∃el,Inf P (.sl (.int .u8)) ty (.slice el)∧TyOK P (.int .u8) el)
 have hue:=(hel:Inf P (.int .u8) el (.int .u8)).und
 have hsh:w.shape? g=some (cty,C.size):=by simp[World.shape?,hC]
 have hheap:(w.freeze ⟨g,C.size,none⟩ 1).heap[g]?=some (.cells C cty (C.size,C.size+1)):=by
  simp[World.freeze,Array.getElem?_modify,hC]
 have hother: ∀k,k≠g→(w.freeze ⟨g,C.size,none⟩ 1).heap[k]?=w.heap[k]?:=fun k hk=>by
  simp[World.freeze,Array.getElem?_modify,Ne.symm hk]
 have hcell: ∀j,(w.freeze ⟨g,C.size,none⟩ 1).cell? ⟨g,j,none⟩=w.cell? ⟨g,j,none⟩:=fun j=>by
  unfold World.cell?;simp[hheap,hC]
 have hput:=hM.put hx (x':= .row (.int .u8) xs .full) (w':=w.freeze ⟨g,C.size,none⟩ 1) (by simp[World.freeze])
  (fun k hk=>hother k fun ek=>hk (by rw[h7,ek];simp)) rfl rfl rfl (fun hK=>by
   rw[e']
   refine RootRel.mkRow (by decide) (.inr ⟨g,cap,cells,rest,rfl,h1,h2,by simpa[World.freeze]using h3,fun j u hj=>by rw[hcell];exact h4 j u hj,fun j hj=>?_,?_,h7⟩)
   ·obtain⟨q1,q2⟩:=h5 j hj
    rw[hcell]
    refine⟨q1,?_⟩
    have hlt:0+j<C.size:=by
     have:w.cell? ⟨g,0+j,none⟩=C[0+j]?:=by unfold World.cell?;simp[hC]
     rw[this]at q1
     exact(Array.getElem?_eq_some_iff.1 (Option.isSome_iff_exists.1 q1).choose_spec).1
    unfold World.frozen?
    simp[hheap]
    omega
   ·rw[RowR.deep rfl]at h6⊢
    exact EL.mono (fun x c b _ hb hr=>(DRel.flat (m':=true) _ _ _ _ rfl hr).2|>fun h=>by
     obtain⟨rfl,_⟩:=DRel.flat (w':=w) (O':=fun _=>False) (m':=true) _ _ _ _ rfl hr
     exact h) h6)
 refine⟨_,γ,B,?_,⟨by rw[updF_one];exact hput.1,kp_bad (by simp) hput.2,?_⟩⟩
 ·simp[convert,run_underlying hi.und,run_underlying hue,markStringish,shape,Sem.run,hsh]
 ·rw[updF_one]
  simp only[VRel,VRel0,LRel]
  exact⟨(setF_dom hx r).2 hd,_,_,e',rfl,h1c⟩
end
end Go.Vm
namespace Go.Vm
open Go
structure InsW(P:Program)(f:FuncId)(k:Nat)(tS tI ov:Nat):Prop where
 fin: ∀(w:World) (A V:Option Addr) (n c m vc:Nat) (v':Value) (w':World),0<m→n≤c→c≤9223372036854775807→(Builtin.append_ #[tS,tS] tS #[.slice A n c,.slice V m vc]).run P w= .ok v' w'→
  Calls P f #[.slice A n c,.int .i64 n,.slice V m vc] w fun e w2=>e= .returned v'∧w2=w'
 shift: ∀(w:World) (V:Option Addr) (b n c i m vc:Nat) (r1 r2:Value) (w1 w2:World),0<m→i<n→n+m≤c→c≤9223372036854775807→
  (∀lb cb,(callFunc ov #[.slice V m vc,.slice (some ⟨b,(i+m)*k,none⟩) lb cb]).run P w= .ok (.value (.bool false)) w)→
  (∀ty dc sc,(Builtin.copy_ #[tS,tS] ty #[.slice (some ⟨b,(i+m)*k,none⟩) (n+m-(i+m)) dc,.slice (some ⟨b,i*k,none⟩) (n+m-i) sc]).run P w.drew= .ok r1 w1)→
  (∀ty dc,(Builtin.copy_ #[tS,tS] ty #[.slice (some ⟨b,i*k,none⟩) (n+m-i) dc,.slice V m vc]).run P w1= .ok r2 w2)→
  Calls P f #[.slice (some ⟨b,0,none⟩) n c,.int .i64 i,.slice V m vc] w fun e w'=>e= .returned (.slice (some ⟨b,0,none⟩) (n+m) c)∧w'=w2
 grow: ∀(w:World) (V:Option Addr) (b n c i m vc g G:Nat) (r1 r2:Value) (w0 w1 w2:World),0<m→i<n→n≤c→c<n+m→n+m≤140737488355328→n+m≤G→G≤9223372036854775807→
  (∀ty,(Builtin.append_ #[tS,tI] ty #[.slice (some ⟨b,0,none⟩) i c,.int .i64 ((n:Int)+(m:Int)-(i:Int))]).run P w= .ok (.slice (some ⟨g,0,none⟩) (n+m) G) w0)→
  (∀ty dc,(Builtin.copy_ #[tS,tS] ty #[.slice (some ⟨g,i*k,none⟩) (n+m-i) dc,.slice V m vc]).run P w0= .ok r1 w1)→
  (∀ty dc sc,(Builtin.copy_ #[tS,tS] ty #[.slice (some ⟨g,(i+m)*k,none⟩) (n+m-(i+m)) dc,.slice (some ⟨b,i*k,none⟩) (n-i) sc]).run P w1.drew= .ok r2 w2)→
  Calls P f #[.slice (some ⟨b,0,none⟩) n c,.int .i64 i,.slice V m vc] w fun e w'=>e= .returned (.slice (some ⟨g,0,none⟩) (n+m) G)∧w'=w2
 apart: ∀(w:World) (a b:Addr) (la ca lb cb:Nat),a.block≠b.block→ ∀(tA tB:TypeId) (kA kB:Nat),w.shape? a.block=some (tA,kA)→w.shape? b.block=some (tB,kB)→kB≠0→
  w.frozen? a=false→w.frozen? {block:=a.block,off:=kA}=false→(callFunc ov #[.slice (some a) la ca,.slice (some b) lb cb]).run P w= .ok (.value (.bool false)) w
section
variable {γ:Nat→G} {B:Nat→List Nat} {w:World} {lk lkS:Look} {P:Program} {e:Env} {ty:TypeId}
theorem ins_cells{g cap i n m k:Nat}{cells news:List Value}(hra:w.rangeAt g 0 cells)(hth:w.there g 0 (cap*k))(hcl:cells.length=n*k)(hnl:news.length=m*k)(hi:i≤n)(hroom:n+m≤cap):
  ((w.setCells g ((i+m)*k) (cells.drop (i*k))).setCells g (i*k) news).rangeAt g 0 (cells.take (i*k)++news++cells.drop (i*k))∧
   ((w.setCells g ((i+m)*k) (cells.drop (i*k))).setCells g (i*k) news).there g 0 (cap*k)∧
   w.there g ((i+m)*k) (cells.drop (i*k)).length∧(w.setCells g ((i+m)*k) (cells.drop (i*k))).there g (i*k) news.length:=by
 have h1:i*k≤n*k:=Nat.mul_le_mul_right _ hi
 have h2:(n+m)*k≤cap*k:=Nat.mul_le_mul_right _ hroom
 have e1:(i+m)*k=i*k+m*k:=Nat.add_mul _ _ _
 have e2:(n+m)*k=n*k+m*k:=Nat.add_mul _ _ _
 have htl:(cells.take (i*k)).length=i*k:=by rw[List.length_take];omega
 have hdl:(cells.drop (i*k)).length=n*k-i*k:=by rw[List.length_drop];omega
 have t1:w.there g ((i+m)*k) (cells.drop (i*k)).length:=there_part hth (by omega) (by omega)
 have t2:(w.setCells g ((i+m)*k) (cells.drop (i*k))).there g (i*k) news.length:=there_part (World.there_setCells hth _ _ _) (by omega) (by omega)
 have r0:w.rangeAt g 0 (cells.take (i*k)):=fun j v hj=>hra j v (by
  rw[List.getElem?_take]at hj
  split at hj
  ·exact hj
  ·cases hj)
 have r1:=World.rangeAt_setCells_apart r0 g ((i+m)*k) (cells.drop (i*k)) (by right;left;omega)
 have r2:=World.rangeAt_setCells_apart r1 g (i*k) news (by right;left;omega)
 have s1:=World.rangeAt_setCells_same w g _ _ t1
 have s2:=World.rangeAt_setCells_apart s1 g (i*k) news (by right;right;omega)
 have q:=World.rangeAt_setCells_same (w.setCells g ((i+m)*k) (cells.drop (i*k))) g _ _ t2
 refine⟨rangeAt_append (rangeAt_append r2 (by rw[htl,Nat.zero_add];exact q)) ?_,World.there_setCells (World.there_setCells hth _ _ _) _ _ _,t1,t2⟩
 rw[List.length_append,htl,hnl,Nat.zero_add,←e1]
 exact s2
theorem flat_EL{w':World}{O':Nat→Prop}{m:Own}{t:Ty}(hf:t.flat=true){X:List t.den}{cells:List Value}{O:Nat→Prop}(h:EL (DRel w O false t) X cells []):EL (RowR w' O' m t) X cells []:=
 EL.mono (fun x c b _ _ hx=>by
  obtain rfl:=DRel.noblocks _ _ _ _ hx
  exact flat_rowR hf (DRel.flat (w':=w') (O':=fun _=>False) (m':=false) _ _ _ _ hf hx).2) h
theorem Plain.frozen{g:Nat}(h:Plain w g)(j:Nat):w.frozen? ⟨g,j,none⟩=false:=by
 obtain⟨C,cty,hC⟩:=h
 unfold World.frozen?
 simp[hC]
theorem ins_shift_sound{f:FuncId}{tS tI ov:Nat}{t:Ty}(hI:InsW P f t.sz tS tI ov)(hE:EnvOK P e)(hM:Mem γ B w lk){id:Nat}(hid:lk id=none)(ht:tyOf e tS=some (.sl t))(hf:t.flat=true)(hk:0<t.sz)
  {r:Nat} {X Y:List t.den} {m:Own} {A:Option Addr} {cap:Nat} {cells:List Value} {rest:List Nat} (ho:Old γ B w lk [r] t X m A cap cells rest)
  {g' vc:Nat} {news:List Value} {O:Nat→Prop} (hnews:w.rangeAt g' 0 news) (hN:EL (DRel w O false t) Y news []) (hpl:Plain w g') (hne: ∀g,A=some ⟨g,0,none⟩→g'≠g) (hY:0<Y.length) {i:Nat} (hi:i<X.length) (hroom:X.length+Y.length≤cap):
  Calls P f #[.slice A X.length cap,.int .i64 i,.slice (some ⟨g',0,none⟩) Y.length vc] w fun e w'=> ∃v' γ' B',e= .returned v'∧Post γ B w lk [(r,none),(id,some (.row t (X.take i++Y++X.drop i) .full))] (.rf id) γ' B' w' v':=by
 obtain⟨hrest,hXel⟩:=ho.flat hf
 subst hrest
 have hcl:=ho.length
 have hnl:news.length=Y.length*t.sz:=EL.length (fun x c b h=>DRel.length _ _ _ _ h) hN
 rcases ho.base with⟨h0,_⟩|⟨g,rfl,⟨l,hl,hgB⟩,hg,hra,hth,_⟩
 ·rw[h0]at hi;simp at hi
 obtain rfl:l=r:=by simpa using hl
 have hgg:=hne g rfl
 obtain⟨el,hin,hel⟩:=(hE.ty _ _ ht: ∃el,Inf P (.sl t) tS (.slice el)∧TyOK P t el)
 obtain⟨inf,q1,q2⟩:=TyOK.info hel
 have h1:i*t.sz≤X.length*t.sz:=Nat.mul_le_mul_right _ (by omega)
 have hdl:(cells.drop (i*t.sz)).length=(X.length-i)*t.sz:=by rw[List.length_drop,hcl,Nat.sub_mul]
 obtain⟨c1,c2,c3,c4⟩:=ins_cells (w:=w.drew) (i:=i) (m:=Y.length) (news:=news) hra hth hcl hnl (by omega) hroom
 have hX0:EL (DRel w (fun _=>False) false t) X cells []:=EL.det hf (by
  have:=hXel .full (fun _=>False)
  rw[RowR.deep rfl]at this
  exact this)
 have hone: ∀v∈cells,v.oneCell'=true:=EL.one (fun x c b h=>DRel.one _ _ _ _ h) hX0
 have honeN: ∀v∈news,v.oneCell'=true:=EL.one (fun x c b h=>DRel.one _ _ _ _ h) hN
 have hpos:0<news.length:=by rw[hnl];exact Nat.mul_pos hY hk
 have hposX:0<cells.length:=by rw[hcl];exact Nat.mul_pos (by omega) hk
 have hov: ∀lb cb,(callFunc ov #[.slice (some ⟨g',0,none⟩) Y.length vc,.slice (some ⟨g,(i+Y.length)*t.sz,none⟩) lb cb]).run P w= .ok (.value (.bool false)) w:=fun lb cb=>by
  obtain⟨C,cty,hC⟩:=hpl
  have hs: ∃ty n,w.shape? g=some (ty,n)∧n≠0:=by
   have hc0:=hra 0 _ (List.getElem?_eq_getElem hposX)
   unfold World.cell? at hc0
   split at hc0
   ·rename_i c ce fr hh
    refine⟨ce,c.size,by simp[World.shape?,hh],fun h0=>?_⟩
    have:c= #[]:=Array.size_eq_zero_iff.1 h0
    subst this
    simp at hc0
   ·cases hc0
  obtain⟨ty2,n2,hs2,hn2⟩:=hs
  exact hI.apart w ⟨g',0,none⟩ ⟨g,_,none⟩ _ _ _ _ hgg cty ty2 C.size n2 (by simp[World.shape?,hC]) hs2 hn2 (Plain.frozen ⟨C,cty,hC⟩ 0) (Plain.frozen ⟨C,cty,hC⟩ _)
 have hcp1: ∀ty dc sc,(Builtin.copy_ #[tS,tS] ty #[.slice (some ⟨g,(i+Y.length)*t.sz,none⟩) (X.length+Y.length-(i+Y.length)) dc,.slice (some ⟨g,i*t.sz,none⟩) (X.length+Y.length-i) sc]).run P w.drew= .ok (.int .i64 ((min (X.length+Y.length-i) (X.length+Y.length-(i+Y.length)):Nat):Int)) (w.drew.setCells g ((i+Y.length)*t.sz) (cells.drop (i*t.sz))):=fun ty dc sc=>by
  refine run_copy_gen (P:=P) (w:=w.drew) hin.und q1 (N:=X.length+Y.length-i) (news:=cells.drop (i*t.sz)) (by simp[Builtin.lenOf]) ?_ (some _) (storeCells_there (P:=P) c3 (fun v hv=>hone v (List.mem_of_mem_drop hv)))
  rw[show min (X.length+Y.length-i) (X.length+Y.length-(i+Y.length))=X.length-i by omega,q2]
  refine run_firstCells_some (P:=P) w.drew t.sz (X.length-i) ⟨g,i*t.sz,none⟩ _ _ _ hdl (fun j v hj=>?_)
  rw[List.getElem?_drop]at hj
  have:=hra _ v hj
  rw[Nat.zero_add]at this
  rw[Addr.add_mid]
  exact this
 have hcp2: ∀ty dc,(Builtin.copy_ #[tS,tS] ty #[.slice (some ⟨g,i*t.sz,none⟩) (X.length+Y.length-i) dc,.slice (some ⟨g',0,none⟩) Y.length vc]).run P (w.drew.setCells g ((i+Y.length)*t.sz) (cells.drop (i*t.sz)))= .ok (.int .i64 ((min Y.length (X.length+Y.length-i):Nat):Int)) ((w.drew.setCells g ((i+Y.length)*t.sz) (cells.drop (i*t.sz))).setCells g (i*t.sz) news):=fun ty dc=>by
  refine run_copy_gen (P:=P) hin.und q1 (N:=Y.length) (news:=news) (by simp[Builtin.lenOf]) ?_ (some _) (storeCells_there (P:=P) c4 honeN)
  rw[show min Y.length (X.length+Y.length-i)=Y.length by omega,q2]
  refine run_firstCells_some (P:=P) _ t.sz Y.length ⟨g',0,none⟩ _ _ _ hnl (fun j v hj=>?_)
  have:=World.rangeAt_setCells_apart (w:=w.drew) hnews g ((i+Y.length)*t.sz) (cells.drop (i*t.sz)) (.inl hgg) j v hj
  rw[Addr.add_mid]
  simpa using this
 have hZ:(X.take i++Y++X.drop i).length=X.length+Y.length:=by simp;omega
 obtain⟨b1,b2,eb,e1,e2⟩:=EL.take_drop (fun x c b h=>DRel.length _ _ _ _ h) i hX0
 obtain⟨rfl,rfl⟩:b1=[]∧b2=[]:=by simpa using eb.symm
 have hZel:EL (DRel w (fun _=>False) false t) (X.take i++Y++X.drop i) (cells.take (i*t.sz)++news++cells.drop (i*t.sz)) []:=EL.append (EL.append e1 (EL.det hf hN)) e2
 obtain⟨o1,o2,o3⟩:=os_setCells (cells.drop (i*t.sz)) w.drew g ((i+Y.length)*t.sz)
 obtain⟨o4,o5,o6⟩:=os_setCells news (w.drew.setCells g ((i+Y.length)*t.sz) (cells.drop (i*t.sz))) g (i*t.sz)
 have hsz:((w.drew.setCells g ((i+Y.length)*t.sz) (cells.drop (i*t.sz))).setCells g (i*t.sz) news).heap.size=w.heap.size:=by rw[size_setCells,size_setCells];rfl
 obtain⟨γ',B',hP⟩:=hM.grown hid (L:=[l]) ho.known (Z:=X.take i++Y++X.drop i) (m:= .full) (by decide) (g:=g) (cap:=cap) (w':=(w.drew.setCells g ((i+Y.length)*t.sz) (cells.drop (i*t.sz))).setCells g (i*t.sz) news)
  (cells:=cells.take (i*t.sz)++news++cells.drop (i*t.sz)) (rest:=[]) (Nat.le_of_eq hsz.symm) (fun k _ hk=>by rw[heap_setCells _ _ _ _ hk,heap_setCells _ _ _ _ hk];rfl) (o4.trans o1) (o5.trans o2) (o6.trans o3)
  (.inl ⟨l,by simp,hgB⟩) (by rw[hsz];exact hg) (by simp) (by simp) (by rw[hZ];exact hroom) ho.cap2 c1 c2
  (fun γ' B' lk' w' bad _ _ _ _=>flat_EL hf hZel)
 rw[hZ]at hP
 refine(hI.shift w (some ⟨g',0,none⟩) g X.length cap i Y.length vc _ _ _ _ hY hi hroom (by have:=ho.cap2;simpa[maxLen]using this) hov hcp1 hcp2).mono ?_
 rintro e' w' ⟨rfl,rfl⟩
 exact⟨_,γ',B',rfl,hP⟩
end
end Go.Vm
namespace Go.Vm
open Go
section
variable {γ:Nat→G} {B:Nat→List Nat} {w:World} {lk lkS:Look} {P:Program} {e:Env} {ty:TypeId}
theorem ins_grow_sound{f:FuncId}{tS tI ov:Nat}{t:Ty}(hI:InsW P f t.sz tS tI ov)(hE:EnvOK P e)(hM:Mem γ B w lk){id:Nat}(hid:lk id=none)(ht:tyOf e tS=some (.sl t))(htI:tyOf e tI=some (.int .i64))(hf:t.flat=true)(hk:0<t.sz)
  {r:Nat} {X Y:List t.den} {m:Own} {A:Option Addr} {cap:Nat} {cells:List Value} {rest:List Nat} (ho:Old γ B w lk [r] t X m A cap cells rest)
  {g' vc:Nat} {news:List Value} {O:Nat→Prop} (hg':g'<w.heap.size) (hnews:w.rangeAt g' 0 news) (hN:EL (DRel w O false t) Y news []) (hY:0<Y.length) {i:Nat} (hi:i<X.length) (hroom:cap<X.length+Y.length) (hby:0<t.by) (hfit:(X.length+Y.length)*t.by≤140737488355328):
  Calls P f #[.slice A X.length cap,.int .i64 i,.slice (some ⟨g',0,none⟩) Y.length vc] w fun e w'=> ∃v' γ' B',e= .returned v'∧Post γ B w lk [(r,none),(id,some (.row t (X.take i++Y++X.drop i) .full))] (.rf id) γ' B' w' v':=by
 obtain⟨hrest,hXel⟩:=ho.flat hf
 subst hrest
 have hcl:=ho.length
 have hnl:news.length=Y.length*t.sz:=EL.length (fun x c b h=>DRel.length _ _ _ _ h) hN
 rcases ho.base with⟨h0,_⟩|⟨g,rfl,⟨l,hl,hgB⟩,hg,hra,hth,_⟩
 ·rw[h0]at hi;simp at hi
 obtain rfl:l=r:=by simpa using hl
 obtain⟨el,hin,hel⟩:=(hE.ty _ _ ht: ∃el,Inf P (.sl t) tS (.slice el)∧TyOK P t el)
 have huI:=(hE.ty _ _ htI:Inf P (.int .i64) tI (.int .i64)).und
 obtain⟨d,⟨_,inf,z,q1,q2,q3,q4,q5,_⟩,_⟩:=TyOK.inf hel
 have hzs:z.cells.size=t.sz:=by
  have:=DRel.length (w:=w) (O:=fun _=>False) (m:=true) _ _ _ _ (q5.data t _)
  simpa using this
 have h1:i*t.sz≤X.length*t.sz:=Nat.mul_le_mul_right _ (by omega)
 have hdl:(cells.drop (i*t.sz)).length=(X.length-i)*t.sz:=by rw[List.length_drop,hcl,Nat.sub_mul]
 have htl:(cells.take (i*t.sz)).length=i*t.sz:=by rw[List.length_take];omega
 have hX0:EL (DRel w (fun _=>False) false t) X cells []:=EL.det hf (by
  have:=hXel .full (fun _=>False)
  rw[RowR.deep rfl]at this
  exact this)
 have hone: ∀v∈cells,v.oneCell'=true:=EL.one (fun x c b h=>DRel.one _ _ _ _ h) hX0
 have honeN: ∀v∈news,v.oneCell'=true:=EL.one (fun x c b h=>DRel.one _ _ _ _ h) hN
 have hmaxl:X.length+Y.length≤140737488355328:=Nat.le_trans (Nat.le_mul_of_pos_right _ hby) hfit
 have hle:=ho.cap1
 have hfit':Builtin.nextslicecap (X.length+Y.length) cap*inf.bytes≤281474976710656:=growslice_fits hroom (Nat.le_trans (Nat.mul_le_mul_left _ q3) hfit)
 have hold:(Builtin.firstCells inf.size i (.slice (some ⟨g,0,none⟩) i cap)).run P w.drew= .ok (cells.take (i*t.sz)).toArray w.drew:=by
  rw[q2]
  refine run_firstCells_some (P:=P) w.drew t.sz i ⟨g,0,none⟩ _ _ _ htl (fun j v hj=>?_)
  rw[List.getElem?_take]at hj
  split at hj
  ·have:=hra _ v hj
   rw[Addr.add_mid]
   simpa using this
  ·cases hj
 have hsum:i+(X.length+Y.length-i)=X.length+Y.length:=by omega
 have hkk:(X.length:Int)+(Y.length:Int)-(i:Int)=((X.length+Y.length-i:Nat):Int):=by omega
 have hb2:(X.length+Y.length-i)*inf.bytes≤281474976710656:=by
  have e1:(X.length+Y.length-i)*inf.bytes≤(X.length+Y.length)*inf.bytes:=Nat.mul_le_mul_right _ (by omega)
  have e2:(X.length+Y.length)*inf.bytes≤(X.length+Y.length)*t.by:=Nat.mul_le_mul_left _ q3
  omega
 have hrz0:=fun rt=>Lib.run_append_grow_zeros (P:=P) w tS tI rt el inf z .i64 .i64 hin.und huI q1 q4 (some ⟨g,0,none⟩) i cap (cells.take (i*t.sz)) hold (X.length+Y.length-i) (by omega) (by rw[q2];exact hk) (by omega) (by omega) hb2 (by rw[hsum];exact hfit')
 rw[hsum]at hrz0
 generalize hG:grownCap w (X.length+Y.length) cap el=G at hrz0
 have hn1:X.length+Y.length≤G:=by rw[←hG];exact grownCap_ge _ _ _ _
 have hn2:G≤maxLen:=by rw[←hG];exact grownCap_le_maxLen _ _ _ _ (by simp only[maxLen];omega)
 generalize hR:(cells.take (i*t.sz)).toArray++Builtin.zeroCells z.cells (X.length+Y.length-i)++Builtin.zeroCells z.cells (G-(X.length+Y.length))=ROW at hrz0
 have hRs:ROW.size=G*t.sz:=by
  have e1:G*t.sz=i*t.sz+(X.length+Y.length-i)*t.sz+(G-(X.length+Y.length))*t.sz:=by rw[←Nat.add_mul,←Nat.add_mul];congr 1;omega
  rw[e1,←hR]
  simp[Builtin.zeroCells,hzs]
  omega
 have hmore:=More.drew w (.cells ROW el)
 have r0:(w.drew.alloc (.cells ROW el)).rangeAt w.heap.size 0 (cells.take (i*t.sz)):=fun j v hj=>by
  have hjl:=(List.getElem?_eq_some_iff.1 hj).1
  rw[Nat.zero_add,hmore.cell,←hR,Array.append_assoc,Array.getElem?_append_left (by simpa using hjl)]
  simpa using hj
 have th:(w.drew.alloc (.cells ROW el)).there w.heap.size 0 (G*t.sz):=fun j hj=>by
  rw[Nat.zero_add,hmore.cell,hmore.frozen]
  exact⟨by rw[Array.getElem?_eq_getElem (by rw[hRs];exact hj)];rfl,by simp⟩
 generalize hW0:w.drew.alloc (.cells ROW el)=W0 at hmore r0 th hrz0
 have e1:(i+Y.length)*t.sz=i*t.sz+Y.length*t.sz:=Nat.add_mul _ _ _
 have h2:(X.length+Y.length)*t.sz≤G*t.sz:=Nat.mul_le_mul_right _ hn1
 have e2:(X.length+Y.length)*t.sz=X.length*t.sz+Y.length*t.sz:=Nat.add_mul _ _ _
 have hd2:(X.length-i)*t.sz=X.length*t.sz-i*t.sz:=Nat.sub_mul _ _ _
 have t1:W0.there w.heap.size (i*t.sz) news.length:=there_part th (by omega) (by omega)
 have t2:(W0.setCells w.heap.size (i*t.sz) news).there w.heap.size ((i+Y.length)*t.sz) (cells.drop (i*t.sz)).length:=there_part (World.there_setCells th _ _ _) (by omega) (by omega)
 have r1:=World.rangeAt_setCells_apart r0 w.heap.size (i*t.sz) news (by right;left;omega)
 have r2:=World.rangeAt_setCells_apart (w:=(W0.setCells w.heap.size (i*t.sz) news).drew) r1 w.heap.size ((i+Y.length)*t.sz) (cells.drop (i*t.sz)) (by right;left;omega)
 have s1:=World.rangeAt_setCells_same W0 w.heap.size _ _ t1
 have s2:=World.rangeAt_setCells_apart (w:=(W0.setCells w.heap.size (i*t.sz) news).drew) s1 w.heap.size ((i+Y.length)*t.sz) (cells.drop (i*t.sz)) (by right;left;omega)
 have s3:=World.rangeAt_setCells_same (W0.setCells w.heap.size (i*t.sz) news).drew w.heap.size _ _ t2
 have c1:((W0.setCells w.heap.size (i*t.sz) news).drew.setCells w.heap.size ((i+Y.length)*t.sz) (cells.drop (i*t.sz))).rangeAt w.heap.size 0 (cells.take (i*t.sz)++news++cells.drop (i*t.sz)):=by
  refine rangeAt_append (rangeAt_append r2 (by rw[htl,Nat.zero_add];exact s2)) ?_
  rw[List.length_append,htl,hnl,Nat.zero_add,←e1]
  exact s3
 have c2:((W0.setCells w.heap.size (i*t.sz) news).drew.setCells w.heap.size ((i+Y.length)*t.sz) (cells.drop (i*t.sz))).there w.heap.size 0 (G*t.sz):=World.there_setCells (w:=(W0.setCells w.heap.size (i*t.sz) news).drew) (World.there_setCells th _ _ _) _ _ _
 have old: ∀{k:Nat} {cs:List Value} {o:Nat},k<w.heap.size→w.rangeAt k o cs→W0.rangeAt k o cs:=fun{k cs o} hk' h j v hj=>by
  rw[World.cell?_of_block (a:=⟨k,o+j,none⟩) (hmore.old hk')]
  exact h j v hj
 have hcpA: ∀rt dc,(Builtin.copy_ #[tS,tS] rt #[.slice (some ⟨w.heap.size,i*t.sz,none⟩) (X.length+Y.length-i) dc,.slice (some ⟨g',0,none⟩) Y.length vc]).run P W0= .ok (.int .i64 ((min Y.length (X.length+Y.length-i):Nat):Int)) (W0.setCells w.heap.size (i*t.sz) news):=fun rt dc=>by
  refine run_copy_gen (P:=P) hin.und q1 (N:=Y.length) (news:=news) (by simp[Builtin.lenOf]) ?_ (some _) (storeCells_there (P:=P) t1 honeN)
  rw[show min Y.length (X.length+Y.length-i)=Y.length by omega,q2]
  refine run_firstCells_some (P:=P) _ t.sz Y.length ⟨g',0,none⟩ _ _ _ hnl (fun j v hj=>?_)
  have:=old hg' hnews j v hj
  rw[Addr.add_mid]
  simpa using this
 have hcpB: ∀rt dc sc,(Builtin.copy_ #[tS,tS] rt #[.slice (some ⟨w.heap.size,(i+Y.length)*t.sz,none⟩) (X.length+Y.length-(i+Y.length)) dc,.slice (some ⟨g,i*t.sz,none⟩) (X.length-i) sc]).run P (W0.setCells w.heap.size (i*t.sz) news).drew= .ok (.int .i64 ((min (X.length-i) (X.length+Y.length-(i+Y.length)):Nat):Int)) ((W0.setCells w.heap.size (i*t.sz) news).drew.setCells w.heap.size ((i+Y.length)*t.sz) (cells.drop (i*t.sz))):=fun rt dc sc=>by
  refine run_copy_gen (P:=P) (w:=(W0.setCells w.heap.size (i*t.sz) news).drew) hin.und q1 (N:=X.length-i) (news:=cells.drop (i*t.sz)) (by simp[Builtin.lenOf]) ?_ (some _) (storeCells_there (P:=P) t2 (fun v hv=>hone v (List.mem_of_mem_drop hv)))
  rw[show min (X.length-i) (X.length+Y.length-(i+Y.length))=X.length-i by omega,q2]
  refine run_firstCells_some (P:=P) _ t.sz (X.length-i) ⟨g,i*t.sz,none⟩ _ _ _ hdl (fun j v hj=>?_)
  rw[List.getElem?_drop]at hj
  have:=World.rangeAt_setCells_apart (old hg hra) w.heap.size (i*t.sz) news (.inl (by omega)) _ v hj
  rw[Nat.zero_add]at this
  rw[Addr.add_mid]
  exact this
 have hZ:(X.take i++Y++X.drop i).length=X.length+Y.length:=by simp;omega
 obtain⟨b1,b2,eb,f1,f2⟩:=EL.take_drop (fun x c b h=>DRel.length _ _ _ _ h) i hX0
 obtain⟨rfl,rfl⟩:b1=[]∧b2=[]:=by simpa using eb.symm
 have hZel:EL (DRel w (fun _=>False) false t) (X.take i++Y++X.drop i) (cells.take (i*t.sz)++news++cells.drop (i*t.sz)) []:=EL.append (EL.append f1 (EL.det hf hN)) f2
 obtain⟨o1,o2,o3⟩:=os_setCells news W0 w.heap.size (i*t.sz)
 obtain⟨o4,o5,o6⟩:=os_setCells (cells.drop (i*t.sz)) (W0.setCells w.heap.size (i*t.sz) news).drew w.heap.size ((i+Y.length)*t.sz)
 have hsz:((W0.setCells w.heap.size (i*t.sz) news).drew.setCells w.heap.size ((i+Y.length)*t.sz) (cells.drop (i*t.sz))).heap.size=w.heap.size+1:=by
  rw[size_setCells]
  show(W0.setCells w.heap.size (i*t.sz) news).heap.size=_
  rw[size_setCells,hmore.size]
 obtain⟨γ',B',hP⟩:=hM.grown hid (L:=[l]) ho.known (Z:=X.take i++Y++X.drop i) (m:= .full) (by decide) (g:=w.heap.size) (cap:=G) (w':=(W0.setCells w.heap.size (i*t.sz) news).drew.setCells w.heap.size ((i+Y.length)*t.sz) (cells.drop (i*t.sz)))
  (cells:=cells.take (i*t.sz)++news++cells.drop (i*t.sz)) (rest:=[]) (by rw[hsz];omega) (fun k hk' _=>by
   rw[heap_setCells _ _ _ _ (show k≠w.heap.size by omega)]
   show(W0.setCells w.heap.size (i*t.sz) news).heap[k]?=_
   rw[heap_setCells _ _ _ _ (show k≠w.heap.size by omega)]
   exact hmore.old hk') (o4.trans (o1.trans hmore.os)) (o5.trans (o2.trans hmore.output)) (o6.trans (o3.trans hmore.tape))
  (.inr (Nat.le_refl _)) (by rw[hsz];omega) (by simp) (by simp) (by rw[hZ];exact hn1) hn2 c1 c2
  (fun γ' B' lk' w' bad _ _ _ _=>flat_EL hf hZel)
 rw[hZ]at hP
 refine(hI.grow w (some ⟨g',0,none⟩) g X.length cap i Y.length vc w.heap.size G _ _ _ _ _ hY hi hle hroom hmaxl hn1 (by simpa[maxLen]using hn2) (fun rt=>by rw[hkk];exact hrz0 rt) hcpA hcpB).mono ?_
 rintro e' w' ⟨rfl,rfl⟩
 exact⟨_,γ',B',rfl,hP⟩
end
end Go.Vm
namespace Go.Vm
open Go
section
variable {γ:Nat→G} {B:Nat→List Nat} {w:World} {lk lkS:Look} {P:Program} {e:Env} {ty:TypeId}
theorem insV_sound{f:FuncId}{tS tI ov:Nat}{t:Ty}(hI:InsW P f t.sz tS tI ov)(hE:EnvOK P e)(hM:Mem γ B w lk)(hS:Sub lkS lk){id:Nat}(ht:tyOf e tS=some (.sl t))(htI:tyOf e tI=some (.int .i64))(hf:t.flat=true)(hby:0<t.by)(hk:0<t.sz)
  {a b p:PV} {i:Nat} {up:Ups} (hid: ∀x,(id,some x)∈up→lk id=none) (h:(insV lkS t id a i b).run=some (p,up)) {va vb:Value} (hva:VRel γ (Dom lk) w (Owned B lk) a va) (hvb:VRel γ (Dom lk) w (Owned B lk) b vb):
  Calls P f #[va,.int .i64 i,vb] w fun e' w'=> ∃v' γ' B',e'= .returned v'∧Post γ B w lk up p γ' B' w' v':=by
 unfold insV at h
 split at h
 case h_2=>simp[Out.run]at h
 rename_i r'
 split at h
 case h_2=>simp[Out.run]at h
 rename_i t' ys0 hx'
 simp only[Out.bind_some,Out.guard_some,decide_eq_true_eq]at h
 obtain⟨ys,hc,hY,h⟩:=h
 obtain⟨e1,rfl⟩:=castL_some.1 hc
 subst e1
 dsimp only at hY h
 have hblt:Nat.blt 0 t'.by=true:=by simpa using hby
 obtain⟨A',vc,news,rest',rfl,ho'⟩:=hM.oldRow (hS _ _ hx') (by decide) hvb
 obtain⟨hr',hY1⟩:=ho'.flat hf
 subst hr'
 have hN:EL (DRel w (fun _=>False) false t') ys0 news []:=EL.det hf (by
  have:=hY1 .full (fun _=>False)
  rw[RowR.deep rfl]at this
  exact this)
 obtain⟨g',rfl,hgB',hg',hnews,hgamma⟩: ∃g',A'=some ⟨g',0,none⟩∧g'∈B r'∧g'<w.heap.size∧w.rangeAt g' 0 news∧True:=by
  rcases ho'.base with⟨h0,_⟩|⟨g',rfl,⟨l,hl,hB⟩,h2,h3,_⟩
  ·rw[h0]at hY;simp at hY
  ·obtain rfl:l=r':=by simpa using hl
   exact⟨g',rfl,hB,h2,h3,trivial⟩
 have hpl:Plain w g':=by
  have hrel:=hM.rel r' _ (hS _ _ hx')
  have hv:=hvb
  simp only[VRel,VRel0,LRel]at hv
  obtain⟨_,v',t2,e1,e2,_⟩:=hv
  simp only[List.cons.injEq,and_true]at e2
  subst e2
  rw[e1]at hrel
  exact hrel.bare g' (rowAt_pos (by have:=ho'.cap1;omega))
 split at h
 ·
  rename_i u
  simp only[Out.need_some,Out.guard_some,Out.ret_some,Prod.mk.injEq,Bool.and_eq_true,decide_eq_true_eq]at h
  obtain⟨rfl,⟨hi,hroom⟩,rfl,rfl⟩:=h
  obtain rfl:i=0:=by omega
  have hv:=hva
  simp only[VRel,VRel0,LRel,List.cons.injEq,and_true]at hv
  subst hv
  have happ:(appendV lkS (tyOf e tS) (tyOf e tS) id (.nilS u) (.rf r')).run=some (.rf id,[(id,some (.row u ys0 .full))]):=by
   rw[ht]
   simp[appendV,appendTo,srcT,srcL,isSl,sliceOf,rowL,hx',castL,hf,hroom,Out.run,guardO,needO,Out.bind,hblt]
  obtain⟨v',w',γ',B',h1,h2⟩:=appendV_sound (rt:=tS) hE hM hS (hid _ (List.mem_singleton.2 rfl)) happ hva hvb
  refine(hI.fin w none (some ⟨g',0,none⟩) 0 0 ys0.length vc v' w' hY (Nat.le_refl _) (Nat.zero_le _) h1).mono ?_
  rintro e' w2 ⟨rfl,rfl⟩
  exact⟨_,γ',B',rfl,h2⟩
 ·rename_i r
  split at h
  case h_2=>simp[Out.run]at h
  rename_i u xs0 m hx
  simp only[Out.need_some,Out.bind_some,Out.guard_some,Out.ret_some,Prod.mk.injEq,Bool.and_eq_true,Bool.not_eq_true',decide_eq_true_eq,decide_eq_false_iff_not,beq_eq_false_iff_ne]at h
  obtain⟨⟨hm,hrr⟩,xs,hc2,⟨hi,hroom⟩,rfl,rfl⟩:=h
  obtain⟨e2,rfl⟩:=castL_some.1 hc2
  subst e2
  dsimp only at hi hroom⊢
  have hid':=hid _ (List.mem_cons_of_mem _ (List.mem_singleton.2 rfl))
  obtain⟨A,cap,cells,rest,rfl,ho⟩:=hM.oldRow (hS _ _ hx) hm hva
  have hfit:(xs0.length+ys0.length)*u.by≤140737488355328:=by unfold roomOK at hroom;simpa using hroom
  by_cases hin:i=xs0.length
  ·subst hin
   have happ:(appendV lkS (tyOf e tS) (tyOf e tS) id (.rf r) (.rf r')).run=some (.rf id,[(r,none),(id,some (.row u (xs0++ys0) .full))]):=by
    rw[ht]
    simp[appendV,appendTo,srcT,srcL,isSl,sliceOf,rowL,hx,hx',castL,hf,hroom,Out.run,guardO,needO,Out.bind,hblt,hm]
   obtain⟨v',w',γ',B',h1,h2⟩:=appendV_sound (rt:=tS) hE hM hS hid' happ hva hvb
   rw[List.take_length,List.drop_length,List.append_nil]
   refine(hI.fin w A (some ⟨g',0,none⟩) xs0.length cap ys0.length vc v' w' hY ho.cap1 (by have:=ho.cap2;simpa[maxLen]using this) h1).mono ?_
   rintro e' w2 ⟨rfl,rfl⟩
   exact⟨_,γ',B',rfl,h2⟩
  ·by_cases hr:xs0.length+ys0.length≤cap
   ·refine ins_shift_sound hI hE hM hid' ht hf hk ho hnews hN hpl (fun g hA e3=>?_) hY (by omega) hr
    subst e3
    rcases ho.base with⟨h0,_⟩|⟨g2,e4,⟨l,hl,hB⟩,_⟩
    ·subst h0;simp at hi;simp at hin;omega
    ·obtain rfl:l=r:=by simpa using hl
     rw[e4]at hA
     cases hA
     exact hrr (hM.uniq l r' _ _ g' (hS _ _ hx) (hS _ _ hx') hB hgB')
   ·exact ins_grow_sound hI hE hM hid' ht htI hf hk ho hg' hnews hN hY (by omega) (by omega) hby hfit
 ·simp[Out.run]at h
theorem insCall_sound{f:FuncId}{z:Ins}(hI:InsW P f z.t.sz z.tS z.tI z.ov)(hE:EnvOK P e)(hM:Mem γ B w lk)(hS:Sub lkS lk){id:Nat}{vs caps:List PV}{p:PV}{up:Ups}(hid: ∀x,(id,some x)∈up→lk id=none)
  (h:(insCall e z vs caps id lkS).run=some (p,up)) {v:List Value} (hv:All2 (VRel γ (Dom lk) w (Owned B lk)) vs v):
  caps=[]∧Calls P f v.toArray w fun e' w'=> ∃v' γ' B',e'= .returned v'∧Post γ B w lk up p γ' B' w' v':=by
 unfold insCall at h
 split at h
 ·rename_i a i b
  simp only[Out.need_some,Out.guard_some,Bool.and_eq_true,decide_eq_true_eq,beq_iff_eq,List.isEmpty_iff]at h
  obtain⟨⟨⟨⟨⟨⟨hc,ht⟩,htI⟩,hf⟩,hby⟩,hk⟩,hi,h⟩:=h
  refine⟨hc,?_⟩
  cases hv with
  |cons h1 hv=>cases hv with
   |cons h2 hv=>cases hv with
    |cons h3 hv=>
     cases hv
     rw[vrel_int]at h2
     subst h2
     have:=insV_sound hI hE hM hS ht htI hf (by simpa using hby) (by simpa using hk) hid h h1 h3
     rw[Int.toNat_of_nonneg hi]at this
     exact this
 ·simp[Out.run]at h
end
end Go.Vm
namespace Go.Vm
open Go
abbrev Fw(ro:Option Nat):Fence:={Fence.wide with round:=ro}
theorem callsIn_of{P:Program}{ro:Option Nat}{n:Nat}{f:FuncId}{args:Array Value}{w:World}{R:Ending→World→Prop}(h:Calls P f args w R):CallsIn (Fw ro) n P f args w R:=callsIn_wide.2 h
structure Callable(P:Program)(g:FuncId):Prop where
 is: ∃fn,P.funcs[g]?=some fn∧fn.body.isNone=false∧(fn.name== "runtime.NumGoroutine")=false
section
variable {γ:Nat→G} {B:Nat→List Nat} {w:World} {lk lkS:Look} {P:Program} {e:Env} {ro:Option Nat} {n:Nat}
theorem run_callFunc{g:FuncId}(h:Callable P g)(args:Array Value)(w:World):(callFunc g args).run P w= .ok (.enter g args) w:=by
 obtain⟨fn,h1,h2,h3⟩:=h.is
 have h2': ¬fn.body=none:=fun h=>by rw[h]at h2;simp at h2
 have h3': ¬fn.name= "runtime.NumGoroutine" :=by simpa using h3
 simp[callFunc,h1,h2',h3']
theorem wp_val{o:Oper}{a:Act}{next:Act→World→Prop}{Q:Exit→Act→World→Prop}{v:Value}{w':World}(hs:(execOp a.eval o).run P w= .ok (.value v) w')(hd: ∀c,o.op≠ .defer c)(hn:next (a.put o.dst v) w'):o.wpIn (Fw ro) n P a w next Q:=by
 refine⟨fun _ _=>trivial,?_⟩
 rw[Oper.semAt_eq _ _ _ hd,hs];exact hn
theorem wp_skp{o:Oper}{a:Act}{next:Act→World→Prop}{Q:Exit→Act→World→Prop}{w':World}(hs:(execOp a.eval o).run P w= .ok .skip w')(hd: ∀c,o.op≠ .defer c)(hn:next (a.put o.dst undef) w'):o.wpIn (Fw ro) n P a w next Q:=by
 refine⟨fun _ _=>trivial,?_⟩
 rw[Oper.semAt_eq _ _ _ hd,hs];exact hn
theorem wp_ent{o:Oper}{a:Act}{next:Act→World→Prop}{Q:Exit→Act→World→Prop}{g:FuncId}{args:Array Value}{w':World}(hs:(execOp a.eval o).run P w= .ok (.enter g args) w')(hd: ∀c,o.op≠ .defer c)
  (hn:Calls P g args w' fun| .returned v,w''=>next (a.put o.dst v) w''|_,_=>False):o.wpIn (Fw ro) n P a w next Q:=by
 refine⟨fun _ _=>trivial,?_⟩
 rw[Oper.semAt_eq _ _ _ hd,hs]
 refine⟨fun h=>by simp[Fence.wide]at h,callsIn_of (hn.mono fun e w'' he=>?_)⟩
 cases e with
 |returned v=>exact he
 |panicked c=>exact he.elim
 |outgrown=>exact he.elim
theorem constV_rel{D:Nat→Nat}{W:Nat→Nat→Prop}(v:Value):VRel γ D w W (constV v) v:=by
 unfold constV
 split
 ·rename_i k n
  cases h:decide (toI k (ofI k n)=n)
  ·exact vundef
  ·exact vrel_int.2 (by simp only[decide_eq_true_eq]at h;rw[h])
 ·exact vrel_bool.2 rfl
 ·rename_i s
  cases h:Nat.ble s.data.toList.length 9223372036854775807
  ·exact vundef
  ·exact vrel_str.2 ⟨s,rfl,by simpa[maxLen]using h,rfl⟩
 ·simp[VRel,VRel0,LRel]
 ·simp[VRel,VRel0,LRel]
 ·exact vrel_err.2 (.inl ⟨rfl,rfl⟩)
 ·exact vundef
theorem nilConst_rel{D:Nat→Nat}{W:Nat→Nat→Prop}{t:Nat}{x:Operand}{p:PV}{a:Act}(h:VRel γ D w W p (a.eval x)):VRel γ D w W (nilConst e t x p) (a.eval x):=by
 unfold nilConst
 split
 ·split
  ·simp[VRel,VRel0,LRel,Act.eval]
  ·exact vundef
 ·exact h
theorem vrels_map{D:Nat→Nat}{W:Nat→Nat→Prop}{ρ:Operand→PV}{a:Act}(h: ∀x,VRel γ D w W (ρ x) (a.eval x)): ∀(l:List Operand),(l.map ρ).all notTup=true→VRels γ D w W (l.map ρ) (l.map a.eval)
 |[],_=>rfl
 |x::l,hn=>by
  simp only[List.map_cons,List.all_cons,Bool.and_eq_true]at hn
  exact⟨_,_,rfl,VRel0.of (h x) (fun ps e=>by rw[e]at hn;simp[notTup]at hn),vrels_map h l hn.2⟩
theorem vrels_nil{D:Nat→Nat}{W:Nat→Nat→Prop}{ρ:Operand→PV}{a:Act}(h: ∀x,VRel γ D w W (ρ x) (a.eval x)): ∀(ts:List Nat) (l:List Operand),(nilArgs e ρ ts l).all notTup=true→VRels γ D w W (nilArgs e ρ ts l) (l.map a.eval)
 |_::_,[],_=>rfl
 |[],[],_=>rfl
 |t::ts,x::l,hn=>by
  simp only[nilArgs,List.all_cons,Bool.and_eq_true]at hn
  exact⟨_,_,rfl,VRel0.of (nilConst_rel (h x)) (fun ps e=>by rw[e]at hn;simp[notTup]at hn),vrels_nil h ts l hn.2⟩
 |[],x::l,hn=>by
  simp only[nilArgs,List.all_cons,Bool.and_eq_true]at hn
  exact⟨_,_,rfl,VRel0.of (h x) (fun ps e=>by rw[e]at hn;simp[notTup]at hn),vrels_nil h [] l hn.2⟩
theorem notTup_all{l:List PV}(h:l.all notTup=true): ∀p∈l,∀qs,p≠ .tup qs:=fun p hp qs e=>by
 have:=List.all_eq_true.1 h p hp
 rw[e]at this;simp[notTup]at this
theorem all2_map{D:Nat→Nat}{W:Nat→Nat→Prop}{ρ:Operand→PV}{a:Act}(h: ∀x,VRel γ D w W (ρ x) (a.eval x)): ∀(l:List (Nat×Operand)),All2 (fun(x:Nat×PV) (y:Nat×Value)=>x.1=y.1∧VRel γ D w W x.2 y.2) (l.map fun(i,x)=>(i,ρ x)) (l.map fun(i,x)=>(i,a.eval x))
 |[]=> .nil
 |(i,x)::l=> .cons ⟨rfl,h x⟩ (all2_map h l)
theorem lrels_map{D:Nat→Nat}{W:Nat→Nat→Prop}{ρ:Operand→PV}{a:Act}(h: ∀x,VRel γ D w W (ρ x) (a.eval x)): ∀(l:List Operand),capOKL (l.map ρ)=true→LRels γ D w W (l.map ρ) (l.map a.eval)
 |[],_=>rfl
 |x::l,hc=>by
  simp only[List.map_cons,capOKL,Bool.and_eq_true]at hc
  exact⟨_,_,rfl,(VRel.cap hc.1).1 (h x),lrels_map h l hc.2⟩
theorem vrels_get{D:Nat→Nat}{W:Nat→Nat→Prop}: ∀{ps:List PV} {vs:List Value} {i:Nat} {p:PV},VRels γ D w W ps vs→ps[i]?=some p→ ∃v,vs[i]?=some v∧VRel0 γ D w W p v
 |[],_,_,_,_,h=>by simp at h
 |q::ps,_,0,p,⟨v,vs,e,h1,h2⟩,h=>by
  simp only[List.getElem?_cons_zero,Option.some.injEq]at h
  subst h e
  exact⟨v,rfl,h1⟩
 |q::ps,_,i+1,p,⟨v,vs,e,h1,h2⟩,h=>by
  subst e
  exact vrels_get (i:=i) h2 (by simpa using h)
theorem vrel_tup0{D:Nat→Nat}{W:Nat→Nat→Prop}{ps:List PV}{v:Value}: ¬VRel0 γ D w W (.tup ps) v:=by simp[VRel0,LRel]
theorem gives_of{s:Sem Value}{p:PV}(h:Gives P γ B w lk s p): ∃v,(do let x←s;pure (Next.value x):Sem Next).run P w= .ok (.value v) w∧VRel γ (Dom lk) w (Owned B lk) p v:=by
 obtain⟨v,h1,h2⟩:=h
 exact⟨v,by simp[h1],h2⟩
structure SpOK(P:Program)(e:Env):Prop where
 con: ∀g s,(g,s)∈e.sp→Contract P g s∧Callable P g
 it: ∀g it,look e.its g=some it→ItMk P g it∧Callable P g
 ins: ∀g z,look e.ins g=some z→InsW P g z.t.sz z.tS z.tI z.ov∧Callable P g
theorem pickS_mem{g:Nat}{vs:List PV}{s:Spec}: ∀{l:List (Nat×Spec)},pickS lkS g vs l=some s→(g,s)∈l
 |[],h=>by simp[pickS]at h
 |(h',s')::l,h=>by
  simp only[pickS]at h
  cases hc:(g==h'&&fitsL lkS s'.params vs)
  ·rw[hc]at h;exact List.mem_cons_of_mem _ (pickS_mem h)
  ·rw[hc]at h
   simp only[cond_true,Option.some.injEq]at h
   simp only[Bool.and_eq_true,beq_iff_eq]at hc
   rw[hc.1,h];exact List.mem_cons_self
theorem bind_v1{x:Out PV}{p:PV}{up:Ups}(h:(x.bind v1).run=some (p,up)):x.run=some p∧up=[]:=by
 simp only[Out.bind_some,v1,Out.ret_some,Prod.mk.injEq]at h
 obtain⟨q,h,rfl,rfl⟩:=h
 exact⟨h,rfl⟩
theorem orel_map{D:Nat→Nat}{W:Nat→Nat→Prop}{ρ:Operand→PV}{a:Act}(h: ∀x,VRel γ D w W (ρ x) (a.eval x)): ∀(x:Option Operand),ORel γ D w W (x.map ρ) (x.map a.eval)
 |none=>by simp[ORel]
 |some x=>by simpa[ORel]using h x
theorem convInt_sound(hE:EnvOK P e){s t:TypeId}{ts:Ty}{k k':IntKind}(hs:tyOf e s=some ts)(ht:tyOf e t=some (.int k')){m:kden k}{v:Value}(hv:VRel γ (Dom lk) w (Owned B lk) (.sc (.int k) m) v):Gives P γ B w lk (convert s t v) (wrapS k' (toI k m)):=by
 rw[vrel_int]at hv
 subst hv
 obtain⟨d,hd,_⟩:=TyOK.inf (hE.ty _ _ hs)
 have hu:=(hE.ty _ _ ht:Inf P (.int k') t (.int k')).und
 refine⟨.int k' (k'.wrap (toI k m)),?_,vrel_int.2 (by rw[toI_wrap])⟩
 simp[convert,run_underlying hd.und,run_underlying hu,Conv.intToInt]
theorem convStr_sound(hE:EnvOK P e){s t:TypeId}{ts:Ty}(hs:tyOf e s=some ts)(ht:tyOf e t=some .str){x:List UInt8}{v:Value}(hv:VRel γ (Dom lk) w (Owned B lk) (.sc .str x) v):Gives P γ B w lk (convert s t v) (.sc .str x):=by
 have hv':=hv
 rw[vrel_str]at hv
 obtain⟨b,_,_,rfl⟩:=hv
 obtain⟨d,hd,_⟩:=TyOK.inf (hE.ty _ _ hs)
 have hu:=(hE.ty _ _ ht:Inf P .str t .string).und
 refine⟨.string b,?_,hv'⟩
 cases d<;>simp[convert,run_underlying hd.und,run_underlying hu]
theorem appendTo_id{tx:Option Ty}{id:Nat}{b:PV}{t:Ty}{xs:List t.den}{m:Own}{old:List Nat}{p:PV}{up:Ups}(h:(appendTo lkS tx id b t xs m old).run=some (p,up)): ∃x,(id,some x)∈up:=by
 unfold appendTo at h
 simp only[Out.bind_some,Out.guard_some,Out.cond_some]at h
 obtain⟨⟨u,ys⟩,_,ys',_,_,h|h⟩:=h
 ·simp only[Out.ret_some,Prod.mk.injEq]at h
  obtain⟨_,_,rfl⟩:=h
  exact⟨_,List.mem_append_right _ (List.mem_singleton.2 rfl)⟩
 ·obtain⟨_,h⟩:=h
  split at h
  ·simp only[Out.ret_some,Prod.mk.injEq]at h
   obtain⟨_,rfl⟩:=h
   exact⟨_,List.mem_append_right _ (List.mem_singleton.2 rfl)⟩
  ·simp only[Out.ret_some,Prod.mk.injEq]at h
   obtain⟨_,rfl⟩:=h
   exact⟨_,List.mem_append_right _ (List.mem_singleton.2 rfl)⟩
  ·simp only[Out.need_some]at h
   obtain⟨_,h⟩:=h
   split at h
   ·simp only[Out.ret_some,Prod.mk.injEq]at h
    obtain⟨_,rfl⟩:=h
    exact⟨_,List.mem_append_right _ (List.mem_singleton.2 rfl)⟩
   ·simp only[Out.bind_some,Out.ret_some,Prod.mk.injEq]at h
    obtain⟨_,_,_,rfl⟩:=h
    exact⟨_,List.mem_append_right _ (List.mem_append_right _ (List.mem_singleton.2 rfl))⟩
theorem appendV_id{ty tx:Option Ty}{id:Nat}{x y p:PV}{up:Ups}(h:(appendV lkS ty tx id x y).run=some (p,up))(hnew: ∀j x,(j,some x)∈up→id≤j→j<id+1001→lk j=none)(hid:id<id+1001):lk id=none:=by
 have key: ∃z,(id,some z)∈up:=by
  unfold appendV at h
  split at h
  ·simp only[Out.need_some]at h;exact appendTo_id h.2
  ·split at h
   ·simp only[Out.need_some]at h;exact appendTo_id h.2
   ·simp[Out.run]at h
  ·split at h
   ·simp only[Out.need_some]at h;exact appendTo_id h.2
   ·simp[Out.run]at h
  ·simp[Out.run]at h
 obtain⟨z,hz⟩:=key
 exact hnew _ _ hz (Nat.le_refl _) hid
theorem eff_sound(hE:EnvOK P e)(hsp:SpOK P e)(hM:Mem γ B w lk)(h0:lk 0=some .ext)(hS:Sub lkS lk){ρ:Operand→PV}{a:Act}(hρ: ∀x,VRel γ (Dom lk) w (Owned B lk) (ρ x) (a.eval x))(hfn: ∀f,ρ (.func f)= .fn f []){o:Oper}{id:Nat}{p:PV}{up:Ups}
  (h:(eff e o.op o.type id ρ lkS).run=some (p,up)) (hid:id<id+1001) (hnew: ∀j x,(j,some x)∈up→id≤j→j<id+1001→lk j=none) {next:Act→World→Prop} {Q:Exit→Act→World→Prop}
  (hn: ∀v w' γ' B',Post γ B w lk up p γ' B' w' v→next (a.put o.dst v) w'):o.wpIn (Fw ro) n P a w next Q:=by
 have gv: ∀{s:Sem Value} {q:PV},Gives P γ B w lk s q→up=[]→p=q→(execOp a.eval o).run P w=(do let x←s;pure (Next.value x):Sem Next).run P w→(∀c,o.op≠ .defer c)→o.wpIn (Fw ro) n P a w next Q:=by
  rintro s q hg rfl rfl hx hd
  obtain⟨v,h1,h2⟩:=gives_of hg
  exact wp_val (hx.trans h1) hd (hn v w γ B (Post.pure hM h2))
 have pv: ∀{v w' γ' B'} {s:Sem Value},s.run P w= .ok v w'→Post γ B w lk up p γ' B' w' v→(execOp a.eval o).run P w=(do let x←s;pure (Next.value x):Sem Next).run P w→(∀c,o.op≠ .defer c)→o.wpIn (Fw ro) n P a w next Q:=by
  intro v w' γ' B' s hs hp hx hd
  exact wp_val (hx.trans (by simp[hs])) hd (hn v w' γ' B' hp)
 cases hop:o.op<;>rw[hop]at h<;>simp only[eff]at h<;>try (simp[Out.run]at h;done)
 case move x=>
  simp only[v1,Out.ret_some,Prod.mk.injEq]at h
  obtain⟨rfl,rfl⟩:=h
  exact wp_val (v:=a.eval x) (by simp[execOp,hop]) (by rw[hop];simp) (hn _ _ _ _ (Post.pure hM (nilConst_rel (hρ x))))
 case assign x=>
  simp only[v1,Out.ret_some,Prod.mk.injEq]at h
  obtain⟨rfl,rfl⟩:=h
  exact wp_val (v:=a.eval x) (by simp[execOp,hop]) (by rw[hop];simp) (hn _ _ _ _ (Post.pure hM (nilConst_rel (hρ x))))
 case pick c x y=>
  simp only[Out.bind_some,Out.br_some,v1,Out.ret_some,Prod.mk.injEq]at h
  obtain⟨t,ht,h⟩:=h
  have ht:=getSc_some.1 ht
  have hc:=hρ c
  rw[ht,vrel_bool]at hc
  rcases h with⟨rfl,rfl,rfl⟩|⟨rfl,rfl,rfl⟩
  ·exact wp_val (v:=a.eval x) (by simp[execOp,hop,hc,asBool]) (by rw[hop];simp) (hn _ _ _ _ (Post.pure hM (hρ x)))
  ·exact wp_val (v:=a.eval y) (by simp[execOp,hop,hc,asBool]) (by rw[hop];simp) (hn _ _ _ _ (Post.pure hM (hρ y)))
 case alloc t=>
  split at h
  ·rename_i t' ht
   simp only[Out.ret_some,Prod.mk.injEq]at h
   obtain⟨rfl,rfl⟩:=h
   obtain⟨v,w',γ',B',h1,h2⟩:=alloc_sound hE hM (hnew _ _ (List.mem_singleton.2 rfl) (Nat.le_refl _) hid) ht
   exact pv h1 h2 (by simp[execOp,hop]) (by rw[hop];simp)
  ·simp[Out.run]at h
 case box t x=>
  split at h
  ·rename_i t' ht
   simp only[Out.need_some,Out.ret_some,Prod.mk.injEq,Bool.and_eq_true]at h
   obtain⟨⟨⟨h1,h2⟩,h3⟩,rfl,rfl⟩:=h
   obtain⟨v,w',γ',B',h4,h5⟩:=box_sound (P:=P) (ty:=t) hM (hnew _ _ (List.mem_singleton.2 rfl) (Nat.le_refl _) hid) h1 h3 (hρ x)
   exact pv h4 h5 (by simp[execOp,hop]) (by rw[hop];simp)
  ·simp[Out.run]at h
 case build t parts=>
  split at h
  ·rename_i u ht
   simp only[Out.bind_some,v1,Out.ret_some,Prod.mk.injEq]at h
   obtain⟨ps,hps,rfl,rfl⟩:=h
   refine gv (build_sound (vs:=parts.map fun(i,x)=>(i,a.eval x)) hE ht hps ?_) rfl rfl (by simp[execOp,hop]) (by rw[hop];simp)
   rw[Array.toList_map];exact all2_map hρ _
  ·rename_i m u ht
   simp only[Out.need_some,Out.bind_some,v1,Out.ret_some,Prod.mk.injEq,Bool.and_eq_true,List.all_eq_true]at h
   obtain⟨⟨hf,hi⟩,xs,hxs,rfl,rfl⟩:=h
   refine gv (buildArr_sound (vs:=parts.map fun(i,x)=>(i,a.eval x)) hE hM hS ht hf hxs ?_ ?_) rfl rfl (by simp[execOp,hop]) (by rw[hop];simp)
   ·intro x hx
    obtain⟨y,hy,rfl⟩:=List.mem_map.1 hx
    have:=hi y hy
    simpa using this
   ·rw[Array.toList_map];exact all2_map hρ _
  ·simp[Out.run]at h
 case buildSlice t m parts=>
  split at h
  ·rename_i u ht
   simp only[Out.need_some,Bool.and_eq_true,List.all_eq_true]at h
   obtain⟨⟨⟨h1,h2⟩,h3⟩,h⟩:=h
   have hid':lk id=none:=by
    rw[Out.cond_some]at h
    rcases h with⟨_,h⟩|⟨_,h⟩
    ·simp only[Out.bind_some,Out.ret_some,Prod.mk.injEq]at h
     obtain⟨_,_,_,rfl⟩:=h
     exact hnew _ _ (List.mem_singleton.2 rfl) (Nat.le_refl _) hid
    ·simp only[Out.need_some,Out.bind_some,Out.ret_some,Prod.mk.injEq]at h
     obtain⟨_,_,_,⟨_,_⟩,_,_,rfl⟩:=h
     exact hnew _ _ (List.mem_append_right _ (List.mem_singleton.2 rfl)) (Nat.le_refl _) hid
   obtain⟨v',w',γ',B',h4,h5⟩:=buildSlice_sound (vs:=parts.map fun(i,x)=>(i,a.eval x)) hE hM hS hid' ht (n:=m) (by simpa using h1) (by simpa using h2) (ps:=parts.toList.map fun(i,x)=>(i,ρ x)) (fun x hx=>by have:=h3 x hx;simpa using this) h
    (by rw[Array.toList_map];exact all2_map hρ _)
   exact pv h4 h5 (by simp[execOp,hop]) (by rw[hop];simp)
  ·simp[Out.run]at h
 case load t x=>
  split at h
  ·rename_i t' ht
   have hx:=hρ x
   split at h
   ·rename_i r k1 k2 j hr
    rw[hr]at hx
    split at h
    ·rename_i o' hsp
     obtain⟨h1,rfl⟩:=bind_v1 h
     exact gv (load_span_sound hE hM hS ht hsp h1 hx) rfl rfl (by simp[execOp,hop]) (by rw[hop];simp)
    ·obtain⟨h1,rfl⟩:=bind_v1 h
     exact gv (load_sound hE hM hS ht h1 hx) rfl rfl (by simp[execOp,hop]) (by rw[hop];simp)
   ·rename_i u y hr
    simp only[Out.bind_some,v1,Out.ret_some,Prod.mk.injEq]at h
    obtain⟨z,hz,rfl,rfl⟩:=h
    rw[hr]at hx
    exact gv (load_ro_sound hE ht hz hx) rfl rfl (by simp[execOp,hop]) (by rw[hop];simp)
   ·rename_i r u y hr
    simp only[Out.bind_some,Out.need_some,v1,Out.ret_some,Prod.mk.injEq]at h
    obtain⟨z,hz,ho,rfl,rfl⟩:=h
    rw[hr]at hx
    exact gv (load_rod_sound hE ht hz ho hx) rfl rfl (by simp[execOp,hop]) (by rw[hop];simp)
   ·rename_i c hr
    simp only[Out.need_some,v1,Out.ret_some,Prod.mk.injEq,Bool.and_eq_true,decide_eq_true_eq]at h
    obtain⟨⟨rfl,hc⟩,rfl,rfl⟩:=h
    rw[hr]at hx
    simp only[VRel,VRel0,LRel,List.cons.injEq,and_true]at hx
    obtain⟨ad,u,hv,q1,q2,q3,q4⟩:=hx
    refine gv (s:=Instr.loadAt t (a.eval x)) ⟨u,?_,(VRel.cap hc).2 q4⟩ rfl rfl (by simp[execOp,hop]) (by rw[hop];simp)
    rw[hv]
    have:=run_loadVar_any (P:=P) w ad t .ref (hE.ty _ _ ht) [u] u (fun j y hj=>by
     cases j with
     |zero=>simp only[List.getElem?_cons_zero,Option.some.injEq]at hj;rw[←hj];exact q3
     |succ j=>simp at hj) rfl (by simp[isRowT]) (fun _=>rfl)
    simp[Instr.loadAt,Instr.sureAddr,this]
   ·simp[Out.run]at h
  ·simp[Out.run]at h
 case store t x y=>
  split at h
  ·rename_i u ht
   split at h
   ·rename_i r k1 k2 j hr
    simp only[Out.bind_some,Out.ret_some,Prod.mk.injEq]at h
    obtain⟨up',h,rfl,rfl⟩:=h
    have hx:=hρ x
    rw[hr]at hx
    obtain⟨w',γ',B',h1,h2⟩:=setAt_sound hE hM hS ht h (nilConst_rel (hρ y)) hx
    exact wp_skp (w':=w') (by simp[execOp,hop,h1]) (by rw[hop];simp) (hn _ _ _ _ h2)
   ·simp[Out.run]at h
  ·simp[Out.run]at h
 case nilCheck x=>
  have hx:=hρ x
  split at h<;>first|(simp[Out.run]at h;done)|skip
  all_goals
   rename_i hr
   simp only[v1,Out.ret_some,Prod.mk.injEq]at h
   obtain⟨rfl,rfl⟩:=h
   rw[hr]at hx
   refine wp_val (v:=a.eval x) ?_ (by rw[hop];simp) (hn _ _ _ _ (Post.pure hM hx))
  ·obtain⟨_,b,o',_,hv⟩:=vrel_ptr.1 hx;simp[execOp,hop,hv]
  ·obtain⟨b,o',hv,_⟩:=vrel_ro.1 hx;simp[execOp,hop,hv]
  ·obtain⟨_,b,o',hv,_⟩:=vrel_rod.1 hx;simp[execOp,hop,hv]
  ·obtain⟨vs,hv,_⟩:=vrel_fn.1 hx;simp[execOp,hop,hv]
  ·simp only[VRel,VRel0,LRel,List.cons.injEq,and_true]at hx
   obtain⟨ad,u,hv,_⟩:=hx;simp[execOp,hop,hv]
 case binOp op t x y t'=>
  split at h
  ·obtain⟨h',rfl⟩:=bind_v1 h
   obtain⟨v,h1,h2⟩:=nilCmp_sound (w:=w) (γ:=γ) (D:=Dom lk) (W:=Owned B lk) (x:=x) (y:= .const (.slice none 0 0)) hE h' (hρ x)
   exact gv (s:=do eqGuard op t x (.const (.slice none 0 0)) (a.eval x) (.slice none 0 0);binOp op t (a.eval x) (.slice none 0 0)) ⟨v,h1,h2⟩ rfl rfl (by simp[execOp,hop,Act.eval]) (by rw[hop];simp)
  ·split at h
   ·rename_i ps qs hp hq
    obtain⟨h',rfl⟩:=bind_v1 h
    obtain⟨v,h1,h2⟩:=agEq_sound (x:=x) (y:=y) hE hM hS h' (by rw[←hp];exact hρ x) (by rw[←hq];exact hρ y)
    exact gv (s:=do eqGuard op t x y (a.eval x) (a.eval y);binOp op t (a.eval x) (a.eval y)) ⟨v,h1,h2⟩ rfl rfl (by simp[execOp,hop]) (by rw[hop];simp)
   ·obtain⟨h',rfl⟩:=bind_v1 h
    obtain⟨v,h1,h2⟩:=binV_sound (w:=w) (γ:=γ) (D:=Dom lk) (W:=Owned B lk) (x:=x) hE h' (hρ x) (hρ y)
    exact gv (s:=do eqGuard op t x y (a.eval x) (a.eval y);binOp op t (a.eval x) (a.eval y)) ⟨v,h1,h2⟩ rfl rfl (by simp[execOp,hop]) (by rw[hop];simp)
 case makeMap t hint=>
  simp only[Out.need_some,Out.ret_some,Prod.mk.injEq,Bool.and_eq_true,Option.isNone_iff_eq_none]at h
  obtain⟨⟨ht,rfl⟩,rfl,rfl⟩:=h
  obtain⟨v,w',γ',B',h1,h2⟩:=makeMap_sound (P:=P) (t:=t) hM (hnew _ _ (List.mem_singleton.2 rfl) (Nat.le_refl _) hid)
  exact pv h1 h2 (by simp[execOp,hop]) (by rw[hop];simp)
 case lookup t x i c=>
  simp only[Out.need_some,Bool.and_eq_true,Bool.not_eq_true']at h
  obtain⟨⟨ht,rfl⟩,h⟩:=h
  split at h
  ·rename_i r hr
   split at h
   ·rename_i xs hx
    simp only[Out.bind_some,v1,Out.ret_some,Prod.mk.injEq]at h
    obtain⟨m,hm,rfl,rfl⟩:=h
    have hm:=getSc_some.1 hm
    have hv:=hρ x
    have hi:=hρ i
    rw[hr]at hv
    rw[hm,vrel_int]at hi
    exact gv (s:=Instr.lookup t (a.eval x) (a.eval i) false) ⟨_,lookup_sound hM (hS _ _ hx) hv (hE.mp t ht) hi,vrel_bool.2 rfl⟩ rfl rfl (by simp[execOp,hop]) (by rw[hop];simp)
   ·simp[Out.run]at h
  ·simp[Out.run]at h
 case mapUpdate t x k v=>
  simp only[Out.need_some]at h
  obtain⟨ht,h⟩:=h
  split at h
  ·rename_i r hr
   split at h
   ·rename_i xs hx
    simp only[Out.bind_some,Out.guard_some,Out.ret_some,Prod.mk.injEq]at h
    obtain⟨m,hm,b,hb,rfl,rfl,rfl⟩:=h
    have hm:=getSc_some.1 hm
    have hb:=getSc_some.1 hb
    have hv:=hρ x
    have hi:=hρ k
    have hc:=hρ v
    rw[hr]at hv
    rw[hm,vrel_int]at hi
    rw[hb,vrel_bool]at hc
    obtain⟨w',γ',B',h1,h2⟩:=mapUpdate_sound (P:=P) hM (hS _ _ hx) hv (hE.mp t ht) hi
    exact wp_skp (w':=w') (by simp[execOp,hop,hc,h1]) (by rw[hop];simp) (hn _ _ _ _ (h2 _))
   ·simp[Out.run]at h
  ·simp[Out.run]at h
 case unOp op t x=>
  obtain⟨h',rfl⟩:=bind_v1 h
  obtain⟨v,h1,h2⟩:=unV_sound (P:=P) (w:=w) (γ:=γ) (D:=Dom lk) (W:=Owned B lk) h' (hρ x)
  exact gv (s:=Op.unary op (a.eval x)) ⟨v,h1,h2⟩ rfl rfl (by simp[execOp,hop]) (by rw[hop];simp)
 case convert s t x=>
  have hx:=hρ x
  split at h
  ·rename_i k' ht
   split at h
   ·rename_i k m hr
    simp only[Out.need_some,v1,Out.ret_some,Prod.mk.injEq]at h
    obtain⟨hs,rfl,rfl⟩:=h
    rw[hr]at hx
    obtain⟨ts,hts⟩:=Option.isSome_iff_exists.1 hs
    exact gv (convInt_sound hE hts ht hx) rfl rfl (by simp[execOp,hop]) (by rw[hop];simp)
   ·simp[Out.run]at h
  ·rename_i ht
   split at h
   ·rename_i z hr
    simp only[Out.need_some,v1,Out.ret_some,Prod.mk.injEq]at h
    obtain⟨hs,rfl,rfl⟩:=h
    rw[hr]at hx
    obtain⟨ts,hts⟩:=Option.isSome_iff_exists.1 hs
    exact gv (convStr_sound hE hts ht hx) rfl rfl (by simp[execOp,hop]) (by rw[hop];simp)
   ·simp only[Out.need_some,Out.bind_some,v1,Out.ret_some,Prod.mk.injEq,beq_iff_eq]at h
    obtain⟨hs,⟨u,xs⟩,hxs,ys,hy,rfl,rfl⟩:=h
    dsimp only at hy
    obtain⟨e',rfl⟩:=castL_some.1 hy
    subst e'
    have hl:LRel γ (Dom lk) w (Owned B lk) (ρ x) [a.eval x]:=by
     have hs':=hxs
     unfold Vm.sliceOf at hxs
     split at hxs<;>first|(rename_i hr;rw[hr]at hx⊢;simp only[VRel,VRel0]at hx;exact hx)|(simp[Out.run]at hxs)
    exact gv (toString_sound hE hM hS hs ht hxs hl) rfl rfl (by simp[execOp,hop]) (by rw[hop];simp)
  ·rename_i ht
   split at h
   ·rename_i z hr
    simp only[Out.need_some,Out.ret_some,Prod.mk.injEq,beq_iff_eq]at h
    obtain⟨hs,rfl,rfl⟩:=h
    rw[hr]at hx
    obtain⟨v',w',γ',B',h1,h2⟩:=toBytes_sound hE hM (hnew _ _ (List.mem_singleton.2 rfl) (Nat.le_refl _) hid) hs ht hx
    exact pv h1 h2 (by simp[execOp,hop]) (by rw[hop];simp)
   ·rename_i r hr
    rw[hr]at hx
    split at h
    ·rename_i xs hxr
     simp only[Out.need_some,Out.guard_some,Out.ret_some,Prod.mk.injEq,beq_iff_eq,decide_eq_true_eq]at h
     obtain⟨rfl,hpos,rfl,rfl⟩:=h
     obtain⟨w',γ',B',h1,h2⟩:=mark_sound hE hM ht (hS _ _ hxr) hpos hx
     exact pv h1 h2 (by simp[execOp,hop]) (by rw[hop];simp)
    ·simp[Out.run]at h
   ·simp[Out.run]at h
  ·simp[Out.run]at h
 case sliceToArrayPointer t x=>
  have hx:=hρ x
  split at h
  ·rename_i q u ht
   split at h
   ·rename_i r hr
    rw[hr]at hx
    simp only[Out.bind_some,Out.need_some,Out.guard_some,v1,Out.ret_some,Prod.mk.injEq,Bool.and_eq_true,decide_eq_true_eq]at h
    obtain⟨⟨t',xs⟩,hxs,⟨_,hq⟩,hle,rfl,rfl⟩:=h
    unfold rowL at hxs
    split at hxs
    ·rename_i t2 xs2 m2 hl
     simp only[Out.ret_some,Sigma.mk.injEq]at hxs
     obtain⟨rfl,hxs⟩:=hxs
     obtain rfl:=eq_of_heq hxs
     exact gv (arrayAt_rf_sound hE hM hS ht hl (by simpa using hq) hle hx) rfl rfl (by simp[execOp,hop]) (by rw[hop];simp)
    ·simp[Out.run]at hxs
   ·rename_i r n' k' off len hr
    rw[hr]at hx
    simp only[Out.need_some,Out.guard_some,v1,Out.ret_some,Prod.mk.injEq,decide_eq_true_eq]at h
    obtain⟨hq,hle,rfl,rfl⟩:=h
    exact gv (arrayAt_av_sound hE ht (by simpa using hq) hle hx) rfl rfl (by simp[execOp,hop]) (by rw[hop];simp)
   ·simp[Out.run]at h
  ·simp[Out.run]at h
 case makeFunc f first caps=>
  cases f<;>simp only at h<;>try (simp[Out.run]at h;done)
  rename_i g
  split at h
  ·rename_i hfi
   simp only[Out.need_some,v1,Out.ret_some,Prod.mk.injEq]at h
   obtain⟨hc,rfl,rfl⟩:=h
   have hfirst:first= #[]:=by
    apply Array.ext';simpa using hfi
   subst hfirst
   refine gv (s:=Instr.makeFunc (.func g) (#[].map a.eval) (caps.map a.eval)) ⟨_,rfl,vrel_fn.2 ⟨caps.toList.map a.eval,?_,lrels_map hρ _ hc⟩⟩ rfl rfl (by simp[execOp,hop]) (by rw[hop];simp)
   have:caps.map a.eval=(caps.toList.map a.eval).toArray:=by apply Array.ext';simp
   rw[this,Array.map_empty]
  ·simp[Out.run]at h
 case makeSlice t l c=>
  split at h
  ·rename_i u ht
   simp only[Out.bind_some,Out.need_some,Out.guard_some,Out.ret_some,Prod.mk.injEq,Bool.and_eq_true,decide_eq_true_eq]at h
   obtain⟨N,hN,C,hC,hby,⟨hNC,hroom⟩,rfl,rfl⟩:=h
   have hby':0<u.by:=by simpa using hby
   have hr:=room_ok hroom
   have hC2:C≤maxLen:=by
    have:C≤C*u.by:=Nat.le_mul_of_pos_right _ hby'
    simp only[maxLen];omega
   obtain⟨v',w',γ',B',h1,h2⟩:=makeSlice_sound hE hM (hnew _ _ (List.mem_singleton.2 rfl) (Nat.le_refl _) hid) ht hN hC hNC hr hC2 (hρ l) (hρ c)
   exact pv h1 h2 (by simp[execOp,hop]) (by rw[hop];simp)
  ·simp[Out.run]at h
 case slice t x lo hi mx=>
  cases mx with
  |some m=>simp[Out.run]at h
  |none=>
   simp only at h
   obtain⟨rfl,hg⟩:=sliceV2_sound hE hM hS h (hρ x) (orel_map hρ lo) (orel_map hρ hi)
   exact gv hg rfl rfl (by simp[execOp,hop]) (by rw[hop];simp)
 case fieldAddr t x f=>
  have hx:=hρ x
  split at h
  ·rename_i u ht
   split at h
   ·rename_i d tw hf
    split at h
    ·rename_i r n' k hr
     simp only[Out.need_some,v1,Out.ret_some,Prod.mk.injEq,Bool.and_eq_true]at h
     obtain⟨⟨hl,hz⟩,rfl,rfl⟩:=h
     rw[hr]at hx
     exact gv (fieldAddr_sound hE hM hS ht hf hl (by simpa using hz) hx) rfl rfl (by simp[execOp,hop]) (by rw[hop];simp)
    ·rename_i t' y hr
     simp only[Out.need_some,Out.bind_some,v1,Out.ret_some,Prod.mk.injEq]at h
     obtain⟨hz,z,hc,y',hs,rfl,rfl⟩:=h
     rw[hr]at hx
     exact gv (fieldAddr_ro_sound hE ht hf (by simpa using hz) hc hs hx) rfl rfl (by simp[execOp,hop]) (by rw[hop];simp)
    ·rename_i r t' y hr
     simp only[Out.need_some,Out.bind_some,v1,Out.ret_some,Prod.mk.injEq]at h
     obtain⟨hz,z,hc,y',hs,rfl,rfl⟩:=h
     rw[hr]at hx
     exact gv (fieldAddr_rod_sound hE ht hf (by simpa using hz) hc hs hx) rfl rfl (by simp[execOp,hop]) (by rw[hop];simp)
    ·simp[Out.run]at h
   ·simp[Out.run]at h
  ·simp[Out.run]at h
 case field t x f=>
  have hx:=hρ x
  split at h
  ·rename_i u ht
   split at h
   ·rename_i d tw ps hf hr
    simp only[Out.need_some,v1,Out.ret_some,Prod.mk.injEq,Bool.and_eq_true,decide_eq_true_eq]at h
    obtain⟨⟨⟨hl,hsz⟩,hal⟩,rfl,rfl⟩:=h
    rw[hr]at hx
    exact gv (field_sound hE ht hf hl hal (by rw[hsz];rfl) hx) rfl rfl (by simp[execOp,hop]) (by rw[hop];simp)
   ·simp[Out.run]at h
  ·simp[Out.run]at h
 case indexAddr t x i=>
  have hx:=hρ x
  have hvi:=hρ i
  simp only[Out.bind_some]at h
  obtain⟨j,hj,h⟩:=h
  split at h
  ·rename_i m u ht
   split at h
   ·rename_i r n' k hr
    simp only[Out.need_some,Out.guard_some,v1,Out.ret_some,Prod.mk.injEq,beq_iff_eq,decide_eq_true_eq]at h
    obtain⟨hz,hm,rfl,rfl⟩:=h
    rw[hr]at hx
    exact gv (indexAddr_arr_sound hE ht hj hvi hz hm hx) rfl rfl (by simp[execOp,hop]) (by rw[hop];simp)
   ·rename_i t' y hr
    simp only[Out.bind_some,Out.nth_some,v1,Out.ret_some,Prod.mk.injEq]at h
    obtain⟨ys,hc,z,hz,rfl,rfl⟩:=h
    rw[hr]at hx
    exact gv (indexAddr_ro_arr_sound hE ht hj hvi hc hz hx) rfl rfl (by simp[execOp,hop]) (by rw[hop];simp)
   ·rename_i r t' y hr
    simp only[Out.bind_some,Out.nth_some,v1,Out.ret_some,Prod.mk.injEq]at h
    obtain⟨ys,hc,z,hz,rfl,rfl⟩:=h
    rw[hr]at hx
    exact gv (indexAddr_rod_arr_sound hE ht hj hvi hc hz hx) rfl rfl (by simp[execOp,hop]) (by rw[hop];simp)
   ·simp[Out.run]at h
  ·rename_i u ht
   split at h
   ·rename_i r hr
    simp only[Out.bind_some]at h
    obtain⟨⟨t',xs⟩,hrow,h⟩:=h
    simp only[Out.need_some,Out.guard_some,v1,Out.ret_some,Prod.mk.injEq,beq_iff_eq,decide_eq_true_eq]at h
    obtain⟨rfl,hm,rfl,rfl⟩:=h
    rw[hr]at hx
    unfold rowL at hrow
    split at hrow
    ·rename_i hlk
     simp only[Out.ret_some,Sigma.mk.injEq]at hrow
     obtain⟨rfl,e'⟩:=hrow
     obtain rfl:=eq_of_heq e'
     exact gv (indexAddr_rf_sound hE hM hS ht hj hvi hlk hm hx) rfl rfl (by simp[execOp,hop]) (by rw[hop];simp)
    ·simp[Out.run]at hrow
   ·rename_i r off m hr
    simp only[Out.bind_some]at h
    obtain⟨⟨t',xs⟩,hrow,h⟩:=h
    simp only[Out.need_some,Out.guard_some,v1,Out.ret_some,Prod.mk.injEq,beq_iff_eq,decide_eq_true_eq]at h
    obtain⟨rfl,hm,rfl,rfl⟩:=h
    rw[hr]at hx
    unfold rowL at hrow
    split at hrow
    ·rename_i hlk
     simp only[Out.ret_some,Sigma.mk.injEq]at hrow
     obtain⟨rfl,e'⟩:=hrow
     obtain rfl:=eq_of_heq e'
     exact gv (indexAddr_sub_sound hE hM hS ht hj hvi hlk hm hx) rfl rfl (by simp[execOp,hop]) (by rw[hop];simp)
    ·simp[Out.run]at hrow
   ·rename_i r n' k off m hr
    simp only[Out.bind_some]at h
    obtain⟨⟨t',xs⟩,hrow,h⟩:=h
    simp only[Out.need_some,Out.guard_some,v1,Out.ret_some,Prod.mk.injEq,Bool.and_eq_true,beq_iff_eq,decide_eq_true_eq]at h
    obtain⟨⟨rfl,hz⟩,hm,rfl,rfl⟩:=h
    rw[hr]at hx
    exact gv (indexAddr_av_sound hE hM hS ht hj hvi hz hm hx) rfl rfl (by simp[execOp,hop]) (by rw[hop];simp)
   ·rename_i r n' k hr
    simp only[Out.bind_some]at h
    obtain⟨⟨t',xs⟩,hrow,h⟩:=h
    simp only[Out.need_some,Out.bind_some,Out.nth_some,v1,Out.ret_some,Prod.mk.injEq,beq_iff_eq]at h
    obtain⟨rfl,y,hy,rfl,rfl⟩:=h
    rw[hr]at hx
    exact gv (indexAddr_nst_sound hE hM hS ht hj hvi hrow hy hx) rfl rfl (by simp[execOp,hop]) (by rw[hop];simp)
   ·rename_i r t' xs hr
    simp only[Out.need_some,Out.bind_some,Out.nth_some,v1,Out.ret_some,Prod.mk.injEq,beq_iff_eq]at h
    obtain⟨rfl,y,hy,rfl,rfl⟩:=h
    rw[hr]at hx
    exact gv (indexAddr_lent_sound hE ht hj hvi hy hx) rfl rfl (by simp[execOp,hop]) (by rw[hop];simp)
   ·rename_i t' xs hr
    simp only[Out.need_some,Out.bind_some,Out.nth_some,v1,Out.ret_some,Prod.mk.injEq,beq_iff_eq]at h
    obtain⟨rfl,y,hy,rfl,rfl⟩:=h
    rw[hr]at hx
    exact gv (indexAddr_bor_sound hE ht hj hvi hy hx) rfl rfl (by simp[execOp,hop]) (by rw[hop];simp)
   ·simp[Out.run]at h
  ·simp[Out.run]at h
 case index t x i=>
  have hx:=hρ x
  have hvi:=hρ i
  simp only[Out.bind_some]at h
  obtain⟨j,hj,h⟩:=h
  split at h
  ·rename_i s hr
   simp only[Out.need_some,Out.bind_some,Out.nth_some,v1,Out.ret_some,Prod.mk.injEq,beq_iff_eq]at h
   obtain⟨ht,c,hc,rfl,rfl⟩:=h
   rw[hr]at hx
   exact gv (index_str_sound (k:=t) hE ht hj hvi hc hx) rfl rfl (by simp[execOp,hop]) (by rw[hop];simp)
  ·rename_i m u xs hr
   simp only[Out.need_some,Out.bind_some,Out.nth_some,v1,Out.ret_some,Prod.mk.injEq,Bool.and_eq_true,beq_iff_eq]at h
   obtain⟨⟨ht,_⟩,y,hy,rfl,rfl⟩:=h
   rw[hr]at hx
   exact gv (index_arr_sound hE ht hj hvi hy hx) rfl rfl (by simp[execOp,hop]) (by rw[hop];simp)
  ·simp[Out.run]at h
 case call c=>
  have hmap:(c.args.map a.eval).toList=c.args.toList.map a.eval:=by simp
  split at h
  ·rename_i f hcal
   have hx:=hρ f
   split at h
   ·rename_i g caps hr
    split at h
    ·rename_i z hz
     obtain⟨hins,hcall⟩:=hsp.ins g z hz
     rw[hr]at hx
     obtain⟨vs,hv,hcs⟩:=vrel_fn.1 hx
     obtain⟨hcaps,hcalls⟩:=insCall_sound (v:=c.args.toList.map a.eval) hins hE hM hS (fun x hx=>hnew _ x hx (Nat.le_refl _) hid) h (by
      have key: ∀l:List Operand,All2 (VRel γ (Dom lk) w (Owned B lk)) (l.map ρ) (l.map a.eval):=fun l=>by
       induction l with
       |nil=>exact .nil
       |cons x l ih=>exact .cons (hρ x) ih
      exact key _)
     subst hcaps
     obtain rfl:vs=[]:=by simpa only[LRels]using hcs
     refine wp_ent (g:=g) (args:=(c.args.toList.map a.eval).toArray) (w':=w) ?_ (by rw[hop];simp) (hcalls.mono fun e' w'' he=>?_)
     ·have hargs:c.args.map a.eval=(c.args.toList.map a.eval).toArray:=by
       apply Array.ext';simp
      simp[execOp,hop,resolve,hcal,hv,Deferred.ofValue,invoke,run_callFunc hcall,hargs]
     ·obtain⟨v',γ',B',rfl,hp⟩:=he
      exact hn _ _ _ _ hp
    split at h
    ·rename_i it hit
     simp only[Out.need_some,Bool.and_eq_true]at h
     obtain⟨⟨hnt,hcaps⟩,h⟩:=h
     have hcaps':caps=[]:=by simpa using hcaps
     subst hcaps'
     rw[hr]at hx
     obtain⟨vs,hv,hcs⟩:=vrel_fn.1 hx
     obtain rfl:vs=[]:=by simpa only[LRels]using hcs
     obtain⟨hmk,hcall⟩:=hsp.it g it hit
     have hcalls:=itS_sound hM h0 hS hmk (vrels_map hρ c.args.toList hnt) (notTup_all hnt) h
     refine wp_ent (g:=g) (args:=(c.args.toList.map a.eval).toArray) (w':=w) ?_ (by rw[hop];simp) (hcalls.mono fun e' w'' he=>?_)
     ·have hargs:c.args.map a.eval=(c.args.toList.map a.eval).toArray:=by
       apply Array.ext';simp
      simp[execOp,hop,resolve,hcal,hv,Deferred.ofValue,invoke,run_callFunc hcall,hargs]
     ·cases e' with
      |returned v=>obtain⟨γ',B',hp⟩:=he;exact hn _ _ _ _ hp
      |panicked c=>exact he.elim
      |outgrown=>exact he.elim
    simp only[Out.need_some]at h
    obtain⟨hnt,h⟩:=h
    rw[Bool.and_eq_true]at hnt
    obtain⟨hnt,hcap⟩:=hnt
    split at h
    ·rename_i s hpick
     rw[hr]at hx
     obtain⟨vs,hv,hcs⟩:=vrel_fn.1 hx
     obtain⟨hcon,hcall⟩:=hsp.con g s (pickS_mem hpick)
     rw[List.all_append,Bool.and_eq_true]at hnt
     have hvr:VRels γ (Dom lk) w (Owned B lk) (nilArgs e ρ c.argTypes.toList c.args.toList++caps) (c.args.toList.map a.eval++vs):=by
      have h1:=vrels_nil hρ c.argTypes.toList c.args.toList hnt.1
      have h2:VRels γ (Dom lk) w (Owned B lk) caps vs:=by
       have key: ∀(ps:List PV) (vs:List Value),LRels γ (Dom lk) w (Owned B lk) ps vs→capOKL ps=true→VRels γ (Dom lk) w (Owned B lk) ps vs:=by
        intro ps
        induction ps with
        |nil=>intro vs h _;simp only[LRels]at h;exact h
        |cons p ps ih=>
         intro vs h hc
         simp only[LRels]at h
         obtain⟨v,vs',rfl,h1,h2⟩:=h
         simp only[capOKL,Bool.and_eq_true]at hc
         exact⟨v,vs',rfl,VRel0.of ((VRel.cap hc.1).2 h1) (fun ps' e'=>by rw[e']at hc;simp[capOK]at hc),ih vs' h2 hc.2⟩
       exact key _ _ hcs hcap
      have key: ∀(ps qs:List PV) (vs us:List Value),VRels γ (Dom lk) w (Owned B lk) ps vs→VRels γ (Dom lk) w (Owned B lk) qs us→VRels γ (Dom lk) w (Owned B lk) (ps++qs) (vs++us):=by
       intro ps
       induction ps with
       |nil=>intro qs vs us h1 h2;obtain rfl:vs=[]:=h1;exact h2
       |cons p ps ih=>
        rintro qs vs us ⟨v,vs',rfl,h1,h2⟩ h3
        exact⟨v,_,rfl,h1,ih qs vs' us h2 h3⟩
      exact key _ _ _ _ h1 h2
     have hcalls:=callS_sound hM h0 hS hcon hvr (notTup_all (by rw[List.all_append,Bool.and_eq_true];exact hnt)) h hnew
     refine wp_ent (g:=g) (args:=(c.args.toList.map a.eval++vs).toArray) (w':=w) ?_ (by rw[hop];simp) (hcalls.mono fun e' w'' he=>?_)
     ·have hargs:c.args.map a.eval++vs.toArray=(c.args.toList.map a.eval++vs).toArray:=by
       apply Array.ext';simp
      simp[execOp,hop,resolve,hcal,hv,Deferred.ofValue,invoke,run_callFunc hcall,hargs]
     ·cases e' with
      |returned v=>obtain⟨γ',B',hp⟩:=he;exact hn _ _ _ _ hp
      |panicked c=>exact he.elim
      |outgrown=>exact he.elim
    ·simp[Out.run]at h
   ·simp[Out.run]at h
  ·rename_i hcal
   split at h
   ·rename_i x t ts hargs htys
    simp only[Out.bind_some,v1,Out.ret_some,Prod.mk.injEq]at h
    obtain⟨m,hm,rfl,rfl⟩:=h
    have ha:c.args= #[x]:=by apply Array.ext';simpa using hargs
    have ht0:c.argTypes[0]?=some t:=by rw[←Array.getElem?_toList,htys];rfl
    exact gv (s:=Builtin.len_ c.argTypes o.type #[a.eval x]) (len_sound hE hM hS ht0 hm (hρ x)) rfl rfl (by simp[execOp,hop,resolve,hcal,invoke,builtin,ha]) (by rw[hop];simp)
   ·simp[Out.run]at h
  ·rename_i hcal
   simp only[Out.need_some]at h
   obtain⟨hnt,h⟩:=h
   obtain⟨h',rfl⟩:=bind_v1 h
   have:=minmaxV_sound (mx:=false) (vs:=c.args.map a.eval) (ts:=c.argTypes) (t:=o.type) (P:=P) h' (by rw[hmap];exact vrels_map hρ _ hnt)
   exact gv this rfl rfl (by simp[execOp,hop,resolve,hcal,invoke,builtin]) (by rw[hop];simp)
  ·rename_i hcal
   simp only[Out.need_some]at h
   obtain⟨hnt,h⟩:=h
   obtain⟨h',rfl⟩:=bind_v1 h
   have:=minmaxV_sound (mx:=true) (vs:=c.args.map a.eval) (ts:=c.argTypes) (t:=o.type) (P:=P) h' (by rw[hmap];exact vrels_map hρ _ hnt)
   exact gv this rfl rfl (by simp[execOp,hop,resolve,hcal,invoke,builtin]) (by rw[hop];simp)
  ·rename_i hcal
   split at h
   ·rename_i x y t u hargs htys
    have ha:c.args= #[x,y]:=by apply Array.ext';simpa using hargs
    have ht:c.argTypes= #[t,u]:=by apply Array.ext';simpa using htys
    have hid':lk id=none:=appendV_id h hnew hid
    obtain⟨v',w',γ',B',h1,h2⟩:=appendV_sound (rt:=o.type) hE hM hS hid' h (nilConst_rel (hρ x)) (nilConst_rel (hρ y))
    exact pv h1 h2 (by simp[execOp,hop,resolve,hcal,invoke,builtin,ha,ht]) (by rw[hop];simp)
   ·simp[Out.run]at h
  ·rename_i hcal
   split at h
   ·rename_i x y t u hargs htys
    have ha:c.args= #[x,y]:=by apply Array.ext';simpa using hargs
    have ht:c.argTypes= #[t,u]:=by apply Array.ext';simpa using htys
    obtain⟨v',w',γ',B',h1,h2⟩:=copyV_sound (rt:=o.type) hE hM hS h (hρ x) (hρ y)
    exact pv h1 h2 (by simp[execOp,hop,resolve,hcal,invoke,builtin,ha,ht]) (by rw[hop];simp)
   ·simp[Out.run]at h
  ·simp[Out.run]at h
 case extract x i=>
  have hx:=hρ x
  split at h
  ·rename_i vs hr
   split at h
   ·rename_i q hq
    simp only[v1,Out.ret_some,Prod.mk.injEq]at h
    obtain⟨rfl,rfl⟩:=h
    rw[hr]at hx
    obtain⟨ws,hv,hvs⟩:=hx
    obtain⟨v,h1,h2⟩:=vrels_get hvs hq
    refine gv (s:=Instr.extract (a.eval x) i) ⟨v,?_,VRel.of0 h2 (fun ps e'=>by subst e';exact vrel_tup0 h2)⟩ rfl rfl (by simp[execOp,hop]) (by rw[hop];simp)
    rw[hv]
    simp[Instr.extract,h1]
   ·simp[Out.run]at h
  ·simp[Out.run]at h
end
end Go.Vm
namespace Go.Vm
open Go
def evF(T:Nat→PV):Operand→PV
 | .tmp t=>T t| .const v=>constV v| .func f=> .fn f []| .global _=> .undef
theorem ev_eq(l:List (Nat×PV)):ev l=evF (getT l):=by funext x;cases x<;>rfl
def putF(T:Nat→PV)(d:Option Nat)(v:PV):Nat→PV:=match d with|some d=>fun t=>if t=d then v else T t|none=>T
theorem getT_ins(l:List (Nat×PV))(d:Nat)(v:PV):getT (ins l d v)=putF (getT l) (some d) v:=by
 funext t
 simp only[getT,look_ins,putF]
 by_cases h:t=d<;>simp[h]
theorem getT_putT(l:List (Nat×PV))(d:Option Nat)(v:PV):getT (putT l d v)=putF (getT l) d v:=by
 cases d with
 |none=>rfl
 |some d=>exact getT_ins l d v
theorem kill2_undef(K:List Nat):kill2 K .undef= .undef:=by simp[kill2,kill1]
theorem kill1_nil(v:PV):kill1 [] v=v:=by
 have:((nstOf v).any fun r=>([]:List Nat).contains r)=false:=by rw[List.any_eq_false];simp
 simp only[kill1,this];rfl
theorem kill2_nil(v:PV):kill2 [] v=v:=by
 unfold kill2
 split
 ·have:kill1 ([]:List Nat)=fun v=>v:=by funext v;exact kill1_nil v
  rw[this];simp
 ·exact kill1_nil v
theorem getT_kill(K:List Nat)(l:List (Nat×PV)):getT (kill K l)=fun t=>kill2 K (getT l t):=by
 funext t
 cases K with
 |nil=>rw[kill2_nil];rfl
 |cons k K=>
  have key: ∀l:List (Nat×PV),getT (l.map fun(t,v)=>(t,kill2 (k::K) v)) t=kill2 (k::K) (getT l t):=by
   intro l
   induction l with
   |nil=>simp[getT,look,kill2_undef]
   |cons a l ih=>
    obtain⟨s,v⟩:=a
    simp only[getT,List.map_cons,look]at ih⊢
    cases s==t<;>simp_all
  exact key l
theorem mem_hitT{K:List Nat}{l:List (Nat×PV)}{t:Nat}(h:(nstOf (getT l t)).any (K.contains ·)=true):t∈hitT K l:=by
 cases K with
 |nil=>
  have:((nstOf (getT l t)).any fun r=>([]:List Nat).contains r)=false:=by rw[List.any_eq_false];simp
  rw[this]at h;cases h
 |cons k K=>
  simp only[hitT,List.mem_filterMap]
  have key: ∀l:List (Nat×PV),(nstOf (getT l t)).any ((k::K).contains ·)=true→ ∃a∈l,a.1=t∧(nstOf a.2).any ((k::K).contains ·)=true:=by
   intro l
   induction l with
   |nil=>intro h;simp[getT,look,nstOf]at h
   |cons a l ih=>
    obtain⟨s,v⟩:=a
    intro h
    by_cases e:s=t
    ·subst e
     simp only[getT,look,beq_self_eq_true,cond_true]at h
     exact⟨_,List.mem_cons_self,rfl,h⟩
    ·have e':(s==t)=false:=by simpa using e
     simp only[getT,look,e',cond_false]at h
     obtain⟨a,ha,h'⟩:=ih h
     exact⟨a,List.mem_cons_of_mem _ ha,h'⟩
  obtain⟨⟨s,v⟩,ha,e,hv⟩:=key l h
  dsimp only at e hv
  subst e
  exact⟨(s,v),ha,by simp only[hv,cond_true]⟩
def fstep(e:Env)(o:Oper)(T:Nat→PV)(lk:Look):Option ((Nat→PV)×Look×List Nat×List Nat×List Nat):=
 ((eff e o.op o.type (nid o.dst) (evF T) (restr lk (reach lk (dpO o.op) (opIds (evF T) o.op)))).run).bind fun x=>
  if newOK lk (reach lk (dpO o.op) (opIds (evF T) o.op)) (nid o.dst) x.2 then some (putF (fun t=>kill2 (kills lk x.2) (T t)) o.dst x.1,updF lk x.2,reach lk (dpO o.op) (opIds (evF T) o.op)++nstOf x.1,x.2.map (·.1),kills lk x.2)else none
def gdec(all:List Oper)(o:Oper)(T:Nat→PV):Option Bool:=
 match o.guard with
 |none=>some true
 |some (j,want)=>match(all[j]?).bind (·.dst)with
  |none=>some false
  |some d=>match T d with
   | .sc .bool b=>some (b==want)
   | .tup []=>some false
   |_=>none
def gfstep(e:Env)(all:List Oper)(o:Oper)(T:Nat→PV)(lk:Look):Option ((Nat→PV)×Look×List Nat×List Nat×List Nat):=
 match gdec all o T with
 |some true=>fstep e o T lk
 |some false=>some (putF T o.dst (.tup []),lk,[],[],[])
 |none=>none
def Hits(K:List Nat)(T:Nat→PV)(kt:List Nat):Prop:= ∀t,(nstOf (T t)).any (K.contains ·)=true→t∈kt
theorem Hits.nil(T:Nat→PV)(kt:List Nat):Hits [] T kt:=fun t h=>by
 have:((nstOf (T t)).any fun r=>([]:List Nat).contains r)=false:=by rw[List.any_eq_false];simp
 rw[this]at h;cases h
theorem stepO_f{e:Env}{o:Oper}{s s':St}{r wr kt:List Nat}(h:(stepO e o s).run=some (s',r,wr,kt)): ∃K,fstep e o (getT s.tm) (look s.roots)=some (getT s'.tm,look s'.roots,r,wr,K)∧Hits K (getT s.tm) kt:=by
 simp only[stepO,Out.bind_some,ev_eq]at h
 obtain⟨⟨v,up⟩,h1,h⟩:=h
 simp only[Out.cond_some,Out.ret_some,Out.fail_some,and_false,or_false,Prod.mk.injEq]at h
 obtain⟨h2,rfl,rfl,rfl,rfl⟩:=h
 refine⟨kills (look s.roots) up,?_,fun t ht=>mem_hitT ht⟩
 simp only[fstep,h1,Option.bind_some,h2,if_true,Option.some.injEq,Prod.mk.injEq,and_true]
 exact⟨by rw[getT_putT,getT_kill],(look_upd _ _).symm⟩
theorem putF_same{T:Nat→PV}{d:Nat}{v:PV}(h:T d=v):putF T (some d) v=T:=by
 funext t;simp only[putF];split
 ·rename_i e;rw[e,h]
 ·rfl
theorem gstep_f{e:Env}{all:List Oper}{o:Oper}{s s':St}{r wr kt:List Nat}(h:(gstep e all o s).run=some (s',r,wr,kt)): ∃K,gfstep e all o (getT s.tm) (look s.roots)=some (getT s'.tm,look s'.roots,r,wr,K)∧Hits K (getT s.tm) kt:=by
 unfold gstep at h
 unfold gfstep
 split at h
 ·rename_i hg
  have:gdec all o (getT s.tm)=some true:=by simp[gdec,hg]
  rw[this];exact stepO_f h
 ·rename_i j want hg
  split at h
  ·rename_i hd
   have:gdec all o (getT s.tm)=some false:=by simp[gdec,hg,hd]
   rw[this]
   simp only[passed,Out.ret_some,Prod.mk.injEq]at h
   obtain⟨rfl,rfl,rfl,rfl⟩:=h
   exact⟨[],by simp[getT_putT],Hits.nil _ _⟩
  ·rename_i d hd
   split at h
   ·rename_i b hT
    have hdec:gdec all o (getT s.tm)=some (b==want):=by simp[gdec,hg,hd,hT]
    rw[hdec]
    have e1: ∀c:Bool,b=c→getT (ins s.tm d (.sc .bool c))=getT s.tm:=fun c hc=>by rw[getT_ins];exact putF_same (by rw[hT,hc])
    simp only[Out.br_some]at h
    rcases h with⟨hb,h⟩|⟨hb,h⟩
    ·subst hb
     cases want
     ·simp only[passed,cond_false,Out.ret_some,Prod.mk.injEq]at h
      obtain⟨rfl,rfl,rfl,rfl⟩:=h
      exact⟨[],by simp[getT_putT,e1 true rfl],Hits.nil _ _⟩
     ·simp only[cond_true]at h
      have:=stepO_f h
      rw[e1 true rfl]at this
      simpa using this
    ·subst hb
     cases want
     ·simp only[cond_false]at h
      have:=stepO_f h
      rw[e1 false rfl]at this
      simpa using this
     ·simp only[passed,cond_true,Out.ret_some,Prod.mk.injEq]at h
      obtain⟨rfl,rfl,rfl,rfl⟩:=h
      exact⟨[],by simp[getT_putT,e1 false rfl],Hits.nil _ _⟩
   ·rename_i hT
    have:gdec all o (getT s.tm)=some false:=by simp[gdec,hg,hd,hT]
    rw[this]
    simp only[passed,Out.ret_some,Prod.mk.injEq]at h
    obtain⟨rfl,rfl,rfl,rfl⟩:=h
    exact⟨[],by simp[getT_putT],Hits.nil _ _⟩
   ·simp[Out.run]at h
theorem reach_eq(lk lk':Look): ∀(n:Nat) (l:List Nat),(∀s∈reach lk n l,lk' s=lk s)→reach lk' n l=reach lk n l
 |0,l,_=>rfl
 |n+1,l,hs=>by
  simp only[reach]
  have e:(l.flatMap fun r=>idsR (lk' r))=l.flatMap fun r=>idsR (lk r):=by
   have key: ∀(m:List Nat),(∀s∈m,s∈l)→(m.flatMap fun r=>idsR (lk' r))=m.flatMap fun r=>idsR (lk r):=by
    intro m
    induction m with
    |nil=>intro _;rfl
    |cons a m ih=>
     intro hm
     rw[List.flatMap_cons,List.flatMap_cons,ih (fun s hs=>hm s (by simp[hs])),hs a (by simp only[reach,List.mem_append];exact .inl (hm a (by simp)))]
   exact key l (fun _ h=>h)
  rw[e,reach_eq lk lk' n _ (fun s hs'=>hs s (by simp only[reach,List.mem_append];exact .inr hs'))]
theorem nstOf_ids:(∀v:PV,∀r∈nstOf v,r∈ids v)∧(∀vs:List PV,∀r∈nstOfL vs,r∈idsL vs):=by
 have key: ∀(v:PV),∀r∈nstOf v,r∈ids v:=by
  intro v
  refine PV.rec (motive_1:=fun v=> ∀r∈nstOf v,r∈ids v) (motive_2:=fun vs=> ∀r∈nstOfL vs,r∈idsL vs) ?_ ?_ ?_ ?_ ?_ ?_ ?_ ?_ ?_ ?_ ?_ ?_ ?_ ?_ ?_ ?_ ?_ ?_ v<;>intros<;>simp_all [nstOf,ids,nstOfL,idsL]
  all_goals (rename_i h;rcases h with h|h<;>simp_all)
 refine⟨key,fun vs=>?_⟩
 induction vs with
 |nil=>simp[nstOfL]
 |cons v vs ih=>
  intro r hr
  simp only[nstOfL,List.mem_append]at hr
  simp only[idsL,List.mem_append]
  exact hr.imp (key v r) (ih r)
theorem kill1_out{K:List Nat}{v:PV}(h: ∀r∈nstOf v,r∉K):kill1 K v=v:=by
 have:((nstOf v).any fun r=>K.contains r)=false:=by
  rw[List.any_eq_false];intro r hr;simpa using h r hr
 simp only[kill1,this];rfl
theorem kill2_out{K:List Nat}{v:PV}(h: ∀r∈nstOf v,r∉K):kill2 K v=v:=by
 unfold kill2
 split
 ·rename_i ps
  have key: ∀ps:List PV,(∀r∈nstOfL ps,r∉K)→ps.map (kill1 K)=ps:=by
   intro ps
   induction ps with
   |nil=>intro _;rfl
   |cons p ps ih=>
    intro h
    simp only[nstOfL,List.mem_append]at h
    rw[List.map_cons,ih (fun r hr=>h r (.inr hr)),kill1_out (fun r hr=>h r (.inl hr))]
  rw[key ps (by simpa[nstOf]using h)]
 ·exact kill1_out h
theorem kill1_comm(K K':List Nat)(v:PV):kill1 K (kill1 K' v)=kill1 K' (kill1 K v):=by
 have ht: ∀(K:List Nat) (v:PV),((nstOf v).any fun r=>K.contains r)=true→kill1 K v= .undef:=fun K v h=>by unfold kill1;rw[h];rfl
 have hf: ∀(K:List Nat) (v:PV),((nstOf v).any fun r=>K.contains r)=false→kill1 K v=v:=fun K v h=>by unfold kill1;rw[h];rfl
 have hu: ∀(K:List Nat),kill1 K .undef= .undef:=fun K=>rfl
 cases h:((nstOf v).any fun r=>K.contains r)<;>cases h':((nstOf v).any fun r=>K'.contains r)
 ·rw[hf K v h,hf K' v h',hf K v h]
 ·rw[hf K v h,ht K' v h',hu]
 ·rw[ht K v h,hf K' v h',ht K v h,hu]
 ·rw[ht K v h,ht K' v h',hu,hu]
theorem kill1_notAg(K:List Nat)(v:PV)(h: ∀ps,v≠ .ag ps): ∀ps,kill1 K v≠ .ag ps:=by
 intro ps
 unfold kill1
 cases ((nstOf v).any fun r=>K.contains r)<;>simp[h]
theorem kill2_notAg(K:List Nat)(v:PV)(h: ∀ps,v≠ .ag ps):kill2 K v=kill1 K v:=by
 unfold kill2
 split
 ·rename_i ps;exact absurd rfl (h ps)
 ·rfl
theorem kill2_comm(K K':List Nat)(v:PV):kill2 K (kill2 K' v)=kill2 K' (kill2 K v):=by
 by_cases h: ∃ps,v= .ag ps
 ·obtain⟨ps,rfl⟩:=h
  simp only[kill2,List.map_map]
  congr 1
  apply List.map_congr_left
  intro p _
  exact kill1_comm K K' p
 ·have h': ∀ps,v≠ .ag ps:=fun ps e=>h ⟨ps,e⟩
  rw[kill2_notAg K' v h',kill2_notAg K v h',kill2_notAg K _ (kill1_notAg K' v h'),kill2_notAg K' _ (kill1_notAg K v h'),kill1_comm]
theorem kill2_sub(K:List Nat)(v:PV): ∀r∈nstOf (kill2 K v),r∈nstOf v:=by
 have k1: ∀v:PV,∀r∈nstOf (kill1 K v),r∈nstOf v:=by
  intro v r h
  unfold kill1 at h
  cases hh:((nstOf v).any fun r=>K.contains r)
  ·rw[hh]at h;exact h
  ·rw[hh]at h;simp[nstOf]at h
 intro r h
 unfold kill2 at h
 split at h
 ·rename_i ps
  simp only[nstOf]at h⊢
  induction ps with
  |nil=>simp[nstOfL]at h
  |cons p ps ih=>
   simp only[List.map_cons,nstOfL,List.mem_append]at h⊢
   exact h.imp (k1 p r) ih
 ·exact k1 v r h
theorem putF_comm{T:Nat→PV}{a b:Option Nat}{v u:PV}(h: ∀d,a=some d→b≠some d):putF (putF T a v) b u=putF (putF T b u) a v:=by
 funext t
 cases a with
 |none=>rfl
 |some d=>
  cases b with
  |none=>rfl
  |some d'=>
   have hne:d≠d':=fun e=>h d rfl (by rw[e])
   simp only[putF]
   by_cases h1:t=d<;>by_cases h2:t=d'<;>simp_all
theorem kill_putF{T:Nat→PV}{d:Option Nat}{v:PV}{K:List Nat}(h:kill2 K v=v):(fun t=>kill2 K (putF T d v t))=putF (fun t=>kill2 K (T t)) d v:=by
 funext t
 cases d with
 |none=>rfl
 |some d=>simp only[putF];split<;>simp[h]
theorem updF_comm: ∀(u v:Ups) (lk:Look),(∀r∈u.map (·.1),r∉v.map (·.1))→updF (updF lk u) v=updF (updF lk v) u:=by
 intro u v lk h
 funext s
 have key: ∀(u:Ups) (lk lk':Look) (s:Nat),s∈u.map (·.1)→updF lk u s=updF lk' u s:=by
  intro u
  induction u with
  |nil=>intro lk lk' s h;simp at h
  |cons a u ih=>
   obtain⟨r,x⟩:=a
   intro lk lk' s hs
   by_cases hu:s∈u.map (·.1)
   ·exact ih _ _ s hu
   ·have:s=r:=by simpa[hu]using hs
    subst this
    simp only[updF]
    rw[updF_out u _ _ hu,updF_out u _ _ hu];simp[setF]
 by_cases hu:s∈u.map (·.1)
 ·rw[updF_out v _ s (h s hu)]
  exact key u _ _ s hu
 ·rw[updF_out u _ s hu]
  by_cases hv:s∈v.map (·.1)
  ·exact key v _ _ s hv
  ·rw[updF_out v _ s hv,updF_out v _ s hv,updF_out u _ s hu]
theorem kills_eq{lk lk':Look}: ∀(u:Ups),(∀r∈u.map (·.1),lk' r=lk r)→kills lk' u=kills lk u
 |[],_=>rfl
 |(r,x)::u,h=>by
  simp only[kills]
  rw[h r (by simp),kills_eq u (fun s hs=>h s (by simp only[List.map_cons];exact List.mem_cons_of_mem _ hs))]
theorem kills_sub(lk:Look): ∀(u:Ups),∀r∈kills lk u,r∈u.map (·.1)
 |[],r,h=>by simp[kills]at h
 |(s,x)::u,r,h=>by
  simp only[kills]at h
  simp only[List.map_cons,List.mem_cons]
  split at h
  ·rename_i t _ _ _
   cases hf:t.flat
   ·rw[hf]at h
    simp only[cond_false,List.mem_cons]at h
    exact h.imp id (kills_sub lk u r)
   ·rw[hf]at h;exact .inr (kills_sub lk u r h)
  ·simp only[List.mem_cons]at h
   exact h.imp id (kills_sub lk u r)
  ·exact .inr (kills_sub lk u r h)
theorem newOK_eq{lk lk':Look}{rd:List Nat}{id:Nat}: ∀(u:Ups),(∀r∈u.map (·.1),lk' r=lk r)→newOK lk' rd id u=newOK lk rd id u
 |[],_=>rfl
 |(r,some x)::u,h=>by
  simp only[newOK]
  rw[h r (by simp),newOK_eq u (fun s hs=>h s (by simp only[List.map_cons];exact List.mem_cons_of_mem _ hs))]
 |(r,none)::u,h=>by
  simp only[newOK]
  rw[h r (by simp),newOK_eq u (fun s hs=>h s (by simp only[List.map_cons];exact List.mem_cons_of_mem _ hs))]
theorem apartB_spec{a b:List Nat}(h:apartB a b=true): ∀r∈a,r∉b:=fun r hr=>by
 have:=List.all_eq_true.1 h r hr
 simpa using this
theorem mem_tmpsOf{o:Oper}{t:Nat}:t∈tmpsOf o↔Operand.tmp t∈o.op.operands.toList:=by
 simp only[tmpsOf,List.mem_filterMap]
 constructor
 ·rintro⟨x,hx,h⟩
  cases x<;>simp_all
 ·intro h;exact⟨_,h,rfl⟩
end Go.Vm
namespace Go.Vm
open Go
theorem parts_congr{ρ ρ':Operand→PV}{parts:Array (Nat×Operand)}(h: ∀x∈(parts.toList.map (·.2)),ρ x=ρ' x):(parts.toList.map fun(i,x)=>(i,ρ x))=parts.toList.map fun(i,x)=>(i,ρ' x):=by
 apply List.map_congr_left
 intro a ha
 obtain⟨i,x⟩:=a
 have:=h x (List.mem_map.2 ⟨_,ha,rfl⟩)
 simp[this]
theorem nilArgs_congr{e:Env}{ρ ρ':Operand→PV}: ∀(ts:List Nat) (l:List Operand),(∀x∈l,ρ x=ρ' x)→nilArgs e ρ ts l=nilArgs e ρ' ts l
 |_::_,[],_=>rfl
 |[],[],_=>rfl
 |t::ts,x::l,h=>by rw[nilArgs,nilArgs,h x (by simp),nilArgs_congr ts l fun y hy=>h y (by simp[hy])]
 |[],x::l,h=>by rw[nilArgs,nilArgs,h x (by simp),nilArgs_congr [] l fun y hy=>h y (by simp[hy])]
theorem eff_congr(e:Env)(op:Op)(ty id:Nat){ρ ρ':Operand→PV}(lk:Look)(h: ∀x∈op.operands.toList,ρ x=ρ' x):eff e op ty id ρ lk=eff e op ty id ρ' lk:=by
 cases op<;>simp only[Op.operands]at h<;>try rfl
 case move x=>simp only[eff];rw[h x (by simp)]
 case assign x=>simp only[eff];rw[h x (by simp)]
 case pick c a b=>simp only[eff];rw[h c (by simp),h a (by simp),h b (by simp)]
 case box t x=>simp only[eff];rw[h x (by simp)]
 case build t parts=>
  simp only[eff]
  rw[parts_congr (by simpa using h)]
 case buildSlice t n parts=>
  simp only[eff]
  rw[parts_congr (by simpa using h)]
 case load t x=>simp only[eff];rw[h x (by simp)]
 case store t x y=>simp only[eff];rw[h x (by simp),h y (by simp)]
 case nilCheck x=>simp only[eff];rw[h x (by simp)]
 case binOp op t x y t'=>simp only[eff];rw[h x (by simp),h y (by simp)]
 case unOp op t x=>simp only[eff];rw[h x (by simp)]
 case convert s t x=>simp only[eff];rw[h x (by simp)]
 case makeFunc f first caps=>
  cases f<;>try rfl
  simp only[eff]
  have:caps.toList.map ρ=caps.toList.map ρ':=List.map_congr_left fun x hx=>h x (by simp;exact .inr (by simpa using hx))
  rw[this]
 case makeSlice t a b=>simp only[eff];rw[h a (by simp),h b (by simp)]
 case slice t x lo hi mx=>
  cases mx with
  |some m=>rfl
  |none=>
   simp only[eff]
   rw[h x (by simp)]
   have h1:lo.map ρ=lo.map ρ':=by cases lo<;>simp_all
   have h2:hi.map ρ=hi.map ρ':=by cases hi<;>simp_all
   rw[h1,h2]
 case fieldAddr t x f=>simp only[eff];rw[h x (by simp)]
 case field t x f=>simp only[eff];rw[h x (by simp)]
 case indexAddr t x i=>simp only[eff];rw[h x (by simp),h i (by simp)]
 case index t x i=>simp only[eff];rw[h x (by simp),h i (by simp)]
 case extract x i=>simp only[eff];rw[h x (by simp)]
 case sliceToArrayPointer t x=>simp only[eff];rw[h x (by simp)]
 case lookup t x i c=>simp only[eff];rw[h x (by simp),h i (by simp)]
 case mapUpdate t m k v=>simp only[eff];rw[h m (by simp),h k (by simp),h v (by simp)]
 case call c=>
  simp only[eff]
  have hm:c.args.toList.map ρ=c.args.toList.map ρ':=List.map_congr_left fun x hx=>h x (by simp[Call.operands];exact .inr (by simpa using hx))
  have ha: ∀x∈c.args.toList,ρ x=ρ' x:=fun x hx=>h x (by simp[Call.operands];exact .inr (by simpa using hx))
  split
  ·rename_i f hc
   rw[h f (by simp[Call.operands,hc]),hm,nilArgs_congr _ _ ha]
  ·split
   ·rename_i x t ts hx _;rw[ha x (by rw[hx];simp)]
   ·rfl
  ·rw[hm]
  ·rw[hm]
  ·split
   ·rename_i x y t u hx _;rw[ha x (by rw[hx];simp),ha y (by rw[hx];simp)]
   ·rfl
  ·split
   ·rename_i x y t u hx _;rw[ha x (by rw[hx];simp),ha y (by rw[hx];simp)]
   ·rfl
  ·rfl
theorem restr_eq{lk lk':Look}{l:List Nat}(h: ∀r∈l,lk' r=lk r):restr lk' l=restr lk l:=by
 funext r
 unfold restr
 cases hc:(!(r==0)&&l.contains r)
 ·rfl
 ·simp only[cond_true]
  simp only[Bool.and_eq_true,List.contains_iff_mem]at hc
  exact h r hc.2
theorem fstep_inv{e:Env}{o:Oper}{T T':Nat→PV}{lk lk':Look}{r wr K:List Nat}(h:fstep e o T lk=some (T',lk',r,wr,K)): ∃v up,(eff e o.op o.type (nid o.dst) (evF T) (restr lk (reach lk (dpO o.op) (opIds (evF T) o.op)))).run=some (v,up)∧newOK lk (reach lk (dpO o.op) (opIds (evF T) o.op)) (nid o.dst) up=true∧
  T'=putF (fun t=>kill2 (kills lk up) (T t)) o.dst v∧lk'=updF lk up∧r=reach lk (dpO o.op) (opIds (evF T) o.op)++nstOf v∧wr=up.map (·.1)∧K=kills lk up:=by
 unfold fstep at h
 rw[Option.bind_eq_some_iff]at h
 obtain⟨⟨v,up⟩,h1,h⟩:=h
 split at h
 ·rename_i hn
  simp only[Option.some.injEq,Prod.mk.injEq]at h
  obtain⟨rfl,rfl,rfl,rfl,rfl⟩:=h
  exact⟨v,up,h1,hn,rfl,rfl,rfl,rfl,rfl⟩
 ·cases h
theorem noLook_eq{ρ ρ':Operand→PV}{op:Op}(h: ∀x∈op.operands.toList,ρ x=ρ' x):noLook ρ op=noLook ρ' op:=by
 cases op<;>try rfl
 case indexAddr t x i=>simp only[noLook];rw[h x (by simp[Op.operands])]
theorem opIds_eq{ρ ρ':Operand→PV}{op:Op}(h: ∀x∈op.operands.toList,ρ x=ρ' x):opIds ρ op=opIds ρ' op:=by
 unfold opIds
 rw[noLook_eq h,List.map_congr_left h]
theorem mem_opIds{ρ:Operand→PV}{op:Op}{x:Operand}(hx:x∈op.operands.toList): ∀r∈nstOf (ρ x),r∈opIds ρ op:=by
 intro r hr
 have key: ∀l:List PV,ρ x∈l→r∈nstOfL l:=by
  intro l
  induction l with
  |nil=>intro h;simp at h
  |cons a l ih=>
   intro h
   simp only[nstOfL,List.mem_append]
   rcases List.mem_cons.1 h with h|h
   ·left;rw[←h];exact hr
   ·right;exact ih h
 have h1:=key _ (List.mem_map.2 ⟨x,hx,rfl⟩)
 unfold opIds
 cases noLook ρ op
 ·exact nstOf_ids.2 _ r h1
 ·exact h1
theorem fstep_swap{e:Env}{a b:Oper}{T T1 T2:Nat→PV}{lk lk1 lk2:Look}{ra wa Ka rb wb Kb:List Nat}(h1:fstep e a T lk=some (T1,lk1,ra,wa,Ka))(h2:fstep e b T1 lk1=some (T2,lk2,rb,wb,Kb))
  (ha: ∀d,a.dst=some d→d∉tmpsOf b∧b.dst≠some d) (hb: ∀d,b.dst=some d→d∉tmpsOf a) (hab: ∀r∈wa,r∉rb∧r∉wb) (hba: ∀r∈wb,r∉ra) (hk: ∀t∈tmpsOf b,¬(nstOf (T t)).any (Ka.contains ·)=true):
  ∃T1' lk1',fstep e b T lk=some (T1',lk1',rb,wb,Kb)∧fstep e a T1' lk1'=some (T2,lk2,ra,wa,Ka):=by
 obtain⟨va,upa,q1,q2,rfl,rfl,rfl,rfl,rfl⟩:=fstep_inv h1
 obtain⟨vb,upb,p1,p2,rfl,rfl,rfl,rfl,rfl⟩:=fstep_inv h2
 have hopb: ∀x∈b.op.operands.toList,evF (putF (fun t=>kill2 (kills lk upa) (T t)) a.dst va) x=evF T x:=by
  intro x hx
  cases x with
  |tmp t=>
   have ht:=mem_tmpsOf.2 hx
   simp only[evF]
   have hne: ∀d,a.dst=some d→t≠d:=fun d hd e=>(ha d hd).1 (e▸ht)
   have:putF (fun t=>kill2 (kills lk upa) (T t)) a.dst va t=kill2 (kills lk upa) (T t):=by
    cases hd:a.dst with
    |none=>rfl
    |some d=>simp only[putF];rw[if_neg (hne d hd)]
   rw[this]
   refine kill2_out fun r hr hK=>hk t ht ?_
   rw[List.any_eq_true]
   exact⟨r,hr,by simpa using hK⟩
  |const v=>rfl
  |global g=>rfl
  |func f=>rfl
 rw[opIds_eq hopb]at p1 p2 hab⊢
 rw[eff_congr e b.op b.type _ _ hopb]at p1
 have hlk: ∀r,r∉upa.map (·.1)→updF lk upa r=lk r:=fun r hr=>updF_out _ _ _ hr
 have hre:reach lk (dpO b.op) (opIds (evF T) b.op)=reach (updF lk upa) (dpO b.op) (opIds (evF T) b.op):=reach_eq (updF lk upa) lk (dpO b.op) _ (fun s hs=>(hlk s (fun h=>(hab s h).1 (List.mem_append_left _ hs))).symm)
 have hrb: ∀s∈reach lk (dpO b.op) (opIds (evF T) b.op),updF lk upa s=lk s:=fun s hs=>hlk s (fun h=>(hab s h).1 (by rw[hre]at hs;exact List.mem_append_left _ hs))
 have hwb: ∀s∈upb.map (·.1),updF lk upa s=lk s:=fun s hs=>hlk s (fun h=>(hab s h).2 hs)
 rw[←hre]at p1 p2 hab⊢
 rw[restr_eq hrb]at p1
 rw[newOK_eq upb hwb]at p2
 rw[kills_eq upb hwb]
 have hb1:fstep e b T lk=some (putF (fun t=>kill2 (kills lk upb) (T t)) b.dst vb,updF lk upb,reach lk (dpO b.op) (opIds (evF T) b.op)++nstOf vb,upb.map (·.1),kills lk upb):=by
  unfold fstep;rw[p1];simp[p2]
 refine⟨_,_,hb1,?_⟩
 have hopa: ∀x∈a.op.operands.toList,evF (putF (fun t=>kill2 (kills lk upb) (T t)) b.dst vb) x=evF T x:=by
  intro x hx
  cases x with
  |tmp t=>
   have ht:=mem_tmpsOf.2 hx
   simp only[evF]
   have hne: ∀d,b.dst=some d→t≠d:=fun d hd e=>hb d hd (e▸ht)
   have:putF (fun t=>kill2 (kills lk upb) (T t)) b.dst vb t=kill2 (kills lk upb) (T t):=by
    cases hd:b.dst with
    |none=>rfl
    |some d=>simp only[putF];rw[if_neg (hne d hd)]
   rw[this]
   refine kill2_out fun r hr hK=>?_
   have h1:=mem_opIds (ρ:=evF T) hx r hr
   exact hba r (kills_sub _ _ r hK) (List.mem_append_left _ (reach_sub _ _ _ r h1))
  |const v=>rfl
  |global g=>rfl
  |func f=>rfl
 have hlkb: ∀r,r∉upb.map (·.1)→updF lk upb r=lk r:=fun r hr=>updF_out _ _ _ hr
 have hra: ∀s∈reach lk (dpO a.op) (opIds (evF T) a.op),updF lk upb s=lk s:=fun s hs=>hlkb s (fun h=>hba s h (List.mem_append_left _ hs))
 have hrea:reach (updF lk upb) (dpO a.op) (opIds (evF T) a.op)=reach lk (dpO a.op) (opIds (evF T) a.op):=reach_eq lk (updF lk upb) (dpO a.op) _ hra
 have hwa: ∀s∈upa.map (·.1),updF lk upb s=lk s:=fun s hs=>hlkb s (fun h=>(hab s hs).2 h)
 unfold fstep
 rw[opIds_eq hopa,eff_congr e a.op a.type _ _ hopa,hrea,restr_eq hra,q1]
 simp only[Option.bind_some]
 rw[newOK_eq upa hwa,if_pos q2,kills_eq upa hwa]
 have hvb:kill2 (kills lk upa) vb=vb:=kill2_out fun r hr hK=>(hab r (kills_sub _ _ r hK)).1 (List.mem_append_right _ hr)
 have hva:kill2 (kills lk upb) va=va:=kill2_out fun r hr hK=>hba r (kills_sub _ _ r hK) (List.mem_append_right _ hr)
 simp only[Option.some.injEq,Prod.mk.injEq,and_true]
 constructor
 ·rw[kill_putF hvb,kill_putF hva]
  rw[putF_comm (a:=a.dst) (b:=b.dst) (fun d hd=>(ha d hd).2)]
  congr 2
  funext t
  exact kill2_comm _ _ _
 ·exact(updF_comm upa upb lk (fun r hr=>(hab r hr).2)).symm
theorem rootSz_eq(lk:Look)(r:Nat):rootSz lk r=match lk r with|some x=>szR x|none=>[]:=by
 unfold rootSz
 cases h:lk r with
 |none=>rfl
 |some x=>cases x<;>rfl
theorem newOK_sz{lk:Look}{rd:List Nat}{id:Nat}: ∀{u:Ups},newOK lk rd id u=true→(∀r∈u.map (·.1),r∈rd)→ ∀s x,(s,some x)∈u→ ∃y,lk s=some y∧szR y=szR x
 |[],_,_,s,x,h=>by simp at h
 |(r,some z)::u,h,hin,s,x,hm=>by
  simp only[newOK,Bool.and_eq_true]at h
  obtain⟨⟨_,h2⟩,h3⟩:=h
  rcases List.mem_cons.1 hm with hm|hm
  ·cases hm
   have hc:rd.contains r=true:=by simpa using hin r (by simp)
   rw[hc]at h2
   simp only[cond_true,Bool.and_eq_true]at h2
   obtain⟨y,hy⟩:=Option.isSome_iff_exists.1 h2.1
   have h4:=h2.2.1
   rw[hy]at h4
   exact⟨y,hy,by simpa[sameSz]using h4⟩
  ·exact newOK_sz h3 (fun q hq=>hin q (by simp only[List.map_cons];exact List.mem_cons_of_mem _ hq)) s x hm
 |(r,none)::u,h,hin,s,x,hm=>by
  simp only[newOK,Bool.and_eq_true]at h
  rcases List.mem_cons.1 hm with hm|hm
  ·cases hm
  ·exact newOK_sz h.2 (fun q hq=>hin q (by simp only[List.map_cons];exact List.mem_cons_of_mem _ hq)) s x hm
theorem updF_in: ∀(u:Ups) (lk:Look) (s:Nat),s∈u.map (·.1)→ ∃z,(s,z)∈u∧updF lk u s=some (z.getD .dead)
 |[],lk,s,h=>by simp at h
 |(r,x)::u,lk,s,h=>by
  by_cases hs:s∈u.map (·.1)
  ·obtain⟨z,h1,h2⟩:=updF_in u (setF lk r (x.getD .dead)) s hs
   exact⟨z,List.mem_cons_of_mem _ h1,h2⟩
  ·have e:s=r:=by simpa[hs]using h
   subst e
   refine⟨x,by simp,?_⟩
   rw[updF,updF_out u _ _ hs];simp[setF]
theorem rootSz_upd{lk:Look}{rd:List Nat}{id:Nat}{u:Ups}(h:newOK lk rd id u=true)(hin: ∀r∈u.map (·.1),r∈rd){s:Nat}(hne:rootSz (updF lk u) s≠[]):rootSz (updF lk u) s=rootSz lk s:=by
 by_cases hs:s∈u.map (·.1)
 ·obtain⟨z,h1,h2⟩:=updF_in u lk s hs
  rw[rootSz_eq,h2]at hne⊢
  cases z with
  |none=>exact absurd rfl hne
  |some x=>
   obtain⟨y,hy,e⟩:=newOK_sz h hin s x h1
   rw[rootSz_eq,hy]
   exact e.symm
 ·rw[rootSz_eq,rootSz_eq,updF_out u lk s hs]
theorem fieldOf_nl: ∀{t:Ty} {f k:Nat} {u:Ty},fieldOf t f=some (k,u)→u.nl≤t.nl
 | .pair a b,0,k,u,h=>by simp only[fieldOf,Option.some.injEq,Prod.mk.injEq]at h;obtain⟨_,rfl⟩:=h;simp only[Ty.nl];omega
 | .pair a b,n+1,k,u,h=>by
  simp only[fieldOf]at h
  split at h
  ·rename_i hf
   simp only[Option.some.injEq,Prod.mk.injEq]at h
   obtain⟨_,rfl⟩:=h
   have:=fieldOf_nl hf
   simp only[Ty.nl];omega
  ·cases h
 | .unit,f,k,u,h=>by simp[fieldOf]at h
 | .st t,f,k,u,h| .sl t,f,k,u,h| .arr _ t,f,k,u,h| .int _,f,k,u,h| .bool,f,k,u,h| .str,f,k,u,h| .err,f,k,u,h| .ref,f,k,u,h=>by
  cases f with
  |zero=>simp only[fieldOf,Option.some.injEq,Prod.mk.injEq]at h;obtain⟨_,rfl⟩:=h;exact Nat.le_refl _
  |succ f=>simp[fieldOf]at h
theorem lies_restr{lk:Look}{l:List Nat}{r k:Nat}{u:Ty}(h:lies (restr lk l) r k u=true)(hn:0<u.nl):rootSz lk r≠[]∧ ∀lk',rootSz lk' r=rootSz lk r→lies (restr lk' l) r k u=true:=by
 unfold lies at h⊢
 rw[rootSz_eq]at h
 unfold restr at h
 have hlen:=congrArg List.length (of_decide_eq_true h)
 rw[szT_length]at hlen
 cases hc:(!(r==0)&&l.contains r)
 ·rw[hc]at hlen;simp at hlen;omega
 ·rw[hc]at h hlen
  simp only[cond_true]at h hlen
  refine⟨fun he=>?_,fun lk' he=>?_⟩
  ·rw[rootSz_eq]at he
   rw[he]at hlen;simp at hlen;omega
  ·have:rootSz (restr lk' l) r=rootSz lk' r:=by
    rw[rootSz_eq,rootSz_eq]
    unfold restr
    rw[hc];rfl
   rw[this,he,rootSz_eq];exact h
theorem fstep_swapF{e:Env}{a b:Oper}{T T1 T2:Nat→PV}{lk lk1 lk2:Look}{ra wa Ka rb wb Kb:List Nat}(h1:fstep e a T lk=some (T1,lk1,ra,wa,Ka))(h2:fstep e b T1 lk1=some (T2,lk2,rb,wb,Kb))
  {ta tb fb:Nat} {xa ya xb:Operand} (hao:a.op= .store ta xa ya) (hbo:b.op= .fieldAddr tb xb fb) (hlen:rb.length=1) (hin: ∀s∈wa,s∈ra)
  (ha: ∀d,a.dst=some d→d∉tmpsOf b∧b.dst≠some d) (hb: ∀d,b.dst=some d→d∉tmpsOf a) (hk: ∀t∈tmpsOf b,¬(nstOf (T t)).any (Ka.contains ·)=true):
  ∃T1',fstep e b T lk=some (T1',lk,rb,wb,Kb)∧fstep e a T1' lk=some (T2,lk2,ra,wa,Ka)∧ ∀t,∀r∈nstOf (T1' t),r∈nstOf (T t):=by
 obtain⟨va,upa,q1,q2,rfl,rfl,rfl,rfl,rfl⟩:=fstep_inv h1
 obtain⟨vb,upb,p1,p2,rfl,rfl,hrb,rfl,rfl⟩:=fstep_inv h2
 have hopb: ∀x∈b.op.operands.toList,evF (putF (fun t=>kill2 (kills lk upa) (T t)) a.dst va) x=evF T x:=by
  intro x hx
  cases x with
  |tmp t=>
   have ht:=mem_tmpsOf.2 hx
   simp only[evF]
   have hne: ∀d,a.dst=some d→t≠d:=fun d hd e=>(ha d hd).1 (e▸ht)
   have:putF (fun t=>kill2 (kills lk upa) (T t)) a.dst va t=kill2 (kills lk upa) (T t):=by
    cases hd:a.dst with
    |none=>rfl
    |some d=>simp only[putF];rw[if_neg (hne d hd)]
   rw[this]
   refine kill2_out fun r hr hK=>hk t ht ?_
   rw[List.any_eq_true]
   exact⟨r,hr,by simpa using hK⟩
  |const v=>rfl
  |global g=>rfl
  |func f=>rfl
 rw[opIds_eq hopb]at p1 p2 hrb
 rw[eff_congr e b.op b.type _ _ hopb]at p1
 have hva:va= .undef:=by
  rw[hao]at q1
  simp only[eff]at q1
  split at q1
  ·split at q1
   ·simp only[Out.bind_some,Out.ret_some,Prod.mk.injEq]at q1
    obtain⟨_,_,rfl,_⟩:=q1;rfl
   ·simp[Out.run]at q1
  ·simp[Out.run]at q1
 subst hva
 have hin': ∀s∈upa.map (·.1),s∈reach lk (dpO a.op) (opIds (evF T) a.op):=fun s hs=>by
  have:=hin s hs
  simpa[nstOf]using this
 have hdp:dpO b.op=0:=by rw[hbo];rfl
 have hids:opIds (evF T) b.op=ids (evF T xb):=by
  rw[hbo];simp[opIds,noLook,Op.operands,idsL]
 rw[hdp]at p1 p2 hrb
 simp only[reach]at p1 p2 hrb
 rw[hids]at p1 p2 hrb
 have hp1:=p1
 rw[hbo]at p1
 obtain⟨r,n,k,d,hx,rfl,rfl,hres⟩: ∃r n k d,evF T xb= .ptr r n k none∧vb= .ptr r n (k+d) none∧upb=[]∧(eff e b.op b.type (nid b.dst) (evF T) (restr lk (ids (evF T xb)))).run=some (.ptr r n (k+d) none,[]):=by
  simp only[eff]at p1
  split at p1
  ·rename_i u hty
   split at p1
   ·rename_i d w hf
    split at p1
    ·rename_i r n k hx
     simp only[Out.need_some,Bool.and_eq_true,v1,Out.ret_some,Prod.mk.injEq]at p1
     obtain⟨⟨hl,hz⟩,rfl,rfl⟩:=p1
     refine⟨r,n,k,d,hx,rfl,rfl,?_⟩
     have hwz:0<w.sz:=by simpa using hz
     have hnl:0<u.nl:=by
      have h3:=fieldOf_nl hf
      have h4:=szT_sum w
      have h5:=szT_length w
      refine Nat.lt_of_lt_of_le (Nat.pos_of_ne_zero fun h0=>?_) h3
      rw[h0]at h5
      rw[List.length_eq_zero_iff.1 h5]at h4
      simp at h4;omega
     rw[hx]at hl
     obtain⟨hne,hall⟩:=lies_restr hl hnl
     have:=hall lk (rootSz_upd q2 hin' hne).symm
     rw[hbo]
     simp only[eff,hty,hf,hx,this,hz,Out.need_some,Bool.and_self,true_and,v1,Out.ret_some]
    ·rename_i t' x hx
     rw[hx]at hrb
     simp only[Out.need_some,Out.bind_some,v1,Out.ret_some,Prod.mk.injEq]at p1
     obtain⟨_,_,_,_,_,rfl,rfl⟩:=p1
     rw[hrb]at hlen;simp[ids,nstOf]at hlen
    ·rename_i r t' x hx
     rw[hx]at hrb
     simp only[Out.need_some,Out.bind_some,v1,Out.ret_some,Prod.mk.injEq]at p1
     obtain⟨_,_,_,_,_,rfl,rfl⟩:=p1
     rw[hrb]at hlen;simp[ids,nstOf]at hlen
    ·simp[Out.run]at p1
   ·simp[Out.run]at p1
  ·simp[Out.run]at p1
 have hk0:kills lk []=[]:=rfl
 have hk1:kills (updF lk upa) []=[]:=rfl
 have hb1:fstep e b T lk=some (putF (fun t=>kill2 [] (T t)) b.dst (.ptr r n (k+d) none),lk,rb,[],[]):=by
  unfold fstep
  rw[hdp]
  simp only[reach]
  rw[hids,hres]
  simp only[Option.bind_some,newOK,if_true,kills,updF,List.map_nil,hrb]
 refine⟨_,hb1,?_,fun t q hq=>?_⟩
 ·have hopa: ∀x∈a.op.operands.toList,evF (putF (fun t=>kill2 [] (T t)) b.dst (.ptr r n (k+d) none)) x=evF T x:=by
   intro x hx
   cases x with
   |tmp t=>
    have ht:=mem_tmpsOf.2 hx
    simp only[evF]
    cases hd:b.dst with
    |none=>exact kill2_nil _
    |some d'=>simp only[putF];rw[if_neg (show ¬t=d' from fun e=>hb d' hd (e▸ht))];exact kill2_nil _
   |const v=>rfl
   |global g=>rfl
   |func f=>rfl
  unfold fstep
  rw[opIds_eq hopa,eff_congr e a.op a.type _ _ hopa,q1]
  simp only[Option.bind_some]
  rw[if_pos q2]
  simp only[Option.some.injEq,Prod.mk.injEq,and_true,kills,updF]
  rw[kill_putF (v:=PV.undef) (kill2_undef []),kill_putF (v:=PV.ptr r n (k+d) none) (kill2_out (by simp[nstOf]))]
  rw[putF_comm (a:=a.dst) (b:=b.dst) (fun d hd=>(ha d hd).2)]
  congr 2
  funext t
  rw[kill2_nil,kill2_nil]
 ·cases hd:b.dst with
  |none=>rw[hd]at hq;simpa[putF,kill2_nil]using hq
  |some d'=>
   rw[hd]at hq
   simp only[putF]at hq
   split at hq
   ·simp[nstOf]at hq
   ·simpa[kill2_nil]using hq
end Go.Vm
namespace Go.Vm
open Go
theorem gdec_congr{all:List Oper}{o:Oper}{T T':Nat→PV}(h: ∀t∈guardTmp all o,T' t=T t):gdec all o T'=gdec all o T:=by
 unfold gdec
 cases hg:o.guard with
 |none=>rfl
 |some x=>
  obtain⟨j,want⟩:=x
  dsimp only
  cases hd:(all[j]?).bind (·.dst)with
  |none=>rfl
  |some d=>
   dsimp only
   rw[h d (by simp[guardTmp,hg,hd])]
theorem gdec_plain{all:List Oper}{o:Oper}{T:Nat→PV}{b:Bool}(h:gdec all o T=some b): ∀t∈guardTmp all o,nstOf (T t)=[]:=by
 intro t ht
 unfold gdec at h
 cases hg:o.guard with
 |none=>simp[guardTmp,hg]at ht
 |some x=>
  obtain⟨j,want⟩:=x
  rw[hg]at h
  dsimp only at h
  cases hd:(all[j]?).bind (·.dst)with
  |none=>simp[guardTmp,hg,hd]at ht
  |some d=>
   obtain rfl:t=d:=by simpa[guardTmp,hg,hd]using ht
   rw[hd]at h
   dsimp only at h
   split at h
   ·rename_i hT;rw[hT];rfl
   ·rename_i hT;rw[hT];rfl
   ·cases h
theorem fstep_put{e:Env}{b:Oper}{T:Nat→PV}{lk:Look}{da:Option Nat}{va:PV}{T2:Nat→PV}{lk2:Look}{rb wb Kb:List Nat}(ha: ∀d,da=some d→d∉tmpsOf b∧b.dst≠some d)(hva: ∀K,kill2 K va=va)(h:fstep e b (putF T da va) lk=some (T2,lk2,rb,wb,Kb)):
  ∃T1,fstep e b T lk=some (T1,lk2,rb,wb,Kb)∧T2=putF T1 da va:=by
 obtain⟨vb,upb,p1,p2,rfl,rfl,rfl,rfl,rfl⟩:=fstep_inv h
 have hop: ∀x∈b.op.operands.toList,evF (putF T da va) x=evF T x:=by
  intro x hx
  cases x with
  |tmp t=>
   have ht:=mem_tmpsOf.2 hx
   simp only[evF]
   cases da with
   |none=>rfl
   |some d=>simp only[putF];rw[if_neg (show ¬t=d from fun e=>(ha d rfl).1 (e▸ht))]
  |const v=>rfl
  |global g=>rfl
  |func f=>rfl
 rw[opIds_eq hop]at p1 p2⊢
 rw[eff_congr e b.op b.type _ _ hop]at p1
 refine⟨_,by unfold fstep;rw[p1];simp only[Option.bind_some];rw[if_pos p2],?_⟩
 rw[kill_putF (hva _),putF_comm (a:=da) (b:=b.dst) (fun d hd=>(ha d hd).2)]
theorem kill2_tup(K:List Nat):kill2 K (.tup [])= .tup []:=kill2_out (by simp[nstOf,nstOfL])
theorem gswap{e:Env}{all:List Oper}{a b:Oper}{T T1 T2:Nat→PV}{lk lk1 lk2:Look}{ra wa Ka rb wb Kb:List Nat}(h1:gfstep e all a T lk=some (T1,lk1,ra,wa,Ka))(h2:gfstep e all b T1 lk1=some (T2,lk2,rb,wb,Kb))
  (ha: ∀d,a.dst=some d→d∉tmpsOf b∧d∉guardTmp all b∧b.dst≠some d) (hb: ∀d,b.dst=some d→d∉tmpsOf a∧d∉guardTmp all a) (hab: ∀r∈wa,r∉rb∧r∉wb) (hba: ∀r∈wb,r∉ra) (hk: ∀t∈tmpsOf b++guardTmp all b,¬(nstOf (T t)).any (Ka.contains ·)=true):
  ∃T1' lk1',gfstep e all b T lk=some (T1',lk1',rb,wb,Kb)∧gfstep e all a T1' lk1'=some (T2,lk2,ra,wa,Ka):=by
 unfold gfstep at h1
 cases hda:gdec all a T with
 |none=>rw[hda]at h1;cases h1
 |some da=>
  rw[hda]at h1
  have hpa:=gdec_plain hda
  have hTg: ∀t∈guardTmp all b,T1 t=T t:=by
   intro t ht
   have hne: ∀d,a.dst=some d→t≠d:=fun d hd e=>(ha d hd).2.1 (e▸ht)
   have hput: ∀(U:Nat→PV) (v:PV),putF U a.dst v t=U t:=fun U v=>by
    cases hd:a.dst with
    |none=>rfl
    |some d=>simp only[putF];rw[if_neg (hne d hd)]
   cases da
   ·simp only[Option.some.injEq,Prod.mk.injEq]at h1
    rw[←h1.1];exact hput _ _
   ·obtain⟨va,upa,_,_,rfl,_,_,_,rfl⟩:=fstep_inv h1
    rw[hput]
    refine kill2_out fun r hr hK=>hk t (List.mem_append_right _ ht) ?_
    rw[List.any_eq_true]
    exact⟨r,hr,by simpa using hK⟩
  have hgb:=gdec_congr hTg
  unfold gfstep at h2
  rw[hgb]at h2
  cases hdb:gdec all b T with
  |none=>rw[hdb]at h2;cases h2
  |some db=>
   rw[hdb]at h2
   have back: ∀(U:Nat→PV),(∀t∈guardTmp all a,U t=T t)→gdec all a U=some da:=fun U hU=>by rw[gdec_congr hU,hda]
   have hne: ∀t∈guardTmp all a,∀(U:Nat→PV) (v:PV),putF U b.dst v t=U t:=fun t ht U v=>by
    cases hd:b.dst with
    |none=>rfl
    |some d=>simp only[putF];rw[if_neg (show ¬t=d from fun e=>(hb d hd).2 (e▸ht))]
   have hgf:gfstep e all b T lk=(match some db with|some true=>fstep e b T lk|some false=>some (putF T b.dst (.tup []),lk,[],[],[])|none=>none):=by
    unfold gfstep;rw[hdb];try (cases db<;>rfl)
   cases db
   ·simp only[Option.some.injEq,Prod.mk.injEq]at h2
    obtain⟨rfl,rfl,rfl,rfl,rfl⟩:=h2
    refine⟨_,_,hgf,?_⟩
    unfold gfstep
    rw[back _ (fun t ht=>hne t ht _ _)]
    cases da
    ·simp only[Option.some.injEq,Prod.mk.injEq]at h1
     obtain⟨rfl,rfl,rfl,rfl,rfl⟩:=h1
     simp only[Option.some.injEq,Prod.mk.injEq,and_true]
     exact putF_comm (a:=b.dst) (b:=a.dst) (fun d hd e=>(ha d e).2.2 hd)
    ·
     obtain⟨va,upa,q1,q2,rfl,rfl,rfl,rfl,rfl⟩:=fstep_inv h1
     have hop: ∀x∈a.op.operands.toList,evF (putF T b.dst (.tup [])) x=evF T x:=by
      intro x hx
      cases x with
      |tmp t=>
       have ht:=mem_tmpsOf.2 hx
       simp only[evF]
       cases hd:b.dst with
       |none=>rfl
       |some d=>simp only[putF];rw[if_neg (show ¬t=d from fun e=>(hb d hd).1 (e▸ht))]
      |const v=>rfl
      |global g=>rfl
      |func f=>rfl
     unfold fstep
     dsimp only
     rw[opIds_eq hop,eff_congr e a.op a.type _ _ hop,q1]
     simp only[Option.bind_some]
     rw[if_pos q2]
     simp only[Option.some.injEq,Prod.mk.injEq,and_true]
     rw[kill_putF (kill2_tup _)]
     exact putF_comm (a:=b.dst) (b:=a.dst) (fun d hd e=>(ha d e).2.2 hd)
   ·cases da
    ·simp only[Option.some.injEq,Prod.mk.injEq]at h1
     obtain⟨rfl,rfl,rfl,rfl,rfl⟩:=h1
     obtain⟨T1',q1,rfl⟩:=fstep_put (fun d hd=>⟨(ha d hd).1,(ha d hd).2.2⟩) kill2_tup h2
     refine⟨_,_,by rw[hgf];exact q1,?_⟩
     obtain⟨vb,upb,_,_,rfl,_⟩:=fstep_inv q1
     unfold gfstep
     rw[back _ (fun t ht=>by
      rw[hne t ht]
      exact kill2_out (by rw[hpa t ht];simp))]
    ·obtain⟨T1',lk1',q1,q2⟩:=fstep_swap h1 h2 (fun d hd=>⟨(ha d hd).1,(ha d hd).2.2⟩) (fun d hd=>(hb d hd).1) hab hba (fun t ht=>hk t (List.mem_append_left _ ht))
     refine⟨T1',lk1',by rw[hgf];exact q1,?_⟩
     obtain⟨vb,upb,_,_,rfl,_⟩:=fstep_inv q1
     unfold gfstep
     rw[back _ (fun t ht=>by
      rw[hne t ht]
      exact kill2_out (by rw[hpa t ht];simp))]
     exact q2
inductive Runs(e:Env)(all:List Oper)(φ:Nat→Ft):List Nat→(Nat→PV)→Look→(Nat→PV)→Look→Prop
 |nil {T:Nat→PV} {lk:Look}:Runs e all φ [] T lk T lk
 |cons {i:Nat} {l:List Nat} {o:Oper} {T T1 T2:Nat→PV} {lk lk1 lk2:Look} {K:List Nat} (ho:all[i]?=some o) (h:gfstep e all o T lk=some (T1,lk1,(φ i).1,(φ i).2.1,K)) (hk:Hits K T (φ i).2.2) (hr:Runs e all φ l T1 lk1 T2 lk2):Runs e all φ (i::l) T lk T2 lk2
def Pair(all:List Oper)(φ:Nat→Ft)(i j:Nat):Prop:=
 ∀a b,all[i]?=some a→all[j]?=some b→apartT all a b=true∧apartT all b a=true∧(apartF (φ i) (φ j)||fieldOver a b (φ i) (φ j))=true∧apartB (φ i).2.2 (tmpsOf b++guardTmp all b)=true
theorem apartT_spec{all:List Oper}{a b:Oper}(h:apartT all a b=true): ∀d,a.dst=some d→d∉tmpsOf b∧d∉guardTmp all b∧b.dst≠some d:=fun d hd=>by
 simp only[apartT,hd,Bool.and_eq_true,Bool.not_eq_true',bne_iff_ne,ne_eq]at h
 refine⟨fun hm=>?_,fun hm=>?_,h.2⟩
 ·have:=h.1.1;rw[List.contains_iff_mem.2 hm]at this;cases this
 ·have:=h.1.2;rw[List.contains_iff_mem.2 hm]at this;cases this
theorem hits_later{e:Env}{all:List Oper}{b a:Oper}{T T1:Nat→PV}{lk lk1:Look}{rb wb Kb K:List Nat}{kt:List Nat}(h:gfstep e all b T lk=some (T1,lk1,rb,wb,Kb))(hn: ∀r∈K,r∉rb)(hk:Hits K T kt):Hits K T1 kt:=by
 intro t ht
 have hsub: ∀t,(∀r∈nstOf (T1 t),r∈nstOf (T t))∨ ∀r∈nstOf (T1 t),r∈rb:=by
  intro t
  unfold gfstep at h
  cases hd:gdec all b T with
  |none=>rw[hd]at h;cases h
  |some d=>
   rw[hd]at h
   cases d
   ·simp only[Option.some.injEq,Prod.mk.injEq]at h
    obtain⟨rfl,_⟩:=h
    cases hb:b.dst with
    |none=>exact .inl fun r hr=>by simpa[putF,hb]using hr
    |some d=>
     by_cases e:t=d
     ·exact .inl fun r hr=>by simp[putF,e,nstOf,nstOfL]at hr
     ·exact .inl fun r hr=>by simpa[putF,hb,e]using hr
   ·obtain⟨vb,upb,_,_,rfl,_,rfl,_⟩:=fstep_inv h
    cases hb:b.dst with
    |none=>exact .inl fun r hr=>kill2_sub _ _ r (by simpa[putF,hb]using hr)
    |some d=>
     by_cases e:t=d
     ·exact .inr fun r hr=>List.mem_append_right _ (by simpa[putF,hb,e]using hr)
     ·exact .inl fun r hr=>kill2_sub _ _ r (by simpa[putF,hb,e]using hr)
 rw[List.any_eq_true]at ht
 obtain⟨r,hr,hK⟩:=ht
 have hK':r∈K:=by simpa using hK
 rcases hsub t with h1|h1
 ·refine hk t ?_
  rw[List.any_eq_true];exact⟨r,h1 r hr,hK⟩
 ·exact absurd (h1 r hr) (hn r hK')
theorem gK_sub{e:Env}{all:List Oper}{a:Oper}{T T1:Nat→PV}{lk lk1:Look}{ra wa Ka:List Nat}(h:gfstep e all a T lk=some (T1,lk1,ra,wa,Ka)): ∀r∈Ka,r∈wa:=by
 unfold gfstep at h
 cases hd:gdec all a T with
 |none=>rw[hd]at h;cases h
 |some d=>
  rw[hd]at h
  cases d
  ·simp only[Option.some.injEq,Prod.mk.injEq]at h
   obtain⟨_,_,_,_,rfl⟩:=h;simp
  ·obtain⟨v,up,_,_,_,_,_,rfl,rfl⟩:=fstep_inv h
   exact kills_sub _ _
theorem Runs.ahead{e:Env}{all:List Oper}{φ:Nat→Ft}{j:Nat}{b:Oper}(hb:all[j]?=some b): ∀(l:List Nat) {T T1 T2:Nat→PV} {lk lk1 lk2:Look} {K:List Nat},(∀i∈l,Pair all φ i j)→Runs e all φ l T lk T1 lk1→gfstep e all b T1 lk1=some (T2,lk2,(φ j).1,(φ j).2.1,K)→
  ∃T1' lk1' K',gfstep e all b T lk=some (T1',lk1',(φ j).1,(φ j).2.1,K')∧Runs e all φ l T1' lk1' T2 lk2
 |[],T,T1,T2,lk,lk1,lk2,K,hp,hr,h=>by cases hr;exact⟨_,_,_,h,.nil⟩
 |i::l,T,T1,T2,lk,lk1,lk2,K,hp,hr,h=>by
  cases hr with
  |cons ho h1 hk hr=>
   rename_i a T3 lk3 Ka
   obtain⟨T4,lk4,K',h2,hr'⟩:=Runs.ahead hb l (fun i hi=>hp i (by simp[hi])) hr h
   obtain⟨p1,p2,p3,p4⟩:=hp i (by simp) a b ho hb
   rw[Bool.or_eq_true]at p3
   rcases p3 with p3|p3
   case inr=>
    simp only[fieldOver,Bool.and_eq_true,Option.isNone_iff_eq_none,beq_iff_eq,List.all_eq_true]at p3
    obtain⟨⟨o1,g1,g2⟩,o2,o3⟩:=p3
    split at o1
    ·rename_i hao hbo
     have ga: ∀U l,gfstep e all a U l=fstep e a U l:=fun U l=>by unfold gfstep gdec;rw[g1]
     have gb: ∀U l,gfstep e all b U l=fstep e b U l:=fun U l=>by unfold gfstep gdec;rw[g2]
     rw[ga]at h1
     rw[gb]at h2
     obtain⟨T5,q1,q2,q3⟩:=fstep_swapF h1 h2 hao hbo o2 (fun s hs=>by simpa using o3 s hs) (fun d hd=>⟨(apartT_spec p1 d hd).1,(apartT_spec p1 d hd).2.2⟩) (fun d hd=>(apartT_spec p2 d hd).1) (fun t ht hh=>apartB_spec p4 t (hk t hh) (List.mem_append_left _ ht))
     exact⟨T5,lk,K',by rw[gb];exact q1,.cons ho (by rw[ga];exact q2) (fun t ht=>by
      rw[List.any_eq_true]at ht
      obtain⟨r,hr,hK⟩:=ht
      refine hk t ?_
      rw[List.any_eq_true]
      exact⟨r,q3 t r hr,hK⟩) hr'⟩
    ·cases o1
   simp only[apartF,Bool.and_eq_true]at p3
   have hwr:=apartB_spec p3.1.1
   have hww:=apartB_spec p3.1.2
   have hwr':=apartB_spec p3.2
   obtain⟨T5,lk5,q1,q2⟩:=gswap h1 h2 (apartT_spec p1) (fun d hd=>⟨(apartT_spec p2 d hd).1,(apartT_spec p2 d hd).2.1⟩) (fun r hr=>⟨hwr r hr,hww r hr⟩) hwr' (fun t ht hh=>apartB_spec p4 t (hk t hh) ht)
   exact⟨T5,lk5,K',q1,.cons ho q2 (hits_later (a:=a) q1 (fun r hr=>hwr r (gK_sub h1 r hr)) hk) hr'⟩
theorem Runs.split{e:Env}{all:List Oper}{φ:Nat→Ft}: ∀(l m:List Nat) {T T2:Nat→PV} {lk lk2:Look},Runs e all φ (l++m) T lk T2 lk2→ ∃T1 lk1,Runs e all φ l T lk T1 lk1∧Runs e all φ m T1 lk1 T2 lk2
 |[],m,T,T2,lk,lk2,h=>⟨T,lk,.nil,h⟩
 |i::l,m,T,T2,lk,lk2,h=>by
  cases h with
  |cons ho h1 hk hr=>
   obtain⟨T1,lk1,q1,q2⟩:=Runs.split l m hr
   exact⟨T1,lk1,.cons ho h1 hk q1,q2⟩
theorem Runs.append{e:Env}{all:List Oper}{φ:Nat→Ft}{l m:List Nat}{T T1 T2:Nat→PV}{lk lk1 lk2:Look}(h:Runs e all φ l T lk T1 lk1)(k:Runs e all φ m T1 lk1 T2 lk2):Runs e all φ (l++m) T lk T2 lk2:=by
 induction h with
 |nil=>exact k
 |cons ho h1 hk hr ih=>exact .cons ho h1 hk (ih k)
end Go.Vm
namespace Go.Vm
open Go
structure Kept where
 t:Nat
 v:Value
 w:World
 O:Nat→Prop
structure Ctx where
 w0:World
 bs:List Nat
 F:List Nat
 γ0:Nat→G
 n:Nat
 d:List Deferred
 K:List Kept
 M:List (Nat×Option Obj)
def Ctx.free(C:Ctx)(k:Nat):Prop:=k<C.n∧ ∀x∈C.K,x.t≠k
structure Rel(C:Ctx)(γ:Nat→G)(B:Nat→List Nat)(a:Act)(w:World)(T:Nat→PV)(lk:Look):Prop where
 mem:Mem γ B w (extL lk)
 tm: ∀t,VRel γ (Dom (extL lk)) w (Owned B (extL lk)) (T t) (a.tmps.getD t undef)
 size:a.tmps.size=C.n
 defers:a.defers=C.d
 base:Stp C.w0 (· ∈C.bs++C.F) w (AllW (Owned B (extL lk)))
 frame: ∀x∈C.M,x.1∈B 0∧w.heap[x.1]?=x.2
 fix: ∀r,r<1000→lk r≠none→γ r=C.γ0 r
 keep: ∀x∈C.K,a.tmps.getD x.t undef=x.v∧Stp x.w x.O w (AllW (Owned B (extL lk)))
section
variable {C:Ctx} {γ:Nat→G} {B:Nat→List Nat} {a:Act} {w:World} {T:Nat→PV} {lk:Look} {P:Program} {e:Env} {ro:Option Nat} {n:Nat}
theorem extL_zero(lk:Look):extL lk 0=some .ext:=rfl
theorem extL_ne{lk:Look}{r:Nat}(h:r≠0):extL lk r=lk r:=by simp[extL,h]
theorem updF_ext: ∀(u:Ups) (lk:Look),(∀r∈u.map (·.1),r≠0)→updF (extL lk) u=extL (updF lk u)
 |[],_,_=>rfl
 |(r,x)::u,lk,h=>by
  simp only[updF]
  rw[←updF_ext u (setF lk r (x.getD .dead)) (fun s hs=>h s (by simp only[List.map_cons];exact List.mem_cons_of_mem _ hs))]
  congr 1
  funext s
  have hr:r≠0:=h r (by simp)
  unfold setF extL
  by_cases e1:s=r
  ·subst e1;simp[hr]
  ·simp[e1]
theorem newOK_spec{lk:Look}{rd:List Nat}{id:Nat}: ∀{u:Ups},newOK lk rd id u=true→(∀r∈u.map (·.1),r≠0)∧(∀j x,(j,some x)∈u→id≤j→j<id+1001→lk j=none)∧ ∀j∈u.map (·.1),lk j=none→1000≤j
 |[],_=>by simp
 |(r,some x)::u,h=>by
  simp only[newOK,Bool.and_eq_true,Bool.not_eq_true',beq_eq_false_iff_ne,ne_eq]at h
  obtain⟨⟨h1,h2⟩,h3⟩:=h
  obtain⟨k1,k2,k3⟩:=newOK_spec h3
  refine⟨fun s hs=>?_,fun j y hj hl hh=>?_,fun j hj hn=>?_⟩
  ·simp only[List.map_cons,List.mem_cons]at hs
   rcases hs with rfl|hs
   ·exact h1
   ·exact k1 s hs
  ·rcases List.mem_cons.1 hj with hj|hj
   ·cases hj
    cases hc:rd.contains r
    ·rw[hc]at h2
     simp only[cond_false,Bool.and_eq_true,Option.isNone_iff_eq_none]at h2
     exact h2.1
    ·rw[hc]at h2
     simp only[cond_true,Bool.not_eq_true',Bool.and_eq_true,Bool.and_eq_false_iff]at h2
     rcases h2.2.2 with h2|h2
     ·have:Nat.ble id r=true:=by simpa using hl
      rw[this]at h2;cases h2
     ·have:Nat.blt r (id+1001)=true:=by simpa using hh
      rw[this]at h2;cases h2
   ·exact k2 j y hj hl hh
  ·simp only[List.map_cons,List.mem_cons]at hj
   rcases hj with rfl|hj
   ·cases hc:rd.contains j
    ·rw[hc]at h2
     simp only[cond_false,Bool.and_eq_true]at h2
     simpa using h2.2
    ·rw[hc]at h2
     simp only[cond_true,Bool.and_eq_true]at h2
     rw[hn]at h2;simp at h2
   ·exact k3 j hj hn
 |(r,none)::u,h=>by
  simp only[newOK,Bool.and_eq_true,Bool.not_eq_true',beq_eq_false_iff_ne,ne_eq]at h
  obtain⟨k1,k2,k3⟩:=newOK_spec h.2
  refine⟨fun s hs=>?_,fun j y hj hl hh=>?_,fun j hj hn=>?_⟩
  ·simp only[List.map_cons,List.mem_cons]at hs
   rcases hs with rfl|hs
   ·exact h.1.1
   ·exact k1 s hs
  ·rcases List.mem_cons.1 hj with hj|hj
   ·cases hj
   ·exact k2 j y hj hl hh
  ·simp only[List.map_cons,List.mem_cons]at hj
   rcases hj with rfl|hj
   ·have:=h.1.2;rw[hn]at this;simp at this
   ·exact k3 j hj hn
theorem kill1_rel{D:Nat→Nat}{W:Nat→Nat→Prop}{K:List Nat}{p:PV}{cs:List Value}(h:LRel γ D w W p cs):LRel γ D w W (kill1 K p) cs:=by
 unfold kill1
 cases hh:((nstOf p).any fun r=>K.contains r)
 ·exact h
 ·simp only[cond_true]
  have hlen:=h.length
  have hone:=h.oneCell
  have hsz:szV p=1:=by
   cases p<;>simp only[nstOf,List.any_nil,Bool.false_eq_true]at hh<;>first|rfl|(simp only[LRel]at h)
  rw[hsz]at hlen
  obtain⟨v,rfl⟩:=List.length_eq_one_iff.1 hlen
  simp only[LRel]
  exact⟨v,rfl,hone v (by simp)⟩
theorem killL_rel{D:Nat→Nat}{W:Nat→Nat→Prop}{K:List Nat}: ∀{ps:List PV} {cs:List Value},LL γ D w W ps cs→LL γ D w W (ps.map (kill1 K)) cs
 |[],_,h=>h
 |p::ps,_,⟨c,c',e,h1,h2,h3⟩=>by
  have h2':=kill1_rel (K:=K) h2
  exact⟨c,c',e,h2'.length,h2',killL_rel h3⟩
theorem kill2_rel{D:Nat→Nat}{W:Nat→Nat→Prop}{K:List Nat}{p:PV}{v:Value}(h:VRel γ D w W p v):VRel γ D w W (kill2 K p) v:=by
 unfold kill2
 split
 ·simp only[VRel,VRel0]at h⊢
  obtain⟨cs,h1,h2⟩:=h
  exact⟨cs,h1,killL_rel h2⟩
 ·unfold kill1
  cases hh:((nstOf p).any fun r=>K.contains r)
  ·exact h
  ·exact vundef
theorem kill2_nst{K:List Nat}{p:PV}: ∀r∈nstOf (kill2 K p),r∉K:=by
 have k1: ∀p,∀r∈nstOf (kill1 K p),r∉K:=by
  intro p r hr
  unfold kill1 at hr
  cases hh:((nstOf p).any fun r=>K.contains r)
  ·rw[hh]at hr
   rw[List.any_eq_false]at hh
   simpa using hh r hr
  ·rw[hh]at hr;simp[nstOf]at hr
 intro r hr
 unfold kill2 at hr
 split at hr
 ·rename_i ps
  simp only[nstOf]at hr
  induction ps with
  |nil=>simp[nstOfL]at hr
  |cons p ps ih=>
   simp only[List.map_cons,nstOfL,List.mem_append]at hr
   exact hr.elim (k1 p r) ih
 ·exact k1 _ r hr
theorem kills_mem{lk:Look}: ∀{u:Ups} {r:Nat},r∈u.map (·.1)→Dom lk r=2→r∈kills lk u
 |[],r,h,_=>by simp at h
 |(s,x)::u,r,h,hd=>by
  simp only[kills]
  by_cases e:s=r
  ·subst e
   unfold Dom at hd
   split at hd
   ·cases hd
   ·rename_i t xs m hx
    rw[hx]
    dsimp only
    cases hf:t.flat
    ·simp
    ·rw[hf]at hd;simp at hd
   ·rename_i hx;rw[hx];simp
   ·cases hd
  ·have h':r∈u.map (·.1):=by
    simp only[List.map_cons,List.mem_cons]at h
    exact h.resolve_left (fun h=>e h.symm)
   have:=kills_mem h' hd
   split
   ·rename_i t _ _ _
    cases t.flat
    ·exact List.mem_cons_of_mem _ this
    ·exact this
   ·exact List.mem_cons_of_mem _ this
   ·exact this
theorem getD_put{a:Act}{d:Option Nat}{v:Value}(hd: ∀k,d=some k→k<a.tmps.size)(t:Nat):(a.put d v).tmps.getD t undef=match d with|some k=>if t=k then v else a.tmps.getD t undef|none=>a.tmps.getD t undef:=by
 cases d with
 |none=>rfl
 |some k=>
  have hk:=hd k rfl
  simp only[Act.put]
  by_cases e:t=k
  ·subst e;simp[hk]
  ·simp[e,Array.getD_eq_getD_getElem?,Array.getElem?_setIfInBounds_ne (Ne.symm e)]
theorem put_size{a:Act}{d:Option Nat}{v:Value}:(a.put d v).tmps.size=a.tmps.size:=by cases d<;>simp[Act.put]
theorem put_defers{a:Act}{d:Option Nat}{v:Value}:(a.put d v).defers=a.defers:=by cases d<;>rfl
theorem Rel.post(hR:Rel C γ B a w T lk){up:Ups}{p:PV}{γ':Nat→G}{B':Nat→List Nat}{w':World}{v:Value}{rd:List Nat}{id:Nat}(hP:Post γ B w (extL lk) up p γ' B' w' v)(hn:newOK lk rd id up=true){d:Option Nat}(hd: ∀k,d=some k→C.free k):
  Rel C γ' B' (a.put d v) w' (putF (fun t=>kill2 (kills lk up) (T t)) d p) (updF lk up):=by
 obtain⟨hk0,_,hk3⟩:=newOK_spec hn
 have hu:=updF_ext up lk hk0
 have hm:=hP.mem
 have hk:=hP.kp
 have hv:=hP.val
 rw[hu]at hm hk hv
 have h0n:0∉up.map (·.1):=fun h=>hk0 0 h rfl
 obtain⟨_,hst0,hown0⟩:=hk.nst 0 rfl h0n
 refine⟨hm,fun t=>?_,by rw[put_size];exact hR.size,by rw[put_defers];exact hR.defers,hR.base.trans hk.stp,fun k hkF=>?_,fun r hr hlk=>?_,fun x hx=>⟨?_,(hR.keep x hx).2.trans hk.stp⟩⟩
 ·have old:VRel γ' (Dom (extL (updF lk up))) w' (Owned B' (extL (updF lk up))) (kill2 (kills lk up) (T t)) (a.tmps.getD t undef):=by
   have h1:=kill2_rel (K:=kills lk up) (hR.tm t)
   have hw:Kp γ (Dom (extL lk)) w (Owned B (extL lk)) γ' (Dom (extL (updF lk up))) w' (Owned B' (extL (updF lk up))) (fun r=>r∈kills lk up):=
    hk.weaken fun r hr hb=>kills_mem hb (by rw[←hr];exact Dom_eq (extL_ne (hk0 r hb)).symm)
   exact VRel.step hw _ _ (fun r hr=>kill2_nst r hr) h1
  rw[getD_put (by rw[hR.size];exact fun k hk=>(hd k hk).1)]
  cases d with
  |none=>exact old
  |some k=>
   simp only[putF]
   split
   ·exact hv
   ·exact old
 ·obtain⟨h1,h2⟩:=hR.frame k hkF
  have ho:Owned B (extL lk) 0 k.1:=⟨_,rfl,h1⟩
  obtain⟨_,_,h3⟩:=hown0 k.1 ho
  refine⟨h3,(hst0.keep k.1 (hR.mem.lt 0 _ rfl k.1 h1) ?_).trans h2⟩
  rintro⟨s,hs,y,hy,hk'⟩
  exact hs (hR.mem.uniq s 0 y _ k.1 hy rfl hk' h1)
 ·by_cases hrn:lk r=none
  ·
   exfalso
   have hmem:r∈up.map (·.1):=Classical.byContradiction fun h=>hlk (by rw[updF_out up lk r h];exact hrn)
   have:=hk3 r hmem hrn
   omega
  ·have hr0:r=0∨r≠0:=by omega
   rw[hk.same r (by
    rcases hr0 with rfl|h
    ·exact Dom_ne (extL_zero lk)
    ·obtain⟨x,hx⟩:=Option.ne_none_iff_exists'.1 hrn
     exact Dom_ne (x:=x) (by rw[extL_ne h];exact hx))]
   exact hR.fix r hr hrn
 ·rw[getD_put (by rw[hR.size];exact fun k hk=>(hd k hk).1)]
  cases d with
  |none=>exact(hR.keep x hx).1
  |some k=>
   dsimp only
   rw[if_neg ((hd k rfl).2 x hx)]
   exact(hR.keep x hx).1
theorem Rel.drew(hR:Rel C γ B a w T lk):Rel C γ B a {w with drawn:=w.drawn+1} T lk:=by
 have hK:Kp γ (Dom (extL lk)) w (Owned B (extL lk)) γ (Dom (extL lk)) {w with drawn:=w.drawn+1} (Owned B (extL lk)) (fun _=>False):=
  ⟨⟨Nat.le_refl _,fun _ _ _=>rfl,fun _ _ h=>h,rfl,rfl,rfl⟩,fun _ _=>rfl,fun _ h=>h,fun _ h _=>⟨h,⟨Nat.le_refl _,fun _ _ _=>rfl,fun _ _ h=>h,rfl,rfl,rfl⟩,fun _ h=>h⟩⟩
 exact⟨⟨fun r x hx=>(hR.mem.rel r x hx).keep hK (fun _ _=>rfl),hR.mem.nodup,hR.mem.uniq,hR.mem.lt,hR.mem.glt⟩,fun t=>(hR.tm t).step hK _ _ (fun _ _ h=>h),hR.size,hR.defers,hR.base.trans hK.stp,hR.frame,hR.fix,fun x hx=>⟨(hR.keep x hx).1,(hR.keep x hx).2.trans hK.stp⟩⟩
theorem evF_rel(hR:Rel C γ B a w T lk): ∀x,VRel γ (Dom (extL lk)) w (Owned B (extL lk)) (evF T x) (a.eval x)
 | .tmp t=>hR.tm t
 | .const v=>constV_rel v
 | .func f=>vrel_fn.2 ⟨[],rfl,by simp[LRels]⟩
 | .global g=>vundef
theorem restr_sub(lk:Look)(l:List Nat):Sub (restr lk l) (extL lk):=by
 intro r x h
 unfold restr at h
 cases hc:(!(r==0)&&l.contains r)
 ·rw[hc]at h;cases h
 ·rw[hc]at h
  simp only[Bool.and_eq_true,Bool.not_eq_true',beq_eq_false_iff_ne]at hc
  rw[extL_ne hc.1];exact h
theorem fstep_sound(hE:EnvOK P e)(hsp:SpOK P e)(hR:Rel C γ B a w T lk){o:Oper}{T':Nat→PV}{lk':Look}{r wr K:List Nat}(h:fstep e o T lk=some (T',lk',r,wr,K))(hd: ∀k,o.dst=some k→C.free k){next:Act→World→Prop}{Q:Exit→Act→World→Prop}
  (hn: ∀a' w' γ' B',Rel C γ' B' a' w' T' lk'→next a' w'):o.wpIn (Fw ro) n P a w next Q:=by
 obtain⟨v,up,h1,h2,rfl,rfl,rfl,rfl,rfl⟩:=fstep_inv h
 obtain⟨hk0,hk2,hk3⟩:=newOK_spec h2
 refine eff_sound hE hsp hR.mem (extL_zero lk) (restr_sub _ _) (evF_rel hR) (fun f=>rfl) h1 (by omega) (fun j x hj hl hh=>?_) (fun vv w' γ' B' hP=>hn _ _ _ _ (hR.post hP h2 hd))
 rw[extL_ne (hk0 j (List.mem_map.2 ⟨_,hj,rfl⟩))]
 exact hk2 j x hj hl hh
theorem skip_sound(hR:Rel C γ B a w T lk){d:Option Nat}(hd: ∀k,d=some k→C.free k):Rel C γ B (a.put d undef) w (putF T d (.tup [])) lk:=by
 have hs: ∀k,d=some k→k<a.tmps.size:=by rw[hR.size];exact fun k hk=>(hd k hk).1
 refine⟨hR.mem,fun t=>?_,by rw[put_size];exact hR.size,by rw[put_defers];exact hR.defers,hR.base,hR.frame,hR.fix,fun x hx=>⟨?_,(hR.keep x hx).2⟩⟩
 ·rw[getD_put hs]
  cases d with
  |none=>exact hR.tm t
  |some k=>
   simp only[putF]
   split
   ·exact⟨[],rfl,rfl⟩
   ·exact hR.tm t
 ·rw[getD_put hs]
  cases d with
  |none=>exact(hR.keep x hx).1
  |some k=>
   dsimp only
   rw[if_neg ((hd k rfl).2 x hx)]
   exact(hR.keep x hx).1
theorem wanted_eq(hR:Rel C γ B a w T lk){ops:Array Oper}{o:Oper}{b:Bool}(h:gdec ops.toList o T=some b):Region.wanted o (yielded ops a.tmps)=b:=by
 unfold gdec at h
 unfold Region.wanted
 cases hg:o.guard with
 |none=>rw[hg]at h;simp at h;simp[h]
 |some x=>
  obtain⟨j,want⟩:=x
  rw[hg]at h
  dsimp only at h⊢
  have hget:ops.toList[j]?=ops[j]?:=Array.getElem?_toList
  rw[hget]at h
  unfold yielded
  cases hd:(ops[j]?).bind (·.dst)with
  |none=>
   rw[hd]at h
   simp only[Option.some.injEq]at h
   subst h
   simp
  |some d=>
   rw[hd]at h
   dsimp only at h
   have hT:=hR.tm d
   simp only[Option.bind_some]
   split at h
   ·rename_i c hTd
    simp only[Option.some.injEq]at h
    rw[hTd,vrel_bool]at hT
    have hs:a.tmps[d]?=some (.bool c):=by
     rw[Array.getD_eq_getD_getElem?]at hT
     cases hq:a.tmps[d]? with
     |none=>rw[hq]at hT;cases hT
     |some q=>rw[hq]at hT;simpa using hT
    rw[hs]
    simp only
    rw[←h]
    cases c<;>cases want<;>rfl
   ·rename_i hTd
    simp only[Option.some.injEq]at h
    subst h
    rw[hTd]at hT
    obtain⟨vs,hv,hvs⟩:=hT
    obtain rfl:vs=[]:=hvs
    rw[Array.getD_eq_getD_getElem?]at hv
    cases hq:a.tmps[d]? with
    |none=>simp
    |some q=>
     rw[hq]at hv
     simp only[Option.getD_some]at hv
     subst hv;simp
   ·cases h
theorem sched_sound(hE:EnvOK P e)(hsp:SpOK P e){ops:Array Oper}{φ:Nat→Ft}{Tn:Nat→PV}{lkn:Look}{Q:Exit→Act→World→Prop}(hd: ∀o∈ops.toList,∀k,o.dst=some k→C.free k)(hQ: ∀a' w' γ' B',Rel C γ' B' a' w' Tn lkn→Q .normal a' w'):
  ∀(L M:List Nat) (T:Nat→PV) (lk:Look) (a:Act) (w:World) (γ:Nat→G) (B:Nat→List Nat),Runs e ops.toList φ M T lk Tn lkn→L.Perm M→M.Pairwise (· < ·)→(∀L1 j L2,L=L1++j::L2→ ∀i∈L2,i<j→Pair ops.toList φ i j)→Rel C γ B a w T lk→
   wpOpsIn (Fw ro) n P ops Q L a w
 |[],M,T,lk,a,w,γ,B,hr,hp,hM,hpair,hR=>by
  have:M=[]:=by simpa using hp.symm.eq_nil
  subst this
  cases hr
  exact hQ _ _ _ _ hR
 |j::L,M,T,lk,a,w,γ,B,hr,hp,hM,hpair,hR=>by
  have hj:j∈M:=hp.subset (by simp)
  obtain⟨M1,M2,rfl⟩:=List.append_of_mem hj
  obtain⟨T1,lk1,r1,r2⟩:=Runs.split M1 (j::M2) hr
  have hperm:L.Perm (M1++M2):=List.Perm.cons_inv (hp.trans List.perm_middle)
  rw[List.pairwise_append]at hM
  have hlt: ∀i∈M1,i<j:=fun i hi=>hM.2.2 i hi j (by simp)
  cases r2 with
  |cons ho h hk hr2=>
   rename_i o T2 lk2 K
   obtain⟨T',lk',K',q1,q2⟩:=Runs.ahead ho M1 (fun i hi=>hpair [] j L rfl i (hperm.symm.subset (List.mem_append_left _ hi)) (hlt i hi)) r1 h
   have hrest:=q2.append hr2
   have hM':(M1++M2).Pairwise (· < ·):=by
    rw[List.pairwise_append]
    exact⟨hM.1,(List.pairwise_cons.1 hM.2.1).2,fun a ha b hb=>hM.2.2 a ha b (by simp[hb])⟩
   have hpair': ∀L1 j' L2,L=L1++j'::L2→ ∀i∈L2,i<j'→Pair ops.toList φ i j':=fun L1 j' L2 e i hi hlt=>hpair (j::L1) j' L2 (by rw[e];rfl) i hi hlt
   have ho':ops[j]?=some o:=by rw[←Array.getElem?_toList];exact ho
   have hod:=hd o (List.mem_of_getElem? ho)
   simp only[wpOpsIn,ho']
   unfold gfstep at q1
   cases hdec:gdec ops.toList o T with
   |none=>rw[hdec]at q1;cases q1
   |some b=>
    rw[hdec]at q1
    rw[wanted_eq hR hdec]
    cases b
    ·simp only[Option.some.injEq,Prod.mk.injEq]at q1
     obtain⟨rfl,rfl,_⟩:=q1
     simp only[Bool.false_eq_true,if_false]
     exact⟨fun _ _=>trivial,sched_sound hE hsp hd hQ L _ _ _ _ _ _ _ hrest hperm hM' hpair' (skip_sound hR hod)⟩
    ·simp only[if_true]
     exact fstep_sound hE hsp hR q1 hod fun a' w' γ' B' hR'=>sched_sound hE hsp hd hQ L _ _ _ _ _ _ _ hrest hperm hM' hpair' hR'
end
end Go.Vm
namespace Go.Vm
open Go
theorem aops_runs{e:Env}{all:List Oper}: ∀(rest:List Oper) (k:Nat) (s s':St) (fs fs':Foot),all.drop k=rest→(aops e all rest s fs).run=some (s',fs')→
  ∃new:Foot,fs'=new.reverse++fs∧new.length=rest.length∧ ∀φ:Nat→Ft,(∀i f,new[i]?=some f→φ (k+i)=f)→Runs e all φ (List.range' k rest.length) (getT s.tm) (look s.roots) (getT s'.tm) (look s'.roots)
 |[],k,s,s',fs,fs',hk,h=>by
  simp only[aops,Out.ret_some,Prod.mk.injEq]at h
  obtain⟨rfl,rfl⟩:=h
  exact⟨[],rfl,rfl,fun φ _=> .nil⟩
 |o::rest,k,s,s',fs,fs',hk,h=>by
  simp only[aops,Out.bind_some]at h
  obtain⟨⟨s1,f⟩,h1,h2⟩:=h
  obtain⟨r,wr,kt⟩:=f
  have hk':all.drop (k+1)=rest:=by rw[←List.drop_drop,hk];rfl
  have ho:all[k]?=some o:=by
   have:=congrArg (·[0]?) hk
   simpa using this
  obtain⟨new,e1,e2,hr⟩:=aops_runs rest (k+1) s1 s' _ fs' hk' h2
  obtain⟨K,g1,g2⟩:=gstep_f h1
  refine⟨(r,wr,kt)::new,by rw[e1];simp,by simp[e2],fun φ hφ=>?_⟩
  have h0:=hφ 0 _ rfl
  rw[Nat.add_zero]at h0
  rw[List.length_cons,List.range'_succ]
  refine .cons ho (by rw[h0];exact g1) (by rw[h0];exact g2) (hr φ fun i f hf=>?_)
  have:=hφ (i+1) f (by simpa using hf)
  rwa [show k+(i+1)=k+1+i by omega]at this
theorem before1_bit{pre:List Nat}{o:Oper}{i:Nat}(h:(before1 pre o).testBit i=true): ∃x∈directs o,i=x∨(pre[x]?.getD 0).testBit i=true:=by
 have key: ∀(l:List Nat) (m:Nat),(l.foldl (fun m x=>m|||2^x|||(pre[x]?.getD 0)) m).testBit i=true→m.testBit i=true∨ ∃x∈l,i=x∨(pre[x]?.getD 0).testBit i=true:=by
  intro l
  induction l with
  |nil=>intro m h;exact .inl h
  |cons x l ih=>
   intro m h
   rcases ih _ h with h|⟨y,hy,h⟩
   ·rw[Nat.testBit_or,Nat.testBit_or,Bool.or_eq_true,Bool.or_eq_true]at h
    rcases h with(h|h)|h
    ·exact .inl h
    ·rw[Nat.testBit_two_pow]at h
     exact .inr ⟨x,by simp,.inl (by have:=of_decide_eq_true h;omega)⟩
    ·exact .inr ⟨x,by simp,.inr h⟩
   ·exact .inr ⟨y,by simp[hy],h⟩
 rcases key _ _ h with h|h
 ·simp at h
 ·exact h
theorem befores_spec: ∀(l:List Oper) (pre:List Nat),(∀i,i<pre.length→((befores l pre)[i]?)=pre[i]?)∧(∀j o,l[j]?=some o→ ∀q,(befores l pre)[pre.length+j]?=some q→q=before1 ((befores l pre).take (pre.length+j)) o)∧(befores l pre).length=pre.length+l.length
 |[],pre=>by simp[befores]
 |o::l,pre=>by
  obtain⟨h1,h2,h3⟩:=befores_spec l (pre++[before1 pre o])
  simp only[befores]
  refine⟨fun i hi=>?_,fun j o' hj q hq=>?_,?_⟩
  ·rw[h1 i (by simp;omega),List.getElem?_append_left hi]
  ·cases j with
   |zero=>
    simp only[List.getElem?_cons_zero,Option.some.injEq]at hj
    subst hj
    rw[Nat.add_zero]at hq⊢
    rw[h1 _ (by simp)]at hq
    simp only[List.getElem?_concat_length,Option.some.injEq]at hq
    subst hq
    congr 1
    apply List.ext_getElem?
    intro i
    by_cases hi:i<pre.length
    ·rw[List.getElem?_take_of_lt hi,h1 i (by simp;omega),List.getElem?_append_left hi]
    ·rw[List.getElem?_eq_none (by omega),List.getElem?_eq_none (by simp;omega)]
   |succ j=>
    have e:(pre++[before1 pre o]).length+j=pre.length+(j+1):=by simp;omega
    have:=h2 j o' (by simpa using hj) q (by rw[e];exact hq)
    rwa [e]at this
  ·rw[h3];simp;omega
theorem pre_resp{all:List Oper}{L:List Nat}(hresp: ∀L1 j L2 o,L=L1++j::L2→all[j]?=some o→ ∀x∈directs o,x∈L1)(hedge: ∀j o,all[j]?=some o→ ∀x∈directs o,x<j):
  ∀(n:Nat) (j:Nat) (L1 L2:List Nat) (o:Oper) (q:Nat),j<n→L=L1++j::L2→all[j]?=some o→(befores all [])[j]?=some q→ ∀i,q.testBit i=true→i∈L1
 |0,j,_,_,_,_,h,_,_,_=>by omega
 |n+1,j,L1,L2,o,q,hjn,hL,ho,hq=>by
  obtain⟨_,h2,h3⟩:=befores_spec all []
  have:=h2 j o ho q (by simpa using hq)
  simp only[List.length_nil,Nat.zero_add]at this
  subst this
  intro i hi
  obtain⟨x,hx,hi⟩:=before1_bit hi
  have hxL:=hresp L1 j L2 o hL ho x hx
  rcases hi with rfl|hi
  ·exact hxL
  ·have hxj:=hedge j o ho x hx
   obtain⟨A,A',hA⟩:=List.append_of_mem hxL
   have hxlt:x<all.length:=by
    have:=(List.getElem?_eq_some_iff.1 ho).1;omega
   rw[List.getElem?_take_of_lt hxj]at hi
   cases hqx:(befores all [])[x]? with
   |none=>rw[hqx]at hi;simp at hi
   |some qx=>
    rw[hqx]at hi
    simp only[Option.getD_some]at hi
    have:=pre_resp hresp hedge n x A (A'++j::L2) all[x] qx (by omega) (by rw[hL,hA];simp) (List.getElem?_eq_getElem hxlt) hqx i hi
    rw[hA];exact List.mem_append_left _ this
theorem edgesOK_spec: ∀(l:List Oper) (k:Nat),edgesOK l k=true→ ∀j o,l[j]?=some o→ ∀x∈directs o,x<k+j
 |[],k,_,j,o,h,_,_=>by simp at h
 |a::l,k,h,j,o,ho,x,hx=>by
  simp only[edgesOK,Bool.and_eq_true,List.all_eq_true]at h
  cases j with
  |zero=>
   simp only[List.getElem?_cons_zero,Option.some.injEq]at ho
   subst ho
   have:=h.1 x hx
   simpa using this
  |succ j=>
   have:=edgesOK_spec l (k+1) h.2 j o (by simpa using ho) x hx
   omega
theorem binds_any(x:Edge):Region.binds .any x=bindsAny x:=by
 unfold Region.binds bindsAny
 cases x.ground<;>rfl
theorem go_spec(ops:Array Oper)(hedge: ∀j o,ops.toList[j]?=some o→ ∀x∈directs o,x<j): ∀(fuel t:Nat) (listed:Array Bool) (acc:List Nat),listed.size=ops.size→(List.range ops.size).countP (fun i=>!listed.getD i true)≤fuel→
  ∃L,Region.linearise.go .any ops fuel t listed acc=acc.reverse++L∧L.Nodup∧(∀i,i∈L↔i<ops.size∧listed.getD i true=false)∧
   (∀L1 j L2 o,L=L1++j::L2→ops.toList[j]?=some o→ ∀x∈directs o,listed.getD x false=true∨x∈L1)
 |0,t,listed,acc,hs,hc=>by
  refine⟨[],by simp[Region.linearise.go],by simp,fun i=>?_,by simp⟩
  simp only[List.not_mem_nil,false_iff,not_and,Bool.not_eq_false]
  intro hi
  have h0:(List.range ops.size).countP (fun i=>!listed.getD i true)=0:=by omega
  rw[List.countP_eq_zero]at h0
  have:=h0 i (List.mem_range.2 hi)
  simpa using this
 |fuel+1,t,listed,acc,hs,hc=>by
  simp only[Region.linearise.go]
  generalize hrs:((List.range ops.size).filter fun i=>!listed.getD i true&&((ops[i]?).map (·.after.all fun e=>!Region.binds .any e||listed.getD e.on false)).getD false)=rs
  have hmem: ∀i,i∈rs↔i<ops.size∧listed.getD i true=false∧ ∀o,ops.toList[i]?=some o→ ∀x∈directs o,listed.getD x false=true:=by
   intro i
   rw[←hrs]
   simp only[List.mem_filter,List.mem_range,Bool.and_eq_true,Bool.not_eq_true']
   refine and_congr_right fun hi=>and_congr_right fun _=>?_
   have:ops[i]?=some ops[i]:=Array.getElem?_eq_getElem hi
   rw[this]
   simp only[Option.map_some,Option.getD_some,Array.all_eq_true_iff_forall_mem]
   have ht:ops.toList[i]?=some ops[i]:=by rw[Array.getElem?_toList];exact this
   rw[ht]
   constructor
   ·rintro h o ho x hx
    cases ho
    simp only[directs,List.mem_map,List.mem_filter]at hx
    obtain⟨ed,⟨h1,h2⟩,rfl⟩:=hx
    have:=h ed (by simpa using h1)
    rw[binds_any,h2]at this
    simpa using this
   ·intro h ed hed
    cases hb:bindsAny ed
    ·simp[binds_any,hb]
    ·have:=h _ rfl ed.on (by
      simp only[directs,List.mem_map,List.mem_filter]
      exact⟨ed,⟨by simpa using hed,hb⟩,rfl⟩)
     simp[this]
  by_cases hall: ∀i,i<ops.size→listed.getD i true=true
  ·have:rs=[]:=by
    rw[List.eq_nil_iff_forall_not_mem]
    intro i hi
    obtain⟨h1,h2,_⟩:=(hmem i).1 hi
    rw[hall i h1]at h2;cases h2
   rw[this]
   refine⟨[],by simp,by simp,fun i=>?_,by simp⟩
   simp only[List.not_mem_nil,false_iff,not_and,Bool.not_eq_false]
   exact hall i
  ·
   have hex: ∃i,i<ops.size∧listed.getD i true=false:=by
    simp only[Classical.not_forall]at hall
    obtain⟨i,hi,h⟩:=hall
    exact⟨i,hi,by simpa using h⟩
   have hne:rs≠[]:=by
    have hleast: ∀m,(∃i,i≤m∧i<ops.size∧listed.getD i true=false)→rs≠[]:=by
     intro m
     induction m with
     |zero=>
      rintro⟨i,hi,h1,h2⟩
      obtain rfl:i=0:=by omega
      have:0∈rs:=(hmem 0).2 ⟨h1,h2,fun o ho x hx=>by have:=hedge 0 o ho x hx;omega⟩
      intro h;rw[h]at this;simp at this
     |succ m ih=>
      rintro⟨i,hi,h1,h2⟩
      by_cases hlow: ∃i,i≤m∧i<ops.size∧listed.getD i true=false
      ·exact ih hlow
      ·have hi':i=m+1:=by
        by_cases h:i≤m
        ·exact absurd ⟨i,h,h1,h2⟩ hlow
        ·omega
       subst hi'
       have:m+1∈rs:=(hmem _).2 ⟨h1,h2,fun o ho x hx=>by
        have hx':=hedge _ o ho x hx
        have hxs:x<listed.size:=by omega
        cases hl:listed.getD x true
        ·exact absurd ⟨x,by omega,by omega,hl⟩ hlow
        ·simp only[Array.getD_eq_getD_getElem?,Array.getElem?_eq_getElem hxs,Option.getD_some]at hl⊢
         exact hl⟩
       intro h;rw[h]at this;simp at this
    obtain⟨i,hi,h⟩:=hex
    exact hleast i ⟨i,Nat.le_refl _,hi,h⟩
   have hlt:t%rs.length<rs.length:=Nat.mod_lt _ (List.length_pos_iff.2 hne)
   rw[List.getElem?_eq_getElem hlt]
   dsimp only
   have hin:rs[t%rs.length]∈rs:=List.getElem_mem hlt
   generalize rs[t%rs.length]=i at hin⊢
   obtain⟨hi1,hi2,hi3⟩:=(hmem i).1 hin
   have hget: ∀k d,(listed.setIfInBounds i true).getD k d=if k=i then true else listed.getD k d:=by
    intro k d
    by_cases e:k=i
    ·subst e
     rw[Array.getD_eq_getD_getElem?,Array.getElem?_setIfInBounds_self_of_lt (by omega)];simp
    ·rw[Array.getD_eq_getD_getElem?,Array.getElem?_setIfInBounds_ne (Ne.symm e),←Array.getD_eq_getD_getElem?];simp[e]
   obtain⟨L,e1,e2,e3,e4⟩:=go_spec ops hedge fuel (t/rs.length) (listed.setIfInBounds i true) (i::acc) (by simp[hs]) (by
    have hlt2:(List.range ops.size).countP (fun k=>!(listed.setIfInBounds i true).getD k true)<(List.range ops.size).countP (fun k=>!listed.getD k true):=by
     have key: ∀l:List Nat,i∈l→(l.countP fun k=>!(listed.setIfInBounds i true).getD k true)<l.countP fun k=>!listed.getD k true:=by
      have hle: ∀l:List Nat,(l.countP fun k=>!(listed.setIfInBounds i true).getD k true)≤l.countP fun k=>!listed.getD k true:=fun l=>List.countP_mono_left (fun k _ hk=>by
       rw[hget]at hk
       split at hk
       ·simp at hk
       ·exact hk)
      intro l
      induction l with
      |nil=>intro h;simp at h
      |cons a l ih=>
       intro h
       rw[List.countP_cons,List.countP_cons]
       by_cases ea:a=i
       ·subst ea
        have:=hle l
        rw[hget];simp only[if_true,Bool.not_true,Bool.false_eq_true,if_false,hi2,Bool.not_false];omega
       ·have:=ih ((List.mem_cons.1 h).resolve_left (Ne.symm ea))
        rw[hget,if_neg ea];omega
     exact key _ (List.mem_range.2 hi1)
    omega)
   refine⟨i::L,by rw[e1];simp,?_,fun k=>?_,fun L1 j L2 o hL ho x hx=>?_⟩
   ·rw[List.nodup_cons]
    refine⟨fun h=>?_,e2⟩
    have:=((e3 i).1 h).2
    rw[hget]at this;simp at this
   ·rw[List.mem_cons,e3 k,hget]
    constructor
    ·rintro(rfl|⟨h1,h2⟩)
     ·exact⟨hi1,hi2⟩
     ·split at h2
      ·cases h2
      ·exact⟨h1,h2⟩
    ·rintro⟨h1,h2⟩
     by_cases e:k=i
     ·exact .inl e
     ·exact .inr ⟨h1,by rw[if_neg e];exact h2⟩
   ·cases L1 with
    |nil=>
     simp only[List.nil_append,List.cons.injEq]at hL
     obtain⟨rfl,_⟩:=hL
     exact .inl (hi3 o ho x hx)
    |cons y L1=>
     simp only[List.cons_append,List.cons.injEq]at hL
     obtain⟨rfl,hL⟩:=hL
     rcases e4 L1 j L2 o hL ho x hx with h|h
     ·rw[hget]at h
      split at h
      ·rename_i e;exact .inr (by simp[e])
      ·exact .inl h
     ·exact .inr (List.mem_cons_of_mem _ h)
section
variable {C:Ctx} {γ:Nat→G} {B:Nat→List Nat} {a:Act} {w:World} {P:Program} {e:Env} {ro:Option Nat} {n:Nat}
theorem region_sound(hP:P.follows .mixedOrders=true)(hE:EnvOK P e)(hsp:SpOK P e){id:Nat}{ops:Array Oper}{draw:Bool}{s s':St}(h:(region e ops.toList draw s).run=some s')(hd: ∀o∈ops.toList,∀k,o.dst=some k→C.free k)(hR:Rel C γ B a w (getT s.tm) (look s.roots)){Q:Exit→Act→World→Prop}
  (hQ: ∀a' w' γ' B',Rel C γ' B' a' w' (getT s'.tm) (look s'.roots)→Q .normal a' w'):(Code.region id ops draw).wpIn (Fw ro) n P Q a w:=by
 simp only[region,Out.bind_some]at h
 obtain⟨⟨s1,fs⟩,h1,h⟩:=h
 obtain⟨new,e1,e2,hr⟩:=aops_runs ops.toList 0 s s1 [] fs rfl h1
 rw[List.append_nil]at e1
 have hnew:fs.reverse=new:=by rw[e1,List.reverse_reverse]
 let φ:Nat→Ft:=fun i=>(new[i]?).getD ([],[],[])
 have hruns:=hr φ (fun i f hf=>by simp only[φ];rw[Nat.zero_add,hf];rfl)
 have hlen:ops.toList.length=ops.size:=by simp
 rw[hlen,←List.range_eq_range']at hruns
 have hsorted:(List.range ops.size).Pairwise (· < ·):=List.pairwise_lt_range
 dsimp only at h
 rw[Out.cond_some]at h
 rcases h with⟨rfl,h⟩|⟨rfl,h⟩
 ·rw[Out.cond_some]at h
  simp only[Out.ret_some,Out.fail_some,and_false,or_false,Bool.and_eq_true]at h
  obtain⟨⟨hedges,hpairs⟩,rfl⟩:=h
  have hedge: ∀j o,ops.toList[j]?=some o→ ∀x∈directs o,x<j:=fun j o ho x hx=>by
   have:=edgesOK_spec _ 0 hedges j o ho x hx;omega
  refine wpIn_region_draw fun t=>?_
  rw[hP]
  simp only[Region.schedule,Bool.true_or,if_true,Region.linearise]
  obtain⟨L,l1,l2,l3,l4⟩:=go_spec ops hedge ops.size t (Array.replicate ops.size false) [] (by simp) (by
   refine Nat.le_trans List.countP_le_length ?_
   simp)
  rw[l1]
  simp only[List.reverse_nil,List.nil_append]
  have hmem: ∀i,i∈L↔i<ops.size:=fun i=>by
   rw[l3 i]
   constructor
   ·exact fun h=>h.1
   ·intro h;exact⟨h,by rw[Array.getD_eq_getD_getElem?];simp[h]⟩
  have hperm:L.Perm (List.range ops.size):=by
   rw[List.perm_ext_iff_of_nodup l2 List.nodup_range]
   intro i;rw[hmem,List.mem_range]
  have hresp: ∀L1 j L2 o,L=L1++j::L2→ops.toList[j]?=some o→ ∀x∈directs o,x∈L1:=fun L1 j L2 o hL ho x hx=>by
   rcases l4 L1 j L2 o hL ho x hx with h|h
   ·rw[Array.getD_eq_getD_getElem?]at h
    cases hq:(Array.replicate ops.size false)[x]? with
    |none=>rw[hq]at h;simp at h
    |some q=>
     rw[hq]at h
     have:=(Array.getElem?_eq_some_iff.1 hq).2
     simp at this
     simp only[Option.getD_some]at h
     rw[h]at this;cases this
   ·exact h
  refine sched_sound hE hsp hd hQ L _ _ _ _ _ _ _ hruns hperm hsorted (fun L1 j L2 hL i hi hlt=>?_) hR.drew
  have hjn:j<ops.size:=(hmem j).1 (by rw[hL];simp)
  have hok:=List.all_eq_true.1 (List.all_eq_true.1 hpairs j (List.mem_range.2 (by rw[hlen];exact hjn))) i (List.mem_range.2 hlt)
  unfold pairOK at hok
  rw[Bool.or_eq_true]at hok
  intro oa ob hoa hob
  rcases hok with hok|hok
  ·exfalso
   have hjb:j<(befores ops.toList []).length:=by rw[(befores_spec ops.toList []).2.2];simp;exact hjn
   rw[List.getElem?_eq_getElem hjb]at hok
   simp only[Option.getD_some]at hok
   have:=pre_resp hresp hedge (j+1) j L1 L2 ob _ (by omega) hL hob (List.getElem?_eq_getElem hjb) i hok
   rw[hL,List.nodup_append]at l2
   exact l2.2.2 i this i (by simp[hi]) rfl
  ·rw[hoa,hob,hnew]at hok
   have hi':i<new.length:=by rw[e2,hlen];omega
   have hj':j<new.length:=by rw[e2,hlen];omega
   rw[List.getElem?_eq_getElem hi',List.getElem?_eq_getElem hj']at hok
   simp only[Bool.and_eq_true]at hok
   have hφi:φ i=new[i]:=by simp only[φ];rw[List.getElem?_eq_getElem hi'];rfl
   have hφj:φ j=new[j]:=by simp only[φ];rw[List.getElem?_eq_getElem hj'];rfl
   rw[hφi,hφj]
   exact⟨hok.1.1.1,hok.1.1.2,hok.1.2,hok.2⟩
 ·simp only[Out.ret_some]at h
  subst h
  refine wpIn_region (sched_sound hE hsp hd hQ _ _ _ _ _ _ _ _ hruns (List.Perm.refl _) hsorted (fun L1 j L2 hL i hi hlt=>?_) hR)
  exfalso
  rw[hL,List.pairwise_append]at hsorted
  have:=(List.pairwise_cons.1 hsorted.2.1).1 i hi
  omega
end
end Go.Vm
namespace Go.Vm
open Go
structure Ren(b:List (Nat×Bnd))(γ:Nat→G)(D:Nat→Nat)(W:Nat→Nat→Prop)(γ':Nat→G)(D':Nat→Nat)(W':Nat→Nat→Prop):Prop where
 row: ∀k r,look b k=some (.row r)→γ' k=γ r∧D' k≠0
 box: ∀k r,look b k=some (.box r)→γ' k=γ r∧D' k≠0
 nil: ∀k t,look b k=some (.nil t)→γ' k= .row (.slice none 0 0) t∧D' k≠0
 sub: ∀k,AllW W' k→AllW W k
theorem sameB_eq{x y:Bnd}(h:sameB x y=true):x=y:=by
 unfold sameB at h
 split at h
 ·simp only[beq_iff_eq]at h;rw[h]
 ·simp only[beq_iff_eq]at h;rw[h]
 ·simp only[decide_eq_true_eq]at h;rw[h]
 ·cases h
theorem cover_cons{b l:List (Nat×Bnd)}{k:Nat}{x:Bnd}(h:coverB b ((k,x)::l)=true):look b k=some x∧coverB b l=true:=by
 simp only[coverB,List.all_cons,Bool.and_eq_true]at h
 refine⟨?_,h.2⟩
 have h1:=h.1
 split at h1
 ·rename_i y hy;rw[hy,sameB_eq h1]
 ·cases h1
theorem cover_append{b l l':List (Nat×Bnd)}(h:coverB b (l++l')=true):coverB b l=true∧coverB b l'=true:=by
 simpa only[coverB,List.all_append,Bool.and_eq_true]using h
section
variable {b:List (Nat×Bnd)} {γ γ':Nat→G} {D D':Nat→Nat} {W W':Nat→Nat→Prop} {w:World}
mutual
theorem matchP_sim(hr:Ren b γ D W γ' D' W'): ∀(p:PS) (v:PV) (ds l l':List Dyn) (v':PV),matchP p v=some ds→fillP p (ds++l)=some (v',l')→coverB b (bindsP p v)=true→
  l'=l∧szV v'=szV v∧leafOK v'=leafOK v∧capOK v'=capOK v∧(∀cs,LRel γ D w W v cs→LRel γ' D' w W' v' cs)∧(∀x,VRel γ D w W v x→VRel γ' D' w W' v' x)
 | .sc t,v,ds,l,l',v',hm,hf,hc=>by
  cases v with
  |sc u x=>
   simp only[matchP]at hm
   cases h:decide (u=t)
   ·rw[h]at hm;cases hm
   ·rw[h]at hm
    simp only[cond_true,Option.some.injEq]at hm
    subst hm
    simp only[List.cons_append,List.nil_append,fillP,h,cond_true,Option.some.injEq,Prod.mk.injEq]at hf
    obtain⟨rfl,rfl⟩:=hf
    have key: ∀cs,LRel γ D w W (.sc u x) cs→LRel γ' D' w W' (.sc u x) cs:=fun cs h=>by
     simp only[LRel]at h⊢;exact⟨h.1,h.2.less hr.sub⟩
    refine⟨rfl,rfl,rfl,rfl,key,fun y hy=>?_⟩
    cases u<;>first|exact key _ hy|(obtain⟨cs,e,h⟩:=hy;exact⟨cs,e,key _ h⟩)
  |nilS u=>
   simp only[matchP]at hm
   cases h:decide (.sl u=t)
   ·rw[h]at hm;cases hm
   ·rw[h]at hm
    simp only[cond_true,Option.some.injEq]at hm
    subst hm
    simp only[List.cons_append,List.nil_append,fillP,h,cond_true,Option.some.injEq,Prod.mk.injEq]at hf
    obtain⟨rfl,rfl⟩:=hf
    have key: ∀cs,LRel γ D w W (.nilS u) cs→LRel γ' D' w W' (.sc (.sl u) []) cs:=fun cs h=>by
     simp only[LRel]at h⊢
     subst h
     exact⟨rfl,_,rfl,⟨none,0,rfl,⟨Nat.le_refl _,Nat.zero_le _⟩,fun h=>absurd h (by simp)⟩,rfl⟩
    exact⟨rfl,rfl,rfl,rfl,key,fun y hy=>key _ hy⟩
  |_=>simp[matchP]at hm
 | .rf k,v,ds,l,l',v',hm,hf,hc=>by
  cases v with
  |rf r=>
   simp only[matchP,Option.some.injEq]at hm
   subst hm
   simp only[List.nil_append,fillP,Option.some.injEq,Prod.mk.injEq]at hf
   obtain⟨rfl,rfl⟩:=hf
   obtain⟨h1,h2⟩:=hr.row k r (cover_cons hc).1
   have key: ∀cs,LRel γ D w W (.rf r) cs→LRel γ' D' w W' (.rf k) cs:=fun cs h=>by
    simp only[LRel]at h⊢
    obtain⟨_,v,t,e,h⟩:=h
    exact⟨h2,v,t,h1.trans e,h⟩
   exact⟨rfl,rfl,rfl,rfl,key,fun y hy=>key _ hy⟩
  |nilS t=>
   simp only[matchP,Option.some.injEq]at hm
   subst hm
   simp only[List.nil_append,fillP,Option.some.injEq,Prod.mk.injEq]at hf
   obtain⟨rfl,rfl⟩:=hf
   obtain⟨h1,h2⟩:=hr.nil k t (cover_cons hc).1
   have key: ∀cs,LRel γ D w W (.nilS t) cs→LRel γ' D' w W' (.rf k) cs:=fun cs h=>by
    simp only[LRel]at h⊢
    exact⟨h2,_,t,h1,h,rfl⟩
   exact⟨rfl,rfl,rfl,rfl,key,fun y hy=>key _ hy⟩
  |_=>simp[matchP]at hm
 | .sub k,v,ds,l,l',v',hm,hf,hc=>by
  cases v with
  |sub r o n=>
   simp only[matchP,Option.some.injEq]at hm
   subst hm
   simp only[List.cons_append,List.nil_append,fillP,Option.some.injEq,Prod.mk.injEq]at hf
   obtain⟨rfl,rfl⟩:=hf
   obtain⟨h1,h2⟩:=hr.row k r (cover_cons hc).1
   have key: ∀cs,LRel γ D w W (.sub r o n) cs→LRel γ' D' w W' (.sub k (Int.toNat o) (Int.toNat n)) cs:=fun cs h=>by
    simp only[LRel,Int.toNat_natCast]at h⊢
    obtain⟨_,v,t,A,m,cap,A',c',e,h⟩:=h
    exact⟨h2,v,t,A,m,cap,A',c',h1.trans e,h⟩
   exact⟨rfl,rfl,rfl,rfl,key,fun y hy=>key _ hy⟩
  |_=>simp[matchP]at hm
 | .ptr k n i j,v,ds,l,l',v',hm,hf,hc=>by
  cases v with
  |ptr r n' i' j'=>
   simp only[matchP]at hm
   cases h:(n==n'&&i==i'&&decide (j=j'))
   ·rw[h]at hm;cases hm
   ·rw[h]at hm
    simp only[cond_true,Option.some.injEq]at hm
    subst hm
    simp only[Bool.and_eq_true,beq_iff_eq,decide_eq_true_eq]at h
    obtain⟨⟨rfl,rfl⟩,rfl⟩:=h
    simp only[List.nil_append,fillP,Option.some.injEq,Prod.mk.injEq]at hf
    obtain⟨rfl,rfl⟩:=hf
    obtain⟨h1,h2⟩:=hr.box k r (cover_cons hc).1
    have key: ∀cs,LRel γ D w W (.ptr r n i j) cs→LRel γ' D' w W' (.ptr k n i j) cs:=fun cs h=>by
     simp only[LRel]at h⊢
     rw[h1]
     exact⟨h2,h.2⟩
    exact⟨rfl,rfl,rfl,rfl,key,fun y hy=>key _ hy⟩
  |_=>simp[matchP]at hm
 | .nl t,v,ds,l,l',v',hm,hf,hc=>by
  cases v with
  |nilS u=>
   simp only[matchP]at hm
   cases h:decide (u=t)
   ·rw[h]at hm;cases hm
   ·rw[h]at hm
    simp only[cond_true,Option.some.injEq]at hm
    subst hm
    simp only[decide_eq_true_eq]at h
    subst h
    simp only[List.nil_append,fillP,Option.some.injEq,Prod.mk.injEq]at hf
    obtain⟨rfl,rfl⟩:=hf
    have key: ∀cs,LRel γ D w W (.nilS u) cs→LRel γ' D' w W' (.nilS u) cs:=fun cs h=>by
     simp only[LRel]at h⊢;exact h
    exact⟨rfl,rfl,rfl,rfl,key,fun y hy=>key _ hy⟩
  |_=>simp[matchP]at hm
 | .nilp,v,ds,l,l',v',hm,hf,hc=>by
  cases v with
  |nilp=>
   simp only[matchP,Option.some.injEq]at hm
   subst hm
   simp only[List.nil_append,fillP,Option.some.injEq,Prod.mk.injEq]at hf
   obtain⟨rfl,rfl⟩:=hf
   have key: ∀cs,LRel γ D w W .nilp cs→LRel γ' D' w W' .nilp cs:=fun cs h=>by
    simp only[LRel]at h⊢;exact h
   exact⟨rfl,rfl,rfl,rfl,key,fun y hy=>key _ hy⟩
  |_=>simp[matchP]at hm
 | .ro t,v,ds,l,l',v',hm,hf,hc=>by
  cases v with
  |ro u x=>
   simp only[matchP]at hm
   cases h:decide (u=t)
   ·rw[h]at hm;cases hm
   ·rw[h]at hm
    simp only[cond_true,Option.some.injEq]at hm
    subst hm
    simp only[List.cons_append,List.nil_append,fillP,h,cond_true,Option.some.injEq,Prod.mk.injEq]at hf
    obtain⟨rfl,rfl⟩:=hf
    have key: ∀cs,LRel γ D w W (.ro u x) cs→LRel γ' D' w W' (.ro u x) cs:=fun cs h=>by
     simp only[LRel]at h⊢
     obtain⟨a,cells,h1,h2,h3,h4,h5⟩:=h
     exact⟨a,cells,h1,h2,fun hh=>h3 (hr.sub _ hh),h4,h5.less hr.sub⟩
    exact⟨rfl,rfl,rfl,rfl,key,fun y hy=>key _ hy⟩
  |_=>simp[matchP]at hm
 | .rb p,v,ds,l,l',v',hm,hf,hc=>by
  cases v with
  |rb u=>
   simp only[matchP]at hm
   simp only[fillP]at hf
   split at hf
   ·rename_i u' l1 hf1
    simp only[Option.some.injEq,Prod.mk.injEq]at hf
    obtain⟨rfl,rfl⟩:=hf
    obtain⟨h1,h2,h3,h4,h5,_⟩:=matchP_sim hr p u ds l l1 u' hm hf1 (by simpa only[bindsP]using hc)
    have key: ∀cs,LRel γ D w W (.rb u) cs→LRel γ' D' w W' (.rb u') cs:=fun cs h=>by
     simp only[LRel]at h⊢
     obtain⟨a,x,k1,k2,k3,k4,k5⟩:=h
     exact⟨a,x,k1,k2,fun hh=>k3 (hr.sub _ hh),k4,h5 _ k5⟩
    exact⟨h1,rfl,h4,h4,key,fun y hy=>key _ hy⟩
   ·cases hf
  |_=>simp[matchP]at hm
 | .fn g a,v,ds,l,l',v',hm,hf,hc=>by
  cases v with
  |fn h cs=>
   simp only[matchP]at hm
   cases hg:g==h
   ·rw[hg]at hm;cases hm
   ·rw[hg]at hm
    simp only[cond_true]at hm
    simp only[beq_iff_eq]at hg
    subst hg
    simp only[fillP]at hf
    split at hf
    ·rename_i cs' l1 hf1
     simp only[Option.some.injEq,Prod.mk.injEq]at hf
     obtain⟨rfl,rfl⟩:=hf
     obtain⟨h1,h2,h3,h4,h5,h6⟩:=matchL_sim hr a cs ds l l1 cs' hm hf1 (by simpa only[bindsP]using hc)
     have key: ∀ws,LRel γ D w W (.fn g cs) ws→LRel γ' D' w W' (.fn g cs') ws:=fun ws h=>by
      simp only[LRel]at h⊢
      obtain⟨vs,e,h⟩:=h
      exact⟨vs,e,h6 _ h⟩
     exact⟨h1,rfl,h4,h4,key,fun y hy=>key _ hy⟩
    ·cases hf
  |_=>simp[matchP]at hm
 | .ag a,v,ds,l,l',v',hm,hf,hc=>by
  cases v with
  |ag cs=>
   simp only[matchP]at hm
   simp only[fillP]at hf
   split at hf
   ·rename_i cs' l1 hf1
    simp only[Option.some.injEq,Prod.mk.injEq]at hf
    obtain⟨rfl,rfl⟩:=hf
    obtain⟨h1,h2,h3,h4,h5,h6⟩:=matchL_sim hr a cs ds l l1 cs' hm hf1 (by simpa only[bindsP]using hc)
    refine⟨h1,rfl,rfl,rfl,fun cs h=>by simp only[LRel]at h,fun y hy=>?_⟩
    simp only[VRel,VRel0]at hy⊢
    obtain⟨ws,e,hy⟩:=hy
    exact⟨ws,e,h5 _ hy⟩
   ·cases hf
  |_=>simp[matchP]at hm
 | .unit,v,ds,l,l',v',hm,hf,hc=>by cases v<;>simp[matchP]at hm
 | .pair _ _,v,ds,l,l',v',hm,hf,hc=>by cases v<;>simp[matchP]at hm
theorem matchL_sim(hr:Ren b γ D W γ' D' W'): ∀(a:PS) (vs:List PV) (ds l l':List Dyn) (vs':List PV),matchP.matchL a vs=some ds→fillP.fillL a (ds++l)=some (vs',l')→coverB b (bindsP.bindsL a vs)=true→
  l'=l∧vs'.map szV=vs.map szV∧nstFree vs'=nstFree vs∧capOKL vs'=capOKL vs∧(∀cs,LL γ D w W vs cs→LL γ' D' w W' vs' cs)∧(∀cs,LRels γ D w W vs cs→LRels γ' D' w W' vs' cs)
 | .unit,vs,ds,l,l',vs',hm,hf,hc=>by
  cases vs with
  |nil=>
   simp only[matchP.matchL,Option.some.injEq]at hm
   subst hm
   simp only[List.nil_append,fillP.fillL,Option.some.injEq,Prod.mk.injEq]at hf
   obtain⟨rfl,rfl⟩:=hf
   exact⟨rfl,rfl,rfl,rfl,fun _ h=>h,fun _ h=>h⟩
  |cons=>simp[matchP.matchL]at hm
 | .pair p a,vs,ds,l,l',vs',hm,hf,hc=>by
  cases vs with
  |nil=>simp[matchP.matchL]at hm
  |cons v vs=>
   simp only[matchP.matchL]at hm
   split at hm
   ·rename_i x y hx hy
    simp only[Option.some.injEq]at hm
    subst hm
    simp only[fillP.fillL]at hf
    split at hf
    ·rename_i v1 l1 hf1
     split at hf
     ·rename_i vs1 l2 hf2
      simp only[Option.some.injEq,Prod.mk.injEq]at hf
      obtain⟨rfl,rfl⟩:=hf
      simp only[bindsP.bindsL]at hc
      obtain⟨c1,c2⟩:=cover_append hc
      rw[List.append_assoc]at hf1
      obtain⟨rfl,h2,h3,h4,h5,_⟩:=matchP_sim hr p v x (y++l) l1 v1 hx hf1 c1
      obtain⟨rfl,k2,k3,k4,k5,k6⟩:=matchL_sim hr a vs y l l2 vs1 hy hf2 c2
      refine⟨rfl,by simp[h2,k2],by simp only[nstFree,h3,k3],by simp only[capOKL,h4,k4],fun cs h=>?_,fun cs h=>?_⟩
      ·obtain⟨c,c',e,e1,e2,e3⟩:=h
       exact⟨c,c',e,by rw[h2];exact e1,h5 _ e2,k5 _ e3⟩
      ·simp only[LRels]at h⊢
       obtain⟨u,us,e,e1,e2⟩:=h
       exact⟨u,us,e,h5 _ e1,k6 _ e2⟩
     ·cases hf
    ·cases hf
   ·cases hm
 | .sc _,vs,ds,l,l',vs',hm,hf,hc| .rf _,vs,ds,l,l',vs',hm,hf,hc| .sub _,vs,ds,l,l',vs',hm,hf,hc| .ptr _ _ _ _,vs,ds,l,l',vs',hm,hf,hc| .nl _,vs,ds,l,l',vs',hm,hf,hc| .nilp,vs,ds,l,l',vs',hm,hf,hc
 | .ro _,vs,ds,l,l',vs',hm,hf,hc| .rb _,vs,ds,l,l',vs',hm,hf,hc| .fn _ _,vs,ds,l,l',vs',hm,hf,hc| .ag _,vs,ds,l,l',vs',hm,hf,hc=>by cases vs<;>simp[matchP.matchL]at hm
end
end
end Go.Vm
namespace Go.Vm
open Go
def rootOf:Bnd→Option Nat| .row r| .box r=>some r| .nil _=>none
theorem look_mem{α:Type}: ∀{l:List (Nat×α)} {k:Nat} {x:α},look l k=some x→(k,x)∈l
 |[],_,_,h=>by cases h
 |(k',y)::l,k,x,h=>by
  simp only[look]at h
  cases e:k'==k
  ·rw[e]at h;exact List.mem_cons_of_mem _ (look_mem h)
  ·rw[e]at h
   simp only[cond_true,Option.some.injEq]at h
   simp only[beq_iff_eq]at e
   rw[e,h];exact List.mem_cons_self
theorem look_append{α:Type}: ∀(l l':List (Nat×α)) (k:Nat),look (l++l') k=match look l k with|some x=>some x|none=>look l' k
 |[],_,_=>rfl
 |(k',y)::l,l',k=>by
  simp only[List.cons_append,look]
  cases e:k'==k
  ·exact look_append l l' k
  ·rfl
theorem consist_own: ∀{b:List (Nat×Bnd)},consist b=true→ ∀k x,(k,x)∈b→(∀r,rootOf x=some r→own0 k r=true)∧(rootOf x=none→1000≤k)
 |[],_,_,_,h=>by simp at h
 |(k',y)::b,hc,k,x,h=>by
  simp only[consist,Bool.and_eq_true]at hc
  rcases List.mem_cons.1 h with h|h
  ·cases h
   have:=hc.1.1
   cases y with
   |row r=>exact⟨fun r' e=>(by cases e;exact this),fun e=>(by cases e)⟩
   |box r=>exact⟨fun r' e=>(by cases e;exact this),fun e=>(by cases e)⟩
   |nil t=>exact⟨fun r' e=>(by cases e),fun _=>(by have:=blt_false (by simpa using this:Nat.blt k' 1000=false);omega)⟩
  ·exact consist_own hc.2 k x h
theorem consist_inj: ∀{b:List (Nat×Bnd)},consist b=true→ ∀{k k' x x' r},(k,x)∈b→(k',x')∈b→rootOf x=some r→rootOf x'=some r→k=k'
 |[],_,_,_,_,_,_,h,_,_,_=>by simp at h
 |(j,y)::b,hc,k,k',x,x',r,h,h',e,e'=>by
  simp only[consist,Bool.and_eq_true,List.all_eq_true]at hc
  have two: ∀{k1 x1 k2 x2},(∀z,(k2,z)∈b→(match x1,z with
   | .row r,.row r'=>(k1==k2)==(r==r')
   | .box r,.box r'=>(k1==k2)==(r==r')
   | .row r,.box r'=>!(k1==k2)&&!(r==r')
   | .box r,.row r'=>!(k1==k2)&&!(r==r')
   |_,_=>!(k1==k2))=true)→(k2,x2)∈b→rootOf x1=some r→rootOf x2=some r→k1=k2:=by
   intro k1 x1 k2 x2 hz hm e1 e2
   have:=hz x2 hm
   cases x1<;>cases x2<;>simp only[rootOf,Option.some.injEq,reduceCtorEq]at e1 e2
   all_goals subst e1
   all_goals subst e2
   all_goals (simp at this;try exact this)
  rcases List.mem_cons.1 h with h|h
  ·cases h
   rcases List.mem_cons.1 h' with h'|h'
   ·cases h';rfl
   ·exact two (x1:=y) (fun z hz=>hc.1.2 (k',z) hz) h' e e'
  ·rcases List.mem_cons.1 h' with h'|h'
   ·cases h'
    exact(two (x1:=y) (fun z hz=>hc.1.2 (k,z) hz) h e' e).symm
   ·exact consist_inj hc.2 h h' e e'
section
variable {b:List (Nat×Bnd)} {γ γ':Nat→G} {D D':Nat→Nat} {W W':Nat→Nat→Prop} {w:World} {lk:Look}
theorem matchT_sim(hr:Ren b γ D W γ' D' W'){tm:List (Nat×PV)}: ∀(l:List (Nat×PS)) (ds z z':List Dyn) (tm':List (Nat×PV)),matchT l tm=some ds→fillT l (ds++z)=some (tm',z')→coverB b (bindsT l tm)=true→
  z'=z∧ ∀t x,VRel γ D w W (getT tm t) x→VRel γ' D' w W' (getT tm' t) x
 |[],ds,z,z',tm',hm,hf,hc=>by
  simp only[matchT,Option.some.injEq]at hm
  subst hm
  simp only[List.nil_append,fillT,Option.some.injEq,Prod.mk.injEq]at hf
  obtain⟨rfl,rfl⟩:=hf
  exact⟨rfl,fun t x _=>vundef⟩
 |(t,p)::l,ds,z,z',tm',hm,hf,hc=>by
  simp only[matchT]at hm
  split at hm
  ·rename_i x y hx hy
   simp only[Option.some.injEq]at hm
   subst hm
   simp only[fillT]at hf
   split at hf
   ·rename_i v l1 hf1
    split at hf
    ·rename_i vs l2 hf2
     simp only[Option.some.injEq,Prod.mk.injEq]at hf
     obtain⟨rfl,rfl⟩:=hf
     simp only[bindsT]at hc
     obtain⟨c1,c2⟩:=cover_append hc
     rw[List.append_assoc]at hf1
     obtain⟨rfl,_,_,_,_,h5⟩:=matchP_sim (w:=w) hr p _ x (y++z) l1 v hx hf1 c1
     obtain⟨rfl,k5⟩:=matchT_sim hr l y z l2 vs hy hf2 c2
     refine⟨rfl,fun t' x' h=>?_⟩
     unfold getT
     simp only[look]
     cases e:t==t'
     ·exact k5 t' x' h
     ·simp only[beq_iff_eq]at e
      subst e
      exact h5 _ h
    ·cases hf
   ·cases hf
  ·cases hm
def RootSim(b:List (Nat×Bnd))(lk:Look)(k:Nat)(y:Root):Prop:=
 (∃t m,look b k=some (.nil t)∧y= .row t [] m)∨
 (∃r t xs m m',look b k=some (.row r)∧lk r=some (.row t xs m')∧modeFits m m' t=true∧y= .row t xs m)∨
 (∃r xs,look b k=some (.row r)∧lk r=some (.mp xs)∧y= .mp xs)∨
 (∃r ps ps' a ds l,look b k=some (.box r)∧lk r=some (.box ps)∧y= .box ps'∧matchP.matchL a ps=some ds∧fillP.fillL a (ds++l)=some (ps',l)∧coverB b (bindsP.bindsL a ps)=true)
theorem matchP_ag{p:PS}{ps:List PV}{ds:List Dyn}(h:matchP p (.ag ps)=some ds): ∃a,p= .ag a:=by
 cases p<;>simp[matchP]at h
 exact⟨_,rfl⟩
theorem matchP_len(w:World)(p:PS)(v:PV)(ds l l':List Dyn)(v':PV)(h1:matchP p v=some ds)(h2:fillP p (ds++l)=some (v',l'))(h3:coverB b (bindsP p v)=true):l'=l:=by
 have hr:Ren b (fun _=> .box 0 0 [] fun _=>(none,false)) (fun _=>1) (fun _ _=>False) (fun k=>match look b k with|some (.nil t)=> .row (.slice none 0 0) t|_=> .box 0 0 [] fun _=>(none,false)) (fun _=>1) (fun _ _=>False):=
  ⟨fun k r h=>⟨by simp[h],by simp⟩,fun k r h=>⟨by simp[h],by simp⟩,fun k t h=>⟨by simp[h],by simp⟩,fun _ h=>h⟩
 exact(matchP_sim (w:=w) hr p v ds l l' v' h1 h2 h3).1
theorem matchR_sim(w:World): ∀(l:List (Nat×RS)) (ds z z':List Dyn) (rs:List (Nat×Root)),matchR lk b l=some ds→fillR l (ds++z)=some (rs,z')→
  z'=z∧ ∀k,(∀y,look rs k=some y→RootSim b lk k y)∧((look l k).isSome=true→(look rs k).isSome=true)
 |[],ds,z,z',rs,hm,hf=>by
  simp only[matchR,Option.some.injEq]at hm
  subst hm
  simp only[List.nil_append,fillR,Option.some.injEq,Prod.mk.injEq]at hf
  obtain⟨rfl,rfl⟩:=hf
  exact⟨rfl,fun k=>⟨fun y h=>(by cases h),fun h=>(by simp[look]at h)⟩⟩
 |(k,.row t m)::l,ds,z,z',rs,hm,hf=>by
  simp only[matchR]at hm
  have key: ∀(u:Ty) (xs:List u.den) (y:List Dyn),u=t→matchR lk b l=some y→ds=⟨.sl u,xs⟩::y→RootSim b lk k (.row u xs m)→
    z'=z∧ ∀k',(∀y,look rs k'=some y→RootSim b lk k' y)∧((look ((k,RS.row t m)::l) k').isSome=true→(look rs k').isSome=true):=by
   intro u xs y hu hy hds hs
   subst hds
   simp only[List.cons_append,fillR]at hf
   rw[show decide (u=t)=true by simpa using hu]at hf
   simp only[cond_true]at hf
   split at hf
   ·rename_i vs l2 hf2
    simp only[Option.some.injEq,Prod.mk.injEq]at hf
    obtain⟨rfl,rfl⟩:=hf
    obtain⟨rfl,h⟩:=matchR_sim w l y z l2 vs hy hf2
    refine⟨rfl,fun k'=>⟨fun y' hy'=>?_,fun hl=>?_⟩⟩
    ·simp only[look]at hy'
     cases e:k==k'
     ·rw[e]at hy';exact(h k').1 y' hy'
     ·rw[e]at hy'
      simp only[cond_true,Option.some.injEq]at hy'
      simp only[beq_iff_eq]at e
      subst e hy'
      exact hs
    ·simp only[look]at hl⊢
     cases e:k==k'
     ·rw[e]at hl;exact(h k').2 hl
     ·rfl
   ·cases hf
  split at hm
  ·rename_i u hl
   rw[Bool.cond_eq_ite]at hm
   split at hm
   ·rename_i hu
    simp only[decide_eq_true_eq]at hu
    subst hu
    split at hm
    ·rename_i y hy
     simp only[Option.some.injEq]at hm
     exact key u [] y rfl hy hm.symm (.inl ⟨u,m,hl,rfl⟩)
    ·cases hm
   ·cases hm
  ·rename_i r hl
   split at hm
   ·rename_i u xs m' hlk
    rw[Bool.cond_eq_ite]at hm
    split at hm
    ·rename_i hu
     simp only[Bool.and_eq_true,decide_eq_true_eq]at hu
     obtain⟨rfl,hu⟩:=hu
     split at hm
     ·rename_i y hy
      simp only[Option.some.injEq]at hm
      exact key u xs y rfl hy hm.symm (.inr (.inl ⟨r,u,xs,m,m',hl,hlk,hu,rfl⟩))
     ·cases hm
    ·cases hm
   ·cases hm
  ·cases hm
 |(k,.mp)::l,ds,z,z',rs,hm,hf=>by
  simp only[matchR]at hm
  split at hm
  ·rename_i r hl
   split at hm
   ·rename_i xs hlk
    split at hm
    ·rename_i y hy
     simp only[Option.some.injEq]at hm
     subst hm
     simp only[List.cons_append,fillR]at hf
     split at hf
     ·rename_i vs l2 hf2
      simp only[Option.some.injEq,Prod.mk.injEq]at hf
      obtain⟨rfl,rfl⟩:=hf
      obtain⟨rfl,h⟩:=matchR_sim w l y z l2 vs hy hf2
      refine⟨rfl,fun k'=>⟨fun y' hy'=>?_,fun hl'=>?_⟩⟩
      ·simp only[look]at hy'
       cases e:k==k'
       ·rw[e]at hy';exact(h k').1 y' hy'
       ·rw[e]at hy'
        simp only[cond_true,Option.some.injEq]at hy'
        simp only[beq_iff_eq]at e
        subst e hy'
        exact .inr (.inr (.inl ⟨r,xs,hl,hlk,rfl⟩))
      ·simp only[look]at hl'⊢
       cases e:k==k'
       ·rw[e]at hl';exact(h k').2 hl'
       ·rfl
     ·cases hf
    ·cases hm
   ·cases hm
  ·cases hm
 |(k,.box p)::l,ds,z,z',rs,hm,hf=>by
  simp only[matchR]at hm
  split at hm
  ·rename_i r hl
   split at hm
   ·rename_i ps hlk
    rw[Bool.cond_eq_ite]at hm
    split at hm
    ·rename_i hc
     split at hm
     ·rename_i x y hx hy
      simp only[Option.some.injEq]at hm
      subst hm
      simp only[fillR]at hf
      split at hf
      ·rename_i ps' l1 hf1
       split at hf
       ·rename_i vs l2 hf2
        simp only[Option.some.injEq,Prod.mk.injEq]at hf
        obtain⟨rfl,rfl⟩:=hf
        rw[List.append_assoc]at hf1
        obtain rfl:=matchP_len w p _ _ _ _ _ hx hf1 hc
        obtain⟨rfl,h⟩:=matchR_sim w l y z l2 vs hy hf2
        obtain⟨a,rfl⟩:=matchP_ag hx
        simp only[matchP]at hx
        simp only[fillP]at hf1
        split at hf1
        ·rename_i ps1 l1 hf3
         simp only[Option.some.injEq,Prod.mk.injEq,PV.ag.injEq]at hf1
         obtain⟨rfl,rfl⟩:=hf1
         refine⟨rfl,fun k'=>⟨fun y' hy'=>?_,fun hl'=>?_⟩⟩
         ·simp only[look]at hy'
          cases e:k==k'
          ·rw[e]at hy';exact(h k').1 y' hy'
          ·rw[e]at hy'
           simp only[cond_true,Option.some.injEq]at hy'
           simp only[beq_iff_eq]at e
           subst e hy'
           exact .inr (.inr (.inr ⟨r,ps,ps1,a,x,_,hl,hlk,rfl,hx,hf3,by simpa only[bindsP]using hc⟩))
         ·simp only[look]at hl'⊢
          cases e:k==k'
          ·rw[e]at hl';exact(h k').2 hl'
          ·rfl
        ·cases hf1
       ·cases hf
      ·cases hf
     ·cases hm
    ·cases hm
   ·cases hm
  ·cases hm
def newB:Own→List Nat→List Nat
 | .froz,_=>[]
 | .shal,bs=>bs.take 1
 |_,bs=>bs
theorem newB_sub{m:Own}{bs:List Nat}:(newB m bs).Sublist bs:=by
 cases m
 ·exact List.Sublist.refl _
 ·exact List.Sublist.refl _
 ·exact List.take_sublist _ _
 ·exact List.nil_sublist _
 ·exact List.Sublist.refl _
theorem RootRel.fit(hsub: ∀k,AllW W' k→AllW W k){g:G}{t:Ty}{xs:List t.den}{m m':Own}{bs:List Nat}(hf:modeFits m m' t=true)(hnd:bs.Nodup)(hx: ∀k∈bs,k∉newB m bs→ ¬AllW W' k)(h:RootRel γ D w W g (.row t xs m') bs):
  RootRel γ' D' w W' g (.row t xs m) (newB m bs):=by
 have h0:=h
 obtain⟨v,rfl,h|⟨rfl,rfl,h1,h2⟩⟩:=h.row
 ·obtain⟨hm',h⟩:=h
  by_cases hbr:m= .bare
  ·have e:m'= .bare:=by
    unfold modeFits at hf
    subst hbr
    cases m'<;>simp_all [Own.deep]
   subst hbr e
   exact⟨rfl,h0.2.1.step (fun _ _=>rfl) (Nat.le_refl _) (fun x c b _ _ hr=>DRel.own (Nat.le_refl _) t x c b (fun _ _=>rfl) hr),h0.2.2⟩
  by_cases hm:m= .froz
  ·subst hm
   refine⟨rfl,rfl,?_,h.head⟩
   have hx': ∀k∈bs,¬AllW W' k:=fun k hk=>hx k hk (by simp[newB])
   exact h.lend hx' (fun x c b hb hr=>hr.lend hsub (fun k hk=>hx' k (hb k hk)))
  ·refine RootRel.mkRow hm ?_
   by_cases hs:m= .shal
   ·subst hs
    rw[RowR.shal rfl]
    rcases h with⟨A,rfl,rfl,rfl⟩|⟨g,cap,cells,rest,e,h1,h2,h3,h4,h5,h6,rfl⟩
    ·exact .inl ⟨A,rfl,rfl,rfl⟩
    ·refine .inr ⟨g,cap,cells,[],e,h1,h2,h3,h4,h5,?_,rfl⟩
     by_cases hd:m'= .shal
     ·subst hd
      rw[RowR.shal rfl]at h6
      have hn:rest=[]:=h6.nil_of fun x c b h=>h.1
      subst hn
      exact EL.mono (fun x c b _ _ h=>⟨h.1,h.2.less hsub⟩) h6
     ·have hdeep:m'.deep=true:=by cases m'<;>first|rfl|exact absurd rfl hd|exact absurd rfl hm'
      rw[RowR.deep hdeep]at h6
      by_cases hfl:t.flat=true
      ·obtain⟨_,h6⟩:=EL.flat (R':=fun x c b=>b=[]∧DRel w (AllW W') false t x c []) (fun x c b h=>⟨(DRel.flat (w':=w) (O':=AllW W') (m':=false) t x c b hfl h).1,rfl,(DRel.flat t x c b hfl h).2⟩) h6
       exact h6
      ·
       have hin: ∀k∈rest,¬AllW W' k:=fun k hk=>hx k (by simp[hk]) (by
        have:k≠g:=fun e=>(List.nodup_cons.1 hnd).1 (e▸hk)
        simp[newB,this])
       exact EL.lend (fun x c b hb h=>⟨rfl,DRel.lend t x c b (fun k hk=>hin k (hb k hk)) h⟩) h6
   ·have hb:newB m bs=bs:=by cases m<;>first|rfl|exact absurd rfl hm|exact absurd rfl hs
    rw[hb]
    have hdeep:m.deep=true:=by cases m<;>first|rfl|exact absurd rfl hm|exact absurd rfl hs
    rw[RowR.deep hdeep]
    refine h.step (fun _ _=>rfl) (Nat.le_refl _) (fun x c b _ _ hr=>?_)
    cases hd:m'.deep
    ·rw[RowR.shal hd]at hr
     have hfl:t.flat=true:=by
      unfold modeFits at hf
      cases m<;>cases m'<;>simp_all [Own.deep]
     obtain⟨rfl,hr⟩:=hr
     exact(DRel.flat t x c [] hfl hr).2
    ·rw[RowR.deep hd]at hr
     exact DRel.own (Nat.le_refl _) t x c b (fun _ _=>rfl) hr
 ·have hm:m= .froz:=by
   unfold modeFits at hf
   cases m<;>simp_all [Own.deep]
  subst hm
  exact⟨rfl,rfl,h1.step (Stp.shrink hsub) (fun x c b _ h=>h.less hsub),h2⟩
end
end Go.Vm
namespace Go.Vm
open Go
section
variable {C:Ctx} {γ:Nat→G} {B:Nat→List Nat} {a:Act} {w:World}
theorem VRel.sc_of{γ:Nat→G}{D:Nat→Nat}{W:Nat→Nat→Prop}{γ':Nat→G}{D':Nat→Nat}{w w':World}{W':Nat→Nat→Prop}(hs:Stp w (AllW W) w' (AllW W')){u:Ty}{x:u.den}{v:Value}(h:VRel γ D w W (.sc u x) v):VRel γ' D' w' W' (.sc u x) v:=by
 have key: ∀cs,LRel γ D w W (.sc u x) cs→LRel γ' D' w' W' (.sc u x) cs:=fun cs h=>by
  simp only[LRel]at h⊢;exact⟨h.1,DRel.bor hs _ _ _ _ h.2⟩
 cases u<;>first|exact key _ h|(obtain⟨cs,e,h⟩:=h;exact⟨cs,e,key _ h⟩)
theorem own0_r{k:Nat}(h:own0 k 0=true):k=0:=by
 unfold own0 at h
 rw[show Nat.blt 0 1=true from rfl,Bool.or_true]at h
 simpa using h
theorem own0_l{r:Nat}(h:own0 0 r=true):0=r:=by
 unfold own0 at h
 rw[show Nat.blt 0 1000=true from rfl,Bool.true_or]at h
 simpa using h
theorem getT_append(l l':List (Nat×PV))(t:Nat):getT (l++l') t=match look l t with|some v=>v|none=>getT l' t:=by
 unfold getT
 rw[look_append]
 cases look l t<;>rfl
theorem Rel.whole{lk:Look}: ∀(l:List (Nat×PS)) (tm:List (Nat×PV)),Rel C γ B a w (getT tm) lk→Rel C γ B a w (getT (wholeT lk l tm)) lk
 |[],_,h=>h
 |(t,p)::l,tm,h=>by
  cases p with
  |sub k=>
   unfold wholeT
   refine Rel.whole l _ ?_
   split
   ·rename_i r hr
    split
    ·rename_i u xs m hx
     cases h0:r==0 with
     |true=>exact h
     |false=>
      rw[cond_false,getT_ins]
      have hr0:r≠0:=by simpa using h0
      have hx':extL lk r=some (.row u xs m):=(extL_ne hr0).trans hx
      refine{h with tm:=fun t'=>?_}
      unfold putF
      by_cases e:t'=t
      ·subst e
       have hv:=h.tm t'
       rw[hr]at hv
       simp only[if_true]
       simp only[VRel,VRel0,LRel]at hv⊢
       obtain⟨hd,v,t2,e1,e2,_⟩:=hv
       obtain⟨A,cap,e3,hA,hc,_⟩:=h.mem.rowVal hx'
       rw[e1]at e3
       cases e3
       rw[e2]
       exact⟨hd,_,_,A,_,cap,A,cap,e1,rfl,rfl,hc,Nat.zero_add _,by omega,fun hp=>by obtain⟨g,rfl⟩:=hA hp;exact⟨g,rfl,by rw[Nat.zero_mul]⟩,fun _=>rfl⟩
      ·simp only[if_neg e];exact h.tm t'
    ·exact h
   ·exact h
  |_=>exact Rel.whole l tm h
theorem Rel.rename0{s s':St}{sh:Shape}{ds:List Dyn}(hR:Rel C γ B a w (getT s.tm) (look s.roots))(hm:matchO sh s=some ds)(hf:fillS sh ds=some s'){cl:List (Nat×PV)}
  (hcl: ∀t v,look cl t=some v→ ∃u x,v= .sc u x∧VRel γ (Dom (extL (look s.roots))) w (Owned B (extL (look s.roots))) (.sc u x) (a.tmps.getD t undef)):
  ∃γ' B',Rel C γ' B' a w (getT (cl++s'.tm)) (look s'.roots):=by
 generalize hlk:look s.roots=lk at hR hcl
 unfold matchO at hm
 dsimp only at hm
 generalize hb:bindsS sh s=b at hm
 rw[Bool.cond_eq_ite]at hm
 split at hm
 case isFalse=>cases hm
 rename_i hc
 simp only[Bool.and_eq_true,List.all_eq_true]at hc
 obtain⟨⟨hcons,hcov⟩,hkeys⟩:=hc
 split at hm
 case h_2=>cases hm
 rename_i x y hx hy
 simp only[Option.some.injEq]at hm
 subst hm
 unfold fillS at hf
 split at hf
 case h_2=>cases hf
 rename_i tm' l1 hf1
 split at hf
 case h_2=>cases hf
 rename_i rs hf2
 simp only[Option.some.injEq]at hf
 subst hf
 dsimp only
 rw[hlk]at hy
 have hl1:l1=y:=by
  have hr:Ren b (fun _=> .box 0 0 [] fun _=>(none,false)) (fun _=>1) (fun _ _=>False) (fun k=>match look b k with|some (.nil t)=> .row (.slice none 0 0) t|_=> .box 0 0 [] fun _=>(none,false)) (fun _=>1) (fun _ _=>False):=
   ⟨fun k r h=>⟨by simp[h],by simp⟩,fun k r h=>⟨by simp[h],by simp⟩,fun k t h=>⟨by simp[h],by simp⟩,fun _ h=>h⟩
  exact(matchT_sim (w:=w) hr sh.tm x y l1 tm' hx hf1 hcov).1
 subst hl1
 obtain⟨_,hroots⟩:=matchR_sim w sh.roots l1 [] [] rs hy (by rw[List.append_nil];exact hf2)
 have hM:=hR.mem
 generalize hγ:(fun k=>match look b k with|some (.row r)=>γ r|some (.box r)=>γ r|some (.nil t)=> .row (.slice none 0 0) t|none=>γ k)=γ'
 generalize hB':(fun k=>if k=0 then B 0 else match look b k with
  |some (.row r)=>(match look rs k with|some (.row _ _ m)=>newB m (B r)|some (.mp _)=>B r|_=>[])
  |some (.box r)=>B r
  |_=>[])=B'
 have gr: ∀k r,look b k=some (.row r)→γ' k=γ r:=fun k r h=>by subst hγ;simp[h]
 have gb: ∀k r,look b k=some (.box r)→γ' k=γ r:=fun k r h=>by subst hγ;simp[h]
 have gn: ∀k t,look b k=some (.nil t)→γ' k= .row (.slice none 0 0) t:=fun k t h=>by subst hγ;simp[h]
 have gg: ∀k,look b k=none→γ' k=γ k:=fun k h=>by subst hγ;simp[h]
 have B0:B' 0=B 0:=by subst hB';simp
 have Br: ∀k r t xs m,k≠0→look b k=some (.row r)→look rs k=some (.row t xs m)→B' k=newB m (B r):=fun k r t xs m h h1 h2=>by subst hB';simp[h,h1,h2]
 have Bm: ∀k r xs,k≠0→look b k=some (.row r)→look rs k=some (.mp xs)→B' k=B r:=fun k r xs h h1 h2=>by subst hB';simp[h,h1,h2]
 have Bb: ∀k r,k≠0→look b k=some (.box r)→B' k=B r:=fun k r h h1=>by subst hB';simp[h,h1]
 have Bn: ∀k t,k≠0→look b k=some (.nil t)→B' k=[]:=fun k t h h1=>by subst hB';simp[h,h1]
 have hown:=consist_own hcons
 have hdom: ∀k,(look b k).isSome=true→Dom (extL (look rs)) k≠0:=fun k h=>by
  obtain⟨z,hz⟩:=Option.isSome_iff_exists.1 h
  have h1:=hkeys _ (look_mem hz)
  have h2:=(hroots k).2 h1
  obtain⟨z',hz'⟩:=Option.isSome_iff_exists.1 h2
  by_cases e:k=0
  ·subst e;exact Dom_ne (extL_zero _)
  ·exact Dom_ne (x:=z') (by rw[extL_ne e];exact hz')
 have hsrc: ∀k z,k≠0→look rs k=some z→B' k=[]∨ ∃r,(∃x,look b k=some x∧rootOf x=some r)∧r≠0∧(∃z',lk r=some z')∧(B' k).Sublist (B r):=by
  intro k z hk hz
  rcases(hroots k).1 z hz with⟨t,m,h1,h2⟩|⟨r,t,xs,m,m',h1,h2,h3,h4⟩|⟨r,xs,h1,h2,h4⟩|⟨r,ps,ps',p,ds,l,h1,h2,h3,h4⟩
  ·exact .inl (Bn k t hk h1)
  ·refine .inr ⟨r,⟨_,h1,rfl⟩,?_,⟨_,h2⟩,?_⟩
   ·rintro rfl
    have:=(hown k _ (look_mem h1)).1 0 rfl
    exact hk (own0_r this)
   ·rw[Br k r t xs m hk h1 (by rw[hz,h4])];exact newB_sub
  ·refine .inr ⟨r,⟨_,h1,rfl⟩,?_,⟨_,h2⟩,?_⟩
   ·rintro rfl
    have:=(hown k _ (look_mem h1)).1 0 rfl
    exact hk (own0_r this)
   ·rw[Bm k r xs hk h1 (by rw[hz,h4])];exact List.Sublist.refl _
  ·refine .inr ⟨r,⟨_,h1,rfl⟩,?_,⟨_,h2⟩,?_⟩
   ·rintro rfl
    have:=(hown k _ (look_mem h1)).1 0 rfl
    exact hk (own0_r this)
   ·rw[Bb k r hk h1]
    exact List.Sublist.refl _
 have hsub: ∀k,AllW (Owned B' (extL (look rs))) k→AllW (Owned B (extL lk)) k:=by
  rintro k ⟨s,z,h1,h2⟩
  by_cases e:s=0
  ·subst e;exact⟨0,_,rfl,B0▸h2⟩
  ·rw[extL_ne e]at h1
   rcases hsrc s z e h1 with h|⟨r,_,hr0,⟨z',hz'⟩,hs⟩
   ·rw[h]at h2;simp at h2
   ·exact⟨r,z',by rw[extL_ne hr0];exact hz',hs.subset h2⟩
 have hren:Ren b γ (Dom (extL lk)) (Owned B (extL lk)) γ' (Dom (extL (look rs))) (Owned B' (extL (look rs))):=
  ⟨fun k r h=>⟨gr k r h,hdom k (by rw[h];rfl)⟩,fun k r h=>⟨gb k r h,hdom k (by rw[h];rfl)⟩,fun k t h=>⟨gn k t h,hdom k (by rw[h];rfl)⟩,hsub⟩
 have hstp:Stp w (AllW (Owned B (extL lk))) w (AllW (Owned B' (extL (look rs)))):=Stp.shrink hsub
 have huniq: ∀s s' z z' k,extL (look rs) s=some z→extL (look rs) s'=some z'→k∈B' s→k∈B' s'→s=s':=by
  have key: ∀s z k,s≠0→look rs s=some z→k∈B' s→k∈B 0→False:=fun s z k e h hk hk0=>by
   rcases hsrc s z e h with h'|⟨r,_,hr0,⟨z',hz'⟩,hs⟩
   ·rw[h']at hk;simp at hk
   ·exact hr0 (hM.uniq r 0 z' _ k (by rw[extL_ne hr0];exact hz') rfl (hs.subset hk) hk0)
  intro s s' z z' k h h' hk hk'
  by_cases e:s=0
  ·by_cases e':s'=0
   ·rw[e,e']
   ·subst e;rw[extL_ne e']at h';exact(key s' z' k e' h' hk' (B0▸hk)).elim
  ·by_cases e':s'=0
   ·subst e';rw[extL_ne e]at h;exact(key s z k e h hk (B0▸hk')).elim
   ·rw[extL_ne e]at h;rw[extL_ne e']at h'
    rcases hsrc s z e h with q|⟨r,⟨x1,q1,q2⟩,hr0,⟨y1,hy1⟩,hs⟩
    ·rw[q]at hk;simp at hk
    ·rcases hsrc s' z' e' h' with q|⟨r',⟨x2,q3,q4⟩,hr0',⟨y2,hy2⟩,hs'⟩
     ·rw[q]at hk';simp at hk'
     ·have hrr:=hM.uniq r r' y1 y2 k (by rw[extL_ne hr0];exact hy1) (by rw[extL_ne hr0'];exact hy2) (hs.subset hk) (hs'.subset hk')
      subst hrr
      exact consist_inj hcons (look_mem q1) (look_mem q3) q2 q4
 refine⟨γ',B',⟨fun k z hz=>?_,fun k z hz=>?_,huniq,fun k z hz j hj=>?_,fun k hk n j c o ha=>?_⟩,fun t=>?_,hR.size,hR.defers,hR.base.trans hstp,fun k hk=>?_,fun r hr hne=>?_,fun q hq=>⟨(hR.keep q hq).1,(hR.keep q hq).2.trans hstp⟩⟩
 ·by_cases e:k=0
  ·subst e
   rw[extL_zero]at hz;cases hz
   unfold RootRel;split<;>first|trivial|simp_all
  ·rw[extL_ne e]at hz
   rcases(hroots k).1 z hz with⟨t,m,h1,rfl⟩|⟨r,t,xs,m,m',h1,h2,h3,rfl⟩|⟨r,xs,h1,h2,rfl⟩|⟨r,ps,ps',p,ds,l,h1,h2,rfl,h4,h5,h6⟩
   ·rw[gn k t h1,Bn k t e h1]
    refine⟨rfl,?_⟩
    cases m
    ·exact .inl ⟨none,rfl,rfl,rfl⟩
    ·exact .inl ⟨none,rfl,rfl,rfl⟩
    ·exact .inl ⟨none,rfl,rfl,rfl⟩
    ·exact⟨rfl,⟨none,0,rfl,⟨Nat.le_refl _,Nat.zero_le _⟩,fun h=>absurd h (by simp)⟩,fun h=>absurd h (by simp)⟩
    ·exact⟨.inl ⟨none,rfl,rfl,rfl⟩,fun g hg=>by simp[rowAt]at hg⟩
   ·have hr0:r≠0:=by
     rintro rfl
     have:=(hown k _ (look_mem h1)).1 0 rfl
     exact e (own0_r this)
    have hz2:extL lk r=some (.row t xs m'):=by rw[extL_ne hr0];exact h2
    have hBr:=Br k r t xs m e h1 hz
    rw[gr k r h1,hBr]
    refine RootRel.fit hsub h3 (hM.nodup r _ hz2) (fun j hj hn ⟨s,z',q1,q2⟩=>?_) (hM.rel r _ hz2)
    by_cases es:s=0
    ·subst es
     exact hr0 (hM.uniq r 0 _ _ j hz2 rfl hj (B0▸q2))
    ·rw[extL_ne es]at q1
     rcases hsrc s z' es q1 with q|⟨r',⟨x1,q3,q4⟩,hr0',⟨y1,hy1⟩,hs⟩
     ·rw[q]at q2;simp at q2
     ·have:=hM.uniq r r' _ y1 j hz2 (by rw[extL_ne hr0'];exact hy1) hj (hs.subset q2)
      subst this
      obtain rfl:=consist_inj hcons (look_mem h1) (look_mem q3) rfl q4
      rw[hBr]at q2
      exact hn q2
   ·have hr0:r≠0:=by
     rintro rfl
     have:=(hown k _ (look_mem h1)).1 0 rfl
     exact e (own0_r this)
    have hz2:extL lk r=some (.mp xs):=by rw[extL_ne hr0];exact h2
    rw[gr k r h1,Bm k r xs e h1 hz]
    obtain⟨c,es,ck,e1,k1,k2,k3,k4⟩:=(hM.rel r _ hz2).mp
    rw[e1]
    exact⟨rfl,c,rfl,k1,k2,es,ck,k3,k4⟩
   ·have hr0:r≠0:=by
     rintro rfl
     have:=(hown k _ (look_mem h1)).1 0 rfl
     exact e (own0_r this)
    have hz2:extL lk r=some (.box ps):=by rw[extL_ne hr0];exact h2
    rw[gb k r h1,Bb k r e h1]
    obtain⟨c,o,out,e1,k0,k1,k2,⟨cs,k3,k4⟩,k5,k6⟩:=(hM.rel r _ hz2).box
    obtain⟨_,m2,m3,_,m5,_⟩:=matchL_sim (w:=w) hren p ps ds l l ps' h4 h5 h6
    rw[e1]
    exact⟨by rw[m3];exact k0,m2,k1,k2,⟨cs,m5 _ k3,k4⟩,k5,k6⟩
 ·by_cases e:k=0
  ·subst e;rw[B0];exact hM.nodup 0 _ rfl
  ·rw[extL_ne e]at hz
   rcases hsrc k z e hz with q|⟨r,_,hr0,⟨y1,hy1⟩,hs⟩
   ·rw[q];exact List.nodup_nil
   ·exact hs.nodup (hM.nodup r y1 (by rw[extL_ne hr0];exact hy1))
 ·by_cases e:k=0
  ·subst e;rw[B0]at hj;exact hM.lt 0 _ rfl j hj
  ·rw[extL_ne e]at hz
   rcases hsrc k z e hz with q|⟨r,_,hr0,⟨y1,hy1⟩,hs⟩
   ·rw[q]at hj;simp at hj
   ·exact hM.lt r y1 (by rw[extL_ne hr0];exact hy1) j (hs.subset hj)
 ·by_cases e:k=0
  ·subst e
   have:γ' 0=γ 0:=by
    cases hl:look b 0 with
    |none=>exact gg 0 hl
    |some z=>
     cases z with
     |row r=>
      have:=(hown 0 _ (look_mem hl)).1 r rfl
      rw[gr 0 r hl,←own0_l this]
     |box r=>
      have:=(hown 0 _ (look_mem hl)).1 r rfl
      rw[gb 0 r hl,←own0_l this]
     |nil t=>exact absurd ((hown 0 _ (look_mem hl)).2 rfl) (by omega)
   rw[this]at ha
   exact hM.glt 0 (Dom_ne (extL_zero _)) n j c o ha
  ·obtain⟨z,hz⟩:=dom_some hk
   rw[extL_ne e]at hz
   rcases(hroots k).1 z hz with⟨t,m,h1,h2⟩|⟨r,t,xs,m,m',h1,h2,_⟩|⟨r,xs,h1,h2,_⟩|⟨r,ps,ps',p,ds,l,h1,h2,_⟩
   ·rw[gn k t h1]at ha
    simp[G.at,rowAt]at ha
   ·rw[gr k r h1]at ha
    refine hM.glt r ?_ n j c o ha
    by_cases er:r=0
    ·subst er;exact Dom_ne (extL_zero _)
    ·exact Dom_ne (x:= .row t xs m') (by rw[extL_ne er];exact h2)
   ·rw[gr k r h1]at ha
    refine hM.glt r ?_ n j c o ha
    by_cases er:r=0
    ·subst er;exact Dom_ne (extL_zero _)
    ·exact Dom_ne (x:= .mp xs) (by rw[extL_ne er];exact h2)
   ·rw[gb k r h1]at ha
    refine hM.glt r ?_ n j c o ha
    by_cases er:r=0
    ·subst er;exact Dom_ne (extL_zero _)
    ·exact Dom_ne (x:= .box ps) (by rw[extL_ne er];exact h2)
 ·rw[getT_append]
  cases hl:look cl t with
  |some v=>
   obtain⟨u,x',rfl,h⟩:=hcl t v hl
   exact VRel.sc_of hstp h
  |none=>exact(matchT_sim (w:=w) hren sh.tm x l1 l1 tm' hx hf1 hcov).2 t _ (hlk▸hR.tm t)
 ·rw[B0];exact hR.frame k hk
 ·obtain⟨z,hz⟩:=Option.ne_none_iff_exists'.1 hne
  have key: ∀r',own0 r r'=true→r=r':=fun r' h=>by
   unfold own0 at h
   rw[show Nat.blt r 1000=true by simpa using hr]at h
   simpa using h
  rcases(hroots r).1 z hz with⟨t,m,h1,h2⟩|⟨r',t,xs,m,m',h1,h2,_⟩|⟨r',xs,h1,h2,_⟩|⟨r',ps,ps',p,ds,l,h1,h2,_⟩
  ·exact absurd ((hown r _ (look_mem h1)).2 rfl) (by omega)
  ·obtain rfl:=key r' ((hown r _ (look_mem h1)).1 r' rfl)
   rw[gr r r h1]
   exact hR.fix r hr (by rw[h2];simp)
  ·obtain rfl:=key r' ((hown r _ (look_mem h1)).1 r' rfl)
   rw[gr r r h1]
   exact hR.fix r hr (by rw[h2];simp)
  ·obtain rfl:=key r' ((hown r _ (look_mem h1)).1 r' rfl)
   rw[gb r r h1]
   exact hR.fix r hr (by rw[h2];simp)
theorem Rel.rename{s s':St}{sh:Shape}{ds:List Dyn}(hR:Rel C γ B a w (getT s.tm) (look s.roots))(hm:matchOK sh s=some ds)(hf:fillS sh ds=some s'){cl:List (Nat×PV)}
  (hcl: ∀t v,look cl t=some v→ ∃u x,v= .sc u x∧VRel γ (Dom (extL (look s.roots))) w (Owned B (extL (look s.roots))) (.sc u x) (a.tmps.getD t undef)):
  ∃γ' B',Rel C γ' B' a w (getT (cl++s'.tm)) (look s'.roots):=
 Rel.rename0 (s:={s with tm:=wholeT (look s.roots) sh.tm s.tm}) (Rel.whole _ _ hR) hm hf hcl
end
end Go.Vm
