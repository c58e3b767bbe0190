import Derived.Test.YtimnollnngmjpaaGreatDoorVA1
import Derived.Laws.Entries
import Derived.Laws.Small
import Derived.Laws.Strings
import Derived.DataElems
import Derived.Laws.Slices
import Derived.Laws.IdiomStrings
import Derived.Laws.StructEq
import Derived.Laws.Cover3
import Derived.Laws.OwnMore
import Derived.Laws.BytesArg
import Derived.Deep.Upon
import Derived.Lib.AppendZerosOnto
import Derived.Laws.IdiomCopy
/- A part of the proof, its blanks struck by a program of ours. -/
set_option linter.unusedVariables false
namespace Go.Vm
section
variable {γ:Nat→G} {B:Nat→List Nat} {w:World} {lk lkS:Look} {O':Nat→Prop}
theorem Mem.toD_own(hM:Mem γ B w lk)(hS:Sub lkS lk){O:Nat→Prop}{t:Ty}{p:PV}{v:Value}{x:t.den}(ht:(Vm.toD lkS t p).run=some x)(hv:VRel γ (Dom lk) w (Owned B lk) p v)(ho:ownable lkS p=true):
  DRel w O true t x v.cells.toList ((ids p).flatMap B):=by
 simp only[Vm.toD,Out.need_some,Out.bind_some]at ht
 obtain⟨hp,⟨y,rest⟩,h1,h2⟩:=ht
 split at h2
 ·simp only[Out.ret_some]at h2
  rename_i heq
  have ho':ownableL lkS (Vm.unpack p)=true:=by
   cases p<;>simp only[Vm.unpack,ownableL,Bool.and_true]<;>try exact ho
  obtain⟨c1,c2,qs,e1,h3,h4,e2⟩:=hM.toL_own hS (O:=O) t (Vm.unpack p) v.cells.toList y rest h1 (hv.unpack hp).1 ho'
  dsimp only at heq h2
  subst heq h2
  rw[show c2=[]from h4,List.append_nil]at e1
  rw[e1]
  have:idsL qs=ids p:=by
   rw[List.append_nil]at e2
   rw[←e2]
   cases p<;>simp[Vm.unpack,idsL,ids]
  rw[←this];exact h3
 ·simp[Out.run]at h2
end
section
variable {γ:Nat→G} {D:Nat→Nat} {w:World} {W:Nat→Nat→Prop}
theorem leaves_LL: ∀(t:Ty) (x:t.den) (cs:List Value),DRel w (AllW W) false t x cs []→LL γ D w W (leaves t x) cs
 | .pair a b,x,cs,⟨c,d,p,q,e1,e2,h1,h2⟩=>by
  simp at e2
  obtain⟨rfl,rfl⟩:=e2
  rw[e1];exact(leaves_LL a _ c h1).append (leaves_LL b _ d h2)
 | .st t,x,cs,h=>leaves_LL t x cs h
 | .unit,x,cs,h=>h.1
 | .int k,x,cs,h=>LL.single.2 (by simp only[LRel];exact⟨rfl,h⟩)
 | .bool,x,cs,h=>LL.single.2 (by simp only[LRel];exact⟨rfl,h⟩)
 | .str,x,cs,h=>LL.single.2 (by simp only[LRel];exact⟨rfl,h⟩)
 | .err,x,cs,h=>LL.single.2 (by simp only[LRel];exact⟨rfl,h⟩)
 | .ref,x,cs,h=>LL.single.2 (by simp only[LRel];exact⟨rfl,h⟩)
 | .sl t,x,cs,h=>LL.single.2 (by simp only[LRel];exact⟨rfl,h⟩)
 | .arr n t,x,cs,h=>LL.single.2 (by simp only[LRel];exact⟨rfl,h⟩)
theorem alikeL_append: ∀{ps qs ps' qs':List PV},alikeL ps qs=true→alikeL ps' qs'=true→alikeL (ps++ps') (qs++qs')=true
 |[],[],_,_,_,h=>h
 |p::ps,q::qs,_,_,h,h'=>by
  simp only[alikeL,Bool.and_eq_true,List.cons_append]at*
  exact⟨h.1,alikeL_append h.2 h'⟩
 |[],_::_,_,_,h,_|_::_,[],_,_,h,_=>by simp[alikeL]at h
theorem leaves_alike: ∀(t:Ty) (x:t.den),alikeL (zeroL t) (leaves t x)=true
 | .pair a b,x=>alikeL_append (leaves_alike a x.1) (leaves_alike b x.2)
 | .st t,x=>leaves_alike t x
 | .unit,_| .int _,_| .bool,_| .str,_| .err,_| .ref,_| .sl _,_=>rfl
 | .arr n t,x=>by simp[zeroL,leaves,alikeL,alike]
theorem leavesAt_alike(r n:Nat): ∀(t:Ty) (x:t.den) (k:Nat),alikeL (zeroL t) (leavesAt r n t x k)=true
 | .pair a b,x,k=>alikeL_append (leavesAt_alike r n a x.1 k) (leavesAt_alike r n b x.2 _)
 | .st t,x,k=>leavesAt_alike r n t x k
 | .unit,_,_| .int _,_,_| .bool,_,_| .str,_,_| .err,_,_| .ref,_,_| .sl _,_,_=>rfl
 | .arr n t,x,_=>by simp[zeroL,leavesAt,alikeL,alike]
theorem ownL_alike: ∀(t:Ty) (x:t.den) (i:Nat),alikeL (zeroL t) (ownL t x i).1=true
 | .pair a b,x,k=>alikeL_append (ownL_alike a x.1 k) (ownL_alike b x.2 _)
 | .st t,x,k=>ownL_alike t x k
 | .unit,_,_| .int _,_,_| .bool,_,_| .str,_,_| .err,_,_| .ref,_,_| .sl _,_,_=>rfl
 | .arr n t,x,_=>by simp[zeroL,ownL,alikeL,alike]
theorem leavesAt_LL{O:Nat→Prop}{r n b:Nat}(hb:b<w.heap.size)(hnb: ¬ButW W r b): ∀(t:Ty) (x:t.den) (k:Nat) (cs:List Value) (bs:List Nat) (o:Nat),DRel w O true t x cs bs→w.rangeAt b o cs→
  (∀i,i<t.nl→(γ r).at n (k+i)=some (b,o+offL t i))→(t.flat=false→D r=2)→t.arrOK=true→LL γ D w W (leavesAt r n t x k) cs
 | .pair a c,x,k,cs,bs,o,⟨c1,c2,p,q,e1,e2,h1,h2⟩,hr,ha,hd,ho=>by
  rw[e1]at hr⊢
  simp only[Ty.arrOK,Bool.and_eq_true]at ho
  refine LL.append (leavesAt_LL hb hnb a x.1 k c1 p o h1 ?_ ?_ ?_ ho.1) (leavesAt_LL hb hnb c x.2 (k+a.nl) c2 q (o+a.sz) h2 ?_ ?_ ?_ ho.2)
  ·have:=rangeAt_mid (c1:=[]) (c2:=c1) (c3:=c2) (by simpa using hr)
   simpa using this
  ·intro i hi
   rw[ha i (by simp only[Ty.nl];omega),offL_left _ _ (by omega)]
  ·intro hf;exact hd (by simp[Ty.flat,hf])
  ·have:=rangeAt_mid (c1:=c1) (c2:=c2) (c3:=[]) (by simpa using hr)
   rwa [DRel.length _ _ _ _ h1]at this
  ·intro i hi
   rw[Nat.add_assoc,ha (a.nl+i) (by simp only[Ty.nl];omega),offL_right,Nat.add_assoc]
  ·intro hf;exact hd (by simp[Ty.flat,hf])
 | .st t,x,k,cs,bs,o,h,hr,ha,hd,ho=>leavesAt_LL hb hnb t x k cs bs o h hr ha hd ho
 | .unit,x,k,cs,bs,o,h,hr,ha,hd,_=>h.1
 | .int j,x,k,cs,bs,o,h,hr,ha,hd,_=>LL.single.2 (by simp only[LRel];exact⟨rfl,(DRel.flat (.int j) x cs bs rfl h).2⟩)
 | .bool,x,k,cs,bs,o,h,hr,ha,hd,_=>LL.single.2 (by simp only[LRel];exact⟨rfl,(DRel.flat .bool x cs bs rfl h).2⟩)
 | .str,x,k,cs,bs,o,h,hr,ha,hd,_=>LL.single.2 (by simp only[LRel];exact⟨rfl,(DRel.flat .str x cs bs rfl h).2⟩)
 | .err,x,k,cs,bs,o,h,hr,ha,hd,_=>LL.single.2 (by simp only[LRel];exact⟨rfl,(DRel.flat .err x cs bs rfl h).2⟩)
 | .ref,x,k,cs,bs,o,h,hr,ha,hd,_=>LL.single.2 (by simp only[LRel];exact⟨rfl,(DRel.flat .ref x cs bs rfl h).2⟩)
 | .sl t,x,k,cs,bs,o,h,hr,ha,hd,_=>LL.single.2 (by
   simp only[LRel]
   obtain⟨v,rfl,h⟩:=h
   have h0:=ha 0 (by simp[Ty.nl])
   have h1:=hr 0 v rfl
   refine⟨hd rfl,v,b,o,by simpa[offL_zero]using h0,hb,hnb,by simpa using h1,rfl,?_⟩
   exact DRel.one (w:=w) (O:=O) (m:=true) (.sl t) x [v] bs ⟨v,rfl,h⟩ v (by simp))
 | .arr m t,x,k,cs,bs,o,h,hr,ha,hd,ho=>LL.single.2 (by simp only[LRel];exact⟨rfl,(DRel.flat (.arr m t) x cs bs ho h).2⟩)
theorem leavesL_alike(r:Nat): ∀(t:Ty) (x:t.den),alikeL (zeroL t) (leavesL r t x)=true
 | .pair a b,x=>alikeL_append (leavesL_alike r a x.1) (leavesL_alike r b x.2)
 | .st t,x=>leavesL_alike r t x
 | .unit,_| .int _,_| .bool,_| .str,_| .err,_| .ref,_| .sl _,_=>rfl
 | .arr n t,x=>by simp[zeroL,leavesL,alikeL,alike]
theorem leavesL_LL{r:Nat}(hd:D r=2): ∀(t:Ty) (x:t.den) (cs:List Value),DRel w (ButW W r) false t x cs []→t.arrOK=true→LL γ D w W (leavesL r t x) cs
 | .pair a b,x,cs,⟨c,d,p,q,e1,e2,h1,h2⟩,ho=>by
  simp at e2
  obtain⟨rfl,rfl⟩:=e2
  simp only[Ty.arrOK,Bool.and_eq_true]at ho
  rw[e1];exact(leavesL_LL hd a _ c h1 ho.1).append (leavesL_LL hd b _ d h2 ho.2)
 | .st t,x,cs,h,ho=>leavesL_LL hd t x cs h ho
 | .unit,x,cs,h,_=>h.1
 | .int k,x,cs,h,_=>LL.single.2 (by simp only[LRel];exact⟨rfl,h⟩)
 | .bool,x,cs,h,_=>LL.single.2 (by simp only[LRel];exact⟨rfl,h⟩)
 | .str,x,cs,h,_=>LL.single.2 (by simp only[LRel];exact⟨rfl,h⟩)
 | .err,x,cs,h,_=>LL.single.2 (by simp only[LRel];exact⟨rfl,h⟩)
 | .ref,x,cs,h,_=>LL.single.2 (by simp only[LRel];exact⟨rfl,h⟩)
 | .sl t,x,cs,h,_=>LL.single.2 (by simp only[LRel];exact⟨hd,rfl,rfl,h⟩)
 | .arr n t,x,cs,h,ho=>LL.single.2 (by simp only[LRel];exact⟨rfl,(DRel.flat (.arr n t) x cs [] ho h).2⟩)
end
end Go.Vm
namespace Go.Vm
def killF(lk:Look)(L:List Nat):Look:=fun s=>if s∈L then some .dead else lk s
theorem updF_append(lk:Look)(u v:Ups):updF lk (u++v)=updF (updF lk u) v:=by
 induction u generalizing lk with
 |nil=>rfl
 |cons a u ih=>obtain⟨r,x⟩:=a;exact ih _
theorem updF_kill(lk:Look)(L:List Nat):updF lk (L.map fun r=>(r,none))=killF lk L:=by
 induction L generalizing lk with
 |nil=>funext s;simp[updF,killF]
 |cons r L ih=>
  simp only[List.map_cons,updF,ih]
  funext s
  simp only[killF,setF,Option.getD_none,List.mem_cons]
  by_cases h:s∈L<;>by_cases h':s=r<;>simp[h,h']
theorem Dom_setF_same{lk:Look}{r:Nat}{x:Root}:Dom (setF lk r x) r≠0:=by
 intro h;have:=dom_none.1 h;simp[setF]at this
theorem Dom_ne{lk:Look}{r:Nat}{x:Root}(h:lk r=some x):Dom lk r≠0:=by
 intro e;rw[dom_none.1 e]at h;cases h
theorem Dom_eq{lk lk':Look}{r:Nat}(h:lk r=lk' r):Dom lk r=Dom lk' r:=by unfold Dom;rw[h]
section
variable {γ:Nat→G} {B:Nat→List Nat} {w:World} {lk:Look}
theorem Mem.take(hM:Mem γ B w lk)(L:List Nat)(r:Nat)(x':Root)(g:G)(bs:List Nat)(w':World)
  (hrL:r∉L) (hL: ∀l∈L,∃y,lk l=some y) (hg: ∀y,lk r=some y→g=γ r)
  (hsz:w.heap.size≤w'.heap.size)
  (hold: ∀k,k<w.heap.size→(∀y,lk r=some y→k∉B r)→(∀l∈L,k∉B l)→w'.heap[k]?=w.heap[k]?)
  (hos:w'.os=w.os) (hou:w'.output=w.output) (hta:w'.tape=w.tape)
  (hnd:bs.Nodup) (hbs: ∀k∈bs,k<w'.heap.size∧(k<w.heap.size→(∃y,lk r=some y∧k∈B r)∨ ∃l∈L,k∈B l))
  (hglt: ∀n k b o,g.at n k=some (b,o)→b<w'.heap.size)
  (hrel: ∀γ' B' lk',γ'=updN γ r g→lk'=setF (killF lk L) r x'→B'=updN (fun s=>if s∈L then []else B s) r bs→
   Kp γ (Dom lk) w (Owned B lk) γ' (Dom lk') w' (Owned B' lk') (fun s=>s=r∨s∈L)→(∀l∈L,∀k∈B l,k∉bs→ ¬AllW (Owned B' lk') k)→(∀y,lk r=some y→ ∀k∈B r,k∉bs→ ¬AllW (Owned B' lk') k)→(∀k,AllW (Owned B lk) k→(∀y,lk r=some y→k∉B r)→(∀l∈L,k∉B l)→AllW (Owned B' lk') k)→
   RootRel γ' (Dom lk') w' (Owned B' lk') g x' bs):
  ∃γ' B',γ'=updN γ r g∧Mem γ' B' w' (setF (killF lk L) r x')∧B' r=bs∧
   Kp γ (Dom lk) w (Owned B lk) γ' (Dom (setF (killF lk L) r x')) w' (Owned B' (setF (killF lk L) r x')) (fun s=>s=r∨s∈L):=by
 refine⟨updN γ r g,updN (fun s=>if s∈L then []else B s) r bs,rfl,?_⟩
 generalize hlk:setF (killF lk L) r x'=lk'
 generalize hB:updN (fun s=>if s∈L then []else B s) r bs=B'
 generalize hγ:updN γ r g=γ'
 have hlk1:lk' r=some x':=by rw[←hlk];simp[setF]
 have hlk2: ∀s,s≠r→s∈L→lk' s=some .dead:=fun s h1 h2=>by rw[←hlk];simp[setF,killF,h1,h2]
 have hlk3: ∀s,s≠r→s∉L→lk' s=lk s:=fun s h1 h2=>by rw[←hlk];simp[setF,killF,h1,h2]
 have hB1:B' r=bs:=by rw[←hB];simp[updN]
 have hB2: ∀s,s≠r→s∈L→B' s=[]:=fun s h1 h2=>by rw[←hB];simp[updN,h1,h2]
 have hB3: ∀s,s≠r→s∉L→B' s=B s:=fun s h1 h2=>by rw[←hB];simp[updN,h1,h2]
 have hγ1:γ' r=g:=by rw[←hγ];simp[updN]
 have hγ2: ∀s,s≠r→γ' s=γ s:=fun s h=>by rw[←hγ];simp[updN,h]
 have howr: ∀s k,Owned B' lk' s k→k<w.heap.size→Owned B lk s k∨(s=r∧ ∃l∈L,∃y,lk l=some y∧k∈B l):=by
  rintro s k ⟨y,h1,h2⟩ hk
  by_cases e:s=r
  ·subst e
   rw[hB1]at h2
   rcases(hbs k h2).2 hk with⟨y',h3,h4⟩|⟨l,h3,h4⟩
   ·exact .inl ⟨y',h3,h4⟩
   ·obtain⟨y',h5⟩:=hL l h3;exact .inr ⟨rfl,l,h3,y',h5,h4⟩
  ·by_cases e':s∈L
   ·rw[hB2 s e e']at h2;simp at h2
   ·rw[hB3 s e e']at h2;rw[hlk3 s e e']at h1;exact .inl ⟨y,h1,h2⟩
 have hown: ∀k,AllW (Owned B' lk') k→k<w.heap.size→AllW (Owned B lk) k:=by
  rintro k ⟨s,h⟩ hk
  rcases howr s k h hk with h|⟨_,l,_,y,h1,h2⟩
  ·exact⟨s,h⟩
  ·exact⟨l,y,h1,h2⟩
 have hdom: ∀s,Dom lk s≠0→Dom lk' s≠0:=fun s hs=>by
  by_cases e:s=r
  ·subst e;exact Dom_ne hlk1
  ·by_cases e':s∈L
   ·exact Dom_ne (hlk2 s e e')
   ·rw[Dom_eq (hlk3 s e e')];exact hs
 have hK:Kp γ (Dom lk) w (Owned B lk) γ' (Dom lk') w' (Owned B' lk') (fun s=>s=r∨s∈L):=by
  refine⟨⟨hsz,fun k hk hno=>hold k hk (fun y hy h=>hno ⟨r,y,hy,h⟩) (fun l hl h=>by obtain⟨y,hy⟩:=hL l hl;exact hno ⟨l,y,hy,h⟩),fun k hk hno h=>hno (hown k h hk),hos,hou,hta⟩,?_,hdom,?_⟩
  ·intro s hs
   by_cases e:s=r
   ·subst e
    obtain⟨y,hy⟩:=dom_some hs
    rw[hγ1,hg y hy]
   ·exact hγ2 s e
  ·intro s hs hb
   have e:s≠r:=fun h=>hb (.inl h)
   have e':s∉L:=fun h=>hb (.inr h)
   refine⟨by rw[Dom_eq (hlk3 s e e')];exact hs,⟨hsz,fun k hk hno=>hold k hk (fun y hy h=>hno ⟨r,fun h=>e h.symm,y,hy,h⟩) (fun l hl h=>?_),fun k hk hno=>?_,hos,hou,hta⟩,fun k ⟨y,h1,h2⟩=>⟨y,by rw[hlk3 s e e'];exact h1,by rw[hB3 s e e'];exact h2⟩⟩
   ·obtain⟨y,hy⟩:=hL l hl
    exact hno ⟨l,fun h=>e' (h▸hl),y,hy,h⟩
   ·rintro⟨s',h1,h2⟩
    rcases howr s' k h2 hk with h|⟨_,l,hl,y,h3,h4⟩
    ·exact hno ⟨s',h1,h⟩
    ·exact hno ⟨l,fun h=>e' (h▸hl),y,h3,h4⟩
 have huniq: ∀s s' y y' k,lk' s=some y→lk' s'=some y'→k∈B' s→k∈B' s'→s=s':=by
  have key: ∀s y k,lk' s=some y→k∈B' s→s≠r→k∈bs→False:=by
   intro s y k hy hk e hk'
   by_cases e':s∈L
   ·rw[hB2 s e e']at hk;simp at hk
   ·rw[hB3 s e e']at hk;rw[hlk3 s e e']at hy
    rcases(hbs k hk').2 (hM.lt s y hy k hk)with⟨y',h3,h4⟩|⟨l,h3,h4⟩
    ·exact e (hM.uniq s r y y' k hy h3 hk h4)
    ·obtain⟨y',h5⟩:=hL l h3
     exact e' ((hM.uniq s l y y' k hy h5 hk h4)▸h3)
  intro s s' y y' k hy hy' hk hk'
  by_cases e:s=r<;>by_cases e':s'=r
  ·rw[e,e']
  ·subst e;rw[hB1]at hk;exact(key s' y' k hy' hk' e' hk).elim
  ·subst e';rw[hB1]at hk';exact(key s y k hy hk e hk').elim
  ·by_cases f:s∈L
   ·rw[hB2 s e f]at hk;simp at hk
   ·by_cases f':s'∈L
    ·rw[hB2 s' e' f']at hk';simp at hk'
    ·rw[hB3 s e f]at hk;rw[hB3 s' e' f']at hk';rw[hlk3 s e f]at hy;rw[hlk3 s' e' f']at hy'
     exact hM.uniq s s' y y' k hy hy' hk hk'
 refine⟨⟨fun s y hy=>?_,fun s y hy=>?_,huniq,fun s y hy k hk=>?_,fun s hs n k b o ha=>?_⟩,hB1,hK⟩
 ·by_cases e:s=r
  ·subst e
   rw[hlk1]at hy;cases hy
   rw[hγ1,hB1]
   refine hrel γ' B' lk' hγ.symm hlk.symm hB.symm hK ?_ ?_ ?_
   ·rintro l hl k hk hkb ⟨s',y',h1,h2⟩
    obtain⟨z,hz⟩:=hL l hl
    by_cases e:s'=s
    ·subst e;rw[hB1]at h2;exact hkb h2
    ·by_cases f:s'∈L
     ·rw[hB2 s' e f]at h2;simp at h2
     ·rw[hB3 s' e f]at h2;rw[hlk3 s' e f]at h1
      exact f ((hM.uniq s' l y' z k h1 hz h2 hk)▸hl)
   ·rintro z hz k hk hkb ⟨s',y',h1,h2⟩
    by_cases e:s'=s
    ·subst e;rw[hB1]at h2;exact hkb h2
    ·by_cases f:s'∈L
     ·rw[hB2 s' e f]at h2;simp at h2
     ·rw[hB3 s' e f]at h2;rw[hlk3 s' e f]at h1
      exact e (hM.uniq s' s y' z k h1 hz h2 hk)
   ·rintro k ⟨s',y',h1,h2⟩ h3 h4
    have e:s'≠s:=fun e=>by subst e;exact h3 y' h1 h2
    have f:s'∉L:=fun f=>h4 s' f h2
    exact⟨s',y',by rw[hlk3 s' e f];exact h1,by rw[hB3 s' e f];exact h2⟩
  ·by_cases e':s∈L
   ·rw[hlk2 s e e']at hy;cases hy
    rw[hB2 s e e']
    unfold RootRel;split<;>first|trivial|simp_all
   ·rw[hlk3 s e e']at hy;rw[hB3 s e e',hγ2 s e]
    refine(hM.rel s y hy).keep hK fun k hk=>hold k (hM.lt s y hy k hk) (fun z hz h=>e (hM.uniq s r y z k hy hz hk h)) (fun l hl h=>?_)
    obtain⟨z,hz⟩:=hL l hl
    exact e' ((hM.uniq s l y z k hy hz hk h)▸hl)
 ·by_cases e:s=r
  ·subst e;rw[hB1];exact hnd
  ·by_cases e':s∈L
   ·rw[hB2 s e e'];exact List.nodup_nil
   ·rw[hlk3 s e e']at hy;rw[hB3 s e e'];exact hM.nodup s y hy
 ·by_cases e:s=r
  ·subst e;rw[hB1]at hk;exact(hbs k hk).1
  ·by_cases e':s∈L
   ·rw[hB2 s e e']at hk;simp at hk
   ·rw[hlk3 s e e']at hy;rw[hB3 s e e']at hk;exact Nat.lt_of_lt_of_le (hM.lt s y hy k hk) hsz
 ·by_cases e:s=r
  ·subst e;rw[hγ1]at ha;exact hglt n k b o ha
  ·rw[hγ2 s e]at ha
   refine Nat.lt_of_lt_of_le (hM.glt s ?_ n k b o ha) hsz
   by_cases e':s∈L
   ·obtain⟨z,hz⟩:=hL s e';exact Dom_ne hz
   ·rw[←Dom_eq (hlk3 s e e')];exact hs
end
end Go.Vm
namespace Go.Vm
open Go
section
variable {P:Program}
theorem TyOK.top{t:Ty}{n:Nat}(h:TyOK P t n):t.leaf=true∨t.isSt=true:=by
 cases t<;>simp[Ty.leaf,Ty.isSt]<;>exact h
theorem run_isAgg{ty:TypeId}{d:TypeDesc}(h:P.underlying ty=some d)(w:World):(isAgg ty).run P w= .ok d.isRow w:=by
 unfold isAgg
 rw[Sem.run_bind,run_underlying h w]
 cases d<;>rfl
theorem run_loadVar_any(w:World)(a:Addr)(ty:TypeId)(u:Ty)(hu:TyOK P u ty)(cs:List Value)(v:Value)(hc: ∀j x,cs[j]?=some x→w.cell? (a.add j)=some x)(hl:cs.length=u.sz)
  (h1:isRowT u=true→v= .agg cs.toArray) (h2:isRowT u=false→cs=[v]):(loadVar ty a).run P w= .ok v w:=by
 obtain⟨d,hd,hr⟩:=hu.inf
 have hi:=hu.size
 cases hb:isRowT u
 ·have e:=h2 hb
  subst e
  have hagg:=run_isAgg hd.und w
  rw[hr,hb]at hagg
  have h0:=hc 0 v rfl
  have e0:a.add 0=a:=by unfold Addr.add;split<;>simp_all
  rw[e0]at h0
  simp[loadVar,Sem.run_bind,hagg,h0]
 ·obtain rfl:=h1 hb
  have hl':(loadCells a cs.length).run P w= .ok cs.toArray w:=run_loadCells_list (P:=P) w a cs hc
  cases hq:P.info? ty with
  |none=>simp[hq]at hi
  |some i=>
   have hs:i.size=cs.length:=by simp[hq]at hi;omega
   have hagg:=run_isAgg hd.und w
   rw[hr,hb]at hagg
   simp[loadVar,Sem.run_bind,hagg,sizeOf,typeInfo,hq,hs,hl']
end
section
variable {γ:Nat→G} {B:Nat→List Nat} {w:World} {lk lkS:Look}
theorem noneFree(B:Nat→List Nat)(lk:Look)(l:List Nat):Free B lk (fun _=>False) l:=⟨fun _ h=>h.elim,fun _ _ _ _ h=>h⟩
theorem expand_rel{γ:Nat→G}{D:Nat→Nat}{w:World}{W:Nat→Nat→Prop}{u:Ty}(hu:u.leaf=true∨u.isSt=true){x:u.den}{cs:List Value}(h:DRel w (AllW W) false u x cs []):
  ∃v,VRel γ D w W (expand u x) v∧v.cells.toList=cs∧(isRowT u=true→v= .agg cs.toArray)∧(isRowT u=false→cs=[v]):=
 VRel.pack (leaves_alike u x) hu (leaves_LL u x cs h)
theorem Mem.getAt(hM:Mem γ B w lk)(hS:Sub lkS lk){u:Ty}(hu:u.leaf=true∨u.isSt=true){r n k:Nat}{j:Option Nat}{p:PV}(hg:(getAt lkS u r n k j).run=some p){b o:Nat}(ha:(γ r).at n k=some (b,o)):
  ∃cs v,w.rangeAt b (o+j.getD 0) cs∧cs.length=u.sz∧VRel γ (Dom lk) w (Owned B lk) p v∧(isRowT u=true→v= .agg cs.toArray)∧(isRowT u=false→cs=[v]):=by
 unfold Vm.getAt at hg
 split at hg
 ·rename_i j
  simp only[Out.bind_some,Out.need_some,Out.nth_some,Out.ret_some]at hg
  obtain⟨⟨t,xs⟩,hp,hc,x,hx,rfl⟩:=hg
  simp only[Bool.and_eq_true,beq_iff_eq]at hc
  obtain⟨rfl,⟨hlf,hfl⟩,hsz⟩:=hc
  obtain⟨cells,h1,h2,_⟩:=hM.placeA hS hp ha (noneFree B lk [r])
  obtain⟨c1,c,c3,b1,b',b3,e1,e2,e3,h3,_⟩:=EL.get (fun x c b h=>DRel.length _ _ _ _ h) h2 hx
  rw[hsz,Nat.mul_one]at e2
  have h4:=(DRel.flat (w':=w) (O':=AllW (Owned B lk)) (m':=false) _ x c b' hfl h3).2
  obtain⟨v,h5,h6,h7,h8⟩:=expand_rel (γ:=γ) (D:=Dom lk) (W:=Owned B lk) hu h4
  refine⟨c,v,?_,DRel.length _ _ _ _ h4,h5,h7,h8⟩
  rw[e1]at h1
  have:=rangeAt_mid h1
  rwa [e2]at this
 ·split at hg
  ·rename_i ps hx
   split at hg
   ·simp only[Out.need_some,Out.ret_some,Bool.and_eq_true,decide_eq_true_eq]at hg
    obtain⟨⟨hk,hal⟩,rfl⟩:=hg
    obtain⟨b',o',out,e,h0,h1,h2,⟨cs,h3,h4⟩,h5,h6⟩:=(hM.rel r _ (hS _ _ hx)).box
    rw[e]at ha
    obtain⟨_,rfl,rfl⟩:=at_box ha
    obtain⟨c1,c2,c3,e1,_,e2,h7,_⟩:=h3.split k u.nl
    obtain⟨v,h8,h9,h10,h11⟩:=VRel.pack hal hu h7
    refine⟨c2,v,?_,?_,h8,h10,h11⟩
    ·rw[e1]at h4
     have:=rangeAt_mid h4
     rwa [e2]at this
    ·rw[h7.length,←alikeL_sz hal,zeroL_sz,szT_sum]
   ·simp[Out.run]at hg
  ·rename_i t xs m hx
   simp only[Out.bind_some,Out.nth_some,Out.need_some,Out.ret_some]at hg
   obtain⟨x,hn,y,hy,hok,rfl⟩:=hg
   cases hm:m.deep
   ·simp only[cond_false]
    have key: ∃cs,DRel w (AllW (Owned B lk)) false t x cs []∧w.rangeAt b (n*t.sz) cs∧o=n*t.sz+offL t k:=by
     obtain⟨v,e,h|h⟩:=(hM.rel r _ (hS _ _ hx)).row
     ·obtain⟨g,cap,cells,rest,e',h1,h2,h3,h4,h5,h6,h7⟩:=hM.elem (hS _ _ hx) h.1 hn
      rw[e']at ha
      obtain⟨⟨l,c,e1⟩,e2⟩:=at_row ha
      cases e1
      obtain⟨c1,c',c3,b1,b',b3,e4,e5,e6,h8,_⟩:=EL.get RowR.length h7 hn
      rw[RowR.shal hm]at h8
      refine⟨c',h8.2,?_,e2⟩
      rw[e4]at h4
      have:=rangeAt_mid h4
      rwa [e5,Nat.zero_add]at this
     ·obtain⟨A,cap,ev,hc,h⟩:=h.2.2.1
      rw[e]at ha
      obtain⟨⟨l,c,e1⟩,e2⟩:=at_row ha
      obtain⟨a,cells,e3,h1,h2,h3,h4⟩:=h (by have:=(List.getElem?_eq_some_iff.1 hn).1;omega)
      rw[ev,e3]at e1
      simp only[Value.slice.injEq,Option.some.injEq]at e1
      obtain⟨rfl,_,_⟩:=e1
      obtain⟨c1,c',c3,b1,b',b3,e4,e5,e6,h5,_⟩:=EL.get (fun x c b h=>DRel.length _ _ _ _ h) h4 hn
      obtain rfl:=DRel.noblocks _ _ _ _ h5
      refine⟨c',h5,?_,e2⟩
      have hr:w.rangeAt b 0 cells:=fun j v hj=>by rw[←Addr.add_mid];exact h3 j v hj
      rw[e4]at hr
      have:=rangeAt_mid hr
      rwa [e5,Nat.zero_add]at this
    obtain⟨cs,h1,h2,h3⟩:=key
    obtain⟨_,_,c1,c2,c3,b1,b2,b3,e1,e2,e3,h4,_⟩:=subD_rel t x k y cs [] hy h1
    obtain rfl:b2=[]:=by simp at e2;exact e2.2.1
    obtain⟨v,h5,h6,h7,h8⟩:=expand_rel (γ:=γ) (D:=Dom lk) (W:=Owned B lk) hu h4
    refine⟨c2,v,?_,DRel.length _ _ _ _ h4,h5,h7,h8⟩
    rw[e1]at h2
    have:=rangeAt_mid h2
    rw[e3,←h3]at this
    simpa using this
   ·simp only[cond_true]
    simp only[hm,Bool.not_true,Bool.false_or]at hok
    obtain⟨g,cap,cells,rest,e',h1,h2,h3,h4,h5,h6,h7⟩:=hM.elem (hS _ _ hx) (by rintro rfl;simp[Own.deep]at hm) hn
    have ha':=ha
    rw[e']at ha
    obtain⟨⟨l,c,e1⟩,e2⟩:=at_row ha
    cases e1
    obtain⟨c1,c',c3,b1,b',b3,e4,e5,e6,h8,_⟩:=EL.get RowR.length h7 hn
    rw[RowR.deep hm]at h8
    obtain⟨hsz,hnl,d1,d2,d3,f1,f2,f3,e7,e8,e9,h9,_⟩:=subD_rel t x k y c' b' hy h8
    have hr:w.rangeAt b o d2:=by
     rw[e4]at h4
     have:=rangeAt_mid h4
     rw[e7]at this
     have:=rangeAt_mid this
     rwa [e5,e9,Nat.zero_add,←e2]at this
    have hl:LL γ (Dom lk) w (Owned B lk) (leavesAt r n u y k) d2:=leavesAt_LL h3 (by
     rw[owned_but];rintro⟨s,z,h1',h2',h3'⟩
     exact h1' (hM.uniq s r z _ b h2' (hS _ _ hx) h3' (by rw[h6];simp))) u y k d2 f2 o h9 hr (fun i hi=>by
     rw[e']
     have hpos:0<cap:=by have:=(List.getElem?_eq_some_iff.1 hn).1;omega
     simp only[G.at,rowAt_pos hpos,Option.map_some,Option.some.injEq,Prod.mk.injEq,true_and]
     rw[offL_add t k i u hsz (by omega)];omega) (fun hf=>by
     have:t.flat=false:=by
      cases ht:t.flat with
      |false=>rfl
      |true=>
       exact absurd hf (by
        have:=subD_flat t x k y hy ht
        simp[this])
     simp[Dom,hS _ _ hx,this,hm]) hok
    obtain⟨v,h10,h11,h12,h13⟩:=VRel.pack (leavesAt_alike r n u y k) hu hl
    exact⟨d2,v,by simpa using hr,DRel.length _ _ _ _ h9,h10,h12,h13⟩
  ·simp[Out.run]at hg
end
end Go.Vm
namespace Go.Vm
open Go
theorem toI_wrap(k:IntKind)(n:Int):toI k (ofI k (k.wrap n))=k.wrap n:=by
 cases k<;>try rfl
 simp only[ofI,toI]
 have h:0≤IntKind.u8.wrap n∧IntKind.u8.wrap n<256:=by
  simp only[IntKind.wrap,IntKind.signed,IntKind.bits];constructor
  ·simp;exact Int.emod_nonneg _ (by omega)
  ·simp;exact Int.emod_lt_of_pos _ (by omega)
 rw[UInt8.toNat_ofNat']
 have:(IntKind.u8.wrap n).toNat<256:=by omega
 rw[Nat.mod_eq_of_lt this]
 omega
theorem toI_ofI_u8(n:Int)(h0:0≤n)(h1:n<256):toI .u8 (ofI .u8 n)=n:=by
 simp only[ofI,toI]
 rw[UInt8.toNat_ofNat']
 have:n.toNat<256:=by omega
 rw[Nat.mod_eq_of_lt this]
 omega
theorem u8_range(x:kden .u8):0≤toI .u8 x∧toI .u8 x<256:=by
 simp only[toI]
 have:=x.toNat_lt
 omega
section
variable {γ:Nat→G} {D:Nat→Nat} {w:World} {W:Nat→Nat→Prop} {P:Program}
theorem vrel_int{k:IntKind}{x:kden k}{v:Value}:VRel γ D w W (.sc (.int k) x) v↔v= .int k (toI k x):=by
 simp[VRel,VRel0,LRel,DRel,Ty.leaf]
theorem vrel_bool{x:Bool}{v:Value}:VRel γ D w W (.sc .bool x) v↔v= .bool x:=by
 simp[VRel,VRel0,LRel,DRel,Ty.leaf]
theorem vrel_str{x:List UInt8}{v:Value}:VRel γ D w W (.sc .str x) v↔ ∃s:ByteArray,s.data.toList=x∧x.length≤maxLen∧v= .string s:=by
 simp[VRel,VRel0,LRel,DRel,Ty.leaf]
theorem vrel_err{x:Bool}{v:Value}:VRel γ D w W (.sc .err x) v↔ErrV x v:=by
 simp[VRel,VRel0,LRel,DRel,Ty.leaf]
theorem binOp_int{op:BinOp}{k:IntKind}{a b:Int}{ty:TypeId}(hs:isShift op=none):binOp op ty (.int k a) (.int k b)=match op with
  | .add| .sub| .mul=>Op.intArith op k a b
  | .quo| .rem=>Op.intDiv op k a b
  | .and| .or| .xor| .andNot=>Op.intBits op k a b
  |_=>Op.intCmp op a b:=by cases op<;>simp[isShift]at hs<;>simp[binOp]
theorem binI_sound{op:BinOp}{k:IntKind}{x y:kden k}{p:PV}{ty:TypeId}(h:(binI op k (toI k x) (toI k y)).run=some p)(hs:isShift op=none):
  ∃v,(binOp op ty (.int k (toI k x)) (.int k (toI k y))).run P w= .ok v w∧VRel γ D w W p v:=by
 have hrem:toI k (ofI k ((toI k x).tmod (toI k y)))=(toI k x).tmod (toI k y):=by
  cases k<;>try rfl
  simp only[toI,ofI]
  rw[←Int.ofNat_tmod]
  simp only[Int.toNat_natCast,UInt8.toNat_ofNat']
  have h1:=x.toNat_lt
  have:=Nat.mod_le x.toNat y.toNat
  rw[Nat.mod_eq_of_lt (a:=x.toNat%y.toNat) (by omega)]
 rw[binOp_int hs]
 cases op<;>simp only[isShift,reduceCtorEq]at hs<;>simp only[binI,Out.ret_some,Out.br_some,Out.fail_some,and_false,false_or,wrapS]at h
 case quo=>
  obtain⟨hy,rfl⟩:=h
  have hy': ¬toI k y=0:=by simpa using hy
  exact⟨_,by simp only[Op.intDiv,if_neg hy'];rfl,vrel_int.2 (by rw[toI_wrap])⟩
 case rem=>
  obtain⟨hy,rfl⟩:=h
  have hy': ¬toI k y=0:=by simpa using hy
  exact⟨_,by simp only[Op.intDiv,if_neg hy'];rfl,vrel_int.2 (by rw[hrem])⟩
 all_goals
  subst h
  first
  |exact⟨_,rfl,vrel_int.2 (by rw[toI_wrap])⟩
  |exact⟨_,rfl,vrel_bool.2 rfl⟩
theorem shift_sound{op:BinOp}{l:Bool}{k k':IntKind}{x:kden k}{y:kden k'}{p:PV}{ty:TypeId}(h:(shiftI l k (toI k x) (toI k' y)).run=some p)(hs:isShift op=some l):
  ∃v,(binOp op ty (.int k (toI k x)) (.int k' (toI k' y))).run P w= .ok v w∧VRel γ D w W p v:=by
 simp only[shiftI,Out.br_some,Out.fail_some,and_false,false_or,Out.ret_some]at h
 obtain⟨hy,rfl⟩:=h
 have hy': ¬toI k' y<0:=by simpa using hy
 have hshr: ∀n:Nat,toI k (ofI k ((toI k x).fdiv (2^n)))=(toI k x).fdiv (2^n):=fun n=>by
  cases k<;>try rfl
  have h1:=u8_range x
  have hp:(0:Int)<2^n:=Int.pow_pos (by omega)
  refine toI_ofI_u8 _ (Int.fdiv_nonneg h1.1 (by omega)) ?_
  rw[Int.fdiv_eq_ediv_of_nonneg _ (by omega)]
  have:=Int.ediv_le_self (a:=toI .u8 x) (2^n) h1.1
  omega
 cases op<;>simp only[isShift,reduceCtorEq,Option.some.injEq]at hs<;>subst hs
 ·exact⟨_,by simp only[binOp,Op.shift,if_neg hy'];rfl,vrel_int.2 (by simp only[toI_wrap])⟩
 ·exact⟨_,by simp only[binOp,Op.shift,if_neg hy'];rfl,vrel_int.2 (by rw[hshr])⟩
theorem str_sound{op:BinOp}{s t:ByteArray}{p:PV}{ty:TypeId}(h:(strS op s.data.toList t.data.toList).run=some p):
  ∃v,(binOp op ty (.string s) (.string t)).run P w= .ok v w∧VRel γ D w W p v:=by
 cases op<;>simp only[strS,Out.ret_some,Out.fail_some,Out.guard_some]at h
 case add=>
  obtain⟨hl,rfl⟩:=h
  refine⟨_,?_,vrel_str.2 ⟨s++t,?_,by rw[List.length_append];simpa[maxLen]using hl,rfl⟩⟩
  ·have hl': ¬(9223372036854775807:Int)<(s.size:Int)+(t.size:Int):=by
    simp only[decide_eq_true_eq]at hl
    have h1:s.data.toList.length=s.size:=by rw[Array.length_toList];rfl
    have h2:t.data.toList.length=t.size:=by rw[Array.length_toList];rfl
    omega
   simp[binOp,Op.stringOp,IntKind.max,IntKind.signed,IntKind.bits,hl']
  ·simp
 all_goals
  subst h
  exact⟨_,by simp only[binOp,Op.stringOp,ByteArray.toList_eq];rfl,vrel_bool.2 rfl⟩
theorem run_equal_err{ty:TypeId}{ms:Array (String×TypeId)}(hu:P.underlying ty=some (.interface ms)){x:Bool}{v:Value}(h:ErrV x v):(Op.equal ty v .nilIface).run P w= .ok x w:=by
 have key: ∀d:Nat,(Op.equalIn (d+1) ty v .nilIface).run P w= .ok x w:=fun d=>by
  rcases h with⟨rfl,rfl⟩|⟨rfl,t,u,rfl⟩
  ·simp[Op.equalIn,run_underlying hu]
  ·simp[Op.equalIn,run_underlying hu]
 exact key 9999
theorem binV_sound{e:Env}(hE:EnvOK P e){ty:TypeId}{op:BinOp}{x y:Operand}{a b:PV}{va vb:Value}{p:PV}(h:(binV (tyOf e ty) (match y with| .const _=>true|_=>false) op a b).run=some p)
  (ha:VRel γ D w W a va) (hb:VRel γ D w W b vb): ∃v,(do eqGuard op ty x y va vb;binOp op ty va vb:Sem Value).run P w= .ok v w∧VRel γ D w W p v:=by
 unfold binV at h
 split at h
 ·rename_i k n k' m
  rw[vrel_int]at ha hb
  subst ha hb
  have hg:(eqGuard op ty x y (.int k (toI k n)) (.int k' (toI k' m))).run P w= .ok () w:=by cases op<;>rfl
  split at h
  ·rename_i l hl
   obtain⟨v,h1,h2⟩:=shift_sound (P:=P) (w:=w) (γ:=γ) (D:=D) (W:=W) (ty:=ty) h hl
   exact⟨v,by simp[Sem.run_bind,hg,h1],h2⟩
  ·rename_i hl
   simp only[Out.need_some,decide_eq_true_eq]at h
   obtain⟨rfl,h⟩:=h
   obtain⟨v,h1,h2⟩:=binI_sound (P:=P) (w:=w) (γ:=γ) (D:=D) (W:=W) (ty:=ty) h hl
   exact⟨v,by simp[Sem.run_bind,hg,h1],h2⟩
 ·rw[vrel_str]at ha hb
  obtain⟨s,rfl,_,rfl⟩:=ha
  obtain⟨t,rfl,_,rfl⟩:=hb
  have hg:(eqGuard op ty x y (.string s) (.string t)).run P w= .ok () w:=by cases op<;>rfl
  obtain⟨v,h1,h2⟩:=str_sound (P:=P) (w:=w) (γ:=γ) (D:=D) (W:=W) (ty:=ty) h
  exact⟨v,by simp[Sem.run_bind,hg,h1],h2⟩
 ·rename_i m n
  rw[vrel_bool]at ha hb
  subst ha hb
  have hg:(eqGuard op ty x y (.bool m) (.bool n)).run P w= .ok () w:=by cases op<;>rfl
  simp only[Out.need_some,beq_iff_eq]at h
  obtain⟨ht,h⟩:=h
  have hu:=(hE.ty _ _ ht:Inf P .bool ty .bool).und
  cases op<;>simp only[eqS,Out.ret_some,Out.fail_some]at h
  ·subst h;exact⟨_,by simp only[Sem.run_bind,hg,Result.andThen_ok,run_eql_bool w ty m n hu],vrel_bool.2 rfl⟩
  ·subst h;exact⟨_,by simp only[Sem.run_bind,hg,Result.andThen_ok,run_neq_bool w ty m n hu],vrel_bool.2 rfl⟩
 ·rename_i z
  rw[vrel_err]at ha hb
  simp only[Out.need_some,Bool.and_eq_true,beq_iff_eq]at h
  obtain⟨⟨ht,hc⟩,h⟩:=h
  obtain⟨ms,hi⟩:=(hE.ty _ _ ht: ∃ms,Inf P .err ty (.interface ms))
  have hu:=hi.und
  rcases hb with⟨_,rfl⟩|⟨hb,_⟩
  ·split at hc
   ·rename_i c
    have hg:(eqGuard op ty x (.const c) va .nilIface).run P w= .ok () w:=by
     rcases ha with⟨_,rfl⟩|⟨_,t,u,rfl⟩
     ·cases op<;>cases x<;>rfl
     ·cases op<;>rfl
    have he:=run_equal_err (P:=P) (w:=w) hu ha
    cases op<;>simp only[eqS,Out.ret_some,Out.fail_some]at h
    ·subst h
     refine⟨_,?_,vrel_bool.2 rfl⟩
     rcases ha with⟨rfl,rfl⟩|⟨rfl,t,u,rfl⟩<;>simp only[Sem.run_bind,hg,Result.andThen_ok,binOp,he]<;>rfl
    ·subst h
     refine⟨_,?_,vrel_bool.2 rfl⟩
     rcases ha with⟨rfl,rfl⟩|⟨rfl,t,u,rfl⟩<;>simp only[Sem.run_bind,hg,Result.andThen_ok,binOp,he]<;>rfl
   ·cases hc
  ·cases hb
 ·simp[Out.run]at h
theorem unV_sound{op:UnOp}{a p:PV}{va:Value}(h:(unV op a).run=some p)(ha:VRel γ D w W a va): ∃v,(Op.unary op va).run P w= .ok v w∧VRel γ D w W p v:=by
 unfold unV at h
 split at h
 ·rw[vrel_bool]at ha
  subst ha
  simp only[Out.ret_some]at h
  subst h
  exact⟨_,by simp[Op.unary],vrel_bool.2 rfl⟩
 ·rw[vrel_int]at ha
  subst ha
  simp only[Out.ret_some,wrapS]at h
  subst h
  exact⟨_,rfl,vrel_int.2 (by rw[toI_wrap])⟩
 ·rw[vrel_int]at ha
  subst ha
  simp only[Out.ret_some,wrapS]at h
  subst h
  exact⟨_,rfl,vrel_int.2 (by rw[toI_wrap])⟩
 ·simp[Out.run]at h
end
end Go.Vm
namespace Go.Vm
open Go
section
variable {γ:Nat→G} {B:Nat→List Nat} {w:World} {lk lkS:Look} {P:Program}
def Gives(P:Program)(γ:Nat→G)(B:Nat→List Nat)(w:World)(lk:Look)(s:Sem Value)(p:PV):Prop:= ∃v,s.run P w= .ok v w∧VRel γ (Dom lk) w (Owned B lk) p v
theorem vrel_ptr{D:Nat→Nat}{W:Nat→Nat→Prop}{r n k:Nat}{j:Option Nat}{v:Value}:VRel γ D w W (.ptr r n k j) v↔D r≠0∧ ∃b o,(γ r).at n k=some (b,o)∧v= .pointer (some ⟨b,o+j.getD 0,none⟩):=by
 simp[VRel,VRel0,LRel]
theorem vrel_ro{D:Nat→Nat}{W:Nat→Nat→Prop}{t:Ty}{x:t.den}{v:Value}:VRel γ D w W (.ro t x) v↔
  ∃a cells,v= .pointer (some a)∧a.block<w.heap.size∧ ¬AllW W a.block∧(∀j u,cells[j]?=some u→w.cell? (a.add j)=some u)∧DRel w (AllW W) false t x cells []:=by
 simp[VRel,VRel0,LRel]
theorem vrel_rod{D:Nat→Nat}{W:Nat→Nat→Prop}{r:Nat}{t:Ty}{x:t.den}{v:Value}:VRel γ D w W (.rod r t x) v↔
  D r=2∧ ∃a cells,v= .pointer (some a)∧a.block<w.heap.size∧ ¬ButW W r a.block∧(∀j u,cells[j]?=some u→w.cell? (a.add j)=some u)∧DRel w (ButW W r) false t x cells []:=by
 simp[VRel,VRel0,LRel]
theorem load_rod_sound{e:Env}(hE:EnvOK P e){ty:TypeId}{t:Ty}(ht:tyOf e ty=some t){r:Nat}{u:Ty}{x:u.den}{y:t.den}(hc:(castD t u x).run=some y)(ho:t.arrOK=true){v:Value}
  (hv:VRel γ (Dom lk) w (Owned B lk) (.rod r u x) v):Gives P γ B w lk (Instr.loadAt ty v) (pack t (leavesL r t y)):=by
 obtain⟨hd,a,cells,rfl,h1,h2,h3,h4⟩:=vrel_rod.1 hv
 obtain⟨rfl,rfl⟩:=castD_some.1 hc
 have hty:=hE.ty _ _ ht
 obtain⟨v,h5,h6,h7,h8⟩:=VRel.pack (γ:=γ) (D:=Dom lk) (W:=Owned B lk) (leavesL_alike r u x) hty.top (leavesL_LL hd u x cells h4 ho)
 refine⟨v,?_,h5⟩
 have:=run_loadVar_any w a ty u hty cells v h3 (DRel.length _ _ _ _ h4) h7 h8
 simp only[Instr.loadAt,Instr.sureAddr,Sem.run_bind,Sem.run_pure,Result.andThen_ok,this]
theorem load_sound{e:Env}(hE:EnvOK P e)(hM:Mem γ B w lk)(hS:Sub lkS lk){ty:TypeId}{t:Ty}(ht:tyOf e ty=some t){r n k:Nat}{j:Option Nat}{p:PV}(hg:(getAt lkS t r n k j).run=some p){v:Value}
  (hv:VRel γ (Dom lk) w (Owned B lk) (.ptr r n k j) v):Gives P γ B w lk (Instr.loadAt ty v) p:=by
 obtain⟨hd,b,o,ha,rfl⟩:=vrel_ptr.1 hv
 have hty:=hE.ty _ _ ht
 obtain⟨cs,v,h1,h2,h3,h4,h5⟩:=hM.getAt hS hty.top hg ha
 refine⟨v,?_,h3⟩
 have:=run_loadVar_any w ⟨b,o+j.getD 0,none⟩ ty t hty cs v (fun i x hx=>by rw[Addr.add_mid];exact h1 i x hx) h2 h4 h5
 simp only[Instr.loadAt,Instr.sureAddr,Sem.run_bind,Sem.run_pure,Result.andThen_ok,this]
theorem load_ro_sound{e:Env}(hE:EnvOK P e){ty:TypeId}{t:Ty}(ht:tyOf e ty=some t){u:Ty}{x:u.den}{y:t.den}(hc:(castD t u x).run=some y){v:Value}
  (hv:VRel γ (Dom lk) w (Owned B lk) (.ro u x) v):Gives P γ B w lk (Instr.loadAt ty v) (expand t y):=by
 obtain⟨a,cells,rfl,h1,h2,h3,h4⟩:=vrel_ro.1 hv
 obtain⟨rfl,rfl⟩:=castD_some.1 hc
 have hty:=hE.ty _ _ ht
 obtain⟨v,h5,h6,h7,h8⟩:=expand_rel (γ:=γ) (D:=Dom lk) hty.top h4
 refine⟨v,?_,h5⟩
 have:=run_loadVar_any w a ty u hty cells v h3 (DRel.length _ _ _ _ h4) h7 h8
 simp only[Instr.loadAt,Instr.sureAddr,Sem.run_bind,Sem.run_pure,Result.andThen_ok,this]
theorem Mem.at_add(hM:Mem γ B w lk)(hS:Sub lkS lk){r n k:Nat}{u:Ty}(hl:lies lkS r k u=true){b o d:Nat}(ha:(γ r).at n k=some (b,o))(hd:d≤u.nl):(γ r).at n (k+d)=some (b,o+offL u d):=by
 unfold lies rootSz at hl
 simp only[decide_eq_true_eq]at hl
 split at hl
 ·rename_i ps hx
  obtain⟨b',o',out,e,_⟩:=(hM.rel r _ (hS _ _ hx)).box
  rw[e]at ha⊢
  obtain⟨rfl,rfl,rfl⟩:=at_box ha
  simp only[G.at,Option.some.injEq,Prod.mk.injEq,true_and]
  rw[List.take_add,List.sum_append]
  unfold offL
  rw[←hl,List.take_take,Nat.min_eq_left hd];omega
 ·rename_i t xs m hx
  obtain⟨v,e,_⟩:=(hM.rel r _ (hS _ _ hx)).row
  rw[e]at ha⊢
  simp only[G.at,Option.map_eq_some_iff,Prod.mk.injEq]at ha⊢
  obtain⟨g,h1,rfl,rfl⟩:=ha
  exact⟨g,h1,rfl,by rw[offL_add t k d u hl hd];omega⟩
 ·have:szT u=[]:=by simpa using hl.symm
  have hn:=szT_length u
  rw[this]at hn
  simp only[List.length_nil]at hn
  have:d=0:=by omega
  subst this
  simpa[offL_zero]using ha
theorem field_place{t:Ty}{n:Nat}(ht:TyOK P t n)(hz:0<t.sz)(a:Addr){f:Field}(hf:f.type=n):(fieldPlace a f).run P w= .ok (a.add f.offset) w:=by
 have hi:=ht.size
 cases hq:P.info? n with
 |none=>simp[hq]at hi
 |some i=>
  simp only[hq,Option.map_some,Option.some.injEq]at hi
  have: ¬i.size=0:=by omega
  simp[fieldPlace,sizeOf,typeInfo,hf,hq,this]
theorem fieldAddr_sound{e:Env}(hE:EnvOK P e)(hM:Mem γ B w lk)(hS:Sub lkS lk){ty:TypeId}{u:Ty}(ht:tyOf e ty=some (.st u)){f d:Nat}{t:Ty}(hf:fieldOf u f=some (d,t)){r n k:Nat}(hl:lies lkS r k u=true)(hz:0<t.sz)
  {v:Value} (hv:VRel γ (Dom lk) w (Owned B lk) (.ptr r n k none) v):Gives P γ B w lk (Instr.fieldAt ty v f) (.ptr r n (k+d) none):=by
 obtain⟨hd,b,o,ha,rfl⟩:=vrel_ptr.1 hv
 obtain⟨fs,hi,hfs⟩:=(hE.ty _ _ ht: ∃fs,Inf P (.st u) ty (.struct fs)∧(TyR P u).2 fs.toList 0)
 obtain⟨fd,h1,h2,h3,h4⟩:=TyR.field hfs hf
 have h1':fs[f]?=some fd:=by simpa using h1
 refine⟨.pointer (some ⟨b,o+offL u d,none⟩),?_,vrel_ptr.2 ⟨hd,b,o+offL u d,hM.at_add hS hl ha (by omega),rfl⟩⟩
 have:=field_place (w:=w) h3 hz ⟨b,o+(none:Option Nat).getD 0,none⟩ rfl
 simp only[Option.getD_none,Nat.add_zero]at this
 simp[Instr.fieldAt,run_underlying hi.und,h1',Instr.sureAddr,this,Addr.add_mid,h2]
theorem fieldAddr_ro_sound{e:Env}(hE:EnvOK P e){ty:TypeId}{u:Ty}(ht:tyOf e ty=some (.st u)){f d:Nat}{t:Ty}(hf:fieldOf u f=some (d,t))(hz:0<t.sz){u':Ty}{x:u'.den}{y:(Ty.st u).den}{z:t.den}(hc:(castD (.st u) u' x).run=some y)
  (hs:(subD t u y d).run=some z) {v:Value} (hv:VRel γ (Dom lk) w (Owned B lk) (.ro u' x) v):Gives P γ B w lk (Instr.fieldAt ty v f) (.ro t z):=by
 obtain⟨a,cells,rfl,h1,h2,h3,h4⟩:=vrel_ro.1 hv
 obtain⟨rfl,rfl⟩:=castD_some.1 hc
 obtain⟨fs,hi,hfs⟩:=(hE.ty _ _ ht: ∃fs,Inf P (.st u) ty (.struct fs)∧(TyR P u).2 fs.toList 0)
 obtain⟨fd,h5,h6,h7,h8⟩:=TyR.field hfs hf
 have h5':fs[f]?=some fd:=by simpa using h5
 obtain⟨_,_,c1,c2,c3,b1,b2,b3,e1,e2,e3,h9,_⟩:=subD_rel u x d z cells [] hs h4
 obtain rfl:b2=[]:=by simp at e2;exact e2.2.1
 refine⟨.pointer (some (a.add (offL u d))),?_,vrel_ro.2 ⟨_,c2,rfl,by rw[Addr.add_block];exact h1,by rw[Addr.add_block];exact h2,fun j v hj=>?_,h9⟩⟩
 ·have:=field_place (w:=w) h7 hz a rfl
  simp[Instr.fieldAt,run_underlying hi.und,h5',Instr.sureAddr,this,h6]
 ·rw[Addr.add_add]
  refine h3 _ _ ?_
  rw[e1,←e3,List.append_assoc,List.getElem?_append_right (by omega),Nat.add_sub_cancel_left,List.getElem?_append_left (List.getElem?_eq_some_iff.1 hj).1]
  exact hj
theorem fieldAddr_rod_sound{e:Env}(hE:EnvOK P e){ty:TypeId}{u:Ty}(ht:tyOf e ty=some (.st u)){f d:Nat}{t:Ty}(hf:fieldOf u f=some (d,t))(hz:0<t.sz){r:Nat}{u':Ty}{x:u'.den}{y:(Ty.st u).den}{z:t.den}(hc:(castD (.st u) u' x).run=some y)
  (hs:(subD t u y d).run=some z) {v:Value} (hv:VRel γ (Dom lk) w (Owned B lk) (.rod r u' x) v):Gives P γ B w lk (Instr.fieldAt ty v f) (.rod r t z):=by
 obtain⟨hd,a,cells,rfl,h1,h2,h3,h4⟩:=vrel_rod.1 hv
 obtain⟨rfl,rfl⟩:=castD_some.1 hc
 obtain⟨fs,hi,hfs⟩:=(hE.ty _ _ ht: ∃fs,Inf P (.st u) ty (.struct fs)∧(TyR P u).2 fs.toList 0)
 obtain⟨fd,h5,h6,h7,h8⟩:=TyR.field hfs hf
 have h5':fs[f]?=some fd:=by simpa using h5
 obtain⟨_,_,c1,c2,c3,b1,b2,b3,e1,e2,e3,h9,_⟩:=subD_rel u x d z cells [] hs h4
 obtain rfl:b2=[]:=by simp at e2;exact e2.2.1
 refine⟨.pointer (some (a.add (offL u d))),?_,vrel_rod.2 ⟨hd,_,c2,rfl,by rw[Addr.add_block];exact h1,by rw[Addr.add_block];exact h2,fun j v hj=>?_,h9⟩⟩
 ·have:=field_place (w:=w) h7 hz a rfl
  simp[Instr.fieldAt,run_underlying hi.und,h5',Instr.sureAddr,this,h6]
 ·rw[Addr.add_add]
  refine h3 _ _ ?_
  rw[e1,←e3,List.append_assoc,List.getElem?_append_right (by omega),Nat.add_sub_cancel_left,List.getElem?_append_left (List.getElem?_eq_some_iff.1 hj).1]
  exact hj
end
end Go.Vm
namespace Go.Vm
open Go
section
variable {γ:Nat→G} {B:Nat→List Nat} {w:World} {lk lkS:Look} {P:Program}
theorem asNat_some{D:Nat→Nat}{W:Nat→Nat→Prop}{p:PV}{i:Nat}{v:Value}(h:(asNat p).run=some i)(hv:VRel γ D w W p v): ∃k n,v= .int k n∧0≤n∧n.toNat=i:=by
 unfold asNat at h
 split at h
 ·rename_i x
  rw[vrel_int]at hv
  simp only[Out.ret_some]at h
  exact⟨_,_,hv,by simp[toI],by simp[toI,h]⟩
 ·rename_i k x _
  rw[vrel_int]at hv
  simp only[Out.guard_some,Out.ret_some,decide_eq_true_eq]at h
  exact⟨_,_,hv,h.1,h.2⟩
 ·simp[Out.run]at h
theorem size_of{t:Ty}{n:Nat}(h:TyOK P t n)(w:World):(sizeOf n).run P w= .ok t.sz w:=by
 have hi:=h.size
 cases hq:P.info? n with
 |none=>simp[hq]at hi
 |some i=>
  simp only[hq,Option.map_some,Option.some.injEq]at hi
  simp[sizeOf,typeInfo,hq,hi]
theorem run_indexAt_arr{ty el:TypeId}{m:Nat}{t:Ty}(hu:P.underlying ty=some (.array m el))(ht:TyOK P t el)(a:Addr){k:IntKind}{n:Int}(h0:0≤n)(hm:n.toNat<m):
  (Instr.indexAt ty (.pointer (some a)) (.int k n)).run P w= .ok (.pointer (some (a.add (n.toNat*t.sz)))) w:=by
 have h1:n<(m:Int):=by omega
 simp[Instr.indexAt,asIntOf,run_underlying hu,Instr.sureAddr,h0,h1,size_of ht]
theorem run_indexAt_sl{ty el:TypeId}{m c:Nat}{t:Ty}(hu:P.underlying ty=some (.slice el))(ht:TyOK P t el)(a:Addr){k:IntKind}{n:Int}(h0:0≤n)(hm:n.toNat<m):
  (Instr.indexAt ty (.slice (some a) m c) (.int k n)).run P w= .ok (.pointer (some (a.add (n.toNat*t.sz)))) w:=by
 have h1:n<(m:Int):=by omega
 simp[Instr.indexAt,asIntOf,run_underlying hu,h0,h1,size_of ht]
theorem elem_addr{O:Nat→Prop}{t:Ty}{xs:List t.den}{i:Nat}{x:t.den}(hx:xs[i]?=some x){a:Addr}{cells:List Value}(hc: ∀j u,cells[j]?=some u→w.cell? (a.add j)=some u)(h:EL (DRel w O false t) xs cells []):
  ∃c,(∀j u,c[j]?=some u→w.cell? ((a.add (i*t.sz)).add j)=some u)∧DRel w O false t x c []:=by
 obtain⟨c1,c,c3,b1,b',b3,e1,e2,e3,h3,_⟩:=EL.get (fun x c b h=>DRel.length _ _ _ _ h) h hx
 obtain rfl:=DRel.noblocks _ _ _ _ h3
 refine⟨c,fun j u hj=>?_,h3⟩
 rw[Addr.add_add]
 refine hc _ _ ?_
 rw[e1,←e2,List.append_assoc,List.getElem?_append_right (by omega),Nat.add_sub_cancel_left,List.getElem?_append_left (List.getElem?_eq_some_iff.1 hj).1]
 exact hj
section arr
variable {e:Env} {ty:TypeId} {m:Nat} {u:Ty} {pi:PV} {i:Nat} {v vi:Value}
theorem indexAddr_arr_sound(hE:EnvOK P e)(ht:tyOf e ty=some (.arr m u))(hi:(asNat pi).run=some i)(hvi:VRel γ (Dom lk) w (Owned B lk) pi vi){r n k:Nat}(hz:u.sz=1)(hm:i<m)
  (hv:VRel γ (Dom lk) w (Owned B lk) (.ptr r n k none) v):Gives P γ B w lk (Instr.indexAt ty v vi) (.ptr r n k (some i)):=by
 obtain⟨kk,N,rfl,h0,rfl⟩:=asNat_some hi hvi
 obtain⟨hd,b,o,ha,rfl⟩:=vrel_ptr.1 hv
 obtain⟨el,hi,hel⟩:=(hE.ty _ _ ht: ∃el,Inf P (.arr m u) ty (.array m el)∧TyOK P u el)
 refine⟨_,run_indexAt_arr hi.und hel _ h0 hm,vrel_ptr.2 ⟨hd,b,o,ha,?_⟩⟩
 rw[Addr.add_mid,hz];simp
theorem indexAddr_ro_arr_sound(hE:EnvOK P e)(ht:tyOf e ty=some (.arr m u))(hi:(asNat pi).run=some i)(hvi:VRel γ (Dom lk) w (Owned B lk) pi vi){t':Ty}{xs:t'.den}{ys:(Ty.arr m u).den}{x:u.den}(hc:(castD (.arr m u) t' xs).run=some ys)(hx:(show List u.den from ys)[i]?=some x)
  (hv:VRel γ (Dom lk) w (Owned B lk) (.ro t' xs) v):Gives P γ B w lk (Instr.indexAt ty v vi) (.ro u x):=by
 obtain⟨kk,N,rfl,h0,rfl⟩:=asNat_some hi hvi
 obtain⟨a,cells,rfl,h1,h2,h3,h4⟩:=vrel_ro.1 hv
 obtain⟨rfl,rfl⟩:=castD_some.1 hc
 obtain⟨el,hi,hel⟩:=(hE.ty _ _ ht: ∃el,Inf P (.arr m u) ty (.array m el)∧TyOK P u el)
 obtain⟨c,h5,h6⟩:=elem_addr hx h3 h4.2
 have hm:N.toNat<m:=by have:=(List.getElem?_eq_some_iff.1 hx).1;rw[←h4.1];exact this
 exact⟨_,run_indexAt_arr hi.und hel _ h0 hm,vrel_ro.2 ⟨_,c,rfl,by rw[Addr.add_block];exact h1,by rw[Addr.add_block];exact h2,h5,h6⟩⟩
theorem indexAddr_rod_arr_sound(hE:EnvOK P e)(ht:tyOf e ty=some (.arr m u))(hi:(asNat pi).run=some i)(hvi:VRel γ (Dom lk) w (Owned B lk) pi vi){r:Nat}{t':Ty}{xs:t'.den}{ys:(Ty.arr m u).den}{x:u.den}(hc:(castD (.arr m u) t' xs).run=some ys)(hx:(show List u.den from ys)[i]?=some x)
  (hv:VRel γ (Dom lk) w (Owned B lk) (.rod r t' xs) v):Gives P γ B w lk (Instr.indexAt ty v vi) (.rod r u x):=by
 obtain⟨kk,N,rfl,h0,rfl⟩:=asNat_some hi hvi
 obtain⟨hd,a,cells,rfl,h1,h2,h3,h4⟩:=vrel_rod.1 hv
 obtain⟨rfl,rfl⟩:=castD_some.1 hc
 obtain⟨el,hi,hel⟩:=(hE.ty _ _ ht: ∃el,Inf P (.arr m u) ty (.array m el)∧TyOK P u el)
 obtain⟨c,h5,h6⟩:=elem_addr hx h3 h4.2
 have hm:N.toNat<m:=by have:=(List.getElem?_eq_some_iff.1 hx).1;rw[←h4.1];exact this
 exact⟨_,run_indexAt_arr hi.und hel _ h0 hm,vrel_rod.2 ⟨hd,_,c,rfl,by rw[Addr.add_block];exact h1,by rw[Addr.add_block];exact h2,h5,h6⟩⟩
theorem Mem.rowVal(hM:Mem γ B w lk){r:Nat}{u:Ty}{xs:List u.den}{mo:Own}(hx:lk r=some (.row u xs mo)): ∃A cap,γ r= .row (.slice A xs.length cap) u∧(0<xs.length→ ∃g,A=some ⟨g,0,none⟩)∧xs.length≤cap∧cap≤maxLen:=by
 obtain⟨v,e,h|h⟩:=(hM.rel r _ hx).row
 ·rcases h.2 with⟨A,rfl,rfl,_⟩|⟨g,cap,cells,rest,rfl,h1,hm,_⟩
  ·exact⟨A,0,e,fun h=>absurd h (by simp),by simp,Nat.zero_le _⟩
  ·exact⟨_,cap,e,fun _=>⟨g,rfl⟩,h1,hm⟩
 ·obtain⟨A,cap,ev,hc,_⟩:=h.2.2.1
  refine⟨A,cap,by rw[e,ev],fun hp=>?_,hc⟩
  have:=h.2.2.2 hp
  rw[ev]at this
  obtain⟨g,hg⟩:=Option.isSome_iff_exists.1 this
  obtain⟨l,c,e⟩:=rowAt_some hg
  cases e
  exact⟨g,rfl⟩
theorem indexAddr_rf_sound(hE:EnvOK P e)(hM:Mem γ B w lk)(hS:Sub lkS lk)(ht:tyOf e ty=some (.sl u))(hi:(asNat pi).run=some i)(hvi:VRel γ (Dom lk) w (Owned B lk) pi vi){r:Nat}{xs:List u.den}{mo:Own}
  (hx:lkS r=some (.row u xs mo)) (hm:i<xs.length) (hv:VRel γ (Dom lk) w (Owned B lk) (.rf r) v):Gives P γ B w lk (Instr.indexAt ty v vi) (.ptr r i 0 none):=by
 obtain⟨kk,N,rfl,h0,rfl⟩:=asNat_some hi hvi
 simp only[VRel,VRel0,LRel]at hv
 obtain⟨hd,v',t',e',e'',_⟩:=hv
 simp only[List.cons.injEq,and_true]at e''
 subst e''
 obtain⟨A,cap,e1,h1,hle,_⟩:=hM.rowVal (hS _ _ hx)
 rw[e']at e1
 cases e1
 obtain⟨g,rfl⟩:=h1 (by omega)
 obtain⟨el,hi,hel⟩:=(hE.ty _ _ ht: ∃el,Inf P (.sl u) ty (.slice el)∧TyOK P u el)
 refine⟨_,run_indexAt_sl hi.und hel _ h0 hm,vrel_ptr.2 ⟨hd,g,N.toNat*u.sz,?_,?_⟩⟩
 ·rw[e'];simp[G.at,rowAt_pos (show 0<cap by omega),offL_zero]
 ·rw[Addr.add_mid];simp
theorem indexAddr_sub_sound(hE:EnvOK P e)(hM:Mem γ B w lk)(hS:Sub lkS lk)(ht:tyOf e ty=some (.sl u))(hi:(asNat pi).run=some i)(hvi:VRel γ (Dom lk) w (Owned B lk) pi vi){r off len:Nat}{xs:List u.den}{mo:Own}
  (hx:lkS r=some (.row u xs mo)) (hm:i<len) (hv:VRel γ (Dom lk) w (Owned B lk) (.sub r off len) v):Gives P γ B w lk (Instr.indexAt ty v vi) (.ptr r (off+i) 0 none):=by
 obtain⟨kk,N,rfl,h0,rfl⟩:=asNat_some hi hvi
 simp only[VRel,VRel0,LRel]at hv
 obtain⟨hd,v',t',A,n,cap,A',c',e',rfl,e'',h1,h2,h3,h4,_⟩:=hv
 simp only[List.cons.injEq,and_true]at e''
 subst e''
 obtain⟨A2,cap2,e1,_,_⟩:=hM.rowVal (hS _ _ hx)
 rw[e']at e1
 simp only[G.row.injEq]at e1
 obtain⟨_,rfl⟩:=e1
 obtain⟨g,rfl,rfl⟩:=h4 (by omega)
 obtain⟨el,hi,hel⟩:=(hE.ty _ _ ht: ∃el,Inf P (.sl t') ty (.slice el)∧TyOK P t' el)
 refine⟨_,run_indexAt_sl hi.und hel _ h0 hm,vrel_ptr.2 ⟨hd,g,(off+N.toNat)*t'.sz,?_,?_⟩⟩
 ·rw[e'];simp[G.at,rowAt_pos (show 0<cap by omega),offL_zero]
 ·rw[Addr.add_mid];simp[Nat.add_mul]
theorem indexAddr_av_sound(hE:EnvOK P e)(hM:Mem γ B w lk)(hS:Sub lkS lk)(ht:tyOf e ty=some (.sl u))(hi:(asNat pi).run=some i)(hvi:VRel γ (Dom lk) w (Owned B lk) pi vi){r n k off len:Nat}
  (hz:u.sz=1) (hm:i<len) (hv:VRel γ (Dom lk) w (Owned B lk) (.av r n k off len) v):Gives P γ B w lk (Instr.indexAt ty v vi) (.ptr r n k (some (off+i))):=by
 obtain⟨kk,N,rfl,h0,rfl⟩:=asNat_some hi hvi
 simp only[VRel,VRel0,LRel]at hv
 obtain⟨hd,b,o,A,c',h1,e'',h2,_,h3,h4⟩:=hv
 simp only[List.cons.injEq,and_true]at e''
 subst e''
 obtain rfl:=h4 (by omega)
 obtain⟨el,hi,hel⟩:=(hE.ty _ _ ht: ∃el,Inf P (.sl u) ty (.slice el)∧TyOK P u el)
 refine⟨_,run_indexAt_sl hi.und hel _ h0 hm,vrel_ptr.2 ⟨hd,b,o,h1,?_⟩⟩
 rw[Addr.add_mid,hz];simp[Nat.add_assoc]
theorem indexAddr_bor_sound(hE:EnvOK P e)(ht:tyOf e ty=some (.sl u))(hi:(asNat pi).run=some i)(hvi:VRel γ (Dom lk) w (Owned B lk) pi vi){xs:List u.den}{x:u.den}(hx:xs[i]?=some x)
  (hv:VRel γ (Dom lk) w (Owned B lk) (.sc (.sl u) xs) v):Gives P γ B w lk (Instr.indexAt ty v vi) (.ro u x):=by
 obtain⟨kk,N,rfl,h0,rfl⟩:=asNat_some hi hvi
 simp only[VRel,VRel0,LRel]at hv
 obtain⟨_,v',e',h,_⟩:=hv
 simp only[List.cons.injEq,and_true]at e'
 subst e'
 obtain⟨A,cap,rfl,hc,h⟩:=h
 have hm:=(List.getElem?_eq_some_iff.1 hx).1
 obtain⟨a,cells,rfl,h1,h2,h3,h4⟩:=h (by omega)
 obtain⟨el,hi,hel⟩:=(hE.ty _ _ ht: ∃el,Inf P (.sl u) ty (.slice el)∧TyOK P u el)
 obtain⟨c,h5,h6⟩:=elem_addr hx h3 h4
 exact⟨_,run_indexAt_sl hi.und hel _ h0 hm,vrel_ro.2 ⟨_,c,rfl,by rw[Addr.add_block];exact h1,by rw[Addr.add_block];exact h2,h5,h6⟩⟩
theorem lent_addr{r:Nat}{xs:List u.den}{x:u.den}{v:Value}(hE:EnvOK P e)(ht:tyOf e ty=some (.sl u))(hi:(asNat pi).run=some i)(hvi:VRel γ (Dom lk) w (Owned B lk) pi vi)(hx:xs[i]?=some x)(hd:Dom lk r=2)
  (h:BorS w (ButW (Owned B lk) r) (DRel w (ButW (Owned B lk) r) false u) xs v):Gives P γ B w lk (Instr.indexAt ty v vi) (.rod r u x):=by
 obtain⟨kk,N,rfl,h0,rfl⟩:=asNat_some hi hvi
 obtain⟨A,cap,rfl,hc,h⟩:=h
 have hm:=(List.getElem?_eq_some_iff.1 hx).1
 obtain⟨a,cells,rfl,h1,h2,h3,h4⟩:=h (by omega)
 obtain⟨el,hi,hel⟩:=(hE.ty _ _ ht: ∃el,Inf P (.sl u) ty (.slice el)∧TyOK P u el)
 obtain⟨c,h5,h6⟩:=elem_addr hx h3 h4
 exact⟨_,run_indexAt_sl hi.und hel _ h0 hm,vrel_rod.2 ⟨hd,_,c,rfl,by rw[Addr.add_block];exact h1,by rw[Addr.add_block];exact h2,h5,h6⟩⟩
theorem indexAddr_lent_sound(hE:EnvOK P e)(ht:tyOf e ty=some (.sl u))(hi:(asNat pi).run=some i)(hvi:VRel γ (Dom lk) w (Owned B lk) pi vi){r:Nat}{xs:List u.den}{x:u.den}(hx:xs[i]?=some x)
  (hv:VRel γ (Dom lk) w (Owned B lk) (.lent r (.sl u) xs) v):Gives P γ B w lk (Instr.indexAt ty v vi) (.rod r u x):=by
 simp only[VRel,VRel0,LRel]at hv
 obtain⟨hd,_,_,v',e',h,_⟩:=hv
 simp only[List.cons.injEq,and_true]at e'
 subst e'
 exact lent_addr hE ht hi hvi hx hd h
theorem butFree(hM:Mem γ B w lk)(r:Nat)(hd:Dom lk r≠0):Free B lk (ButW (Owned B lk) r) [r]:=by
 obtain⟨x,hx⟩:=dom_some hd
 refine⟨fun k ⟨s,_,h⟩=>⟨s,h⟩,fun r' hr' k hk h=>?_⟩
 simp only[List.mem_singleton]at hr'
 subst hr'
 obtain⟨s,h1,y,h2,h3⟩:=h
 exact h1 (hM.uniq s r' y x k h2 hx h3 hk)
theorem nst_lent(hM:Mem γ B w lk)(hS:Sub lkS lk){r n k:Nat}{t:Ty}{xs:List t.den}(hp:(placeS lkS r n k).run=some ⟨t,xs⟩)(hv:VRel γ (Dom lk) w (Owned B lk) (.nst r n k) v):
  Dom lk r=2∧BorS w (ButW (Owned B lk) r) (DRel w (ButW (Owned B lk) r) false t) xs v:=by
 simp only[VRel,VRel0,LRel]at hv
 obtain⟨hd,v',b,o,h1,_,_,h2,h3,_⟩:=hv
 simp only[List.cons.injEq,and_true]at h3
 subst h3
 exact⟨hd,hM.placeS hS hp h1 h2 (butFree hM r (by omega))⟩
theorem indexAddr_nst_sound(hE:EnvOK P e)(hM:Mem γ B w lk)(hS:Sub lkS lk)(ht:tyOf e ty=some (.sl u))(hi:(asNat pi).run=some i)(hvi:VRel γ (Dom lk) w (Owned B lk) pi vi){r n k:Nat}{xs:List u.den}(hp:(placeS lkS r n k).run=some ⟨u,xs⟩){x:u.den}(hx:xs[i]?=some x)
  (hv:VRel γ (Dom lk) w (Owned B lk) (.nst r n k) v):Gives P γ B w lk (Instr.indexAt ty v vi) (.rod r u x):=by
 obtain⟨hd,h⟩:=nst_lent hM hS hp hv
 exact lent_addr hE ht hi hvi hx hd h
end arr
end
end Go.Vm
namespace Go.Vm
open Go
section
variable {γ:Nat→G} {B:Nat→List Nat} {w:World} {lk lkS:Look} {P:Program}
theorem bounds_some{lo hi:Option PV}{n:Nat}{k:Nat→Nat→Out PV}{p:PV}{up:Ups}(h:(bounds lo hi n k).run=some (p,up)):
  ∃l h',(bound hi n).run=some h'∧(bound lo 0).run=some l∧l≤h'∧h'≤n∧(k l h').run=some p∧up=[]:=by
 simp only[bounds,Out.bind_some,Out.guard_some,Out.ret_some,Bool.and_eq_true,decide_eq_true_eq,Prod.mk.injEq]at h
 obtain⟨h',h1,l,h2,⟨h3,h4⟩,p',h5,rfl,rfl⟩:=h
 exact⟨l,h',h1,h2,h3,h4,h5,rfl⟩
def BV(v:Option Value)(d i:Nat):Prop:=(v=none∧i=d)∨ ∃k n,v=some (.int k n)∧0≤n∧n.toNat=i
def ORel(γ:Nat→G)(D:Nat→Nat)(w:World)(W:Nat→Nat→Prop):Option PV→Option Value→Prop
 |none,none=>True|some p,some v=>VRel γ D w W p v|_,_=>False
theorem bound_some{D:Nat→Nat}{W:Nat→Nat→Prop}{p:Option PV}{v:Option Value}{d i:Nat}(h:(bound p d).run=some i)(hv:ORel γ D w W p v):BV v d i:=by
 cases p<;>cases v<;>simp only[ORel]at hv
 ·simp only[bound,Out.ret_some]at h;exact .inl ⟨rfl,h.symm⟩
 ·simp only[bound]at h
  obtain⟨k,n,rfl,h1,h2⟩:=asNat_some h hv
  exact .inr ⟨k,n,rfl,h1,h2⟩
theorem run_sliceBounds{isS:Bool}{n cap l h:Nat}{lo hi:Option Value}(hl:BV lo 0 l)(hh:BV hi n h)(h1:l≤h)(h2:h≤cap):(Instr.sliceBounds isS n cap lo hi none).run P w= .ok (l,h,cap) w:=by
 have b1: ∀(c:BoundsCode),∀v,hi=some v→(Instr.sliceBound v cap c).run P w= .ok h w:=fun c v hv=>by
  rcases hh with⟨e,_⟩|⟨k,m,e,h3,rfl⟩
  ·rw[e]at hv;cases hv
  ·rw[e]at hv;cases hv
   exact run_sliceBound w k m cap c h3 (by omega)
 have b2: ∀(c:BoundsCode),∀v,lo=some v→(Instr.sliceBound v h c).run P w= .ok l w:=fun c v hv=>by
  rcases hl with⟨e,_⟩|⟨k,m,e,h3,rfl⟩
  ·rw[e]at hv;cases hv
  ·rw[e]at hv;cases hv
   exact run_sliceBound w k m h c h3 (by omega)
 have e1:hi=none→n=h:=fun e=>by
  rcases hh with⟨_,e'⟩|⟨k,m,e',_⟩
  ·exact e'.symm
  ·rw[e]at e';cases e'
 have e2:lo=none→l=0:=fun e=>by
  rcases hl with⟨_,e'⟩|⟨k,m,e',_⟩
  ·exact e'
  ·rw[e]at e';cases e'
 cases hi<;>cases lo
 ·obtain rfl:=e1 rfl
  obtain rfl:=e2 rfl
  simp[Instr.sliceBounds]
 ·obtain rfl:=e1 rfl
  rename_i v
  simp[Instr.sliceBounds,b2 _ v rfl]
 ·obtain rfl:=e2 rfl
  rename_i v
  simp[Instr.sliceBounds,b1 _ v rfl]
 ·rename_i v v'
  simp[Instr.sliceBounds,b1 _ v rfl,b2 _ v' rfl]
variable {e:Env} {ty:TypeId} {lo hi:Option PV} {vlo vhi:Option Value} {l h:Nat} {v:Value}
theorem run_slice_sl{u:Ty}(hE:EnvOK P e)(ht:tyOf e ty=some (.sl u)){A:Option Addr}{n cap:Nat}(hl:BV vlo 0 l)(hh:BV vhi n h)(h1:l≤h)(h2:h≤cap):
  (Instr.sliceAt ty (.slice A n cap) vlo vhi none).run P w= .ok (.slice (if cap=l then A else A.map (·.add (l*u.sz))) (h-l) (cap-l)) w:=by
 obtain⟨el,hi,hel⟩:=(hE.ty _ _ ht: ∃el,Inf P (.sl u) ty (.slice el)∧TyOK P u el)
 simp only[Instr.sliceAt,Instr.slice,Sem.run_bind,run_underlying hi.und,Result.andThen_ok,run_sliceBounds hl hh h1 h2,size_of hel,Sem.run_pure]
theorem BorS.slice{O:Nat→Prop}{u:Ty}{xs:List u.den}{A:Option Addr}{n cap:Nat}(hb:BorS w O (DRel w O false u) xs (.slice A n cap))(h1:l≤h)(h2:h≤xs.length):
  BorS w O (DRel w O false u) ((xs.take h).drop l) (.slice (if cap=l then A else A.map (·.add (l*u.sz))) (h-l) (cap-l)):=by
 obtain⟨B,c,e',hc,hb⟩:=hb
 simp only[Value.slice.injEq]at e'
 obtain⟨rfl,rfl,rfl⟩:=e'
 have hlen:((xs.take h).drop l).length=h-l:=by simp;omega
 refine⟨_,cap-l,by rw[hlen],by rw[hlen];omega,fun hp=>?_⟩
 rw[hlen]at hp
 rw[if_neg (by omega)]
 obtain⟨a,cells,rfl,h3,h4,h5,h6⟩:=hb (by omega)
 obtain⟨b1,b2,hb,h7,_⟩:=EL.take_drop (fun x c b h=>DRel.length _ _ _ _ h) h h6
 simp at hb
 obtain⟨rfl,rfl⟩:=hb
 obtain⟨b1,b2,hb,_,h8⟩:=EL.take_drop (fun x c b h=>DRel.length _ _ _ _ h) l h7
 simp at hb
 obtain⟨rfl,rfl⟩:=hb
 refine⟨_,_,rfl,by rw[Addr.add_block];exact h3,by rw[Addr.add_block];exact h4,fun j v hj=>?_,h8⟩
 rw[Addr.add_add]
 refine h5 _ _ ?_
 rw[List.getElem?_drop]at hj
 rw[List.getElem?_take]at hj
 split at hj
 ·exact hj
 ·cases hj
theorem slice_bor_sound{u:Ty}(hE:EnvOK P e)(ht:tyOf e ty=some (.sl u)){O:Nat→Prop}{xs:List u.den}(hb:BorS w O (DRel w O false u) xs v)(hl:(bound lo 0).run=some l)(hh:(bound hi xs.length).run=some h)(h1:l≤h)(h2:h≤xs.length)
  (hvl:ORel γ (Dom lk) w (Owned B lk) lo vlo) (hvh:ORel γ (Dom lk) w (Owned B lk) hi vhi): ∃v',(Instr.sliceAt ty v vlo vhi none).run P w= .ok v' w∧BorS w O (DRel w O false u) ((xs.take h).drop l) v'∧v'.oneCell'=true:=by
 have hb':=hb
 obtain⟨A,cap,rfl,hc,_⟩:=hb'
 exact⟨_,run_slice_sl hE ht (bound_some hl hvl) (bound_some hh hvh) h1 (by omega),hb.slice h1 h2,rfl⟩
theorem take_one_at{α:Type}{xs:List α}{k:Nat}{a:α}(h:(xs.drop k).take 1=[a]):xs[k]?=some a:=by
 rw[List.take_one,List.head?_drop]at h
 cases hx:xs[k]? with
 |none=>rw[hx]at h;simp at h
 |some b=>rw[hx]at h;simp at h;rw[h]
theorem sliceV2_sound(hE:EnvOK P e)(hM:Mem γ B w lk)(hS:Sub lkS lk){x p:PV}{up:Ups}(hs:(sliceV2 lkS (tyOf e ty) x lo hi).run=some (p,up))(hv:VRel γ (Dom lk) w (Owned B lk) x v)
  (hvl:ORel γ (Dom lk) w (Owned B lk) lo vlo) (hvh:ORel γ (Dom lk) w (Owned B lk) hi vhi):up=[]∧Gives P γ B w lk (Instr.sliceAt ty v vlo vhi none) p:=by
 unfold sliceV2 at hs
 split at hs
 ·rename_i ht
  split at hs
  ·rename_i z
   obtain⟨l,h,hh,hl,h1,h2,h3,rfl⟩:=bounds_some hs
   simp only[Out.ret_some]at h3
   subst h3
   rw[vrel_str]at hv
   obtain⟨s,rfl,hsl,rfl⟩:=hv
   have hu:=(hE.ty _ _ ht:Inf P .str ty .string).und
   have hsz:s.data.toList.length=s.size:=by rw[Array.length_toList];rfl
   rw[hsz]at hh h2
   refine⟨rfl,.string (s.extract l h),?_,vrel_str.2 ⟨_,?_,by simp;omega,rfl⟩⟩
   ·simp[Instr.sliceAt,Instr.slice,run_underlying hu,run_sliceBounds (bound_some hl hvl) (bound_some hh hvh) h1 h2]
   ·rw[List.drop_take];simp[ByteArray.data_extract]
  ·simp[Out.run]at hs
 ·rename_i u ht
  split at hs
  ·rename_i t z
   simp only[Out.need_some,beq_iff_eq]at hs
   obtain⟨rfl,hs⟩:=hs
   obtain⟨l,h,hh,hl,h1,h2,h3,rfl⟩:=bounds_some hs
   simp only[Out.ret_some]at h3
   subst h3
   simp only[VRel,VRel0,LRel]at hv
   obtain⟨_,v',e',hv,_⟩:=hv
   simp only[List.cons.injEq,and_true]at e'
   subst e'
   obtain⟨v',h4,h5,_⟩:=slice_bor_sound (γ:=γ) (B:=B) (lk:=lk) hE ht hv hl hh h1 h2 hvl hvh
   refine⟨rfl,v',h4,?_⟩
   simp only[VRel,VRel0,LRel]
   exact⟨rfl,v',rfl,h5,rfl⟩
  ·rename_i t
   simp only[Out.need_some,beq_iff_eq]at hs
   obtain⟨rfl,hs⟩:=hs
   obtain⟨l,h,hh,hl,h1,h2,h3,rfl⟩:=bounds_some hs
   simp only[Out.ret_some]at h3
   subst h3
   simp only[VRel,VRel0,LRel,List.cons.injEq,and_true]at hv
   subst hv
   refine⟨rfl,_,run_slice_sl hE ht (bound_some hl hvl) (bound_some hh hvh) h1 h2,?_⟩
   obtain rfl:h=0:=by omega
   obtain rfl:l=0:=by omega
   simp[VRel,VRel0,LRel]
  ·rename_i r n k
   simp only[Out.bind_some,Out.need_some,beq_iff_eq]at hs
   obtain⟨⟨t,z⟩,hp,rfl,hs⟩:=hs
   obtain⟨l,h,hh,hl,h1,h2,h3,rfl⟩:=bounds_some hs
   simp only[Out.ret_some]at h3
   subst h3
   obtain⟨hd,hv⟩:=nst_lent hM hS hp hv
   obtain⟨v',h4,h5,_⟩:=slice_bor_sound (γ:=γ) (B:=B) (lk:=lk) hE ht hv hl hh h1 h2 hvl hvh
   refine⟨rfl,v',h4,?_⟩
   simp only[VRel,VRel0,LRel]
   exact⟨hd,rfl,rfl,v',rfl,h5,rfl⟩
  ·rename_i r t z
   simp only[Out.need_some,beq_iff_eq]at hs
   obtain⟨rfl,hs⟩:=hs
   obtain⟨l,h,hh,hl,h1,h2,h3,rfl⟩:=bounds_some hs
   simp only[Out.ret_some]at h3
   subst h3
   simp only[VRel,VRel0,LRel]at hv
   obtain⟨hd,_,_,v',e',hv,_⟩:=hv
   simp only[List.cons.injEq,and_true]at e'
   subst e'
   obtain⟨v',h4,h5,_⟩:=slice_bor_sound (γ:=γ) (B:=B) (lk:=lk) hE ht hv hl hh h1 h2 hvl hvh
   refine⟨rfl,v',h4,?_⟩
   simp only[VRel,VRel0,LRel]
   exact⟨hd,rfl,rfl,v',rfl,h5,rfl⟩
  ·rename_i r
   simp only[Out.bind_some,Out.need_some,beq_iff_eq]at hs
   obtain⟨⟨t,z⟩,hp,rfl,hs⟩:=hs
   obtain⟨l,h,hh,hl,h1,h2,h3,rfl⟩:=bounds_some hs
   simp only[Out.ret_some]at h3
   subst h3
   unfold rowL at hp
   split at hp
   ·rename_i t' xs m hx
    simp only[Out.ret_some,Sigma.mk.injEq]at hp
    obtain⟨rfl,hp⟩:=hp
    obtain rfl:=eq_of_heq hp
    simp only[VRel,VRel0,LRel]at hv
    obtain⟨hd,v',t',e',e'',_⟩:=hv
    simp only[List.cons.injEq,and_true]at e''
    subst e''
    obtain⟨A,cap,e1,hA,hc⟩:=hM.rowVal (hS _ _ hx)
    rw[e']at e1
    cases e1
    refine⟨rfl,_,run_slice_sl hE ht (bound_some hl hvl) (bound_some hh hvh) h1 (by dsimp only at h2;omega),?_⟩
    simp only[VRel,VRel0,LRel]
    dsimp only at h2
    refine⟨hd,_,t',A,_,cap,_,_,e',rfl,rfl,by omega,by omega,by omega,fun hp=>?_,fun h0=>?_⟩
    ·obtain⟨g,rfl⟩:=hA (by omega)
     refine⟨g,rfl,?_⟩
     rw[if_neg (by omega)]
     simp[Addr.add_mid]
    ·subst h0
     split
     ·rfl
     ·cases A<;>simp[Addr.add]
   ·simp[Out.run]at hp
  ·rename_i r off n
   simp only[Out.bind_some,Out.need_some,beq_iff_eq]at hs
   obtain⟨⟨t,z⟩,hp,rfl,hs⟩:=hs
   obtain⟨l,h,hh,hl,h1,h2,h3,rfl⟩:=bounds_some hs
   simp only[Out.ret_some]at h3
   subst h3
   unfold rowL at hp
   split at hp
   ·rename_i t' xs m hx
    simp only[Out.ret_some,Sigma.mk.injEq]at hp
    obtain⟨rfl,hp⟩:=hp
    obtain rfl:=eq_of_heq hp
    simp only[VRel,VRel0,LRel]at hv
    obtain⟨hd,v',t',A,N,cap,A',c',e',rfl,e'',h4,h5,h6,h7,h8⟩:=hv
    simp only[List.cons.injEq,and_true]at e''
    subst e''
    obtain⟨A2,cap2,e1,hA,hc⟩:=hM.rowVal (hS _ _ hx)
    rw[e']at e1
    simp only[G.row.injEq]at e1
    obtain⟨_,rfl⟩:=e1
    refine⟨rfl,_,run_slice_sl hE ht (bound_some hl hvl) (bound_some hh hvh) h1 (by omega),?_⟩
    simp only[VRel,VRel0,LRel]
    refine⟨hd,_,t',A,_,cap,_,_,e',rfl,rfl,by omega,by omega,by omega,fun hp=>?_,fun h0=>?_⟩
    ·obtain⟨g,rfl,rfl⟩:=h7 (by omega)
     refine⟨g,rfl,?_⟩
     rw[if_neg (by omega)]
     simp[Addr.add_mid,Nat.add_mul]
    ·obtain rfl:off=0:=by omega
     obtain rfl:l=0:=by omega
     obtain rfl:=h8 rfl
     split
     ·rfl
     ·cases A'<;>simp[Addr.add]
   ·simp[Out.run]at hp
  ·rename_i r n k off m
   simp only[Out.need_some,beq_iff_eq]at hs
   obtain⟨hz,hs⟩:=hs
   obtain⟨l,h,hh,hl,h1,h2,h3,rfl⟩:=bounds_some hs
   simp only[Out.ret_some]at h3
   subst h3
   simp only[VRel,VRel0,LRel]at hv
   obtain⟨hd,b,o,A,c',h4,e'',h5,hcm,h6,h7⟩:=hv
   simp only[List.cons.injEq,and_true]at e''
   subst e''
   refine⟨rfl,_,run_slice_sl hE ht (bound_some hl hvl) (bound_some hh hvh) h1 (by omega),?_⟩
   simp only[VRel,VRel0,LRel]
   refine⟨hd,b,o,if c'=l then A else A.add (l*u.sz),c'-l,h4,by split<;>rfl,by omega,by omega,by omega,fun hp=>?_⟩
   obtain rfl:=h7 (by omega)
   rw[if_neg (by omega),Addr.add_mid,hz]
   simp[Nat.add_assoc]
  ·simp[Out.run]at hs
 ·rename_i m u ht
  split at hs
  ·rename_i r n k
   simp only[Out.need_some,Bool.and_eq_true,beq_iff_eq]at hs
   obtain⟨⟨⟨hz,hlies⟩,hmm⟩,hs⟩:=hs
   obtain⟨l,h,hh,hl,h1,h2,h3,rfl⟩:=bounds_some hs
   simp only[Out.ret_some]at h3
   subst h3
   obtain⟨hd,b,o,ha,rfl⟩:=vrel_ptr.1 hv
   obtain⟨el,hi',hel⟩:=(hE.ty _ _ ht: ∃el,Inf P (.arr m u) ty (.array m el)∧TyOK P u el)
   refine⟨rfl,.slice (some (if m=l then⟨b,o,none⟩else(⟨b,o,none⟩:Addr).add (l*u.sz))) (h-l) (m-l),?_,?_⟩
   ·simp[Instr.sliceAt,run_underlying hi'.und,Instr.sureAddr,run_sliceBounds (bound_some hl hvl) (bound_some hh hvh) h1 h2,size_of hel]
   ·simp only[VRel,VRel0,LRel]
    have hsz:(γ r).lsz k=m:=by
     unfold lies rootSz at hlies
     simp only[decide_eq_true_eq,szT,hz,Nat.mul_one,Ty.nl]at hlies
     split at hlies
     ·rename_i ps hx
      obtain⟨b',o',out,e',_⟩:=(hM.rel r _ (hS _ _ hx)).box
      rw[e']
      have:=take_one_at hlies
      simp only[G.lsz,this,Option.getD_some]
     ·rename_i t xs mo hx
      obtain⟨v',e',_⟩:=(hM.rel r _ (hS _ _ hx)).row
      rw[e']
      have:=take_one_at hlies
      simp only[G.lsz,this,Option.getD_some]
     ·simp at hlies
    refine⟨hd,b,o,_,m-l,ha,rfl,by omega,by have:=Nat.le_of_ble_eq_true hmm;simp only[maxLen];omega,by omega,fun hp=>?_⟩
    rw[if_neg (by omega),Addr.add_mid,hz]
    simp
  ·simp[Out.run]at hs
 ·simp[Out.run]at hs
end
end Go.Vm
namespace Go.Vm
open Go
section
variable {γ:Nat→G} {B:Nat→List Nat} {w:World} {lk lkS:Look} {P:Program} {e:Env} {ty:TypeId}
theorem run_part{u:Ty}{t:TypeId}(ht:TyOK P u t){c1 c2 c3:List Value}{v:Value}(hl:c2.length=u.sz)(h1:isRowT u=true→v= .agg c2.toArray)(h2:isRowT u=false→c2=[v]):
  (part t (c1++c2++c3).toArray c1.length).run P w= .ok v w:=by
 obtain⟨d,hd,hr⟩:=ht.inf
 have hagg:=run_isAgg hd.und w
 rw[hr]at hagg
 cases hb:isRowT u
 ·rw[hb]at hagg
  obtain rfl:=h2 hb
  simp[part,hagg]
 ·rw[hb]at hagg
  obtain rfl:=h1 hb
  simp only[part,Sem.run_bind,hagg,Result.andThen_ok,size_of ht,if_true,Sem.run_pure]
  congr 2
  apply Array.ext'
  simp[←hl]
theorem field_sound(hE:EnvOK P e){u:Ty}(ht:tyOf e ty=some (.st u)){f d:Nat}{t:Ty}(hf:fieldOf u f=some (d,t)){ps:List PV}(hl:d+t.nl≤ps.length)(hal:alikeL (zeroL t) ((ps.drop d).take t.nl)=true){v:Value}
  (hsz:((ps.map szV).take d).sum=offL u d) (hv:VRel γ (Dom lk) w (Owned B lk) (.ag ps) v):Gives P γ B w lk (Instr.field ty v f) (pack t ((ps.drop d).take t.nl)):=by
 simp only[VRel,VRel0]at hv
 obtain⟨cs,rfl,hv⟩:=hv
 obtain⟨fs,hi,hfs⟩:=(hE.ty _ _ ht: ∃fs,Inf P (.st u) ty (.struct fs)∧(TyR P u).2 fs.toList 0)
 obtain⟨fd,h1,h2,h3,h4⟩:=TyR.field hfs hf
 have h1':fs[f]?=some fd:=by simpa using h1
 obtain⟨c1,c2,c3,e1,_,e2,h7,_⟩:=hv.split d t.nl
 obtain⟨v,h8,h9,h10,h11⟩:=VRel.pack hal h3.top h7
 have hlen:c2.length=t.sz:=by rw[h7.length,←alikeL_sz hal,zeroL_sz,szT_sum]
 refine⟨v,?_,h8⟩
 have:=run_part (w:=w) (c1:=c1) (c3:=c3) h3 hlen h10 h11
 rw[←e1,e2,hsz]at this
 simp only[Nat.zero_add]at h2
 rw[←h2]at this
 simp[Instr.field,run_underlying hi.und,h1',asAgg,this]
theorem index_str_sound{k:TypeId}(hE:EnvOK P e)(ht:tyOf e ty=some .str){pi:PV}{i:Nat}{vi:Value}(hi:(asNat pi).run=some i)(hvi:VRel γ (Dom lk) w (Owned B lk) pi vi){s:List UInt8}{c:UInt8}(hc:s[i]?=some c){v:Value}
  (hv:VRel γ (Dom lk) w (Owned B lk) (.sc .str s) v):Gives P γ B w lk (Instr.index ty v vi) (.sc (.int .u8) c):=by
 obtain⟨kk,N,rfl,h0,rfl⟩:=asNat_some hi hvi
 rw[vrel_str]at hv
 obtain⟨b,rfl,_,rfl⟩:=hv
 have hu:=(hE.ty _ _ ht:Inf P .str ty .string).und
 have hb:b[N.toNat]?=some c:=by
  have hlt:=(List.getElem?_eq_some_iff.1 hc).1
  rw[Array.length_toList]at hlt
  have hlt':N.toNat<b.size:=hlt
  rw[getElem?_pos b N.toNat hlt']
  rw[Array.getElem?_toList,Array.getElem?_eq_getElem hlt]at hc
  exact hc
 refine⟨.int .u8 c.toNat,?_,vrel_int.2 rfl⟩
 simp[Instr.index,asIntOf,run_underlying hu,h0,hb]
theorem index_arr_sound(hE:EnvOK P e){m:Nat}{u:Ty}(ht:tyOf e ty=some (.arr m u)){pi:PV}{i:Nat}{vi:Value}(hi:(asNat pi).run=some i)(hvi:VRel γ (Dom lk) w (Owned B lk) pi vi){xs:List u.den}{x:u.den}(hx:xs[i]?=some x){v:Value}
  (hv:VRel γ (Dom lk) w (Owned B lk) (.sc (.arr m u) xs) v):Gives P γ B w lk (Instr.index ty v vi) (expand u x):=by
 obtain⟨kk,N,rfl,h0,rfl⟩:=asNat_some hi hvi
 simp only[VRel,VRel0,LRel]at hv
 obtain⟨cs,rfl,_,hlen,hv⟩:=hv
 obtain⟨el,hi,hel⟩:=(hE.ty _ _ ht: ∃el,Inf P (.arr m u) ty (.array m el)∧TyOK P u el)
 obtain⟨c1,c,c3,b1,b',b3,e1,e2,e3,h3,_⟩:=EL.get (fun x c b h=>DRel.length _ _ _ _ h) hv hx
 obtain rfl:=DRel.noblocks _ _ _ _ h3
 obtain⟨v,h5,h6,h7,h8⟩:=expand_rel (γ:=γ) (D:=Dom lk) (W:=Owned B lk) (TyOK.top hel) h3
 refine⟨v,?_,h5⟩
 have:=run_part (w:=w) (c1:=c1) (c3:=c3) hel (DRel.length _ _ _ _ h3) h7 h8
 rw[←e1,e2]at this
 have hm:N<(m:Int):=by
  have:=(List.getElem?_eq_some_iff.1 hx).1
  have e:xs.length=m:=hlen
  omega
 simp[Instr.index,asIntOf,run_underlying hi.und,h0,hm,size_of hel,this]
theorem len_sound(hE:EnvOK P e)(hM:Mem γ B w lk)(hS:Sub lkS lk){x:PV}{v:Value}{n:Nat}{ts:Array TypeId}{rt:TypeId}(hts:ts[0]?=some ty)(h:(lenV lkS (tyOf e ty) x).run=some n)(hv:VRel γ (Dom lk) w (Owned B lk) x v):
  Gives P γ B w lk (Builtin.len_ ts rt #[v]) (.sc (.int .i64) (n:Int)):=by
 have key: ∀(A:Option Addr) (n c:Nat),isSl (tyOf e ty)=true→(Builtin.len_ ts rt #[.slice A n c]).run P w= .ok (goInt n) w:=fun A n c hsl=>by
  unfold isSl at hsl
  split at hsl
  ·rename_i u ht
   obtain⟨el,hi,_⟩:=(hE.ty _ _ ht: ∃el,Inf P (.sl u) ty (.slice el)∧TyOK P u el)
   simp[Builtin.len_,hts,run_underlying hi.und]
  ·cases hsl
 have fin: ∀n:Nat,VRel γ (Dom lk) w (Owned B lk) (.sc (.int .i64) (n:Int)) (goInt n):=fun n=>vrel_int.2 rfl
 have gen: ∀{u:Ty} {xs:List u.den},(sliceOf lkS x).run=some ⟨u,xs⟩→isSl (tyOf e ty)=true→LRel γ (Dom lk) w (Owned B lk) x [v]→Gives P γ B w lk (Builtin.len_ ts rt #[v]) (.sc (.int .i64) (xs.length:Int)):=fun hs hsl hl=>by
  obtain⟨A,cap,rfl,_⟩:=hM.sliceOf hS hs hl (noneFree B lk _)
  exact⟨_,key _ _ _ hsl,fin _⟩
 unfold lenV at h
 split at h
 ·rename_i s
  simp only[Out.need_some,Out.ret_some,beq_iff_eq]at h
  obtain⟨ht,rfl⟩:=h
  rw[vrel_str]at hv
  obtain⟨b,rfl,_,rfl⟩:=hv
  have hu:=(hE.ty _ _ ht:Inf P .str ty .string).und
  refine⟨goInt b.size,by simp[Builtin.len_,hts,run_underlying hu],?_⟩
  have:b.data.toList.length=b.size:=by rw[Array.length_toList];rfl
  rw[this];exact fin _
 ·split at h
  ·rename_i ht
   simp only[Out.need_some,Out.ret_some,beq_iff_eq]at h
   obtain⟨rfl,rfl⟩:=h
   obtain⟨el,hi,_⟩:=(hE.ty _ _ ht: ∃el,Inf P (.arr _ _) ty (.array _ el)∧TyOK P _ el)
   exact⟨_,by simp[Builtin.len_,hts,run_underlying hi.und],fin _⟩
  ·simp[Out.run]at h
 ·rename_i r off m
  simp only[Out.need_some,Out.ret_some]at h
  obtain⟨hsl,rfl⟩:=h
  simp only[VRel,VRel0,LRel]at hv
  obtain⟨_,v',t',A,N,cap,A',c',_,_,e'',_⟩:=hv
  simp only[List.cons.injEq,and_true]at e''
  subst e''
  exact⟨_,key _ _ _ hsl,fin _⟩
 ·rename_i r n' k off m
  simp only[Out.need_some,Out.ret_some]at h
  obtain⟨hsl,rfl⟩:=h
  simp only[VRel,VRel0,LRel]at hv
  obtain⟨hd,b,o,A,c',h4,e'',h5,_,h6,h7⟩:=hv
  simp only[List.cons.injEq,and_true]at e''
  subst e''
  exact⟨_,key _ _ _ hsl,fin _⟩
 ·simp only[Out.need_some,Out.bind_some,Out.ret_some]at h
  obtain⟨hsl,⟨u,xs⟩,hs,rfl⟩:=h
  refine gen hs hsl ?_
  have hs':=hs
  unfold Vm.sliceOf at hs
  split at hs<;>first|(simp only[VRel,VRel0]at hv;exact hv)|(simp[Out.run]at hs)
theorem minmax_sound{mx:Bool}{k:IntKind}: ∀{l:List PV} {vs:List Value} {x:Int} {p:PV},(minmax mx k l x).run=some p→VRels γ (Dom lk) w (Owned B lk) l vs→toI k (ofI k x)=x→
  ∃v,(vs.foldlM (if mx then Builtin.max2 else Builtin.min2) (.int k x)).run P w= .ok v w∧VRel γ (Dom lk) w (Owned B lk) p v
 |[],vs,x,p,h,hv,hx=>by
  simp only[minmax,Out.ret_some]at h
  subst h
  rw[show vs=[]from hv]
  exact⟨.int k x,rfl,vrel_int.2 (by rw[hx])⟩
 |a::l,vs,x,p,h,⟨v,vs',e,h1,h2⟩,hx=>by
  simp only[minmax,Out.bind_some]at h
  obtain⟨y,hy,h⟩:=h
  obtain rfl:=getSc_some.1 hy
  subst e
  have h1':v= .int k (toI k y):=vrel_int.1 (by simpa[VRel]using h1)
  subst h1'
  have hxy: ∀a b:kden k,toI k (ofI k (toI k a))=toI k a:=fun a _=>by cases k<;>simp[toI,ofI]
  have hy':=hxy y y
  cases mx
  ·have e:min x (toI k y)=if toI k y<x then toI k y else x:=by rw[Int.min_def];split<;>split<;>omega
   dsimp only at h
   rw[e]at h
   have ih:=minmax_sound (mx:=false) h h2 (by split<;>assumption)
   obtain⟨v,h3,h4⟩:=ih
   refine⟨v,?_,h4⟩
   simp only[List.foldlM_cons,Bool.false_eq_true,if_false,Builtin.min2,Sem.run_bind,Sem.run_pure,Result.andThen_ok]at h3⊢
   exact h3
  ·have e:max x (toI k y)=if toI k y>x then toI k y else x:=by rw[Int.max_def];split<;>split<;>omega
   dsimp only at h
   rw[e]at h
   have ih:=minmax_sound (mx:=true) h h2 (by split<;>assumption)
   obtain⟨v,h3,h4⟩:=ih
   refine⟨v,?_,h4⟩
   simp only[List.foldlM_cons,if_true,Builtin.max2,Sem.run_bind,Sem.run_pure,Result.andThen_ok]at h3⊢
   exact h3
theorem minmaxV_sound{mx:Bool}{l:List PV}{vs:Array Value}{p:PV}{ts:Array TypeId}{t:TypeId}(h:(minmaxV mx l).run=some p)(hv:VRels γ (Dom lk) w (Owned B lk) l vs.toList):
  Gives P γ B w lk (if mx then Builtin.max_ ts t vs else Builtin.min_ ts t vs) p:=by
 unfold minmaxV at h
 split at h
 ·rename_i k x l
  obtain⟨v,vs',e,h1,h2⟩:=hv
  have h1':v= .int k (toI k x):=vrel_int.1 (by simpa[VRel]using h1)
  subst h1'
  obtain⟨v,h3,h4⟩:=minmax_sound (P:=P) h h2 (by cases k<;>simp[toI,ofI])
  refine⟨v,?_,h4⟩
  cases mx<;>simp[Builtin.max_,Builtin.min_,e]<;>simpa using h3
 ·simp[Out.run]at h
end
end Go.Vm
namespace Go.Vm
open Go
section
variable {P:Program} {w:World} {O:Nat→Prop}
theorem eqD_pair{a b:Ty}(h:eqOK b=true)(x y:(Ty.pair a b).den):eqD (.pair a b) x y=(eqD a x.1 y.1&&eqD b x.2 y.2):=by
 cases b<;>first|rfl|(simp[eqOK]at h)
theorem run_part_nil{u:Ty}{t:TypeId}(ht:TyOK P u t){c1 c2 c3:List Value}{v:Value}(hl:c2.length=u.sz)(h1:isRowT u=true→v= .agg c2.toArray)(h2:isRowT u=false→c2=[v]){xs:Array Value}(hx:xs.toList=c1++c2++c3){off:Nat}(ho:c1.length=off):
  (part t xs off).run P w= .ok v w:=by
 have:=run_part (w:=w) (c1:=c1) (c3:=c3) ht hl h1 h2
 rw[←hx]at this
 simp only[Array.toArray_toList]at this
 rw[←ho];exact this
theorem toList_beq(a b:ByteArray):(a.toList==b.toList)=(a.data.toList==b.data.toList):=by rw[ByteArray.toList_eq,ByteArray.toList_eq]
theorem equalIn_sound: ∀(u:Ty),eqOK u=true→
  (∀(n d:Nat) (x y:u.den) (c1 c2:List Value) (v1 v2:Value),TyOK P u n→(eqB P u).1 n=true→depE u≤d→DRel w O false u x c1 []→DRel w O false u y c2 []→(isRowT u=true→v1= .agg c1.toArray∧v2= .agg c2.toArray)→(isRowT u=false→c1=[v1]∧c2=[v2])→
   (Op.equalIn d n v1 v2).run P w= .ok (eqD u x y) w)∧
  (∀(fs:List Field) (d off:Nat) (x y:u.den) (p1 p2 c1 c2:List Value) (xs ys:Array Value),(TyR P u).2 fs off→(eqB P u).2 fs=true→depE u≤d→DRel w O false u x c1 []→DRel w O false u y c2 []→xs.toList=p1++c1→ys.toList=p2++c2→p1.length=off→p2.length=off→
   (Op.eqFields d xs ys fs).run P w= .ok (eqD u x y) w):=by
 have one: ∀(u:Ty) (R:Nat→Prop) (Q:Nat→Bool),(TyR P u).2=one R→(∀n,R n→TyOK P u n)→(∀f,(eqB P u).2 [f]=(f.name != "_" &&Q f.type))→(eqB P u).1=Q→
   (∀(n d:Nat) (x y:u.den) (c1 c2:List Value) (v1 v2:Value),TyOK P u n→(eqB P u).1 n=true→depE u≤d→DRel w O false u x c1 []→DRel w O false u y c2 []→(isRowT u=true→v1= .agg c1.toArray∧v2= .agg c2.toArray)→(isRowT u=false→c1=[v1]∧c2=[v2])→
    (Op.equalIn d n v1 v2).run P w= .ok (eqD u x y) w)→(∀(x:u.den) c,DRel w O false u x c []→isRowT u=false→ ∃v,c=[v])→
   ∀(fs:List Field) (d off:Nat) (x y:u.den) (p1 p2 c1 c2:List Value) (xs ys:Array Value),(TyR P u).2 fs off→(eqB P u).2 fs=true→depE u≤d→DRel w O false u x c1 []→DRel w O false u y c2 []→xs.toList=p1++c1→ys.toList=p2++c2→p1.length=off→p2.length=off→
    (Op.eqFields d xs ys fs).run P w= .ok (eqD u x y) w:=by
  intro u R Q hR hRT hQ hQ1 hmain hone fs d off x y p1 p2 c1 c2 xs ys hf he hd h1 h2 hx hy ho1 ho2
  rw[hR]at hf
  obtain⟨f,rfl,hoff,hr⟩:=hf
  rw[hQ]at he
  simp only[Bool.and_eq_true,bne_iff_ne,ne_eq]at he
  have ht:=hRT _ hr
  have hv: ∃v1 v2,(isRowT u=true→v1= .agg c1.toArray∧v2= .agg c2.toArray)∧(isRowT u=false→c1=[v1]∧c2=[v2]):=by
   cases hb:isRowT u
   ·obtain⟨v1,e1⟩:=hone x c1 h1 hb
    obtain⟨v2,e2⟩:=hone y c2 h2 hb
    exact⟨v1,v2,fun h=>by simp at h,fun _=>⟨e1,e2⟩⟩
   ·exact⟨_,_,fun _=>⟨rfl,rfl⟩,fun h=>by simp at h⟩
  obtain⟨v1,v2,hv1,hv2⟩:=hv
  have r1:=run_part_nil (w:=w) (c1:=p1) (c3:=[]) ht (DRel.length _ _ _ _ h1) (fun h=>(hv1 h).1) (fun h=>(hv2 h).1) (xs:=xs) (by rw[hx];simp) (ho1.trans hoff.symm)
  have r2:=run_part_nil (w:=w) (c1:=p2) (c3:=[]) ht (DRel.length _ _ _ _ h2) (fun h=>(hv1 h).2) (fun h=>(hv2 h).2) (xs:=ys) (by rw[hy];simp) (ho2.trans hoff.symm)
  have r3:=hmain f.type d x y c1 c2 v1 v2 ht (by rw[hQ1];exact he.2) hd h1 h2 hv1 hv2
  simp only[Op.eqFields,if_pos he.1,Sem.run_bind,r1,r2,r3,Result.andThen_ok]
  cases eqD u x y<;>simp
 intro u
 induction u with
 |int k=>
  intro _
  have h1: ∀(n d:Nat) (x y:(Ty.int k).den) (c1 c2:List Value) (v1 v2:Value),TyOK P (.int k) n→(eqB P (.int k)).1 n=true→depE (.int k)≤d→DRel w O false (.int k) x c1 []→DRel w O false (.int k) y c2 []→(isRowT (.int k)=true→v1= .agg c1.toArray∧v2= .agg c2.toArray)→(isRowT (.int k)=false→c1=[v1]∧c2=[v2])→
    (Op.equalIn d n v1 v2).run P w= .ok (eqD (.int k) x y) w:=by
   intro n d x y c1 c2 v1 v2 ht _ hd h1 h2 _ hv
   obtain⟨e1,e2⟩:=hv rfl
   obtain⟨h1,_⟩:=h1
   obtain⟨h2,_⟩:=h2
   rw[e1]at h1;rw[e2]at h2
   simp only[List.cons.injEq,and_true]at h1 h2
   subst h1 h2
   obtain⟨d,rfl⟩: ∃d',d=d'+1:=⟨d-1,by simp only[depE]at hd;omega⟩
   exact run_equalIn_int w d n k k _ _ ht.und
  exact⟨h1,one _ _ (fun _=>true) rfl (fun _ h=>h) (fun f=>by simp[eqB]) rfl h1 (fun x c h _=>⟨_,h.1⟩)⟩
 |bool=>
  intro _
  have h1: ∀(n d:Nat) (x y:Ty.bool.den) (c1 c2:List Value) (v1 v2:Value),TyOK P .bool n→(eqB P .bool).1 n=true→depE .bool≤d→DRel w O false .bool x c1 []→DRel w O false .bool y c2 []→(isRowT .bool=true→v1= .agg c1.toArray∧v2= .agg c2.toArray)→(isRowT .bool=false→c1=[v1]∧c2=[v2])→
    (Op.equalIn d n v1 v2).run P w= .ok (eqD .bool x y) w:=by
   intro n d x y c1 c2 v1 v2 ht _ hd h1 h2 _ hv
   obtain⟨e1,e2⟩:=hv rfl
   obtain⟨h1,_⟩:=h1
   obtain⟨h2,_⟩:=h2
   rw[e1]at h1;rw[e2]at h2
   simp only[List.cons.injEq,and_true]at h1 h2
   subst h1 h2
   obtain⟨d,rfl⟩: ∃d',d=d'+1:=⟨d-1,by simp only[depE]at hd;omega⟩
   exact run_equalIn_bool' w d n _ _ ht.und
  exact⟨h1,one _ _ (fun _=>true) rfl (fun _ h=>h) (fun f=>by simp[eqB]) rfl h1 (fun x c h _=>⟨_,h.1⟩)⟩
 |str=>
  intro _
  have h1: ∀(n d:Nat) (x y:Ty.str.den) (c1 c2:List Value) (v1 v2:Value),TyOK P .str n→(eqB P .str).1 n=true→depE .str≤d→DRel w O false .str x c1 []→DRel w O false .str y c2 []→(isRowT .str=true→v1= .agg c1.toArray∧v2= .agg c2.toArray)→(isRowT .str=false→c1=[v1]∧c2=[v2])→
    (Op.equalIn d n v1 v2).run P w= .ok (eqD .str x y) w:=by
   intro n d x y c1 c2 v1 v2 ht _ hd h1 h2 _ hv
   obtain⟨e1,e2⟩:=hv rfl
   obtain⟨⟨s,rfl,_,h1⟩,_⟩:=h1
   obtain⟨⟨t,rfl,_,h2⟩,_⟩:=h2
   rw[e1]at h1;rw[e2]at h2
   simp only[List.cons.injEq,and_true]at h1 h2
   subst h1 h2
   obtain⟨d,rfl⟩: ∃d',d=d'+1:=⟨d-1,by simp only[depE]at hd;omega⟩
   rw[run_equalIn_string w d n _ _ ht.und,toList_beq];rfl
  exact⟨h1,one _ _ (fun _=>true) rfl (fun _ h=>h) (fun f=>by simp[eqB]) rfl h1 (fun x c h _=>by obtain⟨⟨s,_,_,h⟩,_⟩:=h;exact⟨_,h⟩)⟩
 |err=>intro h;simp[eqOK]at h
 |ref=>intro h;simp[eqOK]at h
 |sl t _=>intro h;simp[eqOK]at h
 |arr n t _=>intro h;simp[eqOK]at h
 |unit=>intro h;simp[eqOK]at h
 |st t ih=>
  intro he
  obtain⟨_,ih⟩:=ih (by simpa[eqOK]using he)
  have h1: ∀(n d:Nat) (x y:(Ty.st t).den) (c1 c2:List Value) (v1 v2:Value),TyOK P (.st t) n→(eqB P (.st t)).1 n=true→depE (.st t)≤d→DRel w O false (.st t) x c1 []→DRel w O false (.st t) y c2 []→(isRowT (.st t)=true→v1= .agg c1.toArray∧v2= .agg c2.toArray)→(isRowT (.st t)=false→c1=[v1]∧c2=[v2])→
    (Op.equalIn d n v1 v2).run P w= .ok (eqD (.st t) x y) w:=by
   rintro n d x y c1 c2 v1 v2 ⟨fs,hi,hf⟩ hb hd h1 h2 hv _
   obtain⟨rfl,rfl⟩:=hv rfl
   simp only[eqB,hi.und,Bool.and_eq_true,Bool.not_eq_true']at hb
   obtain⟨d,rfl⟩: ∃d',d=d'+1:=⟨d-1,by simp only[depE]at hd;omega⟩
   have hfo:P.fieldsOf n=fs:=by unfold Program.fieldsOf;rw[hi.und]
   rw[run_equalIn_struct w d n _ _ (by rw[hfo];exact hi.und) hb.1,hfo]
   exact ih fs.toList d 0 x y [] [] c1 c2 _ _ hf hb.2 (by simp only[depE]at hd;omega) h1 h2 rfl rfl rfl rfl
  exact⟨h1,one _ _ (fun n=>(eqB P (.st t)).1 n) rfl (fun _ h=>h) (fun _=>rfl) rfl h1 (fun x c h hr=>by simp[isRowT]at hr)⟩
 |pair a b iha ihb=>
  intro he
  simp only[eqOK,Bool.and_eq_true]at he
  obtain⟨iha,_⟩:=iha he.1
  obtain⟨_,ihb⟩:=ihb he.2
  refine⟨fun n d x y c1 c2 v1 v2 ht=>ht.elim,fun fs d off x y p1 p2 c1 c2 xs ys hf hb hd h1 h2 hx hy ho1 ho2=>?_⟩
  obtain⟨f,r,rfl,hoff,ha,hr⟩:=hf
  simp only[eqB,Bool.and_eq_true,bne_iff_ne,ne_eq]at hb
  obtain⟨a1,b1,q1,q1',rfl,e1,h3,h4⟩:=h1
  obtain⟨a2,b2,q2,q2',rfl,e2,h5,h6⟩:=h2
  simp only[List.nil_eq,List.append_eq_nil_iff]at e1 e2
  obtain⟨rfl,rfl⟩:=e1
  obtain⟨rfl,rfl⟩:=e2
  have la:=DRel.length _ _ _ _ h3
  have lb:=DRel.length _ _ _ _ h5
  have hv: ∃v1 v2,(isRowT a=true→v1= .agg a1.toArray∧v2= .agg a2.toArray)∧(isRowT a=false→a1=[v1]∧a2=[v2]):=by
   cases hb:isRowT a
   ·have:a.sz=1:=by cases a<;>first|rfl|(simp[isRowT]at hb;done)|exact(show False from ha).elim
    rw[this]at la lb
    obtain⟨v1,e1⟩:=List.length_eq_one_iff.1 la
    obtain⟨v2,e2⟩:=List.length_eq_one_iff.1 lb
    exact⟨v1,v2,fun h=>by simp at h,fun _=>⟨e1,e2⟩⟩
   ·exact⟨_,_,fun _=>⟨rfl,rfl⟩,fun h=>by simp at h⟩
  obtain⟨v1,v2,hv1,hv2⟩:=hv
  have hm:depE a≤d∧depE b≤d:=by simp only[depE]at hd;omega
  have r1:=run_part_nil (w:=w) (c1:=p1) (c3:=b1) ha la (fun h=>(hv1 h).1) (fun h=>(hv2 h).1) (xs:=xs) (by rw[hx];simp) (ho1.trans hoff.symm)
  have r2:=run_part_nil (w:=w) (c1:=p2) (c3:=b2) ha lb (fun h=>(hv1 h).2) (fun h=>(hv2 h).2) (xs:=ys) (by rw[hy];simp) (ho2.trans hoff.symm)
  have r3:=iha f.type d x.1 y.1 a1 a2 v1 v2 ha hb.1.2 hm.1 h3 h5 hv1 hv2
  have r4:=ihb r d (off+a.sz) x.2 y.2 (p1++a1) (p2++a2) b1 b2 xs ys hr hb.2 hm.2 h4 h6 (by rw[hx];simp) (by rw[hy];simp) (by simp[la,ho1]) (by simp[lb,ho2])
  simp only[Op.eqFields,if_pos hb.1.1,Sem.run_bind,r1,r2,r3,Result.andThen_ok,eqD_pair he.2]
  cases eqD a x.1 y.1
  ·simp
  ·simp[r4]
end
section
variable {γ:Nat→G} {B:Nat→List Nat} {w:World} {lk lkS:Look} {P:Program} {e:Env} {ty:TypeId}
theorem agEq_sound(hE:EnvOK P e)(hM:Mem γ B w lk)(hS:Sub lkS lk){op:BinOp}{x y:Operand}{ps qs:List PV}{va vb:Value}{p:PV}(h:(agEq lkS (e.eqs.contains ty) (tyOf e ty) op ps qs).run=some p)
  (ha:VRel γ (Dom lk) w (Owned B lk) (.ag ps) va) (hb:VRel γ (Dom lk) w (Owned B lk) (.ag qs) vb): ∃v,(do eqGuard op ty x y va vb;binOp op ty va vb:Sem Value).run P w= .ok v w∧VRel γ (Dom lk) w (Owned B lk) p v:=by
 unfold agEq at h
 split at h
 ·rename_i u ht
  simp only[Out.need_some,Bool.and_eq_true,Out.bind_some]at h
  obtain⟨⟨hq,hu⟩,⟨x',l⟩,h1,⟨y',l'⟩,h2,h⟩:=h
  split at h
  ·rename_i hl hl'
   subst hl hl'
   obtain⟨fs,hi,hf⟩:=(hE.ty _ _ ht: ∃fs,Inf P (.st u) ty (.struct fs)∧(TyR P u).2 fs.toList 0)
   obtain⟨hg,he⟩:=hE.eq ty (.st u) hq ht
   simp only[VRel,VRel0]at ha hb
   obtain⟨c1,rfl,ha⟩:=ha
   obtain⟨c2,rfl,hb⟩:=hb
   obtain⟨d1,d1',_,e1,h3,h4,_,_⟩:=hM.toL hS (O':=fun _=>False) u ps c1 x' [] h1 ha ⟨fun _ h=>h.elim,fun _ _ _ _ h=>h.elim⟩
   obtain⟨d2,d2',_,e2,h5,h6,_,_⟩:=hM.toL hS (O':=fun _=>False) u qs c2 y' [] h2 hb ⟨fun _ h=>h.elim,fun _ _ _ _ h=>h.elim⟩
   simp only[LL]at h4 h6
   subst h4 h6
   simp only[List.append_nil]at e1 e2
   subst e1 e2
   have key:(Op.equalIn 10000 ty (.agg c1.toArray) (.agg c2.toArray)).run P w= .ok (eqD u x' y') w:=
    (equalIn_sound (P:=P) (w:=w) (O:=fun _=>False) (.st u) (by simpa[eqOK]using hu)).1 ty 10000 x' y' c1 c2 _ _ ⟨fs,hi,hf⟩ he.1 he.2 h3 h5 (fun _=>⟨rfl,rfl⟩) (fun h=>by simp[isRowT]at h)
   cases op<;>simp only[eqS,Out.ret_some,Out.fail_some]at h
   ·subst h
    refine⟨.bool (eqD u x' y'),?_,vrel_bool.2 rfl⟩
    simp only[Sem.run_bind,run_eqGuard_agg w _ ty x y _ _ hg,Result.andThen_ok,run_eql_struct,key]
   ·subst h
    refine⟨.bool (!eqD u x' y'),?_,vrel_bool.2 rfl⟩
    simp only[Sem.run_bind,run_eqGuard_agg w _ ty x y _ _ hg,Result.andThen_ok,run_neq_struct,key]
  ·simp[Out.run]at h
 ·simp[Out.run]at h
theorem nilCmp_sound{D:Nat→Nat}{W:Nat→Nat→Prop}(hE:EnvOK P e){op:BinOp}{x y:Operand}{a:PV}{va:Value}{p:PV}(h:(nilCmp op (tyOf e ty) a).run=some p)
  (ha:VRel γ D w W a va): ∃v,(do eqGuard op ty x y va (.slice none 0 0);binOp op ty va (.slice none 0 0):Sem Value).run P w= .ok v w∧VRel γ D w W p v:=by
 have key: ∀(u:Ty) (A:Option Addr) (n c:Nat),tyOf e ty=some (.sl u)→(Op.equal ty (.slice A n c) (.slice none 0 0)).run P w= .ok A.isNone w:=by
  intro u A n c ht
  obtain⟨el,hi,_⟩:=(hE.ty _ _ ht: ∃el,Inf P (.sl u) ty (.slice el)∧TyOK P u el)
  exact run_equal_slice_nil w ty el A n c hi.und
 unfold nilCmp at h
 split at h
 ·rename_i u u' ht
  simp only[VRel,VRel0,LRel,List.cons.injEq,and_true]at ha
  subst ha
  have k:=key u none 0 0 ht
  cases op<;>simp only[eqS,Out.ret_some,Out.fail_some]at h
  ·subst h;exact⟨_,by simp[eqGuard,binOp,k],vrel_bool.2 rfl⟩
  ·subst h;exact⟨_,by simp[eqGuard,binOp,k],vrel_bool.2 rfl⟩
 ·rename_i u u' xs ht
  simp only[Out.br_some,Out.fail_some,and_false,false_or]at h
  obtain⟨hx,h⟩:=h
  simp only[VRel,VRel0,LRel]at ha
  obtain⟨_,v,hv,⟨A,cap,e1,_,hb⟩,_⟩:=ha
  simp only[List.cons.injEq,and_true]at hv
  subst hv e1
  obtain⟨a0,_,rfl,_⟩:=hb (by cases xs<;>simp at hx⊢)
  have k:=key u (some a0) xs.length cap ht
  cases op<;>simp only[eqS,Out.ret_some,Out.fail_some]at h
  ·subst h;exact⟨_,by simp[eqGuard,binOp,k],vrel_bool.2 rfl⟩
  ·subst h;exact⟨_,by simp[eqGuard,binOp,k],vrel_bool.2 rfl⟩
 ·simp[Out.run]at h
end
end Go.Vm
namespace Go.Vm
open Go
structure Post(γ:Nat→G)(B:Nat→List Nat)(w:World)(lk:Look)(up:Ups)(p:PV)(γ':Nat→G)(B':Nat→List Nat)(w':World)(v:Value):Prop where
 mem:Mem γ' B' w' (updF lk up)
 kp:Kp γ (Dom lk) w (Owned B lk) γ' (Dom (updF lk up)) w' (Owned B' (updF lk up)) (fun r=>r∈up.map (·.1))
 val:VRel γ' (Dom (updF lk up)) w' (Owned B' (updF lk up)) p v
section
variable {γ:Nat→G} {B:Nat→List Nat} {w:World} {lk lkS:Look} {P:Program} {e:Env} {ty:TypeId}
theorem Post.pure(hM:Mem γ B w lk){p:PV}{v:Value}(hv:VRel γ (Dom lk) w (Owned B lk) p v):Post γ B w lk [] p γ B w v:=
 ⟨hM,Kp.refl _ _ _ _ _,hv⟩
structure More(w w':World)(o:Obj):Prop where
 heap:w'.heap=w.heap.push o
 os:w'.os=w.os
 output:w'.output=w.output
 tape:w'.tape=w.tape
theorem More.alloc(w:World)(o:Obj):More w (w.alloc o) o:=⟨rfl,rfl,rfl,rfl⟩
theorem More.drew(w:World)(o:Obj):More w (w.drew.alloc o) o:=⟨rfl,rfl,rfl,rfl⟩
theorem More.size{w w':World}{o:Obj}(h:More w w' o):w'.heap.size=w.heap.size+1:=by rw[h.heap];simp
theorem More.old{w w':World}{o:Obj}(h:More w w' o){k:Nat}(hk:k<w.heap.size):w'.heap[k]?=w.heap[k]?:=by
 rw[h.heap,Array.getElem?_push];rw[if_neg (by omega)]
theorem More.cell{w w':World}{C:Array Value}{t:TypeId}{fr:Nat×Nat}(h:More w w' (.cells C t fr))(j:Nat):w'.cell? ⟨w.heap.size,j,none⟩=C[j]?:=by
 have:w'.heap[w.heap.size]?=some (.cells C t fr):=by rw[h.heap];simp
 unfold World.cell?
 rw[this];simp
theorem More.frozen{w w':World}{C:Array Value}{t:TypeId}{lo hi:Nat}(h:More w w' (.cells C t (lo,hi)))(j:Nat):w'.frozen? ⟨w.heap.size,j,none⟩=(decide (lo≤j)&&decide (j<hi)):=by
 have:w'.heap[w.heap.size]?=some (.cells C t (lo,hi)):=by rw[h.heap];simp
 unfold World.frozen?
 rw[this]
theorem Mem.addBox(hM:Mem γ B w lk){id:Nat}(hid:lk id=none){w':World}{C:Array Value}{t:TypeId}(hw:More w w' (.cells C t)){ps:List PV}(hl:LL γ (Dom lk) w (Owned B lk) ps C.toList)(hn:nstFree ps=true):
  ∃γ' B',Post γ B w lk [(id,some (.box ps))] (.ptr id 0 0 none) γ' B' w' (.pointer (some ⟨w.heap.size,0,none⟩)):=by
 have hsz:C.size=(ps.map szV).sum:=by rw[←hl.length];simp
 have h:=hM.add hid (w':=w') (x:= .box ps) (g:= .box w.heap.size 0 (ps.map szV) (fun j=>(w'.cell? ⟨w.heap.size,j,none⟩,w'.frozen? ⟨w.heap.size,j,none⟩))) (bs:=[w.heap.size])
  (by rw[hw.size];omega) (fun k hk=>hw.old hk) hw.os hw.output hw.tape (by simp) (by simp[hw.size]) (fun n k b o ha=>by obtain⟨_,rfl,_⟩:=at_box ha;rw[hw.size];omega)
  (fun hK=>⟨hn,rfl,rfl,by rw[hw.size];omega,⟨C.toList,hl.step hK _ _ (by rw[nstOfL_free _ hn];simp),fun j v hj=>by rw[hw.cell,Nat.zero_add];simpa using hj⟩,
   fun j hj=>⟨by rw[hw.cell,Nat.zero_add,Array.getElem?_eq_getElem (by omega)];rfl,by rw[hw.frozen];simp⟩,fun j _=>rfl⟩)
 refine⟨_,_,h.1,h.2.weaken fun _ _ h=>h.elim,vrel_ptr.2 ⟨Dom_setF_same,w.heap.size,0,by simp[updN,G.at],rfl⟩⟩
theorem Mem.addRow(hM:Mem γ B w lk){id:Nat}(hid:lk id=none){w':World}{o:Obj}(hw:More w w' o){t:Ty}{xs:List t.den}{m:Own}{v:Value}(hm:m≠ .froz)
  (h:OwnS w' (RowR w' (fun _=>False) m t) t.sz xs v [w.heap.size]) (hv:v.oneCell'=true) (hmf:m.deep=true) (hb:m≠ .bare:=by decide):
  ∃γ' B',Post γ B w lk [(id,some (.row t xs m))] (.rf id) γ' B' w' v:=by
 have h':=hM.add hid (w':=w') (x:= .row t xs m) (g:= .row v t) (bs:=[w.heap.size])
  (by rw[hw.size];omega) (fun k hk=>hw.old hk) hw.os hw.output hw.tape (by simp) (by simp[hw.size]) (fun n k b o ha=>by
   obtain⟨⟨l,c,rfl⟩,_⟩:=at_row ha
   rcases h with⟨_,_,_,h0⟩|⟨g,cap,cells,rest,e,_,_,h3,_⟩
   ·cases h0
   ·cases e;exact h3)
  (fun hK=>RootRel.mkRow hm (by
   rw[RowR.deep hmf]at h⊢
   exact h.step (fun _ _=>rfl) (Nat.le_refl _) (fun x c b _ _ h=>DRel.own (Nat.le_refl _) _ x c b (fun _ _=>rfl) h)))
 refine⟨_,_,h'.1,h'.2.weaken fun _ _ h=>h.elim,?_⟩
 simp only[VRel,VRel0,LRel]
 exact⟨Dom_setF_same,v,t,by simp[updN],rfl,hv⟩
theorem Mem.addBare(hM:Mem γ B w lk){id:Nat}(hid:lk id=none){w':World}{C:Array Value}{ty:TypeId}(hw:More w w' (.cells C ty)){t:Ty}{xs:List t.den}{v:Value}
  (h:OwnS w' (RowR w' (fun _=>False) .full t) t.sz xs v [w.heap.size]) (hv:v.oneCell'=true):
  ∃γ' B',Post γ B w lk [(id,some (.row t xs .bare))] (.rf id) γ' B' w' v:=by
 have h':=hM.add hid (w':=w') (x:= .row t xs .bare) (g:= .row v t) (bs:=[w.heap.size])
  (by rw[hw.size];omega) (fun k hk=>hw.old hk) hw.os hw.output hw.tape (by simp) (by simp[hw.size]) (fun n k b o ha=>by
   obtain⟨⟨l,c,rfl⟩,_⟩:=at_row ha
   rcases h with⟨_,_,_,h0⟩|⟨g,cap,cells,rest,e,_,_,h3,_⟩
   ·cases h0
   ·cases e;exact h3)
  (fun hK=>⟨rfl,by
   rw[RowR.deep rfl]at h
   exact h.step (fun _ _=>rfl) (Nat.le_refl _) (fun x c b _ _ h=>DRel.own (Nat.le_refl _) _ x c b (fun _ _=>rfl) h),fun g hg=>by
   have:=h.head_mem hg
   simp only[List.mem_singleton]at this
   subst this
   exact⟨C,ty,by rw[hw.heap];simp⟩⟩)
 refine⟨_,_,h'.1,h'.2.weaken fun _ _ h=>h.elim,?_⟩
 simp only[VRel,VRel0,LRel]
 exact⟨Dom_setF_same,v,t,by simp[updN],rfl,hv⟩
theorem zero_of{t:Ty}{n:Nat}(h:TyOK P t n)(w:World): ∃z,(zeroValue n).run P w= .ok z w∧ZC t z.cells.toList:=by
 obtain⟨d,⟨_,i,z,h1,h2,h3,h4,h5,_⟩,_⟩:=h.inf
 exact⟨z,by simp[zeroValue,typeInfo,h1,h4],h5⟩
theorem zeroL_nstFree: ∀(t:Ty) (l:List PV),nstFree l=true→nstFree (zeroL t++l)=true
 | .pair a b,l,h=>by
  simp only[zeroL,List.append_assoc]
  exact zeroL_nstFree a _ (zeroL_nstFree b l h)
 | .st t,l,h=>zeroL_nstFree t l h
 | .unit,l,h=>h
 | .int _,l,h| .bool,l,h| .str,l,h| .err,l,h| .ref,l,h| .sl _,l,h| .arr _ _,l,h=>by simpa[zeroL,nstFree,leafOK]using h
theorem alloc_sound(hE:EnvOK P e)(hM:Mem γ B w lk){id:Nat}(hid:lk id=none){t:Ty}(ht:tyOf e ty=some t):
  ∃v w' γ' B',(Instr.alloc ty true (.tuple #[])).run P w= .ok v w'∧Post γ B w lk [(id,some (.box (zeroL t)))] (.ptr id 0 0 none) γ' B' w' v:=by
 obtain⟨z,h1,h2⟩:=zero_of (hE.ty _ _ ht) w
 obtain⟨γ',B',h⟩:=hM.addBox hid (More.alloc w (.cells z.cells ty)) (ps:=zeroL t) (h2.leaves t _) (by simpa using zeroL_nstFree t [] rfl)
 exact⟨_,_,γ',B',by simp[Instr.alloc,h1,newVar,newRow],h⟩
theorem box_sound(hM:Mem γ B w lk){id:Nat}(hid:lk id=none){x:PV}{v:Value}(hx:isTop x=true)(hn:nstFree (unpack x)=true)(hv:VRel γ (Dom lk) w (Owned B lk) x v):
  ∃v' w' γ' B',(Instr.box ty v).run P w= .ok v' w'∧Post γ B w lk [(id,some (.box (unpack x)))] (.ptr id 0 0 none) γ' B' w' v':=by
 obtain⟨γ',B',h⟩:=hM.addBox hid (More.alloc w (.cells v.cells ty)) (ps:=unpack x) (hv.unpack hx).1 hn
 exact⟨_,_,γ',B',by simp[Instr.box,newVar,newRow],h⟩
theorem EL.bytes{O:Nat→Prop}{m:Bool}: ∀{xs:List UInt8} {cs:List Value} {bs:List Nat},EL (DRel w O m (.int .u8)) xs cs bs↔cs=xs.map (fun b=>Value.int .u8 (b.toNat:Int))∧bs=[]
 |[],cs,bs=>by simp[EL]
 |x::xs,cs,bs=>by
  constructor
  ·rintro⟨c,c',b,b',e1,e2,⟨e3,e4⟩,h⟩
   obtain⟨e5,e6⟩:=EL.bytes.1 h
   subst e3 e4 e5 e6
   exact⟨by rw[e1];rfl,by rw[e2];rfl⟩
  ·rintro⟨rfl,rfl⟩
   exact⟨[_],_,[],[],rfl,rfl,⟨rfl,rfl⟩,EL.bytes.2 ⟨rfl,rfl⟩⟩
theorem toBytes_sound(hE:EnvOK P e)(hM:Mem γ B w lk){id:Nat}(hid:lk id=none){src:TypeId}(hs:tyOf e src=some .str)(ht:tyOf e ty=some (.sl (.int .u8))){x:List UInt8}{v:Value}
  (hv:VRel γ (Dom lk) w (Owned B lk) (.sc .str x) v): ∃v' w' γ' B',(convert src ty v).run P w= .ok v' w'∧Post γ B w lk [(id,some (.row (.int .u8) x .full))] (.rf id) γ' B' w' v':=by
 rw[vrel_str]at hv
 obtain⟨s,rfl,hsl,rfl⟩:=hv
 have hu:=(hE.ty _ _ hs:Inf P .str src .string).und
 obtain⟨el,hi,hel⟩:=(hE.ty _ _ ht: ∃el,Inf P (.sl (.int .u8)) ty (.slice el)∧TyOK P (.int .u8) el)
 have hue:=(hel:Inf P (.int .u8) el (.int .u8)).und
 have hr:=run_bytes_of_string (P:=P) w src ty el s hu hi.und hue
 have hsz:s.data.toList.length=s.size:=by rw[Array.length_toList];rfl
 rw[hsz]at hsl
 generalize hcap:grownCap w s.size 0 el=cap at hr
 have hc1:s.size≤cap:=by rw[←hcap];exact grownCap_ge _ _ _ _
 have hc2:cap≤maxLen:=by rw[←hcap];exact grownCap_le_maxLen _ _ _ _ hsl
 have hbs:(bytesRow s cap).size=cap:=by
  have e:s.data.size=s.size:=rfl
  simp only[bytesRow,Array.size_append,Array.size_map,Array.size_replicate,e];omega
 obtain⟨γ',B',h⟩:=hM.addRow hid (More.drew w (.cells (bytesRow s cap) el ((bytesRow s cap).size,(bytesRow s cap).size+1))) (t:= .int .u8) (xs:=s.data.toList) (m:= .full) (v:= .slice (some ⟨w.heap.size,0,none⟩) s.size cap) (by simp)
  (by
   rw[RowR.deep rfl]
   refine .inr ⟨w.heap.size,cap,s.data.toList.map (fun b=>Value.int .u8 (b.toNat:Int)),[],by rw[hsz],by rw[hsz];exact hc1,hc2,by simp,fun j v hj=>?_,fun j hj=>?_,EL.bytes.2 ⟨rfl,rfl⟩,rfl⟩
   ·rw[Nat.zero_add,(More.drew w _).cell]
    have hj':j<s.data.size:=by
     have:=(List.getElem?_eq_some_iff.1 hj).1
     simpa using this
    rw[bytesRow_at s cap j hj']
    simp only[List.getElem?_map,Array.getElem?_toList,Array.getElem?_eq_getElem hj',Option.map_some]at hj
    exact hj
   ·simp only[Ty.sz,Nat.mul_one]at hj
    rw[Nat.zero_add,(More.drew w _).cell,(More.drew w _).frozen,hbs]
    constructor
    ·rw[Array.getElem?_eq_getElem (by omega)];rfl
    ·simp;omega) rfl rfl
 exact⟨_,_,γ',B',hr,h⟩
end
end Go.Vm
namespace Go.Vm
open Go
section
variable {γ:Nat→G} {B:Nat→List Nat} {w:World} {lk lkS:Look} {P:Program} {e:Env} {ty:TypeId}
theorem heap_setCell(w:World)(a:Addr)(v:Value){k:Nat}(h:k≠a.block):(w.setCell a v).heap[k]?=w.heap[k]?:=by
 unfold World.setCell
 simp only[Array.getElem?_modify]
 rw[if_neg (fun e=>h e.symm)]
theorem heap_setCells: ∀(vs:List Value) (w:World) (b o:Nat) {k:Nat},k≠b→(w.setCells b o vs).heap[k]?=w.heap[k]?
 |[],_,_,_,_,_=>rfl
 |v::r,w,b,o,k,h=>by rw[World.setCells,heap_setCells r _ b (o+1) h,heap_setCell _ _ _ h]
theorem size_setCells: ∀(vs:List Value) (w:World) (b o:Nat),(w.setCells b o vs).heap.size=w.heap.size
 |[],_,_,_=>rfl
 |v::r,w,b,o=>by rw[World.setCells,size_setCells r _ b (o+1),World.size_setCell]
theorem os_setCells: ∀(vs:List Value) (w:World) (b o:Nat),(w.setCells b o vs).os=w.os∧(w.setCells b o vs).output=w.output∧(w.setCells b o vs).tape=w.tape
 |[],_,_,_=>⟨rfl,rfl,rfl⟩
 |v::r,w,b,o=>os_setCells r _ b (o+1)
theorem rangeAt_replace{b o:Nat}{a c2 c2' c3:List Value}(h:w.rangeAt b o (a++c2++c3))(hl:c2'.length=c2.length)(ht:w.there b (o+a.length) c2'.length):
  (w.setCells b (o+a.length) c2').rangeAt b o (a++c2'++c3):=fun j v hj=>by
 have h1:=rangeAt_mid (c1:=[]) (c2:=a) (c3:=c2++c3) (by simpa using h)
 have h3:=rangeAt_mid (c1:=a++c2) (c2:=c3) (c3:=[]) (by simpa using h)
 simp only[List.length_nil,Nat.add_zero]at h1
 have k1:=World.rangeAt_setCells_apart h1 b (o+a.length) c2' (by right;left;omega)
 have k2:=World.rangeAt_setCells_same w b (o+a.length) c2' ht
 have k3:=World.rangeAt_setCells_apart h3 b (o+a.length) c2' (by right;right;simp[hl];omega)
 by_cases hj1:j<a.length
 ·rw[List.append_assoc,List.getElem?_append_left hj1]at hj
  exact k1 j v hj
 ·by_cases hj2:j<a.length+c2'.length
  ·rw[List.append_assoc,List.getElem?_append_right (by omega),List.getElem?_append_left (by omega)]at hj
   have:=k2 _ v hj
   rwa [show o+a.length+(j-a.length)=o+j by omega]at this
  ·rw[List.getElem?_append_right (by simp;omega)]at hj
   have:=k3 _ v hj
   rwa [show o+(a++c2).length+(j-(a++c2').length)=o+j by simp;omega]at this
theorem run_storeAt_any{u:Ty}(hu:TyOK P u ty){v:Value}{b o:Nat}(hsz:v.cells.size=u.sz)(ht:w.there b o u.sz)(h1: ∀x∈v.cells.toList,x.oneCell'=true):
  (Instr.storeAt ty (.pointer (some ⟨b,o,none⟩)) v).run P w= .ok () (w.setCells b o v.cells.toList):=by
 have hl:v.cells.toList.length=u.sz:=by simpa using hsz
 have:=run_storeCells_cells (P:=P) b o v.cells.toList 0 w (fun j hj=>by simpa using(ht j (by rw[←hl];simpa using hj)).1) (fun j hj=>by simpa using(ht j (by rw[←hl];simpa using hj)).2) h1
 simp only[Nat.add_zero]at this
 have hs:=size_of hu w
 simp[Instr.storeAt,Instr.sureAddr,storeVar,hs,hsz,this]
theorem there_part{b o n o' n':Nat}(h:w.there b o n)(h1:o≤o')(h2:o'+n'≤o+n):w.there b o' n':=fun j hj=>by
 have:=h (o'+j-o) (by omega)
 rwa [show o+(o'+j-o)=o'+j by omega]at this
theorem nstFree_append{ps qs:List PV}:nstFree (ps++qs)=true↔nstFree ps=true∧nstFree qs=true:=by
 induction ps with
 |nil=>simp[nstFree]
 |cons p ps ih=>cases p<;>simp[nstFree,ih,and_assoc]
theorem updF_one(r:Nat)(x:Root):updF lk [(r,some x)]=setF lk r x:=rfl
theorem Mem.putBox(hM:Mem γ B w lk){r:Nat}{ps:List PV}(hx:lk r=some (.box ps)){k n d:Nat}{ws:List PV}{cs':List Value}
  (hal:((ps.drop k).take n).map szV=ws.map szV) (hn:nstFree ws=true)
  (hrep: ∀c,LL γ (Dom lk) w (Owned B lk) ((ps.drop k).take n) c→ ∃d1 d2 d3,c=d1++d2++d3∧d1.length=d∧d2.length=cs'.length∧LL γ (Dom lk) w (Owned B lk) ws (d1++cs'++d3)) {b o:Nat} (ha:(γ r).at 0 k=some (b,o)):
  w.there b (o+d) cs'.length∧Mem γ B (w.setCells b (o+d) cs') (setF lk r (.box (ps.take k++ws++ps.drop (k+n))))∧
   Kp γ (Dom lk) w (Owned B lk) γ (Dom (setF lk r (.box (ps.take k++ws++ps.drop (k+n))))) (w.setCells b (o+d) cs') (Owned B (setF lk r (.box (ps.take k++ws++ps.drop (k+n))))) (fun s=>s=r):=by
 obtain⟨b',o',out,e1,h0,h1,h2,⟨cs,h3,h4⟩,h5,h6⟩:=(hM.rel r _ hx).box
 rw[e1]at ha
 obtain⟨_,rfl,rfl⟩:=at_box ha
 obtain⟨c1,c2,c3,e2,k1,e3,k2,k3⟩:=h3.split k n
 obtain⟨d1,d2,d3,f1,f2,f3,hl⟩:=hrep c2 k2
 have hpe:ps=ps.take k++((ps.drop k).take n++ps.drop (k+n)):=by rw[←List.drop_drop,List.take_append_drop,List.take_append_drop]
 have hmap:(ps.take k++ws++ps.drop (k+n)).map szV=ps.map szV:=by
  conv=>rhs;rw[hpe]
  simp only[List.map_append,hal,List.append_assoc]
 have hsum:c1.length+(d1.length+cs'.length)≤(ps.map szV).sum:=by
  rw[←h3.length,e2,f1];simp;omega
 have ht:w.there b (o'+c1.length+d) cs'.length:=there_part h5 (by omega) (by omega)
 obtain⟨hos,hou,hta⟩:=os_setCells cs' w b (o'+c1.length+d)
 rw[←e3]
 have h0':nstFree (ps.take k++ws++ps.drop (k+n))=true:=by
  rw[hpe]at h0
  rw[nstFree_append,nstFree_append]at h0
  rw[nstFree_append,nstFree_append]
  exact⟨⟨h0.1,hn⟩,h0.2.2⟩
 have h:=hM.put hx (x':= .box (ps.take k++ws++ps.drop (k+n))) (w':=w.setCells b (o'+c1.length+d) cs') (size_setCells _ _ _ _)
  (fun k hk=>heap_setCells _ _ _ _ (fun e=>by rw[h1]at hk;simp[e]at hk)) hos hou hta (fun hK=>by
   rw[e1,h1]
   refine⟨h0',by rw[hmap],rfl,by rw[size_setCells];exact h2,⟨c1++(d1++cs'++d3)++c3,?_,?_⟩,?_,fun j hj=>?_⟩
   ·refine LL.step hK _ _ (by rw[nstOfL_free _ h0'];simp) ?_
    exact(k1.append hl).append k3
   ·have e:o'+c1.length+d=o'+(c1++d1).length:=by simp[f2];omega
    have h4':w.rangeAt b o' ((c1++d1)++d2++(d3++c3)):=by rw[e2,f1]at h4;simpa using h4
    rw[e]at ht⊢
    have:=rangeAt_replace h4' f3.symm ht
    simpa using this
   ·exact World.there_setCells h5 _ _ _
   ·rw[←h6 j hj,World.frozen?_setCells,World.cell?_setCells_out]
    intro _ _
    rcases hj with hj|hj
    ·left;show j<o'+c1.length+d;omega
    ·right;show o'+c1.length+d+cs'.length≤j;omega)
 exact⟨ht,h⟩
theorem Mem.putElem(hM:Mem γ B w lk){r:Nat}{t:Ty}{xs:List t.den}{m:Own}(hx:lk r=some (.row t xs m))(hm:m≠ .froz){n k:Nat}{x x':t.den}(hn:xs[n]?=some x){b o d:Nat}(ha:(γ r).at n k=some (b,o)){cs':List Value}
  (hrep: ∀c bs,RowR w (AllW (Owned B lk)) m t x c bs→ ∃c1 c2 c3,c=c1++c2++c3∧c1.length=offL t k+d∧c2.length=cs'.length∧RowR w (AllW (Owned B lk)) m t x' (c1++cs'++c3) bs):
  w.there b (o+d) cs'.length∧Mem γ B (w.setCells b (o+d) cs') (setF lk r (.row t (xs.set n x') m.wr))∧
   Kp γ (Dom lk) w (Owned B lk) γ (Dom (setF lk r (.row t (xs.set n x') m.wr))) (w.setCells b (o+d) cs') (Owned B (setF lk r (.row t (xs.set n x') m.wr))) (fun s=>s=r):=by
 obtain⟨g,cap,cells,rest,e,h1,h2,h3,h4,h5,h6,h7⟩:=hM.elem hx hm hn
 rw[e]at ha
 obtain⟨⟨l,c,e1⟩,e2⟩:=at_row ha
 cases e1
 obtain⟨C1,c,C3,b1,b',b3,e3,e4,e5,h8,h9⟩:=EL.get RowR.length h7 hn
 obtain⟨c1,c2,c3,e6,e7,e8,h10⟩:=hrep c b' h8
 have h11:=h9 _ _ _ h10
 have hcl:cells.length=xs.length*t.sz:=EL.length RowR.length h7
 have hlt:C1.length+c1.length+c2.length≤cap*t.sz:=by
  have:cells.length≤cap*t.sz:=by rw[hcl];exact Nat.mul_le_mul_right _ h1
  rw[e3,e6]at this
  simp at this;omega
 have ho:o+d=0+(C1++c1).length:=by simp[e4,e7,e2];omega
 have ht:w.there b (o+d) cs'.length:=there_part h5 (by omega) (by rw[ho,←e8];simp;omega)
 obtain⟨hos,hou,hta⟩:=os_setCells cs' w b (o+d)
 have hnd:=hM.nodup r _ hx
 rw[h6,List.nodup_cons]at hnd
 have h:=hM.put hx (x':= .row t (xs.set n x') m.wr) (w':=w.setCells b (o+d) cs') (size_setCells _ _ _ _)
  (fun k hk=>heap_setCells _ _ _ _ (fun e=>by rw[h6]at hk;simp[e]at hk)) hos hou hta (fun hK=>by
   rw[e]
   refine RootRel.mkWr hm (.inr ⟨b,cap,C1++(c1++cs'++c3)++C3,b1++b'++b3,by simp,by simpa using h1,h2,by rw[size_setCells];exact h3,?_,World.there_setCells h5 _ _ _,?_,by rw[h6,e5]⟩)
   ·have:w.rangeAt b 0 ((C1++c1)++c2++(c3++C3)):=by
     rw[e3,e6]at h4;simpa using h4
    have:=rangeAt_replace this e8.symm (by rw[←ho];exact ht)
    rw[←ho]at this
    simpa using this
   ·refine EL.mono (fun y c b'' hy hb hr=>?_) h11
    cases hd:m.deep
    ·rw[RowR.shal hd]at hr⊢
     exact⟨hr.1,DRel.bor hK.stp _ _ _ _ hr.2⟩
    ·rw[RowR.deep hd]at hr⊢
     refine DRel.own (Nat.le_of_eq (size_setCells _ _ _ _).symm) _ _ _ _ (fun k hk=>heap_setCells _ _ _ _ fun e=>?_) hr
     have:=hb k hk
     rw[←e5,e]at this
     exact hnd.1 this)
 exact⟨ht,h⟩
theorem drop_take_one{α:Type}{xs:List α}{k:Nat}{a:α}(h:xs[k]?=some a):(xs.drop k).take 1=[a]:=by
 rw[List.take_one,List.head?_drop,h];rfl
theorem take_set_drop{α:Type}{xs:List α}{k:Nat}{a b:α}(h:xs[k]?=some a):xs.take k++[b]++xs.drop (k+1)=xs.set k b:=by
 have hk:=(List.getElem?_eq_some_iff.1 h).1
 rw[List.set_eq_take_append_cons_drop,if_pos hk];simp
theorem kp_bad{γ':Nat→G}{D D':Nat→Nat}{w':World}{W W':Nat→Nat→Prop}{r:Nat}{l:List Nat}(hr:r∈l)(h:Kp γ D w W γ' D' w' W' (fun s=>s=r)):Kp γ D w W γ' D' w' W' (fun s=>s∈l):=
 h.weaken fun s _ e=>by rw[e];exact hr
theorem flat_rowR{O O':Nat→Prop}{m:Own}{t:Ty}(hf:t.flat=true){x:t.den}{c:List Value}(h:DRel w O' false t x c []):RowR w O m t x c []:=by
 cases hm:m.deep
 ·rw[RowR.shal hm];exact⟨rfl,(DRel.flat _ _ _ _ hf h).2⟩
 ·rw[RowR.deep hm];exact(DRel.flat _ _ _ _ hf h).2
theorem RowR.setD{O:Nat→Prop}{m:Own}{t u:Ty}(hf:u.flat=true){x x':t.den}{k:Nat}{y0 y:u.den}(hs:(subD u t x k).run=some y0)(hset:(setD u y t x k).run=some x'){O':Nat→Prop}{cs':List Value}(hy:DRel w O' false u y cs' [])
  {c:List Value} {bs:List Nat} (h:RowR w O m t x c bs): ∃c1 c2 c3,c=c1++c2++c3∧c1.length=offL t k+0∧c2.length=cs'.length∧RowR w O m t x' (c1++cs'++c3) bs:=by
 cases hm:m.deep
 ·rw[RowR.shal hm]at h⊢
  obtain⟨_,_,c1,c2,c3,b1,b2,b3,e1,e2,e3,h1,h2⟩:=subD_rel t x k y0 c [] hs h.2
  obtain⟨rfl,rfl,rfl⟩:b1=[]∧b2=[]∧b3=[]:=by simpa using e2.symm
  exact⟨c1,c2,c3,e1,e3,by rw[DRel.length _ _ _ _ h1,DRel.length _ _ _ _ hy],h.1,h2 y cs' [] x' (DRel.flat _ _ _ _ hf hy).2 hset⟩
 ·rw[RowR.deep hm]at h⊢
  obtain⟨_,_,c1,c2,c3,b1,b2,b3,e1,e2,e3,h1,h2⟩:=subD_rel t x k y0 c bs hs h
  obtain⟨rfl,_⟩:=DRel.flat (w':=w) (O':=O) (m':=true) _ _ _ _ hf h1
  exact⟨c1,c2,c3,e1,e3,by rw[DRel.length _ _ _ _ h1,DRel.length _ _ _ _ hy],by rw[e2];exact h2 y cs' [] x' (DRel.flat _ _ _ _ hf hy).2 hset⟩
end
end Go.Vm
namespace Go.Vm
open Go
theorem setD_sub{u:Ty}{y:u.den}: ∀(t:Ty) (x:t.den) (k:Nat) (x':t.den),(setD u y t x k).run=some x'→ ∃y0,(subD u t x k).run=some y0
 | .pair a b,x,k,x',h=>by
  simp only[setD,Out.cond_some,Out.bind_some,Out.ret_some]at h
  rcases h with⟨hk,z,h,_⟩|⟨hk,z,h,_⟩
  ·obtain⟨y0,h0⟩:=setD_sub a x.1 k z h
   exact⟨y0,by simp only[subD,hk,cond_true,h0]⟩
  ·obtain⟨y0,h0⟩:=setD_sub b x.2 _ z h
   exact⟨y0,by simp only[subD,hk,cond_false,h0]⟩
 | .st t,x,k,x',h=>by
  simp only[setD,Out.cond_some]at h
  rcases h with⟨hk,h⟩|⟨hk,h⟩
  ·obtain⟨e,_⟩:=castD_some.1 h
   subst e
   exact⟨x,by simp only[subD,hk,cond_true];exact castD_some.2 ⟨rfl,rfl⟩⟩
  ·obtain⟨y0,h0⟩:=setD_sub t x k x' h
   exact⟨y0,by simp only[subD,hk,cond_false,h0]⟩
 | .unit,_,_,_,h=>by simp[setD,Out.run]at h
 | .int j,x,k,x',h=>by
  simp only[setD,Out.cond_some,Out.fail_some,and_false,or_false]at h
  obtain⟨e,_⟩:=castD_some.1 h.2
  subst e
  exact⟨x,by simp only[subD,h.1,cond_true];exact castD_some.2 ⟨rfl,rfl⟩⟩
 | .bool,x,k,x',h=>by
  simp only[setD,Out.cond_some,Out.fail_some,and_false,or_false]at h
  obtain⟨e,_⟩:=castD_some.1 h.2
  subst e
  exact⟨x,by simp only[subD,h.1,cond_true];exact castD_some.2 ⟨rfl,rfl⟩⟩
 | .str,x,k,x',h=>by
  simp only[setD,Out.cond_some,Out.fail_some,and_false,or_false]at h
  obtain⟨e,_⟩:=castD_some.1 h.2
  subst e
  exact⟨x,by simp only[subD,h.1,cond_true];exact castD_some.2 ⟨rfl,rfl⟩⟩
 | .err,x,k,x',h=>by
  simp only[setD,Out.cond_some,Out.fail_some,and_false,or_false]at h
  obtain⟨e,_⟩:=castD_some.1 h.2
  subst e
  exact⟨x,by simp only[subD,h.1,cond_true];exact castD_some.2 ⟨rfl,rfl⟩⟩
 | .ref,x,k,x',h=>by
  simp only[setD,Out.cond_some,Out.fail_some,and_false,or_false]at h
  obtain⟨e,_⟩:=castD_some.1 h.2
  subst e
  exact⟨x,by simp only[subD,h.1,cond_true];exact castD_some.2 ⟨rfl,rfl⟩⟩
 | .sl t,x,k,x',h=>by
  simp only[setD,Out.cond_some,Out.fail_some,and_false,or_false]at h
  obtain⟨e,_⟩:=castD_some.1 h.2
  subst e
  exact⟨x,by simp only[subD,h.1,cond_true];exact castD_some.2 ⟨rfl,rfl⟩⟩
 | .arr n t,x,k,x',h=>by
  simp only[setD,Out.cond_some,Out.fail_some,and_false,or_false]at h
  obtain⟨e,_⟩:=castD_some.1 h.2
  subst e
  exact⟨x,by simp only[subD,h.1,cond_true];exact castD_some.2 ⟨rfl,rfl⟩⟩
theorem arr_set{w:World}{O O':Nat→Prop}{m:Bool}{N:Nat}{u:Ty}(hz:u.sz=1)(hf:u.flat=true){ys:List u.den}{j:Nat}{y0 y:u.den}(hj:ys[j]?=some y0){c:List Value}{bs:List Nat}(h:DRel w O m (.arr N u) ys c bs)
  {cs':List Value} (hy:DRel w O' false u y cs' []): ∃d1 d2 d3,c=d1++d2++d3∧d1.length=j∧d2.length=cs'.length∧DRel w O m (.arr N u) (ys.set j y) (d1++cs'++d3) bs:=by
 obtain⟨hl,h⟩:=h
 obtain⟨c1,c',c3,b1,b',b3,e1,e2,e3,h1,h2⟩:=EL.get (fun x c b h=>DRel.length _ _ _ _ h) h hj
 obtain⟨rfl,_⟩:=DRel.flat (w':=w) (O':=O) (m':=true) _ _ _ _ hf h1
 refine⟨c1,c',c3,e1,by rw[e2,hz,Nat.mul_one],by rw[DRel.length _ _ _ _ h1,DRel.length _ _ _ _ hy],?_,?_⟩
 ·rw[List.length_set];exact hl
 ·rw[e3];exact h2 _ _ _ (DRel.flat _ _ _ _ hf hy).2
theorem RowR.setArr{w:World}{O O':Nat→Prop}{m:Own}{t u:Ty}(hz:u.sz=1)(hf:u.flat=true){x x':t.den}{k j:Nat}{ys:List u.den}{y0 y:u.den}(hs:(listD false t x k).run=some ⟨u,ys⟩)(hj:ys[j]?=some y0)
  (hset:(setListD false u (ys.set j y) t x k).run=some x') {cs':List Value} (hy:DRel w O' false u y cs' [])
  {c:List Value} {bs:List Nat} (h:RowR w O m t x c bs): ∃c1 c2 c3,c=c1++c2++c3∧c1.length=offL t k+j∧c2.length=cs'.length∧RowR w O m t x' (c1++cs'++c3) bs:=by
 have key: ∀{mm:Bool} {bs':List Nat},DRel w O mm t x c bs'→ ∃c1 c2 c3,c=c1++c2++c3∧c1.length=offL t k+j∧c2.length=cs'.length∧DRel w O mm t x' (c1++cs'++c3) bs':=fun h=>by
  obtain⟨c1,c2,c3,b1,b2,b3,e1,e2,e3,_,_,N,_,h1,h2⟩:=listD_rel t x k ys c _ hs h
  obtain⟨d1,d2,d3,e4,e5,e6,h3⟩:=arr_set hz hf hj h1 hy
  refine⟨c1++d1,d2,d3++c3,by rw[e1,e4];simp,by rw[List.length_append,e3,e5],e6,?_⟩
  have:=h2 _ _ _ _ h3 hset
  rw[e2];simpa using this
 cases hm:m.deep
 ·rw[RowR.shal hm]at h⊢
  obtain⟨c1,c2,c3,e1,e2,e3,h1⟩:=key h.2
  exact⟨c1,c2,c3,e1,e2,e3,h.1,h1⟩
 ·rw[RowR.deep hm]at h⊢
  exact key h
section
variable {γ:Nat→G} {B:Nat→List Nat} {w:World} {lk lkS:Look} {P:Program} {e:Env} {ty:TypeId}
theorem vundef{D:Nat→Nat}{W:Nat→Nat→Prop}{v:Value}:VRel γ D w W .undef v:=by simp[VRel,VRel0]
theorem setAt_plain(hE:EnvOK P e)(hM:Mem γ B w lk)(hS:Sub lkS lk){u:Ty}(ht:tyOf e ty=some u){x:PV}{r n k:Nat}{j:Option Nat}{up:Ups}(h:(setAt lkS u x r n k j).run=some up){v va:Value}
  (hv:VRel γ (Dom lk) w (Owned B lk) x v) (hva:VRel γ (Dom lk) w (Owned B lk) (.ptr r n k j) va) (hfl:u.flat=true∨j≠none∨ ∃ps,lkS r=some (.box ps)):
  ∃w' γ' B',(Instr.storeAt ty va v).run P w= .ok () w'∧Post γ B w lk up .undef γ' B' w' undef:=by
 obtain⟨hd,b,o,ha,rfl⟩:=vrel_ptr.1 hva
 have hty:=hE.ty _ _ ht
 unfold Vm.setAt at h
 split at h
 ·rename_i ps hx
  have hx':=hS _ _ hx
  split at h
  ·
   simp only[Out.need_some,Out.bind_some,Out.ret_some,Bool.and_eq_true]at h
   obtain⟨⟨htop,hal⟩,ps',hsb,rfl⟩:=h
   simp only[setBox,Out.need_some,Out.ret_some,Bool.and_eq_true,decide_eq_true_eq]at hsb
   obtain⟨⟨⟨hk,hal2⟩,hn⟩,rfl⟩:=hsb
   have hl:=(hv.unpack htop).1
   have hlen:v.cells.toList.length=u.sz:=by rw[hl.length,←alikeL_sz hal,zeroL_sz,szT_sum]
   obtain⟨h1,h2,h3⟩:=hM.putBox hx' (n:=(unpack x).length) (d:=0) (ws:=unpack x) (cs':=v.cells.toList) (alikeL_sz hal2) hn
    (fun c hc=>⟨[],c,[],by simp,rfl,by rw[hc.length,hl.length,alikeL_sz hal2],by simpa using hl⟩) ha
   refine⟨_,γ,B,run_storeAt_any hty (by simpa using hlen) (by rw[←hlen];simpa using h1) hl.oneCell,⟨h2,kp_bad (by simp) h3,vundef⟩⟩
  ·
   rename_i j
   split at h
   ·rename_i m t xs heq
    simp only[Out.need_some,Out.bind_some,Out.nth_some,Out.ret_some,Bool.and_eq_true,beq_iff_eq]at h
    obtain⟨⟨rfl,⟨hlf,hff⟩,hz⟩,y0,hy0,y,hy,rfl⟩:=h
    obtain⟨hd1,htop⟩:=hM.toD hS hy hv (noneFree B lk _)
    have hlen:v.cells.toList.length=t.sz:=DRel.length _ _ _ _ hd1
    obtain⟨h1,h2,h3⟩:=hM.putBox hx' (k:=k) (n:=1) (d:=j) (ws:=[.sc (.arr m t) (xs.set j y)]) (cs':=v.cells.toList) (by rw[drop_take_one heq];rfl) rfl
     (fun c hc=>by
      rw[drop_take_one heq,LL.single,LRel]at hc
      obtain⟨d1,d2,d3,e1,e2,e3,h1⟩:=arr_set hz hff hy0 hc.2 hd1
      exact⟨d1,d2,d3,e1,e2,e3,LL.single.2 (by simp only[LRel];exact⟨rfl,h1⟩)⟩) ha
    rw[take_set_drop heq]at h2 h3
    refine⟨_,γ,B,run_storeAt_any hty (by simpa using hlen) (by rw[←hlen];exact h1) (DRel.one _ _ _ _ hd1),⟨h2,kp_bad (by simp) h3,vundef⟩⟩
   ·simp[Out.run]at h
  ·simp[Out.run]at h
 ·rename_i t xs m hx
  have hx':=hS _ _ hx
  simp only[Out.need_some,Out.bind_some,Out.nth_some,Bool.not_eq_true',decide_eq_false_iff_not]at h
  obtain⟨hm,x0,hn,h⟩:=h
  split at h
  ·simp only[Out.bind_some]at h
   obtain⟨y,hy,x1,hset,h⟩:=h
   have hff:u.flat=true:=by
    rcases hfl with h|h|⟨ps,h⟩
    ·exact h
    ·exact absurd rfl h
    ·rw[hx]at h;cases h
   rw[hff]at h
   simp only[cond_true,Out.ret_some]at h
   subst h
   obtain⟨hd1,htop⟩:=hM.toD hS hy hv (noneFree B lk _)
   have hlen:v.cells.toList.length=u.sz:=DRel.length _ _ _ _ hd1
   obtain⟨y0,hs⟩:=setD_sub t x0 k x1 hset
   obtain⟨h1,h2,h3⟩:=hM.putElem hx' hm (x':=x1) (d:=0) (cs':=v.cells.toList) hn ha (fun c bs hr=>RowR.setD hff hs hset hd1 hr)
   exact⟨_,γ,B,run_storeAt_any hty (by simpa using hlen) (by rw[←hlen];simpa using h1) (DRel.one _ _ _ _ hd1),⟨h2,kp_bad (by simp) h3,vundef⟩⟩
  ·rename_i j
   simp only[Out.bind_some,Out.need_some,Out.nth_some,Out.ret_some,Bool.and_eq_true,beq_iff_eq]at h
   obtain⟨⟨t',ys⟩,hl,⟨rfl,⟨hlf,hff⟩,hz⟩,y0,hy0,y,hy,x1,hset,rfl⟩:=h
   dsimp only at*
   obtain⟨hd1,htop⟩:=hM.toD hS hy hv (noneFree B lk _)
   have hlen:v.cells.toList.length=t'.sz:=DRel.length _ _ _ _ hd1
   obtain⟨h1,h2,h3⟩:=hM.putElem hx' hm (x':=x1) (d:=j) (cs':=v.cells.toList) hn ha (fun c bs hr=>RowR.setArr hz hff hl hy0 hset hd1 hr)
   exact⟨_,γ,B,run_storeAt_any hty (by simpa using hlen) (by rw[←hlen];simpa using h1) (DRel.one _ _ _ _ hd1),⟨h2,kp_bad (by simp) h3,vundef⟩⟩
 ·simp[Out.run]at h
end
end Go.Vm
namespace Go.Vm
open Go
section
variable {γ:Nat→G} {w:World} {P:Program} {e:Env} {ty:TypeId}
theorem Mem.freezeL{lkS:Look}: ∀{l:List Nat} {B:Nat→List Nat} {lk:Look} {up:Ups},Mem γ B w lk→(∀r t xs m,lkS r=some (.row t xs m)→ ∃m',lk r=some (.row t xs m'))→(freeze lkS l).run=some up→
  ∃B',Mem γ B' w (updF lk up)∧Kp γ (Dom lk) w (Owned B lk) γ (Dom (updF lk up)) w (Owned B' (updF lk up)) (fun s=>s∈up.map (·.1))∧
   (∀k,AllW (Owned B' (updF lk up)) k→AllW (Owned B lk) k∧ ∀r∈l,k∉B r)∧(∀s,s∉l→updF lk up s=lk s∧B' s=B s)∧up.map (·.1)=l
 |[],B,lk,up,hM,hS,h=>by
  simp only[freeze,Out.ret_some]at h
  subst h
  exact⟨B,hM,Kp.refl _ _ _ _ _,fun k hk=>⟨hk,by simp⟩,fun s _=>⟨rfl,rfl⟩,rfl⟩
 |r::l,B,lk,up,hM,hS,h=>by
  unfold freeze at h
  split at h
  ·rename_i t xs m hx
   simp only[Out.bind_some,Out.ret_some]at h
   obtain⟨up',h',rfl⟩:=h
   obtain⟨m',hx'⟩:=hS _ _ _ _ hx
   obtain⟨h1,h2⟩:=hM.froze hx'
   obtain⟨B',k1,k2,k3,k4,k5⟩:=Mem.freezeL (l:=l) (up:=up') h1 (fun s t' xs' m'' hs=>by
    by_cases e:s=r
    ·subst e;rw[hx]at hs;cases hs;exact⟨.froz,by simp[setF]⟩
    ·obtain⟨m3,h3⟩:=hS _ _ _ _ hs;exact⟨m3,by simp[setF,e,h3]⟩) h'
   refine⟨B',k1,(h2.trans k2).weaken ?_,?_,?_,by simp[k5]⟩
   ·rintro s _ (rfl|h)
    ·simp
    ·simp only[List.map_cons,List.mem_cons];exact .inr h
   ·intro k hk
    obtain⟨⟨s,y,h3,h4⟩,h5⟩:=k3 k hk
    have hs:s≠r:=fun e=>by subst e;simp[updN]at h4
    simp only[setF,hs,if_false,updN]at h3 h4
    refine⟨⟨s,y,h3,h4⟩,fun q hq hk'=>?_⟩
    by_cases e:q=r
    ·subst e;exact hs (hM.uniq s q y _ k h3 hx' h4 hk')
    ·have:=h5 q (by simpa[e]using hq)
     simp only[updN,e,if_false]at this
     exact this hk'
   ·intro s hs
    simp only[List.mem_cons,not_or]at hs
    obtain⟨h3,h4⟩:=k4 s hs.2
    exact⟨by simp only[updF,Option.getD_some];rw[h3];simp[setF,hs.1],by rw[h4];simp[updN,hs.1]⟩
  ·simp[Out.run]at h
variable {B:Nat→List Nat} {lk lkS:Look}
theorem nodupB_ok: ∀{l:List Nat},nodupB l=true→l.Nodup
 |[],_=>List.nodup_nil
 |x::l,h=>by
  simp only[nodupB,Bool.and_eq_true,Bool.not_eq_true',List.contains_eq_mem,decide_eq_false_iff_not]at h
  exact List.nodup_cons.2 ⟨h.1,nodupB_ok h.2⟩
theorem Sub.rows(hS:Sub lkS lk): ∀r t xs m,lkS r=some (.row t xs m)→ ∃m',lk r=some (.row t xs m'):=fun r t xs m h=>⟨m,hS _ _ h⟩
theorem Mem.rowLend(hM:Mem γ B w lk){t:Ty}{xs:List t.den}{m:Own}{cells:List Value}{rest:List Nat}{O':Nat→Prop}(ho: ∀k,O' k→AllW (Owned B lk) k)(hr: ∀k∈rest,¬O' k)
  (h:EL (RowR w (AllW (Owned B lk)) m t) xs cells rest):EL (DRel w O' false t) xs cells []:=
 EL.lend (fun x c b hb hx=>hx.lend ho fun k hk=>hr k (hb k hk)) h
theorem Mem.putShal(hM:Mem γ B w lk){r:Nat}{t:Ty}{xs:List t.den}{m:Own}(hx:lk r=some (.row t xs m))(hm:m≠ .froz){n k:Nat}{x x':t.den}(hn:xs[n]?=some x){b o:Nat}(ha:(γ r).at n k=some (b,o)){cs':List Value}{u:Ty}{y:u.den}
  (hset:(setD u y t x k).run=some x') (hy: ∀O':Nat→Prop,(∀k,O' k→AllW (Owned B lk) k)→DRel w O' false u y cs' []):
  ∃B',w.there b o cs'.length∧Mem γ B' (w.setCells b o cs') (setF lk r (.row t (xs.set n x') .shal))∧
   Kp γ (Dom lk) w (Owned B lk) γ (Dom (setF lk r (.row t (xs.set n x') .shal))) (w.setCells b o cs') (Owned B' (setF lk r (.row t (xs.set n x') .shal))) (fun s=>s=r):=by
 obtain⟨g,cap,cells,rest,e,h1,h2,h3,h4,h5,h6,h7⟩:=hM.elem hx hm hn
 rw[e]at ha
 obtain⟨⟨l,c,e1⟩,e2⟩:=at_row ha
 cases e1
 have hcl:cells.length=xs.length*t.sz:=EL.length RowR.length h7
 obtain⟨y0,hs⟩:=setD_sub t x k x' hset
 obtain⟨C1,c,C3,b1,b',b3,e3,e4,e5,h8,_⟩:=EL.get (fun x c b h=>DRel.length _ _ _ _ h) (hM.rowLend (O':=fun _=>False) (fun _ h=>h.elim) (fun _ _ h=>h) h7) hn
 obtain rfl:=DRel.noblocks _ _ _ _ h8
 obtain⟨_,_,c1,c2,c3,_,_,_,e6,_,e7,h9,_⟩:=subD_rel t x k y0 c [] hs h8
 have hl2:cs'.length=c2.length:=by rw[DRel.length _ _ _ _ h9,DRel.length _ _ _ _ (hy (fun _=>False) (fun _ h=>h.elim))]
 have ho:o=0+(C1++c1).length:=by simp[e4,e7,e2]
 have hlt:C1.length+c1.length+c2.length≤cap*t.sz:=by
  have:cells.length≤cap*t.sz:=by rw[hcl];exact Nat.mul_le_mul_right _ h1
  rw[e3,e6]at this
  simp at this;omega
 have ht:w.there b o cs'.length:=there_part h5 (by omega) (by rw[ho,hl2];simp;omega)
 obtain⟨hos,hou,hta⟩:=os_setCells cs' w b o
 have hnd:=hM.nodup r _ hx
 rw[h6,List.nodup_cons]at hnd
 obtain⟨γ',B',rfl,k1,k2,k3⟩:=hM.take [] r (.row t (xs.set n x') .shal) (γ r) [b] (w.setCells b o cs') (by simp) (by simp) (fun _ _=>rfl) (by rw[size_setCells];exact Nat.le_refl _)
  (fun k hk h _=>heap_setCells _ _ _ _ (fun e=>h _ hx (by rw[h6];simp[e]))) hos hou hta (by simp) (fun k hk=>by
   simp only[List.mem_singleton]at hk
   subst hk
   exact⟨by rw[size_setCells];exact h3,fun _=> .inl ⟨_,hx,by rw[h6];simp⟩⟩) (fun n k b' o' ha'=>by
   rw[e]at ha'
   obtain⟨⟨_,_,e1⟩,_⟩:=at_row ha'
   cases e1
   rw[size_setCells];exact h3) (fun γ' B' lk' hγ hlk hB hK hL hr hkeep=>by
   have hO: ∀k,AllW (Owned B' lk') k→AllW (Owned B lk) k:=fun k hk=>by
    by_cases hk':k<w.heap.size
    ·exact Classical.byContradiction fun hno=>hK.stp.ours k hk' hno hk
    ·obtain⟨s,z,hz1,hz2⟩:=hk
     subst hlk hB
     by_cases es:s=r
     ·subst es
      simp only[updN,if_true,List.mem_singleton]at hz2
      subst hz2;exact absurd h3 hk'
     ·simp only[setF,es,if_false,killF,List.not_mem_nil,updN]at hz1 hz2
      exact⟨s,z,hz1,hz2⟩
   have hfree: ∀k∈rest,¬AllW (Owned B' lk') k:=fun k hk=>hr _ hx k (by rw[h6];simp[hk]) (by
    simp only[List.mem_singleton];rintro rfl;exact hnd.1 hk)
   have hlend:=hM.rowLend (O':=AllW (Owned B' lk')) hO hfree h7
   obtain⟨D1,d,D3,f1,f2,f3,g1,g2,g3,h10,h11⟩:=EL.get (fun x c b h=>DRel.length _ _ _ _ h) hlend hn
   obtain⟨rfl,rfl,rfl⟩:f1=[]∧f2=[]∧f3=[]:=by simpa using g3.symm
   obtain⟨_,_,c1',c2',c3',b1',b2',b3',g4,g5,g6,h12,h13⟩:=subD_rel t x k y0 d [] hs h10
   obtain⟨rfl,rfl,rfl⟩:b1'=[]∧b2'=[]∧b3'=[]:=by simpa using g5.symm
   have h14:=h11 x' (c1'++cs'++c3') [] (h13 y cs' [] x' (hy _ hO) hset)
   have ho':o=0+(D1++c1').length:=by simp[g2,g6,e2]
   rw[e]
   refine RootRel.mkRow (by simp) (.inr ⟨b,cap,D1++(c1'++cs'++c3')++D3,[],by simp,by simpa using h1,h2,by rw[size_setCells];exact h3,?_,World.there_setCells h5 _ _ _,?_,rfl⟩)
   ·have:w.rangeAt b 0 ((D1++c1')++c2'++(c3'++D3)):=by
     rw[g1,g4]at h4;simpa using h4
    have hl2':cs'.length=c2'.length:=by rw[hl2,DRel.length _ _ _ _ h12,DRel.length _ _ _ _ h9]
    have:=rangeAt_replace this hl2' (by rw[←ho'];exact ht)
    rw[←ho']at this
    simpa using this
   ·rw[RowR.shal rfl]
    have hst:Stp w (AllW (Owned B' lk')) (w.setCells b o cs') (AllW (Owned B' lk')):=⟨by rw[size_setCells];exact Nat.le_refl _,fun k hk hno=>heap_setCells _ _ _ _ (fun ek=>hno (by
     subst ek hlk hB
     exact⟨r,.row t (xs.set n x') .shal,by simp[setF],by simp[updN]⟩)),fun _ _ h=>h,hos,hou,hta⟩
    refine EL.mono (fun z c b'' _ hb hz=>?_) (show EL (DRel w (AllW (Owned B' lk')) false t) _ _ []from by simpa using h14)
    obtain rfl:=DRel.noblocks _ _ _ _ hz
    exact⟨rfl,DRel.bor hst _ _ _ _ hz⟩)
 have hγ:updN γ r (γ r)=γ:=by
  funext s;unfold updN;split
  ·rename_i h;rw[h]
  ·rfl
 have hk:killF lk []=lk:=by funext s;simp[killF]
 rw[hγ,hk]at k3
 rw[hγ,hk]at k1
 exact⟨B',ht,k1,k3.weaken fun s _ h=>by simpa using h⟩
end
end Go.Vm
namespace Go.Vm
open Go
section
variable {γ:Nat→G} {w:World} {P:Program} {e:Env} {ty:TypeId} {B:Nat→List Nat} {lk lkS:Look}
theorem Mem.nodupL(hM:Mem γ B w lk): ∀{L:List Nat},L.Nodup→(∀l∈L,∃y,lk l=some y)→(L.flatMap B).Nodup
 |[],_,_=>List.nodup_nil
 |l::L,hn,hL=>by
  rw[List.nodup_cons]at hn
  obtain⟨y,hy⟩:=hL l (by simp)
  rw[List.flatMap_cons,List.nodup_append]
  refine⟨hM.nodup l y hy,hM.nodupL hn.2 (fun q hq=>hL q (by simp[hq])),fun a ha b hb hab=>?_⟩
  subst hab
  obtain⟨q,hq,hb'⟩:=List.mem_flatMap.1 hb
  obtain⟨z,hz⟩:=hL q (by simp[hq])
  exact hn.1 ((hM.uniq l q y z a hy hz ha hb')▸hq)
theorem Mem.apart(hM:Mem γ B w lk){L:List Nat}{r:Nat}(hrL:r∉L)(hL: ∀l∈L,∃y,lk l=some y){y:Root}(hx:lk r=some y){k:Nat}(hk:k∈B r):k∉L.flatMap B:=fun h=>by
 obtain⟨q,hq,hb⟩:=List.mem_flatMap.1 h
 obtain⟨z,hz⟩:=hL q hq
 exact hrL ((hM.uniq r q y z k hx hz hk hb)▸hq)
theorem Mem.putOwn(hM:Mem γ B w lk){r:Nat}{t:Ty}{xs:List t.den}{m:Own}(hx:lk r=some (.row t xs m))(hm:m≠ .froz){n k:Nat}{x x':t.den}(hn:xs[n]?=some x){b o:Nat}(ha:(γ r).at n k=some (b,o)){cs':List Value}{u:Ty}{y:u.den}
  {L:List Nat} (hrL:r∉L) (hL: ∀l∈L,∃y,lk l=some y) (hLn:L.Nodup) (hset:(setD u y t x k).run=some x') (hy: ∀O':Nat→Prop,DRel w O' true u y cs' (L.flatMap B)):
  ∃B',w.there b o cs'.length∧Mem γ B' (w.setCells b o cs') (setF (killF lk L) r (.row t (xs.set n x') m.wr))∧
   Kp γ (Dom lk) w (Owned B lk) γ (Dom (setF (killF lk L) r (.row t (xs.set n x') m.wr))) (w.setCells b o cs') (Owned B' (setF (killF lk L) r (.row t (xs.set n x') m.wr))) (fun s=>s=r∨s∈L):=by
 obtain⟨g,cap,cells,rest,e,h1,h2,h3,h4,h5,h6,h7⟩:=hM.elem hx hm hn
 rw[e]at ha
 obtain⟨⟨l,c,e1⟩,e2⟩:=at_row ha
 cases e1
 have hcl:cells.length=xs.length*t.sz:=EL.length RowR.length h7
 obtain⟨y0,hs⟩:=setD_sub t x k x' hset
 obtain⟨C1,c,C3,b1,b2,b3,e3,e4,e5,h8,h8'⟩:=EL.get RowR.length h7 hn
 have hclen:c.length=t.sz:=RowR.length _ _ _ h8
 have hdec: ∃c1 c2 c3,c=c1++c2++c3∧c1.length=offL t k∧c2.length=cs'.length:=by
  cases hd:m.deep
  ·rw[RowR.shal hd]at h8
   obtain⟨_,_,c1,c2,c3,_,_,_,e6,_,e7,h9,_⟩:=subD_rel t x k y0 c _ hs h8.2
   exact⟨c1,c2,c3,e6,e7,by rw[DRel.length _ _ _ _ h9,DRel.length _ _ _ _ (hy (fun _=>False))]⟩
  ·rw[RowR.deep hd]at h8
   obtain⟨_,_,c1,c2,c3,_,_,_,e6,_,e7,h9,_⟩:=subD_rel t x k y0 c _ hs h8
   exact⟨c1,c2,c3,e6,e7,by rw[DRel.length _ _ _ _ h9,DRel.length _ _ _ _ (hy (fun _=>False))]⟩
 obtain⟨c1,c2,c3,e6,e7,hl2⟩:=hdec
 have ho:o=0+(C1++c1).length:=by simp[e4,e7,e2]
 have hlt:C1.length+c1.length+c2.length≤cap*t.sz:=by
  have:cells.length≤cap*t.sz:=by rw[hcl];exact Nat.mul_le_mul_right _ h1
  rw[e3,e6]at this
  simp at this;omega
 have ht:w.there b o cs'.length:=there_part h5 (by omega) (by rw[ho,←hl2];simp;omega)
 obtain⟨hos,hou,hta⟩:=os_setCells cs' w b o
 have hnd:=hM.nodup r _ hx
 have hra:w.rangeAt b 0 ((C1++c1)++c2++(c3++C3)):=by rw[e3,e6]at h4;simpa using h4
 have hra':(w.setCells b o cs').rangeAt b 0 (C1++(c1++cs'++c3)++C3):=by
  have:=rangeAt_replace hra hl2.symm (by rw[←ho];exact ht)
  rw[←ho]at this
  simpa using this
 have hap: ∀k∈B r,k∉L.flatMap B:=fun k hk=>hM.apart hrL hL hx hk
 have hbl:b∉rest:=by rw[h6,List.nodup_cons]at hnd;exact hnd.1
 have hnew: ∃bs',bs'.Nodup∧(∀k∈bs',k∈rest∨k∈L.flatMap B)∧(m.deep=true→ ∀w':World,(∀k,k≠b→w'.heap[k]?=w.heap[k]?)→w'.heap.size=w.heap.size→ ∀O',EL (RowR w' O' m t) (xs.set n x') (C1++(c1++cs'++c3)++C3) bs')∧(m.deep=false→bs'=rest):=by
  cases hd:m.deep
  ·refine⟨rest,by rw[h6,List.nodup_cons]at hnd;exact hnd.2,fun k hk=> .inl hk,by simp,fun _=>rfl⟩
  ·rw[RowR.deep hd]at h8 h8'
   obtain⟨_,_,d1,d2,d3,f1,f2,f3,e6',e7',e8',h9,h10⟩:=subD_rel t x k y0 c b2 hs h8
   have hd1:d1=c1∧d2=c2∧d3=c3:=by
    rw[e6]at e6'
    rw[List.append_assoc,List.append_assoc]at e6'
    obtain⟨rfl,e9⟩:=List.append_inj e6' (by rw[e7,e8'])
    obtain⟨rfl,rfl⟩:=List.append_inj e9 (by rw[hl2,DRel.length _ _ _ _ h9,DRel.length _ _ _ _ (hy (fun _=>False))])
    exact⟨rfl,rfl,rfl⟩
   obtain⟨rfl,rfl,rfl⟩:=hd1
   have h11:=h8' x' _ _ (h10 y cs' _ x' (hy _) hset)
   have hrest:rest.Nodup:=by rw[h6,List.nodup_cons]at hnd;exact hnd.2
   have hsub: ∀k,k∈b1++(f1++L.flatMap B++f3)++b3→k∈rest∨k∈L.flatMap B:=fun k hk=>by
    rw[e5,e7']
    simp only[List.mem_append]at hk⊢
    rcases hk with(hk|(hk|hk)|hk)|hk<;>simp[hk]
   refine⟨b1++(f1++L.flatMap B++f3)++b3,?_,hsub,fun _ w' hw' hsz O'=>?_,by simp⟩
   ·rw[e5,e7']at hrest
    have hB:=hM.nodupL hLn hL
    have hap': ∀k∈rest,k∉L.flatMap B:=fun k hk=>hap k (by rw[h6];simp[hk])
    rw[e5,e7']at hap'
    simp only[List.nodup_append,List.mem_append]at hrest⊢
    obtain⟨⟨q1,⟨⟨q2,q3,q4⟩,q5,q6⟩,q7⟩,q8,q9⟩:=hrest
    refine⟨⟨q1,⟨⟨q2,hB,fun a ha b hb hab=>hap' a (by simp[ha]) (hab▸hb)⟩,q5,fun a ha b hb=>?_⟩,fun a ha b hb=>?_⟩,q8,fun a ha b hb=>?_⟩
    ·rcases ha with ha|ha
     ·exact q6 a (.inl ha) b hb
     ·rintro rfl;exact hap' a (by simp[hb]) ha
    ·rcases hb with(hb|hb)|hb
     ·exact q7 a ha b (.inl (.inl hb))
     ·rintro rfl;exact hap' a (by simp[ha]) hb
     ·exact q7 a ha b (.inr hb)
    ·rcases ha with ha|(ha|ha)|ha
     ·exact q9 a (.inl ha) b hb
     ·exact q9 a (.inr (.inl (.inl ha))) b hb
     ·rintro rfl;exact hap' a (by simp[hb]) ha
     ·exact q9 a (.inr (.inr ha)) b hb
   ·rw[RowR.deep hd]
    refine EL.mono (fun z c b'' _ hb hz=>DRel.own (Nat.le_of_eq hsz.symm) _ _ _ _ (fun k hk=>hw' k fun ek=>?_) hz) h11
    subst ek
    rcases hsub k (hb k hk)with h|h
    ·exact hbl h
    ·exact hap k (by rw[h6];simp) h
 obtain⟨bs',hn1,hn2,hn3,hn4⟩:=hnew
 have hltB: ∀k∈L.flatMap B,k<w.heap.size:=fun k hk=>by
  obtain⟨q,hq,hk⟩:=List.mem_flatMap.1 hk
  obtain⟨z,hz⟩:=hL q hq
  exact hM.lt q z hz k hk
 obtain⟨γ',B',rfl,k1,k2,k3⟩:=hM.take L r (.row t (xs.set n x') m.wr) (γ r) (b::bs') (w.setCells b o cs') hrL hL (fun _ _=>rfl) (by rw[size_setCells];exact Nat.le_refl _)
  (fun k hk h _=>heap_setCells _ _ _ _ (fun e=>h _ hx (by rw[h6];simp[e]))) hos hou hta (List.nodup_cons.2 ⟨fun h=>by
   rcases hn2 b h with h|h
   ·exact hbl h
   ·exact hap b (by rw[h6];simp) h,hn1⟩) (fun k hk=>by
   rw[size_setCells]
   rcases List.mem_cons.1 hk with rfl|hk
   ·exact⟨h3,fun _=> .inl ⟨_,hx,by rw[h6];simp⟩⟩
   ·rcases hn2 k hk with h|h
    ·exact⟨hM.lt r _ hx k (by rw[h6];simp[h]),fun _=> .inl ⟨_,hx,by rw[h6];simp[h]⟩⟩
    ·exact⟨hltB k h,fun _=> .inr (by obtain⟨q,hq,h⟩:=List.mem_flatMap.1 h;exact⟨q,hq,h⟩)⟩) (fun n k b' o' ha'=>by
   rw[e]at ha'
   obtain⟨⟨_,_,e1⟩,_⟩:=at_row ha'
   cases e1
   rw[size_setCells];exact h3) (fun γ' B' lk' hγ hlk hB hK hLf hr hkeep=>by
   rw[e]
   refine RootRel.mkWr hm (.inr ⟨b,cap,C1++(c1++cs'++c3)++C3,bs',by simp,by simpa using h1,h2,by rw[size_setCells];exact h3,hra',World.there_setCells h5 _ _ _,?_,rfl⟩)
   cases hd:m.deep
   ·obtain rfl:=hn4 hd
    have hfree: ∀k∈L.flatMap B,¬AllW (Owned B' lk') k:=fun k hk=>by
     obtain⟨q,hq,h⟩:=List.mem_flatMap.1 hk
     refine hLf q hq k h fun hk'=>?_
     rcases List.mem_cons.1 hk' with rfl|hk'
     ·exact hap k (by rw[h6];simp) hk
     ·exact hap k (by rw[h6];simp[hk']) hk
    rw[RowR.shal hd]
    have hEL:EL (fun x c bb=>bb=[]∧DRel (w.setCells b o cs') (AllW (Owned B' lk')) false t x c []) xs cells bs':=by
     rw[RowR.shal hd]at h7
     exact EL.mono (fun z c b'' _ hb hz=>⟨hz.1,DRel.bor hK.stp _ _ _ _ hz.2⟩) h7
    obtain⟨D1,d,D3,f1,f2,f3,g1,g2,g3,h10,h11⟩:=EL.get (fun x c b h=>DRel.length _ _ _ _ h.2) hEL hn
    obtain⟨rfl,rfl,rfl⟩:D1=C1∧d=c∧D3=C3:=by
     rw[e3]at g1
     rw[List.append_assoc,List.append_assoc]at g1
     obtain⟨rfl,e9⟩:=List.append_inj g1 (by rw[e4,g2])
     obtain⟨rfl,rfl⟩:=List.append_inj e9 (by rw[hclen,DRel.length _ _ _ _ h10.2])
     exact⟨rfl,rfl,rfl⟩
    obtain⟨rfl,h10⟩:=h10
    obtain⟨_,_,d1,d2,d3,p1,p2,p3,e6',e7',e8',h9,h12⟩:=subD_rel t x k y0 d _ hs h10
    obtain⟨rfl,rfl,rfl⟩:p1=[]∧p2=[]∧p3=[]:=by simpa using e7'.symm
    obtain⟨rfl,rfl,rfl⟩:d1=c1∧d2=c2∧d3=c3:=by
     rw[e6]at e6'
     rw[List.append_assoc,List.append_assoc]at e6'
     obtain⟨rfl,e9⟩:=List.append_inj e6' (by rw[e7,e8'])
     obtain⟨rfl,rfl⟩:=List.append_inj e9 (by rw[hl2,DRel.length _ _ _ _ h9,DRel.length _ _ _ _ (hy (fun _=>False))])
     exact⟨rfl,rfl,rfl⟩
    have hst:Stp w (AllW (Owned B' lk')) (w.setCells b o cs') (AllW (Owned B' lk')):=⟨by rw[size_setCells];exact Nat.le_refl _,fun k hk hno=>heap_setCells _ _ _ _ (fun ek=>hno (by
     subst ek hlk hB
     exact⟨r,.row t (xs.set n x') m.wr,by simp[setF],by simp[updN]⟩)),fun _ _ h=>h,hos,hou,hta⟩
    have hyl:DRel (w.setCells b o cs') (AllW (Owned B' lk')) false u y cs' []:=DRel.bor hst _ _ _ _ (DRel.lend _ _ _ _ hfree (hy (fun _=>False)))
    have:=h11 x' (d1++cs'++d3) [] ⟨rfl,h12 y cs' [] x' hyl hset⟩
    rw[g3]
    simpa using this
   ·exact hn3 hd _ (fun k hk=>heap_setCells _ _ _ _ hk) (size_setCells _ _ _ _) _)
 have hγ:updN γ r (γ r)=γ:=by
  funext s;unfold updN;split
  ·rename_i h;rw[h]
  ·rfl
 rw[hγ]at k3 k1
 exact⟨B',ht,k1,k3⟩
end
end Go.Vm
namespace Go.Vm
open Go
section
variable {γ:Nat→G} {w:World} {P:Program} {e:Env} {ty:TypeId} {B:Nat→List Nat} {lk lkS:Look}
mutual
theorem ownable_known: ∀(p:PV),ownable lk p=true→ ∀r∈ids p,∃y,lk r=some y
 | .rf r,h,s,hs=>by
  simp only[ids,List.mem_singleton]at hs
  subst hs
  simp only[ownable]at h
  split at h
  ·rename_i hx;exact⟨_,hx⟩
  ·cases h
 | .ag ps,h,s,hs=>ownableL_known ps (by simpa only[ownable]using h) s (by simpa only[ids]using hs)
 | .sc _ _,_,s,hs| .nilS _,_,s,hs=>by simp[ids]at hs
 | .sub _ _ _,h,_,_| .nst _ _ _,h,_,_| .av _ _ _ _ _,h,_,_| .ptr _ _ _ _,h,_,_| .ro _ _,h,_,_| .lent _ _ _,h,_,_| .rod _ _ _,h,_,_| .nilp,h,_,_| .fn _ _,h,_,_| .tup _,h,_,_| .undef,h,_,_=>by simp[ownable]at h
theorem ownableL_known: ∀(ps:List PV),ownableL lk ps=true→ ∀r∈idsL ps,∃y,lk r=some y
 |[],_,s,hs=>by simp[idsL]at hs
 |p::ps,h,s,hs=>by
  simp only[ownableL,Bool.and_eq_true]at h
  simp only[idsL,List.mem_append]at hs
  rcases hs with hs|hs
  ·exact ownable_known p h.1 s hs
  ·exact ownableL_known ps h.2 s hs
end
theorem idsL_single(p:PV):idsL [p]=ids p:=by simp[idsL]
theorem setAt_sound(hE:EnvOK P e)(hM:Mem γ B w lk)(hS:Sub lkS lk){u:Ty}(ht:tyOf e ty=some u){x:PV}{r n k:Nat}{j:Option Nat}{up:Ups}(h:(setAt lkS u x r n k j).run=some up){v va:Value}
  (hv:VRel γ (Dom lk) w (Owned B lk) x v) (hva:VRel γ (Dom lk) w (Owned B lk) (.ptr r n k j) va):
  ∃w' γ' B',(Instr.storeAt ty va v).run P w= .ok () w'∧Post γ B w lk up .undef γ' B' w' undef:=by
 by_cases hfl:u.flat=true∨j≠none∨ ∃ps,lkS r=some (.box ps)
 ·exact setAt_plain hE hM hS ht h hv hva hfl
 ·simp only[not_or,not_exists,Classical.not_not]at hfl
  obtain⟨hnf,rfl,hnb⟩:=hfl
  have hnf':u.flat=false:=by simpa using hnf
  obtain⟨hd,b,o,ha,rfl⟩:=vrel_ptr.1 hva
  have hty:=hE.ty _ _ ht
  unfold Vm.setAt at h
  split at h
  ·rename_i ps hx;exact absurd hx (hnb ps)
  ·rename_i t xs m hx
   have hx':=hS _ _ hx
   simp only[Out.need_some,Out.bind_some,Out.nth_some,Bool.not_eq_true',decide_eq_false_iff_not,hnf',cond_false,Out.ret_some]at h
   obtain⟨hm,x0,hn,y,hy,x1,hset,hni,⟨bb,up'⟩,hab,rfl⟩:=h
   have hrn:r∉ids x:=by simpa using hni
   dsimp only
   obtain⟨hd0,htop⟩:=hM.toD hS hy hv (noneFree B lk _)
   have hlen:v.cells.toList.length=u.sz:=DRel.length _ _ _ _ hd0
   have hone:=DRel.one _ _ _ _ hd0
   simp only[absorb,Out.cond_some,Out.ret_some,Out.bind_some,Prod.mk.injEq,idsL_single]at hab
   rcases hab with⟨hown,rfl,rfl⟩|⟨hown,fz,hfz,rfl,rfl⟩
   ·
    simp only[Bool.and_eq_true,ownableL,Bool.and_true]at hown
    have hL: ∀l∈ids x,∃y,lk l=some y:=fun l hl=>by obtain⟨z,hz⟩:=ownable_known x hown.1 l hl;exact⟨z,hS _ _ hz⟩
    obtain⟨B',h1,h2,h3⟩:=hM.putOwn hx' hm hn ha (cs':=v.cells.toList) hrn hL (nodupB_ok hown.2) hset (fun O'=>hM.toD_own hS hy hv hown.1)
    have hu:updF lk ((ids x).map (fun r=>(r,none))++[(r,some (.row t (xs.set n x1) m.wr))])=setF (killF lk (ids x)) r (.row t (xs.set n x1) m.wr):=by
     rw[updF_append,updF_kill];rfl
    refine⟨_,γ,B',run_storeAt_any hty (by simpa using hlen) (by rw[←hlen];simpa using h1) hone,?_⟩
    simp only[cond_true]
    refine⟨by rw[hu];exact h2,?_,vundef⟩
    rw[hu]
    refine h3.weaken ?_
    rintro s _ (rfl|hs)
    ·simp
    ·simp only[List.map_append,List.map_map,List.mem_append,List.mem_map];exact .inl ⟨s,hs,rfl⟩
   ·
    obtain⟨B1,k1,k2,k3,k4,k5⟩:=hM.freezeL hS.rows hfz
    have hx1:updF lk fz r=some (.row t xs m):=by rw[(k4 r hrn).1];exact hx'
    obtain⟨B',h1,h2,h3⟩:=k1.putShal hx1 hm hn (by rw[←k2.same r (Dom_ne hx')]at ha;exact ha) (cs':=v.cells.toList) hset (fun O' hO=>by
     have hf:Free B lk O' (ids x):=⟨fun k hk=>(k3 k (hO k hk)).1,fun s hs k hk hk'=>(k3 k (hO k hk')).2 s hs hk⟩
     exact(hM.toD hS hy hv hf).1)
    have hu:updF lk (fz++[(r,some (.row t (xs.set n x1) .shal))])=setF (updF lk fz) r (.row t (xs.set n x1) .shal):=by
     rw[updF_append];rfl
    refine⟨_,γ,B',run_storeAt_any hty (by simpa using hlen) (by rw[←hlen];simpa using h1) hone,?_⟩
    simp only[cond_false]
    refine⟨by rw[hu];exact h2,?_,vundef⟩
    rw[hu]
    refine(k2.trans h3).weaken ?_
    rintro s _ (hs|rfl)
    ·simp only[List.map_append,List.mem_append];exact .inl hs
    ·simp
  ·simp[Out.run]at h
theorem madeCells_flatten{z:Array Value}{sz:Nat}(hz:z.size=sz): ∀n,(madeCells z (n*sz)).toList=(List.replicate n z.toList).flatten
 |0=>by simp[madeCells,Array.range_zero']
 |n+1=>by
  rw[List.replicate_succ',List.flatten_append,←madeCells_flatten hz n]
  apply List.ext_getElem?
  intro j
  simp only[madeCells,Array.toList_map,Array.toList_range,List.getElem?_map,List.flatten_cons,List.flatten_nil,List.append_nil]
  by_cases h:j<n*sz
  ·rw[List.getElem?_append_left (by simpa using h)]
   simp only[List.getElem?_map]
   rw[List.getElem?_range (by rw[Nat.succ_mul];omega),List.getElem?_range h]
  ·rw[List.getElem?_append_right (by simpa using h)]
   simp only[List.length_map,List.length_range]
   by_cases h2:j<(n+1)*sz
   ·rw[List.getElem?_range h2]
    have hpos:0<sz:=by
     rcases Nat.eq_zero_or_pos sz with h0|h0
     ·rw[h0]at h2;simp at h2
     ·exact h0
    have hj:j-n*sz<sz:=by rw[Nat.succ_mul]at h2;omega
    have hmod:j%z.size=j-n*sz:=by
     rw[hz]
     have:j=(j-n*sz)+n*sz:=by omega
     conv=>lhs;rw[this]
     rw[Nat.add_mul_mod_self_right,Nat.mod_eq_of_lt hj]
    simp only[Option.map_some,hmod]
    rw[Array.getElem?_toList,Array.getElem?_eq_getElem (by omega),getElem!_pos z (j-n*sz) (by omega)]
   ·rw[List.getElem?_eq_none (by simp;omega)]
    simp only[Option.map_none]
    rw[List.getElem?_eq_none (by rw[Array.length_toList,hz];rw[Nat.succ_mul]at h2;omega)]
theorem makeSlice_sound(hE:EnvOK P e)(hM:Mem γ B w lk){id:Nat}(hid:lk id=none){u:Ty}(ht:tyOf e ty=some (.sl u)){pn pc:PV}{n c:Nat}(hn:(asNat pn).run=some n)(hc:(asNat pc).run=some c)(hnc:n≤c)(hr:c*u.by≤140737488355328)(h63:c≤maxLen)
  {vn vc:Value} (hvn:VRel γ (Dom lk) w (Owned B lk) pn vn) (hvc:VRel γ (Dom lk) w (Owned B lk) pc vc):
  ∃v' w' γ' B',(Instr.makeSlice ty vn vc).run P w= .ok v' w'∧Post γ B w lk [(id,some (.row u (List.replicate n (zeroD u)) .full))] (.rf id) γ' B' w' v':=by
 obtain⟨kn,N,rfl,h1,rfl⟩:=asNat_some hn hvn
 obtain⟨kc,C,rfl,h2,rfl⟩:=asNat_some hc hvc
 obtain⟨el,hi,hel⟩:=(hE.ty _ _ ht: ∃el,Inf P (.sl u) ty (.slice el)∧TyOK P u el)
 obtain⟨d,⟨_,i,z,q1,q2,q3,q4,q5,_⟩,_⟩:=TyOK.inf hel
 have hb:(i.bytes:Int)*C≤281474976710656:=by
  have:i.bytes*C.toNat≤140737488355328:=Nat.le_trans (by rw[Nat.mul_comm];exact Nat.mul_le_mul_left _ q3) hr
  have h:((i.bytes*C.toNat:Nat):Int)≤140737488355328:=by omega
  rw[Int.natCast_mul,Int.toNat_of_nonneg h2]at h
  omega
 have h63':C≤9223372036854775807:=by simp only[maxLen]at h63;omega
 have hrun:=run_make (P:=P) w ty el i z hi.und q1 q4 kn kc N C h1 (by omega) hb h63'
 rw[q2]at hrun
 have hzs:z.cells.size=u.sz:=by
  have:=DRel.length (w:=w) (O:=fun _=>False) (m:=true) _ _ _ _ (q5.data u _)
  simpa using this
 have hcells:=madeCells_flatten hzs C.toNat
 obtain⟨γ',B',h⟩:=hM.addRow hid (More.alloc w (.cells (madeCells z.cells (C.toNat*u.sz)) el)) (t:=u) (xs:=List.replicate N.toNat (zeroD u)) (m:= .full) (v:= .slice (some ⟨w.heap.size,0,none⟩) N.toNat C.toNat) (by simp)
  (by
   rw[RowR.deep rfl]
   refine .inr ⟨w.heap.size,C.toNat,(List.replicate N.toNat z.cells.toList).flatten,[],by simp,by simpa using hnc,h63,by simp,fun j v hj=>?_,fun j hj=>?_,EL.replicate (q5.data u _) _,rfl⟩
   ·rw[Nat.zero_add,(More.alloc w _).cell,←Array.getElem?_toList,hcells]
    have:C.toNat=N.toNat+(C.toNat-N.toNat):=by omega
    rw[this,←List.replicate_append_replicate,List.flatten_append,List.getElem?_append_left (List.getElem?_eq_some_iff.1 hj).1]
    exact hj
   ·rw[Nat.zero_add,(More.alloc w _).cell,(More.alloc w _).frozen]
    constructor
    ·rw[Array.getElem?_eq_getElem (by rw[size_madeCells];exact hj)];rfl
    ·simp) rfl rfl
 exact⟨_,_,γ',B',hrun,h⟩
theorem toString_sound(hE:EnvOK P e)(hM:Mem γ B w lk)(hS:Sub lkS lk){src:TypeId}(hs:tyOf e src=some (.sl (.int .u8)))(ht:tyOf e ty=some .str){p:PV}{xs:List UInt8}(hp:(sliceOf lkS p).run=some ⟨.int .u8,xs⟩){v:Value}
  (hv:LRel γ (Dom lk) w (Owned B lk) p [v]):Gives P γ B w lk (convert src ty v) (.sc .str xs):=by
 have hu:=(hE.ty _ _ ht:Inf P .str ty .string).und
 obtain⟨el,hi,hel⟩:=(hE.ty _ _ hs: ∃el,Inf P (.sl (.int .u8)) src (.slice el)∧TyOK P (.int .u8) el)
 have hue:=(hel:Inf P (.int .u8) el (.int .u8)).und
 obtain⟨A,cap,rfl,hcap,h⟩:=hM.sliceOf hS hp hv (noneFree B lk _)
 have hm:xs.length≤maxLen:=Nat.le_trans hcap.1 hcap.2
 rcases Nat.eq_zero_or_pos xs.length with h0|h0
 ·obtain rfl:=List.length_eq_zero_iff.1 h0
  cases A with
  |none=>exact⟨_,run_convert_bytes_nil w src el hi.und hue _ _ ty hu,vrel_str.2 ⟨_,rfl,hm,rfl⟩⟩
  |some a=>exact⟨_,run_convert_bytes_back w src ty el a cap [] hi.und hue hu (by simp),vrel_str.2 ⟨_,rfl,hm,rfl⟩⟩
 ·obtain⟨a,cells,rfl,h1,h2,h3,h4⟩:=h h0
  obtain⟨rfl,_⟩:=EL.bytes.1 h4
  refine⟨_,run_convert_bytes_back w src ty el a cap xs hi.und hue hu (fun j hj=>h3 j _ ?_),vrel_str.2 ⟨_,?_,hm,rfl⟩⟩
  ·simp[hj]
  ·simp
end
end Go.Vm
namespace Go.Vm
open Go
structure Noughts(P:Program)(ty tx:TypeId)(size:Nat)(x:Value)(n:Nat)(news:List Value):Prop where
 kind: ∃kn,P.underlying tx=some (.int kn)
 val: ∃kq,x= .int kq (n:Int)
 pos:0<size
 newsLen:news.length=n*size
 one: ∀u∈news,u.oneCell'=true
 zero: ∀el i z,P.underlying ty=some (.slice el)→P.info? el=some i→i.zero=some z→news=(Builtin.zeroCells z.cells n).toList
def SrcG(P:Program)(ty tx:TypeId)(size:Nat)(x:Value)(n:Nat)(news:List Value)(w:World):Prop:=
 Src P size tx x n news w∨Noughts P ty tx size x n news
theorem SrcG.newsLen{P:Program}{ty tx:TypeId}{size:Nat}{x:Value}{n:Nat}{news:List Value}{w:World}(h:SrcG P ty tx size x n news w):news.length=n*size:=by
 rcases h with h|h
 ·exact h.newsLen
 ·exact h.newsLen
section
variable {P:Program}
theorem run_append_none_g(w:World)(t tx ty e:TypeId)(i:TypeInfo)(z:Value)(ht:P.underlying t=some (.slice e))(hi:P.info? e=some i)(hz:i.zero=some z)(base:Option Addr)(sLen sCap:Nat)(hle:sLen≤sCap)(x:Value)(hs:SrcG P t tx i.size x 0 [] w):
  (Builtin.append_ #[t,tx] ty #[.slice base sLen sCap,x]).run P w= .ok (.slice base sLen sCap) w:=by
 rcases hs with hs|hs
 ·exact run_append_nothing w t tx ty e i ht hi base sLen sCap hle x hs
 ·obtain⟨kn,hk⟩:=hs.kind
  obtain⟨kq,rfl⟩:=hs.val
  have hw:IntKind.i64.wrap 0=0:=by decide
  cases base<;>simp[Builtin.append_,run_underlying ht,run_underlying hk,sizeOf,typeInfo,hi,asInt,asIntOf,hw,hle,storeCells]
theorem run_append_room_g(w:World)(t tx ty e:TypeId)(i:TypeInfo)(z:Value)(ht:P.underlying t=some (.slice e))(hi:P.info? e=some i)(hz:i.zero=some z)(b off sLen sCap:Nat)(x:Value)(n:Nat)(news:List Value)(hs:SrcG P t tx i.size x n news w)
  (h47:n≤140737488355328) (hby:n*i.bytes≤140737488355328)
  (hroom:sLen+n≤sCap) (hc: ∀j,j<news.length→(w.cell? ⟨b,off+sLen*i.size+j,none⟩).isSome=true) (hf: ∀j,j<news.length→w.frozen? ⟨b,off+sLen*i.size+j,none⟩=false):
  (Builtin.append_ #[t,tx] ty #[.slice (some ⟨b,off,none⟩) sLen sCap,x]).run P w= .ok (.slice (some ⟨b,off,none⟩) (sLen+n) sCap) (w.setCells b (off+sLen*i.size) news):=by
 rcases hs with hs|hs
 ·exact run_append_room_src w t tx ty e i ht hi b off sLen sCap x n news hs hroom hc hf
 ·obtain⟨kn,hk⟩:=hs.kind
  obtain⟨kq,rfl⟩:=hs.val
  have hzn:=hs.zero e i z ht hi hz
  have hp:=hs.pos
  have hst:=run_storeCells_cells (P:=P) b (off+sLen*i.size) news 0 w (by simpa using hc) (by simpa using hf) hs.one
  simp only[Nat.add_zero]at hst
  have hw:IntKind.i64.wrap (n:Int)=n:=by rw[IntKind.wrap_i64];omega
  have h48i: ¬(281474976710656<(n:Int)*(i.bytes:Int)):=by rw[←Int.natCast_mul];omega
  have hneg: ¬((n:Int)<0):=by omega
  by_cases hn:n=0
  ·subst hn
   have hn0:news=[]:=List.length_eq_zero_iff.1 (by simpa using hs.newsLen)
   subst hn0
   simp[Builtin.append_,run_underlying ht,run_underlying hk,sizeOf,typeInfo,hi,asInt,asIntOf,show IntKind.i64.wrap 0=0 by decide,hroom,Addr.add_lit,hst]
   exact fun h=>absurd hroom (by omega)
  ·have hns: ¬(n*i.size=0):=Nat.mul_ne_zero hn (by omega)
   have hns': ¬(n=0∨i.size=0):=by omega
   simp[Builtin.append_,run_underlying ht,run_underlying hk,sizeOf,typeInfo,zeroValue,hi,hz,asInt,asIntOf,hw,h48i,hneg,hroom,hns,hns',Addr.add_lit,←hzn,hst]
theorem run_append_grow_g(w:World)(t tx ty e:TypeId)(i:TypeInfo)(z:Value)(ht:P.underlying t=some (.slice e))(hi:P.info? e=some i)(hz:i.zero=some z)(base:Option Addr)(sLen sCap:Nat)(olds:List Value)
  (hold:(Builtin.firstCells i.size sLen (.slice base sLen sCap)).run P w.drew= .ok olds.toArray w.drew) (x:Value) (n:Nat) (news:List Value) (hs:SrcG P t tx i.size x n news w) (hle:sLen≤sCap) (hby:n*i.bytes≤140737488355328)
  (hg:sCap<sLen+n) (h63:((sLen+n:Nat):Int)≤9223372036854775807) (hfit:Builtin.nextslicecap (sLen+n) sCap*i.bytes≤281474976710656):
  (Builtin.append_ #[t,tx] ty #[.slice base sLen sCap,x]).run P w=
   .ok (.slice (some ⟨w.heap.size,0,none⟩) (sLen+n) (grownCap w (sLen+n) sCap e))
    (w.drew.alloc (.cells ((olds++news).toArray++Builtin.zeroCells z.cells (grownCap w (sLen+n) sCap e-(sLen+n))) e)):=by
 rcases hs with hs|hs
 ·exact run_append_grow_src w t tx ty e i z ht hi hz base sLen sCap olds hold x n news hs hg h63 hfit
 ·obtain⟨kn,hk⟩:=hs.kind
  obtain⟨kq,rfl⟩:=hs.val
  have hzn:=hs.zero e i z ht hi hz
  have:=Go.Lib.run_append_grow_zeros w t tx ty e i z kq kn ht hk hi hz base sLen sCap olds hold n (by omega) hs.pos hg h63 (by omega) hfit
  have e2:(olds++(Builtin.zeroCells z.cells n).toList).toArray=olds.toArray++Builtin.zeroCells z.cells n:=by apply Array.ext';simp
  rw[this,hzn,e2]
end
end Go.Vm
namespace Go.Vm
open Go
section
variable {γ:Nat→G} {w:World} {P:Program} {e:Env} {ty:TypeId} {B:Nat→List Nat} {lk lkS:Look}
theorem rangeAt_append{b o:Nat}{a c:List Value}(h1:w.rangeAt b o a)(h2:w.rangeAt b (o+a.length) c):w.rangeAt b o (a++c):=fun j v hj=>by
 by_cases h:j<a.length
 ·rw[List.getElem?_append_left h]at hj;exact h1 j v hj
 ·rw[List.getElem?_append_right (by omega)]at hj
  have:=h2 _ v hj
  rwa [show o+a.length+(j-a.length)=o+j by omega]at this
def Elems(γ:Nat→G)(B:Nat→List Nat)(w:World)(lk:Look)(L:List Nat)(t:Ty)(m:Own)(g:Nat)(bs:List Nat)(X:List t.den)(cells:List Value)(rest:List Nat):Prop:=
 ∀(γ':Nat→G) (B':Nat→List Nat) (lk':Look) (w':World) (bad:Nat→Prop),Kp γ (Dom lk) w (Owned B lk) γ' (Dom lk') w' (Owned B' lk') bad→(∀l∈L,∀k∈B l,k∉bs→ ¬AllW (Owned B' lk') k)→
  (∀k,k<w.heap.size→k≠g→w'.heap[k]?=w.heap[k]?)→AllW (Owned B' lk') g→EL (RowR w' (AllW (Owned B' lk')) m t) X cells rest
theorem Mem.grown(hM:Mem γ B w lk){id:Nat}(hid:lk id=none){L:List Nat}(hL: ∀l∈L,∃y,lk l=some y){t:Ty}{Z:List t.den}{m:Own}(hm:m≠ .froz){g cap:Nat}{w':World}{cells:List Value}{rest:List Nat}
  (hsz:w.heap.size≤w'.heap.size) (hold: ∀k,k<w.heap.size→k≠g→w'.heap[k]?=w.heap[k]?) (hos:w'.os=w.os) (hou:w'.output=w.output) (hta:w'.tape=w.tape)
  (hg:(∃l∈L,g∈B l)∨w.heap.size≤g) (hg':g<w'.heap.size) (hnd:(g::rest).Nodup) (hrest: ∀k∈rest,∃l∈L,k∈B l)
  (hc:Z.length≤cap) (hcm:cap≤maxLen) (hra:w'.rangeAt g 0 cells) (hth:w'.there g 0 (cap*t.sz)) (hel:Elems γ B w lk L t m g (g::rest) Z cells rest) (hb:m≠ .bare:=by first|decide|assumption):
  ∃γ' B',Post γ B w lk (L.map (fun r=>(r,none))++[(id,some (.row t Z m))]) (.rf id) γ' B' w' (.slice (some ⟨g,0,none⟩) Z.length cap):=by
 have hidL:id∉L:=fun h=>by obtain⟨y,hy⟩:=hL id h;rw[hid]at hy;cases hy
 have hu:updF lk (L.map (fun r=>(r,none))++[(id,some (.row t Z m))])=setF (killF lk L) id (.row t Z m):=by rw[updF_append,updF_kill];rfl
 obtain⟨γ',B',rfl,k1,k2,k3⟩:=hM.take L id (.row t Z m) (.row (.slice (some ⟨g,0,none⟩) Z.length cap) t) (g::rest) w' hidL hL (fun y hy=>by rw[hid]at hy;cases hy) hsz
  (fun k hk _ h=>hold k hk (fun ek=>by
   subst ek
   rcases hg with⟨l,hl,hk'⟩|h'
   ·exact h l hl hk'
   ·omega)) hos hou hta hnd
  (fun k hk=>by
   rcases List.mem_cons.1 hk with rfl|hk
   ·refine⟨hg',fun hlt=> .inr ?_⟩
    rcases hg with h|h
    ·exact h
    ·omega
   ·obtain⟨l,hl,h⟩:=hrest k hk
    obtain⟨y,hy⟩:=hL l hl
    exact⟨Nat.lt_of_lt_of_le (hM.lt l y hy k h) hsz,fun _=> .inr ⟨l,hl,h⟩⟩)
  (fun n k b o ha=>by
   obtain⟨⟨_,_,e1⟩,_⟩:=at_row ha
   cases e1;exact hg')
  (fun γ' B' lk' hγ hlk hB hK hLf _ _=>RootRel.mkRow hm (.inr ⟨g,cap,cells,rest,rfl,hc,hcm,hg',hra,hth,hel _ _ _ _ _ hK hLf hold (by subst hlk hB;exact⟨id,.row t Z m,by simp[setF],by simp[updN]⟩),rfl⟩))
 refine⟨_,B',⟨by rw[hu];exact k1,?_,?_⟩⟩
 ·rw[hu]
  refine k3.weaken ?_
  rintro s _ (rfl|hs)
  ·simp
  ·simp only[List.map_append,List.map_map,List.mem_append,List.mem_map];exact .inl ⟨s,hs,rfl⟩
 ·rw[hu]
  simp only[VRel,VRel0,LRel]
  exact⟨Dom_setF_same,_,t,by simp[updN],rfl,rfl⟩
theorem append_core(hM:Mem γ B w lk){id:Nat}(hid:lk id=none){L:List Nat}(hL: ∀l∈L,∃y,lk l=some y){t:Ty}{X Y:List t.den}{m:Own}(hm:m≠ .froz)(hE:EnvOK P e)(ht:tyOf e ty=some (.sl t))
  {tx rt:TypeId} {A:Option Addr} {cap:Nat} {vb:Value} {cells news:List Value} {restX restY:List Nat} (hcap:X.length≤cap) (hcm:cap≤maxLen) (hsrc:SrcG P ty tx t.sz vb Y.length news w)
  (hA:(X=[]∧cells=[]∧restX=[]∧cap=0)∨ ∃g,A=some ⟨g,0,none⟩∧(∃l∈L,g∈B l)∧g<w.heap.size∧w.rangeAt g 0 cells∧w.there g 0 (cap*t.sz)∧g∉restX++restY)
  (hcl:cells.length=X.length*t.sz) (hnd:(restX++restY).Nodup) (hrest: ∀k∈restX++restY,∃l∈L,k∈B l) (hfit:(X.length+Y.length)*t.by≤140737488355328) (hby:0<t.by)
  (helX: ∀g bs,(A=some ⟨g,0,none⟩∨g=w.heap.size)→(∀k∈restX++restY,k∈bs)→(∀k∈restX++restY,k≠g)→(∀k∈bs,k=g∨k∈restX++restY)→Elems γ B w lk L t m g bs (X++Y) (cells++news) (restX++restY))
  (hnil:X=[]→Y=[]→ ∃γ' B',Post γ B w lk (L.map (fun r=>(r,none))++[(id,some (.row t (X++Y) m))]) (.rf id) γ' B' w (.slice A 0 0)) (hb:m≠ .bare:=by first|decide|assumption):
  ∃v' w' γ' B',(Builtin.append_ #[ty,tx] rt #[.slice A X.length cap,vb]).run P w= .ok v' w'∧Post γ B w lk (L.map (fun r=>(r,none))++[(id,some (.row t (X++Y) m))]) (.rf id) γ' B' w' v':=by
 obtain⟨el,hi,hel⟩:=(hE.ty _ _ ht: ∃el,Inf P (.sl t) ty (.slice el)∧TyOK P t el)
 obtain⟨d,⟨_,i,z,q1,q2,q3,q4,q5,_⟩,_⟩:=TyOK.inf hel
 have hzs:z.cells.size=t.sz:=by
  have:=DRel.length (w:=w) (O:=fun _=>False) (m:=true) _ _ _ _ (q5.data t _)
  simpa using this
 rw[←q2]at hsrc
 have hnl:=hsrc.newsLen
 rw[q2]at hnl
 have hmaxl:X.length+Y.length≤140737488355328:=Nat.le_trans (Nat.le_mul_of_pos_right _ hby) hfit
 have hby2:Y.length*i.bytes≤140737488355328:=Nat.le_trans (Nat.mul_le_mul (Nat.le_add_left _ _) q3) hfit
 by_cases hroom:X.length+Y.length≤cap
 ·rcases hA with⟨rfl,rfl,rfl,rfl⟩|⟨g,rfl,hgL,hg,hra,hth,hgn⟩
  ·have hY:Y=[]:=List.length_eq_zero_iff.1 (by simpa using hroom)
   subst hY
   obtain⟨γ',B',h⟩:=hnil rfl rfl
   have hn0:news=[]:=List.length_eq_zero_iff.1 (by simpa using hnl)
   subst hn0
   refine⟨_,w,γ',B',run_append_none_g w ty tx rt el i z hi.und q1 q4 A 0 0 (Nat.le_refl _) vb (by simpa using hsrc),h⟩
  ·have hlt: ∀j,j<news.length→X.length*t.sz+j<cap*t.sz:=fun j hj=>by
    have:(X.length+Y.length)*t.sz≤cap*t.sz:=Nat.mul_le_mul_right _ hroom
    rw[Nat.add_mul]at this;omega
   have hrun:=run_append_room_g (P:=P) w ty tx rt el i z hi.und q1 q4 g 0 X.length cap vb Y.length news hsrc (by omega) hby2 hroom
    (fun j hj=>by rw[q2];simpa using(hth _ (hlt j hj)).1) (fun j hj=>by rw[q2];simpa using(hth _ (hlt j hj)).2)
   rw[q2,Nat.zero_add]at hrun
   have hth':w.there g (X.length*t.sz) news.length:=there_part hth (by omega) (by
    have:(X.length+Y.length)*t.sz≤cap*t.sz:=Nat.mul_le_mul_right _ hroom
    rw[Nat.add_mul]at this;omega)
   obtain⟨hos,hou,hta⟩:=os_setCells news w g (X.length*t.sz)
   obtain⟨γ',B',h⟩:=hM.grown hid hL (Z:=X++Y) (m:=m) hm (g:=g) (cap:=cap) (w':=w.setCells g (X.length*t.sz) news) (cells:=cells++news) (rest:=restX++restY)
    (by rw[size_setCells];exact Nat.le_refl _) (fun k _ hk=>heap_setCells _ _ _ _ hk) hos hou hta (.inl hgL) (by rw[size_setCells];exact hg) (List.nodup_cons.2 ⟨hgn,hnd⟩) hrest (by simpa using hroom) hcm
    (rangeAt_append (World.rangeAt_setCells_apart hra _ _ _ (by right;left;omega)) (by rw[Nat.zero_add,hcl];exact World.rangeAt_setCells_same w g _ news hth'))
    (World.there_setCells hth _ _ _) (helX g _ (.inl rfl) (fun k hk=>List.mem_cons_of_mem _ hk) (fun k hk e=>hgn (e▸hk)) (fun k hk=>List.mem_cons.1 hk))
   rw[List.length_append]at h
   exact⟨_,_,γ',B',hrun,h⟩
 ·have hg:cap<X.length+Y.length:=by omega
  have hfirst:(Builtin.firstCells i.size X.length (.slice A X.length cap)).run P w.drew= .ok cells.toArray w.drew:=by
   rcases hA with⟨rfl,rfl,rfl,rfl⟩|⟨g,rfl,hgL,hgs,hra,hth,hgn⟩
   ·cases A with
    |none=>exact run_firstCells_none w.drew i.size _ _ _
    |some a=>exact run_firstCells_some w.drew i.size 0 a 0 0 [] (by simp) (by simp)
   ·exact run_firstCells_some w.drew i.size X.length _ X.length cap cells (by rw[hcl,q2]) (fun j u hj=>by
     rw[Addr.add_mid]
     have:=hra j u hj
     simpa using this)
  have hfit':Builtin.nextslicecap (X.length+Y.length) cap*i.bytes≤281474976710656:=growslice_fits hg (Nat.le_trans (Nat.mul_le_mul_left _ q3) hfit)
  have hrun:=run_append_grow_g (P:=P) w ty tx rt el i z hi.und q1 q4 A X.length cap cells hfirst vb Y.length news hsrc hcap hby2 hg (by omega) hfit'
  generalize hnc:grownCap w (X.length+Y.length) cap el=nc at hrun
  have hn1:X.length+Y.length≤nc:=by rw[←hnc];exact grownCap_ge _ _ _ _
  have hn2:nc≤maxLen:=by rw[←hnc];exact grownCap_le_maxLen _ _ _ _ (by simp only[maxLen];omega)
  have hrlt: ∀k∈restX++restY,k<w.heap.size:=fun k hk=>by
   obtain⟨l,hl,h⟩:=hrest k hk
   obtain⟨y,hy⟩:=hL l hl
   exact hM.lt l y hy k h
  have hCs:((cells++news).toArray++Builtin.zeroCells z.cells (nc-(X.length+Y.length))).size=nc*t.sz:=by
   have:nc*t.sz=(X.length+Y.length)*t.sz+(nc-(X.length+Y.length))*t.sz:=by rw[←Nat.add_mul];congr 1;omega
   rw[this,Nat.add_mul]
   simp[Builtin.zeroCells,hcl,hnl,hzs]
  have hmore:=More.drew w (.cells ((cells++news).toArray++Builtin.zeroCells z.cells (nc-(X.length+Y.length))) el)
  obtain⟨γ',B',h⟩:=hM.grown hid hL (Z:=X++Y) (m:=m) hm (g:=w.heap.size) (cap:=nc) (cells:=cells++news) (rest:=restX++restY) (by rw[hmore.size];omega) (fun k hk _=>hmore.old hk) hmore.os hmore.output hmore.tape
   (.inr (Nat.le_refl _)) (by rw[hmore.size];omega) (List.nodup_cons.2 ⟨fun h=>by have:=hrlt _ h;omega,hnd⟩) hrest (by simpa using hn1) hn2
   (fun j v hj=>by
    rw[Nat.zero_add,hmore.cell,Array.getElem?_append_left (by simpa using(List.getElem?_eq_some_iff.1 hj).1)]
    simpa using hj)
   (fun j hj=>by
    rw[Nat.zero_add,hmore.cell,hmore.frozen]
    exact⟨by rw[Array.getElem?_eq_getElem (by rw[hCs];exact hj)];rfl,by simp⟩)
   (helX _ _ (.inr rfl) (fun k hk=>List.mem_cons_of_mem _ hk) (fun k hk e=>by have:=hrlt k hk;omega) (fun k hk=>List.mem_cons.1 hk))
  rw[List.length_append]at h
  exact⟨_,_,γ',B',hrun,h⟩
end
end Go.Vm
namespace Go.Vm
open Go
section
variable {γ:Nat→G} {w:World} {P:Program} {e:Env} {ty:TypeId} {B:Nat→List Nat} {lk lkS:Look}
theorem cells_unique{a:Addr}: ∀{c d:List Value},c.length=d.length→(∀j u,c[j]?=some u→w.cell? (a.add j)=some u)→(∀j u,d[j]?=some u→w.cell? (a.add j)=some u)→c=d:=fun{c d} hl h1 h2=>by
 apply List.ext_getElem?;intro j
 rcases Nat.lt_or_ge j c.length with h|h
 ·have e1:=h1 j _ (List.getElem?_eq_getElem h)
  have e2:=h2 j _ (List.getElem?_eq_getElem (hl▸h))
  rw[List.getElem?_eq_getElem h,List.getElem?_eq_getElem (hl▸h)]
  rw[e1]at e2;exact e2
 ·rw[List.getElem?_eq_none h,List.getElem?_eq_none (hl▸h)]
theorem src_sound(hE:EnvOK P e)(hM:Mem γ B w lk)(hS:Sub lkS lk){tx:TypeId}{b:PV}{t:Ty}{ys:List t.den}(h:(srcL lkS (tyOf e tx) b).run=some ⟨t,ys⟩){vb:Value}(hv:VRel γ (Dom lk) w (Owned B lk) b vb):
  ∃news,Src P t.sz tx vb ys.length news w∧ ∀O',Free B lk O' (ids b)→EL (DRel w O' false t) ys news []:=by
 unfold srcL at h
 split at h
 ·simp only[Out.need_some,Out.ret_some,beq_iff_eq,Sigma.mk.injEq]at h
  obtain⟨ht,rfl,h⟩:=h
  obtain rfl:=eq_of_heq h
  rw[vrel_str]at hv
  obtain⟨s,rfl,_,rfl⟩:=hv
  have hu:=(hE.ty _ _ ht:Inf P .str tx .string).und
  refine⟨byteCells s,?_,fun O' _=>EL.bytes.2 ⟨rfl,rfl⟩⟩
  have:s.data.toList.length=s.size:=by rw[Array.length_toList];rfl
  rw[this];exact Src.ofString w hu s
 ·simp only[Out.need_some]at h
  obtain⟨hsl,hs⟩:=h
  have hl:LRel γ (Dom lk) w (Owned B lk) b [vb]:=by
   have hs':=hs
   unfold Vm.sliceOf at hs
   split at hs<;>first|(simp only[VRel,VRel0]at hv;exact hv)|(simp[Out.run]at hs)
  unfold isSl at hsl
  split at hsl
  ·rename_i u ht
   obtain⟨el,hi,_⟩:=(hE.ty _ _ ht: ∃el,Inf P (.sl u) tx (.slice el)∧TyOK P u el)
   obtain⟨A,cap,rfl,hc,h0⟩:=hM.sliceOf hS hs hl (noneFree B lk _)
   rcases Nat.eq_zero_or_pos ys.length with hz|hz
   ·obtain rfl:=List.length_eq_zero_iff.1 hz
    refine⟨[],?_,fun O' _=>⟨rfl,rfl⟩⟩
    cases A with
    |none=>exact Src.ofNil w hi.und cap
    |some a=>exact Src.ofSlice w hi.und a 0 cap [] (by simp) (by simp) (by simp)
   ·obtain⟨a,cells,rfl,h1,h2,h3,h4⟩:=h0 hz
    have hlen:cells.length=ys.length*t.sz:=EL.length (fun x c b h=>DRel.length _ _ _ _ h) h4
    refine⟨cells,Src.ofSlice w hi.und a _ cap cells hlen h3 (fun v hv'=>EL.one (fun x c b h=>DRel.one _ _ _ _ h) h4 v hv'),fun O' hf=>?_⟩
    obtain⟨A',cap',e1,_,h0'⟩:=hM.sliceOf hS hs hl hf
    obtain⟨a',cells',rfl,_,_,h3',h4'⟩:=h0' hz
    simp only[Value.slice.injEq,Option.some.injEq]at e1
    obtain⟨rfl,_,_⟩:=e1
    have hlen':cells'.length=ys.length*t.sz:=EL.length (fun x c b h=>DRel.length _ _ _ _ h) h4'
    obtain rfl:=cells_unique (hlen'.trans hlen.symm) h3' h3
    exact h4'
  ·cases hsl
structure Old(γ:Nat→G)(B:Nat→List Nat)(w:World)(lk:Look)(L:List Nat)(t:Ty)(X:List t.den)(m:Own)(A:Option Addr)(cap:Nat)(cells:List Value)(rest:List Nat):Prop where
 known: ∀l∈L,∃y,lk l=some y
 cap1:X.length≤cap
 cap2:cap≤maxLen
 base:(X=[]∧cells=[]∧rest=[]∧cap=0)∨ ∃g,A=some ⟨g,0,none⟩∧(∃l∈L,g∈B l)∧g<w.heap.size∧w.rangeAt g 0 cells∧w.there g 0 (cap*t.sz)∧g∉rest
 el:EL (RowR w (AllW (Owned B lk)) m t) X cells rest
 nodup:rest.Nodup
 sub: ∀k∈rest,∃l∈L,k∈B l
theorem elems_shal(hM:Mem γ B w lk){L:List Nat}{t:Ty}{X Y:List t.den}{m:Own}{A:Option Addr}{cap:Nat}{cells news:List Value}{rest:List Nat}(ho:Old γ B w lk L t X m A cap cells rest)
  (hY: ∀O':Nat→Prop,(∀k,O' k→AllW (Owned B lk) k)→(∀l∈L,∀k∈B l,O' k→A=some ⟨k,0,none⟩)→EL (DRel w O' false t) Y news []) {g:Nat} (hg:A=some ⟨g,0,none⟩∨g=w.heap.size):Elems γ B w lk L t .shal g [g] (X++Y) (cells++news) []:=by
 intro γ' B' lk' w' bad hK hL hold hgo
 rw[RowR.shal rfl]
 have hsub: ∀k,(AllW (Owned B' lk') k∧k<w.heap.size)→AllW (Owned B lk) k:=fun k ⟨h1,h2⟩=>Classical.byContradiction fun hno=>hK.stp.ours k h2 hno h1
 have hst:Stp w (fun k=>AllW (Owned B' lk') k∧k<w.heap.size) w' (AllW (Owned B' lk')):=⟨hK.stp.size,fun k hk hno=>hold k hk (fun e=>hno ⟨e▸hgo,hk⟩),fun k hk hno h=>hno ⟨h,hk⟩,hK.stp.os,hK.stp.output,hK.stp.tape⟩
 have hlt: ∀k∈rest,k<w.heap.size:=fun k hk=>by
  obtain⟨l,hl,h⟩:=ho.sub k hk
  obtain⟨y,hy⟩:=ho.known l hl
  exact hM.lt l y hy k h
 have hne: ∀k∈rest,k≠g:=fun k hk e=>by
  rcases hg with hg|hg
  ·rcases ho.base with⟨_,_,h,_⟩|⟨g',h,_,_,_,_,h6⟩
   ·rw[h]at hk;simp at hk
   ·rw[h]at hg
    simp only[Option.some.injEq,Addr.mk.injEq,and_true]at hg
    exact h6 (hg▸e▸hk)
  ·have:=hlt k hk;omega
 have hX:=hM.rowLend (O':=fun k=>AllW (Owned B' lk') k∧k<w.heap.size) hsub (fun k hk h=>by
  obtain⟨l,hl,hb⟩:=ho.sub k hk
  exact hL l hl k hb (by simpa using hne k hk) h.1) ho.el
 have hY':=hY (fun k=>AllW (Owned B' lk') k∧k<w.heap.size) hsub (fun l hl k hk h=>by
  by_cases e:k=g
  ·subst e
   rcases hg with hg|hg
   ·exact hg
   ·omega
  ·exact absurd h.1 (hL l hl k hk (by simpa using e)))
 refine EL.mono (fun z c b _ hb hz=>?_) (EL.append hX hY')
 obtain rfl:=DRel.noblocks _ _ _ _ hz
 exact⟨rfl,DRel.bor hst _ _ _ _ hz⟩
theorem elems_deep(hM:Mem γ B w lk){L:List Nat}{t:Ty}{X Y:List t.den}{m m':Own}{cells news:List Value}{restX restY:List Nat}(hd:m.deep=true)(hd':m'.deep=true)(hX:EL (RowR w (AllW (Owned B lk)) m t) X cells restX)
  (hY:EL (DRel w (AllW (Owned B lk)) true t) Y news restY) {g:Nat} {bs:List Nat} (hlt: ∀k∈restX++restY,k<w.heap.size) (hne: ∀k∈restX++restY,k≠g):Elems γ B w lk L t m' g bs (X++Y) (cells++news) (restX++restY):=by
 intro γ' B' lk' w' bad hK hL hold hgo
 rw[RowR.deep hd']
 rw[RowR.deep hd]at hX
 exact EL.mono (fun z c b _ hb hz=>DRel.own hK.stp.size _ _ _ _ (fun k hk=>hold k (hlt k (hb k hk)) (hne k (hb k hk))) hz) (EL.append hX hY)
end
end Go.Vm
namespace Go.Vm
open Go
section
variable {γ:Nat→G} {w:World} {P:Program} {e:Env} {ty:TypeId} {B:Nat→List Nat} {lk lkS:Look}
theorem Mem.nilRow(hM:Mem γ B w lk){id:Nat}(hid:lk id=none){L:List Nat}(hL: ∀l∈L,∃y,lk l=some y){t:Ty}{m:Own}(hm:m≠ .froz){A:Option Addr}(hb:m≠ .bare:=by first|decide|assumption):
  ∃γ' B',Post γ B w lk (L.map (fun r=>(r,none))++[(id,some (.row t [] m))]) (.rf id) γ' B' w (.slice A 0 0):=by
 have hidL:id∉L:=fun h=>by obtain⟨y,hy⟩:=hL id h;rw[hid]at hy;cases hy
 have hu:updF lk (L.map (fun r=>(r,none))++[(id,some (.row t [] m))])=setF (killF lk L) id (.row t [] m):=by rw[updF_append,updF_kill];rfl
 obtain⟨γ',B',rfl,k1,k2,k3⟩:=hM.take L id (.row t [] m) (.row (.slice A 0 0) t) [] w hidL hL (fun y hy=>by rw[hid]at hy;cases hy) (Nat.le_refl _) (fun _ _ _ _=>rfl) rfl rfl rfl (by simp) (by simp)
  (fun n k b o ha=>by
   simp only[G.at,Option.map_eq_some_iff]at ha
   obtain⟨g,hg,_⟩:=ha
   obtain⟨_,_,e1⟩:=rowAt_some hg
   cases e1) (fun γ' B' lk' hγ hlk hB hK hLf _ _=>RootRel.mkRow hm (.inl ⟨_,rfl,rfl,rfl⟩))
 refine⟨_,B',⟨by rw[hu];exact k1,?_,?_⟩⟩
 ·rw[hu]
  refine k3.weaken ?_
  rintro s _ (rfl|hs)
  ·simp
  ·simp only[List.map_append,List.map_map,List.mem_append,List.mem_map];exact .inl ⟨s,hs,rfl⟩
 ·rw[hu]
  simp only[VRel,VRel0,LRel]
  exact⟨Dom_setF_same,_,t,by simp[updN],rfl,rfl⟩
theorem Old.flat{L:List Nat}{t:Ty}{X:List t.den}{m:Own}{A:Option Addr}{cap:Nat}{cells:List Value}{rest:List Nat}(ho:Old γ B w lk L t X m A cap cells rest)(hf:t.flat=true):
  rest=[]∧ ∀(m':Own) (O':Nat→Prop),EL (RowR w O' m' t) X cells []:=by
 have key: ∀(x:t.den) c b,RowR w (AllW (Owned B lk)) m t x c b→b=[]∧DRel w (fun _=>False) false t x c []:=fun x c b h=>by
  cases hd:m.deep
  ·rw[RowR.shal hd]at h;exact⟨h.1,(DRel.flat _ _ _ _ hf h.2).2⟩
  ·rw[RowR.deep hd]at h;exact DRel.flat _ _ _ _ hf h
 obtain⟨h1,h2⟩:=EL.flat (fun x c b h=>key x c b h) ho.el
 refine⟨h1,fun m' O'=>EL.mono (fun x c b _ _ h=>?_) h2⟩
 obtain rfl:=DRel.noblocks _ _ _ _ h
 exact flat_rowR hf h
theorem Old.length{L:List Nat}{t:Ty}{X:List t.den}{m:Own}{A:Option Addr}{cap:Nat}{cells:List Value}{rest:List Nat}(ho:Old γ B w lk L t X m A cap cells rest):cells.length=X.length*t.sz:=EL.length RowR.length ho.el
theorem Old.base'{L:List Nat}{t:Ty}{X:List t.den}{m:Own}{A:Option Addr}{cap:Nat}{cells:List Value}{rest:List Nat}(ho:Old γ B w lk L t X m A cap cells rest):
  (X=[]∧cells=[]∧([]:List Nat)=[]∧cap=0)∨ ∃g,A=some ⟨g,0,none⟩∧(∃l∈L,g∈B l)∧g<w.heap.size∧w.rangeAt g 0 cells∧w.there g 0 (cap*t.sz)∧g∉([]:List Nat)++[]:=by
 rcases ho.base with⟨h2,h3,_,h5⟩|⟨g,h1,h2,h3,h4,h5,_⟩
 ·exact .inl ⟨h2,h3,rfl,h5⟩
 ·exact .inr ⟨g,h1,h2,h3,h4,h5,by simp⟩
theorem append_shal(hE:EnvOK P e)(hM:Mem γ B w lk){id:Nat}(hid:lk id=none){L:List Nat}{t:Ty}{X Y:List t.den}{m:Own}{A:Option Addr}{cap:Nat}{cells news:List Value}{rest:List Nat}(ho:Old γ B w lk L t X m A cap cells rest)
  (ht:tyOf e ty=some (.sl t)) {tx rt:TypeId} {vb:Value} (hsrc:SrcG P ty tx t.sz vb Y.length news w) (hfit:(X.length+Y.length)*t.by≤140737488355328) (hby:0<t.by)
  (hY: ∀O':Nat→Prop,(∀k,O' k→AllW (Owned B lk) k)→EL (DRel w O' false t) Y news []):
  ∃v' w' γ' B',(Builtin.append_ #[ty,tx] rt #[.slice A X.length cap,vb]).run P w= .ok v' w'∧Post γ B w lk (L.map (fun r=>(r,none))++[(id,some (.row t (X++Y) .shal))]) (.rf id) γ' B' w' v':=by
 refine append_core hM hid ho.known (m:= .shal) (by simp) hE ht (restX:=[]) (restY:=[]) ho.cap1 ho.cap2 hsrc ho.base' ho.length (by simp) (by simp) hfit hby (fun g bs hg _ _ hbs=>?_) (fun hA hY0=>?_)
 ·have:=elems_shal hM ho (fun O' h1 _=>hY O' h1) hg
  intro γ' B' lk' w' bad hK hL hold hgo
  exact this γ' B' lk' w' bad hK (fun l hl k hk hne=>hL l hl k hk fun h=>hne (by simpa using(hbs k h))) hold hgo
 ·obtain rfl:=hA
  subst hY0;exact hM.nilRow hid ho.known (by simp)
theorem append_deep(hE:EnvOK P e)(hM:Mem γ B w lk){id:Nat}(hid:lk id=none){L L':List Nat}{t:Ty}{X Y:List t.den}{m:Own}{A:Option Addr}{cap:Nat}{cells news:List Value}{rest restY:List Nat}(ho:Old γ B w lk L t X m A cap cells rest)
  (hd:m.deep=true) (ht:tyOf e ty=some (.sl t)) {tx rt:TypeId} {vb:Value} (hsrc:SrcG P ty tx t.sz vb Y.length news w) (hfit:(X.length+Y.length)*t.by≤140737488355328) (hby:0<t.by)
  (hL': ∀l∈L',∃y,lk l=some y) (hap: ∀l∈L',l∉L) (hY:EL (DRel w (AllW (Owned B lk)) true t) Y news restY) (hnd:restY.Nodup) (hsub: ∀k∈restY,∃l∈L',k∈B l):
  ∃v' w' γ' B',(Builtin.append_ #[ty,tx] rt #[.slice A X.length cap,vb]).run P w= .ok v' w'∧Post γ B w lk ((L++L').map (fun r=>(r,none))++[(id,some (.row t (X++Y) .full))]) (.rf id) γ' B' w' v':=by
 have hLL: ∀l∈L++L',∃y,lk l=some y:=fun l hl=>by
  rcases List.mem_append.1 hl with h|h
  ·exact ho.known l h
  ·exact hL' l h
 have hss: ∀k∈rest++restY,∃l∈L++L',k∈B l:=fun k hk=>by
  rcases List.mem_append.1 hk with h|h
  ·obtain⟨l,hl,h⟩:=ho.sub k h;exact⟨l,by simp[hl],h⟩
  ·obtain⟨l,hl,h⟩:=hsub k h;exact⟨l,by simp[hl],h⟩
 have hdis: ∀l∈L,∀k∈B l,k∉restY:=fun l hl k hk h=>by
  obtain⟨l',hl',h'⟩:=hsub k h
  obtain⟨y,hy⟩:=ho.known l hl
  obtain⟨y',hy'⟩:=hL' l' hl'
  exact hap l' hl' ((hM.uniq l l' y y' k hy hy' hk h')▸hl)
 refine append_core hM hid hLL (m:= .full) (by simp) hE ht (restX:=rest) (restY:=restY) ho.cap1 ho.cap2 hsrc ?_ ho.length ?_ hss hfit hby (fun g bs hg _ hne _=>?_) (fun hA hY0=>?_)
 ·rcases ho.base with h|⟨g,h1,⟨l,hl,hg⟩,h3,h4,h5,h6⟩
  ·exact .inl h
  ·exact .inr ⟨g,h1,⟨l,by simp[hl],hg⟩,h3,h4,h5,fun h=>by
    rcases List.mem_append.1 h with h|h
    ·exact h6 h
    ·exact hdis l hl g hg h⟩
 ·rw[List.nodup_append]
  refine⟨ho.nodup,hnd,fun a ha b hb hab=>?_⟩
  subst hab
  obtain⟨l,hl,h⟩:=ho.sub a ha
  exact hdis l hl a h hb
 ·exact elems_deep hM hd rfl ho.el hY (fun k hk=>by
   obtain⟨l,hl,h⟩:=hss k hk
   obtain⟨y,hy⟩:=hLL l hl
   exact hM.lt l y hy k h) hne
 ·obtain rfl:=hA
  subst hY0;exact hM.nilRow hid hLL (by simp)
end
end Go.Vm
namespace Go.Vm
open Go
section
variable {γ:Nat→G} {w:World} {P:Program} {e:Env} {ty:TypeId} {B:Nat→List Nat} {lk lkS:Look}
theorem room_ok{n b:Nat}(h:roomOK n b=true):n*b≤140737488355328:=by simpa[roomOK]using h
theorem srcT_flat{tx:Option Ty}{t:Ty}{b:PV}{x:(u:Ty)×List u.den}(hf:t.flat=false)(h:(srcT lkS tx t b).run=some x):(srcL lkS tx b).run=some x:=by
 unfold srcT at h
 split at h
 ·simp only[Out.need_some,hf,Bool.false_and]at h;exact absurd h.1 (by decide)
 ·exact h
theorem srcT_sound(hE:EnvOK P e)(hM:Mem γ B w lk)(hS:Sub lkS lk){tx:TypeId}{b:PV}{t:Ty}{ys:List t.den}(ht:tyOf e ty=some (.sl t))(h:(srcT lkS (tyOf e tx) t b).run=some ⟨t,ys⟩){vb:Value}(hv:VRel γ (Dom lk) w (Owned B lk) b vb):
  ∃news,SrcG P ty tx t.sz vb ys.length news w∧ ∀O',Free B lk O' (ids b)→EL (DRel w O' false t) ys news []:=by
 unfold srcT at h
 split at h
 ·rename_i htx
  simp only[Out.need_some,Out.bind_some,Out.ret_some,Bool.and_eq_true]at h
  obtain⟨⟨hf,hp⟩,n,hn,h⟩:=h
  simp only[Sigma.mk.injEq,heq_eq_eq,true_and]at h
  subst h
  obtain⟨k,m,rfl,hm,rfl⟩:=asNat_some hn hv
  obtain⟨el,hi,hel⟩:=(hE.ty _ _ ht: ∃el,Inf P (.sl t) ty (.slice el)∧TyOK P t el)
  obtain⟨d,⟨_,i,z,q1,q2,q3,q4,q5,_⟩,_⟩:=TyOK.inf hel
  have hzs:z.cells.size=t.sz:=by
   have:=DRel.length (w:=w) (O:=fun _=>False) (m:=true) _ _ _ _ (q5.data t _)
   simpa using this
  have hu:=(hE.ty _ _ htx:Inf P (.int .i64) tx (.int .i64)).und
  have hflat:(Builtin.zeroCells z.cells m.toNat).toList=(List.replicate m.toNat z.cells.toList).flatten:=by
   have:=madeCells_flatten hzs m.toNat
   rw[←this,←hzs];rfl
  have hel2: ∀O',EL (DRel w O' false t) (List.replicate m.toNat (zeroD t)) (Builtin.zeroCells z.cells m.toNat).toList []:=fun O'=>by
   rw[hflat];exact EL.replicate (DRel.flat _ _ _ _ hf (q5.data (w:=w) (O:=fun _=>False) (m:=true) t _)).2 _
  refine⟨(Builtin.zeroCells z.cells m.toNat).toList,.inr ⟨⟨_,hu⟩,⟨k,?_⟩,by simpa using hp,?_,fun v hv'=>EL.one (fun x c b h=>DRel.one _ _ _ _ h) (hel2 (fun _=>False)) v hv',?_⟩,fun O' _=>hel2 O'⟩
  ·rw[List.length_replicate];congr 1;omega
  ·have:=EL.length (fun x c b h=>DRel.length _ _ _ _ h) (hel2 (fun _=>False));exact this
  ·intro el' i' z' h1 h2 h3
   have e1:el'=el:=by have:=hi.und;rw[this]at h1;cases h1;rfl
   subst e1
   rw[q1]at h2;cases h2
   rw[q4]at h3;cases h3
   rw[List.length_replicate]
 ·obtain⟨news,h1,h2⟩:=src_sound hE hM hS h hv
  exact⟨news,.inl h1,h2⟩
theorem Old.frozen{L:List Nat}{t:Ty}{X:List t.den}{m:Own}{A:Option Addr}{cap:Nat}{cells:List Value}{rest:List Nat}(ho:Old γ B w lk L t X m A cap cells rest){B1:Nat→List Nat}{lk1:Look}
  (h1: ∀l∈L,lk1 l=lk l∧B1 l=B l) (h2: ∀k,AllW (Owned B1 lk1) k→AllW (Owned B lk) k):Old γ B1 w lk1 L t X m A cap cells rest:=by
 refine⟨fun l hl=>by rw[(h1 l hl).1];exact ho.known l hl,ho.cap1,ho.cap2,?_,?_,ho.nodup,fun k hk=>?_⟩
 ·rcases ho.base with h|⟨g,q1,⟨l,hl,q2⟩,q3⟩
  ·exact .inl h
  ·exact .inr ⟨g,q1,⟨l,hl,by rw[(h1 l hl).2];exact q2⟩,q3⟩
 ·refine EL.mono (fun x c b _ _ h=>?_) ho.el
  cases hd:m.deep
  ·rw[RowR.shal hd]at h⊢;exact⟨h.1,h.2.less h2⟩
  ·rw[RowR.deep hd]at h⊢;exact DRel.own (Nat.le_refl _) _ _ _ _ (fun _ _=>rfl) h
 ·obtain⟨l,hl,h⟩:=ho.sub k hk
  exact⟨l,hl,by rw[(h1 l hl).2];exact h⟩
theorem freeze_known: ∀{l:List Nat} {up:Ups},(freeze lkS l).run=some up→ ∀r∈l,∃y,lkS r=some y
 |[],_,_,r,hr=>by simp at hr
 |s::l,up,h,r,hr=>by
  unfold freeze at h
  split at h
  ·rename_i t xs m hx
   simp only[Out.bind_some]at h
   obtain⟨u,h,_⟩:=h
   rcases List.mem_cons.1 hr with rfl|hr
   ·exact⟨_,hx⟩
   ·exact freeze_known h r hr
  ·simp[Out.run]at h
theorem appendTo_sound(hE:EnvOK P e)(hM:Mem γ B w lk)(hS:Sub lkS lk){id:Nat}(hid:lk id=none){L:List Nat}{t:Ty}{X:List t.den}{mo m:Own}{A:Option Addr}{cap:Nat}{cells:List Value}{rest:List Nat}(ho:Old γ B w lk L t X mo A cap cells rest)
  (hmm:(m= .full∧mo.deep=true)∨m= .shal) (ht:tyOf e ty=some (.sl t)) {tx rt:TypeId} (hby:0<t.by) {b p:PV} {up:Ups} (h:(appendTo lkS (tyOf e tx) id b t X m L).run=some (p,up)) {vb:Value} (hv:VRel γ (Dom lk) w (Owned B lk) b vb):
  ∃v' w' γ' B',(Builtin.append_ #[ty,tx] rt #[.slice A X.length cap,vb]).run P w= .ok v' w'∧Post γ B w lk up p γ' B' w' v':=by
 simp only[appendTo,Out.bind_some,Out.guard_some]at h
 obtain⟨⟨u,ys⟩,hs,Y,hc,hroom,h⟩:=h
 obtain⟨hut,rfl⟩:=castL_some.1 hc
 dsimp only at hut
 subst hut
 dsimp only at h hroom
 obtain⟨news,hsrc,hnews⟩:=srcT_sound hE hM hS ht hs hv
 have hfit:=room_ok hroom
 have h':=Out.cond_some.1 h
 clear h
 rcases h' with⟨hf,h⟩|⟨hf,h⟩
 ·
  simp only[Out.ret_some,Prod.mk.injEq]at h
  obtain⟨rfl,rfl⟩:=h
  obtain⟨rfl,hX⟩:=ho.flat hf
  have hY:=(hnews _ (noneFree B lk _))
  have hY':EL (DRel w (AllW (Owned B lk)) true u) ys news []:=EL.mono (fun x c bb _ _ hz=>by
   obtain rfl:=DRel.noblocks _ _ _ _ hz
   exact(DRel.flat _ _ _ _ hf hz).2) hY
  have ho':Old γ B w lk L u X .full A cap cells []:=⟨ho.known,ho.cap1,ho.cap2,ho.base,hX _ _,ho.nodup,ho.sub⟩
  have:=append_deep (L':=[]) hE hM hid ho' rfl ht (tx:=tx) (rt:=rt) hsrc hfit hby (by simp) (by simp) hY' (by simp) (by simp)
  simpa using this
 ·replace hs:=srcT_flat hf hs
  split at h
  ·
   simp only[Out.ret_some,Prod.mk.injEq]at h
   obtain⟨rfl,rfl⟩:=h
   have hys:ys=[]:=by
    simp only[srcL,Out.need_some,Vm.sliceOf,Out.ret_some,Sigma.mk.injEq]at hs
    obtain⟨_,rfl,hs⟩:=hs
    exact(eq_of_heq hs).symm
   subst hys
   have hn0:news=[]:=List.length_eq_zero_iff.1 (by simpa using hsrc.newsLen)
   subst hn0
   rcases hmm with⟨rfl,hd⟩|rfl
   ·have:=append_deep (L':=[]) hE hM hid ho hd ht (tx:=tx) (rt:=rt) hsrc hfit hby (by simp) (by simp) (restY:=[]) ⟨rfl,rfl⟩ (by simp) (by simp)
    simpa using this
   ·exact append_shal hE hM hid ho ht hsrc hfit hby (fun O' _=>⟨rfl,rfl⟩)
  ·
   simp only[Out.ret_some,Prod.mk.injEq]at h
   obtain⟨rfl,rfl⟩:=h
   exact append_shal hE hM hid ho ht hsrc hfit hby (fun O' hO=>hnews O' ⟨hO,fun r hr=>by simp[ids]at hr⟩)
  ·simp only[Out.need_some]at h
   obtain⟨hapart,h⟩:=h
   have hap: ∀s∈ids b,s∉L:=fun s hs' hl=>by
    simp only[Bool.not_eq_true',List.any_eq_false]at hapart
    exact hapart s hs' (by simpa using hl)
   split at h
   ·
    rename_i r uu zs _ _ hlit
    simp only[Out.ret_some,Prod.mk.injEq]at h
    obtain⟨rfl,rfl⟩:=h
    have hd:mo.deep=true:=by
     rcases hmm with⟨_,hd⟩|h
     ·exact hd
     ·cases h
    have hlit':=hS _ _ hlit
    simp only[ids,List.headD_cons]at hlit hlit' hap
    have hzs:uu=u∧HEq zs ys:=by
     simp only[srcL,Out.need_some,Vm.sliceOf,rowL,hlit,Out.ret_some,Sigma.mk.injEq]at hs
     exact hs.2
    obtain⟨rfl,hzs⟩:=hzs
    obtain rfl:=eq_of_heq hzs
    have hsl:isSl (tyOf e tx)=true:=by
     simp only[srcL,Out.need_some]at hs;exact hs.1
    simp only[VRel,VRel0,LRel]at hv
    obtain⟨hdr,v,t',e1,e2,_⟩:=hv
    simp only[List.cons.injEq,and_true]at e2
    subst e2
    obtain⟨v',e3,hrow|hrow⟩:=(hM.rel r _ hlit').row
    ·rw[e1]at e3
     cases e3
     have hown:=hrow.2
     rw[RowR.deep rfl]at hown
     have hL1: ∀l∈[r],∃y,lk l=some y:=by simp[hlit']
     have hap1: ∀l∈[r],l∉L:=fun l hl=>hap l (by simpa using hl)
     rcases hown with⟨_,rfl,rfl,hB⟩|⟨g,c,cs,rs,rfl,q1,q2,q3,q4,q5,q6,q7⟩
     ·have hn0:news=[]:=List.length_eq_zero_iff.1 (by simpa using hsrc.newsLen)
      subst hn0
      exact append_deep (L':=[r]) hE hM hid ho hd ht (tx:=tx) (rt:=rt) hsrc hfit hby hL1 hap1 (restY:=[]) ⟨rfl,rfl⟩ (by simp) (by simp)
     ·unfold isSl at hsl
      split at hsl
      ·rename_i u' htx
       obtain⟨el,hi,_⟩:=(hE.ty _ _ htx: ∃el,Inf P (.sl u') tx (.slice el)∧TyOK P u' el)
       have hsrc':SrcG P ty tx _ (.slice (some ⟨g,0,none⟩) zs.length c) zs.length cs w:= .inl<|Src.ofSlice w hi.und _ _ c cs (EL.length (fun x c b h=>DRel.length _ _ _ _ h) q6) (fun j u hj=>by rw[Addr.add_mid];exact q4 j u hj)
        (fun v hv'=>EL.one (fun x c b h=>DRel.one _ _ _ _ h) q6 v hv')
       have hnd:=hM.nodup r _ hlit'
       rw[q7,List.nodup_cons]at hnd
       exact append_deep (L':=[r]) hE hM hid ho hd ht (tx:=tx) (rt:=rt) hsrc' hfit hby hL1 hap1 q6 hnd.2 (fun k hk=>⟨r,by simp,by rw[q7];simp[hk]⟩)
      ·cases hsl
    ·exact absurd hrow.1 (by simp)
   ·
    simp only[Out.bind_some,Out.ret_some,Prod.mk.injEq]at h
    obtain⟨fz,hfz,rfl,rfl⟩:=h
    obtain⟨B1,k1,k2,k3,k4,k5⟩:=hM.freezeL hS.rows hfz
    have hid1:updF lk fz id=none:=by
     rw[(k4 id (fun hi=>by
      obtain⟨y,hy⟩:=freeze_known hfz id hi
      rw[hS _ _ hy]at hid;cases hid)).1];exact hid
    have ho1:Old γ B1 w (updF lk fz) L u X mo A cap cells rest:=ho.frozen (fun l hl=>k4 l fun hi=>hap l hi hl) (fun k hk=>(k3 k hk).1)
    obtain⟨v',w',γ',B',r1,r2⟩:=append_shal hE k1 hid1 ho1 ht (tx:=tx) (rt:=rt) hsrc hfit hby (fun O' hO=>hnews O' ⟨fun k hk=>(k3 k (hO k hk)).1,fun s hs' k hk hk'=>(k3 k (hO k hk')).2 s hs' hk⟩)
    refine⟨v',w',γ',B',r1,?_⟩
    have hu:updF lk (fz++(L.map (fun r=>(r,none))++[(id,some (.row u (X++ys) .shal))]))=updF (updF lk fz) (L.map (fun r=>(r,none))++[(id,some (.row u (X++ys) .shal))]):=updF_append _ _ _
    refine⟨by rw[hu];exact r2.mem,?_,by rw[hu];exact r2.val⟩
    rw[hu]
    refine(k2.trans r2.kp).weaken ?_
    rintro s _ (hs'|hs')
    ·rw[List.map_append];exact List.mem_append_left _ hs'
    ·rw[List.map_append];exact List.mem_append_right _ hs'
end
end Go.Vm
namespace Go.Vm
open Go
section
variable {γ:Nat→G} {w:World} {P:Program} {e:Env} {ty:TypeId} {B:Nat→List Nat} {lk lkS:Look}
theorem Mem.oldRow(hM:Mem γ B w lk){r:Nat}{t:Ty}{xs:List t.den}{m:Own}(hx:lk r=some (.row t xs m))(hm:m≠ .froz){v:Value}(hv:VRel γ (Dom lk) w (Owned B lk) (.rf r) v):
  ∃A cap cells rest,v= .slice A xs.length cap∧Old γ B w lk [r] t xs m A cap cells rest:=by
 simp only[VRel,VRel0,LRel]at hv
 obtain⟨hd,v',t',e1,e2,_⟩:=hv
 simp only[List.cons.injEq,and_true]at e2
 subst e2
 obtain⟨v',e3,h|h⟩:=(hM.rel r _ hx).row
 ·rw[e1]at e3
  cases e3
  rcases h.2 with⟨A,rfl,rfl,hB⟩|⟨g,c,cs,rs,rfl,q1,q2,q3,q4,q5,q6,q7⟩
  ·exact⟨A,0,[],[],rfl,⟨by simp[hx],by simp,Nat.zero_le _,.inl ⟨rfl,rfl,rfl,rfl⟩,⟨rfl,rfl⟩,by simp,by simp⟩⟩
  ·have hnd:=hM.nodup r _ hx
   rw[q7,List.nodup_cons]at hnd
   exact⟨_,c,cs,rs,rfl,⟨by simp[hx],q1,q2,.inr ⟨g,rfl,⟨r,by simp,by rw[q7];simp⟩,q3,q4,q5,hnd.1⟩,q6,hnd.2,fun k hk=>⟨r,by simp,by rw[q7];simp[hk]⟩⟩⟩
 ·exact absurd h.1 hm
theorem Old.take{r:Nat}{t:Ty}{xs:List t.den}{m:Own}{A:Option Addr}{cap:Nat}{cells:List Value}{rest:List Nat}(ho:Old γ B w lk [r] t xs m A cap cells rest){n:Nat}(hn:n≤xs.length):
  ∃rest',Old γ B w lk [r] t (xs.take n) m A cap (cells.take (n*t.sz)) rest':=by
 obtain⟨b1,b2,hb,h1,_⟩:=EL.take_drop RowR.length n ho.el
 refine⟨b1,ho.known,by simp;have:=ho.cap1;omega,ho.cap2,?_,h1,?_,fun k hk=>ho.sub k (by rw[hb];simp[hk])⟩
 ·rcases ho.base with⟨rfl,rfl,q4,q5⟩|⟨g,q1,q2,q3,q4,q5,q6⟩
  ·refine .inl ⟨by simp,by simp,?_,q5⟩
   rw[q4]at hb;simp at hb;exact hb.1
  ·refine .inr ⟨g,q1,q2,q3,fun j v hj=>q4 j v ?_,q5,fun h=>q6 (by rw[hb];simp[h])⟩
   rw[List.getElem?_take]at hj
   split at hj
   ·exact hj
   ·cases hj
 ·have:=ho.nodup
  rw[hb,List.nodup_append]at this
  exact this.1
theorem appendV_sound(hE:EnvOK P e)(hM:Mem γ B w lk)(hS:Sub lkS lk){id:Nat}(hid:lk id=none){tx rt:TypeId}{a b p:PV}{up:Ups}(h:(appendV lkS (tyOf e ty) (tyOf e tx) id a b).run=some (p,up)){va vb:Value}
  (hva:VRel γ (Dom lk) w (Owned B lk) a va) (hvb:VRel γ (Dom lk) w (Owned B lk) b vb):
  ∃v' w' γ' B',(Builtin.append_ #[ty,tx] rt #[va,vb]).run P w= .ok v' w'∧Post γ B w lk up p γ' B' w' v':=by
 unfold appendV at h
 split at h
 ·rename_i t
  simp only[Out.need_some,Bool.and_eq_true,beq_iff_eq]at h
  obtain⟨⟨ht,hby⟩,h⟩:=h
  have hby':0<t.by:=by simpa using hby
  simp only[VRel,VRel0,LRel,List.cons.injEq,and_true]at hva
  subst hva
  exact appendTo_sound hE hM hS hid (X:=([]:List t.den)) (mo:= .full) (A:=none) (cap:=0) (cells:=[]) (rest:=[]) ⟨by simp,by simp,Nat.zero_le _,.inl ⟨rfl,rfl,rfl,rfl⟩,⟨rfl,rfl⟩,by simp,by simp⟩ (.inl ⟨rfl,rfl⟩) ht hby' h hvb
 ·rename_i r
  split at h
  ·rename_i t xs m hx
   simp only[Out.need_some,Bool.and_eq_true,beq_iff_eq,Bool.not_eq_true',decide_eq_false_iff_not]at h
   obtain⟨⟨⟨ht,hby⟩,hm⟩,h⟩:=h
   have hby':0<t.by:=by simpa using hby
   obtain⟨A,cap,cells,rest,rfl,ho⟩:=hM.oldRow (hS _ _ hx) hm hva
   refine appendTo_sound hE hM hS hid ho ?_ ht hby' h hvb
   cases hd:m.deep
   ·exact .inr rfl
   ·exact .inl ⟨rfl,rfl⟩
  ·simp[Out.run]at h
 ·rename_i r n
  split at h
  ·rename_i t xs m hx
   simp only[Out.need_some,Bool.and_eq_true,beq_iff_eq,Bool.not_eq_true',decide_eq_false_iff_not]at h
   obtain⟨⟨⟨ht,hby⟩,hm⟩,h⟩:=h
   have hby':0<t.by:=by simpa using hby
   simp only[VRel,VRel0,LRel]at hva
   obtain⟨hd,v',t',A,N,cap,A',c',e',rfl,e'',h1,h2,h3,h4,h5⟩:=hva
   simp only[List.cons.injEq,and_true]at e''
   subst e''
   obtain rfl:=h5 trivial
   obtain rfl:c'=cap:=by omega
   obtain⟨A2,cap2,e1,_,_⟩:=hM.rowVal (hS _ _ hx)
   rw[e']at e1
   cases e1
   have hv:VRel γ (Dom lk) w (Owned B lk) (.rf r) (.slice A' xs.length c'):=by
    simp only[VRel,VRel0,LRel]
    exact⟨hd,_,t,e',rfl,rfl⟩
   obtain⟨A3,cap3,cells,rest,e3,ho⟩:=hM.oldRow (hS _ _ hx) hm hv
   cases e3
   obtain⟨rest',ho'⟩:=ho.take (n:=n) (by omega)
   have:=appendTo_sound (rt:=rt) hE hM hS hid ho' (.inr rfl) ht hby' h hvb
   have hl:(xs.take n).length=n:=by simp;omega
   rwa [hl]at this
  ·simp[Out.run]at h
 ·simp[Out.run]at h
end
end Go.Vm
namespace Go.Vm
open Go
inductive All2{α β:Type}(R:α→β→Prop):List α→List β→Prop
 |nil:All2 R [] []
 |cons {a:α} {b:β} {l:List α} {m:List β}:R a b→All2 R l m→All2 R (a::l) (b::m)
theorem fold_set(off:Nat): ∀(vs:List Value) (cells:Array Value) (k:Nat),off+k+vs.length≤cells.size→
  ((vs.zipIdx k).foldl (fun cs (x:Value×Nat)=>cs.setIfInBounds (off+x.2) x.1) cells).toList=cells.toList.take (off+k)++vs++cells.toList.drop (off+k+vs.length)
 |[],cells,k,h=>by simp
 |v::vs,cells,k,h=>by
  simp only[List.length_cons]at h
  rw[List.zipIdx_cons,List.foldl_cons,fold_set off vs _ (k+1) (by simp;omega)]
  have hlt:off+k<cells.toList.length:=by rw[Array.length_toList];omega
  simp only[Array.toList_setIfInBounds]
  rw[show off+(k+1)=off+k+1 by omega,List.take_succ_eq_append_getElem (by simpa using hlt)]
  simp only[List.getElem_set_self,List.take_set_of_le (Nat.le_refl _),List.length_cons]
  rw[List.drop_set_of_lt (by omega),show off+k+1+vs.length=off+k+(vs.length+1) by omega]
  simp
theorem fill_cons{place:Nat→Option (Nat×Nat)}{cells:Array Value}{i off size:Nat}{v:Value}{rest:List (Nat×Value)}(hp:place i=some (off,size))(hs:v.cells.size=size){c1 c2 c3:List Value}(hc:cells.toList=c1++c2++c3)(h1:c1.length=off)(h2:c2.length=size):
  ∃cells':Array Value,cells'.toList=c1++v.cells.toList++c3∧Instr.fill place cells ((i,v)::rest)=Instr.fill place cells' rest:=by
 have hsz:cells.size=c1.length+c2.length+c3.length:=by rw[←Array.length_toList,hc];simp;omega
 refine⟨v.cells.zipIdx.foldl (fun cs (c,j)=>cs.setIfInBounds (off+j) c) cells,?_,?_⟩
 ·rw[←Array.foldl_toList,Array.toList_zipIdx]
  have:=fold_set off v.cells.toList cells 0 (by simp;omega)
  simp only[Nat.add_zero]at this
  have e:off+v.cells.toList.length=(c1++c2).length:=by simp;omega
  rw[this,hc,e,List.drop_left,←h1]
  simp
 ·have:(decide (v.cells.size≠size)||decide (off+v.cells.size>cells.size))=false:=by
   simp;omega
  simp only[Instr.fill,hp,this]
  rfl
section
variable {γ:Nat→G} {w:World} {P:Program} {e:Env} {ty:TypeId} {B:Nat→List Nat} {lk lkS:Look}
theorem fillPs_sound{u:Ty}{D:Nat→Nat}{W:Nat→Nat→Prop}{place:Nat→Option (Nat×Nat)}(hplace: ∀i k t,fieldOf u i=some (k,t)→place i=some (offL u k,t.sz)): ∀{parts:List (Nat×PV)} {vs:List (Nat×Value)} {ps ps':List PV} {cells:Array Value},
  (fillPs u ps parts).run=some ps'→All2 (fun(x:Nat×PV) (y:Nat×Value)=>x.1=y.1∧VRel γ D w W x.2 y.2) parts vs→LL γ D w W ps cells.toList→ps.map szV=szT u→nstFree ps=true→
  ∃cells',Instr.fill place cells vs=some cells'∧LL γ D w W ps' cells'.toList∧ps'.map szV=szT u∧nstFree ps'=true
 |[],vs,ps,ps',cells,h,hv,hl,hsz,hn=>by
  cases hv
  simp only[fillPs,Out.ret_some]at h
  subst h
  exact⟨cells,rfl,hl,hsz,hn⟩
 |(i,p)::parts,vs,ps,ps',cells,h,hv,hl,hsz,hn=>by
  cases hv with
  |cons hpv hrest=>
   rename_i y vs
   obtain⟨i',v⟩:=y
   obtain⟨rfl,hpv⟩:=hpv
   simp only[fillPs]at h
   split at h
   ·rename_i k t hf
    simp only[Out.need_some,Out.bind_some]at h
    obtain⟨⟨htop,hal⟩,ps1,hsb,h⟩:=by simpa only[Bool.and_eq_true]using h
    simp only[setBox,Out.need_some,Out.ret_some,Bool.and_eq_true,decide_eq_true_eq]at hsb
    obtain⟨⟨⟨hk,hal2⟩,hn2⟩,rfl⟩:=hsb
    have hw:=(hpv.unpack htop).1
    obtain⟨c1,c2,c3,e1,k1,e2,k2,k3⟩:=hl.split k (unpack p).length
    rw[hsz]at e2
    have hvs:v.cells.size=t.sz:=by
     have:=hw.length
     rw[←alikeL_sz hal,zeroL_sz,szT_sum]at this
     simpa using this
    have hc2:c2.length=t.sz:=by rw[k2.length,alikeL_sz hal2,←alikeL_sz hal,zeroL_sz,szT_sum]
    obtain⟨cells',q1,q2⟩:=fill_cons (rest:=vs) (hplace i k t hf) hvs e1 e2 hc2
    have hpe:ps=ps.take k++((ps.drop k).take (unpack p).length++ps.drop (k+(unpack p).length)):=by rw[←List.drop_drop,List.take_append_drop,List.take_append_drop]
    have hmap:(ps.take k++unpack p++ps.drop (k+(unpack p).length)).map szV=szT u:=by
     rw[←hsz]
     conv=>rhs;rw[hpe]
     simp only[List.map_append,alikeL_sz hal2,List.append_assoc]
    have hn':nstFree (ps.take k++unpack p++ps.drop (k+(unpack p).length))=true:=by
     rw[hpe]at hn
     rw[nstFree_append,nstFree_append]at hn
     rw[nstFree_append,nstFree_append]
     exact⟨⟨hn.1,hn2⟩,hn.2.2⟩
    rw[q2]
    exact fillPs_sound hplace h hrest (by rw[q1];exact(k1.append hw).append k3) hmap hn'
   ·simp[Out.run]at h
end
end Go.Vm
namespace Go.Vm
open Go
section
variable {γ:Nat→G} {w:World} {P:Program} {e:Env} {ty:TypeId} {B:Nat→List Nat} {lk lkS:Look}
theorem places_of: ∀{fs:List Field},(∀f∈fs,∃i,P.info? f.type=some i)→ ∃places,fs.mapM (fun f=>(P.info? f.type).map fun i=>(f.offset,i.size))=some places∧ ∀(j:Nat) (f:Field) i,fs[j]?=some f→P.info? f.type=some i→places[j]?=some (f.offset,i.size)
 |[],_=>⟨[],by simp,by simp⟩
 |f::fs,h=>by
  obtain⟨i,hi⟩:=h f (by simp)
  obtain⟨places,h1,h2⟩:=places_of (fs:=fs) (fun f hf=>h f (by simp[hf]))
  refine⟨(f.offset,i.size)::places,by simp[List.mapM_cons,hi,h1],fun j f' i' hj hi'=>?_⟩
  cases j with
  |zero=>
   simp only[List.getElem?_cons_zero,Option.some.injEq]at hj
   subst hj
   rw[hi]at hi'
   cases hi';rfl
  |succ j=>simpa using h2 j f' i' (by simpa using hj) hi'
theorem TyOK.info{t:Ty}{n:Nat}(h:TyOK P t n): ∃i,P.info? n=some i∧i.size=t.sz:=by
 obtain⟨d,⟨_,i,z,h1,h2,_⟩,_⟩:=h.inf
 exact⟨i,h1,h2⟩
theorem TyR.known: ∀{t:Ty} {fs:List Field} {off:Nat},(TyR P t).2 fs off→ ∀f∈fs,∃i,P.info? f.type=some i
 | .pair a b,fs,off,h,f,hf=>by
  obtain⟨fd,r,rfl,_,h2,h3⟩:=h
  rcases List.mem_cons.1 hf with rfl|hf
  ·obtain⟨i,h,_⟩:=TyOK.info h2;exact⟨i,h⟩
  ·exact TyR.known h3 f hf
 | .unit,fs,off,h,f,hf=>by rw[show fs=[]from h]at hf;simp at hf
 | .int _,fs,off,h,f,hf=>by
  obtain⟨fd,rfl,_,h2⟩:=h
  simp only[List.mem_singleton]at hf
  subst hf;obtain⟨i,h,_⟩:=TyOK.info (t:= .int _) h2;exact⟨i,h⟩
 | .bool,fs,off,h,f,hf=>by
  obtain⟨fd,rfl,_,h2⟩:=h
  simp only[List.mem_singleton]at hf
  subst hf;obtain⟨i,h,_⟩:=TyOK.info (t:= .bool) h2;exact⟨i,h⟩
 | .str,fs,off,h,f,hf=>by
  obtain⟨fd,rfl,_,h2⟩:=h
  simp only[List.mem_singleton]at hf
  subst hf;obtain⟨i,h,_⟩:=TyOK.info (t:= .str) h2;exact⟨i,h⟩
 | .err,fs,off,h,f,hf=>by
  obtain⟨fd,rfl,_,h2⟩:=h
  simp only[List.mem_singleton]at hf
  subst hf;obtain⟨i,h,_⟩:=TyOK.info (t:= .err) h2;exact⟨i,h⟩
 | .ref,fs,off,h,f,hf=>by
  obtain⟨fd,rfl,_,h2⟩:=h
  simp only[List.mem_singleton]at hf
  subst hf;obtain⟨i,h,_⟩:=TyOK.info (t:= .ref) h2;exact⟨i,h⟩
 | .sl t,fs,off,h,f,hf=>by
  obtain⟨fd,rfl,_,h2⟩:=h
  simp only[List.mem_singleton]at hf
  subst hf;obtain⟨i,h,_⟩:=TyOK.info (t:= .sl t) h2;exact⟨i,h⟩
 | .arr n t,fs,off,h,f,hf=>by
  obtain⟨fd,rfl,_,h2⟩:=h
  simp only[List.mem_singleton]at hf
  subst hf;obtain⟨i,h,_⟩:=TyOK.info (t:= .arr n t) h2;exact⟨i,h⟩
 | .st t,fs,off,h,f,hf=>by
  obtain⟨fd,rfl,_,h2⟩:=h
  simp only[List.mem_singleton]at hf
  subst hf;obtain⟨i,h,_⟩:=TyOK.info (t:= .st t) h2;exact⟨i,h⟩
theorem build_sound(hE:EnvOK P e){u:Ty}(ht:tyOf e ty=some (.st u)){parts:List (Nat×PV)}{vs:Array (Nat×Value)}{ps:List PV}(h:(fillPs u (zeroL u) parts).run=some ps)
  (hv:All2 (fun(x:Nat×PV) (y:Nat×Value)=>x.1=y.1∧VRel γ (Dom lk) w (Owned B lk) x.2 y.2) parts vs.toList):Gives P γ B w lk (Instr.build ty vs) (.ag ps):=by
 obtain⟨fs,⟨hu,i,z,q1,q2,_,q4,q5,_⟩,hfs⟩:=(hE.ty _ _ ht: ∃fs,Inf P (.st u) ty (.struct fs)∧(TyR P u).2 fs.toList 0)
 obtain⟨places,p1,p2⟩:=places_of (P:=P) (TyR.known hfs)
 obtain⟨cells,r1,r2,_⟩:=fillPs_sound (γ:=γ) (D:=Dom lk) (w:=w) (W:=Owned B lk) (place:=(places.toArray[·]?)) (fun i k t hf=>by
  obtain⟨fd,h1,h2,h3,_⟩:=TyR.field hfs hf
  obtain⟨i,h4,h5⟩:=TyOK.info h3
  have:=p2 _ _ _ h1 h4
  simp only[List.getElem?_toArray,this,h2,h5,Nat.zero_add]) (cells:=z.cells) h hv (q5.leaves u _) (zeroL_sz u) (by simpa using zeroL_nstFree u [] rfl)
 refine⟨.agg cells,run_build w ty vs cells ?_,?_⟩
 ·simp only[Program.built,q1,hu,q4,p1];exact r1
 ·simp only[VRel,VRel0];exact⟨cells.toList,by simp,r2⟩
end
end Go.Vm
namespace Go.Vm
open Go
section
variable {γ:Nat→G} {w:World} {P:Program} {e:Env} {ty:TypeId} {B:Nat→List Nat} {lk lkS:Look}
theorem fillXs_flat(hM:Mem γ B w lk)(hS:Sub lkS lk){t:Ty}(hf:t.flat=true): ∀{parts:List (Nat×PV)} {vs:List (Nat×Value)} {xs xs':List t.den} {cells:Array Value},
  (fillXs lkS t xs parts).run=some xs'→All2 (fun(x:Nat×PV) (y:Nat×Value)=>x.1=y.1∧VRel γ (Dom lk) w (Owned B lk) x.2 y.2) parts vs→(∀x∈parts,x.1<xs.length)→EL (DRel w (fun _=>False) false t) xs cells.toList []→
  ∃cells',Instr.fill (fun i=>some (i*t.sz,t.sz)) cells vs=some cells'∧EL (DRel w (fun _=>False) false t) xs' cells'.toList []∧xs'.length=xs.length
 |[],vs,xs,xs',cells,h,hv,_,hl=>by
  cases hv
  simp only[fillXs,Out.ret_some]at h
  subst h
  exact⟨cells,rfl,hl,rfl⟩
 |(i,p)::parts,vs,xs,xs',cells,h,hv,hi,hl=>by
  cases hv with
  |cons hpv hrest=>
   rename_i y vs
   obtain⟨i',v⟩:=y
   obtain⟨rfl,hpv⟩:=hpv
   simp only[fillXs,Out.bind_some]at h
   obtain⟨y,hy,h⟩:=h
   obtain⟨hd,_⟩:=hM.toD hS hy hpv (noneFree B lk _)
   have hlt:=hi (i,p) (by simp)
   dsimp only at hlt
   obtain⟨c1,c,c3,b1,b',b3,e1,e2,e3,h3,h4⟩:=EL.get (fun x c b h=>DRel.length _ _ _ _ h) hl (List.getElem?_eq_getElem hlt)
   obtain rfl:=DRel.noblocks _ _ _ _ h3
   have hvs:v.cells.size=t.sz:=by have:=DRel.length _ _ _ _ hd;simpa using this
   obtain⟨cells',q1,q2⟩:=fill_cons (place:=fun i=>some (i*t.sz,t.sz)) (rest:=vs) rfl hvs e1 e2 (DRel.length _ _ _ _ h3)
   rw[q2]
   have h5:=h4 y v.cells.toList [] hd
   obtain⟨cells2,r1,r2,r3⟩:=fillXs_flat hM hS hf h hrest (fun x hx=>by rw[List.length_set];exact hi x (by simp[hx])) (cells:=cells') (by rw[q1];rw[←e3]at h5;exact h5)
   exact⟨cells2,r1,r2,by rw[r3,List.length_set]⟩
theorem buildArr_sound(hE:EnvOK P e)(hM:Mem γ B w lk)(hS:Sub lkS lk){n:Nat}{u:Ty}(ht:tyOf e ty=some (.arr n u))(hf:u.flat=true){parts:List (Nat×PV)}{vs:Array (Nat×Value)}{xs:List u.den}
  (h:(fillXs lkS u (List.replicate n (zeroD u)) parts).run=some xs) (hi: ∀x∈parts,x.1<n)
  (hv:All2 (fun(x:Nat×PV) (y:Nat×Value)=>x.1=y.1∧VRel γ (Dom lk) w (Owned B lk) x.2 y.2) parts vs.toList):Gives P γ B w lk (Instr.build ty vs) (.sc (.arr n u) xs):=by
 obtain⟨el,⟨hu,i,z,q1,q2,_,q4,q5,_⟩,hel⟩:=(hE.ty _ _ ht: ∃el,Inf P (.arr n u) ty (.array n el)∧TyOK P u el)
 obtain⟨ie,p1,p2⟩:=TyOK.info hel
 have hz:=q5.data (w:=w) (O:=fun _=>False) (m:=false) (.arr n u) _
 obtain⟨cells,r1,r2,r3⟩:=fillXs_flat hM hS hf (cells:=z.cells) h hv (by simpa using hi) hz.2
 refine⟨.agg cells,run_build w ty vs cells ?_,?_⟩
 ·simp only[Program.built,q1,hu,q4,p1,p2];exact r1
 ·simp only[VRel,VRel0,LRel]
  refine⟨cells.toList,by simp,rfl,by rw[r3];simp,EL.mono (fun x c b _ _ hx=>?_) r2⟩
  obtain rfl:=DRel.noblocks _ _ _ _ hx
  exact(DRel.flat _ _ _ _ hf hx).2
end
end Go.Vm
namespace Go.Vm
open Go
theorem fill_all{sz:Nat}: ∀{vs:List (Nat×Value)} {k:Nat} {cells:Array Value} {pre mid:List Value},cells.toList=pre++mid→pre.length=k*sz→mid.length=vs.length*sz→vs.map (·.1)=List.range' k vs.length→(∀x∈vs,x.2.cells.size=sz)→
  ∃cells':Array Value,Instr.fill (fun i=>some (i*sz,sz)) cells vs=some cells'∧cells'.toList=pre++(vs.map fun x=>x.2.cells.toList).flatten
 |[],k,cells,pre,mid,hc,h1,h2,hi,hs=>by
  have:mid=[]:=List.length_eq_zero_iff.1 (by simpa using h2)
  subst this
  exact⟨cells,rfl,by simpa using hc⟩
 |(i,v)::vs,k,cells,pre,mid,hc,h1,h2,hi,hs=>by
  simp only[List.map_cons,List.length_cons,List.range'_succ,List.cons.injEq]at hi
  obtain⟨rfl,hi⟩:=hi
  have hv:=hs (i,v) (by simp)
  dsimp only at hv
  have hm:mid=mid.take sz++mid.drop sz:=(List.take_append_drop _ _).symm
  have hml:(mid.take sz).length=sz:=by simp only[List.length_cons,Nat.succ_mul]at h2;simp;omega
  obtain⟨cells',q1,q2⟩:=fill_cons (place:=fun i=>some (i*sz,sz)) (rest:=vs) rfl hv (c1:=pre) (c2:=mid.take sz) (c3:=mid.drop sz) (by rw[hc,List.append_assoc,←hm]) h1 hml
  obtain⟨cells2,r1,r2⟩:=fill_all (vs:=vs) (k:=i+1) (cells:=cells') (pre:=pre++v.cells.toList) (mid:=mid.drop sz) q1 (by simp[h1,hv,Nat.succ_mul]) (by simp only[List.length_cons,Nat.succ_mul]at h2;simp;omega) hi (fun x hx=>hs x (by simp[hx]))
  exact⟨cells2,by rw[q2];exact r1,by rw[r2];simp⟩
section
variable {γ:Nat→G} {w:World} {P:Program} {e:Env} {ty:TypeId} {B:Nat→List Nat} {lk lkS:Look}
theorem listXs_own(hM:Mem γ B w lk)(hS:Sub lkS lk){t:Ty}{O:Nat→Prop}: ∀{ps:List PV} {vs:List Value} {xs:List t.den},(listXs lkS t ps).run=some xs→All2 (VRel γ (Dom lk) w (Owned B lk)) ps vs→ownableL lkS ps=true→
  EL (DRel w O true t) xs (vs.map fun v=>v.cells.toList).flatten ((idsL ps).flatMap B)
 |[],vs,xs,h,hv,_=>by
  cases hv
  simp only[listXs,Out.ret_some]at h
  subst h
  exact⟨rfl,by simp[idsL]⟩
 |p::ps,vs,xs,h,hv,ho=>by
  cases hv with
  |cons hp hr=>
   simp only[listXs,Out.bind_some,Out.ret_some]at h
   obtain⟨x,hx,ys,hys,rfl⟩:=h
   simp only[ownableL,Bool.and_eq_true]at ho
   exact⟨_,_,_,_,by simp,by simp[idsL],hM.toD_own hS hx hp ho.1,listXs_own hM hS hys hr ho.2⟩
theorem listXs_bor(hM:Mem γ B w lk)(hS:Sub lkS lk){t:Ty}{O':Nat→Prop}: ∀{ps:List PV} {vs:List Value} {xs:List t.den},(listXs lkS t ps).run=some xs→All2 (VRel γ (Dom lk) w (Owned B lk)) ps vs→Free B lk O' (idsL ps)→
  EL (DRel w O' false t) xs (vs.map fun v=>v.cells.toList).flatten []∧(∀v∈vs,v.cells.size=t.sz)∧xs.length=vs.length
 |[],vs,xs,h,hv,_=>by
  cases hv
  simp only[listXs,Out.ret_some]at h
  subst h
  exact⟨⟨rfl,rfl⟩,by simp,rfl⟩
 |p::ps,vs,xs,h,hv,hf=>by
  cases hv with
  |cons hp hr=>
   simp only[listXs,Out.bind_some,Out.ret_some]at h
   obtain⟨x,hx,ys,hys,rfl⟩:=h
   obtain⟨h1,_⟩:=hM.toD hS hx hp (hf.less fun r hr=>by simp[idsL,hr])
   obtain⟨h2,h3,h4⟩:=listXs_bor hM hS hys hr (hf.less fun r hr=>by simp[idsL,hr])
   refine⟨⟨_,_,[],[],by simp,rfl,h1,h2⟩,fun v hv=>?_,by simp[h4]⟩
   rcases List.mem_cons.1 hv with rfl|hv
   ·have:=DRel.length _ _ _ _ h1;simpa using this
   ·exact h3 v hv
end
end Go.Vm
namespace Go.Vm
open Go
section
variable {γ:Nat→G} {w:World} {P:Program} {e:Env} {ty:TypeId} {B:Nat→List Nat} {lk lkS:Look}
theorem run_buildSlice{el:TypeId}(hu:P.underlying ty=some (.slice el)){i:TypeInfo}{z:Value}(hi:P.info? el=some i)(hz:i.zero=some z){n:Nat}{parts:Array (Nat×Value)}(hle:n*i.size≤16777216){cells:Array Value}
  (hf:Instr.fill (fun k=>some (k*i.size,i.size)) (madeCells (if n*i.size=0 then #[]else z.cells) (n*i.size)) parts.toList=some cells) (w:World):
  (Instr.buildSlice ty n parts).run P w= .ok (.slice (some ⟨w.heap.size,0,none⟩) n n) (w.alloc (.cells cells el)):=by
 have h1: ¬n*i.size>2^24:=by omega
 unfold madeCells at hf
 by_cases h0:n*i.size=0
 ·rw[h0]at hf
  simp only[if_true,Array.range_zero',List.map_toArray,List.map_nil]at hf
  simp[Instr.buildSlice,run_underlying hu,sizeOf,typeInfo,hi,h0,Array.range_zero',hf,newRow]
 ·simp only[h0,if_false]at hf
  simp[Instr.buildSlice,run_underlying hu,sizeOf,typeInfo,hi,h0,h1,hf,newRow,zeroValue,hz]
theorem fill_size{place:Nat→Option (Nat×Nat)}: ∀{vs:List (Nat×Value)} {cells cells':Array Value},Instr.fill place cells vs=some cells'→cells'.size=cells.size
 |[],cells,cells',h=>by simp only[Instr.fill,Option.some.injEq]at h;rw[h]
 |(i,v)::vs,cells,cells',h=>by
  have key: ∀(l:List (Value×Nat)) (c:Array Value) (off:Nat),(l.foldl (fun cs (x:Value×Nat)=>cs.setIfInBounds (off+x.2) x.1) c).size=c.size:=by
   intro l
   induction l with
   |nil=>intro c off;rfl
   |cons x l ih=>intro c off;rw[List.foldl_cons,ih];simp
  unfold Instr.fill at h
  split at h
  ·cases h
  ·rename_i off size hp
   split at h
   ·cases h
   ·have:=fill_size h
    rw[this,←Array.foldl_toList]
    exact key _ _ _
theorem All2.length{α β:Type}{R:α→β→Prop}: ∀{l:List α} {m:List β},All2 R l m→l.length=m.length
 |[],_,h=>by cases h;rfl
 |a::l,_,h=>by cases h with|cons _ h=>simp[h.length]
theorem All2.map2{α β α' β':Type}{R:α→β→Prop}{R':α'→β'→Prop}{f:α→α'}{g:β→β'}(hr: ∀a b,R a b→R' (f a) (g b)): ∀{l:List α} {m:List β},All2 R l m→All2 R' (l.map f) (m.map g)
 |[],_,h=>by cases h;exact .nil
 |a::l,_,h=>by cases h with|cons h1 h2=>exact .cons (hr _ _ h1) (h2.map2 hr)
theorem All2.fst{α β:Type}{R:(Nat×α)→(Nat×β)→Prop}(hr: ∀a b,R a b→a.1=b.1): ∀{l:List (Nat×α)} {m:List (Nat×β)},All2 R l m→l.map (·.1)=m.map (·.1)
 |[],_,h=>by cases h;rfl
 |a::l,_,h=>by cases h with|cons h1 h2=>simp[hr _ _ h1,h2.fst hr]
theorem madeCells_zero(z:Array Value):madeCells z 0= #[]:=by simp[madeCells,Array.range_zero']
theorem buildSlice_sound(hE:EnvOK P e)(hM:Mem γ B w lk)(hS:Sub lkS lk){id:Nat}(hid:lk id=none){u:Ty}(ht:tyOf e ty=some (.sl u)){n:Nat}(hn1:n*u.sz≤16777216)(hn2:n≤16777216){ps:List (Nat×PV)}(hps: ∀x∈ps,x.1<n){p:PV}{up:Ups}
  (h:(bif u.flat then(fillXs lkS u (List.replicate n (zeroD u)) ps).bind fun xs=> .ret (.rf id,[(id,some (.row u xs .bare))])
    else needO (decide (ps.map (·.1)=List.range n))<|(listXs lkS u (ps.map (·.2))).bind fun xs=>(absorb lkS (ps.map (·.2))).bind fun(b,up)=> .ret (.rf id,up++[(id,some (.row u xs (bif b then .lit else .shal)))]):Out (PV×Ups)).run=some (p,up))
  {vs:Array (Nat×Value)} (hv:All2 (fun(x:Nat×PV) (y:Nat×Value)=>x.1=y.1∧VRel γ (Dom lk) w (Owned B lk) x.2 y.2) ps vs.toList):
  ∃v' w' γ' B',(Instr.buildSlice ty n vs).run P w= .ok v' w'∧Post γ B w lk up p γ' B' w' v':=by
 obtain⟨el,hi,hel⟩:=(hE.ty _ _ ht: ∃el,Inf P (.sl u) ty (.slice el)∧TyOK P u el)
 obtain⟨d,⟨_,i,z,q1,q2,q3,q4,q5,_⟩,_⟩:=TyOK.inf hel
 have hzs:z.cells.size=u.sz:=by
  have:=DRel.length (w:=w) (O:=fun _=>False) (m:=true) _ _ _ _ (q5.data u _)
  simpa using this
 have hmade:(madeCells (if n*i.size=0 then #[]else z.cells) (n*i.size)).toList=(List.replicate n z.cells.toList).flatten:=by
  rw[q2]
  by_cases h0:n*u.sz=0
  ·rw[if_pos h0,h0,madeCells_zero]
   rcases Nat.mul_eq_zero.1 h0 with h1|h1
   ·simp[h1]
   ·have:z.cells.toList=[]:=List.length_eq_zero_iff.1 (by simp[hzs,h1])
    simp[this]
  ·rw[if_neg h0];exact madeCells_flatten hzs n
 have hmsz:(madeCells (if n*i.size=0 then #[]else z.cells) (n*i.size)).size=n*u.sz:=by rw[size_madeCells,q2]
 have hmax:n≤maxLen:=by simp only[maxLen];omega
 rw[Out.cond_some]at h
 rcases h with⟨hf,h⟩|⟨hf,h⟩
 ·simp only[Out.bind_some,Out.ret_some,Prod.mk.injEq]at h
  obtain⟨xs,hxs,rfl,rfl⟩:=h
  obtain⟨cells,r1,r2,r3⟩:=fillXs_flat hM hS hf (cells:=madeCells (if n*i.size=0 then #[]else z.cells) (n*i.size)) hxs hv (by simpa using hps) (by rw[hmade];exact EL.replicate (q5.data u _) n)
  have hrun:=run_buildSlice (P:=P) hi.und q1 q4 (n:=n) (parts:=vs) (by rw[q2];exact hn1) (cells:=cells) (by rw[q2]at r1⊢;exact r1) w
  have hcs:=fill_size r1
  rw[hmsz]at hcs
  have hmore:=More.alloc w (.cells cells el)
  have hlen:xs.length=n:=by rw[r3];simp
  obtain⟨γ',B',hp⟩:=hM.addBare hid hmore (t:=u) (xs:=xs) (v:= .slice (some ⟨w.heap.size,0,none⟩) n n)
   (by
    rw[RowR.deep rfl]
    refine .inr ⟨w.heap.size,n,cells.toList,[],by rw[hlen],by omega,hmax,by simp,fun j v hj=>?_,fun j hj=>?_,EL.mono (fun x c b _ _ hx=>?_) r2,rfl⟩
    ·rw[Nat.zero_add,hmore.cell];simpa using hj
    ·rw[Nat.zero_add,hmore.cell,hmore.frozen]
     exact⟨by rw[Array.getElem?_eq_getElem (by rw[hcs];exact hj)];rfl,by simp⟩
    ·obtain rfl:=DRel.noblocks _ _ _ _ hx
     exact(DRel.flat _ _ _ _ hf hx).2) rfl
  exact⟨_,_,γ',B',hrun,hp⟩
 ·simp only[Out.need_some,Out.bind_some,Out.ret_some,Prod.mk.injEq,decide_eq_true_eq]at h
  obtain⟨hrange,xs,hxs,⟨bb,up'⟩,hab,rfl,rfl⟩:=h
  have hv2:All2 (VRel γ (Dom lk) w (Owned B lk)) (ps.map (·.2)) (vs.toList.map (·.2)):=hv.map2 fun a b h=>h.2
  have hfst:vs.toList.map (·.1)=List.range n:=by rw[←hrange];exact(hv.fst fun a b h=>h.1).symm
  have hvl:vs.toList.length=n:=by have:=congrArg List.length hfst;simpa using this
  obtain⟨_,hsizes,hxl⟩:=listXs_bor hM hS hxs hv2 (noneFree B lk _)
  have hlen:xs.length=n:=by rw[hxl];simpa using hvl
  obtain⟨cells,r1,r2⟩:=fill_all (sz:=u.sz) (vs:=vs.toList) (k:=0) (cells:=madeCells (if n*i.size=0 then #[]else z.cells) (n*i.size)) (pre:=[]) (mid:=(List.replicate n z.cells.toList).flatten)
   (by rw[hmade];rfl) (by simp) (by simp[hzs,hvl]) (by rw[hfst,hvl,List.range_eq_range']) (fun x hx=>hsizes _ (List.mem_map_of_mem hx))
  have hrun:=run_buildSlice (P:=P) hi.und q1 q4 (n:=n) (parts:=vs) (by rw[q2];exact hn1) (cells:=cells) (by rw[q2]at r1⊢;exact r1) w
  have hcs:=fill_size r1
  rw[hmsz]at hcs
  have hmore:=More.alloc w (.cells cells el)
  have hra:(w.alloc (.cells cells el)).rangeAt w.heap.size 0 (vs.toList.map fun x=>x.2.cells.toList).flatten:=fun j v hj=>by
   rw[Nat.zero_add,hmore.cell,←Array.getElem?_toList,r2];simpa using hj
  have hth:(w.alloc (.cells cells el)).there w.heap.size 0 (n*u.sz):=fun j hj=>by
   rw[Nat.zero_add,hmore.cell,hmore.frozen]
   exact⟨by rw[Array.getElem?_eq_getElem (by rw[hcs];exact hj)];rfl,by simp⟩
  have hmap:(vs.toList.map fun x=>x.2.cells.toList).flatten=((vs.toList.map (·.2)).map fun v=>v.cells.toList).flatten:=by simp[Function.comp_def]
  simp only[absorb,Out.cond_some,Out.ret_some,Out.bind_some,Prod.mk.injEq]at hab
  rcases hab with⟨hown,rfl,rfl⟩|⟨hown,fz,hfz,rfl,rfl⟩
  ·simp only[Bool.and_eq_true]at hown
   have hL: ∀l∈idsL (ps.map (·.2)),∃y,lk l=some y:=fun l hl=>by obtain⟨y,hy⟩:=ownableL_known _ hown.1 l hl;exact⟨y,hS _ _ hy⟩
   have hlt: ∀k∈(idsL (ps.map (·.2))).flatMap B,k<w.heap.size∧ ∃l∈idsL (ps.map (·.2)),k∈B l:=fun k hk=>by
    obtain⟨l,hl,h⟩:=List.mem_flatMap.1 hk
    obtain⟨y,hy⟩:=hL l hl
    exact⟨hM.lt l y hy k h,l,hl,h⟩
   obtain⟨γ',B',hp⟩:=hM.grown hid hL (Z:=xs) (m:= .lit) (by simp) (g:=w.heap.size) (cap:=n) (w':=w.alloc (.cells cells el)) (cells:=(vs.toList.map fun x=>x.2.cells.toList).flatten) (rest:=(idsL (ps.map (·.2))).flatMap B)
    (by rw[hmore.size];omega) (fun k hk _=>hmore.old hk) hmore.os hmore.output hmore.tape (.inr (Nat.le_refl _)) (by rw[hmore.size];omega)
    (List.nodup_cons.2 ⟨fun h=>by have:=(hlt _ h).1;omega,hM.nodupL (nodupB_ok hown.2) hL⟩) (fun k hk=>(hlt k hk).2) (by omega) hmax hra hth
    (fun γ' B' lk' w' bad hK hLf hold hgo=>by
     rw[RowR.deep rfl,hmap]
     have:=listXs_own (O:=AllW (Owned B' lk')) hM hS hxs hv2 hown.1
     exact EL.mono (fun x c b _ hb h=>DRel.own hK.stp.size _ x c b (fun k hk=>hold k (hlt k (hb k hk)).1 (by have:=(hlt k (hb k hk)).1;omega)) h) this)
   rw[hlen]at hp
   exact⟨_,_,γ',B',hrun,hp⟩
  ·obtain⟨B1,k1,k2,k3,k4,k5⟩:=hM.freezeL hS.rows hfz
   have hid1:updF lk fz id=none:=by
    rw[(k4 id (fun hi=>by
     obtain⟨y,hy⟩:=freeze_known hfz id hi
     rw[hS _ _ hy]at hid;cases hid)).1];exact hid
   obtain⟨γ',B',hp⟩:=k1.grown hid1 (L:=[]) (by simp) (Z:=xs) (m:= .shal) (by simp) (g:=w.heap.size) (cap:=n) (w':=w.alloc (.cells cells el)) (cells:=(vs.toList.map fun x=>x.2.cells.toList).flatten) (rest:=[])
    (by rw[hmore.size];omega) (fun k hk _=>hmore.old hk) hmore.os hmore.output hmore.tape (.inr (Nat.le_refl _)) (by rw[hmore.size];omega)
    (by simp) (by simp) (by omega) hmax hra hth
    (fun γ' B' lk' w' bad hK hLf hold hgo=>by
     rw[RowR.shal rfl,hmap]
     have hsub: ∀k,(AllW (Owned B' lk') k∧k<w.heap.size)→AllW (Owned B1 (updF lk fz)) k:=fun k ⟨h1,h2⟩=>Classical.byContradiction fun hno=>hK.stp.ours k h2 hno h1
     have hst:Stp w (fun k=>AllW (Owned B' lk') k∧k<w.heap.size) w' (AllW (Owned B' lk')):=⟨hK.stp.size,fun k hk hno=>hold k hk (fun e=>by omega),fun k hk hno h=>hno ⟨h,hk⟩,hK.stp.os,hK.stp.output,hK.stp.tape⟩
     have:=(listXs_bor (O':=fun k=>AllW (Owned B' lk') k∧k<w.heap.size) hM hS hxs hv2 ⟨fun k hk=>(k3 k (hsub k hk)).1,fun s hs k hk hk'=>(k3 k (hsub k hk')).2 s hs hk⟩).1
     refine EL.mono (fun x c b _ _ hz=>?_) this
     obtain rfl:=DRel.noblocks _ _ _ _ hz
     exact⟨rfl,DRel.bor hst _ _ _ _ hz⟩)
   rw[hlen]at hp
   refine⟨_,_,γ',B',hrun,?_⟩
   have hu:updF lk (fz++[(id,some (.row u xs .shal))])=updF (updF lk fz) [(id,some (.row u xs .shal))]:=updF_append _ _ _
   simp only[List.map_nil,List.nil_append]at hp
   refine⟨by simp only[cond_false];rw[hu];exact hp.mem,?_,by simp only[cond_false];rw[hu];exact hp.val⟩
   simp only[cond_false]
   rw[hu]
   refine(k2.trans hp.kp).weaken ?_
   rintro s _ (hs'|hs')
   ·rw[List.map_append];exact List.mem_append_left _ hs'
   ·rw[List.map_append];exact List.mem_append_right _ hs'
end
end Go.Vm
namespace Go.Vm
open Go
section
variable {γ:Nat→G} {w:World} {P:Program} {e:Env} {ty:TypeId} {B:Nat→List Nat} {lk lkS:Look}
theorem EL.det{O O':Nat→Prop}{m m':Bool}{t:Ty}: ∀{xs:List t.den} {cs:List Value} {bs:List Nat},t.flat=true→EL (DRel w O m t) xs cs bs→EL (DRel w O' m' t) xs cs []:=fun hf h=>
 (EL.flat (fun x c b h=>DRel.flat _ _ _ _ hf h) h).2
theorem src_first(hE:EnvOK P e)(hM:Mem γ B w lk)(hS:Sub lkS lk){tx:TypeId}{b:PV}{t:Ty}{ys:List t.den}(h:(srcL lkS (tyOf e tx) b).run=some ⟨t,ys⟩){vb:Value}(hv:VRel γ (Dom lk) w (Owned B lk) b vb):
  ∃news,(Builtin.lenOf vb).run P w= .ok ys.length w∧EL (DRel w (fun _=>False) false t) ys news []∧ ∀k,k≤ys.length→(Builtin.firstCells t.sz k vb).run P w= .ok (news.take (k*t.sz)).toArray w:=by
 unfold srcL at h
 split at h
 ·simp only[Out.need_some,Out.ret_some,beq_iff_eq,Sigma.mk.injEq]at h
  obtain⟨ht,rfl,h⟩:=h
  obtain rfl:=eq_of_heq h
  rw[vrel_str]at hv
  obtain⟨s,rfl,_,rfl⟩:=hv
  have hsz:s.data.toList.length=s.size:=by rw[Array.length_toList];rfl
  refine⟨byteCells s,by rw[hsz];rfl,EL.bytes.2 ⟨rfl,rfl⟩,fun k hk=>?_⟩
  have:((s.extract 0 k).data.map fun b=>Value.int .u8 b.toNat)=((byteCells s).take (k*(Ty.int .u8).sz)).toArray:=by
   apply Array.ext'
   simp[byteCells,Ty.sz,ByteArray.data_extract]
  simp only[Builtin.firstCells,this]
  rfl
 ·simp only[Out.need_some]at h
  obtain⟨hsl,hs⟩:=h
  have hl:LRel γ (Dom lk) w (Owned B lk) b [vb]:=by
   have hs':=hs
   unfold Vm.sliceOf at hs
   split at hs<;>first|(simp only[VRel,VRel0]at hv;exact hv)|(simp[Out.run]at hs)
  obtain⟨A,cap,rfl,hc,h0⟩:=hM.sliceOf hS hs hl (noneFree B lk _)
  rcases Nat.eq_zero_or_pos ys.length with hz|hz
  ·obtain rfl:=List.length_eq_zero_iff.1 hz
   refine⟨[],rfl,⟨rfl,rfl⟩,fun k hk=>?_⟩
   obtain rfl:k=0:=by simpa using hk
   cases A with
   |none=>simp[Builtin.firstCells]
   |some a=>simpa using run_firstCells_some (P:=P) w t.sz 0 a 0 cap [] (by simp) (by simp)
  ·obtain⟨a,cells,rfl,h1,h2,h3,h4⟩:=h0 hz
   have hlen:cells.length=ys.length*t.sz:=EL.length (fun x c b h=>DRel.length _ _ _ _ h) h4
   refine⟨cells,rfl,h4,fun k hk=>run_firstCells_some w t.sz k a _ _ _ ?_ fun j v hj=>?_⟩
   ·rw[List.length_take,hlen,Nat.min_eq_left (Nat.mul_le_mul_right _ hk)]
   ·rw[List.getElem?_take]at hj
    split at hj
    ·exact h3 j v hj
    ·cases hj
theorem run_copy_gen{tx rt el:TypeId}(hu:P.underlying ty=some (.slice el)){i:TypeInfo}(hi:P.info? el=some i){vb:Value}{N dLen c:Nat}(hl:(Builtin.lenOf vb).run P w= .ok N w){news:List Value}
  (hf:(Builtin.firstCells i.size (min N dLen) vb).run P w= .ok news.toArray w) (base:Option Addr) {w':World} (hst:match base with|some a=>(storeCells a news).run P w= .ok () w'|none=>w'=w):
  (Builtin.copy_ #[ty,tx] rt #[.slice base dLen c,vb]).run P w= .ok (.int .i64 ((min N dLen:Nat):Int)) w':=by
 have hmin:Nat.min N dLen=min N dLen:=rfl
 cases base with
 |none=>
  subst hst
  simp[Builtin.copy_,run_underlying hu,sizeOf,typeInfo,hi,hl,hmin,hf,goInt]
 |some a=>simp[Builtin.copy_,run_underlying hu,sizeOf,typeInfo,hi,hl,hmin,hf,hst,goInt]
theorem Mem.putSplice(hM:Mem γ B w lk){r:Nat}{t:Ty}{xs:List t.den}{m:Own}(hx:lk r=some (.row t xs m))(hm:m≠ .froz)(hf:t.flat=true){off n:Nat}(hle:off+n≤xs.length)(hn:0<n){zs:List t.den}(hz:zs.length=n){news:List Value}
  {O:Nat→Prop} (hel:EL (DRel w O false t) zs news []):
  ∃g cap,γ r= .row (.slice (some ⟨g,0,none⟩) xs.length cap) t∧w.there g (off*t.sz) news.length∧Mem γ B (w.setCells g (off*t.sz) news) (setF lk r (.row t (xs.take off++zs++xs.drop (off+n)) m.wr))∧
   Kp γ (Dom lk) w (Owned B lk) γ (Dom (setF lk r (.row t (xs.take off++zs++xs.drop (off+n)) m.wr))) (w.setCells g (off*t.sz) news) (Owned B (setF lk r (.row t (xs.take off++zs++xs.drop (off+n)) m.wr))) (fun s=>s=r):=by
 obtain⟨x0,hx0⟩: ∃x,xs[0]?=some x:=⟨xs[0]'(by omega),List.getElem?_eq_getElem (by omega)⟩
 obtain⟨g,cap,cells,rest,e,h1,h2,h3,h4,h5,h6,h7⟩:=hM.elem hx hm hx0
 have h7':EL (DRel w O false t) xs cells []:=(EL.flat (fun x c b h=>by
  cases hd:m.deep
  ·rw[RowR.shal hd]at h;exact⟨h.1,(DRel.flat _ _ _ _ hf h.2).2⟩
  ·rw[RowR.deep hd]at h;exact DRel.flat _ _ _ _ hf h) h7).2
 have hrest:rest=[]:=(EL.flat (R':=fun _ _ _=>True) (fun x c b h=>by
  cases hd:m.deep
  ·rw[RowR.shal hd]at h;exact⟨h.1,trivial⟩
  ·rw[RowR.deep hd]at h;exact⟨(DRel.flat (w':=w) (O':=O) (m':=false) _ _ _ _ hf h).1,trivial⟩) h7).1
 subst hrest
 have hcl:cells.length=xs.length*t.sz:=EL.length (fun x c b h=>DRel.length _ _ _ _ h) h7'
 have hnl:news.length=n*t.sz:=by rw[←hz];exact EL.length (fun x c b h=>DRel.length _ _ _ _ h) hel
 obtain⟨b1,b2,eb,q1,q2⟩:=EL.take_drop (fun x c b h=>DRel.length _ _ _ _ h) off h7'
 obtain⟨b3,b4,eb',q3,q4⟩:=EL.take_drop (fun x c b h=>DRel.length _ _ _ _ h) (off+n) h7'
 obtain⟨rfl,rfl⟩:b1=[]∧b2=[]:=by simpa using eb.symm
 obtain⟨rfl,rfl⟩:b3=[]∧b4=[]:=by simpa using eb'.symm
 have hnew:=EL.append (EL.append q1 hel) q4
 have hoff:off*t.sz≤cells.length:=by rw[hcl];exact Nat.mul_le_mul_right _ (by omega)
 have htl:(cells.take (off*t.sz)).length=off*t.sz:=by rw[List.length_take];omega
 have hcs:cells=cells.take (off*t.sz)++(cells.drop (off*t.sz)).take (n*t.sz)++cells.drop ((off+n)*t.sz):=by
  rw[Nat.add_mul,←List.drop_drop,List.append_assoc,List.take_append_drop,List.take_append_drop]
 have hml:((cells.drop (off*t.sz)).take (n*t.sz)).length=n*t.sz:=by
  have:(off+n)*t.sz≤xs.length*t.sz:=Nat.mul_le_mul_right _ hle
  rw[Nat.add_mul]at this
  rw[List.length_take,List.length_drop,hcl];omega
 have hth:w.there g (off*t.sz) news.length:=there_part h5 (by omega) (by
  have:(off+n)*t.sz≤cap*t.sz:=Nat.mul_le_mul_right _ (by omega)
  rw[Nat.add_mul]at this
  omega)
 obtain⟨hos,hou,hta⟩:=os_setCells news w g (off*t.sz)
 have h:=hM.put hx (x':= .row t (xs.take off++zs++xs.drop (off+n)) m.wr) (w':=w.setCells g (off*t.sz) news) (size_setCells _ _ _ _)
  (fun k hk=>heap_setCells _ _ _ _ (fun e=>by rw[h6]at hk;simp[e]at hk)) hos hou hta (fun hK=>by
   rw[e]
   have hlen:(xs.take off++zs++xs.drop (off+n)).length=xs.length:=by simp;omega
   refine RootRel.mkWr hm (.inr ⟨g,cap,cells.take (off*t.sz)++news++cells.drop ((off+n)*t.sz),[],by rw[hlen],by rw[hlen];exact h1,h2,by rw[size_setCells];exact h3,?_,World.there_setCells h5 _ _ _,?_,by rw[h6]⟩)
   ·rw[hcs]at h4
    have:=rangeAt_replace h4 (c2':=news) (by rw[hml,hnl]) (by rw[htl,Nat.zero_add];exact hth)
    rw[htl,Nat.zero_add]at this
    exact this
   ·exact EL.mono (fun x c b _ _ hx=>by
     obtain rfl:=DRel.noblocks _ _ _ _ hx
     exact flat_rowR hf (DRel.flat (w':=w.setCells g (off*t.sz) news) (O':=fun _=>False) (m':=false) _ _ _ _ hf hx).2) hnew)
 exact⟨g,cap,e,hth,h⟩
theorem storeCells_there{b o:Nat}{news:List Value}(h:w.there b o news.length)(h1: ∀v∈news,v.oneCell'=true):(storeCells ⟨b,o,none⟩ news).run P w= .ok () (w.setCells b o news):=by
 have:=run_storeCells_cells (P:=P) b o news 0 w (fun j hj=>(h j (by omega)).1) (fun j hj=>(h j (by omega)).2) h1
 simpa using this
theorem EL.takeN{α:Type}{R:α→List Value→List Nat→Prop}{sz:Nat}(hl: ∀x c b,R x c b→c.length=sz){xs:List α}{cs:List Value}(n:Nat)(h:EL R xs cs []):EL R (xs.take n) (cs.take (n*sz)) []:=by
 obtain⟨b1,b2,e,h1,_⟩:=EL.take_drop hl n h
 obtain⟨rfl,_⟩:b1=[]∧b2=[]:=by simpa using e.symm
 exact h1
theorem splice_zero{α:Type}(xs ys:List α)(off:Nat):spliceL xs ys off 0=xs:=by simp[spliceL]
theorem setF_same{lk:Look}{r:Nat}{x:Root}(h:lk r=some x):setF lk r x=lk:=by
 funext s;unfold setF;split
 ·rename_i e;rw[e,h]
 ·rfl
theorem Mem.soft(hM:Mem γ B w lk){r:Nat}{t:Ty}{xs:List t.den}{m:Own}(hx:lk r=some (.row t xs m)):
  Mem γ B w (setF lk r (.row t xs m.wr))∧Kp γ (Dom lk) w (Owned B lk) γ (Dom (setF lk r (.row t xs m.wr))) w (Owned B (setF lk r (.row t xs m.wr))) (fun s=>s=r):=
 hM.put hx rfl (fun _ _=>rfl) rfl rfl rfl fun hK=>by
  have h:=(hM.rel r _ hx).keep hK (fun _ _=>rfl)
  obtain⟨v,e,_⟩:=h.row
  rw[e]at h⊢
  cases m<;>first|exact h|exact⟨h.1,h.2.1⟩
theorem arr_splice{w:World}{O:Nat→Prop}{m:Bool}{N:Nat}{u:Ty}(hz:u.sz=1)(hf:u.flat=true){xs zs:List u.den}{off n:Nat}(hle:off+n≤xs.length)(hzl:zs.length=n){c:List Value}{bs:List Nat}(h:DRel w O m (.arr N u) xs c bs)
  {O':Nat→Prop} {news:List Value} (hn:EL (DRel w O' false u) zs news []): ∃d1 d2 d3,c=d1++d2++d3∧d1.length=off∧d2.length=news.length∧DRel w O m (.arr N u) (xs.take off++zs++xs.drop (off+n)) (d1++news++d3) bs:=by
 obtain⟨hl,h⟩:=h
 obtain⟨hb,h'⟩:=EL.flat (fun x c b h=>DRel.flat (w':=w) (O':=O) (m':=m) _ _ _ _ hf h) h
 subst hb
 have hcl:c.length=xs.length:=by rw[EL.length (fun x c b h=>DRel.length _ _ _ _ h) h',hz,Nat.mul_one]
 have hnl:news.length=n:=by rw[EL.length (fun x c b h=>DRel.length _ _ _ _ h) hn,hz,Nat.mul_one,hzl]
 obtain⟨b1,b2,eb,q1,q2⟩:=EL.take_drop (fun x c b h=>DRel.length _ _ _ _ h) off h'
 obtain⟨b3,b4,eb',q3,q4⟩:=EL.take_drop (fun x c b h=>DRel.length _ _ _ _ h) (off+n) h'
 obtain⟨rfl,rfl⟩:b1=[]∧b2=[]:=by simpa using eb.symm
 obtain⟨rfl,rfl⟩:b3=[]∧b4=[]:=by simpa using eb'.symm
 rw[hz,Nat.mul_one]at q1 q4
 refine⟨c.take off,(c.drop off).take n,c.drop (off+n),by rw[←List.drop_drop,List.append_assoc,List.take_append_drop,List.take_append_drop],by rw[List.length_take];omega,by rw[List.length_take,List.length_drop];omega,by simp;omega,?_⟩
 exact EL.append (EL.append q1 (EL.mono (fun x c b _ _ hx=>by
  obtain rfl:=DRel.noblocks _ _ _ _ hx
  exact(DRel.flat _ _ _ _ hf hx).2) hn)) q4
theorem RowR.spliceArr{O O':Nat→Prop}{m:Own}{t u:Ty}(hz:u.sz=1)(hf:u.flat=true){x x':t.den}{k off n:Nat}{ys zs:List u.den}(hs:(listD false t x k).run=some ⟨u,ys⟩)(hle:off+n≤ys.length)(hzl:zs.length=n)
  (hset:(setListD false u (ys.take off++zs++ys.drop (off+n)) t x k).run=some x') {news:List Value} (hn:EL (DRel w O' false u) zs news [])
  {c:List Value} {bs:List Nat} (h:RowR w O m t x c bs): ∃c1 c2 c3,c=c1++c2++c3∧c1.length=offL t k+off∧c2.length=news.length∧RowR w O m t x' (c1++news++c3) bs:=by
 have key: ∀{mm:Bool} {bs':List Nat},DRel w O mm t x c bs'→ ∃c1 c2 c3,c=c1++c2++c3∧c1.length=offL t k+off∧c2.length=news.length∧DRel w O mm t x' (c1++news++c3) bs':=fun h=>by
  obtain⟨c1,c2,c3,b1,b2,b3,e1,e2,e3,_,_,N,_,h1,h2⟩:=listD_rel t x k ys c _ hs h
  obtain⟨d1,d2,d3,e4,e5,e6,h3⟩:=arr_splice hz hf hle hzl h1 hn
  refine⟨c1++d1,d2,d3++c3,by rw[e1,e4];simp,by rw[List.length_append,e3,e5],e6,?_⟩
  have:=h2 _ _ _ _ h3 hset
  rw[e2];simpa using this
 cases hm:m.deep
 ·rw[RowR.shal hm]at h⊢
  obtain⟨c1,c2,c3,e1,e2,e3,h1⟩:=key h.2
  exact⟨c1,c2,c3,e1,e2,e3,h.1,h1⟩
 ·rw[RowR.deep hm]at h⊢
  exact key h
theorem setList_same{u:Ty}: ∀(t:Ty) (x:t.den) (k:Nat) (ys:List u.den) (x':t.den),(listD false t x k).run=some ⟨u,ys⟩→(setListD false u ys t x k).run=some x'→x'=x
 | .pair a b,x,k,ys,x',h,h'=>by
  simp only[listD,setListD,Out.cond_some,Out.bind_some,Out.ret_some]at h h'
  rcases h with⟨hk,h⟩|⟨hk,h⟩<;>rcases h' with⟨hk',z,h',rfl⟩|⟨hk',z,h',rfl⟩
  ·rw[setList_same a x.1 k ys z h h']
  ·rw[hk]at hk';cases hk'
  ·rw[hk]at hk';cases hk'
  ·rw[setList_same b x.2 _ ys z h h']
 | .st t,x,k,ys,x',h,h'=>setList_same t x k ys x' (by simpa only[listD]using h) (by simpa only[setListD]using h')
 | .sl t,x,k,ys,x',h,h'=>by simp[listD,Out.run]at h
 | .arr n t,x,k,ys,x',h,h'=>by
  simp only[listD,setListD,Out.cond_some,Out.ret_some,Out.fail_some,and_false,or_false,Sigma.mk.injEq]at h h'
  obtain⟨_,rfl,h⟩:=h
  obtain rfl:=eq_of_heq h
  obtain⟨_,rfl⟩:=castL_some.1 h'.2
  rfl
 | .unit,_,_,_,_,h,_| .int _,_,_,_,_,h,_| .bool,_,_,_,_,h,_| .str,_,_,_,_,h,_| .err,_,_,_,_,h,_| .ref,_,_,_,_,h,_=>by simp[listD,Out.run]at h
theorem copyV_sound(hE:EnvOK P e)(hM:Mem γ B w lk)(hS:Sub lkS lk){tx rt:TypeId}{a b p:PV}{up:Ups}(h:(copyV lkS (tyOf e ty) (tyOf e tx) a b).run=some (p,up)){va vb:Value}
  (hva:VRel γ (Dom lk) w (Owned B lk) a va) (hvb:VRel γ (Dom lk) w (Owned B lk) b vb):
  ∃v' w' γ' B',(Builtin.copy_ #[ty,tx] rt #[va,vb]).run P w= .ok v' w'∧Post γ B w lk up p γ' B' w' v':=by
 unfold copyV at h
 simp only[Out.need_some,Out.bind_some]at h
 obtain⟨hsl,⟨u,ys⟩,hsrc,h⟩:=h
 obtain⟨news,hN,hel,hfc⟩:=src_first hE hM hS hsrc hvb
 dsimp only at h
 have vint: ∀{γ:Nat→G} {D:Nat→Nat} {w:World} {W:Nat→Nat→Prop} (n:Nat),VRel γ D w W (.sc (.int .i64) (n:Int)) (.int .i64 (n:Int)):=fun n=>vrel_int.2 rfl
 split at h
 ·
  simp only[Out.ret_some,Prod.mk.injEq]at h
  obtain⟨rfl,rfl⟩:=h
  simp only[VRel,VRel0,LRel,List.cons.injEq,and_true]at hva
  subst hva
  unfold isSl at hsl
  split at hsl
  ·rename_i u' ht
   obtain⟨el,hi,hel'⟩:=(hE.ty _ _ ht: ∃el,Inf P (.sl u') ty (.slice el)∧TyOK P u' el)
   obtain⟨i,q1,q2⟩:=TyOK.info hel'
   have hz:(Builtin.firstCells i.size (min ys.length 0) vb).run P w= .ok ([]:List Value).toArray w:=by
    have h0:=hfc 0 (Nat.zero_le _)
    rw[Nat.min_zero]
    cases vb<;>try (simp[Builtin.lenOf]at hN;done)
    ·simp[Builtin.firstCells]
    ·rename_i A _ _
     cases A with
     |none=>simp[Builtin.firstCells]
     |some a=>simpa using run_firstCells_some (P:=P) w i.size 0 a _ _ [] (by simp) (by simp)
   have:=run_copy_gen (P:=P) (rt:=rt) (tx:=tx) (c:=0) hi.und q1 hN hz none (w':=w) rfl
   rw[Nat.min_zero]at this
   exact⟨_,_,γ,B,this,Post.pure hM (vint 0)⟩
  ·cases hsl
 ·
  rename_i r
  split at h
  ·rename_i t xs m hx
   simp only[Out.need_some,Out.bind_some,Out.ret_some,Bool.and_eq_true,beq_iff_eq,Bool.not_eq_true',decide_eq_false_iff_not,Prod.mk.injEq]at h
   obtain⟨⟨⟨ht,hff⟩,hm⟩,ys',hc,rfl,rfl⟩:=h
   obtain⟨rfl,rfl⟩:=castL_some.1 hc
   dsimp only
   obtain⟨el,hi,hel'⟩:=(hE.ty _ _ ht: ∃el,Inf P (.sl u) ty (.slice el)∧TyOK P u el)
   obtain⟨i,q1,q2⟩:=TyOK.info hel'
   simp only[VRel,VRel0,LRel]at hva
   obtain⟨hd,v',t',e1,e2,_⟩:=hva
   simp only[List.cons.injEq,and_true]at e2
   subst e2
   obtain⟨A,cap,e3,_,_,_⟩:=hM.rowVal (hS _ _ hx)
   rw[e1]at e3
   cases e3
   have hf1:=hfc (min ys.length xs.length) (Nat.min_le_left _ _)
   rcases Nat.eq_zero_or_pos (min ys.length xs.length)with h0|hpos
   ·rw[h0]at hf1⊢
    rw[splice_zero]
    have hrun:=run_copy_gen (P:=P) (rt:=rt) (tx:=tx) (c:=cap) (dLen:=xs.length) (news:=[]) hi.und q1 hN (by rw[h0,q2];simpa using hf1) A (w':=w) (by cases A<;>rfl)
    rw[h0]at hrun
    exact⟨_,_,γ,B,hrun,⟨by rw[updF_one];exact(hM.soft (hS _ _ hx)).1,kp_bad (by simp) (hM.soft (hS _ _ hx)).2,vint 0⟩⟩
   ·have hsp:=hM.putSplice (hS _ _ hx) hm hff (off:=0) (n:=min ys.length xs.length) (by omega) hpos (zs:=ys.take (min ys.length xs.length)) (by rw[List.length_take];omega) (EL.takeN (fun x c b h=>DRel.length _ _ _ _ h) _ hel)
    obtain⟨g,cap',e4,k1,k2,k3⟩:=hsp
    rw[e1]at e4
    cases e4
    have hrun:=run_copy_gen (P:=P) (rt:=rt) (tx:=tx) (c:=cap) (dLen:=xs.length) hi.und q1 hN (by rw[q2];exact hf1) (some ⟨g,0,none⟩) (storeCells_there (P:=P) (by simpa using k1) (fun v hv=>by
     exact EL.one (fun x c b h=>DRel.one _ _ _ _ h) hel v (List.mem_of_mem_take hv)))
    rw[Nat.zero_mul]at k2 k3
    exact⟨_,_,γ,B,hrun,⟨by rw[updF_one];exact k2,kp_bad (by simp) k3,vint _⟩⟩
  ·simp[Out.run]at h
 ·
  rename_i r off len
  split at h
  ·rename_i t xs m hx
   simp only[Out.need_some,Out.bind_some,Out.ret_some,Bool.and_eq_true,beq_iff_eq,Bool.not_eq_true',decide_eq_false_iff_not,Prod.mk.injEq]at h
   obtain⟨⟨⟨ht,hff⟩,hm⟩,ys',hc,rfl,rfl⟩:=h
   obtain⟨rfl,rfl⟩:=castL_some.1 hc
   dsimp only
   obtain⟨el,hi,hel'⟩:=(hE.ty _ _ ht: ∃el,Inf P (.sl u) ty (.slice el)∧TyOK P u el)
   obtain⟨i,q1,q2⟩:=TyOK.info hel'
   simp only[VRel,VRel0,LRel]at hva
   obtain⟨hd,v',t',A,n,cap,A',c',e1,rfl,e2,h1,h2,h3,h4,_⟩:=hva
   simp only[List.cons.injEq,and_true]at e2
   subst e2
   obtain⟨A2,cap2,e3,_,_,_⟩:=hM.rowVal (hS _ _ hx)
   rw[e1]at e3
   cases e3
   have hf1:=hfc (min ys.length len) (Nat.min_le_left _ _)
   rcases Nat.eq_zero_or_pos (min ys.length len)with h0|hpos
   ·rw[h0]at hf1⊢
    rw[splice_zero]
    have hrun:=run_copy_gen (P:=P) (rt:=rt) (tx:=tx) (c:=c') (dLen:=len) (news:=[]) hi.und q1 hN (by rw[h0,q2];simpa using hf1) A' (w':=w) (by cases A'<;>rfl)
    rw[h0]at hrun
    exact⟨_,_,γ,B,hrun,⟨by rw[updF_one];exact(hM.soft (hS _ _ hx)).1,kp_bad (by simp) (hM.soft (hS _ _ hx)).2,vint 0⟩⟩
   ·have hsp:=hM.putSplice (hS _ _ hx) hm hff (off:=off) (n:=min ys.length len) (by omega) hpos (zs:=ys.take (min ys.length len)) (by rw[List.length_take];omega) (EL.takeN (fun x c b h=>DRel.length _ _ _ _ h) _ hel)
    obtain⟨g,cap',e4,k1,k2,k3⟩:=hsp
    rw[e1]at e4
    cases e4
    obtain⟨g',e5,rfl⟩:=h4 (by omega)
    cases e5
    have hrun:=run_copy_gen (P:=P) (rt:=rt) (tx:=tx) (c:=c') (dLen:=len) hi.und q1 hN (by rw[q2];exact hf1) (some ⟨g,off*u.sz,none⟩) (storeCells_there (P:=P) (by simpa using k1) (fun v hv=>by
     exact EL.one (fun x c b h=>DRel.one _ _ _ _ h) hel v (List.mem_of_mem_take hv)))
    exact⟨_,_,γ,B,hrun,⟨by rw[updF_one];exact k2,kp_bad (by simp) k3,vint _⟩⟩
  ·simp[Out.run]at h
 ·
  rename_i r n k off len
  simp only[VRel,VRel0,LRel]at hva
  obtain⟨hd,bb,o,A,c',ha,e1,hle1,hle2,hle3,hA⟩:=hva
  simp only[List.cons.injEq,and_true]at e1
  subst e1
  have hf1:=hfc (min ys.length len) (Nat.min_le_left _ _)
  split at h
  ·rename_i ps hx
   split at h
   ·rename_i m t xs heq
    simp only[Out.need_some,Out.bind_some,Out.ret_some,Bool.and_eq_true,beq_iff_eq,Prod.mk.injEq]at h
    obtain⟨⟨⟨ht,hff⟩,hsz⟩,ys',hc,rfl,rfl⟩:=h
    obtain⟨rfl,rfl⟩:=castL_some.1 hc
    dsimp only
    obtain⟨el,hi,hel'⟩:=(hE.ty _ _ ht: ∃el,Inf P (.sl u) ty (.slice el)∧TyOK P u el)
    obtain⟨i,q1,q2⟩:=TyOK.info hel'
    have hxl:xs.length=m∧(γ r).lsz k=m:=by
     obtain⟨b',o',out,e4,_,_,_,⟨cs,h5,_⟩,_⟩:=(hM.rel r _ (hS _ _ hx)).box
     obtain⟨_,c2,_,_,_,_,h6,_⟩:=h5.split k 1
     rw[drop_take_one heq,LL.single,LRel]at h6
     refine⟨h6.2.1,?_⟩
     rw[e4];simp[G.lsz,heq,szV,Ty.sz,hsz]
    rcases Nat.eq_zero_or_pos (min ys.length len)with h0|hpos
    ·rw[h0]at hf1⊢
     rw[splice_zero]
     have hrun:=run_copy_gen (P:=P) (rt:=rt) (tx:=tx) (c:=c') (dLen:=len) (news:=[]) hi.und q1 hN (by rw[h0,q2];simpa using hf1) (some A) (w':=w) rfl
     rw[h0]at hrun
     have hset:ps.set k (.sc (.arr m u) xs)=ps:=by
      obtain⟨hlt,hk⟩:=List.getElem?_eq_some_iff.1 heq
      rw[←hk,List.set_getElem_self]
     rw[hset]
     exact⟨_,_,γ,B,hrun,⟨by rw[updF_one,setF_same (hS _ _ hx)];exact hM,by rw[updF_one,setF_same (hS _ _ hx)];exact Kp.refl _ _ _ _ _,vint 0⟩⟩
    ·obtain rfl:=hA (by omega)
     have heln:=EL.takeN (fun x c b h=>DRel.length _ _ _ _ h) (min ys.length len) hel
     have hnl:(news.take (min ys.length len*u.sz)).length=min ys.length len:=by
      rw[EL.length (fun x c b h=>DRel.length _ _ _ _ h) heln,hsz,Nat.mul_one,List.length_take];omega
     obtain⟨k1,k2,k3⟩:=hM.putBox (hS _ _ hx) (k:=k) (n:=1) (d:=off) (ws:=[.sc (.arr m u) (spliceL xs ys off (min ys.length len))]) (cs':=news.take (min ys.length len*u.sz)) (by rw[drop_take_one heq];rfl) rfl
      (fun c hc=>by
       rw[drop_take_one heq,LL.single,LRel]at hc
       obtain⟨d1,d2,d3,f1,f2,f3,f4⟩:=arr_splice hsz hff (off:=off) (n:=min ys.length len) (by omega) (by rw[List.length_take];omega) hc.2 heln
       exact⟨d1,d2,d3,f1,f2,f3,LL.single.2 (by simp only[LRel];exact⟨rfl,f4⟩)⟩) ha
     rw[take_set_drop heq]at k2 k3
     have hrun:=run_copy_gen (P:=P) (rt:=rt) (tx:=tx) (c:=c') (dLen:=len) hi.und q1 hN (by rw[q2];exact hf1) (some ⟨bb,o+off,none⟩) (storeCells_there (P:=P) k1 (fun v hv=>by
      exact EL.one (fun x c b h=>DRel.one _ _ _ _ h) hel v (List.mem_of_mem_take hv)))
     exact⟨_,_,γ,B,hrun,⟨by rw[updF_one];exact k2,kp_bad (by simp) k3,vint _⟩⟩
   ·simp[Out.run]at h
  ·rename_i t xs m hx
   simp only[Out.need_some,Out.bind_some,Out.nth_some,Out.ret_some,Bool.and_eq_true,beq_iff_eq,Bool.not_eq_true',decide_eq_false_iff_not,Prod.mk.injEq]at h
   obtain⟨hm,x0,hn,⟨u',zs⟩,hl,⟨⟨ht,hff⟩,hsz⟩,ys',hc,x1,hset,rfl,rfl⟩:=h
   dsimp only at*
   obtain⟨rfl,rfl⟩:=castL_some.1 hc
   dsimp only at*
   obtain⟨el,hi,hel'⟩:=(hE.ty _ _ ht: ∃el,Inf P (.sl u) ty (.slice el)∧TyOK P u el)
   obtain⟨i,q1,q2⟩:=TyOK.info hel'
   have hzl:(γ r).lsz k=zs.length:=by
    have:=hM.placeA_len hS (r:=r) (n:=n) (k:=k) (u:=u) (ys:=zs) (by simp only[Vm.placeA,hx,Out.bind_some,Out.nth_some];exact⟨x0,hn,hl⟩)
    rw[this,hsz,Nat.mul_one]
   rcases Nat.eq_zero_or_pos (min ys.length len)with h0|hpos
   ·rw[h0]at hf1 hset⊢
    rw[splice_zero]at hset
    have hrun:=run_copy_gen (P:=P) (rt:=rt) (tx:=tx) (c:=c') (dLen:=len) (news:=[]) hi.und q1 hN (by rw[h0,q2];simpa using hf1) (some A) (w':=w) rfl
    rw[h0]at hrun
    obtain rfl:=setList_same t x0 k zs x1 hl hset
    have hxs:xs.set n x1=xs:=by
     obtain⟨hlt,hk⟩:=List.getElem?_eq_some_iff.1 hn
     rw[←hk,List.set_getElem_self]
    rw[hxs]
    exact⟨_,_,γ,B,hrun,⟨by rw[updF_one];exact(hM.soft (hS _ _ hx)).1,kp_bad (by simp) (hM.soft (hS _ _ hx)).2,vint 0⟩⟩
   ·obtain rfl:=hA (by omega)
    have heln:=EL.takeN (fun x c b h=>DRel.length _ _ _ _ h) (min ys.length len) hel
    obtain⟨k1,k2,k3⟩:=hM.putElem (hS _ _ hx) hm (x':=x1) (d:=off) (cs':=news.take (min ys.length len*u.sz)) hn ha
     (fun c bs hr=>RowR.spliceArr hsz hff hl (by omega) (by rw[List.length_take];omega) hset heln hr)
    have hrun:=run_copy_gen (P:=P) (rt:=rt) (tx:=tx) (c:=c') (dLen:=len) hi.und q1 hN (by rw[q2];exact hf1) (some ⟨bb,o+off,none⟩) (storeCells_there (P:=P) k1 (fun v hv=>by
     exact EL.one (fun x c b h=>DRel.one _ _ _ _ h) hel v (List.mem_of_mem_take hv)))
    exact⟨_,_,γ,B,hrun,⟨by rw[updF_one];exact k2,kp_bad (by simp) k3,vint _⟩⟩
  ·simp[Out.run]at h
 ·simp[Out.run]at h
end
end Go.Vm
namespace Go.Vm
open Go
def Shp(t:Ty)(v:Value)(cs:List Value):Prop:=(isRowT t=true→v= .agg cs.toArray)∧(isRowT t=false→cs=[v])∧(t.leaf=true∨t.isSt=true)
def ArgR(w:World)(O:Nat→Prop):Mode→Value→List Dyn→List Nat→Prop
 | .b t,v,ds,bs=> ∃x cs,ds=[⟨t,x⟩]∧bs=[]∧Shp t v cs∧DRel w O false t x cs []
 | .q t,v,ds,bs=> ∃x a cells,ds=[⟨t,x⟩]∧bs=[]∧v= .pointer (some a)∧a.block<w.heap.size∧ ¬O a.block∧(∀j u,cells[j]?=some u→w.cell? (a.add j)=some u)∧DRel w O false t x cells []
 | .i t,v,ds,bs| .o t,v,ds,bs=> ∃x cs,ds=[⟨t,x⟩]∧Shp t v cs∧DRel w O true t x cs bs
 | .p t own,v,ds,bs=> ∃x b o cs bs',ds=[⟨t,x⟩]∧bs=b::bs'∧v= .pointer (some ⟨b,o,none⟩)∧b<w.heap.size∧w.rangeAt b o cs∧w.there b o t.sz∧DRel w O own t x cs bs'
 | .f0 g,v,ds,bs=>ds=[]∧bs=[]∧v= .func (.func g) #[] #[]
 | .f1 g m,v,ds,bs=> ∃c,v= .func (.func g) #[] #[c]∧ArgR w O m c ds bs
 | .f2 g m n,v,ds,bs=> ∃c d ds1 ds2 bs1 bs2,v= .func (.func g) #[] #[c,d]∧ds=ds1++ds2∧bs=bs1++bs2∧ArgR w O m c ds1 bs1∧ArgR w O n d ds2 bs2
 | .pb m,v,ds,bs=> ∃a u,v= .pointer (some a)∧a.block<w.heap.size∧ ¬O a.block∧w.cell? (a.add 0)=some u∧ArgR w O m u ds bs
def ArgsR(w:World)(O:Nat→Prop):List Mode→List Value→List Dyn→List Nat→Prop
 |[],vs,ds,bs=>vs=[]∧ds=[]∧bs=[]
 |m::ms,vs,ds,bs=> ∃v vs' ds1 ds2 bs1 bs2,vs=v::vs'∧ds=ds1++ds2∧bs=bs1++bs2∧ArgR w O m v ds1 bs1∧ArgsR w O ms vs' ds2 bs2
def SlR(w:World)(O:Nat→Prop):Ty→List Value→List Dyn→List Nat→Prop
 | .pair a b,cs,ds,bs=> ∃c d ds1 ds2 p q,cs=c++d∧c.length=a.sz∧ds=ds1++ds2∧bs=p++q∧SlR w O a c ds1 p∧SlR w O b d ds2 q
 | .st t,cs,ds,bs=>SlR w O t cs ds bs
 | .sl u,cs,ds,bs=> ∃v ys,cs=[v]∧ds=[⟨.sl u,ys⟩]∧OwnS w (DRel w O true u) u.sz ys v bs
 |_,_,ds,bs=>ds=[]∧bs=[]
def OutR(w w':World)(O:Nat→Prop):Mode→Value→List Dyn→List Nat→Prop
 | .b _,_,ds,bs| .q _,_,ds,bs| .o _,_,ds,bs| .f0 _,_,ds,bs=>ds=[]∧bs=[]
 | .i t,v,ds,bs=> ∃cs,Shp t v cs∧SlR w' O t cs ds bs
 | .p t own,v,ds,bs=> ∃b o y cs bs',v= .pointer (some ⟨b,o,none⟩)∧ds=[⟨t,y⟩]∧bs=b::bs'∧w'.rangeAt b o cs∧w'.there b o t.sz∧DRel w' O own t y cs bs'∧
   ∀j,j<o∨o+t.sz≤j→(w'.cell? ⟨b,j,none⟩,w'.frozen? ⟨b,j,none⟩)=(w.cell? ⟨b,j,none⟩,w.frozen? ⟨b,j,none⟩)
 | .f1 g m,v,ds,bs=> ∃c,v= .func (.func g) #[] #[c]∧OutR w w' O m c ds bs
 | .f2 g m n,v,ds,bs=> ∃c d ds1 ds2 bs1 bs2,v= .func (.func g) #[] #[c,d]∧ds=ds1++ds2∧bs=bs1++bs2∧OutR w w' O m c ds1 bs1∧OutR w w' O n d ds2 bs2
 | .pb m,v,ds,bs=> ∃a u,v= .pointer (some a)∧w.cell? (a.add 0)=some u∧OutR w w' O m u ds bs
def OutsR(w w':World)(O:Nat→Prop):List Mode→List Value→List Dyn→List Nat→Prop
 |[],vs,ds,bs=>vs=[]∧ds=[]∧bs=[]
 |m::ms,vs,ds,bs=> ∃v vs' ds1 ds2 bs1 bs2,vs=v::vs'∧ds=ds1++ds2∧bs=bs1++bs2∧OutR w w' O m v ds1 bs1∧OutsR w w' O ms vs' ds2 bs2
def ResR(w:World)(O:Nat→Prop):Res→Value→Dyn→List Nat→Prop
 | .v t true,v,d,bs=> ∃y cs,d=⟨t,y⟩∧Shp t v cs∧DRel w O true t y cs bs
 | .v t false,v,d,bs=> ∃y cs,d=⟨t,y⟩∧bs=[]∧Shp t v cs∧DRel w O false t y cs []
 | .pn t,v,d,bs=> ∃y b o cs bs',d=⟨t,y⟩∧v= .pointer (some ⟨b,o,none⟩)∧bs=b::bs'∧b<w.heap.size∧w.rangeAt b o cs∧w.there b o t.sz∧DRel w O true t y cs bs'
 | .pl t,v,d,bs=> ∃y b o cs,d=⟨t,y⟩∧v= .pointer (some ⟨b,o,none⟩)∧bs=[b]∧b<w.heap.size∧w.rangeAt b o cs∧w.there b o t.sz∧DRel w O false t y cs []
def RessR(w:World)(O:Nat→Prop):List Res→List Value→List Dyn→List Nat→Prop
 |[],vs,ds,bs=>vs=[]∧ds=[]∧bs=[]
 |r::rs,vs,ds,bs=> ∃v vs' d ds' bs1 bs2,vs=v::vs'∧ds=d::ds'∧bs=bs1++bs2∧ResR w O r v d bs1∧RessR w O rs vs' ds' bs2
def packVs:List Value→Value
 |[v]=>v
 |vs=> .tuple vs.toArray
def Ends(w:World)(s:Spec)(args:List Value)(bs F:List Nat)(y:PT (retL s.params s.res))(v:Value)(w':World):Prop:=
 ∃vs bs1 bs2 outs ress,v=packVs vs∧encP _ y=outs++ress∧OutsR w w' (· ∈bs1++bs2++F) s.params args outs bs1∧RessR w' (· ∈bs1++bs2++F) s.res vs ress bs2∧
  (bs1++bs2++F).Nodup∧(∀k∈bs1++bs2++F,k<w'.heap.size)∧Stp w (· ∈bs++F) w' (· ∈bs1++bs2++F)∧ ∀k∈F,w'.heap[k]?=w.heap[k]?
def Contract(P:Program)(g:FuncId)(s:Spec):Prop:=
 ∀x y,s.den x=some y→ ∀(w:World) (args:List Value) (bs F:List Nat),ArgsR w (· ∈bs++F) s.params args (encP _ x) bs→(bs++F).Nodup→(∀k∈bs++F,k<w.heap.size)→
  Calls P g args.toArray w fun| .returned v,w'=>Ends w s args bs F y v w'|_,_=>False
def extL(lk:Look):Look:=fun r=>if r=0 then some .ext else lk r
section
variable {γ:Nat→G} {B:Nat→List Nat} {w:World} {lk:Look}
theorem Mem.scatter(hM:Mem γ B w lk)(h0:lk 0=some .ext)(S pot:List Nat)(w':World)(hS0:0∉S)(hS: ∀r∈S,∃y,lk r=some y)
  (hsz:w.heap.size≤w'.heap.size) (hkeep: ∀k,k<w.heap.size→(∀r∈S,k∉B r)→w'.heap[k]?=w.heap[k]?) (hos:w'.os=w.os) (hou:w'.output=w.output) (hta:w'.tape=w.tape)
  (hnd:pot.Nodup) (hpot: ∀k∈pot,k<w'.heap.size∧(k<w.heap.size→ ∃r∈S,k∈B r)):
  Mem γ (fun s=>if s∈S then []else if s=0 then B 0++pot else B s) w' (killF lk S)∧
   Kp γ (Dom lk) w (Owned B lk) γ (Dom (killF lk S)) w' (Owned (fun s=>if s∈S then []else if s=0 then B 0++pot else B s) (killF lk S)) (fun _=>True):=by
 generalize hB:(fun s=>if s∈S then []else if s=0 then B 0++pot else B s)=B'
 have hB0:B' 0=B 0++pot:=by subst hB;simp[hS0]
 have hBS: ∀s∈S,B' s=[]:=fun s hs=>by subst hB;simp[hs]
 have hBo: ∀s,s∉S→s≠0→B' s=B s:=fun s h1 h2=>by subst hB;simp[h1,h2]
 have hl0:killF lk S 0=some .ext:=by simp[killF,hS0,h0]
 have hlo: ∀s,s∉S→killF lk S s=lk s:=fun s h=>by simp[killF,h]
 have hlS: ∀s∈S,killF lk S s=some .dead:=fun s h=>by simp[killF,h]
 have hown: ∀k,AllW (Owned B' (killF lk S)) k→k<w.heap.size→AllW (Owned B lk) k:=by
  rintro k ⟨s,y,h1,h2⟩ hk
  by_cases e:s∈S
  ·rw[hBS s e]at h2;simp at h2
  ·by_cases e0:s=0
   ·subst e0
    rw[hB0,List.mem_append]at h2
    rcases h2 with h2|h2
    ·exact⟨0,_,h0,h2⟩
    ·obtain⟨r,hr,h3⟩:=(hpot k h2).2 hk
     obtain⟨z,hz⟩:=hS r hr
     exact⟨r,z,hz,h3⟩
   ·rw[hBo s e e0]at h2;rw[hlo s e]at h1;exact⟨s,y,h1,h2⟩
 have hdom: ∀s,Dom lk s≠0→Dom (killF lk S) s≠0:=fun s hs=>by
  by_cases e:s∈S
  ·exact Dom_ne (hlS s e)
  ·rw[Dom_eq (hlo s e)];exact hs
 have hK:Kp γ (Dom lk) w (Owned B lk) γ (Dom (killF lk S)) w' (Owned B' (killF lk S)) (fun _=>True):=
  ⟨⟨hsz,fun k hk hno=>hkeep k hk (fun r hr h=>by obtain⟨z,hz⟩:=hS r hr;exact hno ⟨r,z,hz,h⟩),fun k hk hno h=>hno (hown k h hk),hos,hou,hta⟩,fun _ _=>rfl,hdom,fun _ _ h=>absurd trivial h⟩
 have hback: ∀s y,killF lk S s=some y→s∉S→lk s=some y:=fun s y h e=>by rw[←hlo s e];exact h
 have huniq: ∀s s' y y' k,killF lk S s=some y→killF lk S s'=some y'→k∈B' s→k∈B' s'→s=s':=by
  have key: ∀s y k,killF lk S s=some y→k∈B' s→s≠0→k∈B' 0→False:=by
   intro s y k hy hk e0 hk0
   by_cases e:s∈S
   ·rw[hBS s e]at hk;simp at hk
   ·rw[hBo s e e0]at hk
    have hy':=hback s y hy e
    rw[hB0,List.mem_append]at hk0
    rcases hk0 with hk0|hk0
    ·exact e0 (hM.uniq s 0 y _ k hy' h0 hk hk0)
    ·obtain⟨r,hr,h3⟩:=(hpot k hk0).2 (hM.lt s y hy' k hk)
     obtain⟨z,hz⟩:=hS r hr
     exact e ((hM.uniq s r y z k hy' hz hk h3)▸hr)
  intro s s' y y' k hy hy' hk hk'
  by_cases e0:s=0
  ·by_cases e0':s'=0
   ·rw[e0,e0']
   ·exact(key s' y' k hy' hk' e0' (e0▸hk)).elim
  ·by_cases e0':s'=0
   ·exact(key s y k hy hk e0 (e0'▸hk')).elim
   ·by_cases e:s∈S
    ·rw[hBS s e]at hk;simp at hk
    ·by_cases e':s'∈S
     ·rw[hBS s' e']at hk';simp at hk'
     ·rw[hBo s e e0]at hk;rw[hBo s' e' e0']at hk'
      exact hM.uniq s s' y y' k (hback s y hy e) (hback s' y' hy' e') hk hk'
 refine⟨⟨fun s y hy=>?_,fun s y hy=>?_,huniq,fun s y hy k hk=>?_,fun s hs n k b o ha=>?_⟩,hK⟩
 ·by_cases e:s∈S
  ·rw[hlS s e]at hy;cases hy;rw[hBS s e]
   unfold RootRel;split<;>first|trivial|simp_all
  ·by_cases e0:s=0
   ·subst e0;rw[hl0]at hy;cases hy
    unfold RootRel;split<;>first|trivial|simp_all
   ·rw[hBo s e e0]
    have hy':=hback s y hy e
    exact(hM.rel s y hy').keep hK (fun k hk=>hkeep k (hM.lt s y hy' k hk) (fun r hr h=>by
     obtain⟨z,hz⟩:=hS r hr
     exact e ((hM.uniq s r y z k hy' hz hk h)▸hr)))
 ·by_cases e:s∈S
  ·rw[hBS s e];exact List.nodup_nil
  ·by_cases e0:s=0
   ·subst e0
    rw[hB0,List.nodup_append]
    refine⟨hM.nodup 0 _ h0,hnd,fun a ha b hb hab=>?_⟩
    subst hab
    obtain⟨r,hr,h3⟩:=(hpot a hb).2 (hM.lt 0 _ h0 a ha)
    obtain⟨z,hz⟩:=hS r hr
    exact hS0 ((hM.uniq 0 r _ z a h0 hz ha h3)▸hr)
   ·rw[hBo s e e0];exact hM.nodup s y (hback s y hy e)
 ·by_cases e:s∈S
  ·rw[hBS s e]at hk;simp at hk
  ·by_cases e0:s=0
   ·subst e0
    rw[hB0,List.mem_append]at hk
    rcases hk with hk|hk
    ·exact Nat.lt_of_lt_of_le (hM.lt 0 _ h0 k hk) hsz
    ·exact(hpot k hk).1
   ·rw[hBo s e e0]at hk;exact Nat.lt_of_lt_of_le (hM.lt s y (hback s y hy e) k hk) hsz
 ·have:Dom lk s≠0:=by
   by_cases e:s∈S
   ·obtain⟨z,hz⟩:=hS s e;exact Dom_ne hz
   ·rw[←Dom_eq (hlo s e)];exact hs
  exact Nat.lt_of_lt_of_le (hM.glt s this n k b o ha) hsz
theorem Mem.draw(hM:Mem γ B w lk)(h0:lk 0=some .ext){r:Nat}(hr0:r≠0)(hr:lk r=none∨(lk r=some .dead∧B r=[])){x':Root}{g:G}{bs:List Nat}
  (hg:lk r≠none→g=γ r) (hbs: ∀k∈bs,k∈B 0) (hnd:bs.Nodup) (hglt: ∀n k b o,g.at n k=some (b,o)→b<w.heap.size)
  (hrel: ∀γ' B' lk',γ'=updN γ r g→lk'=setF lk r x'→Kp γ (Dom lk) w (Owned B lk) γ' (Dom lk') w (Owned B' lk') (fun _=>True)→(∀k,AllW (Owned B' lk') k↔AllW (Owned B lk) k)→
   RootRel γ' (Dom lk') w (Owned B' lk') g x' bs):
  ∃B',Mem (updN γ r g) B' w (setF lk r x')∧B' r=bs∧(∀k,k∈B' 0↔k∈B 0∧k∉bs)∧(∀s,s≠r→s≠0→B' s=B s)∧(∀k,AllW (Owned B' (setF lk r x')) k↔AllW (Owned B lk) k)∧
   Kp γ (Dom lk) w (Owned B lk) (updN γ r g) (Dom (setF lk r x')) w (Owned B' (setF lk r x')) (fun _=>True):=by
 refine⟨updN (updN B 0 ((B 0).filter fun k=>!bs.contains k)) r bs,?_⟩
 generalize hB:updN (updN B 0 ((B 0).filter fun k=>!bs.contains k)) r bs=B'
 have hB0: ∀k,k∈B' 0↔k∈B 0∧k∉bs:=fun k=>by subst hB;simp[updN,hr0.symm]
 have hBr:B' r=bs:=by subst hB;simp[updN]
 have hBo: ∀s,s≠r→s≠0→B' s=B s:=fun s h1 h2=>by subst hB;simp[updN,h1,h2]
 have hl0:setF lk r x' 0=some .ext:=by simp[setF,hr0.symm,h0]
 have hlr:setF lk r x' r=some x':=by simp[setF]
 have hlo: ∀s,s≠r→setF lk r x' s=lk s:=fun s h=>by simp[setF,h]
 have hall: ∀k,AllW (Owned B' (setF lk r x')) k↔AllW (Owned B lk) k:=by
  intro k
  constructor
  ·rintro⟨s,y,h1,h2⟩
   by_cases e:s=r
   ·subst e;rw[hBr]at h2;exact⟨0,_,h0,hbs k h2⟩
   ·rw[hlo s e]at h1
    by_cases e0:s=0
    ·subst e0;exact⟨0,_,h1,((hB0 k).1 h2).1⟩
    ·rw[hBo s e e0]at h2;exact⟨s,y,h1,h2⟩
  ·rintro⟨s,y,h1,h2⟩
   by_cases e:s=r
   ·subst e
    rcases hr with h|⟨_,h⟩
    ·rw[h]at h1;cases h1
    ·rw[h]at h2;simp at h2
   ·by_cases e0:s=0
    ·subst e0
     by_cases hk:k∈bs
     ·exact⟨r,x',hlr,by rw[hBr];exact hk⟩
     ·exact⟨0,_,hl0,(hB0 k).2 ⟨h2,hk⟩⟩
    ·exact⟨s,y,by rw[hlo s e];exact h1,by rw[hBo s e e0];exact h2⟩
 have hdom: ∀s,Dom lk s≠0→Dom (setF lk r x') s≠0:=fun s hs=>by
  by_cases e:s=r
  ·subst e;exact Dom_ne hlr
  ·rw[Dom_eq (hlo s e)];exact hs
 have hK:Kp γ (Dom lk) w (Owned B lk) (updN γ r g) (Dom (setF lk r x')) w (Owned B' (setF lk r x')) (fun _=>True):=
  ⟨⟨Nat.le_refl _,fun _ _ _=>rfl,fun k hk hno h=>hno ((hall k).1 h),rfl,rfl,rfl⟩,fun s hs=>by
   by_cases e:s=r
   ·subst e;simp only[updN,if_true];exact hg (fun h=>hs (dom_none.2 h))
   ·simp[updN,e],hdom,fun _ _ h=>absurd trivial h⟩
 have huniq: ∀s s' y y' k,setF lk r x' s=some y→setF lk r x' s'=some y'→k∈B' s→k∈B' s'→s=s':=by
  have key: ∀s y k,setF lk r x' s=some y→k∈B' s→s≠r→k∈bs→False:=by
   intro s y k hy hk e hk'
   by_cases e0:s=0
   ·subst e0;exact((hB0 k).1 hk).2 hk'
   ·rw[hBo s e e0]at hk;rw[hlo s e]at hy
    exact e0 (hM.uniq s 0 y _ k hy h0 hk (hbs k hk'))
  intro s s' y y' k hy hy' hk hk'
  by_cases e:s=r
  ·by_cases e':s'=r
   ·rw[e,e']
   ·subst e;rw[hBr]at hk;exact(key s' y' k hy' hk' e' hk).elim
  ·by_cases e':s'=r
   ·subst e';rw[hBr]at hk';exact(key s y k hy hk e hk').elim
   ·rw[hlo s e]at hy;rw[hlo s' e']at hy'
    have h1:k∈B s:=by
     by_cases e0:s=0
     ·subst e0;exact((hB0 k).1 hk).1
     ·rw[hBo s e e0]at hk;exact hk
    have h2:k∈B s':=by
     by_cases e0:s'=0
     ·subst e0;exact((hB0 k).1 hk').1
     ·rw[hBo s' e' e0]at hk';exact hk'
    exact hM.uniq s s' y y' k hy hy' h1 h2
 refine⟨⟨fun s y hy=>?_,fun s y hy=>?_,huniq,fun s y hy k hk=>?_,fun s hs n k b o ha=>?_⟩,hBr,hB0,hBo,hall,hK⟩
 ·by_cases e:s=r
  ·subst e
   rw[hlr]at hy
   cases hy
   rw[hBr]
   simp only[updN,if_true]
   exact hrel _ _ _ rfl rfl hK hall
  ·rw[hlo s e]at hy
   simp only[updN,e,if_false]
   by_cases e0:s=0
   ·subst e0;rw[h0]at hy;cases hy
    unfold RootRel;split<;>first|trivial|simp_all
   ·rw[hBo s e e0]
    exact(hM.rel s y hy).keep hK (fun _ _=>rfl)
 ·by_cases e:s=r
  ·subst e;rw[hBr];exact hnd
  ·rw[hlo s e]at hy
   by_cases e0:s=0
   ·subst e0 hB
    simp only[updN,hr0.symm,if_false,if_true]
    exact(hM.nodup 0 _ h0).filter _
   ·rw[hBo s e e0];exact hM.nodup s y hy
 ·by_cases e:s=r
  ·subst e;rw[hBr]at hk;exact hM.lt 0 _ h0 k (hbs k hk)
  ·rw[hlo s e]at hy
   by_cases e0:s=0
   ·subst e0;exact hM.lt 0 _ h0 k ((hB0 k).1 hk).1
   ·rw[hBo s e e0]at hk;exact hM.lt s y hy k hk
 ·by_cases e:s=r
  ·subst e;simp only[updN,if_true]at ha;exact hglt n k b o ha
  ·simp only[updN,e,if_false]at ha
   exact hM.glt s (by rw[←Dom_eq (hlo s e)];exact hs) n k b o ha
end
end Go.Vm
namespace Go.Vm
open Go
structure Drw(γ:Nat→G)(B:Nat→List Nat)(lk:Look)(γ':Nat→G)(B':Nat→List Nat)(lk':Look)(w:World)(bs ks:List Nat):Prop where
 mem:Mem γ' B' w lk'
 ext:lk' 0=some .ext
 zero: ∀k,k∈B' 0↔k∈B 0∧k∉bs
 other: ∀s,s∉ks→s≠0→B' s=B s∧lk' s=lk s
 mine: ∀s∈ks,∀k∈B' s,k∈bs
 all: ∀k,AllW (Owned B' lk') k↔AllW (Owned B lk) k
 kp:Kp γ (Dom lk) w (Owned B lk) γ' (Dom lk') w (Owned B' lk') (fun _=>True)
 known: ∀s∈ks,(∃y,lk' s=some y)∧s≠0
section
variable {γ γ' γ'':Nat→G} {B B' B'':Nat→List Nat} {w:World} {lk lk' lk'':Look}
theorem Drw.refl(hM:Mem γ B w lk)(h0:lk 0=some .ext):Drw γ B lk γ B lk w [] []:=
 ⟨hM,h0,fun k=>by simp,fun _ _ _=>⟨rfl,rfl⟩,by simp,fun _=>Iff.rfl,Kp.refl _ _ _ _ _,by simp⟩
theorem Drw.trans{bs ks bs' ks':List Nat}(h:Drw γ B lk γ' B' lk' w bs ks)(k:Drw γ' B' lk' γ'' B'' lk'' w bs' ks'):Drw γ B lk γ'' B'' lk'' w (bs++bs') (ks++ks'):=by
 refine⟨k.mem,k.ext,fun j=>?_,fun s hs h0=>?_,fun s hs j hj=>?_,fun j=>(k.all j).trans (h.all j),(h.kp.trans k.kp).weaken fun _ _ _=>trivial,fun s hs=>?_⟩
 ·rw[k.zero,h.zero];simp[and_assoc,not_or]
 ·simp only[List.mem_append,not_or]at hs
  obtain⟨h1,h2⟩:=k.other s hs.2 h0
  obtain⟨h3,h4⟩:=h.other s hs.1 h0
  exact⟨h1.trans h3,h2.trans h4⟩
 ·by_cases e:s∈ks'
  ·exact List.mem_append_right _ (k.mine s e j hj)
  ·have hs':s∈ks:=(List.mem_append.1 hs).resolve_right e
   rw[(k.other s e (h.known s hs').2).1]at hj
   exact List.mem_append_left _ (h.mine s hs' j hj)
 ·by_cases e:s∈ks'
  ·exact k.known s e
  ·have hs':s∈ks:=(List.mem_append.1 hs).resolve_right e
   obtain⟨⟨y,hy⟩,h2⟩:=h.known s hs'
   exact⟨⟨y,by rw[(k.other s e h2).2];exact hy⟩,h2⟩
theorem Drw.one(hM:Mem γ B w lk)(h0:lk 0=some .ext){r:Nat}(hr0:r≠0)(hr:lk r=none∨(lk r=some .dead∧B r=[])){x':Root}{g:G}{bs:List Nat}
  (hg:lk r≠none→g=γ r) (hbs: ∀k∈bs,k∈B 0) (hnd:bs.Nodup) (hglt: ∀n k b o,g.at n k=some (b,o)→b<w.heap.size)
  (hrel: ∀γ' B' lk',γ'=updN γ r g→lk'=setF lk r x'→Kp γ (Dom lk) w (Owned B lk) γ' (Dom lk') w (Owned B' lk') (fun _=>True)→(∀k,AllW (Owned B' lk') k↔AllW (Owned B lk) k)→
   RootRel γ' (Dom lk') w (Owned B' lk') g x' bs):
  ∃B',Drw γ B lk (updN γ r g) B' (setF lk r x') w bs [r]:=by
 obtain⟨B',h1,h2,h3,h4,h5,h6⟩:=hM.draw h0 hr0 hr (x':=x') (g:=g) (bs:=bs) hg hbs hnd hglt hrel
 refine⟨B',h1,by simp[setF,hr0.symm,h0],h3,fun s hs hs0=>?_,fun s hs k hk=>?_,h5,h6,fun s hs=>?_⟩
 ·have:s≠r:=by simpa using hs
  exact⟨h4 s this hs0,by simp[setF,this]⟩
 ·obtain rfl:s=r:=by simpa using hs
  rwa [h2]at hk
 ·obtain rfl:s=r:=by simpa using hs
  exact⟨⟨x',by simp[setF]⟩,hr0⟩
theorem DRel.anyO{O O':Nat→Prop}{t:Ty}{x:t.den}{cs:List Value}{bs:List Nat}(h:DRel w O true t x cs bs):DRel w O' true t x cs bs:=DRel.own (Nat.le_refl _) t x cs bs (fun _ _=>rfl) h
theorem ownL_pair(a b:Ty)(x:(Ty.pair a b).den)(i:Nat):ownL (.pair a b) x i=((ownL a x.1 i).1++(ownL b x.2 (ownL a x.1 i).2.2).1,(ownL a x.1 i).2.1++(ownL b x.2 (ownL a x.1 i).2.2).2.1,(ownL b x.2 (ownL a x.1 i).2.2).2.2):=rfl
theorem ownL_le: ∀(t:Ty) (x:t.den) (i:Nat),i≤(ownL t x i).2.2
 | .pair a b,x,i=>by
  simp only[ownL]
  exact Nat.le_trans (ownL_le a x.1 i) (ownL_le b x.2 _)
 | .st t,x,i=>by simp only[ownL];exact ownL_le t x i
 | .sl t,x,i=>by simp[ownL]
 | .unit,_,_| .int _,_,_| .bool,_,_| .str,_,_| .err,_,_| .ref,_,_| .arr _ _,_,_=>Nat.le_refl _
theorem ownL_keys: ∀(t:Ty) (x:t.den) (i:Nat),∀s∈(ownL t x i).2.1.map (·.1),i≤s∧s<(ownL t x i).2.2
 | .pair a b,x,i,s,hs=>by
  rw[ownL_pair]at hs⊢
  dsimp only at hs⊢
  have l1:=ownL_le a x.1 i
  have l2:=ownL_le b x.2 (ownL a x.1 i).2.2
  rw[List.map_append,List.mem_append]at hs
  rcases hs with h|h
  ·have:=ownL_keys a x.1 i s h;omega
  ·have:=ownL_keys b x.2 _ s h;omega
 | .st t,x,i,s,hs=>ownL_keys t x i s (by simpa only[ownL]using hs)
 | .sl t,x,i,s,hs=>by simp[ownL]at hs⊢;omega
 | .unit,_,_,_,hs| .int _,_,_,_,hs| .bool,_,_,_,hs| .str,_,_,_,hs| .err,_,_,_,hs| .ref,_,_,_,hs| .arr _ _,_,_,_,hs=>by simp[ownL]at hs
theorem own_row{O:Nat→Prop}(hM:Mem γ B w lk)(h0:lk 0=some .ext){i:Nat}(hi0:i≠0)(hi:lk i=none){t:Ty}{xs:List t.den}{v:Value}{bs:List Nat}(h:OwnS w (DRel w O true t) t.sz xs v bs)(hone:v.oneCell'=true)(hbs: ∀k∈bs,k∈B 0)(hnd:bs.Nodup):
  ∃γ' B',Drw γ B lk γ' B' (setF lk i (.row t xs .full)) w bs [i]∧LRel γ' (Dom (setF lk i (.row t xs .full))) w (Owned B' (setF lk i (.row t xs .full))) (.rf i) [v]:=by
 obtain⟨B',hd⟩:=Drw.one hM h0 hi0 (.inl hi) (x':= .row t xs .full) (g:= .row v t) (bs:=bs) (fun h=>absurd hi h) hbs hnd
  (fun n k b o ha=>by
   obtain⟨⟨l,c,rfl⟩,_⟩:=at_row ha
   simp only[G.at,Option.map_eq_some_iff,Prod.mk.injEq]at ha
   obtain⟨g,hg,_⟩:=ha
   obtain⟨_,_,e⟩:=rowAt_some hg
   rcases h with⟨_,e1,_⟩|⟨g',cap,cells,rest,e1,_,_,h3,_⟩
   ·cases e1;cases e
   ·cases e1;exact h3)
  (fun γ' B' lk' _ _ hK _=>RootRel.mkRow (by simp) (by
   rw[RowR.deep rfl]
   exact h.step (fun _ _=>rfl) (Nat.le_refl _) (fun x c b _ _ h=>h.anyO)))
 refine⟨_,B',hd,?_⟩
 simp only[LRel]
 exact⟨Dom_setF_same,v,t,by simp[updN],rfl,hone⟩
theorem OwnS.one{α:Type}{R:α→List Value→List Nat→Prop}{sz:Nat}{xs:List α}{v:Value}{bs:List Nat}(h:OwnS w R sz xs v bs):v.oneCell'=true:=by
 rcases h with⟨_,rfl,_⟩|⟨g,cap,cells,rest,rfl,_⟩<;>rfl
theorem ownL_draw{O:Nat→Prop}: ∀(t:Ty) (x:t.den) (cs:List Value) (bs:List Nat) (i:Nat) (γ:Nat→G) (B:Nat→List Nat) (lk:Look),DRel w O true t x cs bs→t.arrOK=true→bs.Nodup→Mem γ B w lk→lk 0=some .ext→(∀k∈bs,k∈B 0)→0<i→
  (∀j∈(ownL t x i).2.1.map (·.1),lk j=none)→
  ∃γ' B' ks,Drw γ B lk γ' B' (updF lk ((ownL t x i).2.1.map fun(j,y)=>(j,some y))) w bs ks∧(∀s∈ks,(i≤s∧s<(ownL t x i).2.2)∧s∈(ownL t x i).2.1.map (·.1))∧
   LL γ' (Dom (updF lk ((ownL t x i).2.1.map fun(j,y)=>(j,some y)))) w (Owned B' (updF lk ((ownL t x i).2.1.map fun(j,y)=>(j,some y)))) (ownL t x i).1 cs
 | .pair a b,x,cs,bs,i,γ,B,lk,⟨c,d,p,q,e1,e2,h1,h2⟩,ho,hnd,hM,h0,hbs,hi,hf=>by
  subst e1 e2
  simp only[Ty.arrOK,Bool.and_eq_true]at ho
  rw[List.nodup_append]at hnd
  have l1:=ownL_le a x.1 i
  have l2:=ownL_le b x.2 (ownL a x.1 i).2.2
  obtain⟨γ1,B1,ks1,d1,k1,r1⟩:=ownL_draw a x.1 c p i γ B lk h1 ho.1 hnd.1 hM h0 (fun k hk=>hbs k (by simp[hk])) hi (fun j hj=>hf j (by rw[ownL_pair];simp only[List.map_append];exact List.mem_append_left _ hj))
  obtain⟨γ2,B2,ks2,d2,k2,r2⟩:=ownL_draw b x.2 d q (ownL a x.1 i).2.2 γ1 B1 _ h2 ho.2 hnd.2.1 d1.mem d1.ext (fun k hk=>(d1.zero k).2 ⟨hbs k (by simp[hk]),fun hk'=>hnd.2.2 k hk' k hk rfl⟩) (by omega)
   (fun j hj=>by
    have hj2:=ownL_keys b x.2 _ j hj
    have:j∉ks1:=fun hk=>by have:=(k1 j hk).1;omega
    rw[(d1.other j this (by omega)).2]
    exact hf j (by rw[ownL_pair];simp only[List.map_append];exact List.mem_append_right _ hj))
  have he:(ownL (.pair a b) x i).2.1.map (fun(j,y)=>(j,some y))=(ownL a x.1 i).2.1.map (fun(j,y)=>(j,some y))++(ownL b x.2 (ownL a x.1 i).2.2).2.1.map (fun(j,y)=>(j,some y)):=by
   simp only[ownL,List.map_append]
  rw[he,updF_append]
  refine⟨γ2,B2,ks1++ks2,d1.trans d2,fun s hs=>?_,?_⟩
  ·rcases List.mem_append.1 hs with h|h
   ·have:=k1 s h;exact⟨⟨this.1.1,by rw[ownL_pair];dsimp only;omega⟩,by rw[ownL_pair];simp only[List.map_append];exact List.mem_append_left _ this.2⟩
   ·have:=k2 s h;exact⟨⟨by omega,by rw[ownL_pair];exact this.1.2⟩,by rw[ownL_pair];simp only[List.map_append];exact List.mem_append_right _ this.2⟩
  ·have:(ownL (.pair a b) x i).1=(ownL a x.1 i).1++(ownL b x.2 (ownL a x.1 i).2.2).1:=by simp only[ownL]
   rw[this]
   have hfree:nstOfL (ownL a x.1 i).1=[]:=by
    have key: ∀(t:Ty) (x:t.den) (i:Nat),nstOfL (ownL t x i).1=[]:=by
     intro t
     induction t with
     |pair a b iha ihb=>
      intro x i
      have happ: ∀(l l':List PV),nstOfL (l++l')=nstOfL l++nstOfL l':=by
       intro l l';induction l with
       |nil=>rfl
       |cons p l ih=>simp[nstOfL,ih]
      simp only[ownL,happ,iha,ihb,List.append_nil]
     |st t ih=>intro x i;simpa only[ownL]using ih x i
     |_=>intro x i;simp[ownL,nstOfL,nstOf]
    exact key a x.1 i
   exact(LL.step d2.kp _ _ (by rw[hfree];simp) r1).append r2
 | .st t,x,cs,bs,i,γ,B,lk,h,ho,hnd,hM,h0,hbs,hi,hf=>by
  have:=ownL_draw t x cs bs i γ B lk h (by simpa[Ty.arrOK]using ho) hnd hM h0 hbs hi (by simpa only[ownL]using hf)
  simpa only[ownL]using this
 | .sl t,x,cs,bs,i,γ,B,lk,⟨v,e,h⟩,ho,hnd,hM,h0,hbs,hi,hf=>by
  subst e
  obtain⟨γ',B',hd,hl⟩:=own_row hM h0 (by omega) (hf i (by simp[ownL])) h h.one hbs hnd
  refine⟨γ',B',[i],by simpa[ownL,updF]using hd,by simp[ownL],?_⟩
  simp only[ownL,List.map_cons,List.map_nil,updF,Option.getD_some]
  exact LL.single.2 hl
 | .unit,x,cs,bs,i,γ,B,lk,⟨e1,e2⟩,ho,hnd,hM,h0,hbs,hi,hf=>by
  subst e1 e2
  exact⟨γ,B,[],by simpa[ownL,updF]using Drw.refl hM h0,by simp,by simp[ownL,LL]⟩
 | .int k,x,cs,bs,i,γ,B,lk,h,ho,hnd,hM,h0,hbs,hi,hf=>by
  obtain⟨rfl,h'⟩:=DRel.flat (w':=w) (O':=AllW (Owned B lk)) (m':=false) (.int k) x cs bs rfl h
  exact⟨γ,B,[],by simpa[ownL,updF]using Drw.refl hM h0,by simp,by simp only[ownL,List.map_nil,updF];rw[LL.single];simp only[LRel];exact⟨rfl,h'⟩⟩
 | .bool,x,cs,bs,i,γ,B,lk,h,ho,hnd,hM,h0,hbs,hi,hf=>by
  obtain⟨rfl,h'⟩:=DRel.flat (w':=w) (O':=AllW (Owned B lk)) (m':=false) .bool x cs bs rfl h
  exact⟨γ,B,[],by simpa[ownL,updF]using Drw.refl hM h0,by simp,by simp only[ownL,List.map_nil,updF];rw[LL.single];simp only[LRel];exact⟨rfl,h'⟩⟩
 | .str,x,cs,bs,i,γ,B,lk,h,ho,hnd,hM,h0,hbs,hi,hf=>by
  obtain⟨rfl,h'⟩:=DRel.flat (w':=w) (O':=AllW (Owned B lk)) (m':=false) .str x cs bs rfl h
  exact⟨γ,B,[],by simpa[ownL,updF]using Drw.refl hM h0,by simp,by simp only[ownL,List.map_nil,updF];rw[LL.single];simp only[LRel];exact⟨rfl,h'⟩⟩
 | .err,x,cs,bs,i,γ,B,lk,h,ho,hnd,hM,h0,hbs,hi,hf=>by
  obtain⟨rfl,h'⟩:=DRel.flat (w':=w) (O':=AllW (Owned B lk)) (m':=false) .err x cs bs rfl h
  exact⟨γ,B,[],by simpa[ownL,updF]using Drw.refl hM h0,by simp,by simp only[ownL,List.map_nil,updF];rw[LL.single];simp only[LRel];exact⟨rfl,h'⟩⟩
 | .ref,x,cs,bs,i,γ,B,lk,h,ho,hnd,hM,h0,hbs,hi,hf=>by
  obtain⟨rfl,h'⟩:=DRel.flat (w':=w) (O':=AllW (Owned B lk)) (m':=false) .ref x cs bs rfl h
  exact⟨γ,B,[],by simpa[ownL,updF]using Drw.refl hM h0,by simp,by simp only[ownL,List.map_nil,updF];rw[LL.single];simp only[LRel];exact⟨rfl,h'⟩⟩
 | .arr n t,x,cs,bs,i,γ,B,lk,h,ho,hnd,hM,h0,hbs,hi,hf=>by
  obtain⟨rfl,h'⟩:=DRel.flat (w':=w) (O':=AllW (Owned B lk)) (m':=false) (.arr n t) x cs bs (by simpa[Ty.flat,Ty.arrOK]using ho) h
  exact⟨γ,B,[],by simpa[ownL,updF]using Drw.refl hM h0,by simp,by simp only[ownL,List.map_nil,updF];rw[LL.single];simp only[LRel];exact⟨rfl,h'⟩⟩
theorem box_draw(hM:Mem γ B w lk)(h0:lk 0=some .ext){r:Nat}(hr0:r≠0)(hr:lk r=none∨(lk r=some .dead∧B r=[])){ps:List PV}{cs:List Value}{b o:Nat}{out:Nat→Option Value×Bool}(hl:LL γ (Dom lk) w (Owned B lk) ps cs)(hn:nstFree ps=true)
  (hra:w.rangeAt b o cs) (hth:w.there b o (ps.map szV).sum) (hb:b<w.heap.size) (hb0:b∈B 0) (hg:lk r≠none→γ r= .box b o (ps.map szV) out)
  (hout: ∀j,(j<o∨o+(ps.map szV).sum≤j)→(w.cell? ⟨b,j,none⟩,w.frozen? ⟨b,j,none⟩)=out j):
  ∃B',Drw γ B lk (updN γ r (.box b o (ps.map szV) out)) B' (setF lk r (.box ps)) w [b] [r]:=
 Drw.one hM h0 hr0 hr (fun h=>(hg h).symm) (by simpa using hb0) (by simp) (fun n k b' o' ha=>by obtain⟨_,rfl,_⟩:=at_box ha;exact hb)
  (fun γ' B' lk' _ _ hK _=>⟨hn,rfl,rfl,hb,⟨cs,hl.step hK _ _ (by rw[nstOfL_free _ hn];simp),hra⟩,hth,hout⟩)
theorem ownL_free: ∀(t:Ty) (x:t.den) (i:Nat),nstFree (ownL t x i).1=true
 | .pair a b,x,i=>by simp only[ownL];rw[nstFree_append];exact⟨ownL_free a x.1 i,ownL_free b x.2 _⟩
 | .st t,x,i=>by simpa only[ownL]using ownL_free t x i
 | .unit,_,_=>rfl
 | .sl _,_,_| .int _,_,_| .bool,_,_| .str,_,_| .err,_,_| .ref,_,_| .arr _ _,_,_=>by simp[ownL,nstFree,leafOK]
theorem leaves_free: ∀(t:Ty) (x:t.den),nstFree (leaves t x)=true
 | .pair a b,x=>by simp only[leaves];rw[nstFree_append];exact⟨leaves_free a x.1,leaves_free b x.2⟩
 | .st t,x=>by simpa only[leaves]using leaves_free t x
 | .unit,_=>rfl
 | .sl _,_| .int _,_| .bool,_| .str,_| .err,_| .ref,_| .arr _ _,_=>by simp[leaves,nstFree,leafOK]
theorem ownL_sz(t:Ty)(x:t.den)(i:Nat):((ownL t x i).1.map szV).sum=t.sz:=by rw[←alikeL_sz (ownL_alike t x i),zeroL_sz,szT_sum]
theorem leaves_sz(t:Ty)(x:t.den):((leaves t x).map szV).sum=t.sz:=by rw[←alikeL_sz (leaves_alike t x),zeroL_sz,szT_sum]
end
end Go.Vm
namespace Go.Vm
open Go
section
variable {w:World} {O:Nat→Prop} {u:Ty}
theorem listD_swap: ∀(t:Ty) (x:t.den) (k:Nat) (ys:List u.den) (cs:List Value) (bs:List Nat),(listD true t x k).run=some ⟨u,ys⟩→DRel w O true t x cs bs→
  ∃c1 v c3 b1 b2 b3,cs=c1++[v]++c3∧bs=b1++b2++b3∧c1.length=offL t k∧OwnS w (DRel w O true u) u.sz ys v b2∧
   (∀(w':World) (O':Nat→Prop),w.heap.size≤w'.heap.size→(∀j∈b1++b3,w'.heap[j]?=w.heap[j]?)→ ∀(ys':List u.den) b2' x',OwnS w' (DRel w' O' true u) u.sz ys' v b2'→(setListD true u ys' t x k).run=some x'→DRel w' O' true t x' cs (b1++b2'++b3))
 | .pair a b,x,k,ys,cs,bs,hs,⟨c,d,p,q,e1,e2,h1,h2⟩=>by
  simp only[listD,Out.cond_some]at hs
  rcases hs with⟨hk,hs⟩|⟨hk,hs⟩
  ·have hk':k<a.nl:=by simpa using hk
   obtain⟨c1,v,c3,b1,b2,b3,e3,e4,e5,h3,h4⟩:=listD_swap a x.1 k ys c p hs h1
   refine⟨c1,v,c3++d,b1,b2,b3++q,by rw[e1,e3];simp,by rw[e2,e4];simp,by rw[e5,offL_left _ _ (by omega)],h3,?_⟩
   intro w' O' hsz hj ys' b2' x' hy hx
   simp only[setListD,hk,cond_true,Out.bind_some,Out.ret_some]at hx
   obtain⟨z,hz,rfl⟩:=hx
   refine⟨c,d,b1++b2'++b3,q,e1,by simp,h4 w' O' hsz (fun j h=>hj j ?_) _ _ _ hy hz,DRel.own hsz _ _ _ _ (fun j h=>hj j (by simp[h])) h2⟩
   rcases List.mem_append.1 h with h|h
   ·simp[h]
   ·simp[h]
  ·have hk': ¬k<a.nl:=blt_false hk
   obtain⟨c1,v,c3,b1,b2,b3,e3,e4,e5,h3,h4⟩:=listD_swap b x.2 (k-a.nl) ys d q hs h2
   have ek:k=a.nl+(k-a.nl):=by omega
   refine⟨c++c1,v,c3,p++b1,b2,b3,by rw[e1,e3];simp,by rw[e2,e4];simp,?_,h3,?_⟩
   ·rw[List.length_append,e5,DRel.length _ _ _ _ h1];conv=>rhs;rw[ek,offL_right]
   ·intro w' O' hsz hj ys' b2' x' hy hx
    simp only[setListD,hk,cond_false,Out.bind_some,Out.ret_some]at hx
    obtain⟨z,hz,rfl⟩:=hx
    refine⟨c,d,p,b1++b2'++b3,e1,by simp,DRel.own hsz _ _ _ _ (fun j h=>hj j (by simp[h])) h1,h4 w' O' hsz (fun j h=>hj j ?_) _ _ _ hy hz⟩
    rcases List.mem_append.1 h with h|h
    ·simp[h]
    ·simp[h]
 | .st t,x,k,ys,cs,bs,hs,h=>by
  obtain⟨c1,v,c3,b1,b2,b3,e3,e4,e5,h3,h4⟩:=listD_swap t x k ys cs bs hs h
  exact⟨c1,v,c3,b1,b2,b3,e3,e4,e5,h3,h4⟩
 | .sl t,x,k,ys,cs,bs,hs,⟨v,e,h⟩=>by
  simp only[listD,Out.cond_some,Out.fail_some,and_false,or_false,Out.ret_some]at hs
  obtain⟨hk,hs⟩:=hs
  cases hs
  simp only[Bool.true_and,beq_iff_eq]at hk
  subst hk
  refine⟨[],v,[],[],bs,[],by simpa using e,by simp,rfl,h,fun _ _ _ _ ys' b2' x' hy hx=>?_⟩
  simp only[setListD,Bool.true_and,beq_self_eq_true,cond_true]at hx
  obtain⟨e',rfl⟩:=castL_some.1 hx
  exact⟨v,e,by simpa using hy⟩
 | .arr _ _,_,_,_,_,_,hs,_=>by simp[listD,Out.run]at hs
 | .unit,_,_,_,_,_,hs,_| .int _,_,_,_,_,_,hs,_| .bool,_,_,_,_,_,hs,_| .str,_,_,_,_,_,hs,_| .err,_,_,_,_,_,hs,_| .ref,_,_,_,_,_,hs,_=>by simp[listD,Out.run]at hs
theorem listD_nest: ∀(t:Ty) (x:t.den) (k:Nat) (ys:List u.den),(listD true t x k).run=some ⟨u,ys⟩→nestTy t k=some u
 | .pair a b,x,k,ys,h=>by
  simp only[listD,Out.cond_some]at h
  rcases h with⟨hk,h⟩|⟨hk,h⟩
  ·simp only[nestTy,hk,cond_true];exact listD_nest a x.1 k ys h
  ·simp only[nestTy,hk,cond_false];exact listD_nest b x.2 (k-a.nl) ys h
 | .st t,x,k,ys,h=>by simpa only[nestTy]using listD_nest t x k ys h
 | .sl t,x,k,ys,h=>by
  simp only[listD,Out.cond_some,Out.fail_some,and_false,or_false,Out.ret_some]at h
  obtain⟨hk,h⟩:=h
  cases h
  simp only[Bool.true_and,beq_iff_eq]at hk
  subst hk;rfl
 | .arr _ _,_,_,_,h| .unit,_,_,_,h| .int _,_,_,_,h| .bool,_,_,_,h| .str,_,_,_,h| .err,_,_,_,h| .ref,_,_,_,h=>by simp[listD,Out.run]at h
theorem EL_swap{t:Ty}: ∀(xs:List t.den) (cs:List Value) (bs:List Nat) (n:Nat) (x:t.den) (k:Nat) (ys:List u.den),EL (DRel w O true t) xs cs bs→xs[n]?=some x→(listD true t x k).run=some ⟨u,ys⟩→
  ∃c1 v c3 b1 b2 b3,cs=c1++[v]++c3∧bs=b1++b2++b3∧c1.length=n*t.sz+offL t k∧OwnS w (DRel w O true u) u.sz ys v b2∧
   (∀(w':World) (O':Nat→Prop),w.heap.size≤w'.heap.size→(∀j∈b1++b3,w'.heap[j]?=w.heap[j]?)→ ∀(ys':List u.den) b2' x',OwnS w' (DRel w' O' true u) u.sz ys' v b2'→(setListD true u ys' t x k).run=some x'→EL (DRel w' O' true t) (xs.set n x') cs (b1++b2'++b3))
 |[],_,_,n,x,k,ys,_,h,_=>by simp at h
 |z::xs,cs,bs,0,x,k,ys,⟨c,c',b,b',e1,e2,h1,h2⟩,h,hs=>by
  simp only[List.getElem?_cons_zero,Option.some.injEq]at h
  subst h
  obtain⟨c1,v,c3,b1,b2,b3,e3,e4,e5,h3,h4⟩:=listD_swap t z k ys c b hs h1
  refine⟨c1,v,c3++c',b1,b2,b3++b',by rw[e1,e3];simp,by rw[e2,e4];simp,by omega,h3,?_⟩
  intro w' O' hsz hj ys' b2' x' hy hx
  refine⟨c,c',b1++b2'++b3,b',e1,by simp,h4 w' O' hsz (fun j h=>hj j ?_) _ _ _ hy hx,EL.mono (fun y d e _ he hr=>DRel.own hsz _ _ _ _ (fun j h=>hj j (by simp[he j h])) hr) h2⟩
  rcases List.mem_append.1 h with h|h
  ·simp[h]
  ·simp[h]
 |z::xs,cs,bs,n+1,x,k,ys,⟨c,c',b,b',e1,e2,h1,h2⟩,h,hs=>by
  obtain⟨c1,v,c3,b1,b2,b3,e3,e4,e5,h3,h4⟩:=EL_swap xs c' b' n x k ys h2 (by simpa using h) hs
  refine⟨c++c1,v,c3,b++b1,b2,b3,by rw[e1,e3];simp,by rw[e2,e4];simp,by rw[List.length_append,e5,DRel.length _ _ _ _ h1,Nat.succ_mul];omega,h3,?_⟩
  intro w' O' hsz hj ys' b2' x' hy hx
  refine⟨c,c',b,b1++b2'++b3,e1,by simp,DRel.own hsz _ _ _ _ (fun j h=>hj j (by simp[h])) h1,h4 w' O' hsz (fun j h=>hj j ?_) _ _ _ hy hx⟩
  rcases List.mem_append.1 h with h|h
  ·simp[h]
  ·simp[h]
theorem row_swap{t:Ty}{xs:List t.den}{v0:Value}{bs:List Nat}{n k:Nat}{x:t.den}{ys:List u.den}(ho:OwnS w (DRel w O true t) t.sz xs v0 bs)(hn:xs[n]?=some x)(hs:(listD true t x k).run=some ⟨u,ys⟩):
  ∃g v b1 b2 b3,(∃l c,v0= .slice (some ⟨g,0,none⟩) l c)∧w.cell? ⟨g,n*t.sz+offL t k,none⟩=some v∧bs=(g::b1)++b2++b3∧OwnS w (DRel w O true u) u.sz ys v b2∧
   (∀(w':World) (O':Nat→Prop),w.heap.size≤w'.heap.size→(∀j∈(g::b1)++b3,w'.heap[j]?=w.heap[j]?)→ ∀(ys':List u.den) b2' x',OwnS w' (DRel w' O' true u) u.sz ys' v b2'→(setListD true u ys' t x k).run=some x'→OwnS w' (DRel w' O' true t) t.sz (xs.set n x') v0 ((g::b1)++b2'++b3)):=by
 rcases ho with⟨A,e,rfl,_⟩|⟨g,cap,cells,rest,e,h1,h2,h3,h4,h5,h6,rfl⟩
 ·simp at hn
 ·obtain⟨c1,v,c3,b1,b2,b3,e3,e4,e5,h7,h8⟩:=EL_swap xs cells rest n x k ys h6 hn hs
  refine⟨g,v,b1,b2,b3,⟨_,_,e⟩,?_,by rw[e4];simp,h7,?_⟩
  ·have:=h4 c1.length v (by rw[e3];simp)
   rwa [Nat.zero_add,e5]at this
  ·intro w' O' hsz hj ys' b2' x' hy hx
   have hg:=hj g (by simp)
   refine .inr ⟨g,cap,cells,b1++b2'++b3,by rw[List.length_set];exact e,by rw[List.length_set];exact h1,h2,Nat.lt_of_lt_of_le h3 hsz,fun j v hv=>?_,fun j hv=>?_,h8 w' O' hsz (fun j h=>hj j ?_) _ _ _ hy hx,by simp⟩
   ·rw[World.cell?_of_block (a:=⟨g,0+j,none⟩) hg];exact h4 j v hv
   ·have:=h5 j hv
    rw[World.cell?_of_block (a:=⟨g,0+j,none⟩) hg]
    refine⟨this.1,?_⟩
    have h9:=this.2
    unfold World.frozen? at h9⊢
    dsimp only at h9⊢
    rw[hg];exact h9
   ·rcases List.mem_append.1 h with h|h
    ·simp[h]
    ·simp[h]
end
end Go.Vm
namespace Go.Vm
open Go
section
variable {γ:Nat→G} {D:Nat→Nat} {w:World} {W:Nat→Nat→Prop}
theorem VRel.lone{p:PV}{v:Value}(h:VRel γ D w W p v)(htop:isTop p=true)(hna:isAg p=false)(hnarr: ∀n t x,p≠ .sc (.arr n t) x):LRel γ D w W p [v]:=by
 cases p<;>simp only[isTop,isAg,Bool.false_eq_true,Bool.true_eq_false]at htop hna<;>simp only[VRel,VRel0]at h<;>try exact h
theorem cells_one{v:Value}(h:v.oneCell'=true):v.cells.toList=[v]:=by
 cases v<;>simp[Value.oneCell']at h<;>rfl
theorem VRel.cap{c:PV}{v:Value}(hc:capOK c=true):VRel γ D w W c v↔LRel γ D w W c [v]:=by
 cases c<;>simp only[capOK,Bool.false_eq_true]at hc<;>simp only[VRel,VRel0]
end
theorem Addr.add_zero(a:Addr):a.add 0=a:=by unfold Addr.add;split<;>simp_all
section
variable {γ:Nat→G} {B:Nat→List Nat} {w:World} {lk lkS:Look}
theorem shp_of{t:Ty}{p:PV}{v:Value}{x:t.den}(htop:topV t p=true)(hx:(toD lkS t p).run=some x)(hv:VRel γ (Dom lk) w (Owned B lk) p v):Shp t v v.cells.toList:=by
 simp only[topV,Bool.and_eq_true,Bool.or_eq_true,beq_iff_eq]at htop
 obtain⟨⟨hl,_⟩,hag⟩:=htop
 simp only[toD,Out.need_some,Out.bind_some]at hx
 obtain⟨hit,⟨x0,l⟩,hx,hl0⟩:=hx
 have hun:=hv.unpack hit
 have one:isAg p=false→(∀n t x,p≠ .sc (.arr n t) x)→v.cells.toList=[v]:=fun h1 h2=>by
  have:=LRel.oneCell (hv.lone hit h1 h2) v (by simp)
  exact cells_one this
 have hup:isAg p=false→unpack p=[p]:=fun h=>by cases p<;>first|rfl|simp[isAg]at h
 refine⟨fun hr=>?_,fun hr=>?_,by simpa using hl⟩
 ·cases t<;>simp only[isRowT,Bool.false_eq_true]at hr
  ·rename_i n u
   have h1:isAg p=false:=hag
   rw[hup h1]at hx
   simp only[Vm.toL,Out.bind_some]at hx
   obtain⟨y,hy,_⟩:=hx
   obtain rfl:=getSc_some.1 hy
   simpa using hun.2.2 _ _ _ rfl
  ·have h1:isAg p=true:=hag
   cases p<;>simp only[isAg,Bool.false_eq_true]at h1
   simpa using hun.2.1 _ rfl
 ·cases t<;>simp only[isRowT,Bool.true_eq_false]at hr
  all_goals try (have h1:isAg p=false:=hag;rw[hup h1]at hx;refine one h1 fun n t y hp=>?_;subst hp)
  all_goals try (simp[Vm.toL,getSc,castD,Out.bind,Out.run]at hx;done)
  ·simp[Vm.toL,Vm.sliceOf,Out.bind,Out.run]at hx
  ·simp[Ty.leaf,Ty.isSt]at hl
  ·simp[Ty.leaf,Ty.isSt]at hl
theorem reach_sub(lk:Look): ∀(n:Nat) (l:List Nat),∀r∈l,r∈reach lk n l
 |0,l,r,h=>h
 |n+1,l,r,h=>by simp only[reach];exact List.mem_append_left _ h
def NstOK(γ:Nat→G)(B:Nat→List Nat)(w:World)(lk:Look)(r n k:Nat)(t:Ty)(h:List Nat):Prop:=
 ∃(u:Ty) (xs:List u.den) (m:Own) (x:u.den) (v0 v:Value) (b1 b3:List Nat) (b o:Nat),lk r=some (.row u xs m)∧m.deep=true∧γ r= .row v0 u∧xs[n]?=some x∧B r=b1++h++b3∧(γ r).at n k=some (b,o)∧w.cell? ⟨b,o,none⟩=some v∧
  ∀(w':World) (O':Nat→Prop),w.heap.size≤w'.heap.size→(∀j∈b1++b3,w'.heap[j]?=w.heap[j]?)→ ∀(ys':List t.den) b2' x',OwnS w' (DRel w' O' true t) t.sz ys' v b2'→(setListD true t ys' u x k).run=some x'→OwnS w' (DRel w' O' true u) u.sz (xs.set n x') v0 (b1++b2'++b3)
structure Hand(γ:Nat→G)(B:Nat→List Nat)(w:World)(lk:Look)(ws:List Wb)(bs:List Nat):Prop where
 nodup:bs.Nodup
 sub: ∀k∈bs,∃r∈wbRoots ws,k∈B r
 nst: ∀r n k t,Wb.nst r n k t∈ws→ ∃h,NstOK γ B w lk r n k t h∧ ∀j∈B r,j∉h→j∉bs
theorem nst_root{r n k:Nat}{t:Ty}: ∀{ws:List Wb},Wb.nst r n k t∈ws→r∈wbRoots ws
 |x::ws,h=>by
  rcases List.mem_cons.1 h with h|h
  ·subst h;simp[wbRoots]
  ·have:=nst_root h
   cases x<;>simp[wbRoots,this]
theorem wbRoots_append: ∀(a b:List Wb),wbRoots (a++b)=wbRoots a++wbRoots b
 |[],b=>rfl
 |x::a,b=>by cases x<;>simp[wbRoots,wbRoots_append a b]
def KnownW(lk:Look)(ws:List Wb):Prop:= ∀r∈wbRoots ws,∃y,lk r=some y
theorem KnownW.append{a b:List Wb}(h:KnownW lk a)(k:KnownW lk b):KnownW lk (a++b):=fun r hr=>by
 rw[wbRoots_append,List.mem_append]at hr
 exact hr.elim (h r) (k r)
theorem Hand.append(hM:Mem γ B w lk){a b:List Wb}{bs bs':List Nat}(ha:Hand γ B w lk a bs)(hb:Hand γ B w lk b bs')(hka:KnownW lk a)(hkb:KnownW lk b)(hn:(wbRoots (a++b)).Nodup):Hand γ B w lk (a++b) (bs++bs'):=by
 rw[wbRoots_append,List.nodup_append]at hn
 refine⟨?_,fun k hk=>?_,fun r n k t hm=>?_⟩
 ·rw[List.nodup_append]
  refine⟨ha.nodup,hb.nodup,fun x hx y hy hxy=>?_⟩
  subst hxy
  obtain⟨r,hr,h1⟩:=ha.sub x hx
  obtain⟨s,hs,h2⟩:=hb.sub x hy
  obtain⟨y,hy⟩:=hka r hr
  obtain⟨z,hz⟩:=hkb s hs
  exact hn.2.2 r hr s hs (hM.uniq r s y z x hy hz h1 h2)
 ·rw[wbRoots_append]
  rcases List.mem_append.1 hk with h|h
  ·obtain⟨r,hr,h1⟩:=ha.sub k h;exact⟨r,by simp[hr],h1⟩
  ·obtain⟨r,hr,h1⟩:=hb.sub k h;exact⟨r,by simp[hr],h1⟩
 ·rcases List.mem_append.1 hm with h|h
  ·obtain⟨z,h1,h2⟩:=ha.nst r n k t h
   refine⟨z,h1,fun j hj hz hj'=>?_⟩
   rcases List.mem_append.1 hj' with h'|h'
   ·exact h2 j hj hz h'
   ·obtain⟨q,hq,h3⟩:=hb.sub j h'
    obtain⟨y,hy⟩:=hka r (nst_root h)
    obtain⟨y',hy'⟩:=hkb q hq
    exact hn.2.2 r (nst_root h) q hq (hM.uniq r q y y' j hy hy' hj h3)
  ·obtain⟨z,h1,h2⟩:=hb.nst r n k t h
   refine⟨z,h1,fun j hj hz hj'=>?_⟩
   rcases List.mem_append.1 hj' with h'|h'
   ·obtain⟨q,hq,h3⟩:=ha.sub j h'
    obtain⟨y,hy⟩:=hkb r (nst_root h)
    obtain⟨y',hy'⟩:=hka q hq
    exact hn.2.2 q hq r (nst_root h) (hM.uniq q r y' y j hy' hy h3 hj)
   ·exact h2 j hj hz h'
theorem row_own(hM:Mem γ B w lk){r:Nat}{u:Ty}{xs:List u.den}{m:Own}(hx:lk r=some (.row u xs m))(hm:(m.deep||(u.flat&&!decide (m= .froz)))=true){v:Value}(hv:LRel γ (Dom lk) w (Owned B lk) (.rf r) [v]){O:Nat→Prop}:
  OwnS w (DRel w O true u) u.sz xs v (B r)∧γ r= .row v u:=by
 simp only[LRel]at hv
 obtain⟨_,v',t',e1,e2,_⟩:=hv
 simp only[List.cons.injEq,and_true]at e2
 subst e2
 obtain⟨v',e,h|h⟩:=(hM.rel r _ hx).row
 ·rw[e1]at e;cases e
  refine⟨h.2.step (fun _ _=>rfl) (Nat.le_refl _) (fun x c b _ _ hr=>?_),e1⟩
  cases hd:m.deep
  ·rw[RowR.shal hd]at hr
   rw[hd]at hm
   simp only[Bool.false_or,Bool.and_eq_true]at hm
   obtain⟨rfl,hr⟩:=hr
   exact(DRel.flat _ _ _ _ hm.1 hr).2
  ·rw[RowR.deep hd]at hr;exact hr.anyO
 ·rw[h.1]at hm;simp[Own.deep]at hm
def WsO(γ:Nat→G)(w w':World)(O:Nat→Prop):List Wb→List Dyn→List Nat→Prop
 |[],ds,bs=>ds=[]∧bs=[]
 | .gone _::ws,ds,bs=>WsO γ w w' O ws ds bs
 | .none_ t::ws,ds,bs=> ∃ds',ds=⟨.sl t,[]⟩::ds'∧WsO γ w w' O ws ds' bs
 | .row r u::ws,ds,bs=> ∃ys v ds' b1 b2,ds=⟨.sl u,ys⟩::ds'∧bs=b1++b2∧γ r= .row v u∧OwnS w' (DRel w' O true u) u.sz ys v b1∧WsO γ w w' O ws ds' b2
 | .nst r n k t::ws,ds,bs=> ∃ys v ds' b1 b2 b o,ds=⟨.sl t,ys⟩::ds'∧bs=b1++b2∧(γ r).at n k=some (b,o)∧w.cell? ⟨b,o,none⟩=some v∧OwnS w' (DRel w' O true t) t.sz ys v b1∧WsO γ w w' O ws ds' b2
 | .var r k t own _::ws,ds,bs=> ∃b o cs y b1 b2 ds',ds=⟨t,y⟩::ds'∧bs=(b::b1)++b2∧(γ r).at 0 k=some (b,o)∧w'.rangeAt b o cs∧w'.there b o t.sz∧DRel w' O own t y cs b1∧
   (∀j,j<o∨o+t.sz≤j→(w'.cell? ⟨b,j,none⟩,w'.frozen? ⟨b,j,none⟩)=(w.cell? ⟨b,j,none⟩,w.frozen? ⟨b,j,none⟩))∧WsO γ w w' O ws ds' b2
theorem WsO.append{w':World}{O:Nat→Prop}: ∀{a b:List Wb} {ds ds':List Dyn} {bs bs':List Nat},WsO γ w w' O a ds bs→WsO γ w w' O b ds' bs'→WsO γ w w' O (a++b) (ds++ds') (bs++bs')
 |[],_,_,_,_,_,⟨h1,h2⟩,h=>by rw[h1,h2];exact h
 | .gone _::a,_,_,_,_,_,h,k=>WsO.append (a:=a) h k
 | .none_ t::a,_,_,_,_,_,⟨ds',e,h⟩,k=>⟨_,by rw[e];rfl,WsO.append h k⟩
 | .row r u::a,_,_,_,_,_,⟨ys,v,ds',b1,b2,e1,e2,h1,h2,h3⟩,k=>⟨ys,v,_,b1,_,by rw[e1];rfl,by rw[e2,List.append_assoc],h1,h2,WsO.append h3 k⟩
 | .nst r n k' t::a,_,_,_,_,_,⟨ys,v,ds',b1,b2,b,o,e1,e2,h1,h2,h3,h4⟩,k=>⟨ys,v,_,b1,_,b,o,by rw[e1];rfl,by rw[e2,List.append_assoc],h1,h2,h3,WsO.append h4 k⟩
 | .var r k' t own old::a,_,_,_,_,_,⟨b,o,cs,y,b1,b2,ds',e1,e2,h1,h2,h3,h4,h5,h6⟩,k=>⟨b,o,cs,y,b1,_,_,by rw[e1];rfl,by rw[e2,List.append_assoc],h1,h2,h3,h4,h5,WsO.append h6 k⟩
theorem OwnS.nilv{α:Type}{R:α→List Value→List Nat→Prop}{sz:Nat}{xs:List α}{bs:List Nat}(h:OwnS w R sz xs (.slice none 0 0) bs):xs=[]∧bs=[]:=by
 rcases h with⟨_,e,h1,h2⟩|⟨g,cap,cells,rest,e,_⟩
 ·exact⟨h1,h2⟩
 ·cases e
theorem wbs_sound(hM:Mem γ B w lk)(hS:Sub lkS lk){O:Nat→Prop}: ∀(t:Ty) (ps:List PV) (cs:List Value) (x:t.den) (rest rest':List PV) (ws:List Wb),(toL lkS t ps).run=some (x,rest)→(wbsW lkS t ps).run=some (ws,rest')→LL γ (Dom lk) w (Owned B lk) ps cs→t.arrOK=true→(wbRoots ws).Nodup→
  ∃c1 c2 bs,cs=c1++c2∧DRel w O true t x c1 bs∧LL γ (Dom lk) w (Owned B lk) rest c2∧rest'=rest∧Hand γ B w lk ws bs∧KnownW lk ws∧
   ∀(w':World) (O':Nat→Prop) outs bs',SlR w' O' t c1 outs bs'→WsO γ w w' O' ws outs bs'
 | .pair a b,ps,cs,x,rest,rest',ws,ht,hw,hl,ho,hn=>by
  simp only[Vm.toL,Out.bind_some,Out.ret_some,Prod.mk.injEq]at ht
  obtain⟨⟨x1,r1⟩,h1,⟨x2,r2⟩,h2,rfl,rfl⟩:=ht
  simp only[Vm.wbsW,Out.bind_some,Out.ret_some,Prod.mk.injEq]at hw
  obtain⟨⟨w1,q1⟩,k1,⟨w2,q2⟩,k2,rfl,rfl⟩:=hw
  simp only[Ty.arrOK,Bool.and_eq_true]at ho
  have hn':=hn
  rw[wbRoots_append,List.nodup_append]at hn'
  obtain⟨c1,c2,b1,e1,d1,l1,rfl,m1,n1,o1⟩:=wbs_sound hM hS (O:=O) a ps cs x1 r1 q1 w1 h1 k1 hl ho.1 hn'.1
  obtain⟨c3,c4,b2,e2,d2,l2,rfl,m2,n2,o2⟩:=wbs_sound hM hS (O:=O) b q1 c2 x2 r2 q2 w2 h2 k2 l1 ho.2 hn'.2.1
  refine⟨c1++c3,c4,b1++b2,by rw[e1,e2,List.append_assoc],⟨c1,c3,b1,b2,rfl,rfl,d1,d2⟩,l2,rfl,m1.append hM m2 n1 n2 hn,n1.append n2,?_⟩
  rintro w' O' outs bs' ⟨c,d,ds1,ds2,p,q,ec,hlc,rfl,rfl,s1,s2⟩
  obtain⟨rfl,rfl⟩:=List.append_inj ec (by rw[hlc];exact DRel.length _ _ _ _ d1)
  exact(o1 _ _ _ _ s1).append (o2 _ _ _ _ s2)
 | .st t,ps,cs,x,rest,rest',ws,ht,hw,hl,ho,hn=>
  wbs_sound hM hS t ps cs x rest rest' ws (by simpa only[Vm.toL]using ht) (by simpa only[Vm.wbsW]using hw) hl (by simpa[Ty.arrOK]using ho) hn
 | .unit,ps,cs,x,rest,rest',ws,ht,hw,hl,ho,hn=>by
  simp only[Vm.toL,Out.ret_some,Prod.mk.injEq]at ht
  simp only[Vm.wbsW,Out.ret_some,Prod.mk.injEq]at hw
  obtain⟨_,rfl⟩:=ht
  obtain⟨rfl,rfl⟩:=hw
  exact⟨[],cs,[],rfl,⟨rfl,rfl⟩,hl,rfl,⟨by simp,by simp,by simp⟩,by simp[KnownW,wbRoots],fun w' O' outs bs' h=>h⟩
 | .sl u,[],cs,x,rest,rest',ws,ht,hw,hl,ho,hn=>by simp[Vm.toL,Out.run]at ht
 | .sl u,p::ps,cs,x,rest,rest',ws,ht,hw,⟨c,c',e,hsz,hp,hl⟩,ho,hn=>by
  simp only[Vm.toL,Out.bind_some,Out.ret_some,Prod.mk.injEq]at ht
  obtain⟨⟨u',xs⟩,h1,ys,h2,rfl,rfl⟩:=ht
  obtain⟨e',h2⟩:=castL_some.1 h2
  dsimp only at e'
  subst e'
  obtain rfl:=h2
  simp only[Vm.wbsW,Out.bind_some,Out.ret_some,Prod.mk.injEq]at hw
  obtain⟨w1,k1,rfl,rfl⟩:=hw
  unfold Vm.wholeW at k1
  split at k1
  ·rename_i r
   split at k1
   ·rename_i u2 xs2 m hx
    simp only[Out.need_some,Out.ret_some]at k1
    obtain⟨hm,rfl⟩:=k1
    have hlr:=hp
    simp only[LRel]at hp
    obtain⟨hd,v,t',e1,e2,hone⟩:=hp
    subst e2
    simp only[Vm.sliceOf,rowL,hx,Out.ret_some,Sigma.mk.injEq]at h1
    obtain⟨rfl,h1⟩:=h1
    obtain rfl:=eq_of_heq h1
    obtain⟨ho1,hg⟩:=row_own (O:=O) hM (hS _ _ hx) hm hlr
    refine⟨[v],c',B r,e,⟨v,rfl,ho1⟩,hl,rfl,⟨hM.nodup r _ (hS _ _ hx),fun k hk=>⟨r,by simp[wbRoots],hk⟩,by simp⟩,fun s hs=>by
     obtain rfl:s=r:=by simpa[wbRoots]using hs
     exact⟨_,hS _ _ hx⟩,?_⟩
    rintro w' O' outs bs' ⟨v',ys,ev,rfl,hy⟩
    cases ev
    exact⟨ys,v,[],bs',[],rfl,by simp,hg,hy,rfl,rfl⟩
   ·simp[Out.run]at k1
  ·rename_i t2
   simp only[Out.ret_some]at k1
   subst k1
   simp only[LRel]at hp
   subst hp
   simp only[Vm.sliceOf,Out.ret_some,Sigma.mk.injEq]at h1
   obtain⟨rfl,h1⟩:=h1
   obtain rfl:=eq_of_heq h1
   refine⟨[_],c',[],e,⟨_,rfl,.inl ⟨none,rfl,rfl,rfl⟩⟩,hl,rfl,⟨by simp,by simp,by simp⟩,by simp[KnownW,wbRoots],?_⟩
   rintro w' O' outs bs' ⟨v',ys,ev,rfl,hy⟩
   cases ev
   obtain⟨rfl,rfl⟩:=hy.nilv
   exact⟨[],rfl,rfl,rfl⟩
  ·rename_i r n k
   split at k1
   ·rename_i u2 xs2 m hx
    split at k1
    ·rename_i t2 hnt
     simp only[Out.need_some,Out.ret_some]at k1
     obtain⟨hm,rfl⟩:=k1
     simp only[LRel]at hp
     obtain⟨hd,v,b,o,hat,hlt,hbut,hcell,ec,hone⟩:=hp
     subst ec
     simp only[Vm.sliceOf,placeS,hx,Out.need_some,Out.bind_some,nthO,Out.opt_some,Out.ret_some]at h1
     obtain⟨_,x2,⟨x3,hn2,e3⟩,hlist⟩:=h1
     subst e3
     have e4:=listD_nest _ _ _ _ hlist
     rw[hnt]at e4
     cases e4
     obtain⟨v0,hg,hh|hh⟩:=(hM.rel r _ (hS _ _ hx)).row
     ·have ho1:=hh.2
      rw[RowR.deep hm]at ho1
      obtain⟨g,v',b1,b2,b3,⟨l0,c0,ev0⟩,hcell',hB,hown,hclos⟩:=row_swap ho1 hn2 hlist
      have hat':=hat
      rw[hg]at hat'
      obtain⟨⟨l1,c1',ev1⟩,rfl⟩:=at_row hat'
      rw[ev0]at ev1
      cases ev1
      rw[hcell]at hcell'
      cases hcell'
      have hnd:=hM.nodup r _ (hS _ _ hx)
      rw[hB]at hnd
      refine⟨[v],c',b2,e,⟨v,rfl,hown.step (fun _ _=>rfl) (Nat.le_refl _) (fun x c b _ _ hr=>hr.anyO)⟩,hl,rfl,⟨(List.nodup_append.1 (List.nodup_append.1 hnd).1).2.1,fun k hk=>⟨r,by simp[wbRoots],by rw[hB];simp[hk]⟩,fun r' n' k' t' hmem=>?_⟩,fun s hs=>by
       obtain rfl:s=r:=by simpa[wbRoots]using hs
       exact⟨_,hS _ _ hx⟩,?_⟩
      ·simp only[List.mem_singleton,Wb.nst.injEq]at hmem
       obtain⟨rfl,rfl,rfl,rfl⟩:=hmem
       exact⟨b2,⟨_,xs2,m,_,v0,v,_,b3,_,_,hS _ _ hx,hm,hg,hn2,hB,hat,hcell,hclos⟩,fun j _ h=>h⟩
      ·rintro w' O' outs bs' ⟨v',ys,ev,rfl,hy⟩
       cases ev
       exact⟨ys,v,[],bs',[],_,_,rfl,by simp,hat,hcell,hy,rfl,rfl⟩
     ·rw[hh.1]at hm;simp[Own.deep]at hm
    ·simp[Out.run]at k1
   ·simp[Out.run]at k1
  ·simp[Out.run]at k1
 | .int k,[],_,_,_,_,_,ht,_,_,_,_| .bool,[],_,_,_,_,_,ht,_,_,_,_| .str,[],_,_,_,_,_,ht,_,_,_,_| .err,[],_,_,_,_,_,ht,_,_,_,_| .arr _ _,[],_,_,_,_,_,ht,_,_,_,_=>by simp[Vm.toL,Out.run]at ht
 | .ref,[],_,_,_,_,_,ht,_,_,_,_| .ref,_::_,_,_,_,_,_,ht,_,_,_,_=>by simp[Vm.toL,Out.run]at ht
 | .int k,p::ps,cs,x,rest,rest',ws,ht,hw,⟨c,c',e,hsz,hp,hl⟩,ho,hn=>by
  simp only[Vm.toL,Out.bind_some,Out.ret_some,Prod.mk.injEq]at ht
  obtain⟨y,hy,rfl,rfl⟩:=ht
  obtain rfl:=getSc_some.1 hy
  simp only[Vm.wbsW,Out.ret_some,Prod.mk.injEq]at hw
  obtain⟨rfl,rfl⟩:=hw
  simp only[LRel]at hp
  exact⟨c,c',[],e,(DRel.flat _ _ _ _ rfl hp.2).2,hl,rfl,⟨by simp,by simp,by simp⟩,by simp[KnownW,wbRoots],fun w' O' outs bs' h=>h⟩
 | .bool,p::ps,cs,x,rest,rest',ws,ht,hw,⟨c,c',e,hsz,hp,hl⟩,ho,hn=>by
  simp only[Vm.toL,Out.bind_some,Out.ret_some,Prod.mk.injEq]at ht
  obtain⟨y,hy,rfl,rfl⟩:=ht
  obtain rfl:=getSc_some.1 hy
  simp only[Vm.wbsW,Out.ret_some,Prod.mk.injEq]at hw
  obtain⟨rfl,rfl⟩:=hw
  simp only[LRel]at hp
  exact⟨c,c',[],e,(DRel.flat _ _ _ _ rfl hp.2).2,hl,rfl,⟨by simp,by simp,by simp⟩,by simp[KnownW,wbRoots],fun w' O' outs bs' h=>h⟩
 | .str,p::ps,cs,x,rest,rest',ws,ht,hw,⟨c,c',e,hsz,hp,hl⟩,ho,hn=>by
  simp only[Vm.toL,Out.bind_some,Out.ret_some,Prod.mk.injEq]at ht
  obtain⟨y,hy,rfl,rfl⟩:=ht
  obtain rfl:=getSc_some.1 hy
  simp only[Vm.wbsW,Out.ret_some,Prod.mk.injEq]at hw
  obtain⟨rfl,rfl⟩:=hw
  simp only[LRel]at hp
  exact⟨c,c',[],e,(DRel.flat _ _ _ _ rfl hp.2).2,hl,rfl,⟨by simp,by simp,by simp⟩,by simp[KnownW,wbRoots],fun w' O' outs bs' h=>h⟩
 | .err,p::ps,cs,x,rest,rest',ws,ht,hw,⟨c,c',e,hsz,hp,hl⟩,ho,hn=>by
  simp only[Vm.toL,Out.bind_some,Out.ret_some,Prod.mk.injEq]at ht
  obtain⟨y,hy,rfl,rfl⟩:=ht
  obtain rfl:=getSc_some.1 hy
  simp only[Vm.wbsW,Out.ret_some,Prod.mk.injEq]at hw
  obtain⟨rfl,rfl⟩:=hw
  simp only[LRel]at hp
  exact⟨c,c',[],e,(DRel.flat _ _ _ _ rfl hp.2).2,hl,rfl,⟨by simp,by simp,by simp⟩,by simp[KnownW,wbRoots],fun w' O' outs bs' h=>h⟩
 | .arr n t,p::ps,cs,x,rest,rest',ws,ht,hw,⟨c,c',e,hsz,hp,hl⟩,ho,hn=>by
  simp only[Vm.toL,Out.bind_some,Out.ret_some,Prod.mk.injEq]at ht
  obtain⟨y,hy,rfl,rfl⟩:=ht
  obtain rfl:=getSc_some.1 hy
  simp only[Vm.wbsW,Out.ret_some,Prod.mk.injEq]at hw
  obtain⟨rfl,rfl⟩:=hw
  simp only[LRel]at hp
  exact⟨c,c',[],e,(DRel.flat _ _ _ _ (by simpa[Ty.flat,Ty.arrOK]using ho) hp.2).2,hl,rfl,⟨by simp,by simp,by simp⟩,by simp[KnownW,wbRoots],fun w' O' outs bs' h=>h⟩
end
end Go.Vm
